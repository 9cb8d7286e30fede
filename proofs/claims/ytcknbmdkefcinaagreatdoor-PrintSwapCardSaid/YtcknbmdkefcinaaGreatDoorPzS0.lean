/-
  What is proved here: part 0 of the road to the claim (Globs, Abs, Lang, Rel, Sound, Sound2, Sound3, Sound4, Sound5, Sound6, Sound7, Sound8, Code, Flow, Call, Frame, Frame2).
  No conditions.
-/
import GoSem.Core.Value
import Derived.Lib.ItoaNum
import Derived.Orders
import Derived.Calls
import Derived.Below
import Derived.Laws.AppendOwn
import Derived.Deep.AppendSrc
import Derived.Laws.StructEq
import Derived.Laws.Slices
import Derived.Laws.Strings
import Derived.Laws.IdiomStrings
import Derived.Laws.BytesString
import Derived.Scope

set_option linter.unusedSimpArgs false
set_option linter.unusedVariables false

/-! Globs -/

namespace Go.Abs

def gPow : Nat := 1

def tabs (g : Nat) : Option (Array Value) := if g = gPow then some (Lib.pow10Tab.map fun z => Value.int .u64 z).toArray else none

theorem tabs_pow : tabs gPow = some (Lib.pow10Tab.map fun z => Value.int .u64 z).toArray := if_pos rfl

def byteT : TypeId := 5

end Go.Abs

/-! Abs -/

namespace Go.Abs

inductive Tag where
 | full
 | shared
 | tok (t : Nat) (byte : Bool := false)     -- 'byte': its row's block bears the bytes' type

inductive D where
 | junk
 | int (k : IntKind) (n : Int)
 | bool (b : Bool)
 | str (s : List UInt8)
 | nilp
 | ptr (o off : Nat)
 | cptr (row : List D) (off : Nat)
 | slice (g : Tag) (size : Nat) (rows : List (List D))
 | agg (cells : List D)
 | tuple (vs : List D)
 | val (v : Value)
 | selfp (T : TypeId) (o : Nat)

instance : Inhabited D := ⟨.junk⟩

structure Map where
 G : Nat → Nat → Option Value
 loc : Nat → Nat × Option TypeId
 be : Nat → Option (Nat × Nat × Nat)

def Map.mu (M : Map) (o : Nat) : Nat := (M.loc o).1
def Map.ty (M : Map) (o : Nat) : Option TypeId := (M.loc o).2

structure St where
 objs : List (List D)
 toks : List (Option Nat)

def zs (z : Nat) : Nat := if z = 0 then 1 else z
def bz (byte : Bool) (size : Nat) : Nat := match byte with | true => 0 | false => size

def TagOk (M : Map) (s : St) (g : Tag) (size len : Nat) (base : Option (Nat × Nat)) (cap : Nat) : Prop :=
 match g with
 | .full => cap = len
 | .shared => True
 | .tok t y => t < s.toks.length ∧ ∀ n, s.toks[t]? = some (some n) → len ≤ n ∧
     (len = n → (M.be t = none ∧ cap = 0 ∧ (y = true → base = none)) ∨ ∃ b, base = some (b, 0) ∧ M.be t = some (b, cap, bz y size))

inductive RD (M : Map) (s : St) : D → Value → Prop where
 | junk (v : Value) : RD M s .junk v
 | int (k : IntKind) (n : Int) : RD M s (.int k n) (.int k n)
 | bool (b : Bool) : RD M s (.bool b) (.bool b)
 | str (l : List UInt8) : RD M s (.str l) (.string ⟨⟨l⟩⟩)
 | nilp : RD M s .nilp (.pointer none)
 | ptr (o off : Nat) (h : o < s.objs.length) : RD M s (.ptr o off) (.pointer (some ⟨M.mu o, off, none⟩))
 | cptr (row : List D) (off b k : Nat) (h1 : ∀ (i : Nat) (d : D), row[i]? = some d → ∃ u, M.G b (k + i) = some u)
     (h2 : ∀ (i : Nat) (d : D) (u : Value), row[i]? = some d → M.G b (k + i) = some u → RD M s d u) :
     RD M s (.cptr row off) (.pointer (some ⟨b, k + off, none⟩))
 | snil (g : Tag) (size cap : Nat) (hc : cap = 0) (ht : TagOk M s g size 0 none cap) : RD M s (.slice g size []) (.slice none 0 cap)
 | semp (size : Nat) (a : Addr) (cap : Nat) : RD M s (.slice .shared size []) (.slice (some a) 0 cap)
 | slice (g : Tag) (size : Nat) (rows : List (List D)) (b k cap : Nat) (hl : rows.length ≤ cap)
     (hs : ∀ row ∈ rows, row.length = size)
     (h1 : ∀ (i : Nat) (row : List D) (j : Nat) (d : D), rows[i]? = some row → row[j]? = some d → ∃ u, M.G b (k + (i * size + j)) = some u)
     (h2 : ∀ (i : Nat) (row : List D) (j : Nat) (d : D) (u : Value), rows[i]? = some row → row[j]? = some d → M.G b (k + (i * size + j)) = some u → RD M s d u)
     (ht : TagOk M s g size rows.length (some (b, k)) cap) :
     RD M s (.slice g size rows) (.slice (some ⟨b, k, none⟩) rows.length cap)
 | agg (cells : List D) (vs : Array Value) (hl : cells.length = vs.size) (h1 : ∀ v ∈ vs, v.oneCell' = true)
     (h : ∀ (i : Nat) (d : D) (v : Value), cells[i]? = some d → vs[i]? = some v → RD M s d v) : RD M s (.agg cells) (.agg vs)
 | tuple (ds : List D) (vs : Array Value) (hl : ds.length = vs.size)
     (h : ∀ (i : Nat) (d : D) (v : Value), ds[i]? = some d → vs[i]? = some v → RD M s d v) : RD M s (.tuple ds) (.tuple vs)
 | val (v : Value) (h : v.oneCell' = true) : RD M s (.val v) v
 | selfp (T : TypeId) (o : Nat) (v : Value) (h : o < s.objs.length) (ht : M.ty o = some T) (hv : v = .pointer none ∨ v = .pointer (some ⟨M.mu o, 0, none⟩)) : RD M s (.selfp T o) v

structure Le (M : Map) (s : St) (M' : Map) (s' : St) : Prop where
 G : ∀ b o v, M.G b o = some v → M'.G b o = some v
 n : s.objs.length ≤ s'.objs.length
 loc : ∀ o, o < s.objs.length → M'.loc o = M.loc o
 t : s.toks.length ≤ s'.toks.length
 tk : ∀ t n', t < s.toks.length → s'.toks[t]? = some (some n') → ∃ n, s.toks[t]? = some (some n) ∧ n ≤ n' ∧ (n' = n → M'.be t = M.be t)

theorem Le.mu {M : Map} {s : St} {M' : Map} {s' : St} (h : Le M s M' s') : ∀ o, o < s.objs.length → M'.mu o = M.mu o := fun o ho => congrArg Prod.fst (h.loc o ho)
theorem Le.ty {M : Map} {s : St} {M' : Map} {s' : St} (h : Le M s M' s') : ∀ o, o < s.objs.length → M'.ty o = M.ty o := fun o ho => congrArg Prod.snd (h.loc o ho)

theorem Le.refl (M : Map) (s : St) : Le M s M s := ⟨fun _ _ _ h => h, Nat.le_refl _, fun _ _ => rfl, Nat.le_refl _, fun _ n _ h => ⟨n, h, Nat.le_refl _, fun _ => rfl⟩⟩

theorem Le.trans {M M' M'' : Map} {s s' s'' : St} (h : Le M s M' s') (k : Le M' s' M'' s'') : Le M s M'' s'' :=
 ⟨fun b o v e => k.G b o v (h.G b o v e), Nat.le_trans h.n k.n, fun o ho => (k.loc o (Nat.lt_of_lt_of_le ho h.n)).trans (h.loc o ho), Nat.le_trans h.t k.t,
  fun t n'' ht e => by
    obtain ⟨n', e', l, b⟩ := k.tk t n'' (Nat.lt_of_lt_of_le ht h.t) e
    obtain ⟨n, e'', l', b'⟩ := h.tk t n' ht e'
    refine ⟨n, e'', Nat.le_trans l' l, fun eq => ?_⟩
    have h1 : n' = n := by omega
    have h2 : n'' = n' := by omega
    rw [b h2, b' h1]⟩

theorem TagOk.mono {M M' : Map} {s s' : St} (h : Le M s M' s') {g : Tag} {size len cap : Nat} {base : Option (Nat × Nat)} (ht : TagOk M s g size len base cap) :
   TagOk M' s' g size len base cap := by
 cases g with
 | full => exact ht
 | shared => trivial
 | tok t y =>
   obtain ⟨hH, ht⟩ := ht
   refine ⟨Nat.lt_of_lt_of_le hH h.t, fun n' e' => ?_⟩
   obtain ⟨n, e, l, b⟩ := h.tk t n' hH e'
   obtain ⟨l', b'⟩ := ht n e
   refine ⟨Nat.le_trans l' l, fun eq => ?_⟩
   have h1 : n' = n := by omega
   have h2 : len = n := by omega
   rw [b h1]
   exact b' h2

theorem RD.mono {M M' : Map} {s s' : St} (h : Le M s M' s') {d : D} {v : Value} (r : RD M s d v) : RD M' s' d v := by
 induction r with
 | junk v => exact .junk v
 | int k n => exact .int k n
 | bool b => exact .bool b
 | str l => exact .str l
 | nilp => exact .nilp
 | ptr o off ho => rw [← h.mu o ho]; exact .ptr o off (Nat.lt_of_lt_of_le ho h.n)
 | cptr row off b k h1 h2 ih =>
   refine .cptr row off b k (fun i d e => ?_) (fun i d u e eu => ?_)
   · obtain ⟨u, hu⟩ := h1 i d e; exact ⟨u, h.G _ _ _ hu⟩
   · obtain ⟨u', hu⟩ := h1 i d e
     have := h.G _ _ _ hu
     rw [eu] at this
     cases this
     exact ih i d u e hu
 | snil g size cap hc ht => exact .snil g size cap hc (ht.mono h)
 | semp size a cap => exact .semp size a cap
 | slice g size rows b k cap hl hs h1 h2 ht ih =>
   refine .slice g size rows b k cap hl hs (fun i row j d e e2 => ?_) (fun i row j d u e e2 eu => ?_) (ht.mono h)
   · obtain ⟨u, hu⟩ := h1 i row j d e e2; exact ⟨u, h.G _ _ _ hu⟩
   · obtain ⟨u', hu⟩ := h1 i row j d e e2
     have := h.G _ _ _ hu
     rw [eu] at this
     cases this
     exact ih i row j d u e e2 hu
 | agg cells vs hl h1 _ ih => exact .agg cells vs hl h1 ih
 | tuple ds vs hl _ ih => exact .tuple ds vs hl ih
 | val v hv => exact .val v hv
 | selfp T o v ho ht hv => exact .selfp T o v (Nat.lt_of_lt_of_le ho h.n) (by rw [h.ty o ho]; exact ht) (by rw [h.mu o ho]; exact hv)

def St.live (s : St) (t : Nat) : Prop := ∃ n, s.toks[t]? = some (some n)

structure Rel (M : Map) (s : St) (w : World) : Prop where
 comm : ∀ b o v, M.G b o = some v → w.cell? ⟨b, o, none⟩ = some v ∧ v.oneCell' = true
 obj : ∀ (o : Nat) (ds : List D), s.objs[o]? = some ds → ∃ (vs : Array Value) (T : TypeId), w.heap[M.mu o]? = some (.cells vs T (0, 0)) ∧ vs.size = ds.length ∧
   ((∀ v ∈ vs, v.oneCell' = true) ∧ ∀ T', M.ty o = some T' → T' = T) ∧ ∀ (i : Nat) (d : D) (v : Value), ds[i]? = some d → vs[i]? = some v → RD M s d v
 objG : ∀ o, o < s.objs.length → ∀ off, M.G (M.mu o) off = none
 inj : ∀ o o', o < s.objs.length → o' < s.objs.length → M.mu o = M.mu o' → o = o'
 tok : ∀ t n, s.toks[t]? = some (some n) → (M.be t = none ∧ n = 0) ∨ ∃ (b cap z : Nat) (vs : Array Value) (T : TypeId), M.be t = some (b, cap, z) ∧
   w.heap[b]? = some (.cells vs T (0, 0)) ∧ vs.size = cap * zs z ∧ n ≤ cap ∧ (∀ off, n * zs z ≤ off → M.G b off = none) ∧ (z = 0 → T = byteT)
 tokObj : ∀ t b c z o, s.live t → M.be t = some (b, c, z) → o < s.objs.length → M.mu o ≠ b
 tokInj : ∀ t t' b c z c' z', s.live t → s.live t' → M.be t = some (b, c, z) → M.be t' = some (b, c', z') → t = t'

structure Ext (M : Map) (s : St) (w : World) (M' : Map) (s' : St) (w' : World) : Prop where
 le : Le M s M' s'
 kept : ∀ b, b < w.heap.size → (∀ o, o < s.objs.length → M.mu o ≠ b) → (∀ t c z, s.live t → M.be t ≠ some (b, c, z)) → w'.heap[b]? = w.heap[b]?
 newO : ∀ o, s.objs.length ≤ o → o < s'.objs.length → w.heap.size ≤ M'.mu o
 newT : ∀ t b c z, s'.live t → M'.be t = some (b, c, z) → (s.live t ∧ ∃ c' z', M.be t = some (b, c', z')) ∨ w.heap.size ≤ b
 newG : ∀ b o, M'.G b o ≠ M.G b o → w.heap.size ≤ b ∨ ∃ t c z, s.live t ∧ M.be t = some (b, c, z)
 size : w.heap.size ≤ w'.heap.size
 os : w'.os = w.os
 tape : w'.tape = w.tape
 output : w'.output = w.output

theorem Ext.refl (M : Map) (s : St) (w : World) : Ext M s w M s w :=
 ⟨Le.refl M s, fun _ _ _ _ => rfl, fun o h h' => by omega, fun t b c z h e => .inl ⟨h, c, z, e⟩, fun _ _ h => (h rfl).elim, Nat.le_refl _, rfl, rfl, rfl⟩

theorem Ext.trans {M M' M'' : Map} {s s' s'' : St} {w w' w'' : World} (h : Ext M s w M' s' w') (k : Ext M' s' w' M'' s'' w'') : Ext M s w M'' s'' w'' := by
 refine ⟨h.le.trans k.le, fun b hb ho ht => ?_, fun o h1 h2 => ?_, fun t b c z h1 e => ?_, fun b o hne => ?_, Nat.le_trans h.size k.size,
   k.os.trans h.os, k.tape.trans h.tape, k.output.trans h.output⟩
 · rw [k.kept b (Nat.lt_of_lt_of_le hb h.size) (fun o hH e => ?_) (fun t c z hH e => ?_), h.kept b hb ho ht]
   · rcases Nat.lt_or_ge o s.objs.length with h1 | h1
     · exact ho o h1 ((h.le.mu o h1).symm.trans e)
     · have := h.newO o h1 hH; omega
   · rcases h.newT t b c z hH e with ⟨h1, c', z', e'⟩ | h1
     · exact ht t c' z' h1 e'
     · omega
 · rcases Nat.lt_or_ge o s'.objs.length with h3 | h3
   · rw [k.le.mu o h3]; exact h.newO o h1 h3
   · exact Nat.le_trans h.size (k.newO o h3 h2)
 · rcases k.newT t b c z h1 e with ⟨h2, c', z', e'⟩ | h2
   · exact h.newT t b c' z' h2 e'
   · exact .inr (Nat.le_trans h.size h2)
 · by_cases e : M'.G b o = M.G b o
   · have : M''.G b o ≠ M'.G b o := fun e' => hne (e'.trans e)
     rcases k.newG b o this with h1 | ⟨t, c, z, h1, h2⟩
     · exact .inl (Nat.le_trans h.size h1)
     · rcases h.newT t b c z h1 h2 with ⟨h3, c', z', e'⟩ | h3
       · exact .inr ⟨t, c', z', h3, e'⟩
       · exact .inl h3
   · exact h.newG b o e

def Laid (M : Map) (s : St) (w : World) : Prop := ∀ g cs, tabs g = some cs →
 (∃ T fr, w.heap[g]? = some (.cells cs T fr)) ∧ (∀ o, o < s.objs.length → M.mu o ≠ g) ∧ ∀ t c z, s.live t → M.be t ≠ some (g, c, z)

theorem Laid.ext {M M' : Map} {s s' : St} {w w' : World} (h : Laid M s w) (e : Ext M s w M' s' w') : Laid M' s' w' := by
 intro g cs hg
 obtain ⟨⟨T, fr, h1⟩, h2, h3⟩ := h g cs hg
 have hH : g < w.heap.size := (Array.getElem?_eq_some_iff.1 h1).1
 refine ⟨⟨T, fr, by rw [e.kept g hH h2 h3]; exact h1⟩, fun o ho => ?_, fun t c z hl hb => ?_⟩
 · rcases Nat.lt_or_ge o s.objs.length with h4 | h4
   · rw [e.le.mu o h4]; exact h2 o h4
   · have := e.newO o h4 ho; omega
 · rcases e.newT t g c z hl hb with ⟨h4, c', z', h5⟩ | h4
   · exact h3 t c' z' h4 h5
   · omega

end Go.Abs

/-! Lang -/

namespace Go.Abs

abbrev Tm := List (Nat × D)

def Tm.get : Tm → Nat → D
 | [], _ => .junk
 | (k, d) :: r, t => if k = t then d else Tm.get r t

def Tm.set : Tm → Nat → D → Tm
 | [], t, d => [(t, d)]
 | (k, e) :: r, t, d => if k = t then (k, d) :: r else (k, e) :: Tm.set r t d

def Tm.put (tm : Tm) (dst : Option Nat) (d : D) : Tm :=
 match dst with
 | some t => tm.set t d
 | none => tm

inductive X where
 | s (t : Nat)
 | k (d : D)

def X.ev (tm : Tm) : X → D
 | .s t => tm.get t
 | .k d => d

inductive AO where
 | mv (x : X)
 | pick (c a b : X)
 | alloc (zero : List D)
 | box (x : X)
 | build (zero : List D) (parts : List (Nat × Nat × X))
 | bslice (zero : List D) (size n : Nat) (parts : List (Nat × X))
 | bslt (zero : List D) (size n : Nat) (parts : List (Nat × X))
 | frz (x : X)
 | load (x : X) (agg : Bool) (size : Nat)
 | store (p x : X) (size : Nat)
 | nilck (x : X)
 | bin (op : BinOp) (x y : X)
 | eqb (neg : Bool) (x y : X)
 | eqs (neg : Bool) (ks : List Nat) (x y : X)     -- the fields' kinds: 0 an integer, 1 a bool, 2 a text
 | eqp (neg : Bool) (x y : X)
 | un (op : UnOp) (x : X)
 | conv (k : IntKind) (x : X)
 | tostr (x : X)
 | tobytes (x : X)
 | slc (size : Nat) (x : X) (lo hi : Option X)
 | sslc (x : X) (lo hi : Option X)
 | faddr (x : X) (off : Nat)
 | fld (x : X) (off : Nat) (agg : Bool) (size : Nat)
 | iaddr (x i : X) (size : Nat)
 | sidx (x i : X)
 | ext (x : X) (i : Nat)
 | len (x : X)
 | slen (x : X)
 | app (size bytes : Nat) (x y : X)
 | mm (isMax : Bool) (x y : X)
 | allocB (zero : List D) (T : TypeId)     -- a new object whose first cell is to hold its own address
 | boxB (x : X) (T : TypeId)
 | appb (x y : X)                          -- bytes behind others
 | apps (x y : X)                          -- a text's bytes behind others

inductive AI where
 | nil (dst : Option Nat) (g : Option (Nat × Bool)) (neg : Bool) (x : X)     -- is a slice nil? (of an empty one nothing is known)
 | op (dst : Option Nat) (g : Option (Nat × Bool)) (o : AO)
 | call (dst : Option Nat) (g : Option (Nat × Bool)) (f : Nat) (xs : List X)

inductive AC where
 | skip
 | run (is : List AI)
 | par (is : List AI) (plan : List (Nat × Nat))
 | seq (a b : AC)
 | cond (x : X) (a b : AC)
 | block (id : Nat) (a : AC)
 | loop (a : AC)
 | exit (id : Nat)
 | scope (a : AC)
 | label (l : Nat)
 | goto (l : Nat)
 | ret

structure AF where
 ntmps : Nat
 results : List (Nat × Option (Bool × Nat))     -- a slot; or a slot that holds the address, whether an aggregate, how many cells
 body : AC

/-! ### Regions of open order -/

inductive AK where
 | pure
 | load
 | alloc
 | core
 deriving DecidableEq

def AO.kind : AO → AK
 | .alloc _ => .core
 | .box _ => .core
 | .bslt .. => .core
 | .frz _ => .core
 | .store .. => .core
 | .app .. => .core
 | .allocB .. => .core
 | .boxB .. => .core
 | .appb .. => .core
 | .apps .. => .core
 | .load .. => .load
 | _ => .pure

def AI.kind : AI → AK
 | .op (some _) none (.alloc _) => .alloc
 | .op _ _ o => o.kind
 | _ => .core

def AI.dst : AI → Option Nat
 | .op d _ _ => d
 | .call d _ _ _ => d
 | .nil d _ _ _ => d

def X.reads : X → List Nat
 | .s t => [t]
 | .k _ => []

def readsL : List X → List Nat
 | [] => []
 | x :: r => x.reads ++ readsL r

def readsO : Option X → List Nat
 | none => []
 | some x => x.reads

def AO.reads : AO → List Nat
 | .mv x => x.reads
 | .pick c a b => c.reads ++ (a.reads ++ b.reads)
 | .alloc _ => []
 | .box x => x.reads
 | .build _ ps => readsL (ps.map (·.2.2))
 | .bslice _ _ _ ps => readsL (ps.map (·.2))
 | .bslt _ _ _ ps => readsL (ps.map (·.2))
 | .frz x => x.reads
 | .load x _ _ => x.reads
 | .store p x _ => p.reads ++ x.reads
 | .nilck x => x.reads
 | .bin _ x y => x.reads ++ y.reads
 | .eqb _ x y => x.reads ++ y.reads
 | .eqs _ _ x y => x.reads ++ y.reads
 | .eqp _ x y => x.reads ++ y.reads
 | .un _ x => x.reads
 | .conv _ x => x.reads
 | .tostr x => x.reads
 | .tobytes x => x.reads
 | .slc _ x lo hi => x.reads ++ (readsO lo ++ readsO hi)
 | .sslc x lo hi => x.reads ++ (readsO lo ++ readsO hi)
 | .faddr x _ => x.reads
 | .fld x _ _ _ => x.reads
 | .iaddr x i _ => x.reads ++ i.reads
 | .sidx x i => x.reads ++ i.reads
 | .ext x _ => x.reads
 | .len x => x.reads
 | .slen x => x.reads
 | .app _ _ x y => x.reads ++ y.reads
 | .mm _ x y => x.reads ++ y.reads
 | .allocB _ _ => []
 | .boxB x _ => x.reads
 | .appb x y => x.reads ++ y.reads
 | .apps x y => x.reads ++ y.reads

def readsG : Option (Nat × Bool) → List Nat
 | none => []
 | some (t, _) => [t]

def AI.reads : AI → List Nat
 | .op _ g o => readsG g ++ o.reads
 | .call _ g _ xs => readsG g ++ readsL xs
 | .nil _ g _ x => readsG g ++ x.reads

def offDst (d : Option Nat) (l : List Nat) : Bool :=
 match d with
 | none => true
 | some t => !l.contains t

def AI.apart (a q : AI) : Bool :=
 offDst a.dst q.reads && offDst q.dst a.reads && (match a.dst, q.dst with | some x, some y => x != y | _, _ => true)

def nthL (l : List (List Nat)) (i : Nat) : List Nat := l.getD i []

def kindAt (is : List AI) (i : Nat) : AK :=
 match is[i]? with
 | some a => a.kind
 | none => .core

def apartAt (is : List AI) (i j : Nat) : Bool :=
 match is[i]?, is[j]? with
 | some a, some b => a.apart b
 | _, _ => false

def isCore : AK → Bool
 | .core => true
 | .alloc => true
 | _ => false

def coresIn (is : List AI) (l : List Nat) : Nat := (l.filter fun i => isCore (kindAt is i)).length

def behindAll (is : List AI) (pq : List Nat) : List Nat → Bool
 | [] => true
 | a :: r => (!(kindAt is a == .alloc && pq.contains a) || r.all pq.contains) && behindAll is pq r

def stepOk (is : List AI) (pt : List (List Nat)) (pre : List Nat) (q b : Nat) : Bool :=
 match kindAt is q with
 | .core => pre.all (nthL pt q).contains
 | .alloc => pre.all fun a => apartAt is a q
 | .pure => (pre.all fun a => (nthL pt q).contains a || apartAt is a q) && behindAll is (nthL pt q) pre
 | .load => (pre.all fun a => (nthL pt q).contains a || apartAt is a q) && behindAll is (nthL pt q) pre &&
     decide (coresIn is (pre.filter fun a => !(nthL pt q).contains a) ≤ b)

def okR (is : List AI) (af pt : List (List Nat)) : List Nat → List (Nat × Nat) → Bool
 | _, [] => true
 | pre, (q, b) :: r => stepOk is pt pre q b && !pre.contains q && ((nthL af q).all fun j => j != q && !(r.map (·.1)).contains j) && okR is af pt (q :: pre) r

def depsOk (af pt : List (List Nat)) : Nat → Bool
 | 0 => true
 | i + 1 => ((nthL pt i).all fun j => (nthL af i).contains j || (nthL af i).any fun k => (nthL pt k).contains j) && depsOk af pt i

def planOk (is : List AI) (af pt : List (List Nat)) (plan : List (Nat × Nat)) : Bool :=
 depsOk af pt is.length && okR is af pt [] plan && (List.range is.length).all (plan.map (·.1)).contains && plan.all (fun p => decide (p.1 < is.length)) &&
   (List.range is.length).all fun i => (nthL af i).all fun j => decide (j < is.length)

def edgesOf (o : Oper) : List Nat := (o.after.toList.filter (Region.binds .any)).map (·.on)

def closeL : List (List Nat) → List (List Nat) → List (List Nat)
 | done, [] => done
 | done, es :: r => closeL (done ++ [(es.flatMap fun k => nthL done k).foldl (fun l j => if l.contains j then l else l ++ [j]) es]) r

def lateL (is : List AI) (pt : List (List Nat)) : List Nat → List Nat → List Nat → List Nat
 | [], rest, out => out ++ ((rest.filter fun j => kindAt is j == .alloc) ++ rest.filter fun j => !(kindAt is j == .alloc))
 | c :: cs, rest, out =>
   let need := rest.filter fun j => (nthL pt c).contains j
   lateL is pt cs (rest.filter fun j => !(need.contains j) && j != c) (out ++ ((need.filter fun j => kindAt is j == .alloc) ++ (need.filter fun j => !(kindAt is j == .alloc)) ++ [c]))

def backs (is : List AI) (pt : List (List Nat)) : List Nat → List Nat → List (Nat × Nat)
 | _, [] => []
 | pre, q :: r => (q, if kindAt is q == .load then coresIn is (pre.filter fun a => !(nthL pt q).contains a) else 0) :: backs is pt (q :: pre) r

def planOf (is : List AI) (af : List (List Nat)) : List (Nat × Nat) :=
 let pt := closeL [] af
 let all := List.range is.length
 backs is pt [] (lateL is pt (all.filter fun i => kindAt is i == .core) all [])

/-! ### How instructions reckon -/

def D.row : D → Option (List D)
 | .agg cs => some cs
 | .junk => none
 | .tuple _ => none
 | d => some [d]

def part (cs : List D) (off : Nat) (agg : Bool) (size : Nat) : Option D :=
 match agg with
 | true => if off + size ≤ cs.length then some (.agg ((cs.drop off).take size)) else none
 | false => cs[off]?

def splice (cs : List D) (off : Nat) (r : List D) : List D := cs.take off ++ r ++ cs.drop (off + r.length)

def fillD (cells : List D) : List (Nat × Nat × D) → Option (List D)
 | [] => some cells
 | (off, size, d) :: rest =>
   match d.row with
   | none => none
   | some r => if r.length = size ∧ off + size ≤ cells.length then fillD (splice cells off r) rest else none

def zeroRows (zero : List D) : Nat → List (List D)
 | 0 => []
 | n + 1 => zero :: zeroRows zero n

def fillRows (size : Nat) (rows : List (List D)) : List (Nat × D) → Option (List (List D))
 | [] => some rows
 | (i, d) :: rest =>
   match d.row with
   | none => none
   | some r => if r.length = size ∧ i < rows.length then fillRows size (rows.set i r) rest else none

def bytesLess : List UInt8 → List UInt8 → Bool := Op.bytesLess

def maxStr : Nat := 1099511627776

def binInt (op : BinOp) (k : IntKind) (a b : Int) : Option D :=
 match op with
 | .add => some (.int k (k.wrap (a + b)))
 | .sub => some (.int k (k.wrap (a - b)))
 | .mul => some (.int k (k.wrap (a * b)))
 | .quo => if b = 0 then none else some (.int k (k.wrap (a.tdiv b)))
 | .rem => if b = 0 then none else some (.int k (a.tmod b))
 | .eql => some (.bool (a == b))
 | .neq => some (.bool (a != b))
 | .lss => some (.bool (decide (a < b)))
 | .leq => some (.bool (decide (a ≤ b)))
 | .gtr => some (.bool (decide (a > b)))
 | .geq => some (.bool (decide (a ≥ b)))
 | _ => none

def binStr (op : BinOp) (a b : List UInt8) : Option D :=
 match op with
 | .add => if a.length + b.length ≤ maxStr then some (.str (a ++ b)) else none
 | .eql => some (.bool (a == b))
 | .neq => some (.bool (!(a == b)))
 | .lss => some (.bool (bytesLess a b))
 | _ => none

def binD (op : BinOp) (x y : D) : Option D :=
 match x, y with
 | .int k a, .int k' b => if k = k' then binInt op k a b else none
 | .str a, .str b => binStr op a b
 | _, _ => none

def cellEq : Nat → D → D → Option Bool
 | 0, .int k a, .int k' b => if k = k' then some (a == b) else none
 | 1, .bool a, .bool b => some (a == b)
 | 2, .str a, .str b => some (a == b)
 | _, _, _ => none

def cellsEq : List Nat → List D → List D → Option Bool
 | [], [], [] => some true
 | k :: ks, x :: xs, y :: ys =>
   match cellEq k x y with
   | none => none
   | some true => cellsEq ks xs ys
   | some false => some false
 | _, _, _ => none

def unD (op : UnOp) (x : D) : Option D :=
 match op, x with
 | .neg, .int k n => some (.int k (k.wrap (0 - n)))
 | .not, .bool b => some (.bool (!b))
 | _, _ => none

def byteOfRow : List D → Option UInt8
 | [.int .u8 n] => some (UInt8.ofNat n.toNat)
 | _ => none

def bytesOfRows : List (List D) → Option (List UInt8)
 | [] => some []
 | r :: rs =>
   match byteOfRow r, bytesOfRows rs with
   | some b, some bs => some (b :: bs)
   | _, _ => none

def Tag.cut (g : Tag) (whole : Bool) : Tag :=
 match g with
 | .full => if whole then .full else .shared
 | g => g

def loD (lo : Option D) : Option Int :=
 match lo with
 | none => some 0
 | some (.int _ n) => some n
 | _ => none

def hiD (hi : Option D) (len : Nat) : Option Int :=
 match hi with
 | none => some len
 | some (.int _ n) => some n
 | _ => none

def appD (size bytes : Nat) (x y : D) (s : St) : Option (D × St) :=
 match x, y with
 | .slice g z rows, .slice _ z' new =>
   if (rows = [] ∨ z = size) ∧ (new = [] ∨ z' = size) ∧ (rows.length + new.length) * (bytes + 1) ≤ maxStr then
     match new with
     | [] => some (.slice g z rows, s)
     | _ :: _ =>
       match g with
       | .full => some (.slice (.tok s.toks.length) size (rows ++ new), { s with toks := s.toks ++ [some (rows.length + new.length)] })
       | .shared => none
       | .tok _ true => none
       | .tok t false => if z = size ∧ s.toks[t]? = some (some rows.length) then some (.slice (.tok t) size (rows ++ new), { s with toks := s.toks.set t (some (rows.length + new.length)) }) else none
   else none
 | _, _ => none

def appB (x y : D) (s : St) : Option (D × St) :=
 match x, y with
 | .slice g z rows, .slice _ z' new =>
   if (rows = [] ∨ z = 1) ∧ (new = [] ∨ z' = 1) ∧ (rows.length + new.length) * 2 ≤ maxStr then
     match new with
     | [] => some (.slice g z rows, s)
     | _ :: _ =>
       match g with
       | .full => some (.slice (.tok s.toks.length true) 1 (rows ++ new), { s with toks := s.toks ++ [some (rows.length + new.length)] })
       | .shared => none
       | .tok t y => if z = 1 ∧ s.toks[t]? = some (some rows.length) then some (.slice (.tok t y) 1 (rows ++ new), { s with toks := s.toks.set t (some (rows.length + new.length)) }) else none
   else none
 | _, _ => none

def evalO (o : AO) (tm : Tm) (s : St) : Option (D × St) :=
 match o with
 | .mv x => some (x.ev tm, s)
 | .pick c a b =>
   match c.ev tm with
   | .bool t => some (if t then a.ev tm else b.ev tm, s)
   | _ => none
 | .alloc zero => some (.ptr s.objs.length 0, { s with objs := s.objs ++ [zero] })
 | .box x =>
   match (x.ev tm).row with
   | some r => some (.ptr s.objs.length 0, { s with objs := s.objs ++ [r] })
   | none => none
 | .build zero parts =>
   match fillD zero (parts.map fun p => (p.1, p.2.1, p.2.2.ev tm)) with
   | some cs => some (.agg cs, s)
   | none => none
 | .bslice zero size n parts =>
   match fillRows size (zeroRows zero n) (parts.map fun p => (p.1, p.2.ev tm)) with
   | some rows => some (.slice .full size rows, s)
   | none => none
 | .bslt zero size n parts =>
   match fillRows size (zeroRows zero n) (parts.map fun p => (p.1, p.2.ev tm)) with
   | some rows => some (.slice (.tok s.toks.length) size rows, { s with toks := s.toks ++ [some rows.length] })
   | none => none
 | .frz x =>
   match x.ev tm with
   | .slice (.tok t _) z rows => if rows ≠ [] ∧ s.toks[t]? = some (some rows.length) then some (.slice .shared z rows, { s with toks := s.toks.set t none }) else none
   | _ => none
 | .load x agg size =>
   match x.ev tm with
   | .ptr o off =>
     match s.objs[o]? with
     | some cs => match part cs off agg size with | some d => some (d, s) | none => none
     | none => none
   | .cptr row off => match part row off agg size with | some d => some (d, s) | none => none
   | _ => none
 | .store p x size =>
   match p.ev tm, (x.ev tm).row with
   | .ptr o off, some r =>
     match s.objs[o]? with
     | some cs => if r.length = size ∧ off + size ≤ cs.length then some (.tuple [], { s with objs := s.objs.set o (splice cs off r) }) else none
     | none => none
   | _, _ => none
 | .nilck x =>
   match x.ev tm with
   | .ptr o off => some (.ptr o off, s)
   | .cptr row off => some (.cptr row off, s)
   | _ => none
 | .bin op x y => match binD op (x.ev tm) (y.ev tm) with | some d => some (d, s) | none => none
 | .eqb neg x y =>
   match x.ev tm, y.ev tm with
   | .bool a, .bool b => some (.bool (if neg then !(a == b) else a == b), s)
   | _, _ => none
 | .eqs neg ks x y =>
   match x.ev tm, y.ev tm with
   | .agg a, .agg b => match cellsEq ks a b with | some e => some (.bool (if neg then !e else e), s) | none => none
   | _, _ => none
 | .eqp neg x y =>
   match x.ev tm, y.ev tm with
   | .nilp, .nilp => some (.bool (!neg), s)
   | .ptr _ _, .nilp => some (.bool neg, s)
   | .cptr _ _, .nilp => some (.bool neg, s)
   | _, _ => none
 | .un op x => match unD op (x.ev tm) with | some d => some (d, s) | none => none
 | .conv k x => match x.ev tm with | .int _ n => some (.int k (k.wrap n), s) | _ => none
 | .tostr x =>
   match x.ev tm with
   | .slice _ _ rows => match bytesOfRows rows with | some b => some (.str b, s) | none => none
   | _ => none
 | .tobytes x =>
   match x.ev tm with
   | .str l => some (.slice .shared 1 (l.map fun c => [.int .u8 c.toNat]), s)
   | _ => none
 | .slc size x lo hi =>
   match x.ev tm with
   | .slice g z rows =>
     match loD (lo.map (·.ev tm)), hiD (hi.map (·.ev tm)) rows.length with
     | some l, some h =>
       if (rows = [] ∨ z = size) ∧ 0 ≤ l ∧ l ≤ h ∧ h ≤ rows.length then
         some (.slice (if l = 0 then g.cut (h = rows.length) else .shared) z ((rows.take h.toNat).drop l.toNat), s) else none
     | _, _ => none
   | _ => none
 | .sslc x lo hi =>
   match x.ev tm with
   | .str t =>
     match loD (lo.map (·.ev tm)), hiD (hi.map (·.ev tm)) t.length with
     | some l, some h => if 0 ≤ l ∧ l ≤ h ∧ h ≤ t.length then some (.str ((t.take h.toNat).drop l.toNat), s) else none
     | _, _ => none
   | _ => none
 | .faddr x off =>
   match x.ev tm with
   | .ptr o k => some (.ptr o (k + off), s)
   | .cptr row k => some (.cptr row (k + off), s)
   | _ => none
 | .fld x off agg size =>
   match x.ev tm with
   | .agg cs => match part cs off agg size with | some d => some (d, s) | none => none
   | _ => none
 | .iaddr x i size =>
   match x.ev tm, i.ev tm with
   | .slice _ z rows, .int _ n =>
     if 0 ≤ n ∧ z = size then
       match rows[n.toNat]? with
       | some row => some (.cptr row 0, s)
       | none => none
     else none
   | _, _ => none
 | .sidx x i =>
   match x.ev tm, i.ev tm with
   | .str t, .int _ n =>
     if 0 ≤ n then
       match t[n.toNat]? with
       | some c => some (.int .u8 c.toNat, s)
       | none => none
     else none
   | _, _ => none
 | .ext x i =>
   match x.ev tm with
   | .tuple ds => match ds[i]? with | some d => some (d, s) | none => none
   | _ => none
 | .slen x =>
   match x.ev tm with
   | .str t => some (.int .i64 t.length, s)
   | _ => none
 | .len x =>
   match x.ev tm with
   | .slice _ _ rows => some (.int .i64 rows.length, s)
   | _ => none
 | .app size bytes x y => appD size bytes (x.ev tm) (y.ev tm) s
 | .mm isMax x y =>
   match x.ev tm, y.ev tm with
   | .int k a, .int k' b => if k = k' then some (.int k (if isMax then (if b > a then b else a) else (if b < a then b else a)), s) else none
   | _, _ => none
 | .allocB zero T =>
   match zero with
   | .nilp :: r => some (.ptr s.objs.length 0, { s with objs := s.objs ++ [.selfp T s.objs.length :: r] })
   | _ => none
 | .boxB x T =>
   match (x.ev tm).row with
   | some (.nilp :: r) => some (.ptr s.objs.length 0, { s with objs := s.objs ++ [.selfp T s.objs.length :: r] })
   | _ => none
 | .appb x y => appB (x.ev tm) (y.ev tm) s
 | .apps x y =>
   match y.ev tm with
   | .str l => appB (x.ev tm) (.slice .shared 1 (l.map fun c => [.int .u8 c.toNat])) s
   | _ => none

/-! ### How code is turned into it -/

def litBytes (b : ByteArray) : List UInt8 := b.data.toList

def litCell : Value → Option D
 | .int k n => some (.int k n)
 | .bool b => some (.bool b)
 | .string b => some (.str (litBytes b))
 | .pointer none => some .nilp
 | .slice none 0 0 => some (.slice .full 0 [])
 | .nilIface => some (.val .nilIface)
 | _ => none

def litCells : List Value → Option (List D)
 | [] => some []
 | v :: r => match litCell v, litCells r with | some d, some ds => some (d :: ds) | _, _ => none

def litCellV : Value → Option D
 | .slice none 0 0 => some (.val (.slice none 0 0))
 | v => litCell v

def litCellsV : List Value → Option (List D)
 | [] => some []
 | v :: r => match litCellV v, litCellsV r with | some d, some ds => some (d :: ds) | _, _ => none

def litD : Value → Option D
 | .agg cs => (litCells cs.toList).map .agg
 | .tuple ⟨[]⟩ => some (.tuple [])
 | v => litCell v

def cX : Operand → Option X
 | .tmp t => some (.s t)
 | .const v => (litD v).map .k
 | _ => none

def cXs : List Operand → Option (List X)
 | [] => some []
 | x :: r => match cX x, cXs r with | some d, some ds => some (d :: ds) | _, _ => none

def cXo : Option Operand → Option (Option X)
 | none => some none
 | some x => (cX x).map some

section
variable (P : Program)

def isAggT (t : TypeId) : Option Bool :=
 match P.underlying t with
 | some (.struct _) | some (.array _ _) => some true
 | some _ => some false
 | none => none

def zeroOf (t : TypeId) : Option (List D) :=
 match P.info? t with
 | some i => match i.zero with | some z => if z.cells.size = i.size then litCells z.cells.toList else none | none => none
 | none => none

def fieldAtT (t : TypeId) (f : Nat) : Option (Nat × Nat × Bool) :=
 match P.underlying t with
 | some (.struct fs) =>
   match fs[f]? with
   | some fd => match P.info? fd.type, isAggT P fd.type with
     | some i, some a => if i.size = 0 then none else some (fd.offset, i.size, a)
     | _, _ => none
   | none => none
 | _ => none

def selfT1 (t u : TypeId) : Bool :=
 match P.underlying u with
 | some (.pointer e) => e == t
 | _ => false
def selfT0 (t : TypeId) : Bool :=
 match P.underlying t with
 | some (.struct fs) =>
   match fs[0]? with
   | some f => selfT1 P t f.type
   | none => false
 | _ => false
def selfT (t : TypeId) : Bool :=
 match P.underlying t with
 | some (.struct fs) =>
   match fs[0]? with
   | some f => selfT1 P t f.type || selfT0 P f.type
   | none => false
 | _ => false

def litsB (self : Bool) (l : List Value) : Option (List D) := if self then litCellsV l else litCells l

def zeroB (t : TypeId) : Option (List D) :=
 match P.info? t with
 | some i => match i.zero with | some z => if z.cells.size = i.size then litsB (selfT P t) z.cells.toList else none | none => none
 | none => none

def cParts (t : TypeId) : List (Nat × Operand) → Option (List (Nat × Nat × X))
 | [] => some []
 | (i, x) :: r => match fieldAtT P t i, cX x, cParts t r with
   | some (off, size, _), some x', some r' => some ((off, size, x') :: r')
   | _, _, _ => none

def cIdx : List (Nat × Operand) → Option (List (Nat × X))
 | [] => some []
 | (i, x) :: r => match cX x, cIdx r with
   | some x', some r' => some ((i, x') :: r')
   | _, _ => none

def kindOf (t : TypeId) : Option Nat :=
 match P.underlying t with
 | some (.int _) => some 0
 | some .bool => some 1
 | some .string => some 2
 | _ => none

def kindsOf : Nat → List Field → Option (List Nat)
 | _, [] => some []
 | n, f :: fs =>
   if f.offset = n ∧ f.name ≠ "_" then
     match kindOf P f.type, kindsOf (n + 1) fs with
     | some k, some ks => some (k :: ks)
     | _, _ => none
   else none

def plainStruct (t : TypeId) : Option (List Nat) :=
 match P.underlying t with
 | some (.struct fs) => if P.eqGuardType P.depth t = false ∧ P.stoodInHeld t = false then kindsOf P 0 fs.toList else none
 | _ => none

def cOp (o : Oper) : Option AO :=
 match o.op with
 | .move x | .assign x => (cX x).map .mv
 | .pick c a b => match cX c, cX a, cX b with | some c, some a, some b => some (.pick c a b) | _, _, _ => none
 | .alloc t => if selfT P t then (zeroB P t).map (.allocB · t) else (zeroOf P t).map .alloc
 | .box t x => if selfT P t then (cX x).map (.boxB · t) else (cX x).map .box
 | .build t parts =>
   match P.underlying t, zeroB P t, cParts P t parts.toList with
   | some (.struct fs), some z, some ps => if fs.toList.all fun f => (P.info? f.type).isSome then some (.build z ps) else none
   | _, _, _ => none
 | .buildSlice t n parts =>
   match P.underlying t with
   | some (.slice e) =>
     match P.info? e, zeroOf P e, cIdx parts.toList with
     | some i, some z, some ps => if 0 < i.size ∧ n * i.size ≤ 65536 then some (.bslice z i.size n ps) else none
     | _, _, _ => none
   | _ => none
 | .load t x =>
   match cX x, isAggT P t, P.info? t with
   | some x, some a, some i => some (.load x a i.size)
   | _, _, _ => none
 | .store t a x =>
   match cX a, cX x, P.info? t with
   | some a, some x, some i => some (.store a x i.size)
   | _, _, _ => none
 | .nilCheck x => (cX x).map .nilck
 | .binOp op t x y _ =>
   match cX x, cX y with
   | some x, some y =>
     match P.underlying t, op with
     | some (.int _), _ => some (.bin op x y)
     | some .string, _ => some (.bin op x y)
     | some .bool, .eql => some (.eqb false x y)
     | some .bool, .neq => some (.eqb true x y)
     | some (.pointer _), .eql => some (.eqp false x y)
     | some (.pointer _), .neq => some (.eqp true x y)
     | some (.struct _), .eql => (plainStruct P t).map (.eqs false · x y)
     | some (.struct _), .neq => (plainStruct P t).map (.eqs true · x y)
     | _, _ => none
   | _, _ => none
 | .unOp op _ x => (cX x).map (.un op)
 | .convert src dst x =>
   match cX x, P.underlying src, P.underlying dst with
   | some x, some (.int _), some (.int k) => some (.conv k x)
   | some x, some (.slice e), some .string => match P.underlying e with | some (.int .u8) => some (.tostr x) | _ => none
   | some x, some (.slice e), some (.slice _) => match P.underlying e with | some (.int .u8) => if src = dst then some (.frz x) else none | _ => none
   | some x, some .string, some (.slice e) => match P.underlying e, P.info? e with | some (.int .u8), some i => if i.size = 1 then some (.tobytes x) else none | _, _ => none
   | _, _, _ => none
 | .slice t x lo hi none =>
   match cX x, cXo lo, cXo hi, P.underlying t with
   | some x, some lo, some hi, some .string => some (.sslc x lo hi)
   | some x, some lo, some hi, some (.slice e) => match P.info? e with | some i => some (.slc i.size x lo hi) | none => none
   | _, _, _, _ => none
 | .fieldAddr t x f => match cX x, fieldAtT P t f with | some x, some (off, _, _) => some (.faddr x off) | _, _ => none
 | .field t x f => match cX x, fieldAtT P t f with | some x, some (off, size, a) => some (.fld x off a size) | _, _ => none
 | .indexAddr t x i =>
   match cX x, cX i, P.underlying t with
   | some x, some i, some (.slice e) => match P.info? e with | some j => if 0 < j.size then some (.iaddr x i j.size) else none | none => none
   | _, _, _ => none
 | .index t x i => match cX x, cX i, P.underlying t with | some x, some i, some .string => some (.sidx x i) | _, _, _ => none
 | .extract x i => (cX x).map (.ext · i)
 | .call { callee := .builtin .len, args, argTypes } =>
   match args.toList, argTypes.toList with
   | [x], [t] => match P.underlying t with
     | some .string => (cX x).map .slen
     | some (.slice _) => (cX x).map .len
     | _ => none
   | _, _ => none
 | .call { callee := .builtin .append, args, argTypes } =>
   match args.toList, argTypes.toList with
   | [x, y], [t, u] => match P.underlying t, P.underlying u, cX x, cX y with
     | some (.slice e), some (.slice _), some x, some y => match P.info? e, zeroOf P e with
       | some i, some _ => if 0 < i.size then some (if e = byteT ∧ i.size = 1 ∧ i.bytes = 1 then .appb x y else .app i.size i.bytes x y) else none
       | _, _ => none
     | some (.slice e), some .string, some x, some y => match P.info? e, zeroOf P e with
       | some i, some _ => if e = byteT ∧ i.size = 1 ∧ i.bytes = 1 then some (.apps x y) else none
       | _, _ => none
     | _, _, _, _ => none
   | _, _ => none
 | .call { callee := .builtin .max, args, .. } =>
   match args.toList with
   | [x, y] => match cX x, cX y with | some x, some y => some (.mm true x y) | _, _ => none
   | _ => none
 | .call { callee := .builtin .min, args, .. } =>
   match args.toList with
   | [x, y] => match cX x, cX y with | some x, some y => some (.mm false x y) | _, _ => none
   | _ => none
 | _ => none

def cGuard (ops : Array Oper) : Option (Nat × Bool) → Option (Option (Nat × Bool))
 | none => some none
 | some (j, b) =>
   match (ops[j]?).bind (·.dst) with
   | some t => some (some (t, b))
   | none => none

def enters (f : FuncId) : Bool :=
 match P.funcs[f]? with
 | some fn => fn.body.isSome && !(fn.name == "runtime.NumGoroutine")
 | none => false

def frozenIn (ops : Array Oper) (dst : Option Nat) : Bool :=
 ops.toList.any fun o => match o.op, dst with
   | .convert s d (.tmp t), some t' => t == t' && s == d
   | _, _ => false

def nilTest (o : Oper) : Option (Bool × X) :=
 match o.op with
 | .binOp op t x (.const (.slice none 0 0)) _ =>
   match P.underlying t, op, cX x with
   | some (.slice _), .eql, some x => some (false, x)
   | some (.slice _), .neq, some x => some (true, x)
   | _, _, _ => none
 | _ => none

def dstOk (nt : Nat) (dst : Option Nat) : Bool :=
 match dst with
 | some d => decide (d < nt)
 | none => true

def cBody (ops : Array Oper) (o : Oper) (g : Option (Nat × Bool)) : Option AI :=
 match o.op with
 | .call { callee := .value (.func f), args, .. } => if enters P f then (cXs args.toList).map (.call o.dst g f) else none
 | _ =>
   match nilTest P o with
   | some (neg, x) => some (.nil o.dst g neg x)
   | none =>
     match cOp P o with
     | some (.bslice z k n ps) => some (.op o.dst g (if frozenIn ops o.dst then .bslt z k n ps else .bslice z k n ps))
     | some ao => some (.op o.dst g ao)
     | none => none

def cI (nt : Nat) (ops : Array Oper) (o : Oper) : Option AI :=
 match cGuard ops o.guard with
 | none => none
 | some g => if dstOk nt o.dst = true then cBody P ops o g else none

def cIs (nt : Nat) (ops : Array Oper) : List Oper → Option (List AI)
 | [] => some []
 | o :: r => match cI P nt ops o, cIs nt ops r with | some i, some is => some (i :: is) | _, _ => none

def parOf (is : List AI) (af : List (List Nat)) : Option AC :=
 if planOk is af (closeL [] af) (planOf is af) then some (.par is (planOf is af)) else none

def cC (nt : Nat) : Code → Option AC
 | .skip => some .skip
 | .region _ ops false => (cIs P nt ops ops.toList).map .run
 | .region _ ops true => if P.follows .mixedOrders then (cIs P nt ops ops.toList).bind (parOf · (ops.toList.map edgesOf)) else none
 | .seq a b => match cC nt a, cC nt b with | some a, some b => some (.seq a b) | _, _ => none
 | .cond x a b => match cX x, cC nt a, cC nt b with | some x, some a, some b => some (.cond x a b) | _, _, _ => none
 | .block id a => (cC nt a).map (.block id)
 | .loop a => (cC nt a).map .loop
 | .exit id => some (.exit id)
 | .scope a => (cC nt a).map .scope
 | .label l => some (.label l)
 | .goto l => some (.goto l)
 | .ret => some .ret
 | _ => none

def cRes : List ResultVar → Option (List (Nat × Option (Bool × Nat)))
 | [] => some []
 | .tmp t :: r => (cRes r).map ((t, none) :: ·)
 | .cell a t :: r => match isAggT P t, P.info? t, cRes r with
   | some g, some i, some r' => some ((a, some (g, i.size)) :: r')
   | _, _, _ => none

def cF (fn : Func) : Option AF :=
 match fn.body with
 | some c => match cC P fn.ntmps c, cRes P fn.results.toList with
   | some b, some r => some ⟨fn.ntmps, r, b⟩
   | _, _ => none
 | none => none

end
end Go.Abs

/-! Rel -/

namespace Go.Abs

theorem cell?_row {w : World} {b : Nat} {vs : Array Value} {T : TypeId} {fr : Nat × Nat} (h : w.heap[b]? = some (.cells vs T fr)) (o : Nat) : w.cell? ⟨b, o, none⟩ = vs[o]? := by
 simp [World.cell?, h]

theorem lt_of_heap {w : World} {b : Nat} {o : Obj} (h : w.heap[b]? = some o) : b < w.heap.size := (Array.getElem?_eq_some_iff.1 h).1

section
variable {M : Map} {s : St} {w : World}

theorem Rel.G_lt (r : Rel M s w) {b o : Nat} {v : Value} (h : M.G b o = some v) : b < w.heap.size := World.block_lt_of_cell? w _ (r.comm b o v h).1

theorem Rel.G_new (r : Rel M s w) {b : Nat} (h : w.heap.size ≤ b) (o : Nat) : M.G b o = none := by
 cases e : M.G b o with
 | none => rfl
 | some v => have := r.G_lt e; omega

theorem Rel.mu_lt (r : Rel M s w) {o : Nat} (h : o < s.objs.length) : M.mu o < w.heap.size := by
 obtain ⟨vs, T, hh, _⟩ := r.obj o _ (List.getElem?_eq_getElem h)
 exact lt_of_heap hh

theorem Rel.be_lt (r : Rel M s w) {t b c z : Nat} (h : s.live t) (e : M.be t = some (b, c, z)) : b < w.heap.size := by
 obtain ⟨n, hn⟩ := h
 rcases r.tok t n hn with ⟨h1, _⟩ | ⟨b', cap, size, vs, T, h1, h2, _⟩
 · rw [e] at h1; cases h1
 · rw [e] at h1; cases h1; exact lt_of_heap h2

theorem Rel.of_heap (r : Rel M s w) {w' : World} (h : w'.heap = w.heap) : Rel M s w' := by
 refine ⟨fun b o v e => ?_, fun o ds e => ?_, r.objG, r.inj, fun t n e => ?_, r.tokObj, r.tokInj⟩
 · obtain ⟨h1, h2⟩ := r.comm b o v e
   refine ⟨?_, h2⟩
   rw [← h1]; simp [World.cell?, h]
 · rw [h]; exact r.obj o ds e
 · rw [h]; exact r.tok t n e

theorem Ext.of_heap {w' : World} (h : w'.heap = w.heap) (h1 : w'.os = w.os) (h2 : w'.tape = w.tape) (h3 : w'.output = w.output) : Ext M s w M s w' :=
 ⟨Le.refl M s, fun _ _ _ _ => by rw [h], fun o h h' => by omega, fun t b c z h e => .inl ⟨h, c, z, e⟩, fun _ _ h => (h rfl).elim, by rw [h]; exact Nat.le_refl _, h1, h2, h3⟩

/-! ### A new object -/

def Map.pushO (M : Map) (n b : Nat) (x : Option TypeId := none) : Map := { M with loc := fun o => if o = n then (b, x) else M.loc o }

theorem le_pushO (s : St) (b : Nat) (ds : List D) (x : Option TypeId := none) : Le M s (M.pushO s.objs.length b x) { s with objs := s.objs ++ [ds] } :=
 ⟨fun _ _ _ h => h, by simp, fun o ho => by simp [Map.pushO]; omega, Nat.le_refl _, fun t n _ h => ⟨n, h, Nat.le_refl _, fun _ => rfl⟩⟩

theorem Rel.pushOT (r : Rel M s w) (ds : List D) (vs : Array Value) (T : TypeId) (x : Option TypeId) (hx : ∀ T', x = some T' → T' = T) (hl : vs.size = ds.length) (h1 : ∀ v ∈ vs, v.oneCell' = true)
   (h2 : ∀ (i : Nat) (d : D) (v : Value), ds[i]? = some d → vs[i]? = some v → RD (M.pushO s.objs.length w.heap.size x) { s with objs := s.objs ++ [ds] } d v) :
   Rel (M.pushO s.objs.length w.heap.size x) { s with objs := s.objs ++ [ds] } (w.alloc (.cells vs T)) ∧
   Ext M s w (M.pushO s.objs.length w.heap.size x) { s with objs := s.objs ++ [ds] } (w.alloc (.cells vs T)) := by
 have le := le_pushO (M := M) s w.heap.size ds x
 have hmu : ∀ o, o < s.objs.length → (M.pushO s.objs.length w.heap.size x).mu o = M.mu o := le.mu
 have hnew : (M.pushO s.objs.length w.heap.size x).mu s.objs.length = w.heap.size := by simp [Map.pushO, Map.mu]
 have hnewT : (M.pushO s.objs.length w.heap.size x).ty s.objs.length = x := by simp [Map.pushO, Map.ty]
 refine ⟨⟨fun b o v e => ?_, fun o ds' e => ?_, fun o ho off => ?_, fun o o' ho ho' e => ?_, fun t n e => ?_, fun t b c z o hl e ho => ?_, fun t t' b c z c' z' h h' e e' => r.tokInj t t' b c z c' z' h h' e e'⟩, ?_⟩
 · obtain ⟨h3, h4⟩ := r.comm b o v e
   refine ⟨?_, h4⟩
   rw [World.cell?_alloc_lt]
   · exact h3
   · exact r.G_lt e
 · rcases Nat.lt_or_ge o s.objs.length with ho | ho
   · rw [List.getElem?_append_left ho] at e
     obtain ⟨vs', T', h3, h4, h5, h6⟩ := r.obj o ds' e
     refine ⟨vs', T', ?_, h4, ⟨h5.1, by rw [le.ty o ho]; exact h5.2⟩, fun i d v e1 e2 => (h6 i d v e1 e2).mono le⟩
     rw [hmu o ho, heap_alloc_old w _ _ (lt_of_heap h3)]; exact h3
   · rw [List.getElem?_append_right ho] at e
     have : o = s.objs.length := by
       have := (List.getElem?_eq_some_iff.1 e).1
       simp at this; omega
     subst this
     simp at e; subst e
     refine ⟨vs, T, ?_, hl, ⟨h1, by rw [hnewT]; exact hx⟩, fun i d v e1 e2 => h2 i d v e1 e2⟩
     rw [hnew, heap_alloc_new]
 · simp at ho
   rcases Nat.lt_or_ge o s.objs.length with h3 | h3
   · rw [hmu o h3]; exact r.objG o h3 off
   · have : o = s.objs.length := by omega
     subst this
     rw [hnew]; exact r.G_new (Nat.le_refl _) off
 · simp at ho ho'
   rcases Nat.lt_or_ge o s.objs.length with h3 | h3 <;> rcases Nat.lt_or_ge o' s.objs.length with h4 | h4
   · rw [hmu o h3, hmu o' h4] at e; exact r.inj o o' h3 h4 e
   · have : o' = s.objs.length := by omega
     subst this
     rw [hmu o h3, hnew] at e
     have := r.mu_lt h3; omega
   · have : o = s.objs.length := by omega
     subst this
     rw [hmu o' h4, hnew] at e
     have := r.mu_lt h4; omega
   · omega
 · rcases r.tok t n e with h3 | ⟨b, cap, size, vs', T', h3, h4, h5⟩
   · exact .inl h3
   · exact .inr ⟨b, cap, size, vs', T', h3, by rw [heap_alloc_old w _ _ (lt_of_heap h4)]; exact h4, h5⟩
 · simp at ho
   rcases Nat.lt_or_ge o s.objs.length with h3 | h3
   · rw [hmu o h3]; exact r.tokObj t b c z o hl e h3
   · have : o = s.objs.length := by omega
     subst this
     rw [hnew]
     have := r.be_lt hl e; omega
 · refine ⟨le, fun b hb _ _ => heap_alloc_old w _ b hb, fun o h3 h4 => ?_, fun t b c z h e => .inl ⟨h, c, z, e⟩, fun _ _ h => (h rfl).elim, by simp, rfl, rfl, rfl⟩
   simp at h4
   have : o = s.objs.length := by omega
   subst this
   rw [hnew]; exact Nat.le_refl _

theorem Rel.pushO (r : Rel M s w) (ds : List D) (vs : Array Value) (T : TypeId) (hl : vs.size = ds.length) (h1 : ∀ v ∈ vs, v.oneCell' = true)
   (h2 : ∀ (i : Nat) (d : D) (v : Value), ds[i]? = some d → vs[i]? = some v → RD M s d v) :
   Rel (M.pushO s.objs.length w.heap.size) { s with objs := s.objs ++ [ds] } (w.alloc (.cells vs T)) ∧
   Ext M s w (M.pushO s.objs.length w.heap.size) { s with objs := s.objs ++ [ds] } (w.alloc (.cells vs T)) :=
 r.pushOT ds vs T none (fun _ h => by cases h) hl h1 fun i d v e1 e2 => (h2 i d v e1 e2).mono (le_pushO s w.heap.size ds)

/-! ### A store into an object -/

theorem getElem?_splice (cs : List D) (off : Nat) (r : List D) (h : off + r.length ≤ cs.length) (i : Nat) :
   (splice cs off r)[i]? = if i < off then cs[i]? else if i < off + r.length then r[i - off]? else cs[i]? := by
 unfold splice
 have hl : (cs.take off).length = off := by simp; omega
 split
 · rename_i h1
   rw [List.append_assoc, List.getElem?_append_left (by omega), List.getElem?_take_of_lt h1]
 · rename_i h1
   rw [List.append_assoc, List.getElem?_append_right (by omega), hl]
   split
   · rename_i h2
     rw [List.getElem?_append_left (by omega)]
   · rename_i h2
     rw [List.getElem?_append_right (by omega), List.getElem?_drop]
     congr 1; omega

theorem length_splice (cs : List D) (off : Nat) (r : List D) (h : off + r.length ≤ cs.length) : (splice cs off r).length = cs.length := by
 unfold splice; simp; omega

theorem Rel.setO (P : Program) (r : Rel M s w) {o off : Nat} {cs : List D} (he : s.objs[o]? = some cs) (row : List D) (us : List Value) (hu : us.length = row.length) (hfit : off + row.length ≤ cs.length)
   (h1 : ∀ u ∈ us, u.oneCell' = true) (h2 : ∀ (i : Nat) (d : D) (v : Value), row[i]? = some d → us[i]? = some v → RD M s d v) :
   ∃ w', (storeCells (⟨M.mu o, off, none⟩ : Addr) us).run P w = .ok () w' ∧ Rel M { s with objs := s.objs.set o (splice cs off row) } w' ∧ Ext M s w M { s with objs := s.objs.set o (splice cs off row) } w' := by
 obtain ⟨vs, T, hh, hs, ⟨hone, hty⟩, hrd⟩ := r.obj o cs he
 have ho : o < s.objs.length := (List.getElem?_eq_some_iff.1 he).1
 have hst := run_storeCells_at P (M.mu o) off T us 0 vs w hh (by omega) h1
 simp only [Nat.add_zero] at hst
 have le : Le M s M { s with objs := s.objs.set o (splice cs off row) } :=
   ⟨fun _ _ _ h => h, by simp, fun _ _ => rfl, Nat.le_refl _, fun t n _ h => ⟨n, h, Nat.le_refl _, fun _ => rfl⟩⟩
 generalize hnew : (vs.toList.take off ++ us ++ vs.toList.drop (off + us.length)).toArray = nvs at hst
 have hnsz : nvs.size = vs.size := by rw [← hnew]; simp; omega
 have hJ : ∀ i, nvs[i]? = if i < off then vs[i]? else if i < off + row.length then us[i - off]? else vs[i]? := by
   intro i
   rw [← hnew]
   simp only [List.getElem?_toArray]
   have hl : (vs.toList.take off).length = off := by simp; omega
   split
   · rename_i h3
     rw [List.append_assoc, List.getElem?_append_left (by omega), List.getElem?_take_of_lt h3]; simp
   · rename_i h3
     rw [List.append_assoc, List.getElem?_append_right (by omega), hl]
     split
     · rename_i h4
       rw [List.getElem?_append_left (by omega)]
     · rename_i h4
       rw [List.getElem?_append_right (by omega), List.getElem?_drop]
       rw [show off + us.length + (i - off - us.length) = i by omega]; simp
 have hheap : ∀ b, b ≠ M.mu o → (w.setRow (M.mu o) nvs).heap[b]? = w.heap[b]? := fun b hb => setRow_other w (M.mu o) b _ hb
 refine ⟨_, hst, ⟨fun b q v e => ?_, fun o' ds e => ?_, fun q hq off' => r.objG q (by simpa using hq) off', fun q q' hq hq' e => r.inj q q' (by simpa using hq) (by simpa using hq') e, fun t n e => ?_,
   fun t b c z q hl e hq => r.tokObj t b c z q hl e (by simpa using hq), fun t t' b c z c' z' h h' e e' => r.tokInj t t' b c z c' z' h h' e e'⟩, ?_⟩
 · obtain ⟨h3, h4⟩ := r.comm b q v e
   refine ⟨?_, h4⟩
   have hb : b ≠ M.mu o := fun eq => by subst eq; rw [r.objG o ho q] at e; cases e
   rw [← h3]
   simp [World.cell?, hheap b hb]
 · rw [List.getElem?_set] at e
   split at e
   · rename_i heq
     subst heq
     simp at e
     obtain ⟨_, rfl⟩ := e
     refine ⟨nvs, T, setRow_heap w (M.mu o) vs nvs T (0, 0) hh, by rw [hnsz, hs, length_splice cs off row hfit], ⟨fun v hv => ?_, hty⟩, fun i d v e1 e2 => ?_⟩
     · rw [← hnew] at hv
       simp at hv
       rcases hv with hv | hv | hv
       · exact hone v (Array.mem_toList_iff.1 (List.mem_of_mem_take hv))
       · exact h1 v hv
       · exact hone v (Array.mem_toList_iff.1 (List.mem_of_mem_drop hv))
     · rw [getElem?_splice cs off row hfit] at e1
       rw [hJ] at e2
       split at e1
       · rename_i h3; simp only [h3, if_true] at e2; exact (hrd i d v e1 e2).mono le
       · rename_i h3
         simp only [h3, if_false] at e2
         split at e1
         · rename_i h4; simp only [h4, if_true] at e2; exact (h2 _ d v e1 e2).mono le
         · rename_i h4; simp only [h4, if_false] at e2; exact (hrd i d v e1 e2).mono le
   · rename_i hne
     obtain ⟨vs', T', h3, h4, h5, h6⟩ := r.obj o' ds e
     have ho' : o' < s.objs.length := (List.getElem?_eq_some_iff.1 e).1
     refine ⟨vs', T', ?_, h4, h5, fun i d v e1 e2 => (h6 i d v e1 e2).mono le⟩
     rw [hheap _ (fun eq => hne (r.inj o o' ho ho' eq.symm))]; exact h3
 · rcases r.tok t n e with h3 | ⟨b, cap, size, vs', T', h3, h4, h5⟩
   · exact .inl h3
   · refine .inr ⟨b, cap, size, vs', T', h3, ?_, h5⟩
     rw [hheap b (fun eq => r.tokObj t b cap size o ⟨n, e⟩ h3 ho eq.symm)]; exact h4
 · refine ⟨le, fun b hb h3 _ => hheap b (fun eq => h3 o ho eq.symm), fun q h3 h4 => ?_, fun t b c z h e => .inl ⟨h, c, z, e⟩, fun _ _ h => (h rfl).elim, by simp, rfl, rfl, rfl⟩
   simp at h4; omega

/-! ### A new row, some of whose cells are fixed for good -/

def Map.commit (M : Map) (b n : Nat) (vs : Array Value) : Map := { M with G := fun b' o => if b' = b then (if o < n then vs[o]? else none) else M.G b' o }

theorem le_commit (r : Rel M s w) (n : Nat) (vs : Array Value) : Le M s (M.commit w.heap.size n vs) s :=
 ⟨fun b o v h => by
   have hb : b ≠ w.heap.size := fun e => by have := r.G_lt h; omega
   simp [Map.commit, hb, h], Nat.le_refl _, fun _ _ => rfl, Nat.le_refl _, fun t n _ h => ⟨n, h, Nat.le_refl _, fun _ => rfl⟩⟩

theorem Rel.commit (r : Rel M s w) (n : Nat) (vs : Array Value) (T : TypeId) (fr : Nat × Nat) (h1 : ∀ v ∈ vs, v.oneCell' = true) :
   Rel (M.commit w.heap.size n vs) s (w.alloc (.cells vs T fr)) ∧ Ext M s w (M.commit w.heap.size n vs) s (w.alloc (.cells vs T fr)) := by
 have le := le_commit r n vs
 have hold : ∀ b, b < w.heap.size → ∀ o, (M.commit w.heap.size n vs).G b o = M.G b o := fun b hb o => by
   have : b ≠ w.heap.size := by omega
   simp [Map.commit, this]
 refine ⟨⟨fun b o v e => ?_, fun o ds e => ?_, fun o ho off => ?_, r.inj, fun t k e => ?_, r.tokObj, r.tokInj⟩, ?_⟩
 · by_cases hb : b = w.heap.size
   · subst hb
     simp [Map.commit] at e
     obtain ⟨_, e⟩ := e
     refine ⟨by rw [cell?_row (heap_alloc_new w _)]; exact e, h1 v (Array.mem_of_getElem? e)⟩
   · simp [Map.commit, hb] at e
     obtain ⟨h3, h4⟩ := r.comm b o v e
     refine ⟨?_, h4⟩
     rw [World.cell?_alloc_lt]
     · exact h3
     · exact r.G_lt e
 · obtain ⟨vs', T', h3, h4, h5, h6⟩ := r.obj o ds e
   exact ⟨vs', T', by show (w.alloc _).heap[M.mu o]? = _; rw [heap_alloc_old w _ _ (lt_of_heap h3)]; exact h3, h4, h5, fun i d v e1 e2 => (h6 i d v e1 e2).mono le⟩
 · rw [hold]
   · exact r.objG o ho off
   · exact r.mu_lt ho
 · rcases r.tok t k e with h3 | ⟨b, cap, size, vs', T', h3, h4, h5, h6, h7⟩
   · exact .inl h3
   · exact .inr ⟨b, cap, size, vs', T', h3, by rw [heap_alloc_old w _ _ (lt_of_heap h4)]; exact h4, h5, h6, fun off ho => by rw [hold b (lt_of_heap h4)]; exact h7.1 off ho, h7.2⟩
 · refine ⟨le, fun b hb _ _ => heap_alloc_old w _ b hb, fun o h3 h4 => by omega, fun t b c z h e => .inl ⟨h, c, z, e⟩, fun b o h => ?_, by simp, rfl, rfl, rfl⟩
   rcases Nat.lt_or_ge b w.heap.size with hb | hb
   · exact (h (hold b hb o)).elim
   · exact .inl hb

/-! ### Tokens -/

def Map.setT (M : Map) (t : Nat) (x : Option (Nat × Nat × Nat)) : Map := { M with be := fun t' => if t' = t then x else M.be t' }

theorem Rel.pushT (r : Rel M s w) (n b cap size : Nat) (vs : Array Value) (T : TypeId) (hb : w.heap[b]? = some (.cells vs T (0, 0))) (hsz : vs.size = cap * zs size) (hn : n ≤ cap) (hy : size = 0 → T = byteT)
   (hG : ∀ off, n * zs size ≤ off → M.G b off = none) (ho : ∀ o, o < s.objs.length → M.mu o ≠ b) (ht : ∀ t c z, s.live t → M.be t ≠ some (b, c, z)) :
   Rel (M.setT s.toks.length (some (b, cap, size))) { s with toks := s.toks ++ [some n] } w ∧ Le M s (M.setT s.toks.length (some (b, cap, size))) { s with toks := s.toks ++ [some n] } := by
 have hlive : ∀ t, St.live { s with toks := s.toks ++ [some n] } t → s.live t ∨ t = s.toks.length := by
   rintro t ⟨k, hk⟩
   rcases Nat.lt_or_ge t s.toks.length with h | h
   · rw [List.getElem?_append_left h] at hk; exact .inl ⟨k, hk⟩
   · have := (List.getElem?_eq_some_iff.1 hk).1
     simp at this; exact .inr (by omega)
 have hH : ∀ t, s.live t → t < s.toks.length := fun t ⟨k, hk⟩ => (List.getElem?_eq_some_iff.1 hk).1
 have hold : ∀ t, t < s.toks.length → (M.setT s.toks.length (some (b, cap, size))).be t = M.be t := fun t h => by simp [Map.setT]; omega
 have hnew : (M.setT s.toks.length (some (b, cap, size))).be s.toks.length = some (b, cap, size) := by simp [Map.setT]
 have le : Le M s (M.setT s.toks.length (some (b, cap, size))) { s with toks := s.toks ++ [some n] } :=
   ⟨fun _ _ _ h => h, Nat.le_refl _, fun _ _ => rfl, by simp, fun t k h e => by
     rw [List.getElem?_append_left h] at e
     exact ⟨k, e, Nat.le_refl _, fun _ => hold t h⟩⟩
 refine ⟨⟨r.comm, fun o ds e => ?_, r.objG, r.inj, fun t k e => ?_, fun t b' c z o hl e ho' => ?_, fun t t' b' c z c' z' h h' e e' => ?_⟩, le⟩
 · obtain ⟨vs', T', h3, h4, h5, h6⟩ := r.obj o ds e
   exact ⟨vs', T', h3, h4, h5, fun i d v e1 e2 => (h6 i d v e1 e2).mono le⟩
 · rcases Nat.lt_or_ge t s.toks.length with h | h
   · rw [List.getElem?_append_left h] at e
     rw [hold t h]; exact r.tok t k e
   · have := (List.getElem?_eq_some_iff.1 e).1
     simp at this
     have : t = s.toks.length := by omega
     subst this
     simp at e; subst e
     exact .inr ⟨b, cap, size, vs, T, hnew, hb, hsz, hn, hG, hy⟩
 · rcases hlive t hl with h | h
   · rw [hold t (hH t h)] at e; exact r.tokObj t b' c z o h e ho'
   · subst h; rw [hnew] at e; cases e; exact ho o ho'
 · rcases hlive t h with h | h <;> rcases hlive t' h' with h' | h'
   · rw [hold t (hH t h)] at e; rw [hold t' (hH t' h')] at e'; exact r.tokInj t t' b' c z c' z' h h' e e'
   · subst h'; rw [hnew] at e'; cases e'; rw [hold t (hH t h)] at e; exact (ht t c z h e).elim
   · subst h; rw [hnew] at e; cases e; rw [hold t' (hH t' h')] at e'; exact (ht t' c' z' h' e').elim
   · omega

theorem Rel.moveT (r : Rel M s w) (t n n' b cap size : Nat) (vs : Array Value) (T : TypeId) (ht0 : s.toks[t]? = some (some n)) (hnn : n < n') (hb : w.heap[b]? = some (.cells vs T (0, 0))) (hsz : vs.size = cap * zs size) (hn : n' ≤ cap) (hy : size = 0 → T = byteT)
   (hG : ∀ off, n' * zs size ≤ off → M.G b off = none) (ho : ∀ o, o < s.objs.length → M.mu o ≠ b) (ht : ∀ t c z, s.live t → M.be t ≠ some (b, c, z)) :
   Rel (M.setT t (some (b, cap, size))) { s with toks := s.toks.set t (some n') } w ∧ Le M s (M.setT t (some (b, cap, size))) { s with toks := s.toks.set t (some n') } := by
 have htl : t < s.toks.length := (List.getElem?_eq_some_iff.1 ht0).1
 have hlive : ∀ q, St.live { s with toks := s.toks.set t (some n') } q → s.live q := by
   rintro q ⟨k, hk⟩
   rw [List.getElem?_set] at hk
   split at hk
   · rename_i h; subst h; exact ⟨n, ht0⟩
   · exact ⟨k, hk⟩
 have hold : ∀ q, q ≠ t → (M.setT t (some (b, cap, size))).be q = M.be q := fun q h => by simp [Map.setT, h]
 have hnew : (M.setT t (some (b, cap, size))).be t = some (b, cap, size) := by simp [Map.setT]
 have le : Le M s (M.setT t (some (b, cap, size))) { s with toks := s.toks.set t (some n') } :=
   ⟨fun _ _ _ h => h, Nat.le_refl _, fun _ _ => rfl, by simp, fun q k h e => by
     rw [List.getElem?_set] at e
     split at e
     · rename_i h2; subst h2
       simp at e; subst e
       exact ⟨n, ht0, by omega, fun h => by omega⟩
     · rename_i h2
       exact ⟨k, e, Nat.le_refl _, fun _ => hold q (fun h => h2 h.symm)⟩⟩
 refine ⟨⟨r.comm, fun o ds e => ?_, r.objG, r.inj, fun q k e => ?_, fun q b' c z o hl e ho' => ?_, fun q q' b' c z c' z' h h' e e' => ?_⟩, le⟩
 · obtain ⟨vs', T', h3, h4, h5, h6⟩ := r.obj o ds e
   exact ⟨vs', T', h3, h4, h5, fun i d v e1 e2 => (h6 i d v e1 e2).mono le⟩
 · rw [List.getElem?_set] at e
   split at e
   · rename_i h2; subst h2
     simp at e; subst e
     exact .inr ⟨b, cap, size, vs, T, hnew, hb, hsz, hn, hG, hy⟩
   · rename_i h2
     rw [hold q (fun h => h2 h.symm)]; exact r.tok q k e
 · by_cases h : q = t
   · subst h; rw [hnew] at e; cases e; exact ho o ho'
   · rw [hold q h] at e; exact r.tokObj q b' c z o (hlive q hl) e ho'
 · by_cases h1 : q = t <;> by_cases h2 : q' = t
   · omega
   · subst h1; rw [hnew] at e; cases e; rw [hold q' h2] at e'; exact (ht q' c' z' (hlive q' h') e').elim
   · subst h2; rw [hnew] at e'; cases e'; rw [hold q h1] at e; exact (ht q c z (hlive q h) e).elim
   · rw [hold q h1] at e; rw [hold q' h2] at e'; exact r.tokInj q q' b' c z c' z' (hlive q h) (hlive q' h') e e'

def Map.fix (M : Map) (b lo : Nat) (us : List Value) : Map :=
 { M with G := fun b' o => if b' = b ∧ lo ≤ o ∧ o < lo + us.length then us[o - lo]? else M.G b' o }

theorem Rel.growT (r : Rel M s w) (t n m b cap z size : Nat) (us : List Value) (hz : zs z = size) (ht0 : s.toks[t]? = some (some n)) (hbe : M.be t = some (b, cap, z)) (hus : us.length = m * size) (hroom : n + m ≤ cap) (hm : 0 < m)
   (h1 : ∀ u ∈ us, u.oneCell' = true) (vs : Array Value) (T : TypeId) (hh : w.heap[b]? = some (.cells vs T (0, 0))) (hsz : vs.size = cap * size) (hy : z = 0 → T = byteT) :
   Rel (M.fix b (n * size) us) { s with toks := s.toks.set t (some (n + m)) } (w.setRow b (vs.toList.take (n * size) ++ us ++ vs.toList.drop (n * size + us.length)).toArray) ∧
   Ext M s w (M.fix b (n * size) us) { s with toks := s.toks.set t (some (n + m)) } (w.setRow b (vs.toList.take (n * size) ++ us ++ vs.toList.drop (n * size + us.length)).toArray) := by
 have htl : t < s.toks.length := (List.getElem?_eq_some_iff.1 ht0).1
 have hlive0 : s.live t := ⟨n, ht0⟩
 have hfree : ∀ off, n * size ≤ off → M.G b off = none := by
   rcases r.tok t n ht0 with ⟨h3, _⟩ | ⟨b', cap', size', vs', T', h3, h4, h5, h6, h7⟩
   · rw [hbe] at h3; cases h3
   · rw [hbe] at h3; cases h3; rw [← hz]; exact h7.1
 have hfit : n * size + us.length ≤ vs.size := by rw [hus, hsz, ← Nat.add_mul]; exact Nat.mul_le_mul_right _ hroom
 have hlive : ∀ q, St.live { s with toks := s.toks.set t (some (n + m)) } q → s.live q := by
   rintro q ⟨k, hk⟩
   rw [List.getElem?_set] at hk
   split at hk
   · rename_i h; subst h; exact hlive0
   · exact ⟨k, hk⟩
 generalize hnew : (vs.toList.take (n * size) ++ us ++ vs.toList.drop (n * size + us.length)).toArray = nvs
 have hnsz : nvs.size = vs.size := by rw [← hnew]; simp; omega
 have hJ : ∀ i, nvs[i]? = if i < n * size then vs[i]? else if i < n * size + us.length then us[i - n * size]? else vs[i]? := by
   intro i
   rw [← hnew]
   simp only [List.getElem?_toArray]
   have hl : (vs.toList.take (n * size)).length = n * size := by simp; omega
   split
   · rename_i h3
     rw [List.append_assoc, List.getElem?_append_left (by omega), List.getElem?_take_of_lt h3]; simp
   · rename_i h3
     rw [List.append_assoc, List.getElem?_append_right (by omega), hl]
     split
     · rename_i h4
       rw [List.getElem?_append_left (by omega)]
     · rename_i h4
       rw [List.getElem?_append_right (by omega), List.getElem?_drop]
       rw [show n * size + us.length + (i - n * size - us.length) = i by omega]; simp
 have hrow : (w.setRow b nvs).heap[b]? = some (.cells nvs T (0, 0)) := setRow_heap w b vs nvs T (0, 0) hh
 have hheap : ∀ q, q ≠ b → (w.setRow b nvs).heap[q]? = w.heap[q]? := fun q hq => setRow_other w b q _ hq
 have le : Le M s (M.fix b (n * size) us) { s with toks := s.toks.set t (some (n + m)) } := by
   refine ⟨fun b' o v h => ?_, Nat.le_refl _, fun _ _ => rfl, by simp, fun q k h e => ?_⟩
   · show (if b' = b ∧ n * size ≤ o ∧ o < n * size + us.length then us[o - n * size]? else M.G b' o) = some v
     rw [if_neg]
     · exact h
     · rintro ⟨rfl, h3, _⟩; rw [hfree o h3] at h; cases h
   · rw [List.getElem?_set] at e
     split at e
     · rename_i h2; subst h2
       simp at e; subst e
       exact ⟨n, ht0, by omega, fun h => by omega⟩
     · exact ⟨k, e, Nat.le_refl _, fun _ => rfl⟩
 have hother : ∀ b' o, b' ≠ b → (M.fix b (n * size) us).G b' o = M.G b' o := fun b' o h => by simp [Map.fix, h]
 refine ⟨⟨fun b' o v e => ?_, fun o ds e => ?_, fun o ho off => ?_, r.inj, fun q k e => ?_, fun q b' c z o hl e ho' => r.tokObj q b' c z o (hlive q hl) e ho',
   fun q q' b' c z c' z' h h' e e' => r.tokInj q q' b' c z c' z' (hlive q h) (hlive q' h') e e'⟩, ?_⟩
 · by_cases hb : b' = b
   · subst hb
     rw [cell?_row hrow, hJ]
     have e' : (if b' = b' ∧ n * size ≤ o ∧ o < n * size + us.length then us[o - n * size]? else M.G b' o) = some v := e
     by_cases h3 : n * size ≤ o
     · by_cases h4 : o < n * size + us.length
       · rw [if_pos ⟨rfl, h3, h4⟩] at e'
         rw [if_neg (by omega), if_pos h4]
         exact ⟨e', h1 v (List.mem_of_getElem? e')⟩
       · rw [if_neg (fun h => h4 h.2.2), hfree o h3] at e'; cases e'
     · rw [if_neg (fun h => h3 h.2.1)] at e'
       obtain ⟨h5, h6⟩ := r.comm b' o v e'
       rw [cell?_row hh] at h5
       rw [if_pos (by omega)]
       exact ⟨h5, h6⟩
   · rw [hother b' o hb] at e
     obtain ⟨h5, h6⟩ := r.comm b' o v e
     refine ⟨?_, h6⟩
     rw [← h5]
     simp [World.cell?, hheap b' hb]
 · obtain ⟨vs', T', h3, h4, h5, h6⟩ := r.obj o ds e
   have ho : o < s.objs.length := (List.getElem?_eq_some_iff.1 e).1
   refine ⟨vs', T', ?_, h4, h5, fun i d v e1 e2 => (h6 i d v e1 e2).mono le⟩
   show (w.setRow b nvs).heap[M.mu o]? = _
   rw [hheap _ (r.tokObj t b cap z o hlive0 hbe ho)]; exact h3
 · show (M.fix b (n * size) us).G (M.mu o) off = none
   rw [hother _ _ (r.tokObj t b cap z o hlive0 hbe ho)]; exact r.objG o ho off
 · rw [List.getElem?_set] at e
   split at e
   · rename_i h2; subst h2
     simp at e; subst e
     refine .inr ⟨b, cap, z, nvs, T, hbe, hrow, by rw [hnsz, hsz, hz], hroom, fun off ho => ?_, hy⟩
     rw [hz] at ho
     show (if b = b ∧ n * size ≤ off ∧ off < n * size + us.length then us[off - n * size]? else M.G b off) = none
     rw [Nat.add_mul] at ho
     rw [if_neg (by rintro ⟨_, _, h⟩; omega)]
     exact hfree off (by omega)
   · rename_i h2
     rcases r.tok q k e with h3 | ⟨b', cap', size', vs', T', h3, h4, h5, h6, h7⟩
     · exact .inl h3
     · have hne : b' ≠ b := fun h => h2 (r.tokInj t q b cap z cap' size' hlive0 ⟨k, e⟩ hbe (by rw [h3, h]))
       exact .inr ⟨b', cap', size', vs', T', h3, by rw [hheap b' hne]; exact h4, h5, h6, fun off ho => by rw [hother b' off hne]; exact h7.1 off ho, h7.2⟩
 · refine ⟨le, fun q _ _ h4 => hheap q (fun h => h4 t cap z hlive0 (by rw [hbe, h])), fun o h3 h4 => by simp at h4; omega, fun q b' c z h e => .inl ⟨hlive q h, c, z, e⟩, fun b' o h => ?_, by simp, rfl, rfl, rfl⟩
   by_cases hb : b' = b
   · exact .inr ⟨t, cap, z, hlive0, by rw [hbe, hb]⟩
   · exact (h (hother b' o hb)).elim

theorem Rel.freeze (r : Rel M s w) {b : Nat} (off n : Nat) (ho : ∀ o, o < s.objs.length → M.mu o ≠ b) (ht : ∀ t c z, s.live t → M.be t ≠ some (b, c, z)) :
   Rel M s (w.freeze ⟨b, off, none⟩ n) ∧ (∀ q, q ≠ b → (w.freeze ⟨b, off, none⟩ n).heap[q]? = w.heap[q]?) ∧ (w.freeze ⟨b, off, none⟩ n).heap.size = w.heap.size ∧
   (w.freeze ⟨b, off, none⟩ n).os = w.os ∧ (w.freeze ⟨b, off, none⟩ n).tape = w.tape ∧ (w.freeze ⟨b, off, none⟩ n).output = w.output := by
 by_cases hn : n = 0
 · simp [World.freeze, hn, r]
 · have hh : ∀ q, q ≠ b → (w.freeze ⟨b, off, none⟩ n).heap[q]? = w.heap[q]? := fun q hq => by
     simp [World.freeze, hn, Array.getElem?_modify, Ne.symm hq]
   have hcell : ∀ q o, (w.freeze ⟨b, off, none⟩ n).cell? ⟨q, o, none⟩ = w.cell? ⟨q, o, none⟩ := by
     intro q o
     by_cases hq : q = b
     · subst hq
       unfold World.cell?
       simp only [World.freeze, hn, if_false, Array.getElem?_modify, if_true]
       cases h : w.heap[q]? with
       | none => rfl
       | some x => cases x <;> rfl
     · simp [World.cell?, hh q hq]
   refine ⟨⟨fun q o v e => ?_, fun o ds e => ?_, r.objG, r.inj, fun t k e => ?_, r.tokObj, r.tokInj⟩, hh, by simp [World.freeze, hn], by simp [World.freeze, hn], by simp [World.freeze, hn], by simp [World.freeze, hn]⟩
   · rw [hcell]; exact r.comm q o v e
   · rw [hh _ (ho o (List.getElem?_eq_some_iff.1 e).1)]; exact r.obj o ds e
   · rcases r.tok t k e with h3 | ⟨b', cap, size, vs, T, h3, h4, h5⟩
     · exact .inl h3
     · refine .inr ⟨b', cap, size, vs, T, h3, ?_, h5⟩
       rw [hh]
       · exact h4
       · rintro rfl; exact ht t cap size ⟨k, e⟩ h3

theorem Rel.dropT (r : Rel M s w) (t : Nat) : Rel M { s with toks := s.toks.set t none } w ∧ Le M s M { s with toks := s.toks.set t none } := by
 have hlive : ∀ q, St.live { s with toks := s.toks.set t none } q → s.live q := by
   rintro q ⟨k, hk⟩
   rw [List.getElem?_set] at hk
   split at hk
   · split at hk <;> simp at hk
   · exact ⟨k, hk⟩
 have htok : ∀ (q k : Nat), (s.toks.set t none)[q]? = some (some k) → s.toks[q]? = some (some k) := by
   intro q k e
   rw [List.getElem?_set] at e
   split at e
   · split at e <;> simp at e
   · exact e
 have le : Le M s M { s with toks := s.toks.set t none } :=
   ⟨fun _ _ _ h => h, Nat.le_refl _, fun _ _ => rfl, by simp, fun q k _ e => ⟨k, htok q k e, Nat.le_refl _, fun _ => rfl⟩⟩
 refine ⟨⟨r.comm, fun o ds e => ?_, r.objG, r.inj, fun q k e => r.tok q k (htok q k e), fun q b' c z o hl e ho' => r.tokObj q b' c z o (hlive q hl) e ho',
   fun q q' b' c z c' z' h h' e e' => r.tokInj q q' b' c z c' z' (hlive q h) (hlive q' h') e e'⟩, le⟩
 obtain ⟨vs', T', h3, h4, h5, h6⟩ := r.obj o ds e
 exact ⟨vs', T', h3, h4, h5, fun i d v e1 e2 => (h6 i d v e1 e2).mono le⟩

end
end Go.Abs

/-! Sound -/

namespace Go.Abs

section
variable {M : Map} {s : St} {w : World}

/-! ### Reading values -/

theorem RD.int_inv {k : IntKind} {n : Int} {v : Value} (h : RD M s (.int k n) v) : v = .int k n := by cases h; rfl
theorem RD.bool_inv {b : Bool} {v : Value} (h : RD M s (.bool b) v) : v = .bool b := by cases h; rfl
theorem RD.str_inv {l : List UInt8} {v : Value} (h : RD M s (.str l) v) : v = .string ⟨⟨l⟩⟩ := by cases h; rfl
theorem RD.nilp_inv {v : Value} (h : RD M s .nilp v) : v = .pointer none := by cases h; rfl
theorem RD.ptr_inv {o off : Nat} {v : Value} (h : RD M s (.ptr o off) v) : v = .pointer (some ⟨M.mu o, off, none⟩) ∧ o < s.objs.length := by
 cases h with | ptr _ _ h => exact ⟨rfl, h⟩
theorem RD.cptr_inv {row : List D} {off : Nat} {v : Value} (h : RD M s (.cptr row off) v) : ∃ b k, v = .pointer (some ⟨b, k + off, none⟩) ∧
   (∀ (i : Nat) (d : D), row[i]? = some d → ∃ u, M.G b (k + i) = some u) ∧ (∀ (i : Nat) (d : D) (u : Value), row[i]? = some d → M.G b (k + i) = some u → RD M s d u) := by
 cases h with | cptr _ _ b k h1 h2 => exact ⟨b, k, rfl, h1, h2⟩
theorem RD.agg_inv {ds : List D} {v : Value} (h : RD M s (.agg ds) v) : ∃ vs : Array Value, v = .agg vs ∧ ds.length = vs.size ∧ (∀ v ∈ vs, v.oneCell' = true) ∧
   ∀ (i : Nat) (d : D) (v : Value), ds[i]? = some d → vs[i]? = some v → RD M s d v := by
 cases h with | agg _ vs h1 h2 h3 => exact ⟨vs, rfl, h1, h2, h3⟩
theorem RD.tuple_inv {ds : List D} {v : Value} (h : RD M s (.tuple ds) v) : ∃ vs : Array Value, v = .tuple vs ∧ ds.length = vs.size ∧
   ∀ (i : Nat) (d : D) (v : Value), ds[i]? = some d → vs[i]? = some v → RD M s d v := by
 cases h with | tuple _ vs h1 h2 => exact ⟨vs, rfl, h1, h2⟩
theorem RD.undef : RD M s (.tuple []) Go.undef := .tuple [] #[] rfl (fun i d v h => by simp at h)

theorem RD.slice_inv {g : Tag} {z : Nat} {rows : List (List D)} {v : Value} (h : RD M s (.slice g z rows) v) :
   (rows = [] ∧ v = .slice none 0 0 ∧ TagOk M s g z 0 none 0) ∨ (rows = [] ∧ g = .shared ∧ ∃ a cap, v = .slice (some a) 0 cap) ∨
   ∃ b k cap, v = .slice (some ⟨b, k, none⟩) rows.length cap ∧ rows.length ≤ cap ∧ (∀ row ∈ rows, row.length = z) ∧
     (∀ (i : Nat) (row : List D) (j : Nat) (d : D), rows[i]? = some row → row[j]? = some d → ∃ u, M.G b (k + (i * z + j)) = some u) ∧
     (∀ (i : Nat) (row : List D) (j : Nat) (d : D) (u : Value), rows[i]? = some row → row[j]? = some d → M.G b (k + (i * z + j)) = some u → RD M s d u) ∧
     TagOk M s g z rows.length (some (b, k)) cap := by
 cases h with
 | snil _ _ cap hc ht => subst hc; exact .inl ⟨rfl, rfl, ht⟩
 | semp _ a cap => exact .inr (.inl ⟨rfl, rfl, a, cap, rfl⟩)
 | slice _ _ _ b k cap hl hs h1 h2 ht => exact .inr (.inr ⟨b, k, cap, rfl, hl, hs, h1, h2, ht⟩)

theorem RD.row {d : D} {v : Value} (h : RD M s d v) {r : List D} (hr : d.row = some r) : v.cells.size = r.length ∧ (∀ u ∈ v.cells, u.oneCell' = true) ∧
   ∀ (i : Nat) (d' : D) (u : Value), r[i]? = some d' → v.cells[i]? = some u → RD M s d' u := by
 have one : ∀ (x : Value), x.oneCell' = true → x.cells = #[x] := by intro x hx; cases x <;> first | rfl | (simp [Value.oneCell'] at hx)
 have go : ∀ (x : Value), x.oneCell' = true → RD M s d x → d.row = some [d] → x.cells.size = r.length ∧ (∀ u ∈ x.cells, u.oneCell' = true) ∧
     ∀ (i : Nat) (d' : D) (u : Value), r[i]? = some d' → x.cells[i]? = some u → RD M s d' u := by
   intro x hx hd h1
   rw [h1] at hr; cases hr
   rw [one x hx]
   refine ⟨rfl, by simp [hx], fun i d' u e1 e2 => ?_⟩
   cases i with
   | zero => simp at e1 e2; subst e1; subst e2; exact hd
   | succ i => simp at e1
 cases h with
 | junk v => cases hr
 | int k n => exact go _ rfl (.int k n) rfl
 | bool b => exact go _ rfl (.bool b) rfl
 | str l => exact go _ rfl (.str l) rfl
 | nilp => exact go _ rfl .nilp rfl
 | val v hv => exact go _ hv (.val v hv) rfl
 | selfp T o v h ht hv => exact go _ (by rcases hv with rfl | rfl <;> rfl) (.selfp T o v h ht hv) rfl
 | ptr o off h => exact go _ rfl (.ptr o off h) rfl
 | cptr row off b k h1 h2 => exact go _ rfl (.cptr row off b k h1 h2) rfl
 | snil g z cap hc ht => exact go _ rfl (.snil g z cap hc ht) rfl
 | semp z a cap => exact go _ rfl (.semp z a cap) rfl
 | slice g z rows b k cap hl hs h1 h2 ht => exact go _ rfl (.slice g z rows b k cap hl hs h1 h2 ht) rfl
 | agg cells vs hl h1 h2 => cases hr; exact ⟨hl.symm, h1, h2⟩
 | tuple ds vs hl h1 => cases hr

/-! ### Constants and slots -/

theorem litCell_sound {v : Value} {d : D} (h : litCell v = some d) : RD M s d v ∧ v.oneCell' = true := by
 unfold litCell at h
 split at h <;> first | (cases h; done) | skip
 · cases h; exact ⟨.int _ _, rfl⟩
 · cases h; exact ⟨.bool _, rfl⟩
 · cases h; exact ⟨.str _, rfl⟩
 · cases h; exact ⟨.nilp, rfl⟩
 · cases h; exact ⟨.snil _ _ 0 rfl rfl, rfl⟩
 · cases h; exact ⟨.val _ rfl, rfl⟩

theorem litCells_sound : ∀ {vs : List Value} {ds : List D}, litCells vs = some ds → ds.length = vs.length ∧ (∀ v ∈ vs, v.oneCell' = true) ∧
   ∀ (i : Nat) (d : D) (v : Value), ds[i]? = some d → vs[i]? = some v → RD M s d v
 | [], ds, h => by cases h; exact ⟨rfl, by simp, by simp⟩
 | v :: r, ds, h => by
   unfold litCells at h
   split at h
   · rename_i d ds' h1 h2
     cases h
     obtain ⟨a, b⟩ := litCell_sound (M := M) (s := s) h1
     obtain ⟨i1, i2, i3⟩ := litCells_sound h2
     refine ⟨by simp [i1], fun u hu => ?_, fun i d' u e1 e2 => ?_⟩
     · rcases List.mem_cons.1 hu with rfl | hu
       · exact b
       · exact i2 u hu
     · cases i with
       | zero => simp at e1 e2; subst e1; subst e2; exact a
       | succ i => simp at e1 e2; exact i3 i d' u e1 e2
   · cases h

theorem litCellV_sound {v : Value} {d : D} (h : litCellV v = some d) : RD M s d v ∧ v.oneCell' = true := by
 unfold litCellV at h
 split at h
 · cases h; exact ⟨.val _ rfl, rfl⟩
 · exact litCell_sound h
theorem litCellsV_sound : ∀ {vs : List Value} {ds : List D}, litCellsV vs = some ds → ds.length = vs.length ∧ (∀ v ∈ vs, v.oneCell' = true) ∧
   ∀ (i : Nat) (d : D) (v : Value), ds[i]? = some d → vs[i]? = some v → RD M s d v
 | [], ds, h => by cases h; exact ⟨rfl, by simp, by simp⟩
 | v :: r, ds, h => by
   unfold litCellsV at h
   split at h
   · rename_i d ds' h1 h2
     cases h
     obtain ⟨g1, g2⟩ := litCellV_sound (M := M) (s := s) h1
     obtain ⟨k1, k2, k3⟩ := litCellsV_sound h2
     refine ⟨by simp [k1], fun u hu => ?_, fun i d' u e1 e2 => ?_⟩
     · rcases List.mem_cons.1 hu with rfl | hu
       · exact g2
       · exact k2 u hu
     · cases i with
       | zero => simp at e1 e2; subst e1; subst e2; exact g1
       | succ i => exact k3 i d' u (by simpa using e1) (by simpa using e2)
   · cases h
theorem litsB_sound {b : Bool} {vs : List Value} {ds : List D} (h : litsB b vs = some ds) : ds.length = vs.length ∧ (∀ v ∈ vs, v.oneCell' = true) ∧
   ∀ (i : Nat) (d : D) (v : Value), ds[i]? = some d → vs[i]? = some v → RD M s d v := by
 unfold litsB at h
 split at h
 · exact litCellsV_sound h
 · exact litCells_sound h

theorem litD_sound {v : Value} {d : D} (h : litD v = some d) : RD M s d v := by
 unfold litD at h
 split at h
 · rename_i cs
   cases hc : litCells cs.toList with
   | none => rw [hc] at h; cases h
   | some ds =>
     rw [hc] at h; cases h
     obtain ⟨h1, h2, h3⟩ := litCells_sound (M := M) (s := s) hc
     exact .agg ds cs (by simpa using h1) (fun v hv => h2 v (by simpa using hv)) (fun i d v e1 e2 => h3 i d v e1 (by simpa using e2))
 · cases h; exact .undef
 · exact (litCell_sound h).1

def RTm (M : Map) (s : St) (tm : Tm) (tmps : Array Value) : Prop := ∀ t, RD M s (tm.get t) (tmps.getD t Go.undef)

theorem RTm.mono {M' : Map} {s' : St} {tm : Tm} {tmps : Array Value} (h : RTm M s tm tmps) (le : Le M s M' s') : RTm M' s' tm tmps := fun t => (h t).mono le

theorem cX_sound {x : Operand} {y : X} (h : cX x = some y) {tm : Tm} {act : Act} (hr : RTm M s tm act.tmps) : RD M s (y.ev tm) (act.eval x) := by
 unfold cX at h
 split at h
 · cases h; exact hr _
 · rename_i v
   cases hv : litD v with
   | none => rw [hv] at h; cases h
   | some d => rw [hv] at h; cases h; exact litD_sound hv
 · cases h

theorem Tm.get_set (tm : Tm) (t : Nat) (d : D) (u : Nat) : (tm.set t d).get u = if u = t then d else tm.get u := by
 induction tm with
 | nil =>
   simp only [Tm.set, Tm.get]
   by_cases h : t = u
   · simp [h]
   · rw [if_neg h, if_neg (fun e => h e.symm)]
 | cons p r ih =>
   obtain ⟨k, e⟩ := p
   simp only [Tm.set]
   split
   · rename_i h
     subst h
     simp only [Tm.get]
     by_cases h : k = u
     · simp [h]
     · rw [if_neg h, if_neg (fun e => h e.symm), if_neg h]
   · rename_i h
     simp only [Tm.get, ih]
     by_cases h1 : k = u
     · subst h1; simp [h]
     · simp [h1]

theorem RTm.put {tm : Tm} {act : Act} (h : RTm M s tm act.tmps) {dst : Option Nat} (hd : ∀ t, dst = some t → t < act.tmps.size) {d : D} {v : Value} (hv : RD M s d v) :
   RTm M s (tm.put dst d) (act.put dst v).tmps := by
 intro u
 cases dst with
 | none => exact h u
 | some t =>
   simp only [Tm.put, Act.put, Tm.get_set]
   have ht := hd t rfl
   by_cases hu : u = t
   · subst hu
     simp [ht]; exact hv
   · rw [if_neg hu]
     have := h u
     simpa [Array.getElem?_setIfInBounds_ne (fun e => hu e.symm)] using this

/-! ### Memory -/

theorem info_run (P : Program) {t : TypeId} {i : TypeInfo} (h : P.info? t = some i) (w : World) : (typeInfo t).run P w = .ok i w := by
 simp [typeInfo, h]

theorem addr_add (b o n : Nat) : Addr.add ⟨b, o, none⟩ n = ⟨b, o + n, none⟩ := Addr.add_lit b o n

theorem load_run (P : Program) {t : TypeId} {i : TypeInfo} {agg : Bool} (hi : P.info? t = some i) (ha : isAggT P t = some agg) (b k : Nat) (us : List Value)
   (hl : us.length = if agg then i.size else 1) (h : ∀ (j : Nat) (u : Value), us[j]? = some u → w.cell? ⟨b, k + j, none⟩ = some u) :
   (loadVar t ⟨b, k, none⟩).run P w = .ok (if agg then .agg us.toArray else us.getD 0 Go.undef) w := by
 have hagg : (isAgg t).run P w = .ok agg w := by
   unfold isAggT at ha
   unfold isAgg
   cases hu : P.underlying t with
   | none => rw [hu] at ha; cases ha
   | some d =>
     rw [hu] at ha
     simp only [Sem.run_bind, run_underlying hu, Result.andThen_ok]
     cases d <;> simp_all
 cases agg with
 | true =>
   simp only [if_true] at hl ⊢
   have hc := run_loadCells_list (P := P) w ⟨b, k, none⟩ us (fun j v e => by rw [addr_add]; exact h j v e)
   simp [loadVar, hagg, sizeOf, info_run P hi, ← hl, hc]
 | false =>
   simp only [Bool.false_eq_true, if_false] at hl ⊢
   match us, hl with
   | [u], _ =>
     have := h 0 u rfl
     simp only [Nat.add_zero] at this
     simp [loadVar, hagg, this]

theorem part_some {cs : List D} {off : Nat} {agg : Bool} {size : Nat} {d : D} (h : part cs off agg size = some d) :
   (agg = true ∧ off + size ≤ cs.length ∧ d = .agg ((cs.drop off).take size)) ∨ (agg = false ∧ cs[off]? = some d) := by
 unfold part at h
 split at h
 · split at h
   · cases h; exact .inl ⟨rfl, ‹_›, rfl⟩
   · cases h
 · exact .inr ⟨rfl, h⟩

theorem part_sound {cs : List D} {off size : Nat} {agg : Bool} {d : D} (h : part cs off agg size = some d) (us : List Value) (hl : us.length = if agg then size else 1)
   (hone : agg = true → ∀ u ∈ us, u.oneCell' = true)
   (hr : ∀ (j : Nat) (d : D) (u : Value), cs[off + j]? = some d → us[j]? = some u → RD M s d u) : RD M s d (if agg then .agg us.toArray else us.getD 0 Go.undef) := by
 rcases part_some h with ⟨rfl, h1, rfl⟩ | ⟨rfl, h1⟩
 · simp only [if_true] at hl ⊢
   refine .agg _ _ (by simp [hl]; omega) (fun v hv => hone rfl v (by simpa using hv)) (fun i d v e1 e2 => ?_)
   rw [List.getElem?_take] at e1
   split at e1
   · rw [List.getElem?_drop] at e1
     exact hr i d v e1 (by simpa using e2)
   · cases e1
 · simp only [Bool.false_eq_true, if_false] at hl ⊢
   match us, hl with
   | [u], _ => exact hr 0 d u (by simpa using h1) rfl

end
end Go.Abs

/-! Sound2 -/

namespace Go.Abs

def Does (P : Program) (M : Map) (s : St) (w : World) (x : Sem Next) (d : D) (s' : St) : Prop :=
 ∃ v w' M', (x.run P w = .ok (.value v) w' ∨ (x.run P w = .ok .skip w' ∧ v = Go.undef)) ∧ Rel M' s' w' ∧ RD M' s' d v ∧ Ext M s w M' s' w'

section
variable {P : Program} {M : Map} {s : St} {w : World}

theorem Does.pure {x : Sem Next} {d : D} {v : Value} (r : Rel M s w) (h : x.run P w = .ok (.value v) w) (hd : RD M s d v) : Does P M s w x d s :=
 ⟨v, w, M, .inl h, r, hd, Ext.refl M s w⟩

theorem does_alloc (r : Rel M s w) {t : TypeId} {z : List D} (hz : zeroOf P t = some z) :
   Does P M s w (do pure (.value (← Instr.alloc t true (.tuple #[])))) (.ptr s.objs.length 0) { s with objs := s.objs ++ [z] } := by
 unfold zeroOf at hz
 split at hz
 · rename_i i hi
   split at hz
   · rename_i v hv
     split at hz
     · rename_i hsz
       obtain ⟨h1, h2, h3⟩ := litCells_sound (M := M) (s := s) hz
       obtain ⟨r', e'⟩ := r.pushO z v.cells t (by rw [h1]; simp) (fun u hu => h2 u (by simpa using hu)) (fun i d u e1 e2 => h3 i d u e1 (by simpa using e2))
       refine ⟨_, _, _, .inl ?_, r', .ptr _ _ (by simp), e'⟩
       simp [Instr.alloc, zeroValue, info_run P hi, hv, newVar, newRow, Map.pushO, Map.mu]
     · cases hz
   · cases hz
 · cases hz

theorem does_allocB (r : Rel M s w) {t : TypeId} {z : List D} (hz : zeroB P t = some (.nilp :: z)) :
   Does P M s w (do pure (.value (← Instr.alloc t true (.tuple #[])))) (.ptr s.objs.length 0) { s with objs := s.objs ++ [.selfp t s.objs.length :: z] } := by
 unfold zeroB at hz
 split at hz
 · rename_i i hi
   split at hz
   · rename_i v hv
     split at hz
     · rename_i hsz
       obtain ⟨h1, h2, h3⟩ := litsB_sound (M := M) (s := s) hz
       obtain ⟨r', e'⟩ := r.pushOT (.selfp t s.objs.length :: z) v.cells t (some t) (fun _ h => by cases h; rfl) (by simp at h1 ⊢; omega) (fun u hu => h2 u (by simpa using hu)) (fun i d u e1 e2 => by
         cases i with
         | zero =>
           simp at e1; subst e1
           have := (h3 0 .nilp u rfl (by simpa using e2)).nilp_inv
           exact .selfp t _ u (by simp) (by simp [Map.pushO, Map.ty]) (.inl this)
         | succ i => exact (h3 (i + 1) d u (by simpa using e1) (by simpa using e2)).mono (le_pushO s w.heap.size _ _))
       refine ⟨_, _, _, .inl ?_, r', .ptr _ _ (by simp), e'⟩
       simp [Instr.alloc, zeroValue, info_run P hi, hv, newVar, newRow, Map.pushO, Map.mu]
     · cases hz
   · cases hz
 · cases hz

theorem does_box (r : Rel M s w) {t : TypeId} {d : D} {v : Value} {row : List D} (hd : RD M s d v) (hr : d.row = some row) :
   Does P M s w (do pure (.value (← Instr.box t v))) (.ptr s.objs.length 0) { s with objs := s.objs ++ [row] } := by
 obtain ⟨h1, h2, h3⟩ := hd.row hr
 obtain ⟨r', e'⟩ := r.pushO row v.cells t h1 h2 h3
 refine ⟨_, _, _, .inl ?_, r', .ptr _ _ (by simp), e'⟩
 simp [Instr.box, newVar, newRow, Map.pushO, Map.mu]

theorem does_boxB (r : Rel M s w) {t : TypeId} {d : D} {v : Value} {row : List D} (hd : RD M s d v) (hr : d.row = some (.nilp :: row)) :
   Does P M s w (do pure (.value (← Instr.box t v))) (.ptr s.objs.length 0) { s with objs := s.objs ++ [.selfp t s.objs.length :: row] } := by
 obtain ⟨h1, h2, h3⟩ := hd.row hr
 obtain ⟨r', e'⟩ := r.pushOT (.selfp t s.objs.length :: row) v.cells t (some t) (fun _ h => by cases h; rfl) (by simp at h1 ⊢; omega) h2 (fun i d u e1 e2 => by
   cases i with
   | zero =>
     simp at e1; subst e1
     have := (h3 0 .nilp u rfl e2).nilp_inv
     exact .selfp t _ u (by simp) (by simp [Map.pushO, Map.ty]) (.inl this)
   | succ i => exact (h3 (i + 1) d u (by simpa using e1) e2).mono (le_pushO s w.heap.size _ _))
 refine ⟨_, _, _, .inl ?_, r', .ptr _ _ (by simp), e'⟩
 simp [Instr.box, newVar, newRow, Map.pushO, Map.mu]

theorem does_load_obj (r : Rel M s w) {t : TypeId} {i : TypeInfo} {agg : Bool} (hi : P.info? t = some i) (ha : isAggT P t = some agg) {o off : Nat} {cs : List D} {d : D}
   (ho : s.objs[o]? = some cs) (hp : part cs off agg i.size = some d) :
   Does P M s w (do pure (.value (← Instr.loadAt t (.pointer (some ⟨M.mu o, off, none⟩))))) d s := by
 obtain ⟨vs, T, hh, hsz, ⟨hone, _⟩, hrd⟩ := r.obj o cs ho
 let n := if agg then i.size else 1
 have hfit : off + n ≤ vs.size := by
   rcases part_some hp with ⟨rfl, h1, _⟩ | ⟨rfl, h1⟩
   · simp [n]; omega
   · have := (List.getElem?_eq_some_iff.1 h1).1; simp [n]; omega
 have hlen : ((vs.toList.drop off).take n).length = n := by simp; omega
 have hJ : ∀ (j : Nat) (u : Value), ((vs.toList.drop off).take n)[j]? = some u → vs[off + j]? = some u := by
   intro j u h
   rw [List.getElem?_take] at h
   split at h
   · rw [List.getElem?_drop] at h; simpa using h
   · cases h
 have hrun := load_run (w := w) P hi ha (M.mu o) off ((vs.toList.drop off).take n) hlen (fun j u h => by rw [cell?_row hh]; exact hJ j u h)
 refine Does.pure (v := if agg then .agg ((vs.toList.drop off).take n).toArray else ((vs.toList.drop off).take n).getD 0 Go.undef) r (by simp [Instr.loadAt, Instr.sureAddr, hrun]) ?_
 refine part_sound hp _ hlen (fun _ u hu => hone u ?_) (fun j d u e1 e2 => hrd _ d u e1 (hJ j u e2))
 exact Array.mem_toList_iff.1 (List.mem_of_mem_drop (List.mem_of_mem_take hu))

theorem fixed_list {b : Nat} : ∀ (n k : Nat), (∀ j, j < n → ∃ u, M.G b (k + j) = some u) → ∃ us : List Value, us.length = n ∧ ∀ (j : Nat) (u : Value), us[j]? = some u → M.G b (k + j) = some u
 | 0, _, _ => ⟨[], rfl, fun j u h => by simp at h⟩
 | n + 1, k, h => by
   obtain ⟨u0, h0⟩ := h 0 (by omega)
   obtain ⟨us, h1, h2⟩ := fixed_list n (k + 1) (fun j hj => by obtain ⟨u, hu⟩ := h (j + 1) (by omega); exact ⟨u, by rw [show k + 1 + j = k + (j + 1) by omega]; exact hu⟩)
   refine ⟨u0 :: us, by simp [h1], fun j u hj => ?_⟩
   cases j with
   | zero => simp at hj; subst hj; exact h0
   | succ j => simp at hj; have := h2 j u hj; rw [show k + (j + 1) = k + 1 + j by omega]; exact this

theorem does_load_row (r : Rel M s w) {t : TypeId} {i : TypeInfo} {agg : Bool} (hi : P.info? t = some i) (ha : isAggT P t = some agg) {row : List D} {off b k : Nat} {d : D}
   (h1 : ∀ (i : Nat) (d : D), row[i]? = some d → ∃ u, M.G b (k + i) = some u) (h2 : ∀ (i : Nat) (d : D) (u : Value), row[i]? = some d → M.G b (k + i) = some u → RD M s d u)
   (hp : part row off agg i.size = some d) :
   Does P M s w (do pure (.value (← Instr.loadAt t (.pointer (some ⟨b, k + off, none⟩))))) d s := by
 let n := if agg then i.size else 1
 have hfit : off + n ≤ row.length := by
   rcases part_some hp with ⟨rfl, h1, _⟩ | ⟨rfl, h1⟩
   · simp [n]; omega
   · have := (List.getElem?_eq_some_iff.1 h1).1; simp [n]; omega
 obtain ⟨us, hl, hus⟩ := fixed_list (M := M) (b := b) n (k + off) (fun j hj => by
   obtain ⟨d, hd⟩ : ∃ d, row[off + j]? = some d := ⟨_, List.getElem?_eq_getElem (by omega)⟩
   obtain ⟨u, hu⟩ := h1 _ d hd
   exact ⟨u, by rw [show k + off + j = k + (off + j) by omega]; exact hu⟩)
 have hrun := load_run (w := w) P hi ha b (k + off) us hl (fun j u h => (r.comm _ _ _ (hus j u h)).1)
 refine Does.pure (v := if agg then .agg us.toArray else us.getD 0 Go.undef) r (by simp [Instr.loadAt, Instr.sureAddr, hrun]) ?_
 refine part_sound hp us hl (fun _ u hu => ?_) (fun j d u e1 e2 => h2 _ d u e1 (by rw [show k + (off + j) = k + off + j by omega]; exact hus j u e2))
 obtain ⟨j, hj⟩ := List.mem_iff_getElem?.1 hu
 exact (r.comm _ _ _ (hus j u hj)).2

theorem does_store (r : Rel M s w) {t : TypeId} {i : TypeInfo} (hi : P.info? t = some i) {o off : Nat} {cs row : List D} {d : D} {v : Value} (ho : s.objs[o]? = some cs)
   (hd : RD M s d v) (hr : d.row = some row) (hl : row.length = i.size) (hfit : off + i.size ≤ cs.length) :
   Does P M s w (do Instr.storeAt t (.pointer (some ⟨M.mu o, off, none⟩)) v; pure .skip) (.tuple []) { s with objs := s.objs.set o (splice cs off row) } := by
 obtain ⟨h1, h2, h3⟩ := hd.row hr
 obtain ⟨w', hrun, r', e'⟩ := r.setO P ho row v.cells.toList (by simpa using h1) (by rw [hl]; exact hfit) (fun u hu => h2 u (by simpa using hu)) (fun i d u e1 e2 => h3 i d u e1 (by simpa using e2))
 refine ⟨Go.undef, w', M, .inr ⟨?_, rfl⟩, r', .undef, e'⟩
 have hsz : v.cells.size = i.size := by omega
 simp [Instr.storeAt, Instr.sureAddr, storeVar, sizeOf, info_run P hi, hsz, hrun]

theorem does_nilck (r : Rel M s w) {d : D} {a : Addr} (hd : RD M s d (.pointer (some a))) :
   Does P M s w (pure (.value (.pointer (some a)))) d s := Does.pure r rfl hd

theorem faddr_run {t : TypeId} {f off size : Nat} {agg : Bool} (h : fieldAtT P t f = some (off, size, agg)) (b k : Nat) :
   (Instr.fieldAt t (.pointer (some ⟨b, k, none⟩)) f).run P w = .ok (.pointer (some ⟨b, k + off, none⟩)) w := by
 unfold fieldAtT at h
 split at h
 · rename_i fs hu
   split at h
   · rename_i fd hf
     split at h
     · rename_i i a hi ha
       split at h
       · cases h
       · rename_i hne
         cases h
         simp [Instr.fieldAt, run_underlying hu, hf, Instr.sureAddr, fieldPlace, sizeOf, info_run P hi, hne, addr_add]
     · cases h
   · cases h
 · cases h

theorem field_run {t : TypeId} {f off size : Nat} {agg : Bool} (h : fieldAtT P t f = some (off, size, agg)) (vs : Array Value) (us : List Value) (hl : us.length = if agg then size else 1)
   (hg : ∀ j, j < us.length → vs[off + j]? = us[j]?) :
   (Instr.field t (.agg vs) f).run P w = .ok (if agg then .agg us.toArray else us.getD 0 Go.undef) w := by
 unfold fieldAtT at h
 split at h
 · rename_i fs hu
   split at h
   · rename_i fd hf
     split at h
     · rename_i i a hi ha
       split at h
       · cases h
       · rename_i hne
         cases h
         have hagg : (isAgg fd.type).run P w = .ok agg w := by
           unfold isAggT at ha
           unfold isAgg
           cases hu : P.underlying fd.type with
           | none => rw [hu] at ha; cases ha
           | some d =>
             rw [hu] at ha
             simp only [Sem.run_bind, run_underlying hu, Result.andThen_ok]
             cases d <;> simp_all
         cases agg with
         | true =>
           simp only [if_true] at hl ⊢
           have : vs.extract fd.offset (fd.offset + i.size) = us.toArray := by
             apply Array.ext_getElem?
             intro j
             rw [Array.getElem?_extract]
             by_cases hj : j < us.length
             · rw [← hl, if_pos (by
                 have h1 := hg j hj
                 rw [List.getElem?_eq_getElem hj] at h1
                 have := (Array.getElem?_eq_some_iff.1 h1).1
                 have h2 := hg (us.length - 1) (by omega)
                 rw [List.getElem?_eq_getElem (by omega)] at h2
                 have := (Array.getElem?_eq_some_iff.1 h2).1
                 omega), hg j hj]
               simp
             · have hn : us.toArray[j]? = none := by simp; omega
               rw [hn, if_neg (by omega)]
           simp [Instr.field, run_underlying hu, hf, asAgg, Go.part, hagg, sizeOf, info_run P hi, this]
         | false =>
           simp only [Bool.false_eq_true, if_false] at hl ⊢
           match us, hl with
           | [u], _ =>
             have := hg 0 (by simp)
             simp at this
             simp [Instr.field, run_underlying hu, hf, asAgg, Go.part, hagg, this]
     · cases h
   · cases h
 · cases h

end
end Go.Abs

/-! Sound3 -/

namespace Go.Abs

section
variable {P : Program} {M : Map} {s : St} {w : World}

theorem binInt_run {op : BinOp} {t : TypeId} {k : IntKind} {a b : Int} {d : D} (h : binInt op k a b = some d) :
   ∃ v, (binOp op t (.int k a) (.int k b)).run P w = .ok v w ∧ RD M s d v := by
 cases op <;> simp only [binInt] at h <;> first
   | (cases h; done)
   | (split at h
      · cases h
      · cases h
        exact ⟨_, by simp [binOp, Op.intDiv, *], .int _ _⟩)
   | (cases h; exact ⟨_, by simp [binOp, Op.intArith], .int _ _⟩)
   | (cases h; exact ⟨_, by simp [binOp, Op.intCmp], .bool _⟩)

theorem binStr_run {op : BinOp} {t : TypeId} {a b : List UInt8} {d : D} (h : binStr op a b = some d) :
   ∃ v, (binOp op t (.string ⟨⟨a⟩⟩) (.string ⟨⟨b⟩⟩)).run P w = .ok v w ∧ RD M s d v := by
 have sz : ∀ l : List UInt8, (⟨⟨l⟩⟩ : ByteArray).size = l.length := fun _ => rfl
 cases op <;> simp only [binStr] at h <;> first
   | (cases h; done)
   | skip
 case add =>
   split at h
   · rename_i hl
     cases h
     refine ⟨.string ⟨⟨a ++ b⟩⟩, ?_, .str _⟩
     have h1 : ¬ ((((⟨⟨a⟩⟩ : ByteArray).size + (⟨⟨b⟩⟩ : ByteArray).size : Nat) : Int) > IntKind.i64.max) := by
       rw [sz, sz, IntKind.max_i64]; simp only [maxStr] at hl; omega
     simp only [binOp, Op.stringOp, h1, if_false]
     simp only [Sem.run_pure]
     congr 2
   · cases h
 case eql => cases h; exact ⟨_, by simp [binOp, Op.stringOp], .bool _⟩
 case neq => cases h; exact ⟨_, by simp [binOp, Op.stringOp], .bool _⟩
 case lss => cases h; exact ⟨_, by simp [binOp, Op.stringOp, bytesLess], .bool _⟩

theorem eqGuard_plain {op : BinOp} {t : TypeId} {x y : Operand} {a b : Value} (h : (∀ vs, a ≠ .agg vs) ∧ a ≠ .nilIface) : (eqGuard op t x y a b).run P w = .ok () w := by
 obtain ⟨h1, h2⟩ := h
 cases a <;> first
   | exact (h2 rfl).elim
   | exact (h1 _ rfl).elim
   | (cases op <;> simp [eqGuard])

theorem does_bin (r : Rel M s w) {op : BinOp} {t : TypeId} {x y : Operand} {dx dy d : D} {a b : Value} (ha : RD M s dx a) (hb : RD M s dy b) (h : binD op dx dy = some d) :
   Does P M s w (do pure (.value (← (do eqGuard op t x y a b; binOp op t a b)))) d s := by
 unfold binD at h
 split at h
 · rename_i k n k' m
   split at h
   · rename_i hk; subst hk
     rw [ha.int_inv, hb.int_inv]
     obtain ⟨v, hv, hd⟩ := binInt_run (P := P) (M := M) (s := s) (w := w) (t := t) h
     exact Does.pure r (by simp [eqGuard_plain (P := P) (w := w) (op := op) (t := t) (x := x) (y := y) (a := .int k n) (b := .int k m) ⟨by simp, by simp⟩, hv]) hd
   · cases h
 · rename_i l m
   rw [ha.str_inv, hb.str_inv]
   obtain ⟨v, hv, hd⟩ := binStr_run (P := P) (M := M) (s := s) (w := w) (t := t) h
   exact Does.pure r (by simp [eqGuard_plain (P := P) (w := w) (op := op) (t := t) (x := x) (y := y) (a := .string ⟨⟨l⟩⟩) (b := .string ⟨⟨m⟩⟩) ⟨by simp, by simp⟩, hv]) hd
 · cases h

theorem does_eqb (r : Rel M s w) {neg : Bool} {t : TypeId} {x y : Operand} {p q : Bool} (ht : P.underlying t = some .bool) :
   Does P M s w (do pure (.value (← (do eqGuard (if neg then .neq else .eql) t x y (.bool p) (.bool q); binOp (if neg then .neq else .eql) t (.bool p) (.bool q))))) (.bool (if neg then !(p == q) else p == q)) s := by
 refine Does.pure (v := .bool (if neg then !(p == q) else p == q)) r ?_ (.bool _)
 have hg := eqGuard_plain (P := P) (w := w) (op := if neg then .neq else .eql) (t := t) (x := x) (y := y) (a := .bool p) (b := .bool q) ⟨by simp, by simp⟩
 have he : (Op.equal t (.bool p) (.bool q)).run P w = .ok (p == q) w := by
   exact run_equalIn_bool w 9999 t p q ht
 cases neg
 · simp only [Bool.false_eq_true, if_false] at hg ⊢
   simp [hg, binOp, he]
 · simp only [if_true] at hg ⊢
   simp [hg, binOp, he]

theorem equalIn_nil (n : Nat) {t e : TypeId} {a : Option Addr} (ht : P.underlying t = some (.pointer e)) : (Op.equalIn (n + 1) t (.pointer a) (.pointer none)).run P w = .ok a.isNone w := by
 cases a <;> simp [Op.equalIn, run_underlying ht]

theorem does_eqp (r : Rel M s w) {neg : Bool} {t e : TypeId} {x y : Operand} {a : Option Addr} (ht : P.underlying t = some (.pointer e)) :
   Does P M s w (do pure (.value (← (do eqGuard (if neg then .neq else .eql) t x y (.pointer a) (.pointer none); binOp (if neg then .neq else .eql) t (.pointer a) (.pointer none))))) (.bool (if neg then !a.isNone else a.isNone)) s := by
 refine Does.pure (v := .bool (if neg then !a.isNone else a.isNone)) r ?_ (.bool _)
 have hg := eqGuard_plain (P := P) (w := w) (op := if neg then .neq else .eql) (t := t) (x := x) (y := y) (a := .pointer a) (b := .pointer none) ⟨by simp, by simp⟩
 have he : (Op.equal t (.pointer a) (.pointer none)).run P w = .ok a.isNone w := by
   exact equalIn_nil 9999 ht
 cases neg
 · simp only [Bool.false_eq_true, if_false] at hg ⊢
   simp [hg, binOp, he]
 · simp only [if_true] at hg ⊢
   simp [hg, binOp, he]

/-! ### Structs held against each other -/

theorem cellEq_run (n : Nat) {t : TypeId} {k : Nat} (hk : kindOf P t = some k) {x y : D} {v u : Value} (rv : RD M s x v) (ru : RD M s y u) {b : Bool} (h : cellEq k x y = some b) :
   (Op.equalIn (n + 1) t v u).run P w = .ok b w := by
 unfold kindOf at hk
 split at hk <;> first | (cases hk; done) | skip
 · rename_i kk hu
   cases hk
   cases x <;> cases y <;> simp [cellEq] at h
   obtain ⟨rfl, rfl⟩ := h
   rw [rv.int_inv, ru.int_inv]
   exact run_equalIn_int w n t _ _ _ _ hu
 · rename_i hu
   cases hk
   cases x <;> cases y <;> simp [cellEq] at h
   subst h
   rw [rv.bool_inv, ru.bool_inv]
   exact run_equalIn_bool w n t _ _ hu
 · rename_i hu
   cases hk
   cases x <;> cases y <;> simp [cellEq] at h
   subst h
   rw [rv.str_inv, ru.str_inv]
   rw [run_equalIn_string w n t _ _ hu]
   simp

theorem eqFields_run (n : Nat) : ∀ (fs : List Field) (off : Nat) (ks : List Nat) (xs ys : List D) (vs us : Array Value) (e : Bool),
   kindsOf P off fs = some ks → (∀ (i : Nat) (d : D) (v : Value), xs[i]? = some d → vs[off + i]? = some v → RD M s d v) → (∀ i, i < xs.length → (vs[off + i]?).isSome) →
   (∀ (i : Nat) (d : D) (v : Value), ys[i]? = some d → us[off + i]? = some v → RD M s d v) → (∀ i, i < ys.length → (us[off + i]?).isSome) →
   cellsEq ks xs ys = some e → (Op.eqFields (n + 1) vs us fs).run P w = .ok e w
 | [], off, ks, xs, ys, vs, us, e, hk, _, _, _, _, h => by
   cases hk
   cases xs <;> cases ys <;> simp [cellsEq] at h
   subst h; rfl
 | f :: fs, off, ks, xs, ys, vs, us, e, hk, h1, h2, h3, h4, h => by
   unfold kindsOf at hk
   split at hk
   · rename_i hf
     obtain ⟨ho, hname⟩ := hf
     split at hk
     · rename_i k ks' hk1 hk2
       cases hk
       match xs, ys with
       | [], [] => cases h
       | [], _ :: _ => cases h
       | _ :: _, [] => cases h
       | x :: xs, y :: ys =>
         obtain ⟨v, hv⟩ := Option.isSome_iff_exists.1 (h2 0 (by simp))
         obtain ⟨u, hu⟩ := Option.isSome_iff_exists.1 (h4 0 (by simp))
         simp only [Nat.add_zero] at hv hu
         have rv := h1 0 x v rfl hv
         have ru := h3 0 y u rfl hu
         have hagg : (isAgg f.type).run P w = .ok false w := by
           unfold isAgg
           unfold kindOf at hk1
           cases hu : P.underlying f.type with
           | none => rw [hu] at hk1; simp at hk1
           | some d => simp only [Sem.run_bind, run_underlying hu, Result.andThen_ok]; rw [hu] at hk1; cases d <;> simp_all
         have pv : (Go.part f.type vs f.offset).run P w = .ok v w := by simp [Go.part, hagg, ho, hv]
         have pu : (Go.part f.type us f.offset).run P w = .ok u w := by simp [Go.part, hagg, ho, hu]
         cases hc : cellEq k x y with
         | none => simp [cellsEq, hc] at h
         | some b =>
           have hb := cellEq_run (w := w) n hk1 rv ru hc
           simp only [cellsEq, hc] at h
           simp only [Op.eqFields, if_pos hname, Sem.run_bind, pv, pu, hb, Result.andThen_ok, Sem.run_ite, Sem.run_pure]
           cases b with
           | false => cases h; rfl
           | true =>
             have := eqFields_run n fs (off + 1) ks' xs ys vs us e hk2
               (fun i d v e1 e2 => h1 (i + 1) d v (by simpa using e1) (by rw [show off + (i + 1) = off + 1 + i by omega]; exact e2))
               (fun i hi => by have := h2 (i + 1) (by simpa using hi); rwa [show off + (i + 1) = off + 1 + i by omega] at this)
               (fun i d v e1 e2 => h3 (i + 1) d v (by simpa using e1) (by rw [show off + (i + 1) = off + 1 + i by omega]; exact e2))
               (fun i hi => by have := h4 (i + 1) (by simpa using hi); rwa [show off + (i + 1) = off + 1 + i by omega] at this) h
             simp [this]
     · cases hk
   · cases hk

theorem does_eqs (r : Rel M s w) {neg : Bool} {t : TypeId} {x y : Operand} {ks : List Nat} {xs ys : List D} {a b : Value} {e : Bool} (ht : plainStruct P t = some ks) (ha : RD M s (.agg xs) a) (hb : RD M s (.agg ys) b) (he : cellsEq ks xs ys = some e) :
   Does P M s w (do pure (.value (← (do eqGuard (if neg then .neq else .eql) t x y a b; binOp (if neg then .neq else .eql) t a b)))) (.bool (if neg then !e else e)) s := by
 obtain ⟨vs, rfl, hl, _, h1⟩ := ha.agg_inv
 obtain ⟨us, rfl, hl', _, h2⟩ := hb.agg_inv
 unfold plainStruct at ht
 split at ht
 · rename_i fs hu
   split at ht
   · rename_i hg
     obtain ⟨hg1, hg2⟩ := hg
     have hf : P.fieldsOf t = fs := by simp [Program.fieldsOf, hu]
     have hrun : (Op.equalIn 10000 t (.agg vs) (.agg us)).run P w = .ok e w := by
       rw [run_equalIn_struct w 9999 t vs us (by rw [hf]; exact hu) hg2, hf]
       exact eqFields_run 9998 fs.toList 0 ks xs ys vs us e ht (fun i d v e1 e2 => h1 i d v e1 (by simpa using e2)) (fun i hi => by simp; omega)
         (fun i d v e1 e2 => h2 i d v e1 (by simpa using e2)) (fun i hi => by simp; omega) he
     have hgd := run_eqGuard_agg (P := P) w (if neg then .neq else .eql) t x y vs us hg1
     refine Does.pure (v := .bool (if neg then !e else e)) r ?_ (.bool _)
     cases neg
     · simp only [Bool.false_eq_true, if_false] at hgd ⊢
       simp only [Sem.run_bind, hgd, Result.andThen_ok, run_eql_struct, hrun, Sem.run_pure]
     · simp only [if_true] at hgd ⊢
       simp only [Sem.run_bind, hgd, Result.andThen_ok, run_neq_struct, hrun, Sem.run_pure]
   · cases ht
 · cases ht

end
end Go.Abs

/-! Sound4 -/

namespace Go.Abs

section
variable {P : Program} {M : Map} {s : St} {w : World}

theorem mk_size (l : List UInt8) : (⟨⟨l⟩⟩ : ByteArray).size = l.length := rfl

theorem extract_mk (l : List UInt8) (a b : Nat) : (⟨⟨l⟩⟩ : ByteArray).extract a b = ⟨⟨(l.take b).drop a⟩⟩ := by
 apply ByteArray.ext
 rw [ByteArray.data_extract]
 apply Array.ext'
 simp [List.drop_take]

theorem getElem?_mk (l : List UInt8) (n : Nat) : (⟨⟨l⟩⟩ : ByteArray)[n]? = l[n]? := by
 by_cases h : n < l.length
 · rw [getElem?_pos (⟨⟨l⟩⟩ : ByteArray) n h, List.getElem?_eq_getElem h]; rfl
 · rw [List.getElem?_eq_none (by omega)]
   rw [getElem?_neg (c := (⟨⟨l⟩⟩ : ByteArray)) (i := n)]
   show ¬ n < (⟨⟨l⟩⟩ : ByteArray).size
   rw [mk_size]; omega

theorem does_sidx (r : Rel M s w) {t : TypeId} {l : List UInt8} {k : IntKind} {n : Int} {c : UInt8} (ht : P.underlying t = some .string) (h0 : 0 ≤ n) (hc : l[n.toNat]? = some c) :
   Does P M s w (do pure (.value (← Instr.index t (.string ⟨⟨l⟩⟩) (.int k n)))) (.int .u8 c.toNat) s := by
 refine Does.pure (v := .int .u8 c.toNat) r ?_ (.int _ _)
 simp [Instr.index, asIntOf, run_underlying ht, h0, getElem?_mk, hc]

theorem does_len_str (r : Rel M s w) {t ty : TypeId} {l : List UInt8} (ht : P.underlying t = some .string) :
   Does P M s w (do pure (.value (← Builtin.len_ #[t] ty #[.string ⟨⟨l⟩⟩]))) (.int .i64 l.length) s := by
 refine Does.pure (v := .int .i64 l.length) r ?_ (.int _ _)
 simp [Builtin.len_, run_underlying ht, goInt, mk_size]

theorem does_len_slice (r : Rel M s w) {t ty e : TypeId} {a : Option Addr} {n c : Nat} (ht : P.underlying t = some (.slice e)) :
   Does P M s w (do pure (.value (← Builtin.len_ #[t] ty #[.slice a n c]))) (.int .i64 n) s := by
 refine Does.pure (v := .int .i64 n) r ?_ (.int _ _)
 simp [Builtin.len_, run_underlying ht, goInt]

theorem does_iaddr (r : Rel M s w) {t e : TypeId} {i : TypeInfo} {g : Tag} {rows : List (List D)} {row : List D} {v : Value} {k : IntKind} {n : Int} (ht : P.underlying t = some (.slice e)) (hi : P.info? e = some i)
   (hd : RD M s (.slice g i.size rows) v) (h0 : 0 ≤ n) (hr : rows[n.toNat]? = some row) :
   Does P M s w (do pure (.value (← Instr.indexAt t v (.int k n)))) (.cptr row 0) s := by
 have hH := (List.getElem?_eq_some_iff.1 hr).1
 rcases hd.slice_inv with ⟨rfl, _, _⟩ | ⟨rfl, _, _⟩ | ⟨b, q, cap, rfl, hl, hs, h1, h2, _⟩
 · simp at hr
 · simp at hr
 · refine Does.pure (v := .pointer (some ⟨b, q + n.toNat * i.size + 0, none⟩)) r ?_ ?_
   · have : n < (rows.length : Int) := by omega
     simp [Instr.indexAt, asIntOf, run_underlying ht, h0, this, sizeOf, info_run P hi, addr_add]
   · refine .cptr row 0 b (q + n.toNat * i.size) (fun j d hj => ?_) (fun j d u hj hu => ?_)
     · obtain ⟨u, hu⟩ := h1 n.toNat row j d hr hj
       exact ⟨u, by rw [Nat.add_assoc]; exact hu⟩
     · exact h2 n.toNat row j d u hr hj (by rw [← Nat.add_assoc]; exact hu)

def LoR (lv : Option Value) (l : Int) : Prop := (lv = none ∧ l = 0) ∨ ∃ k, lv = some (.int k l)
def HiR (hv : Option Value) (len : Nat) (h : Int) : Prop := (hv = none ∧ h = len) ∨ ∃ k, hv = some (.int k h)

theorem bounds_run {isSlice : Bool} {lv hv : Option Value} {len cap : Nat} {l h : Int} (h1 : LoR lv l) (h2 : HiR hv len h) (a : 0 ≤ l) (b : l ≤ h) (c : h ≤ len) (d : len ≤ cap) :
   (Instr.sliceBounds isSlice len cap lv hv none).run P w = .ok (l.toNat, h.toNat, cap) w := by
 have h0 : 0 ≤ h := by omega
 have hc : h ≤ cap := by omega
 rcases h1 with ⟨rfl, rfl⟩ | ⟨k, rfl⟩ <;> rcases h2 with ⟨rfl, rfl⟩ | ⟨k', rfl⟩
 · simp [Instr.sliceBounds]
 · simp [Instr.sliceBounds, run_sliceBound w _ _ _ _ h0 hc]
 · simp [Instr.sliceBounds, run_sliceBound w _ _ _ _ a b]
 · have e : (h.toNat : Int) = h := Int.toNat_of_nonneg h0
   simp [Instr.sliceBounds, run_sliceBound w _ _ _ _ h0 hc, run_sliceBound w _ _ _ _ a (show l ≤ (h.toNat : Int) by omega)]

theorem does_sslc (r : Rel M s w) {t : TypeId} {lv hv : Option Value} {x : List UInt8} {l h : Int} (ht : P.underlying t = some .string) (h1 : LoR lv l) (h2 : HiR hv x.length h) (a : 0 ≤ l) (b : l ≤ h) (c : h ≤ x.length) :
   Does P M s w (do pure (.value (← Instr.sliceAt t (.string ⟨⟨x⟩⟩) lv hv none))) (.str ((x.take h.toNat).drop l.toNat)) s := by
 have hb := bounds_run (P := P) (w := w) (isSlice := false) (cap := x.length) h1 h2 a b c (Nat.le_refl _)
 refine Does.pure (v := .string ⟨⟨(x.take h.toNat).drop l.toNat⟩⟩) r ?_ (.str _)
 simp [Instr.sliceAt, run_underlying ht, Instr.slice, mk_size, hb, extract_mk]

theorem TagOk.cut {g : Tag} {z len len' cap : Nat} {base : Option (Nat × Nat)} (h : TagOk M s g z len base cap) (hl : len' ≤ len) (whole : Bool) (hw : whole = true → len' = len) : TagOk M s (g.cut whole) z len' base cap := by
 cases g with
 | full =>
   cases whole with
   | true => rw [hw rfl]; exact h
   | false => trivial
 | shared => trivial
 | tok t y =>
   obtain ⟨x1, x2⟩ := h
   refine ⟨x1, fun n hn => ⟨Nat.le_trans hl (x2 n hn).1, fun e => ?_⟩⟩
   have : len = n := by have := (x2 n hn).1; omega
   exact (x2 n hn).2 this

theorem does_slc (r : Rel M s w) {t e : TypeId} {i : TypeInfo} {g : Tag} {z : Nat} {lv hv : Option Value} {rows : List (List D)} {v : Value} {l h : Int} (ht : P.underlying t = some (.slice e)) (hi0 : P.info? e = some i) (hz : rows = [] ∨ z = i.size)
   (hd : RD M s (.slice g z rows) v) (h1 : LoR lv l) (h2 : HiR hv rows.length h) (a : 0 ≤ l) (b : l ≤ h) (c : h ≤ rows.length) :
   Does P M s w (do pure (.value (← Instr.sliceAt t v lv hv none))) (.slice (if l = 0 then g.cut (h = rows.length) else .shared) z ((rows.take h.toNat).drop l.toNat)) s := by
 have hlen : ((rows.take h.toNat).drop l.toNat).length = h.toNat - l.toNat := by simp; omega
 have tag : ∀ base cap, TagOk M s g z rows.length base cap → TagOk M s (if l = 0 then g.cut (h = rows.length) else .shared) z ((rows.take h.toNat).drop l.toNat).length base cap := by
   intro base cap htag
   split
   · exact htag.cut (by omega) _ (fun hh => by simp at hh; omega)
   · trivial
 rcases hd.slice_inv with ⟨rfl, rfl, htag⟩ | ⟨rfl, rfl, a', cap, rfl⟩ | ⟨b', q, cap, rfl, hl, hs, g1, g2, htag⟩
 · have hb := bounds_run (P := P) (w := w) (isSlice := true) (cap := 0) h1 h2 a b c (Nat.le_refl _)
   have hl0 : l = 0 := by simp at c; omega
   have hh0 : h = 0 := by simp at c; omega
   subst hl0; subst hh0
   refine Does.pure (v := .slice none 0 0) r ?_ ?_
   · simp at hb
     simp [Instr.sliceAt, run_underlying ht, Instr.slice, hb, sizeOf, info_run P hi0]
   · have := tag _ _ htag
     simp only [Int.toNat_zero, List.take_nil, List.drop_nil, List.length_nil] at this ⊢
     exact .snil _ _ 0 rfl this
 · have hb := bounds_run (P := P) (w := w) (isSlice := true) (cap := cap) h1 h2 a b c (Nat.zero_le _)
   have hl0 : l = 0 := by simp at c; omega
   have hh0 : h = 0 := by simp at c; omega
   subst hl0; subst hh0
   simp only [List.length_nil] at hb
   have hrun : ∃ a2 : Addr, (Instr.sliceAt t (.slice (some a') 0 cap) lv hv none).run P w = .ok (.slice (some a2) 0 cap) w := by
     refine ⟨if cap = (0 : Int).toNat then a' else a'.add ((0 : Int).toNat * i.size), ?_⟩
     simp only [Instr.sliceAt, Sem.run_bind, run_underlying ht, Result.andThen_ok, Instr.slice, hb, sizeOf, info_run P hi0, Sem.run_pure]
     split <;> simp
   obtain ⟨a2, hrun⟩ := hrun
   refine Does.pure (v := .slice (some a2) 0 cap) r (by simp [hrun]) ?_
   simp only [↓reduceIte, Int.toNat_zero, List.take_nil, List.drop_nil]
   have : Tag.cut .shared (decide ((0 : Int) = (([] : List (List D)).length : Int))) = .shared := rfl
   rw [this]
   exact .semp _ a2 cap
 · have hb := bounds_run (P := P) (w := w) (isSlice := true) (cap := cap) h1 h2 a b c hl
   have hrun : (Instr.sliceAt t (.slice (some ⟨b', q, none⟩) rows.length cap) lv hv none).run P w = .ok (.slice (some (if cap = l.toNat then ⟨b', q, none⟩ else ⟨b', q + l.toNat * i.size, none⟩)) (h.toNat - l.toNat) (cap - l.toNat)) w := by
     simp only [Instr.sliceAt, Sem.run_bind, run_underlying ht, Result.andThen_ok, Instr.slice, hb, sizeOf, info_run P hi0, Sem.run_pure]
     split <;> simp [addr_add]
   by_cases hl0 : l = 0
   · subst hl0
     have e : (if cap = (0 : Int).toNat then (⟨b', q, none⟩ : Addr) else ⟨b', q + (0 : Int).toNat * i.size, none⟩) = ⟨b', q, none⟩ := by simp
     rw [e] at hrun
     refine Does.pure (v := .slice (some ⟨b', q, none⟩) ((rows.take h.toNat).drop (0 : Int).toNat).length cap) r (by simp [hrun]; omega) ?_
     refine .slice _ z _ b' q cap (by omega) (fun row hr => hs row ?_) (fun i row j d e1 e2 => ?_) (fun i row j d u e1 e2 eu => ?_) (tag _ _ htag)
     · simp at hr; exact List.mem_of_mem_take hr
     · simp [List.getElem?_take] at e1; exact g1 i row j d e1.2 e2
     · simp [List.getElem?_take] at e1; exact g2 i row j d u e1.2 e2 eu
   · rw [if_neg hl0]
     by_cases hcap : cap = l.toNat
     · have : (rows.take h.toNat).drop l.toNat = [] := List.eq_nil_of_length_eq_zero (by omega)
       rw [this]
       rw [if_pos hcap] at hrun
       refine Does.pure (v := .slice (some ⟨b', q, none⟩) ([] : List (List D)).length (cap - l.toNat)) r (by simp [hrun]; omega) ?_
       exact .slice _ z [] b' q _ (by simp) (by simp) (by simp) (by simp) trivial
     · rw [if_neg hcap] at hrun
       refine Does.pure (v := .slice (some ⟨b', q + l.toNat * i.size, none⟩) ((rows.take h.toNat).drop l.toNat).length (cap - l.toNat)) r (by simp [hrun]; omega) ?_
       have hrow : ∀ (k : Nat) (row : List D), ((rows.take h.toNat).drop l.toNat)[k]? = some row → rows[l.toNat + k]? = some row := by
         intro k row e
         rw [List.getElem?_drop, List.getElem?_take] at e
         split at e
         · exact e
         · cases e
       have hzz : ∀ (k : Nat) (row : List D), ((rows.take h.toNat).drop l.toNat)[k]? = some row → z = i.size := by
         intro k row e
         rcases hz with rfl | hz
         · simp at e
         · exact hz
       refine .slice _ z _ b' _ _ (by omega) (fun row hr => hs row (List.mem_of_mem_take (List.mem_of_mem_drop hr))) (fun k row j d e1 e2 => ?_) (fun k row j d u e1 e2 eu => ?_) trivial
       · obtain ⟨u, hu⟩ := g1 _ row j d (hrow k row e1) e2
         refine ⟨u, ?_⟩
         rw [← hu, ← hzz k row e1]
         congr 1
         rw [Nat.add_mul]; omega
       · refine g2 _ row j d u (hrow k row e1) e2 ?_
         rw [← eu, ← hzz k row e1]
         congr 1
         rw [Nat.add_mul]; omega

/-! ### Aggregates that are built -/

theorem foldl_set (off : Nat) : ∀ (l : List Value) (k : Nat) (cells : Array Value) (i : Nat),
   ((l.zipIdx k).foldl (fun cs p => cs.setIfInBounds (off + p.2) p.1) cells).size = cells.size ∧
   (off + k + l.length ≤ cells.size → ((l.zipIdx k).foldl (fun cs p => cs.setIfInBounds (off + p.2) p.1) cells)[i]? = if off + k ≤ i ∧ i < off + k + l.length then l[i - (off + k)]? else cells[i]?)
 | [], k, cells, i => by simp; intro _ h1 h2; omega
 | v :: l, k, cells, i => by
   obtain ⟨h1, h2⟩ := foldl_set off l (k + 1) (cells.setIfInBounds (off + k) v) i
   simp only [List.zipIdx_cons, List.foldl_cons]
   refine ⟨by rw [h1]; simp, fun hfit => ?_⟩
   simp only [List.length_cons] at hfit
   rw [h2 (by simp; omega)]
   rw [Array.getElem?_setIfInBounds]
   by_cases hi : off + k = i
   · subst hi
     rw [if_neg (by omega), if_pos rfl, if_pos (by omega), if_pos (by simp)]
     simp
   · rw [if_neg hi]
     by_cases hr : off + (k + 1) ≤ i ∧ i < off + (k + 1) + l.length
     · rw [if_pos hr, if_pos (by simp; omega)]
       rw [show i - (off + k) = (i - (off + (k + 1))) + 1 by omega]
       simp
     · rw [if_neg hr, if_neg (by simp; omega)]

def CellsR (M : Map) (s : St) (ds : List D) (vs : Array Value) : Prop := vs.size = ds.length ∧ (∀ v ∈ vs, v.oneCell' = true) ∧ ∀ (i : Nat) (d : D) (v : Value), ds[i]? = some d → vs[i]? = some v → RD M s d v

theorem CellsR.splice {ds : List D} {vs : Array Value} (h : CellsR M s ds vs) {d : D} {v : Value} {row : List D} (hd : RD M s d v) (hr : d.row = some row) {off : Nat} (hfit : off + row.length ≤ ds.length) :
   CellsR M s (splice ds off row) (v.cells.zipIdx.foldl (fun cs (p : Value × Nat) => cs.setIfInBounds (off + p.2) p.1) vs) := by
 obtain ⟨h1, h2, h3⟩ := hd.row hr
 obtain ⟨g1, g2, g3⟩ := h
 have e : v.cells.zipIdx.foldl (fun cs (p : Value × Nat) => cs.setIfInBounds (off + p.2) p.1) vs = (v.cells.toList.zipIdx 0).foldl (fun cs p => cs.setIfInBounds (off + p.2) p.1) vs := by
   rw [← Array.foldl_toList]; simp
 rw [e]
 have hl : v.cells.toList.length = row.length := by simpa using h1
 have fs := fun i => foldl_set off v.cells.toList 0 vs i
 have get : ∀ i, ((v.cells.toList.zipIdx 0).foldl (fun cs p => cs.setIfInBounds (off + p.2) p.1) vs)[i]? = if off ≤ i ∧ i < off + row.length then v.cells.toList[i - off]? else vs[i]? := by
   intro i
   have := (fs i).2 (by omega)
   rw [hl] at this
   simpa using this
 refine ⟨by rw [(fs 0).1, g1, length_splice ds off row hfit], fun u hu => ?_, fun i d' u e1 e2 => ?_⟩
 · obtain ⟨i, hi⟩ := Array.mem_iff_getElem?.1 hu
   rw [get] at hi
   split at hi
   · exact h2 u (Array.mem_toList_iff.1 (List.mem_of_getElem? hi))
   · exact g2 u (Array.mem_of_getElem? hi)
 · rw [getElem?_splice ds off row hfit] at e1
   rw [get] at e2
   by_cases h5 : off ≤ i
   · by_cases h6 : i < off + row.length
     · rw [if_pos ⟨h5, h6⟩] at e2
       rw [if_neg (by omega), if_pos h6] at e1
       exact h3 _ d' u e1 (by simpa using e2)
     · rw [if_neg (fun h => h6 h.2)] at e2
       rw [if_neg (by omega), if_neg h6] at e1
       exact g3 i d' u e1 e2
   · rw [if_neg (fun h => h5 h.1)] at e2
     rw [if_pos (by omega)] at e1
     exact g3 i d' u e1 e2

theorem fill_run {place : Nat → Option (Nat × Nat)} : ∀ (vp : List (Nat × Value)) (dp : List (Nat × Nat × D)) (ds : List D) (vs : Array Value) (ds' : List D), CellsR M s ds vs →
   dp.length = vp.length → (∀ (j : Nat) (i : Nat) (v : Value) (off size : Nat) (d : D), vp[j]? = some (i, v) → dp[j]? = some (off, size, d) → place i = some (off, size) ∧ RD M s d v) →
   fillD ds dp = some ds' → ∃ vs', Instr.fill place vs vp = some vs' ∧ CellsR M s ds' vs'
 | [], [], ds, vs, ds', h, _, _, e => by cases e; exact ⟨vs, rfl, h⟩
 | [], _ :: _, _, _, _, _, hl, _, _ => by simp at hl
 | _ :: _, [], _, _, _, _, hl, _, _ => by simp at hl
 | (i, v) :: vp, (off, size, d) :: dp, ds, vs, ds', h, hl, hp, e => by
   obtain ⟨h1, h2⟩ := hp 0 i v off size d rfl rfl
   unfold fillD at e
   split at e
   · cases e
   · rename_i row hr
     split at e
     · rename_i hc
       obtain ⟨c1, c2⟩ := hc
       have hsz := (h2.row hr).1
       obtain ⟨vs', f1, f2⟩ := fill_run vp dp (splice ds off row) _ ds' (h.splice h2 hr (by omega)) (by simpa using hl)
         (fun j i v off size d e1 e2 => hp (j + 1) i v off size d (by simpa using e1) (by simpa using e2)) e
       refine ⟨vs', ?_, f2⟩
       unfold Instr.fill
       simp only [h1]
       rw [if_neg]
       · exact f1
       · simp; exact ⟨by omega, by have := h.1; omega⟩
     · cases e

end
end Go.Abs

/-! Sound5 -/

namespace Go.Abs

section
variable {P : Program} {M : Map} {s : St} {w : World}

def RowsR (M : Map) (s : St) (size : Nat) (rows : List (List D)) (vs : Array Value) : Prop :=
 rows.length * size ≤ vs.size ∧ (∀ row ∈ rows, row.length = size) ∧ (∀ v ∈ vs, v.oneCell' = true) ∧
 ∀ (i : Nat) (row : List D) (j : Nat) (d : D) (v : Value), rows[i]? = some row → row[j]? = some d → vs[i * size + j]? = some v → RD M s d v

theorem row_lt {size : Nat} {rows : List (List D)} (hs : ∀ row ∈ rows, row.length = size) {i : Nat} {row : List D} {j : Nat} {d : D} (h1 : rows[i]? = some row) (h2 : row[j]? = some d) : i * size + j < rows.length * size := by
 have hi := (List.getElem?_eq_some_iff.1 h1).1
 have hj := (List.getElem?_eq_some_iff.1 h2).1
 have := hs row (List.mem_of_getElem? h1)
 have : i * size + size ≤ rows.length * size := by rw [← Nat.succ_mul]; exact Nat.mul_le_mul_right _ hi
 omega

theorem RowsR.fixed {size : Nat} {rows : List (List D)} {vs : Array Value} (h : RowsR M s size rows vs) {M' : Map} {s' : St} (le : Le M s M' s') {b : Nat}
   (hG : ∀ o, o < rows.length * size → M'.G b o = vs[o]?) :
   (∀ (i : Nat) (row : List D) (j : Nat) (d : D), rows[i]? = some row → row[j]? = some d → ∃ u, M'.G b (0 + (i * size + j)) = some u) ∧
   (∀ (i : Nat) (row : List D) (j : Nat) (d : D) (u : Value), rows[i]? = some row → row[j]? = some d → M'.G b (0 + (i * size + j)) = some u → RD M' s' d u) := by
 obtain ⟨h1, h2, h3, h4⟩ := h
 refine ⟨fun i row j d e1 e2 => ?_, fun i row j d u e1 e2 eu => ?_⟩
 · have hH := row_lt h2 e1 e2
   rw [Nat.zero_add, hG _ hH]
   exact ⟨_, Array.getElem?_eq_getElem (by omega)⟩
 · have hH := row_lt h2 e1 e2
   rw [Nat.zero_add, hG _ hH] at eu
   exact (h4 i row j d u e1 e2 eu).mono le

/-! ### Slices of parts -/

theorem zeroRows_length (z : List D) : ∀ n, (zeroRows z n).length = n
 | 0 => rfl
 | n + 1 => by simp [zeroRows, zeroRows_length z n]

theorem zeroRows_mem (z : List D) : ∀ n, ∀ row ∈ zeroRows z n, row = z
 | 0, _, h => by cases h
 | n + 1, row, h => by
   rcases List.mem_cons.1 h with rfl | h
   · rfl
   · exact zeroRows_mem z n row h

theorem RowsR.zero {z : List D} {zs : Array Value} (h : CellsR M s z zs) (hp : 0 < z.length) (n : Nat) : RowsR M s z.length (zeroRows z n) ((Array.range (n * z.length)).map (zs[· % zs.size]!)) := by
 obtain ⟨h1, h2, h3⟩ := h
 have get : ∀ q, q < n * z.length → ((Array.range (n * z.length)).map (zs[· % zs.size]!))[q]? = zs[q % z.length]? := by
   intro q hq
   have : q % z.length < zs.size := by rw [h1]; exact Nat.mod_lt _ hp
   simp only [Array.getElem?_map, Array.getElem?_range, hq, if_true, Option.map_some]
   rw [h1, getElem!_pos zs (q % z.length) this, Array.getElem?_eq_getElem this]
 refine ⟨by simp [zeroRows_length], fun row hr => by rw [zeroRows_mem z n row hr], fun v hv => ?_, fun i row j d v e1 e2 e3 => ?_⟩
 · obtain ⟨q, hq⟩ := Array.mem_iff_getElem?.1 hv
   have hH : q < n * z.length := by have := (Array.getElem?_eq_some_iff.1 hq).1; simpa using this
   rw [get q hH] at hq
   exact h2 v (Array.mem_of_getElem? hq)
 · have hrow := zeroRows_mem z n row (List.mem_of_getElem? e1)
   subst hrow
   have hH := row_lt (size := row.length) (fun r hr => by rw [zeroRows_mem row n r hr]) e1 e2
   rw [zeroRows_length] at hH
   rw [get _ hH] at e3
   have hj := (List.getElem?_eq_some_iff.1 e2).1
   rw [Nat.mul_comm, Nat.mul_add_mod, Nat.mod_eq_of_lt hj] at e3
   exact h3 j d v e2 e3

theorem RowsR.set {size : Nat} {rows : List (List D)} {vs : Array Value} (h : RowsR M s size rows vs) {d : D} {v : Value} {row : List D} (hd : RD M s d v) (hr : d.row = some row) (hl : row.length = size) {i : Nat} (hi : i < rows.length) :
   RowsR M s size (rows.set i row) (v.cells.zipIdx.foldl (fun cs (p : Value × Nat) => cs.setIfInBounds (i * size + p.2) p.1) vs) := by
 obtain ⟨h1, h2, h3⟩ := hd.row hr
 obtain ⟨g1, g2, g3, g4⟩ := h
 have e : v.cells.zipIdx.foldl (fun cs (p : Value × Nat) => cs.setIfInBounds (i * size + p.2) p.1) vs = (v.cells.toList.zipIdx 0).foldl (fun cs p => cs.setIfInBounds (i * size + p.2) p.1) vs := by
   rw [← Array.foldl_toList]; simp
 rw [e]
 have hl2 : v.cells.toList.length = size := by simp [h1, hl]
 have hfit : i * size + size ≤ vs.size := by
   have : (i + 1) * size ≤ rows.length * size := Nat.mul_le_mul_right _ hi
   rw [Nat.succ_mul] at this; omega
 have fs := fun q => foldl_set (i * size) v.cells.toList 0 vs q
 have get : ∀ q, ((v.cells.toList.zipIdx 0).foldl (fun cs p => cs.setIfInBounds (i * size + p.2) p.1) vs)[q]? = if i * size ≤ q ∧ q < i * size + size then v.cells.toList[q - i * size]? else vs[q]? := by
   intro q
   have := (fs q).2 (by omega)
   rw [hl2] at this
   simpa using this
 refine ⟨by rw [(fs 0).1]; simpa using g1, fun r hr' => ?_, fun u hu => ?_, fun i' row' j d' u e1 e2 e3 => ?_⟩
 · rcases List.mem_or_eq_of_mem_set hr' with h | rfl
   · exact g2 r h
   · exact hl
 · obtain ⟨q, hq⟩ := Array.mem_iff_getElem?.1 hu
   rw [get] at hq
   split at hq
   · exact h2 u (Array.mem_toList_iff.1 (List.mem_of_getElem? hq))
   · exact g3 u (Array.mem_of_getElem? hq)
 · rw [List.getElem?_set] at e1
   rw [get] at e3
   split at e1
   · rename_i heq; subst heq
     simp at e1
     obtain ⟨_, rfl⟩ := e1
     have hj := (List.getElem?_eq_some_iff.1 e2).1
     rw [if_pos (by omega)] at e3
     rw [show i * size + j - i * size = j by omega] at e3
     exact h3 j d' u e2 (by simpa using e3)
   · rename_i hne
     have hj := (List.getElem?_eq_some_iff.1 e2).1
     have hrl := g2 row' (List.mem_of_getElem? e1)
     rw [if_neg] at e3
     · exact g4 i' row' j d' u e1 e2 e3
     · rintro ⟨a, b⟩
       rcases Nat.lt_or_gt_of_ne hne with h | h
       · have : (i + 1) * size ≤ i' * size := Nat.mul_le_mul_right _ h
         rw [Nat.succ_mul] at this; omega
       · have : (i' + 1) * size ≤ i * size := Nat.mul_le_mul_right _ h
         rw [Nat.succ_mul] at this; omega

theorem fillRows_run {size : Nat} : ∀ (vp : List (Nat × Value)) (dp : List (Nat × D)) (rows : List (List D)) (vs : Array Value) (rows' : List (List D)), RowsR M s size rows vs →
   dp.length = vp.length → (∀ (j : Nat) (i : Nat) (v : Value) (i' : Nat) (d : D), vp[j]? = some (i, v) → dp[j]? = some (i', d) → i' = i ∧ RD M s d v) →
   fillRows size rows dp = some rows' → ∃ vs', Instr.fill (fun i => some (i * size, size)) vs vp = some vs' ∧ RowsR M s size rows' vs' ∧ rows'.length = rows.length ∧ vs'.size = vs.size
 | [], [], rows, vs, rows', h, _, _, e => by cases e; exact ⟨vs, rfl, h, rfl, rfl⟩
 | [], _ :: _, _, _, _, _, hl, _, _ => by simp at hl
 | _ :: _, [], _, _, _, _, hl, _, _ => by simp at hl
 | (i, v) :: vp, (i', d) :: dp, rows, vs, rows', h, hl, hp, e => by
   obtain ⟨h1, h2⟩ := hp 0 i v i' d rfl rfl
   subst h1
   unfold fillRows at e
   split at e
   · cases e
   · rename_i row hr
     split at e
     · rename_i hc
       obtain ⟨c1, c2⟩ := hc
       have hsz := (h2.row hr).1
       have hstep := h.set h2 hr c1 c2
       obtain ⟨vs', f1, f2, f3, f4⟩ := fillRows_run vp dp (rows.set i' row) _ rows' hstep (by simpa using hl)
         (fun j i v i' d e1 e2 => hp (j + 1) i v i' d (by simpa using e1) (by simpa using e2)) e
       have hfit : i' * size + size ≤ vs.size := by
         have : (i' + 1) * size ≤ rows.length * size := Nat.mul_le_mul_right _ c2
         have := h.1
         rw [Nat.succ_mul] at *; omega
       refine ⟨vs', ?_, f2, by rw [f3]; simp, ?_⟩
       · unfold Instr.fill
         simp only
         rw [if_neg]
         · exact f1
         · simp; exact ⟨by omega, by omega⟩
       · rw [f4]
         have := (foldl_set (i' * size) v.cells.toList 0 vs 0).1
         rw [← this, ← Array.foldl_toList]; simp
     · cases e

theorem full_sound (r : Rel M s w) {size : Nat} {rows : List (List D)} {vs : Array Value} (T : TypeId) (h : RowsR M s size rows vs) :
   RD (M.commit w.heap.size vs.size vs) s (.slice .full size rows) (.slice (some ⟨w.heap.size, 0, none⟩) rows.length rows.length) ∧
   Rel (M.commit w.heap.size vs.size vs) s (w.alloc (.cells vs T)) ∧ Ext M s w (M.commit w.heap.size vs.size vs) s (w.alloc (.cells vs T)) := by
 obtain ⟨r', e'⟩ := r.commit vs.size vs T (0, 0) h.2.2.1
 obtain ⟨g1, g2⟩ := h.fixed e'.le (b := w.heap.size) (fun o ho => by
   have : o < vs.size := Nat.lt_of_lt_of_le ho h.1
   simp [Map.commit, this])
 exact ⟨.slice .full size rows w.heap.size 0 rows.length (Nat.le_refl _) h.2.1 g1 g2 rfl, r', e'⟩

/-! ### append -/

theorem run_append_empty {t u ty e : TypeId} {i : TypeInfo} (ht : P.underlying t = some (.slice e)) (hi : P.info? e = some i) {base : Option Addr} {len cap : Nat} {y : Value} (hs : Src P i.size u y 0 [] w) (hc : len ≤ cap) :
   (Builtin.append_ #[t, u] ty #[.slice base len cap, y]).run P w = .ok (.slice base len cap) w := by
 have hcells := hs.cells
 rcases hs.kind with ⟨e', hk⟩ | hk <;> cases base <;> simp [Builtin.append_, run_underlying ht, run_underlying hk, sizeOf, typeInfo, hi, hs.len, hc, hcells, storeCells]

theorem slice_src (r : Rel M s w) {u e' : TypeId} (hu : P.underlying u = some (.slice e')) {g : Tag} {size : Nat} {rows : List (List D)} {y : Value} (hy : RD M s (.slice g size rows) y) :
   ∃ news : List Value, Src P size u y rows.length news w ∧
     (∀ (i : Nat) (row : List D) (j : Nat) (d : D) (v : Value), rows[i]? = some row → row[j]? = some d → news[i * size + j]? = some v → RD M s d v) ∧
     ∀ (b q n c : Nat), y = .slice (some ⟨b, q, none⟩) n c → ∀ o, o < rows.length * size → M.G b (q + o) = news[o]? := by
 rcases hy.slice_inv with ⟨rfl, rfl, _⟩ | ⟨rfl, _, a, cap, rfl⟩ | ⟨b, q, cap, rfl, hl, hs, g1, g2, _⟩
 · exact ⟨[], Src.ofNil w hu 0, by simp, by simp⟩
 · exact ⟨[], Src.ofSlice w hu a 0 cap [] (by simp) (by simp) (by simp), by simp, by simp⟩
 · obtain ⟨us, hlen, hus⟩ := fixed_list (M := M) (b := b) (rows.length * size) q (fun k hk => by
     have hz : 0 < size := by
       rcases Nat.eq_zero_or_pos size with h | h
       · subst h; simp at hk
       · exact h
     have hi : k / size < rows.length := by rw [Nat.div_lt_iff_lt_mul hz]; exact hk
     obtain ⟨row, hrow⟩ : ∃ row, rows[k / size]? = some row := ⟨_, List.getElem?_eq_getElem hi⟩
     have hrl := hs row (List.mem_of_getElem? hrow)
     have hj : k % size < row.length := by rw [hrl]; exact Nat.mod_lt _ hz
     obtain ⟨u, hu⟩ := g1 _ row _ _ hrow (List.getElem?_eq_getElem hj)
     refine ⟨u, ?_⟩
     rw [← hu, Nat.mul_comm (k / size) size, Nat.div_add_mod])
   refine ⟨us, Src.ofSlice w hu ⟨b, q, none⟩ rows.length cap us hlen (fun j u h => by rw [addr_add]; exact (r.comm _ _ _ (hus j u h)).1) (fun u hu => ?_), fun i row j d v e1 e2 e3 => g2 i row j d v e1 e2 (hus _ v e3),
     fun b' q' n c heq o ho => by
       cases heq
       rw [hus o _ (List.getElem?_eq_getElem (by omega)), List.getElem?_eq_getElem (by omega)]⟩
   obtain ⟨j, hj⟩ := List.mem_iff_getElem?.1 hu
   exact (r.comm _ _ _ (hus j u hj)).2

theorem grown_rows {size : Nat} {rows new : List (List D)} {olds news : List Value} (hs1 : ∀ row ∈ rows, row.length = size) (hs2 : ∀ row ∈ new, row.length = size)
   (l1 : olds.length = rows.length * size) (l2 : news.length = new.length * size) (o1 : ∀ u ∈ olds, u.oneCell' = true) (o2 : ∀ u ∈ news, u.oneCell' = true)
   (h1 : ∀ (i : Nat) (row : List D) (j : Nat) (d : D) (v : Value), rows[i]? = some row → row[j]? = some d → olds[i * size + j]? = some v → RD M s d v)
   (h2 : ∀ (i : Nat) (row : List D) (j : Nat) (d : D) (v : Value), new[i]? = some row → row[j]? = some d → news[i * size + j]? = some v → RD M s d v)
   (z : Array Value) (hz : ∀ v ∈ z, v.oneCell' = true) : RowsR M s size (rows ++ new) ((olds ++ news).toArray ++ z) := by
 have hs : ∀ row ∈ rows ++ new, row.length = size := fun row h => (List.mem_append.1 h).elim (hs1 row) (hs2 row)
 refine ⟨by simp [l1, l2, Nat.add_mul], hs, fun v hv => ?_, fun i row j d v e1 e2 e3 => ?_⟩
 · simp at hv
   rcases hv with (h | h) | h
   · exact o1 v h
   · exact o2 v h
   · exact hz v h
 · have hH := row_lt hs e1 e2
   rw [List.length_append, Nat.add_mul] at hH
   rw [Array.getElem?_append_left (by simp [l1, l2]; omega), List.getElem?_toArray] at e3
   by_cases hi : i < rows.length
   · rw [List.getElem?_append_left hi] at e1
     have := row_lt hs1 e1 e2
     rw [List.getElem?_append_left (by omega)] at e3
     exact h1 i row j d v e1 e2 e3
   · rw [List.getElem?_append_right (by omega)] at e1
     have hge : rows.length * size ≤ i * size := Nat.mul_le_mul_right _ (by omega)
     rw [List.getElem?_append_right (by omega), l1] at e3
     refine h2 (i - rows.length) row j d v e1 e2 ?_
     rw [← e3]
     congr 1
     rw [Nat.sub_mul]; omega

theorem zeroCells_one {z : Array Value} (h : ∀ v ∈ z, v.oneCell' = true) (n : Nat) : ∀ v ∈ Builtin.zeroCells z n, v.oneCell' = true := by
 intro v hv
 unfold Builtin.zeroCells at hv
 obtain ⟨q, hq, rfl⟩ := Array.mem_map.1 hv
 have hH : q < n * z.size := by simpa using hq
 have hz : 0 < z.size := by
   rcases Nat.eq_zero_or_pos z.size with h | h
   · rw [h] at hH; simp at hH
   · exact h
 have := Nat.mod_lt q hz
 rw [getElem!_pos z (q % z.size) this]
 exact h _ (Array.getElem_mem this)

def appT (eb : Bool) (size bytes : Nat) (x y : D) (s : St) : Option (D × St) :=
 match x, y with
 | .slice g z rows, .slice _ z' new =>
   if (rows = [] ∨ z = size) ∧ (new = [] ∨ z' = size) ∧ (rows.length + new.length) * (bytes + 1) ≤ maxStr then
     match new with
     | [] => some (.slice g z rows, s)
     | _ :: _ =>
       match g with
       | .full => some (.slice (.tok s.toks.length eb) size (rows ++ new), { s with toks := s.toks ++ [some (rows.length + new.length)] })
       | .shared => none
       | .tok t y => if (y = true → eb = true) ∧ z = size ∧ s.toks[t]? = some (some rows.length) then some (.slice (.tok t y) size (rows ++ new), { s with toks := s.toks.set t (some (rows.length + new.length)) }) else none
   else none
 | _, _ => none

theorem appD_T {size bytes : Nat} {x y d : D} {s s' : St} (h : appD size bytes x y s = some (d, s')) : appT false size bytes x y s = some (d, s') := by
 unfold appD at h
 unfold appT
 split at h
 · split at h
   · rename_i hc
     simp only [hc, and_self, if_true]
     split at h
     · exact h
     · split at h
       · exact h
       · exact h
       · cases h
       · split at h
         · rename_i hq
           simp only [hq, and_self, Bool.false_eq_true, false_imp_iff, if_true]
           exact h
         · cases h
   · cases h
 · cases h
theorem appB_T {x y d : D} {s s' : St} (h : appB x y s = some (d, s')) : appT true 1 1 x y s = some (d, s') := by
 unfold appB at h
 unfold appT
 split at h
 · split at h
   · rename_i hc
     simp only [hc, and_self, if_true]
     split at h
     · exact h
     · split at h
       · exact h
       · exact h
       · split at h
         · rename_i hq
           simp only [hq, and_self, imp_true_iff, if_true]
           exact h
         · cases h
   · cases h
 · cases h

theorem zs_bz {b : Bool} {n : Nat} (h : b = true → n = 1) (hn : 0 < n) : zs (bz b n) = n := by
 cases b
 · show (if n = 0 then 1 else n) = n
   rw [if_neg (by omega)]
 · simp [zs, bz, h rfl]

theorem app_core (eb : Bool) (r : Rel M s w) {t u ty e : TypeId} {i : TypeInfo} {z : Value} (ht : P.underlying t = some (.slice e)) (hi : P.info? e = some i) (hz : i.zero = some z)
   (hzs : z.cells.size = i.size) (hz1 : ∀ v ∈ z.cells, v.oneCell' = true) {dx dy d : D} {x y : Value} {s' : St} (hx : RD M s dx x) (heb : eb = true → e = byteT ∧ i.size = 1) (hpos : 0 < i.size) (he : appT eb i.size i.bytes dx dy s = some (d, s'))
   (src : ∀ (g : Tag) (size : Nat) (rows : List (List D)), dy = .slice g size rows → (rows = [] → Src P i.size u y 0 [] w) ∧ (rows ≠ [] → size = i.size → (∀ row ∈ rows, row.length = i.size) ∧ ∃ news : List Value, Src P i.size u y rows.length news w ∧
     (∀ (k : Nat) (row : List D) (j : Nat) (d : D) (v : Value), rows[k]? = some row → row[j]? = some d → news[k * i.size + j]? = some v → RD M s d v))) :
   ∃ v w' M', (Builtin.append_ #[t, u] ty #[x, y]).run P w = .ok v w' ∧ Rel M' s' w' ∧ RD M' s' d v ∧ Ext M s w M' s' w' := by
 unfold appT at he
 split at he
 case h_2 => cases he
 rename_i g zx rows g' zy new
 split at he
 case isFalse => cases he
 rename_i hc
 obtain ⟨hc1, hc2, hc3⟩ := hc
 cases new with
 | nil =>
   simp only at he
   cases he
   have hs0 : Src P i.size u y 0 [] w := (src _ _ _ rfl).1 rfl
   rcases hx.slice_inv with ⟨_, hv, _⟩ | ⟨_, _, a, cap, hv⟩ | ⟨b, q, cap, hv, hl, _⟩
   · refine ⟨x, w, M, ?_, r, hx, Ext.refl M s w⟩
     rw [hv]
     exact run_append_empty ht hi hs0 (Nat.le_refl _)
   · refine ⟨x, w, M, ?_, r, hx, Ext.refl M s w⟩
     rw [hv]
     exact run_append_empty ht hi hs0 (Nat.zero_le _)
   · refine ⟨x, w, M, ?_, r, hx, Ext.refl M s w⟩
     rw [hv]
     exact run_append_empty ht hi hs0 hl
 | cons n0 new =>
   have hne : (n0 :: new) ≠ [] := by simp
   generalize hnew : n0 :: new = new' at *
   have hzy : zy = i.size := hc2.resolve_left hne
   subst hzy
   obtain ⟨hsy, news, hs, hnews⟩ := (src _ _ _ rfl).2 hne rfl
   have hm : 0 < new'.length := List.length_pos_iff.2 hne
   have hsmall : (rows.length + new'.length) * i.bytes ≤ 140737488355328 := by rw [Nat.mul_succ] at hc3; simp only [maxStr] at hc3; omega
   have hshort : rows.length + new'.length ≤ 1099511627776 := by rw [Nat.mul_succ] at hc3; simp only [maxStr] at hc3; omega
   -- what the first argument reads as
   obtain ⟨base, cap, olds, hxv, hle, hol, hod, hoone, hord, hsx, hoG, htag⟩ : ∃ (base : Option Addr) (cap : Nat) (olds : List Value), x = .slice base rows.length cap ∧ rows.length ≤ cap ∧ olds.length = rows.length * i.size ∧
       (Builtin.firstCells i.size rows.length (.slice base rows.length cap)).run P w.drew = .ok olds.toArray w.drew ∧ (∀ u ∈ olds, u.oneCell' = true) ∧
       (∀ (k : Nat) (row : List D) (j : Nat) (d : D) (v : Value), rows[k]? = some row → row[j]? = some d → olds[k * i.size + j]? = some v → RD M s d v) ∧ (∀ row ∈ rows, row.length = i.size) ∧
       (∀ b q, base = some ⟨b, q, none⟩ → ∀ o, o < rows.length * i.size → M.G b (q + o) = olds[o]?) ∧
       ((base = none ∧ rows = [] ∧ TagOk M s g zx 0 none cap) ∨ ∃ b q, base = some ⟨b, q, none⟩ ∧ TagOk M s g zx rows.length (some (b, q)) cap) := by
     rcases hc1 with h0 | h0
     · subst h0
       rcases hx.slice_inv with ⟨_, hv, htag⟩ | ⟨_, rfl, _⟩ | ⟨b, q, cap, hv, hl, _, _, _, htag⟩
       · exact ⟨none, 0, [], hv, Nat.le_refl _, by simp, by simp [Builtin.firstCells], by simp, by simp, by simp, by simp, .inl ⟨rfl, rfl, htag⟩⟩
       · exfalso; simp only [← hnew] at he; cases he
       · exact ⟨some ⟨b, q, none⟩, cap, [], hv, hl, by simp, by simp [Builtin.firstCells, loadCells, loadCellsFrom], by simp, by simp, by simp, by simp, .inr ⟨b, q, rfl, htag⟩⟩
     · subst h0
       obtain ⟨olds, ho1, ho2, ho3⟩ := slice_src r ht hx
       rcases hx.slice_inv with ⟨h0, hv, htag⟩ | ⟨_, rfl, _⟩ | ⟨b, q, cap, hv, hl, hs', _, _, htag⟩
       · subst h0
         refine ⟨none, 0, olds, hv, Nat.le_refl _, ho1.newsLen, ?_, ho1.one, ho2, by simp, by simp, .inl ⟨rfl, rfl, htag⟩⟩
         have := ho1.cellsD; rw [hv] at this; exact this
       · exfalso; simp only [← hnew] at he; cases he
       · refine ⟨some ⟨b, q, none⟩, cap, olds, hv, hl, ho1.newsLen, ?_, ho1.one, ho2, hs', fun b' q' heq o ho => ?_, .inr ⟨b, q, rfl, htag⟩⟩
         · have := ho1.cellsD; rw [hv] at this; exact this
         · cases heq; exact ho3 b q _ cap hv o ho
   subst hxv
   -- the way that makes a new row
   have grow : ∀ (hg : cap < rows.length + new'.length), ∃ (w' : World) (M1 : Map) (vs : Array Value) (ncap : Nat),
       (Builtin.append_ #[t, u] ty #[.slice base rows.length cap, y]).run P w = .ok (.slice (some ⟨w.heap.size, 0, none⟩) (rows.length + new'.length) ncap) w' ∧
       w'.heap[w.heap.size]? = some (.cells vs e (0, 0)) ∧ vs.size = ncap * i.size ∧ rows.length + new'.length ≤ ncap ∧ M1 = M.commit w.heap.size ((rows.length + new'.length) * i.size) vs ∧
       RowsR M s i.size (rows ++ new') vs ∧ Rel M1 s w' ∧ Ext M s w M1 s w' := by
     intro hg
     have hge := grownCap_ge w (rows.length + new'.length) cap e
     have hrun := run_append_grow_src (P := P) w t u ty e i z ht hi hz base rows.length cap olds hod y new'.length news hs hg (by omega) (growslice_fits hg hsmall)
     have hrow := grown_rows (M := M) (s := s) hsx hsy hol hs.newsLen hoone hs.one hord hnews (Builtin.zeroCells z.cells (grownCap w (rows.length + new'.length) cap e - (rows.length + new'.length))) (zeroCells_one hz1 _)
     obtain ⟨r1, e1⟩ := (r.of_heap (w' := w.drew) rfl).commit ((rows.length + new'.length) * i.size) _ e (0, 0) hrow.2.2.1
     refine ⟨_, _, _, _, hrun, heap_alloc_new w.drew _, ?_, hge, rfl, hrow, r1, (Ext.of_heap (M := M) (s := s) (w := w) (w' := w.drew) rfl rfl rfl rfl).trans e1⟩
     simp only [Array.size_append, List.size_toArray, List.length_append, size_zeroCells, hzs, hol, hs.newsLen, ← Nat.add_mul]
     congr 1; omega
   have hlen : (rows ++ new').length = rows.length + new'.length := by simp
   cases g with
   | shared => simp only [← hnew] at he; cases he
   | full =>
     have hcap : cap = rows.length := by
       rcases htag with ⟨_, h0, h1⟩ | ⟨_, _, _, h1⟩
       · subst h0; exact h1
       · exact h1
     obtain ⟨w', M1, vs, ncap, hrun, hh, hsz, hn, hM1, hrow, r1, e1⟩ := grow (by omega)
     simp only [← hnew] at he
     simp only [hnew] at he
     cases he
     have hzb : zs (bz eb i.size) = i.size := zs_bz (fun h => (heb h).2) hpos
     have hyb : bz eb i.size = 0 → e = byteT := fun h0 => by
       cases eb with
       | true => exact (heb rfl).1
       | false => simp [bz] at h0; omega
     obtain ⟨r2, l2⟩ := r1.pushT (rows.length + new'.length) w.heap.size ncap (bz eb i.size) vs e hh (by rw [hzb]; exact hsz) hn hyb
       (fun off ho => by rw [hzb] at ho; rw [hM1]; simp [Map.commit]; omega)
       (fun o ho => by have := r.mu_lt ho; rw [hM1]; show M.mu o ≠ _; omega) (fun q c z' hl heq => by
         have : M.be q = some (w.heap.size, c, z') := by rw [hM1] at heq; exact heq
         have := r.be_lt hl this; omega)
     refine ⟨_, w', _, hrun, r2, ?_, ?_⟩
     · obtain ⟨f1, f2⟩ := hrow.fixed (e1.le.trans l2) (b := w.heap.size) (fun o ho => by
         rw [hM1, hlen] at *
         simp [Map.setT, Map.commit, ho])
       have key := RD.slice (M := M1.setT s.toks.length (some (w.heap.size, ncap, bz eb i.size))) (s := { s with toks := s.toks ++ [some (rows.length + new'.length)] }) (.tok s.toks.length eb) i.size (rows ++ new') w.heap.size 0 ncap (by rw [hlen]; exact hn) hrow.2.1 f1 f2
         ⟨by simp, fun n hn' => by
           simp at hn'
           subst hn'
           exact ⟨by rw [hlen]; exact Nat.le_refl _, fun _ => .inr ⟨_, rfl, by simp [Map.setT]⟩⟩⟩
       rw [hlen] at key
       exact key
     · refine ⟨e1.le.trans l2, e1.kept, e1.newO, fun q b c z' hl heq => ?_, e1.newG, e1.size, e1.os, e1.tape, e1.output⟩
       obtain ⟨k, hk⟩ := hl
       rcases Nat.lt_or_ge q s.toks.length with h | h
       · have heq' : M1.be q = some (b, c, z') := by
           have : (M1.setT s.toks.length (some (w.heap.size, ncap, bz eb i.size))).be q = M1.be q := by simp [Map.setT]; omega
           rw [this] at heq; exact heq
         simp only [List.getElem?_append_left h] at hk
         exact e1.newT q b c z' ⟨k, hk⟩ heq'
       · have := (List.getElem?_eq_some_iff.1 hk).1
         simp at this
         have : q = s.toks.length := by omega
         subst this
         have : (M1.setT s.toks.length (some (w.heap.size, ncap, bz eb i.size))).be s.toks.length = some (w.heap.size, ncap, bz eb i.size) := by simp [Map.setT]
         rw [this] at heq; cases heq
         exact .inr (Nat.le_refl _)
   | tok q yb =>
     simp only [← hnew] at he
     simp only [hnew] at he
     split at he
     case isFalse => cases he
     rename_i hq
     obtain ⟨hyb, hzx, hq⟩ := hq
     cases he
     have hzb : zs (bz yb i.size) = i.size := zs_bz (fun h => (heb (hyb h)).2) hpos
     have hyb' : bz yb i.size = 0 → e = byteT := fun h0 => by
       cases yb with
       | true => exact (heb (hyb rfl)).1
       | false => simp [bz] at h0; omega
     have hmove : ∀ (hg : cap < rows.length + new'.length), ∃ v w' M', (Builtin.append_ #[t, u] ty #[.slice base rows.length cap, y]).run P w = .ok v w' ∧ Rel M' { s with toks := s.toks.set q (some (rows.length + new'.length)) } w' ∧
         RD M' { s with toks := s.toks.set q (some (rows.length + new'.length)) } (.slice (.tok q yb) i.size (rows ++ new')) v ∧ Ext M s w M' { s with toks := s.toks.set q (some (rows.length + new'.length)) } w' := by
       intro hg
       obtain ⟨w', M1, vs, ncap, hrun, hh, hsz, hn, hM1, hrow, r1, e1⟩ := grow hg
       have hql : q < s.toks.length := (List.getElem?_eq_some_iff.1 hq).1
       obtain ⟨r2, l2⟩ := r1.moveT q rows.length (rows.length + new'.length) w.heap.size ncap (bz yb i.size) vs e hq (by omega) hh (by rw [hzb]; exact hsz) hn hyb'
         (fun off ho => by rw [hzb] at ho; rw [hM1]; simp [Map.commit]; omega)
         (fun o ho => by have := r.mu_lt ho; rw [hM1]; show M.mu o ≠ _; omega) (fun q c z' hl heq => by
           have : M.be q = some (w.heap.size, c, z') := by rw [hM1] at heq; exact heq
           have := r.be_lt hl this; omega)
       refine ⟨_, w', _, hrun, r2, ?_, ?_⟩
       · obtain ⟨f1, f2⟩ := hrow.fixed (e1.le.trans l2) (b := w.heap.size) (fun o ho => by
           rw [hM1, hlen] at *
           simp [Map.setT, Map.commit, ho])
         have key := RD.slice (M := M1.setT q (some (w.heap.size, ncap, bz yb i.size))) (s := { s with toks := s.toks.set q (some (rows.length + new'.length)) }) (.tok q yb) i.size (rows ++ new') w.heap.size 0 ncap (by rw [hlen]; exact hn) hrow.2.1 f1 f2
           ⟨by simp [hql], fun n hn' => by
             simp [hql] at hn'
             subst hn'
             exact ⟨by rw [hlen]; exact Nat.le_refl _, fun _ => .inr ⟨_, rfl, by simp [Map.setT]⟩⟩⟩
         rw [hlen] at key
         exact key
       · refine ⟨e1.le.trans l2, e1.kept, e1.newO, fun q' b c z' hl heq => ?_, e1.newG, e1.size, e1.os, e1.tape, e1.output⟩
         obtain ⟨k, hk⟩ := hl
         by_cases h : q' = q
         · subst h
           have : (M1.setT q' (some (w.heap.size, ncap, bz yb i.size))).be q' = some (w.heap.size, ncap, bz yb i.size) := by simp [Map.setT]
           rw [this] at heq; cases heq
           exact .inr (Nat.le_refl _)
         · have heq' : M1.be q' = some (b, c, z') := by
             have : (M1.setT q (some (w.heap.size, ncap, bz yb i.size))).be q' = M1.be q' := by simp [Map.setT, h]
             rw [this] at heq; exact heq
           simp only [List.getElem?_set_ne (Ne.symm h)] at hk
           exact e1.newT q' b c z' ⟨k, hk⟩ heq'
     rcases htag with ⟨rfl, rfl, h1⟩ | ⟨b, k, rfl, h1⟩
     · obtain ⟨_, h2⟩ := h1
       obtain ⟨_, h3⟩ := h2 _ hq
       rcases h3 rfl with ⟨_, h4⟩ | ⟨b, h4, _⟩
       · exact hmove (by simp; omega)
       · cases h4
     · obtain ⟨_, h2⟩ := h1
       obtain ⟨_, h3⟩ := h2 _ hq
       rcases h3 rfl with ⟨_, h4⟩ | ⟨b2, h4, hbe⟩
       · exact hmove (by omega)
       cases h4
       subst hzx
       by_cases hroom : rows.length + new'.length ≤ cap
       · rcases r.tok q rows.length hq with ⟨h4, _⟩ | ⟨b', cap', size', vs, T, h4, h5, h6, h7, h8⟩
         · rw [hbe] at h4; cases h4
         · rw [hbe] at h4; cases h4
           rw [hzb] at h6
           obtain ⟨r2, e2⟩ := r.growT q rows.length new'.length b cap (bz yb i.size) i.size news hzb hq hbe hs.newsLen hroom hm hs.one vs T h5 h6 h8.2
           have hfit : rows.length * i.size + news.length ≤ vs.size := by rw [hs.newsLen, h6, ← Nat.add_mul]; exact Nat.mul_le_mul_right _ hroom
           have hst := run_storeCells_at P b (rows.length * i.size) T news 0 vs w h5 (by simpa using hfit) hs.one
           simp only [Nat.add_zero] at hst
           have hrun : (Builtin.append_ #[t, u] ty #[.slice (some ⟨b, 0, none⟩) rows.length cap, y]).run P w = .ok (.slice (some ⟨b, 0, none⟩) (rows.length + new'.length) cap) (w.setRow b (vs.toList.take (rows.length * i.size) ++ news ++ vs.toList.drop (rows.length * i.size + news.length)).toArray) := by
             rcases hs.kind with ⟨e'', hk⟩ | hk <;> simp [Builtin.append_, run_underlying ht, run_underlying hk, sizeOf, typeInfo, hi, hs.len, hroom, hs.cells, Addr.add_lit, hst]
           refine ⟨_, _, _, hrun, r2, ?_, e2⟩
           have hG : ∀ o, o < (rows ++ new').length * i.size → (M.fix b (rows.length * i.size) news).G b o = (olds ++ news).toArray[o]? := by
             intro o ho
             rw [hlen, Nat.add_mul] at ho
             rw [List.getElem?_toArray]
             by_cases h9 : o < rows.length * i.size
             · rw [List.getElem?_append_left (by omega)]
               have : (M.fix b (rows.length * i.size) news).G b o = M.G b o := by simp [Map.fix]; omega
               rw [this]
               have := hoG b 0 rfl o h9
               rwa [Nat.zero_add] at this
             · rw [List.getElem?_append_right (by omega), hol]
               have : (M.fix b (rows.length * i.size) news).G b o = news[o - rows.length * i.size]? := by
                 simp only [Map.fix]; rw [if_pos ⟨trivial, by omega, by rw [hs.newsLen]; omega⟩]
               rw [this]
           have hrow := grown_rows (M := M) (s := s) hsx hsy hol hs.newsLen hoone hs.one hord hnews #[] (by simp)
           rw [Array.append_empty] at hrow
           obtain ⟨f1, f2⟩ := hrow.fixed e2.le (b := b) hG
           have hql : q < s.toks.length := (List.getElem?_eq_some_iff.1 hq).1
           have key := RD.slice (M := M.fix b (rows.length * i.size) news) (s := { s with toks := s.toks.set q (some (rows.length + new'.length)) }) (.tok q yb) i.size (rows ++ new') b 0 cap (by rw [hlen]; exact hroom) hrow.2.1 f1 f2
             ⟨by simp [hql], fun n hn' => by
               simp [hql] at hn'
               subst hn'
               exact ⟨by rw [hlen]; exact Nat.le_refl _, fun _ => .inr ⟨_, rfl, hbe⟩⟩⟩
           rw [hlen] at key
           exact key
       · exact hmove (by omega)

theorem app_src (r : Rel M s w) {u e' : TypeId} {i : TypeInfo} (hu : P.underlying u = some (.slice e')) {y : Value} {dy : D} (hy : RD M s dy y) (g : Tag) (size : Nat) (rows : List (List D)) (hdy : dy = .slice g size rows) :
   (rows = [] → Src P i.size u y 0 [] w) ∧ (rows ≠ [] → size = i.size → (∀ row ∈ rows, row.length = i.size) ∧ ∃ news : List Value, Src P i.size u y rows.length news w ∧
     (∀ (k : Nat) (row : List D) (j : Nat) (d : D) (v : Value), rows[k]? = some row → row[j]? = some d → news[k * i.size + j]? = some v → RD M s d v)) := by
 subst hdy
 refine ⟨fun h0 => ?_, fun hne hsz => ?_⟩
 · subst h0
   rcases hy.slice_inv with ⟨_, rfl, _⟩ | ⟨_, _, a, cap, rfl⟩ | ⟨b, q, cap, rfl, _⟩
   · exact Src.ofNil w hu 0
   · exact Src.ofSlice w hu a 0 cap [] (by simp) (by simp) (by simp)
   · exact Src.ofSlice w hu ⟨b, q, none⟩ 0 cap [] (by simp) (by simp) (by simp)
 · subst hsz
   obtain ⟨news, h1, h2, _⟩ := slice_src r hu hy
   refine ⟨?_, news, h1, h2⟩
   rcases hy.slice_inv with ⟨h0, _⟩ | ⟨h0, _⟩ | ⟨_, _, _, _, _, h, _⟩
   · exact (hne h0).elim
   · exact (hne h0).elim
   · exact h

theorem app_sound (r : Rel M s w) {t u ty e e' : TypeId} {i : TypeInfo} {z : Value} (ht : P.underlying t = some (.slice e)) (hu : P.underlying u = some (.slice e')) (hi : P.info? e = some i) (hz : i.zero = some z)
   (hzs : z.cells.size = i.size) (hz1 : ∀ v ∈ z.cells, v.oneCell' = true) {dx dy d : D} {x y : Value} {s' : St} (hx : RD M s dx x) (hy : RD M s dy y) (hpos : 0 < i.size) (he : appD i.size i.bytes dx dy s = some (d, s')) :
   ∃ v w' M', (Builtin.append_ #[t, u] ty #[x, y]).run P w = .ok v w' ∧ Rel M' s' w' ∧ RD M' s' d v ∧ Ext M s w M' s' w' :=
 app_core false r ht hi hz hzs hz1 hx (fun h => by cases h) hpos (appD_T he) (app_src r hu hy)

theorem appb_sound (r : Rel M s w) {t u ty e' : TypeId} {i : TypeInfo} {z : Value} (ht : P.underlying t = some (.slice byteT)) (hu : P.underlying u = some (.slice e')) (hi : P.info? byteT = some i) (hz : i.zero = some z) (h1 : i.size = 1) (h2 : i.bytes = 1)
   (hzs : z.cells.size = i.size) (hz1 : ∀ v ∈ z.cells, v.oneCell' = true) {dx dy d : D} {x y : Value} {s' : St} (hx : RD M s dx x) (hy : RD M s dy y) (he : appB dx dy s = some (d, s')) :
   ∃ v w' M', (Builtin.append_ #[t, u] ty #[x, y]).run P w = .ok v w' ∧ Rel M' s' w' ∧ RD M' s' d v ∧ Ext M s w M' s' w' :=
 app_core true r ht hi hz hzs hz1 hx (fun _ => ⟨rfl, h1⟩) (by omega) (by rw [h1, h2]; exact appB_T he) (app_src r hu hy)

theorem apps_sound (r : Rel M s w) {t u ty : TypeId} {i : TypeInfo} {z : Value} (ht : P.underlying t = some (.slice byteT)) (hu : P.underlying u = some .string) (hi : P.info? byteT = some i) (hz : i.zero = some z) (h1 : i.size = 1) (h2 : i.bytes = 1)
   (hzs : z.cells.size = i.size) (hz1 : ∀ v ∈ z.cells, v.oneCell' = true) {dx d : D} {x : Value} {l : List UInt8} {s' : St} (hx : RD M s dx x) (he : appB dx (.slice .shared 1 (l.map fun c => [.int .u8 c.toNat])) s = some (d, s')) :
   ∃ v w' M', (Builtin.append_ #[t, u] ty #[x, .string ⟨⟨l⟩⟩]).run P w = .ok v w' ∧ Rel M' s' w' ∧ RD M' s' d v ∧ Ext M s w M' s' w' := by
 have hs : Src P i.size u (.string ⟨⟨l⟩⟩) l.length (l.map fun c => .int .u8 c.toNat) w := by
   rw [h1]
   exact Src.ofString w hu ⟨⟨l⟩⟩
 refine app_core true r ht hi hz hzs hz1 hx (fun _ => ⟨rfl, h1⟩) (by omega) (by rw [h1, h2]; exact appB_T he) fun g size rows hdy => ?_
 cases hdy
 refine ⟨fun h0 => ?_, fun hne hsz => ?_⟩
 · have : l = [] := by simpa using h0
   subst this
   exact hs
 · refine ⟨fun row hr => ?_, _, by simpa using hs, fun k row j d v e1 e2 e3 => ?_⟩
   · obtain ⟨c, _, rfl⟩ := List.mem_map.1 hr
     rw [h1]; rfl
   · rw [List.getElem?_map, Option.map_eq_some_iff] at e1
     obtain ⟨c, e1, rfl⟩ := e1
     cases j with
     | zero =>
       simp at e2
       subst e2
       simp [h1, e1] at e3
       subst e3
       exact .int _ _
     | succ j => simp at e2

end
end Go.Abs

/-! Sound6 -/

namespace Go.Abs

section
variable {P : Program} {M : Map} {s : St} {w : World}

theorem map_some {α β : Type} {f : α → β} {x : Option α} {y : β} (h : x.map f = some y) : ∃ a, x = some a ∧ y = f a := by
 cases x with
 | none => cases h
 | some a => cases h; exact ⟨a, rfl, rfl⟩

theorem zeroOf_some {t : TypeId} {z : List D} (h : zeroOf P t = some z) : ∃ i v, P.info? t = some i ∧ i.zero = some v ∧ v.cells.size = i.size ∧ litCells v.cells.toList = some z := by
 unfold zeroOf at h
 split at h
 · rename_i i hi
   split at h
   · rename_i v hv
     split at h
     · exact ⟨i, v, hi, hv, ‹_›, h⟩
     · cases h
   · cases h
 · cases h

theorem zeroOf_cells {z : List D} {v : Value} (h : litCells v.cells.toList = some z) : CellsR M s z v.cells := by
 obtain ⟨h1, h2, h3⟩ := litCells_sound (M := M) (s := s) h
 exact ⟨by simpa using h1.symm, fun u hu => h2 u (by simpa using hu), fun i d u e1 e2 => h3 i d u e1 (by simpa using e2)⟩

theorem zeroB_some {t : TypeId} {z : List D} (h : zeroB P t = some z) : ∃ i v, P.info? t = some i ∧ i.zero = some v ∧ v.cells.size = i.size ∧ CellsR M s z v.cells := by
 unfold zeroB at h
 split at h
 · rename_i i hi
   split at h
   · rename_i v hv
     split at h
     · refine ⟨i, v, hi, hv, ‹_›, ?_⟩
       obtain ⟨h1, h2, h3⟩ := litsB_sound (M := M) (s := s) h
       exact ⟨by simpa using h1.symm, fun u hu => h2 u (by simpa using hu), fun i d u e1 e2 => h3 i d u e1 (by simpa using e2)⟩
     · cases h
   · cases h
 · cases h

theorem cParts_sound {t : TypeId} {tm : Tm} {act : Act} (hr : RTm M s tm act.tmps) : ∀ {l : List (Nat × Operand)} {ps : List (Nat × Nat × X)}, cParts P t l = some ps →
   (ps.map fun p => (p.1, p.2.1, p.2.2.ev tm)).length = (l.map fun p => (p.1, act.eval p.2)).length ∧
   ∀ (j : Nat) (i : Nat) (v : Value) (off size : Nat) (d : D), (l.map fun p => (p.1, act.eval p.2))[j]? = some (i, v) → (ps.map fun p => (p.1, p.2.1, p.2.2.ev tm))[j]? = some (off, size, d) →
     (∃ a, fieldAtT P t i = some (off, size, a)) ∧ RD M s d v
 | [], ps, h => by cases h; exact ⟨rfl, by simp⟩
 | (i0, x) :: l, ps, h => by
   unfold cParts at h
   split at h
   · rename_i off size a x' r' h1 h2 h3
     cases h
     obtain ⟨g1, g2⟩ := cParts_sound hr h3
     refine ⟨by simpa using g1, fun j i v off' size' d e1 e2 => ?_⟩
     cases j with
     | zero =>
       simp at e1 e2
       obtain ⟨rfl, rfl⟩ := e1
       obtain ⟨rfl, rfl, rfl⟩ := e2
       exact ⟨⟨a, h1⟩, cX_sound h2 hr⟩
     | succ j => exact g2 j i v off' size' d (by simpa using e1) (by simpa using e2)
   · cases h

theorem cIdx_sound {tm : Tm} {act : Act} (hr : RTm M s tm act.tmps) : ∀ {l : List (Nat × Operand)} {ps : List (Nat × X)}, cIdx l = some ps →
   (ps.map fun p => (p.1, p.2.ev tm)).length = (l.map fun p => (p.1, act.eval p.2)).length ∧
   ∀ (j : Nat) (i : Nat) (v : Value) (i' : Nat) (d : D), (l.map fun p => (p.1, act.eval p.2))[j]? = some (i, v) → (ps.map fun p => (p.1, p.2.ev tm))[j]? = some (i', d) → i' = i ∧ RD M s d v
 | [], ps, h => by cases h; exact ⟨rfl, by simp⟩
 | (i0, x) :: l, ps, h => by
   unfold cIdx at h
   split at h
   · rename_i x' r' h1 h2
     cases h
     obtain ⟨g1, g2⟩ := cIdx_sound hr h2
     refine ⟨by simpa using g1, fun j i v i' d e1 e2 => ?_⟩
     cases j with
     | zero =>
       simp at e1 e2
       obtain ⟨rfl, rfl⟩ := e1
       obtain ⟨rfl, rfl⟩ := e2
       exact ⟨rfl, cX_sound h1 hr⟩
     | succ j => exact g2 j i v i' d (by simpa using e1) (by simpa using e2)
   · cases h

theorem places_run : ∀ (l : List Field), (∀ f ∈ l, (P.info? f.type).isSome) →
   ∃ ps : List (Nat × Nat), (l.mapM fun f => do pure (f.offset, ← sizeOf f.type) : Sem (List (Nat × Nat))).run P w = .ok ps w ∧
     ∀ (j : Nat) (f : Field) (i : TypeInfo), l[j]? = some f → P.info? f.type = some i → ps[j]? = some (f.offset, i.size)
 | [], _ => ⟨[], rfl, by simp⟩
 | f :: l, h => by
   obtain ⟨i, hi⟩ := Option.isSome_iff_exists.1 (h f (by simp))
   obtain ⟨ps, h1, h2⟩ := places_run l (fun g hg => h g (by simp [hg]))
   refine ⟨(f.offset, i.size) :: ps, ?_, fun j g i' e1 e2 => ?_⟩
   · rw [List.mapM_cons]
     simp only [Sem.run_bind, sizeOf, info_run P hi, Result.andThen_ok, Sem.run_pure] at h1 ⊢
     simp only [h1, Result.andThen_ok]
   · cases j with
     | zero => simp at e1; subst e1; rw [hi] at e2; cases e2; rfl
     | succ j => exact h2 j g i' (by simpa using e1) e2

theorem does_build (r : Rel M s w) {t : TypeId} {fs : Array Field} {z : List D} {l : List (Nat × Operand)} {ps : List (Nat × Nat × X)} {tm : Tm} {act : Act} {cs : List D} (hr : RTm M s tm act.tmps)
   (ht : P.underlying t = some (.struct fs)) (hfs : (fs.toList.all fun f => (P.info? f.type).isSome) = true) (hz : zeroB P t = some z) (hp : cParts P t l = some ps) (hf : fillD z (ps.map fun p => (p.1, p.2.1, p.2.2.ev tm)) = some cs) :
   Does P M s w (do pure (.value (← Instr.build t (l.toArray.map fun (i, x) => (i, act.eval x))))) (.agg cs) s := by
 obtain ⟨i, v, h1, h2, h3, hc⟩ := zeroB_some (M := M) (s := s) hz
 obtain ⟨g1, g2⟩ := cParts_sound hr hp
 obtain ⟨pl, p1, p2⟩ := places_run (P := P) (w := w) fs.toList (fun f hf' => by simpa using List.all_eq_true.1 hfs f hf')
 have hplaces : (fs.mapM fun f => do pure (f.offset, ← sizeOf f.type) : Sem (Array (Nat × Nat))).run P w = .ok pl.toArray w := by
   rw [Array.mapM_eq_mapM_toList, Sem.run_map, p1]; rfl
 obtain ⟨vs, f1, f2⟩ := fill_run (place := (pl.toArray[·]?)) (l.map fun p => (p.1, act.eval p.2)) _ z v.cells cs hc g1 (fun j i v off size d e1 e2 => by
   obtain ⟨⟨a, ha⟩, hd⟩ := g2 j i v off size d e1 e2
   refine ⟨?_, hd⟩
   unfold fieldAtT at ha
   rw [ht] at ha
   simp only at ha
   split at ha
   · rename_i fd hfd
     split at ha
     · rename_i i' a' hi' _
       split at ha
       · cases ha
       · cases ha
         simpa using p2 i fd i' (by simpa using hfd) hi'
     · cases ha
   · cases ha) hf
 refine Does.pure (v := .agg vs) r ?_ (.agg _ _ f2.1.symm f2.2.1 f2.2.2)
 have hpl : (l.toArray.map fun (i, x) => (i, act.eval x)).toList = l.map fun p => (p.1, act.eval p.2) := by simp
 unfold Instr.build
 simp only [Sem.run_bind, zeroValue, info_run P h1, h2, Result.andThen_ok, Sem.run_pure, run_underlying ht, hplaces, hpl, f1]

theorem does_bslice (r : Rel M s w) {t e : TypeId} {i : TypeInfo} {z : List D} {n : Nat} {l : List (Nat × Operand)} {ps : List (Nat × X)} {tm : Tm} {act : Act} {rows : List (List D)} (hr : RTm M s tm act.tmps)
   (ht : P.underlying t = some (.slice e)) (hi : P.info? e = some i) (hz : zeroOf P e = some z) (hpos : 0 < i.size) (hn : n * i.size ≤ 65536) (hp : cIdx l = some ps)
   (hf : fillRows i.size (zeroRows z n) (ps.map fun p => (p.1, p.2.ev tm)) = some rows) :
   ∃ (vs : Array Value) (T : TypeId), RowsR M s i.size rows vs ∧ rows.length = n ∧ vs.size = n * i.size ∧
     (Instr.buildSlice t n (l.toArray.map fun (i, x) => (i, act.eval x))).run P w = .ok (.slice (some ⟨w.heap.size, 0, none⟩) n n) (w.alloc (.cells vs T)) := by
 obtain ⟨i', v, h1, h2, h3, h4⟩ := zeroOf_some hz
 rw [hi] at h1; cases h1
 have hc := zeroOf_cells (M := M) (s := s) h4
 have hzl : z.length = i.size := by rw [← hc.1, h3]
 have hr0 := RowsR.zero hc (by omega) n
 rw [hzl] at hr0
 obtain ⟨g1, g2⟩ := cIdx_sound hr hp
 obtain ⟨vs, f1, f2, f3, f4⟩ := fillRows_run (l.map fun p => (p.1, act.eval p.2)) _ _ _ rows hr0 g1 g2 hf
 have hzr := zeroRows_length z n
 refine ⟨vs, e, f2, by rw [f3, hzr], by rw [f4]; simp, ?_⟩
 have hsmall : ¬ (n * i.size > 2 ^ 24) := by omega
 have hpl : (l.toArray.map fun (i, x) => (i, act.eval x)).toList = l.map fun p => (p.1, act.eval p.2) := by simp
 by_cases h0 : n * i.size = 0
 · have hcells : (Array.range (n * i.size)).map ((#[] : Array Value)[· % (#[] : Array Value).size]!) = (Array.range (n * i.size)).map (v.cells[· % v.cells.size]!) := by rw [h0]; simp
   unfold Instr.buildSlice
   simp only [Sem.run_bind, run_underlying ht, Result.andThen_ok, sizeOf, info_run P hi, Sem.run_pure, if_neg hsmall, if_pos h0, hcells, hpl, f1, newRow, run_newObj]
   rfl
 · unfold Instr.buildSlice
   simp only [Sem.run_bind, run_underlying ht, Result.andThen_ok, sizeOf, info_run P hi, Sem.run_pure, if_neg hsmall, if_neg h0, zeroValue, h2, hpl, f1, newRow, run_newObj]
   rfl

end
end Go.Abs

/-! Sound7 -/

namespace Go.Abs

section
variable {P : Program} {M : Map} {s : St} {w : World}

theorem foldl_push (ns : List Int) : ∀ r : ByteArray, ns.foldl (fun r n => r.push (UInt8.ofNat n.toNat)) r = ⟨r.data ++ (ns.map fun n => UInt8.ofNat n.toNat).toArray⟩ := by
 induction ns with
 | nil => intro r; simp
 | cons n ns ih => intro r; simp only [List.foldl_cons]; rw [ih]; simp [ByteArray.push]

theorem bytesOfRows_ints : ∀ {rows : List (List D)} {l : List UInt8}, bytesOfRows rows = some l → ∃ ns : List Int, rows = ns.map (fun n => [.int .u8 n]) ∧ l = ns.map fun n => UInt8.ofNat n.toNat
 | [], l, h => by cases h; exact ⟨[], rfl, rfl⟩
 | r :: rs, l, h => by
   unfold bytesOfRows at h
   split at h
   · rename_i b bs h1 h2
     cases h
     obtain ⟨ns, g1, g2⟩ := bytesOfRows_ints h2
     unfold byteOfRow at h1
     split at h1
     · rename_i n
       cases h1
       exact ⟨n :: ns, by rw [g1]; rfl, by rw [g2]; rfl⟩
     · cases h1
   · cases h

theorem does_tostr (r : Rel M s w) {src dst e : TypeId} {g : Tag} {z : Nat} {rows : List (List D)} {v : Value} {l : List UInt8} (hs : P.underlying src = some (.slice e)) (he : P.underlying e = some (.int .u8)) (hd : P.underlying dst = some .string)
   (hv : RD M s (.slice g z rows) v) (hb : bytesOfRows rows = some l) : Does P M s w (do pure (.value (← convert src dst v))) (.str l) s := by
 obtain ⟨ns, rfl, rfl⟩ := bytesOfRows_ints hb
 refine Does.pure (v := .string ⟨⟨ns.map fun n => UInt8.ofNat n.toNat⟩⟩) r ?_ (.str _)
 rcases hv.slice_inv with ⟨h0, rfl, _⟩ | ⟨h0, _, a, cap, rfl⟩ | ⟨b, q, cap, rfl, hl, hsz, g1, g2, _⟩
 · have : ns = [] := by simpa using h0
   subst this
   have := run_convert_bytes_string w src dst e none 0 0 hs he hd
   simp only [Sem.run_bind, this, Conv.bytesToString, Sem.run_pure, Result.andThen_ok]
   rfl
 · have : ns = [] := by simpa using h0
   subst this
   have h2 := run_convert_bytes_string w src dst e (some a) 0 cap hs he hd
   simp only [Sem.run_bind, h2, Conv.bytesToString, Sem.run_pure, Result.andThen_ok]
   rfl
 · have hcells := run_loadCells_list (P := P) w ⟨b, q, none⟩ (ns.map (Value.int .u8)) (fun j v hj => by
     rw [addr_add]
     simp only [List.getElem?_map, Option.map_eq_some_iff] at hj
     obtain ⟨n, hn, rfl⟩ := hj
     have hrow : (ns.map (fun n => [D.int .u8 n]))[j]? = some [.int .u8 n] := by simp [hn]
     have hz : z = 1 := by have := hsz [.int .u8 n] (List.mem_of_getElem? hrow); simpa using this.symm
     subst hz
     obtain ⟨u, hu⟩ := g1 j _ 0 _ hrow rfl
     have := g2 j _ 0 _ u hrow rfl hu
     rw [this.int_inv] at hu
     have := (r.comm _ _ _ hu).1
     simpa using this)
   simp only [List.length_map] at hcells ⊢
   have h1 := run_bytesToString (P := P) w ⟨b, q, none⟩ ns.length cap ns hcells
   have h2 := run_convert_bytes_string w src dst e (some ⟨b, q, none⟩) ns.length cap hs he hd
   simp only [Sem.run_bind, h2, h1, Sem.run_pure, Result.andThen_ok, foldl_push]
   congr 3
   simp [ByteArray.empty, ByteArray.emptyWithCapacity]
   rfl

theorem does_tobytes (r : Rel M s w) {src dst e : TypeId} {l : List UInt8} (hs : P.underlying src = some .string) (hd : P.underlying dst = some (.slice e)) (he : P.underlying e = some (.int .u8)) :
   Does P M s w (do pure (.value (← convert src dst (.string ⟨⟨l⟩⟩)))) (.slice .shared 1 (l.map fun c => [.int .u8 c.toNat])) s := by
 have hrun := run_bytes_of_string (P := P) w src dst e ⟨⟨l⟩⟩ hs hd he
 generalize hcap : grownCap w (ByteArray.size ⟨⟨l⟩⟩) 0 e = cap at hrun
 have hge : l.length ≤ cap := by rw [← hcap]; exact grownCap_ge w l.length 0 e
 have hrow : ∀ j, j < l.length → (bytesRow ⟨⟨l⟩⟩ cap)[j]? = some (.int .u8 ((l[j]?.getD 0).toNat : Int)) := by
   intro j hj
   unfold bytesRow
   rw [Array.getElem?_append_left (by simpa using hj)]
   simp [hj]
 have hsz : (bytesRow ⟨⟨l⟩⟩ cap).size = cap := by simp [bytesRow, mk_size]; omega
 have hone : ∀ v ∈ bytesRow ⟨⟨l⟩⟩ cap, v.oneCell' = true := by
   intro v hv
   unfold bytesRow at hv
   simp at hv
   rcases hv with ⟨a, _, rfl⟩ | ⟨_, rfl⟩ <;> rfl
 have hR : RowsR M s 1 (l.map fun c => [D.int .u8 c.toNat]) (bytesRow ⟨⟨l⟩⟩ cap) := by
   refine ⟨by simp [hsz]; omega, by simp, hone, fun i row j d v e1 e2 e3 => ?_⟩
   simp only [List.getElem?_map, Option.map_eq_some_iff] at e1
   obtain ⟨c, hc, rfl⟩ := e1
   cases j with
   | zero =>
     simp at e2; subst e2
     have hi := (List.getElem?_eq_some_iff.1 hc).1
     rw [show i * 1 + 0 = i by omega, hrow i hi, hc] at e3
     cases e3
     exact .int _ _
   | succ j => simp at e2
 obtain ⟨r1, e1⟩ := (r.of_heap (w' := w.drew) rfl).commit l.length (bytesRow ⟨⟨l⟩⟩ cap) e ((bytesRow ⟨⟨l⟩⟩ cap).size, (bytesRow ⟨⟨l⟩⟩ cap).size + 1) hone
 obtain ⟨f1, f2⟩ := hR.fixed e1.le (b := w.heap.size) (fun o ho => by simp at ho; simp [Map.commit, ho])
 refine ⟨.slice (some ⟨w.heap.size, 0, none⟩) l.length cap, _, _, .inl (by simp only [Sem.run_bind, hrun, Result.andThen_ok, Sem.run_pure]; rfl), r1, ?_, (Ext.of_heap (M := M) (s := s) (w := w) (w' := w.drew) rfl rfl rfl rfl).trans e1⟩
 have key := RD.slice (M := M.commit w.heap.size l.length (bytesRow ⟨⟨l⟩⟩ cap)) (s := s) .shared 1 (l.map fun c => [D.int .u8 c.toNat]) w.heap.size 0 cap (by simpa using hge) hR.2.1 f1 f2 trivial
 simp only [List.length_map] at key
 exact key

theorem does_frz (r : Rel M s w) {t e : TypeId} {q z : Nat} {yb : Bool} {rows : List (List D)} {v : Value} (ht : P.underlying t = some (.slice e)) (he : P.underlying e = some (.int .u8)) (hv : RD M s (.slice (.tok q yb) z rows) v) (hne : rows ≠ []) (hq : s.toks[q]? = some (some rows.length)) :
   Does P M s w (do pure (.value (← convert t t v))) (.slice .shared z rows) { s with toks := s.toks.set q none } := by
 rcases hv.slice_inv with ⟨h0, _, _⟩ | ⟨h0, _, _⟩ | ⟨b, k, cap, rfl, hl, hsz, g1, g2, htag⟩
 · exact (hne h0).elim
 · exact (hne h0).elim
 · obtain ⟨_, h2⟩ := htag
   obtain ⟨_, h3⟩ := h2 _ hq
   rcases h3 rfl with ⟨_, h4, _⟩ | ⟨b2, h4, hbe⟩
   · subst h4
     exact (hne (List.eq_nil_of_length_eq_zero (Nat.le_zero.1 hl))).elim
   cases h4
   obtain ⟨r1, l1⟩ := r.dropT q
   rcases r.tok q rows.length hq with ⟨h4, _⟩ | ⟨b', cap', size', vs, T, h4, h5, h6, h7, h8⟩
   · rw [hbe] at h4; cases h4
   · rw [hbe] at h4; cases h4
     have hlive : ∀ p, St.live { s with toks := s.toks.set q none } p → p ≠ q ∧ s.live p := by
       rintro p ⟨n, hn⟩
       rw [List.getElem?_set] at hn
       split at hn
       · simp at hn
       · rename_i hne; exact ⟨fun h => hne h.symm, n, hn⟩
     obtain ⟨r2, hh, hs', ho, htp, hout⟩ := r1.freeze (b := b) vs.size 1 (fun o ho => r.tokObj q b cap _ o ⟨_, hq⟩ hbe ho)
       (fun p c y hp heq => (hlive p hp).1 (r.tokInj p q b c y cap _ (hlive p hp).2 ⟨_, hq⟩ heq hbe))
     have hshape : w.shape? b = some (T, vs.size) := by simp [World.shape?, h5]
     refine ⟨.slice (some ⟨b, 0, none⟩) rows.length cap, _, M, .inl ?_, r2, ?_, ?_⟩
     · simp [convert, run_underlying ht, run_underlying he, markStringish, hshape]
     · have h9 := (RD.slice (M := M) (s := s) .shared z rows b 0 cap hl hsz g1 g2 trivial).mono l1
       exact h9
     · refine ⟨l1, fun p _ _ h4 => hh p (fun e => h4 q cap (bz yb z) ⟨_, hq⟩ (by rw [hbe, e])), fun o h3 h4 => ?_, fun p b' c y hp heq => .inl ⟨(hlive p hp).2, c, y, heq⟩, fun _ _ h => (h rfl).elim, by rw [hs']; exact Nat.le_refl _, ho, htp, hout⟩
       simp at h4; omega

theorem tok_sound (r : Rel M s w) {size : Nat} {rows : List (List D)} {vs : Array Value} (T : TypeId) (h : RowsR M s size rows vs) (hsz : vs.size = rows.length * size) (hpos : 0 < size) :
   ∃ M', RD M' { s with toks := s.toks ++ [some rows.length] } (.slice (.tok s.toks.length) size rows) (.slice (some ⟨w.heap.size, 0, none⟩) rows.length rows.length) ∧
   Rel M' { s with toks := s.toks ++ [some rows.length] } (w.alloc (.cells vs T)) ∧ Ext M s w M' { s with toks := s.toks ++ [some rows.length] } (w.alloc (.cells vs T)) := by
 obtain ⟨r1, e1⟩ := r.commit vs.size vs T (0, 0) h.2.2.1
 have hzs : zs size = size := by show (if size = 0 then 1 else size) = size; rw [if_neg (by omega)]
 obtain ⟨r2, l2⟩ := r1.pushT rows.length w.heap.size rows.length size vs T (heap_alloc_new w _) (by rw [hzs]; exact hsz) (Nat.le_refl _) (fun h => by omega)
   (fun off ho => by rw [hzs] at ho; simp [Map.commit]; omega) (fun o ho => by have := r.mu_lt ho; show M.mu o ≠ _; omega)
   (fun q c z' hl heq => by have := r.be_lt hl (show M.be q = some (w.heap.size, c, z') from heq); omega)
 obtain ⟨f1, f2⟩ := h.fixed (e1.le.trans l2) (b := w.heap.size) (fun o ho => by
   have : o < vs.size := Nat.lt_of_lt_of_le ho h.1
   simp [Map.setT, Map.commit, this])
 refine ⟨_, ?_, r2, ?_⟩
 · exact .slice _ size rows w.heap.size 0 rows.length (Nat.le_refl _) h.2.1 f1 f2 ⟨by simp, fun n hn => by
     simp at hn; subst hn
     exact ⟨Nat.le_refl _, fun _ => .inr ⟨_, rfl, by simp [Map.setT, bz]⟩⟩⟩
 · refine ⟨e1.le.trans l2, e1.kept, e1.newO, fun q b c z' hl heq => ?_, e1.newG, e1.size, e1.os, e1.tape, e1.output⟩
   obtain ⟨k, hk⟩ := hl
   rcases Nat.lt_or_ge q s.toks.length with h' | h'
   · have heq' : M.be q = some (b, c, z') := by
       have : ((M.commit w.heap.size vs.size vs).setT s.toks.length (some (w.heap.size, rows.length, size))).be q = M.be q := by simp [Map.setT, Map.commit]; omega
       rw [this] at heq; exact heq
     simp only [List.getElem?_append_left h'] at hk
     exact .inl ⟨⟨k, hk⟩, c, z', heq'⟩
   · have := (List.getElem?_eq_some_iff.1 hk).1
     simp at this
     have : q = s.toks.length := by omega
     subst this
     have : ((M.commit w.heap.size vs.size vs).setT s.toks.length (some (w.heap.size, rows.length, size))).be s.toks.length = some (w.heap.size, rows.length, size) := by simp [Map.setT]
     rw [this] at heq; cases heq
     exact .inr (Nat.le_refl _)

end
end Go.Abs

/-! Sound8 -/

namespace Go.Abs

section
variable {P : Program} {M : Map} {s : St} {w : World}

theorem cXo_lo {lo : Option Operand} {lo' : Option X} {tm : Tm} {act : Act} (hr : RTm M s tm act.tmps) (h : cXo lo = some lo') {l : Int} (hl : loD (lo'.map (·.ev tm)) = some l) : LoR (lo.map act.eval) l := by
 cases lo with
 | none => cases h; simp only [Option.map_none, loD, Option.some.injEq] at hl; exact .inl ⟨rfl, hl.symm⟩
 | some x =>
   obtain ⟨y, hy, rfl⟩ := map_some (f := some) h
   have := cX_sound hy hr
   simp only [Option.map_some] at hl ⊢
   cases hd : y.ev tm <;> rw [hd] at hl this <;> simp only [loD] at hl <;> try (cases hl; done)
   cases hl
   rw [this.int_inv]
   exact .inr ⟨_, rfl⟩

theorem cXo_hi {hi : Option Operand} {hi' : Option X} {tm : Tm} {act : Act} (hr : RTm M s tm act.tmps) (h : cXo hi = some hi') {len : Nat} {l : Int} (hl : hiD (hi'.map (·.ev tm)) len = some l) : HiR (hi.map act.eval) len l := by
 cases hi with
 | none => cases h; simp only [Option.map_none, hiD, Option.some.injEq] at hl; exact .inl ⟨rfl, hl.symm⟩
 | some x =>
   obtain ⟨y, hy, rfl⟩ := map_some (f := some) h
   have := cX_sound hy hr
   simp only [Option.map_some] at hl ⊢
   cases hd : y.ev tm <;> rw [hd] at hl this <;> simp only [hiD] at hl <;> try (cases hl; done)
   cases hl
   rw [this.int_inv]
   exact .inr ⟨_, rfl⟩

theorem part_field {t : TypeId} {f off size : Nat} {agg : Bool} (h : fieldAtT P t f = some (off, size, agg)) {cs : List D} {vs : Array Value} (hl : cs.length = vs.size) (h1 : ∀ v ∈ vs, v.oneCell' = true)
   (h2 : ∀ (i : Nat) (d : D) (v : Value), cs[i]? = some d → vs[i]? = some v → RD M s d v) {d : D} (hp : part cs off agg size = some d) (r : Rel M s w) :
   Does P M s w (do pure (.value (← Instr.field t (.agg vs) f))) d s := by
 let n := if agg then size else 1
 have hfit : off + n ≤ vs.size := by
   rcases part_some hp with ⟨rfl, h1, _⟩ | ⟨rfl, h1⟩
   · simp [n]; omega
   · have := (List.getElem?_eq_some_iff.1 h1).1; simp [n]; omega
 have hlen : ((vs.toList.drop off).take n).length = n := by simp; omega
 have hJ : ∀ (j : Nat), j < ((vs.toList.drop off).take n).length → vs[off + j]? = ((vs.toList.drop off).take n)[j]? := by
   intro j h
   rw [hlen] at h
   rw [List.getElem?_take, if_pos h, List.getElem?_drop]; simp
 refine Does.pure (v := if agg then .agg ((vs.toList.drop off).take n).toArray else ((vs.toList.drop off).take n).getD 0 Go.undef) r (by simp only [Sem.run_bind, field_run h vs _ hlen hJ, Result.andThen_ok, Sem.run_pure]) ?_
 refine part_sound hp _ hlen (fun _ u hu => h1 u (Array.mem_toList_iff.1 (List.mem_of_mem_drop (List.mem_of_mem_take hu)))) (fun j d u e1 e2 => h2 _ d u e1 ?_)
 rw [hJ j (List.getElem?_eq_some_iff.1 e2).1]; exact e2

theorem evalO_sound {o : Oper} {ao : AO} {tm : Tm} {act : Act} {d : D} {s' : St} (hc : cOp P o = some ao) (r : Rel M s w) (hr : RTm M s tm act.tmps) (he : evalO ao tm s = some (d, s')) :
   Does P M s w (execOp act.eval o) d s' := by
 obtain ⟨dst, op, type, pos, after, guard⟩ := o
 unfold cOp at hc
 simp only at hc
 cases op with
 | move x =>
   obtain ⟨y, hy, rfl⟩ := map_some hc
   cases he
   exact Does.pure r rfl (cX_sound hy hr)
 | assign x =>
   obtain ⟨y, hy, rfl⟩ := map_some hc
   cases he
   exact Does.pure r rfl (cX_sound hy hr)
 | pick c a b =>
   simp only at hc
   split at hc
   · rename_i c' a' b' h1 h2 h3
     cases hc
     simp only [evalO] at he
     split at he
     · rename_i t ht
       cases he
       have hcb := cX_sound h1 hr
       rw [ht] at hcb
       have := hcb.bool_inv
       refine Does.pure (v := if t then act.eval a else act.eval b) r ?_ ?_
       · simp only [execOp, this, asBool]
         simp
       · cases t
         · exact cX_sound h3 hr
         · exact cX_sound h2 hr
     · cases he
   · cases hc
 | alloc t =>
   simp only at hc
   split at hc
   · obtain ⟨z, hz, rfl⟩ := map_some hc
     simp only [evalO] at he
     split at he
     · cases he; exact does_allocB r hz
     · cases he
   · obtain ⟨z, hz, rfl⟩ := map_some hc
     cases he
     exact does_alloc r hz
 | box t x =>
   simp only at hc
   split at hc
   · obtain ⟨y, hy, rfl⟩ := map_some hc
     simp only [evalO] at he
     split at he
     · rename_i row hrow
       cases he
       exact does_boxB r (cX_sound hy hr) hrow
     · cases he
   · obtain ⟨y, hy, rfl⟩ := map_some hc
     simp only [evalO] at he
     split at he
     · rename_i row hrow
       cases he
       exact does_box r (cX_sound hy hr) hrow
     · cases he
 | build t parts =>
   simp only at hc
   split at hc
   · rename_i fs z ps h1 h2 h3
     split at hc
     · rename_i hfs
       cases hc
       simp only [evalO] at he
       split at he
       · rename_i cs hcs
         cases he
         have := does_build r hr h1 hfs h2 h3 hcs
         simpa [execOp] using this
       · cases he
     · cases hc
   · cases hc
 | buildSlice t n parts =>
   simp only at hc
   split at hc
   · rename_i e hu
     split at hc
     · rename_i i z ps h1 h2 h3
       split at hc
       · rename_i hcnd
         cases hc
         simp only [evalO] at he
         split at he
         · rename_i rows hrows
           cases he
           obtain ⟨vs, T, g1, g2, g3, g4⟩ := does_bslice r hr hu h1 h2 hcnd.1 hcnd.2 h3 hrows
           obtain ⟨f1, f2, f3⟩ := full_sound r T g1
           refine ⟨_, _, _, .inl ?_, f2, f1, f3⟩
           simp only [Array.toArray_toList] at g4
           simp only [execOp, Sem.run_bind, g4, Result.andThen_ok, Sem.run_pure]
           rw [g2]
         · cases he
       · cases hc
     · cases hc
   · cases hc
 | load t x =>
   simp only at hc
   split at hc
   · rename_i y a i h1 h2 h3
     cases hc
     have hx := cX_sound h1 hr
     simp only [evalO] at he
     split at he
     · rename_i o off ho
       rw [ho] at hx
       obtain ⟨hv, _⟩ := hx.ptr_inv
       split at he
       · rename_i cs hcs
         split at he
         · rename_i d' hd'
           cases he
           have := does_load_obj r h3 h2 hcs hd'
           simp only [execOp, hv]
           exact this
         · cases he
       · cases he
     · rename_i row off ho
       rw [ho] at hx
       obtain ⟨b, k, hv, g1, g2⟩ := hx.cptr_inv
       split at he
       · rename_i d' hd'
         cases he
         have := does_load_row r h3 h2 g1 g2 hd'
         simp only [execOp, hv]
         exact this
       · cases he
     · cases he
   · cases hc
 | store t a x =>
   simp only at hc
   split at hc
   · rename_i a' x' i h1 h2 h3
     cases hc
     have ha := cX_sound h1 hr
     have hx := cX_sound h2 hr
     simp only [evalO] at he
     split at he
     · rename_i o off row ho hrow
       rw [ho] at ha
       obtain ⟨hv, _⟩ := ha.ptr_inv
       split at he
       · rename_i cs hcs
         split at he
         · rename_i hfit
           cases he
           have := does_store r h3 hcs hx hrow hfit.1 hfit.2
           simp only [execOp, hv]
           exact this
         · cases he
       · cases he
     · cases he
   · cases hc
 | nilCheck x =>
   obtain ⟨y, hy, rfl⟩ := map_some hc
   have hx := cX_sound hy hr
   simp only [evalO] at he
   split at he
   · rename_i o off ho
     cases he
     rw [ho] at hx
     have hv := hx.ptr_inv.1
     rw [hv] at hx
     simp only [execOp, hv]
     exact does_nilck r hx
   · rename_i row off ho
     cases he
     rw [ho] at hx
     obtain ⟨b, k, hv, _⟩ := hx.cptr_inv
     rw [hv] at hx
     simp only [execOp, hv]
     exact does_nilck r hx
   · cases he
 | binOp op t x y yt =>
   simp only at hc
   split at hc
   · rename_i x' y' h1 h2
     have hx := cX_sound h1 hr
     have hy := cX_sound h2 hr
     have fin : ∀ d', binD op (x'.ev tm) (y'.ev tm) = some d' → (d', s) = (d, s') → Does P M s w (execOp act.eval ⟨dst, .binOp op t x y yt, type, pos, after, guard⟩) d s' := by
       intro d' hd' heq
       cases heq
       exact does_bin r hx hy hd'
     have fin2 : (match binD op (x'.ev tm) (y'.ev tm) with | some d => some (d, s) | none => none) = some (d, s') → Does P M s w (execOp act.eval ⟨dst, .binOp op t x y yt, type, pos, after, guard⟩) d s' := by
       intro h
       split at h
       · rename_i d' hd'
         exact fin d' hd' (by cases h; rfl)
       · cases h
     have finb : ∀ neg, op = (if neg then .neq else .eql) → P.underlying t = some .bool → evalO (.eqb neg x' y') tm s = some (d, s') → Does P M s w (execOp act.eval ⟨dst, .binOp op t x y yt, type, pos, after, guard⟩) d s' := by
       intro neg hop ht h
       simp only [evalO] at h
       split at h
       · rename_i p q hp hq
         cases h
         rw [hp] at hx; rw [hq] at hy
         simp only [execOp, hx.bool_inv, hy.bool_inv, hop]
         exact does_eqb r ht
       · cases h
     have finp : ∀ neg e, op = (if neg then .neq else .eql) → P.underlying t = some (.pointer e) → evalO (.eqp neg x' y') tm s = some (d, s') → Does P M s w (execOp act.eval ⟨dst, .binOp op t x y yt, type, pos, after, guard⟩) d s' := by
       intro neg e hop ht h
       simp only [evalO] at h
       split at h
       · rename_i hp hq
         cases h
         rw [hp] at hx; rw [hq] at hy
         simp only [execOp, hx.nilp_inv, hy.nilp_inv, hop]
         have := does_eqp r (neg := neg) (x := x) (y := y) (a := none) ht
         cases neg <;> simpa using this
       · rename_i o off hp hq
         cases h
         rw [hp] at hx; rw [hq] at hy
         simp only [execOp, hx.ptr_inv.1, hy.nilp_inv, hop]
         have := does_eqp r (neg := neg) (x := x) (y := y) (a := some ⟨M.mu o, off, none⟩) ht
         cases neg <;> simpa using this
       · rename_i row off hp hq
         cases h
         rw [hp] at hx; rw [hq] at hy
         obtain ⟨b, k, hv, _⟩ := hx.cptr_inv
         simp only [execOp, hv, hy.nilp_inv, hop]
         have := does_eqp r (neg := neg) (x := x) (y := y) (a := some ⟨b, k + off, none⟩) ht
         cases neg <;> simpa using this
       · cases h
     have fins : ∀ neg ks, op = (if neg then .neq else .eql) → plainStruct P t = some ks → evalO (.eqs neg ks x' y') tm s = some (d, s') → Does P M s w (execOp act.eval ⟨dst, .binOp op t x y yt, type, pos, after, guard⟩) d s' := by
       intro neg ks hop ht h
       simp only [evalO] at h
       split at h
       · rename_i p q hp hq
         split at h
         · rename_i e' he'
           cases h
           rw [hp] at hx; rw [hq] at hy
           simp only [execOp, hop]
           exact does_eqs r ht hx hy he'
         · cases h
       · cases h
     split at hc
     · cases hc; exact fin2 he
     · cases hc; exact fin2 he
     · rename_i hu; cases hc; exact finb false rfl hu he
     · rename_i hu; cases hc; exact finb true rfl hu he
     · rename_i hu; cases hc; exact finp false _ rfl hu he
     · rename_i hu; cases hc; exact finp true _ rfl hu he
     · obtain ⟨ks, hk, rfl⟩ := map_some hc; exact fins false ks rfl hk he
     · obtain ⟨ks, hk, rfl⟩ := map_some hc; exact fins true ks rfl hk he
     · cases hc
   · cases hc
 | unOp op t x =>
   obtain ⟨y, hy, rfl⟩ := map_some hc
   have hx := cX_sound hy hr
   simp only [evalO] at he
   split at he
   · rename_i d' hd'
     cases he
     unfold unD at hd'
     split at hd'
     · rename_i k n hk
       cases hd'
       rw [hk] at hx
       exact Does.pure (v := .int k (k.wrap (0 - n))) r (by simp [execOp, hx.int_inv, Op.unary, Op.intArith]) (.int _ _)
     · rename_i b hb
       cases hd'
       rw [hb] at hx
       exact Does.pure (v := .bool (!b)) r (by simp [execOp, hx.bool_inv, Op.unary]) (.bool _)
     · cases hd'
   · cases he
 | convert src dst' x =>
   simp only at hc
   split at hc
   · rename_i y k1 k h1 h2 h3
     cases hc
     have hx := cX_sound h1 hr
     simp only [evalO] at he
     split at he
     · rename_i k2 n hn
       cases he
       rw [hn] at hx
       refine Does.pure (v := .int k (k.wrap n)) r ?_ (.int _ _)
       simp [execOp, hx.int_inv, convert, run_underlying h2, run_underlying h3, Conv.intToInt]
     · cases he
   · rename_i y e h1 h2 h3
     split at hc
     · rename_i h4
       cases hc
       have hx := cX_sound h1 hr
       simp only [evalO] at he
       split at he
       · rename_i g z rows hrows
         split at he
         · rename_i b hb
           cases he
           rw [hrows] at hx
           exact does_tostr r h2 h4 h3 hx hb
         · cases he
       · cases he
     · cases hc
   · rename_i y e e2 h1 h2 h3
     split at hc
     · rename_i h4
       split at hc
       · rename_i hsd
         cases hc
         subst hsd
         have hx := cX_sound h1 hr
         simp only [evalO] at he
         split at he
         · rename_i t z rows hrows
           split at he
           · rename_i hcnd
             cases he
             rw [hrows] at hx
             exact does_frz r h2 h4 hx hcnd.1 hcnd.2
           · cases he
         · cases he
       · cases hc
     · cases hc
   · rename_i y e h1 h2 h3
     split at hc
     · rename_i i h4 h5
       split at hc
       · cases hc
         have hx := cX_sound h1 hr
         simp only [evalO] at he
         split at he
         · rename_i l hl
           cases he
           rw [hl] at hx
           simp only [execOp, hx.str_inv]
           exact does_tobytes r h2 h3 h4
         · cases he
       · cases hc
     · cases hc
   · cases hc
 | slice t x lo hi mx =>
   cases mx with
   | some m => cases hc
   | none =>
     simp only at hc
     split at hc
     · rename_i y lo' hi' h1 h2 h3 h4
       cases hc
       have hx := cX_sound h1 hr
       simp only [evalO] at he
       split at he
       · rename_i u hu
         rw [hu] at hx
         split at he
         · rename_i l h hl hh
           split at he
           · rename_i hcnd
             cases he
             have := does_sslc r h4 (cXo_lo hr h2 hl) (cXo_hi hr h3 hh) hcnd.1 hcnd.2.1 hcnd.2.2
             simp only [execOp, hx.str_inv, Option.map_none]
             exact this
           · cases he
         · cases he
       · cases he
     · rename_i y lo' hi' e h1 h2 h3 h4
       split at hc
       · rename_i i hi0
         cases hc
         have hx := cX_sound h1 hr
         simp only [evalO] at he
         split at he
         · rename_i g z rows hrows
           rw [hrows] at hx
           split at he
           · rename_i l h hl hh
             split at he
             · rename_i hcnd
               cases he
               have := does_slc r h4 hi0 hcnd.1 hx (cXo_lo hr h2 hl) (cXo_hi hr h3 hh) hcnd.2.1 hcnd.2.2.1 hcnd.2.2.2
               simp only [execOp, Option.map_none]
               exact this
             · cases he
           · cases he
         · cases he
       · cases hc
     · cases hc
 | fieldAddr t x f =>
   simp only at hc
   split at hc
   · rename_i y off size a h1 h2
     cases hc
     have hx := cX_sound h1 hr
     simp only [evalO] at he
     split at he
     · rename_i o k ho
       cases he
       rw [ho] at hx
       obtain ⟨hv, hH⟩ := hx.ptr_inv
       refine Does.pure (v := .pointer (some ⟨M.mu o, k + off, none⟩)) r ?_ (.ptr _ _ hH)
       simp only [execOp, hv, Sem.run_bind, faddr_run h2, Result.andThen_ok, Sem.run_pure]
     · rename_i row k ho
       cases he
       rw [ho] at hx
       obtain ⟨b, q, hv, g1, g2⟩ := hx.cptr_inv
       refine Does.pure (v := .pointer (some ⟨b, q + (k + off), none⟩)) r ?_ (.cptr _ _ _ _ g1 g2)
       simp only [execOp, hv, Sem.run_bind, faddr_run h2, Result.andThen_ok, Sem.run_pure, Nat.add_assoc]
     · cases he
   · cases hc
 | field t x f =>
   simp only at hc
   split at hc
   · rename_i y off size a h1 h2
     cases hc
     have hx := cX_sound h1 hr
     simp only [evalO] at he
     split at he
     · rename_i cs hcs
       split at he
       · rename_i d' hd'
         cases he
         rw [hcs] at hx
         obtain ⟨vs, hv, g1, g2, g3⟩ := hx.agg_inv
         simp only [execOp, hv]
         exact part_field h2 g1 g2 g3 hd' r
       · cases he
     · cases he
   · cases hc
 | indexAddr t x i =>
   simp only at hc
   split at hc
   · rename_i y j e h1 h2 h3
     split at hc
     · rename_i inf hinf
       split at hc
       · cases hc
         have hx := cX_sound h1 hr
         have hj := cX_sound h2 hr
         simp only [evalO] at he
         split at he
         · rename_i g z rows k n hrows hn
           split at he
           · rename_i hcnd
             obtain ⟨hn0, hz⟩ := hcnd
             subst hz
             split at he
             · rename_i row hrow
               cases he
               rw [hrows] at hx; rw [hn] at hj
               simp only [execOp, hj.int_inv]
               exact does_iaddr r h3 hinf hx hn0 hrow
             · cases he
           · cases he
         · cases he
       · cases hc
     · cases hc
   · cases hc
 | index t x i =>
   simp only at hc
   split at hc
   · rename_i y j h1 h2 h3
     cases hc
     have hx := cX_sound h1 hr
     have hj := cX_sound h2 hr
     simp only [evalO] at he
     split at he
     · rename_i l k n hl hn
       split at he
       · rename_i hn0
         split at he
         · rename_i c hcc
           cases he
           rw [hl] at hx; rw [hn] at hj
           simp only [execOp, hj.int_inv, hx.str_inv]
           exact does_sidx r h3 hn0 hcc
         · cases he
       · cases he
     · cases he
   · cases hc
 | extract x i =>
   obtain ⟨y, hy, rfl⟩ := map_some hc
   have hx := cX_sound hy hr
   simp only [evalO] at he
   split at he
   · rename_i ds hds
     split at he
     · rename_i d' hd'
       cases he
       rw [hds] at hx
       obtain ⟨vs, hv, g1, g2⟩ := hx.tuple_inv
       have hH := (List.getElem?_eq_some_iff.1 hd').1
       have hv2 : vs[i]? = some vs[i] := Array.getElem?_eq_getElem (by omega)
       refine Does.pure (v := vs[i]) r ?_ (g2 i _ _ hd' hv2)
       simp [execOp, hv, Instr.extract, hv2]
     · cases he
   · cases he
 | call c =>
   obtain ⟨callee, args, ats⟩ := c
   cases callee with
   | value f => cases hc
   | invoke f m => cases hc
   | builtin bi =>
     have two : ∀ {x y : Operand} {x' y' : X} {isMax : Bool}, cX x = some x' → cX y = some y' → bi = (if isMax then .max else .min) → args.toList = [x, y] → evalO (.mm isMax x' y') tm s = some (d, s') →
         Does P M s w (execOp act.eval ⟨dst, .call ⟨.builtin bi, args, ats⟩, type, pos, after, guard⟩) d s' := by
       intro x y x' y' isMax h1 h2 hb ha h
       have harr : args = #[x, y] := by rw [← Array.toArray_toList (xs := args), ha]
       subst harr
       have hx := cX_sound h1 hr
       have hy := cX_sound h2 hr
       simp only [evalO] at h
       split at h
       · rename_i k a k' b hka hkb
         split at h
         · rename_i hkk
           subst hkk
           cases h
           rw [hka] at hx; rw [hkb] at hy
           refine Does.pure (v := .int k (if isMax then (if b > a then b else a) else (if b < a then b else a))) r ?_ (.int _ _)
           subst hb
           cases isMax
           · simp [execOp, resolve, invoke, builtin, Builtin.min_, Builtin.min2, hx.int_inv, hy.int_inv]
           · simp [execOp, resolve, invoke, builtin, Builtin.max_, Builtin.max2, hx.int_inv, hy.int_inv]
         · cases h
       · cases h
     cases bi <;> simp only at hc <;> try (cases hc; done)
     case append =>
       split at hc
       · rename_i x y t u ha hat
         split at hc
         · rename_i e e' x' y' h1 h2 h3 h4
           split at hc
           · rename_i i z hi hz
             split at hc
             · rename_i hpos
               cases hc
               have harr : args = #[x, y] := by rw [← Array.toArray_toList (xs := args), ha]
               have hats : ats = #[t, u] := by rw [← Array.toArray_toList (xs := ats), hat]
               subst harr; subst hats
               obtain ⟨i', v, g1, g2, g3, g4⟩ := zeroOf_some hz
               rw [hi] at g1; cases g1
               have hzc := zeroOf_cells (M := M) (s := s) g4
               split at he
               · rename_i hb
                 obtain ⟨rfl, hb1, hb2⟩ := hb
                 obtain ⟨v', w', M', f1, f2, f3, f4⟩ := appb_sound (ty := type) r h1 h2 hi g2 hb1 hb2 g3 hzc.2.1 (cX_sound h3 hr) (cX_sound h4 hr) he
                 refine ⟨v', w', M', .inl ?_, f2, f3, f4⟩
                 simp [execOp, resolve, invoke, builtin, f1]
               · obtain ⟨v', w', M', f1, f2, f3, f4⟩ := app_sound (ty := type) r h1 h2 hi g2 g3 hzc.2.1 (cX_sound h3 hr) (cX_sound h4 hr) hpos he
                 refine ⟨v', w', M', .inl ?_, f2, f3, f4⟩
                 simp [execOp, resolve, invoke, builtin, f1]
             · cases hc
           · cases hc
         · rename_i e x' y' h1 h2 h3 h4
           split at hc
           · rename_i i z hi hz
             split at hc
             · rename_i hb
               cases hc
               obtain ⟨rfl, hb1, hb2⟩ := hb
               have harr : args = #[x, y] := by rw [← Array.toArray_toList (xs := args), ha]
               have hats : ats = #[t, u] := by rw [← Array.toArray_toList (xs := ats), hat]
               subst harr; subst hats
               obtain ⟨i', v, g1, g2, g3, g4⟩ := zeroOf_some hz
               rw [hi] at g1; cases g1
               have hzc := zeroOf_cells (M := M) (s := s) g4
               have hy := cX_sound h4 hr
               simp only [evalO] at he
               split at he
               · rename_i l hl
                 rw [hl] at hy
                 obtain ⟨v', w', M', f1, f2, f3, f4⟩ := apps_sound (ty := type) r h1 h2 hi g2 hb1 hb2 g3 hzc.2.1 (cX_sound h3 hr) he
                 refine ⟨v', w', M', .inl ?_, f2, f3, f4⟩
                 simp [execOp, resolve, invoke, builtin, hy.str_inv, f1]
               · cases he
             · cases hc
           · cases hc
         · cases hc
       · cases hc
     case len =>
       split at hc
       · rename_i x t ha hat
         have harr : args = #[x] := by rw [← Array.toArray_toList (xs := args), ha]
         have hats : ats = #[t] := by rw [← Array.toArray_toList (xs := ats), hat]
         subst harr; subst hats
         have hex : execOp act.eval ⟨dst, .call ⟨.builtin .len, #[x], #[t]⟩, type, pos, after, guard⟩ = (do pure (.value (← Builtin.len_ #[t] type #[act.eval x]))) := by
           simp [execOp, resolve, invoke, builtin]
         rw [hex]
         split at hc
         · rename_i ht
           obtain ⟨y, hy, rfl⟩ := map_some hc
           have hx := cX_sound hy hr
           simp only [evalO] at he
           split at he
           · rename_i l hl
             cases he
             rw [hl] at hx
             rw [hx.str_inv]
             exact does_len_str r ht
           · cases he
         · rename_i e ht
           obtain ⟨y, hy, rfl⟩ := map_some hc
           have hx := cX_sound hy hr
           simp only [evalO] at he
           split at he
           · rename_i g z rows hrows
             cases he
             rw [hrows] at hx
             rcases hx.slice_inv with ⟨h0, hv, _⟩ | ⟨h0, _, a, cap, hv⟩ | ⟨b, q, cap, hv, _⟩
             · rw [hv, h0]; exact does_len_slice r ht
             · rw [hv, h0]; exact does_len_slice r ht
             · rw [hv]; exact does_len_slice r ht
           · cases he
         · cases hc
       · cases hc
     case max =>
       split at hc
       · rename_i x y ha
         split at hc
         · rename_i x' y' h1 h2
           cases hc
           exact two (isMax := true) h1 h2 rfl ha he
         · cases hc
       · cases hc
     case min =>
       split at hc
       · rename_i x y ha
         split at hc
         · rename_i x' y' h1 h2
           cases hc
           exact two (isMax := false) h1 h2 rfl ha he
         · cases hc
       · cases hc
 | _ => cases hc

theorem evalO_bslt {o : Oper} {z : List D} {k n : Nat} {ps : List (Nat × X)} {tm : Tm} {act : Act} {d : D} {s' : St} (hc : cOp P o = some (.bslice z k n ps)) (r : Rel M s w) (hr : RTm M s tm act.tmps) (he : evalO (.bslt z k n ps) tm s = some (d, s')) :
   Does P M s w (execOp act.eval o) d s' := by
 obtain ⟨dst, op, type, pos, after, guard⟩ := o
 unfold cOp at hc
 simp only at hc
 cases op with
 | buildSlice t n' parts =>
   simp only at hc
   split at hc
   · rename_i e hu
     split at hc
     · rename_i i z ps h1 h2 h3
       split at hc
       · rename_i hcnd
         cases hc
         simp only [evalO] at he
         split at he
         · rename_i rows hrows
           cases he
           obtain ⟨vs, T, g1, g2, g3, g4⟩ := does_bslice r hr hu h1 h2 hcnd.1 hcnd.2 h3 hrows
           obtain ⟨M', f1, f2, f3⟩ := tok_sound r T g1 (by rw [g3, g2]) hcnd.1
           refine ⟨_, _, _, .inl ?_, f2, f1, f3⟩
           simp only [Array.toArray_toList] at g4
           simp only [execOp, Sem.run_bind, g4, Result.andThen_ok, Sem.run_pure]
           rw [g2]
         · cases he
       · cases hc
     · cases hc
   · cases hc
 | _ =>
   exfalso
   revert hc
   try simp only
   repeat' split
   all_goals (first | (intro h; cases h; done) | (intro h; obtain ⟨_, _, h⟩ := map_some h; cases h; done) | contradiction | (simp; done) | (intro h; simp_all; done))

end
end Go.Abs

/-! Code -/

namespace Go.Abs

structure Base where
 M : Map
 s : St
 w : World
 laid : Laid M s w

def Holds (B : Base) (nt : Nat) (tm : Tm) (s : St) (act : Act) (w : World) : Prop :=
 ∃ M, Ext B.M B.s B.w M s w ∧ Rel M s w ∧ RTm M s tm act.tmps ∧ act.tmps.size = nt ∧ act.defers = []

def Post (B : Base) (nt : Nat) (Q : Exit → Tm → St → Prop) : Exit → Act → World → Prop := fun e act w => ∃ tm s, Q e tm s ∧ Holds B nt tm s act w

def ACalls (P : Program) (f : FuncId) (args : List D) (s : St) (Q : D → St → Prop) : Prop :=
 ∀ (M : Map) (w : World) (vargs : Array Value), Rel M s w → Laid M s w → vargs.size = args.length → (∀ (i : Nat) (d : D) (v : Value), args[i]? = some d → vargs[i]? = some v → RD M s d v) →
   Calls P f vargs w fun e w' => ∃ M' d v s', e = .returned v ∧ Q d s' ∧ Ext M s w M' s' w' ∧ Rel M' s' w' ∧ RD M' s' d v

theorem ACalls.mono {P : Program} {f : FuncId} {args : List D} {s : St} {Q Q' : D → St → Prop} (h : ACalls P f args s Q) (hq : ∀ d s', Q d s' → Q' d s') : ACalls P f args s Q' :=
 fun M w vargs r hd hl ha => (h M w vargs r hd hl ha).mono fun _ _ ⟨M', d, v, s', h1, h2, h3⟩ => ⟨M', d, v, s', h1, hq _ _ h2, h3⟩

def guarded (g : Option (Nat × Bool)) (tm : Tm) (A B : Prop) : Prop :=
 match g with
 | none => A
 | some (t, want) =>
   match tm.get t with
   | .bool b => (b = want → A) ∧ (b = (!want) → B)
   | .tuple _ => B
   | _ => False

def vcI (P : Program) : List AI → (Tm → St → Prop) → Tm → St → Prop
 | [], K, tm, s => K tm s
 | .op dst g o :: r, K, tm, s =>
   guarded g tm (match evalO o tm s with | some (d, s') => vcI P r K (tm.put dst d) s' | none => False) (vcI P r K (tm.put dst (.tuple [])) s)
 | .call dst g f xs :: r, K, tm, s =>
   guarded g tm (ACalls P f (xs.map (·.ev tm)) s fun d s' => vcI P r K (tm.put dst d) s') (vcI P r K (tm.put dst (.tuple [])) s)
 | .nil dst g neg x :: r, K, tm, s =>
   guarded g tm (match x.ev tm with
     | .slice _ _ rows => ∀ b : Bool, (rows ≠ [] → b = false) → vcI P r K (tm.put dst (.bool (if neg then !b else b))) s
     | _ => False) (vcI P r K (tm.put dst (.tuple [])) s)

section
variable {P : Program}

theorem callFunc_run {f : FuncId} (h : enters P f = true) (args : Array Value) (w : World) : (callFunc f args).run P w = .ok (.enter f args) w := by
 unfold enters at h
 split at h
 · rename_i fn hf
   simp only [Bool.and_eq_true, Bool.not_eq_true'] at h
   obtain ⟨h1, h2⟩ := h
   have h3 : fn.body.isNone = false := by cases hb : fn.body <;> simp_all
   simp only [callFunc, Sem.run_bind, run_program, Result.andThen_ok, hf, h2, h3]
   simp
 · cases h

theorem execOp_call (ρ : Operand → Value) (dst : Option Tmp) (f : FuncId) (args : Array Operand) (ats : Array TypeId) (ty : TypeId) (pos : String) (after : Array Edge) (g : Option (Nat × Bool))
   (hρ : ρ (.func f) = .func (.func f) #[] #[]) (h : enters P f = true) (w : World) :
   (execOp ρ ⟨dst, .call ⟨.value (.func f), args, ats⟩, ty, pos, after, g⟩).run P w = .ok (.enter f (args.map ρ)) w := by
 simp [execOp, resolve, hρ, Deferred.ofValue, invoke, callFunc_run h]

theorem cXs_sound {M : Map} {s : St} {tm : Tm} {act : Act} (hr : RTm M s tm act.tmps) : ∀ {l : List Operand} {xs : List X}, cXs l = some xs →
   xs.length = l.length ∧ ∀ (i : Nat) (d : D) (v : Value), (xs.map (·.ev tm))[i]? = some d → (l.map act.eval)[i]? = some v → RD M s d v
 | [], xs, h => by cases h; exact ⟨rfl, by simp⟩
 | x :: l, xs, h => by
   unfold cXs at h
   split at h
   · rename_i x' r' h1 h2
     cases h
     obtain ⟨g1, g2⟩ := cXs_sound hr h2
     refine ⟨by simp [g1], fun i d v e1 e2 => ?_⟩
     cases i with
     | zero => simp at e1 e2; subst e1; subst e2; exact cX_sound h1 hr
     | succ i => exact g2 i d v (by simpa using e1) (by simpa using e2)
   · cases h

theorem nilTest_sound {M : Map} {s : St} {w : World} {o : Oper} {neg : Bool} {x : X} {tm : Tm} {act : Act} (hc : nilTest P o = some (neg, x)) (hr : RTm M s tm act.tmps) {g : Tag} {z : Nat} {rows : List (List D)} (hx : x.ev tm = .slice g z rows) :
   ∃ b : Bool, (rows ≠ [] → b = false) ∧ (execOp act.eval o).run P w = .ok (.value (.bool (if neg then !b else b))) w := by
 obtain ⟨dst, op, type, pos, after, guard⟩ := o
 unfold nilTest at hc
 split at hc
 · rename_i op t y yt heq
   simp only at heq
   subst heq
   have fin : ∀ e, P.underlying t = some (.slice e) → cX y = some x → op = (if neg then .neq else .eql) → ∃ b : Bool, (rows ≠ [] → b = false) ∧
       (execOp act.eval ⟨dst, .binOp op t y (.const (.slice none 0 0)) yt, type, pos, after, guard⟩).run P w = .ok (.value (.bool (if neg then !b else b))) w := by
     intro e ht hy hop
     have hv := cX_sound hy hr
     rw [hx] at hv
     have key : ∀ (a : Option Addr) (n c : Nat), act.eval y = .slice a n c → (execOp act.eval ⟨dst, .binOp op t y (.const (.slice none 0 0)) yt, type, pos, after, guard⟩).run P w = .ok (.value (.bool (if neg then !a.isNone else a.isNone))) w := by
       intro a n c hval
       have hg := eqGuard_plain (P := P) (w := w) (op := op) (t := t) (x := y) (y := .const (.slice none 0 0)) (a := .slice a n c) (b := .slice none 0 0) ⟨by simp, by simp⟩
       have he : (Op.equal t (.slice a n c) (.slice none 0 0)).run P w = .ok a.isNone w := by
         have : ∀ d, (Op.equalIn (d + 1) t (.slice a n c) (.slice none 0 0)).run P w = .ok a.isNone w := by
           intro d
           cases a <;> simp [Op.equalIn, run_underlying ht]
         exact this 9999
       have hcst : act.eval (.const (.slice none 0 0)) = .slice none 0 0 := rfl
       simp only [execOp, hval, hcst]
       rw [hop] at hg ⊢
       cases neg
       · simp only [Bool.false_eq_true, if_false] at hg ⊢
         simp [hg, binOp, he]
       · simp only [if_true] at hg ⊢
         simp [hg, binOp, he]
     rcases hv.slice_inv with ⟨h0, hval, _⟩ | ⟨_, _, a, cap, hval⟩ | ⟨b, q, cap, hval, _⟩
     · exact ⟨true, fun h => (h h0).elim, key none 0 0 hval⟩
     · exact ⟨false, fun _ => rfl, key _ _ _ hval⟩
     · exact ⟨false, fun _ => rfl, key _ _ _ hval⟩
   split at hc
   · cases hc
     exact fin _ ‹_› ‹_› rfl
   · cases hc
     exact fin _ ‹_› ‹_› rfl
   · cases hc
 · cases hc

variable {B : Base} {nt : Nat}

theorem Holds.put {tm : Tm} {s : St} {act : Act} {w : World} {M' : Map} {s' : St} {w' : World} {M : Map} (e : Ext B.M B.s B.w M s w) (ht : RTm M s tm act.tmps) (hn : act.tmps.size = nt) (hd : act.defers = [])
   {dst : Option Nat} (hdst : ∀ t, dst = some t → t < nt) {d : D} {v : Value} (e' : Ext M s w M' s' w') (r' : Rel M' s' w') (hv : RD M' s' d v) : Holds B nt (tm.put dst d) s' (act.put dst v) w' := by
 refine ⟨M', e.trans e', r', (ht.mono e'.le).put (fun t h => by rw [hn]; exact hdst t h) hv, ?_, ?_⟩
 · cases dst <;> simp [Act.put, hn]
 · cases dst <;> simp [Act.put, hd]

theorem cI_dst {ops : Array Oper} {o : Oper} {ai : AI} (h : cI P nt ops o = some ai) : ∀ t, o.dst = some t → t < nt := by
 intro t ht
 unfold cI at h
 split at h
 · cases h
 · split at h
   · rename_i hH; rw [ht] at hH; simpa [dstOk] using hH
   · cases h

theorem guard_sound {ops : Array Oper} {o : Oper} {g : Option (Nat × Bool)} (hg : cGuard ops o.guard = some g) {M : Map} {s : St} {tm : Tm} {act : Act} (hr : RTm M s tm act.tmps) {A C : Prop} (h : guarded g tm A C) :
   (Region.wanted o (yielded ops act.tmps) = true ∧ A) ∨ (Region.wanted o (yielded ops act.tmps) = false ∧ C) := by
 unfold cGuard at hg
 split at hg
 · rename_i hn
   cases hg
   exact .inl ⟨by simp [Region.wanted, hn], h⟩
 · rename_i j want hn
   split at hg
   · rename_i t ht
     cases hg
     have hrt := hr t
     unfold guarded at h
     simp only at h
     split at h
     · rename_i b hb
       rw [hb] at hrt
       have hv := hrt.bool_inv
       have hsome : act.tmps[t]? = some (.bool b) := by
         cases hc : act.tmps[t]? with
         | none => simp [Array.getD_eq_getD_getElem?, hc, Go.undef] at hv
         | some v => simp [Array.getD_eq_getD_getElem?, hc] at hv; rw [hv]
       have hy : yielded ops act.tmps j = some b := by simp [yielded, ht, hsome]
       have hw : Region.wanted o (yielded ops act.tmps) = (some b == some want) := by simp [Region.wanted, hn, hy]
       by_cases hbw : b = want
       · exact .inl ⟨by rw [hw, hbw]; simp, h.1 hbw⟩
       · refine .inr ⟨by rw [hw]; simp [hbw], h.2 ?_⟩
         cases b <;> cases want <;> simp_all
     · rename_i ds hds
       rw [hds] at hrt
       obtain ⟨vs, hv, _⟩ := hrt.tuple_inv
       refine .inr ⟨?_, h⟩
       have hy : yielded ops act.tmps j = none := by
         unfold yielded
         rw [ht]
         cases hc : act.tmps[t]? with
         | none => simp [hc]
         | some v => simp [Array.getD_eq_getD_getElem?, hc] at hv; simp [hc, hv]
       simp [Region.wanted, hn, hy]
     · exact h.elim
   · cases hg

theorem vcI_sound {ops : Array Oper} {Q : Exit → Tm → St → Prop} : ∀ (l : List Nat) (ol : List Oper) (is : List AI), l.map (ops[·]?) = ol.map some → cIs P nt ops ol = some is →
   ∀ (tm : Tm) (s : St) (act : Act) (w : World), vcI P is (Q .normal) tm s → Holds B nt tm s act w → wpOps P ops (Post B nt Q) l act w
 | [], [], is, _, hc, tm, s, act, w, h, hh => by cases hc; exact ⟨tm, s, h, hh⟩
 | [], _ :: _, _, hl, _, _, _, _, _, _, _ => by simp at hl
 | _ :: _, [], _, hl, _, _, _, _, _, _, _ => by simp at hl
 | i :: l, o :: ol, is, hl, hc, tm, s, act, w, h, hh => by
   simp only [List.map_cons, List.cons.injEq] at hl
   obtain ⟨hi, hl⟩ := hl
   unfold cIs at hc
   split at hc
   · rename_i ai is' h1 h2
     cases hc
     obtain ⟨M, e, r, ht, hn, hd⟩ := hh
     have hdst := cI_dst h1
     have ih := fun tm s act w => vcI_sound (Q := Q) l ol is' hl h2 tm s act w
     have skip : ∀ (x : Prop), vcI P is' (Q .normal) (tm.put o.dst (.tuple [])) s → wpOps P ops (Post B nt Q) l (act.put o.dst Go.undef) w := fun _ hk =>
       ih _ _ _ _ hk (Holds.put e ht hn hd hdst (Ext.refl M s w) r .undef)
     simp only [wpOps, hi]
     unfold cI at h1
     split at h1
     · cases h1
     · rename_i g hg
       split at h1
       · unfold cBody at h1
         split at h1
         · -- a call
           rename_i f args ats hop
           split at h1
           · rename_i hent
             obtain ⟨xs, hxs, rfl⟩ := map_some h1
             unfold vcI at h
             rcases guard_sound hg ht h with ⟨hw, hA⟩ | ⟨hw, hB⟩
             · simp only [hw, if_true]
               left
               have hex : (execOp act.eval o).run P w = .ok (.enter f (args.map act.eval)) w := by
                 obtain ⟨dst, op, type, pos, after, guard⟩ := o
                 simp only at hop
                 subst hop
                 exact execOp_call act.eval dst f args ats type pos after guard rfl hent w
               obtain ⟨c1, c2⟩ := cXs_sound ht hxs
               unfold Oper.wp
               rw [hex, Oper.upon_enter]
               refine (hA M w (args.map act.eval) r (B.laid.ext e) (by simp [c1]) (fun i d v e1 e2 => c2 i d v e1 (by simpa using e2))).mono ?_
               rintro en w' ⟨M', d, v, s', rfl, hk, e', r', hv⟩
               exact ih _ _ _ _ hk (Holds.put e ht hn hd hdst e' r' hv)
             · simp only [hw]
               exact skip True hB
           · cases h1
         · split at h1
           · -- a slice held against nil
             rename_i neg x hnil
             cases h1
             unfold vcI at h
             rcases guard_sound hg ht h with ⟨hw, hA⟩ | ⟨hw, hB⟩
             · simp only [hw, if_true]
               left
               split at hA
               · rename_i g' z rows hx
                 obtain ⟨b, hb, hex⟩ := nilTest_sound (w := w) hnil ht hx
                 unfold Oper.wp
                 rw [hex, Oper.upon_value]
                 exact ih _ _ _ _ (hA b hb) (Holds.put e ht hn hd hdst (Ext.refl M s w) r (.bool _))
               · exact hA.elim
             · simp only [hw]
               exact skip True hB
           · -- any other operation
             have fin : ∀ ao, ai = .op o.dst g ao → (∀ d s', evalO ao tm s = some (d, s') → Does P M s w (execOp act.eval o) d s') →
                 (if Region.wanted o (yielded ops act.tmps) = true then o.wp P act w (wpOps P ops (Post B nt Q) l) (Post B nt Q) ∨ (o.asks P act w ∧ LetsOut (Post B nt Q)) else wpOps P ops (Post B nt Q) l (act.put o.dst Go.undef) w) := by
               intro ao hai hdo
               subst hai
               unfold vcI at h
               rcases guard_sound hg ht h with ⟨hw, hA⟩ | ⟨hw, hB⟩
               · simp only [hw, if_true]
                 left
                 split at hA
                 · rename_i d s' hev
                   obtain ⟨v, w', M', hrun, r', hv, e'⟩ := hdo d s' hev
                   unfold Oper.wp
                   rcases hrun with hrun | ⟨hrun, rfl⟩
                   · rw [hrun, Oper.upon_value]
                     exact ih _ _ _ _ hA (Holds.put e ht hn hd hdst e' r' hv)
                   · rw [hrun, Oper.upon_skip]
                     exact ih _ _ _ _ hA (Holds.put e ht hn hd hdst e' r' hv)
                 · exact hA.elim
               · simp only [hw]
                 exact skip True hB
             split at h1
             · rename_i z k n ps hco
               cases h1
               refine fin _ rfl (fun d s' hev => ?_)
               split at hev
               · exact evalO_bslt hco r ht hev
               · exact evalO_sound hco r ht hev
             · rename_i ao hco
               cases h1
               exact fin _ rfl (fun d s' hev => evalO_sound hco r ht hev)
             · cases h1
       · cases h1
   · cases hc

end
end Go.Abs

/-! Flow -/

namespace Go.Abs

def Turned (P : Program) (nt : Nat) : AC → Code → Prop
 | .skip, c => c = .skip
 | .run is, c => ∃ id ops, c = .region id ops false ∧ cIs P nt ops ops.toList = some is
 | .par is plan, c => ∃ id ops, c = .region id ops true ∧ cIs P nt ops ops.toList = some is ∧ P.follows .mixedOrders = true ∧ ∃ pt, planOk is (ops.toList.map edgesOf) pt plan = true
 | .seq a b, c => ∃ x y, c = .seq x y ∧ cC P nt x = some a ∧ cC P nt y = some b
 | .cond x a b, c => ∃ o p q, c = .cond o p q ∧ cX o = some x ∧ cC P nt p = some a ∧ cC P nt q = some b
 | .block id a, c => ∃ x, c = .block id x ∧ cC P nt x = some a
 | .loop a, c => ∃ x, c = .loop x ∧ cC P nt x = some a
 | .exit id, c => c = .exit id
 | .scope a, c => ∃ x, c = .scope x ∧ cC P nt x = some a
 | .label l, c => c = .label l
 | .goto l, c => c = .goto l
 | .ret, c => c = .ret

theorem cC_inv {P : Program} {nt : Nat} {c : Code} {ac : AC} (h : cC P nt c = some ac) : Turned P nt ac c := by
 cases c with
 | skip => cases h; rfl
 | region id ops draw =>
   cases draw
   · obtain ⟨is, h1, rfl⟩ := map_some (x := cIs P nt ops ops.toList) (f := AC.run) (by simpa [cC] using h)
     exact ⟨id, ops, rfl, h1⟩
   · simp only [cC] at h
     split at h
     · rename_i hm
       obtain ⟨is, h1, h2⟩ := Option.bind_eq_some_iff.1 h
       unfold parOf at h2
       split at h2
       · rename_i hp
         cases h2
         exact ⟨id, ops, rfl, h1, hm, _, hp⟩
       · cases h2
     · cases h
 | seq a b =>
   simp only [cC] at h
   split at h
   · rename_i a' b' h1 h2; cases h; exact ⟨a, b, rfl, h1, h2⟩
   · cases h
 | cond x a b =>
   simp only [cC] at h
   split at h
   · rename_i x' a' b' h1 h2 h3; cases h; exact ⟨x, a, b, rfl, h1, h2, h3⟩
   · cases h
 | block id a =>
   obtain ⟨a', h1, rfl⟩ := map_some (x := cC P nt a) (f := AC.block id) (by simpa [cC] using h)
   exact ⟨a, rfl, h1⟩
 | loop a =>
   obtain ⟨a', h1, rfl⟩ := map_some (x := cC P nt a) (f := AC.loop) (by simpa [cC] using h)
   exact ⟨a, rfl, h1⟩
 | rangeFunc f p a b => simp [cC] at h
 | exit id => cases h; rfl
 | scope a =>
   obtain ⟨a', h1, rfl⟩ := map_some (x := cC P nt a) (f := AC.scope) (by simpa [cC] using h)
   exact ⟨a, rfl, h1⟩
 | label l => cases h; rfl
 | goto l => cases h; rfl
 | ret => cases h; rfl
 | refuse w => simp [cC] at h

def Sem (P : Program) (B : Base) (nt : Nat) (ac : AC) (Q : Exit → Tm → St → Prop) (tm : Tm) (s : St) : Prop :=
 ∀ c, cC P nt c = some ac → ∀ act w, Holds B nt tm s act w → c.wp P (Post B nt Q) act w

def thenQ (next : Tm → St → Prop) (Q : Exit → Tm → St → Prop) : Exit → Tm → St → Prop
 | .normal, tm, s => next tm s
 | e, tm, s => Q e tm s

def inBlockQ (id : Nat) (Q : Exit → Tm → St → Prop) : Exit → Tm → St → Prop
 | .exit i, tm, s => if i = id then Q .normal tm s else Q (.exit i) tm s
 | e, tm, s => Q e tm s

section
variable {P : Program} {B : Base} {nt : Nat} {Q : Exit → Tm → St → Prop} {tm : Tm} {s : St}

theorem Sem.mono {ac : AC} {Q' : Exit → Tm → St → Prop} (h : Sem P B nt ac Q tm s) (hq : ∀ e tm s, Q e tm s → Q' e tm s) : Sem P B nt ac Q' tm s :=
 fun c hc act w hh => wp_mono (h c hc act w hh) fun _ _ _ ⟨tm, s, h1, h2⟩ => ⟨tm, s, hq _ _ _ h1, h2⟩

theorem Sem.skip (h : Q .normal tm s) : Sem P B nt .skip Q tm s := by
 intro c hc act w hh
 cases cC_inv hc
 exact wp_skip ⟨tm, s, h, hh⟩

theorem Sem.label {l : Nat} (h : Q .normal tm s) : Sem P B nt (.label l) Q tm s := by
 intro c hc act w hh
 cases cC_inv hc
 exact wp_label ⟨tm, s, h, hh⟩

theorem Sem.exit {id : Nat} (h : Q (.exit id) tm s) : Sem P B nt (.exit id) Q tm s := by
 intro c hc act w hh
 cases cC_inv hc
 exact wp_exit ⟨tm, s, h, hh⟩

theorem Sem.goto {l : Nat} (h : Q (.goto l) tm s) : Sem P B nt (.goto l) Q tm s := by
 intro c hc act w hh
 cases cC_inv hc
 exact wp_goto ⟨tm, s, h, hh⟩

theorem Sem.ret (h : Q .ret tm s) : Sem P B nt .ret Q tm s := by
 intro c hc act w hh
 cases cC_inv hc
 exact wp_ret ⟨tm, s, h, hh⟩

theorem range_map (ops : Array Oper) : (List.range ops.size).map (ops[·]?) = ops.toList.map some := by
 apply List.ext_getElem?
 intro i
 by_cases h : i < ops.size
 · simp [h]
 · simp [h]

theorem Sem.run {is : List AI} (h : vcI P is (Q .normal) tm s) : Sem P B nt (.run is) Q tm s := by
 intro c hc act w hh
 obtain ⟨id, ops, rfl, hi⟩ := cC_inv hc
 exact wp_region (vcI_sound (Q := Q) (List.range ops.size) ops.toList is (range_map ops) hi tm s act w h hh)

theorem Sem.seq {a b : AC} (h : Sem P B nt a (thenQ (Sem P B nt b Q) Q) tm s) : Sem P B nt (.seq a b) Q tm s := by
 intro c hc act w hh
 obtain ⟨x, y, rfl, h1, h2⟩ := cC_inv hc
 refine wp_seq (wp_mono (h x h1 act w hh) fun e act w hp => ?_)
 obtain ⟨tm', s', hq, hh'⟩ := hp
 cases e with
 | normal => exact hq y h2 act w hh'
 | exit id => exact ⟨tm', s', hq, hh'⟩
 | goto l => exact ⟨tm', s', hq, hh'⟩
 | ret => exact ⟨tm', s', hq, hh'⟩
 | panic ch => exact ⟨tm', s', hq, hh'⟩
 | outgrown => exact ⟨tm', s', hq, hh'⟩

theorem Sem.cond {x : X} {a b : AC} {t : Bool} (hx : x.ev tm = .bool t) (h1 : t = true → Sem P B nt a Q tm s) (h2 : t = false → Sem P B nt b Q tm s) : Sem P B nt (.cond x a b) Q tm s := by
 intro c hc act w hh
 obtain ⟨o, p, q, rfl, g1, g2, g3⟩ := cC_inv hc
 have hh' := hh
 obtain ⟨M, e, r, ht, hn, hd⟩ := hh
 have hv := cX_sound g1 ht
 rw [hx] at hv
 exact wp_cond_split hv.bool_inv (fun h => h1 h p g2 act w hh') (fun h => h2 h q g3 act w hh')

theorem Sem.block {id : Nat} {a : AC} (h : Sem P B nt a (inBlockQ id Q) tm s) : Sem P B nt (.block id a) Q tm s := by
 intro c hc act w hh
 obtain ⟨x, rfl, h1⟩ := cC_inv hc
 refine wp_block (wp_mono (h x h1 act w hh) fun e act w hp => ?_)
 obtain ⟨tm', s', hq, hh'⟩ := hp
 cases e with
 | exit i =>
   simp only [inBlockQ] at hq
   simp only [Exit.inBlock]
   split at hq
   · rename_i h; rw [if_pos h]; exact ⟨tm', s', hq, hh'⟩
   · rename_i h; rw [if_neg h]; exact ⟨tm', s', hq, hh'⟩
 | normal => exact ⟨tm', s', hq, hh'⟩
 | goto l => exact ⟨tm', s', hq, hh'⟩
 | ret => exact ⟨tm', s', hq, hh'⟩
 | panic ch => exact ⟨tm', s', hq, hh'⟩
 | outgrown => exact ⟨tm', s', hq, hh'⟩

def LoopP (P : Program) (c : Code) (Q : Exit → Act → World → Prop) (a : Act) (w : World) : Prop :=
 ∀ (b : Frame) (k : List Item) (cs : List Frame), ∃ e a' w', Q e a' w' ∧ Arrives P (lone (b.at a (.code c :: .inLoop c :: k)) cs w) b k cs e a' w'

theorem LoopP.wp {c : Code} {Q : Exit → Act → World → Prop} {a : Act} {w : World} (h : LoopP P c Q a w) : (Code.loop c).wp P Q a w := fun b k cs =>
 let ⟨e, a', w', hq, harr⟩ := h b k cs
 ⟨e, a', w', hq, .of_steps (.one step_loop) harr⟩

theorem LoopP.once {c : Code} {Q : Exit → Act → World → Prop} {a : Act} {w : World} (h : c.wp P (Exit.then (LoopP P c Q) Q) a w) : LoopP P c Q a w := by
 intro b k cs
 obtain ⟨e, a₁, w₁, hq, harr⟩ := h b (.inLoop c :: k) cs
 cases e with
 | normal =>
   obtain ⟨e₂, a₂, w₂, hq₂, harr₂⟩ := hq b k cs
   exact ⟨e₂, a₂, w₂, hq₂, .of_steps (Steps.trans harr (.one step_inLoop)) harr₂⟩
 | exit id => exact ⟨_, a₁, w₁, hq, .pass (x := .inLoop c) rfl (fun _ _ => .inl (by simp)) harr⟩
 | goto l => exact ⟨_, a₁, w₁, hq, .pass (x := .inLoop c) rfl (fun _ _ => .inl (by simp)) harr⟩
 | ret => exact ⟨_, a₁, w₁, hq, .pass (x := .inLoop c) rfl (fun _ _ => .inl (by simp)) harr⟩
 | panic ch => exact ⟨_, a₁, w₁, hq, .pass (x := .inLoop c) rfl (fun _ _ => .inl (by simp)) harr⟩
 | outgrown => exact ⟨_, a₁, w₁, hq, .pass (x := .inLoop c) rfl (fun _ _ => .inl (by simp)) harr⟩

def SemL (P : Program) (B : Base) (nt : Nat) (ac : AC) (Q : Exit → Tm → St → Prop) (tm : Tm) (s : St) : Prop :=
 ∀ c, cC P nt c = some ac → ∀ act w, Holds B nt tm s act w → LoopP P c (Post B nt Q) act w

theorem Sem.loop {a : AC} (h : SemL P B nt a Q tm s) : Sem P B nt (.loop a) Q tm s := by
 intro c hc act w hh
 obtain ⟨x, rfl, h1⟩ := cC_inv hc
 exact (h x h1 act w hh).wp

theorem SemL.once {a : AC} (h : Sem P B nt a (thenQ (SemL P B nt a Q) Q) tm s) : SemL P B nt a Q tm s := by
 intro c hc act w hh
 refine LoopP.once (wp_mono (h c hc act w hh) fun e act w hp => ?_)
 obtain ⟨tm', s', hq, hh'⟩ := hp
 cases e with
 | normal => exact hq c hc act w hh'
 | exit id => exact ⟨tm', s', hq, hh'⟩
 | goto l => exact ⟨tm', s', hq, hh'⟩
 | ret => exact ⟨tm', s', hq, hh'⟩
 | panic ch => exact ⟨tm', s', hq, hh'⟩
 | outgrown => exact ⟨tm', s', hq, hh'⟩

/-! ### Scopes: labels and jumps -/

def ScopeP (P : Program) (c r : Code) (Q : Exit → Act → World → Prop) (a : Act) (w : World) : Prop :=
 ∀ (b : Frame) (k : List Item) (cs : List Frame), ∃ e a' w', Q e a' w' ∧ Arrives P (lone (b.at a (.code r :: .inScope c :: k)) cs w) b k cs e a' w'

def jumpQ (P : Program) (c : Code) (Q : Exit → Act → World → Prop) : Exit → Act → World → Prop
 | .goto l, a, w => ∃ rest, findLabel c l = some rest ∧ ScopeP P c rest Q a w
 | e, a, w => Q e a w

theorem ScopeP.wp {c : Code} {Q : Exit → Act → World → Prop} {a : Act} {w : World} (h : ScopeP P c c Q a w) : (Code.scope c).wp P Q a w := fun b k cs =>
 let ⟨e, a', w', hq, harr⟩ := h b k cs
 ⟨e, a', w', hq, .of_steps (.one step_scope) harr⟩

theorem ScopeP.once {c r : Code} {Q : Exit → Act → World → Prop} {a : Act} {w : World} (h : r.wp P (jumpQ P c Q) a w) : ScopeP P c r Q a w := by
 intro b k cs
 obtain ⟨e, a₁, w₁, hq, harr⟩ := h b (.inScope c :: k) cs
 cases e with
 | normal => exact ⟨.normal, a₁, w₁, hq, Steps.trans harr (.one step_inScope)⟩
 | exit id => exact ⟨.exit id, a₁, w₁, hq, fun k' hk => harr k' (by simp [exitTo, hk])⟩
 | goto l =>
   obtain ⟨rest, hf, hs⟩ := hq
   obtain ⟨e₂, a₂, w₂, hq₂, harr₂⟩ := hs b k cs
   exact ⟨e₂, a₂, w₂, hq₂, .of_steps (harr _ (by simp [gotoIn, hf])) harr₂⟩
 | ret => exact ⟨_, a₁, w₁, hq, harr⟩
 | panic ch => exact ⟨_, a₁, w₁, hq, harr⟩
 | outgrown => exact ⟨_, a₁, w₁, hq, harr⟩

def findL : AC → Nat → Option AC
 | .seq a b, l =>
   match findL a l with
   | some r => some (.seq r b)
   | none => findL b l
 | .label l', l => if l' == l then some .skip else none
 | _, _ => none

theorem findL_sound : ∀ {c : Code} {ac : AC}, cC P nt c = some ac → ∀ l, (findL ac l = none → findLabel c l = none) ∧ ∀ r, findL ac l = some r → ∃ rest, findLabel c l = some rest ∧ cC P nt rest = some r := by
 intro c
 induction c with
 | seq a b iha ihb =>
   intro ac h l
   simp only [cC] at h
   split at h
   · rename_i a' b' h1 h2
     cases h
     obtain ⟨n1, s1⟩ := iha h1 l
     obtain ⟨n2, s2⟩ := ihb h2 l
     simp only [findL, findLabel]
     cases hf : findL a' l with
     | none =>
       rw [n1 hf]
       exact ⟨n2, s2⟩
     | some r =>
       obtain ⟨rest, g1, g2⟩ := s1 r hf
       rw [g1]
       refine ⟨(by intro h; cases h), fun r' h => ?_⟩
       cases h
       exact ⟨_, rfl, by simp [cC, g2, h2]⟩
   · cases h
 | label l' =>
   intro ac h l
   cases h
   simp only [findL, findLabel]
   split
   · exact ⟨(by intro h; cases h), (by intro r h; cases h; exact ⟨_, rfl, rfl⟩)⟩
   · exact ⟨fun _ => rfl, (by intro r h; cases h)⟩
 | _ =>
   intro ac h l
   have := cC_inv h
   cases ac <;> simp only [Turned] at this <;> first
     | (exfalso; obtain ⟨_, _, this⟩ := this; cases this.1; done)
     | exact ⟨fun _ => rfl, (by intro r h; cases h)⟩
     | (exfalso; cases this; done)
     | (exfalso; obtain ⟨_, this⟩ := this; cases this.1; done)
     | (exfalso; obtain ⟨_, _, _, _, this⟩ := this; cases this.1; done)

def SemS (P : Program) (B : Base) (nt : Nat) (ac r : AC) (Q : Exit → Tm → St → Prop) (tm : Tm) (s : St) : Prop :=
 ∀ c rest, cC P nt c = some ac → cC P nt rest = some r → ∀ act w, Holds B nt tm s act w → ScopeP P c rest (Post B nt Q) act w

def jumpA (P : Program) (B : Base) (nt : Nat) (ac : AC) (Q : Exit → Tm → St → Prop) : Exit → Tm → St → Prop
 | .goto l, tm, s => ∃ r, findL ac l = some r ∧ SemS P B nt ac r Q tm s
 | e, tm, s => Q e tm s

theorem Sem.scope {a : AC} (h : SemS P B nt a a Q tm s) : Sem P B nt (.scope a) Q tm s := by
 intro c hc act w hh
 obtain ⟨x, rfl, h1⟩ := cC_inv hc
 exact (h x x h1 h1 act w hh).wp

theorem SemS.once {a r : AC} (h : Sem P B nt r (jumpA P B nt a Q) tm s) : SemS P B nt a r Q tm s := by
 intro c rest hc hrest act w hh
 refine ScopeP.once (wp_mono (h rest hrest act w hh) fun e act w hp => ?_)
 obtain ⟨tm', s', hq, hh'⟩ := hp
 cases e with
 | normal => exact ⟨tm', s', hq, hh'⟩
 | exit id => exact ⟨tm', s', hq, hh'⟩
 | goto l =>
   obtain ⟨r', hf, hs⟩ := hq
   obtain ⟨rest', g1, g2⟩ := (findL_sound hc l).2 r' hf
   exact ⟨rest', g1, hs c rest' hc g2 act w hh'⟩
 | ret => exact ⟨tm', s', hq, hh'⟩
 | panic ch => exact ⟨tm', s', hq, hh'⟩
 | outgrown => exact ⟨tm', s', hq, hh'⟩

/-! ### Forgetting -/

def Tag.fg (m : Nat) : Tag → Tag
 | .tok t y => if t < m then .tok t y else .shared
 | g => g

mutual
def D.fg (n m : Nat) : D → D
 | .ptr o off => if o < n then .ptr o off else .junk
 | .cptr row off => .cptr (D.fgs n m row) off
 | .slice g z rows => .slice (g.fg m) z (D.fgr n m rows)
 | .agg cs => .agg (D.fgs n m cs)
 | .tuple ds => .tuple (D.fgs n m ds)
 | .junk => .junk
 | .int k x => .int k x
 | .bool b => .bool b
 | .str l => .str l
 | .nilp => .nilp
 | .val v => .val v
 | .selfp T o => if o < n then .selfp T o else .junk
def D.fgs (n m : Nat) : List D → List D
 | [] => []
 | d :: r => D.fg n m d :: D.fgs n m r
def D.fgr (n m : Nat) : List (List D) → List (List D)
 | [] => []
 | d :: r => D.fgs n m d :: D.fgr n m r
end

theorem fgs_eq (n m : Nat) : ∀ l, D.fgs n m l = l.map (D.fg n m)
 | [] => by simp [D.fgs]
 | d :: r => by simp [D.fgs, fgs_eq n m r]
theorem fgr_eq (n m : Nat) : ∀ l, D.fgr n m l = l.map (D.fgs n m)
 | [] => by simp [D.fgr]
 | d :: r => by simp [D.fgr, fgr_eq n m r]

def St.cut (s : St) (n m : Nat) : St := ⟨(s.objs.take n).map (D.fgs n m), s.toks.take m⟩

def Tm.fg (n m : Nat) (tm : Tm) : Tm := tm.map fun p => (p.1, p.2.fg n m)

def Tm.keep (ks : List Nat) (tm : Tm) : Tm := tm.filter fun p => ks.contains p.1

theorem cut_objs (s : St) (n m : Nat) : (s.cut n m).objs.length = min n s.objs.length := by simp [St.cut]

theorem TagOk.fg {M : Map} {g : Tag} {z len cap : Nat} {base : Option (Nat × Nat)} (n m : Nat) (h : TagOk M s g z len base cap) : TagOk M (s.cut n m) (g.fg m) z len base cap := by
 cases g with
 | full => exact h
 | shared => exact h
 | tok t y =>
   simp only [Tag.fg]
   split
   · rename_i ht
     obtain ⟨h1, h2⟩ := h
     refine ⟨by simp [St.cut]; omega, fun k hk => h2 k ?_⟩
     simpa [St.cut, List.getElem?_take_of_lt ht] using hk
   · trivial

theorem RD.fg {M : Map} {d : D} {v : Value} (n m : Nat) (h : RD M s d v) : RD M (s.cut n m) (d.fg n m) v := by
 induction h with
 | junk v => simp only [D.fg]; exact .junk v
 | int k x => simp only [D.fg]; exact .int k x
 | bool b => simp only [D.fg]; exact .bool b
 | str l => simp only [D.fg]; exact .str l
 | nilp => simp only [D.fg]; exact .nilp
 | val v hv => simp only [D.fg]; exact .val v hv
 | selfp T o v h ht hv =>
   simp only [D.fg]
   split
   · exact .selfp T o v (by rw [cut_objs]; omega) ht hv
   · exact .junk _
 | ptr o off h =>
   simp only [D.fg]
   split
   · exact .ptr o off (by rw [cut_objs]; omega)
   · exact .junk _
 | cptr row off b k h1 h2 ih =>
   simp only [D.fg, fgs_eq]
   refine .cptr _ off b k (fun i d e => ?_) (fun i d u e eu => ?_)
   · simp only [List.getElem?_map, Option.map_eq_some_iff] at e
     obtain ⟨d', e, rfl⟩ := e
     exact h1 i d' e
   · simp only [List.getElem?_map, Option.map_eq_some_iff] at e
     obtain ⟨d', e, rfl⟩ := e
     exact ih i d' u e eu
 | snil g z cap hc ht => simp only [D.fg, D.fgr]; exact .snil _ z cap hc (ht.fg n m)
 | semp z a cap => simp only [D.fg, D.fgr, Tag.fg]; exact .semp z a cap
 | slice g z rows b k cap hl hs h1 h2 ht ih =>
   simp only [D.fg, fgr_eq]
   have hlen : (rows.map (D.fgs n m)).length = rows.length := by simp
   have key := RD.slice (M := M) (s := s.cut n m) (g.fg m) z (rows.map (D.fgs n m)) b k cap (by rw [hlen]; exact hl) (fun row hr => by
       obtain ⟨row', h', rfl⟩ := List.mem_map.1 hr
       rw [fgs_eq, List.length_map]; exact hs row' h')
     (fun i row j d e1 e2 => by
       simp only [List.getElem?_map, Option.map_eq_some_iff] at e1
       obtain ⟨row', e1, rfl⟩ := e1
       rw [fgs_eq] at e2
       simp only [List.getElem?_map, Option.map_eq_some_iff] at e2
       obtain ⟨d', e2, rfl⟩ := e2
       exact h1 i row' j d' e1 e2)
     (fun i row j d u e1 e2 eu => by
       simp only [List.getElem?_map, Option.map_eq_some_iff] at e1
       obtain ⟨row', e1, rfl⟩ := e1
       rw [fgs_eq] at e2
       simp only [List.getElem?_map, Option.map_eq_some_iff] at e2
       obtain ⟨d', e2, rfl⟩ := e2
       exact ih i row' j d' u e1 e2 eu)
     (by rw [hlen]; exact ht.fg n m)
   rw [hlen] at key
   exact key
 | agg cells vs hl h1 _ ih =>
   simp only [D.fg, fgs_eq]
   refine .agg _ vs (by simpa using hl) h1 (fun i d v e1 e2 => ?_)
   simp only [List.getElem?_map, Option.map_eq_some_iff] at e1
   obtain ⟨d', e1, rfl⟩ := e1
   exact ih i d' v e1 e2
 | tuple ds vs hl _ ih =>
   simp only [D.fg, fgs_eq]
   refine .tuple _ vs (by simpa using hl) (fun i d v e1 e2 => ?_)
   simp only [List.getElem?_map, Option.map_eq_some_iff] at e1
   obtain ⟨d', e1, rfl⟩ := e1
   exact ih i d' v e1 e2

theorem cut_tok {t k n m : Nat} (h : (s.cut n m).toks[t]? = some (some k)) : s.toks[t]? = some (some k) := by
 simp only [St.cut, List.getElem?_take] at h
 split at h
 · exact h
 · cases h

theorem cut_live {t n m : Nat} (h : (s.cut n m).live t) : s.live t := by
 obtain ⟨k, hk⟩ := h
 exact ⟨k, cut_tok hk⟩

theorem Rel.cut {M : Map} {w : World} (n m : Nat) (r : Rel M s w) : Rel M (s.cut n m) w := by
 have hH : ∀ o, o < (s.cut n m).objs.length → o < s.objs.length := fun o h => by rw [cut_objs] at h; omega
 refine ⟨r.comm, fun o ds e => ?_, fun o ho => r.objG o (hH o ho), fun o o' h h' => r.inj o o' (hH o h) (hH o' h'), fun t k e => r.tok t k (cut_tok e),
   fun t b c z o hl e ho => r.tokObj t b c z o (cut_live hl) e (hH o ho), fun t t' b c z c' z' h h' e e' => r.tokInj t t' b c z c' z' (cut_live h) (cut_live h') e e'⟩
 simp only [St.cut, List.getElem?_map, Option.map_eq_some_iff, List.getElem?_take] at e
 obtain ⟨ds', e, rfl⟩ := e
 split at e
 · obtain ⟨vs, T, h1, h2, h3, h4⟩ := r.obj o ds' e
   refine ⟨vs, T, h1, by rw [fgs_eq]; simpa using h2, h3, fun i d v e1 e2 => ?_⟩
   rw [fgs_eq] at e1
   simp only [List.getElem?_map, Option.map_eq_some_iff] at e1
   obtain ⟨d', e1, rfl⟩ := e1
   exact (h4 i d' v e1 e2).fg n m
 · cases e

theorem Ext.cut {M0 M : Map} {s0 : St} {w0 w : World} {n m : Nat} (e : Ext M0 s0 w0 M s w) (hn : s0.objs.length ≤ n) (hm : s0.toks.length ≤ m) : Ext M0 s0 w0 M (s.cut n m) w := by
 have hH : ∀ o, o < (s.cut n m).objs.length → o < s.objs.length := fun o h => by rw [cut_objs] at h; omega
 refine ⟨⟨e.le.G, by rw [cut_objs]; have := e.le.n; omega, e.le.loc, by simp [St.cut]; have := e.le.t; omega, fun t k h1 h2 => e.le.tk t k h1 (cut_tok h2)⟩, e.kept, fun o h1 h2 => e.newO o h1 (hH o h2), fun t b c z h => e.newT t b c z (cut_live h), e.newG, e.size, e.os, e.tape, e.output⟩

end
end Go.Abs

/-! Call -/

namespace Go.Abs

/-! ### Entering and leaving a function -/

def argTm : Nat → List D → Tm
 | _, [] => []
 | n, d :: r => (n, d) :: argTm (n + 1) r

def resL : List (Nat × Option (Bool × Nat)) → Tm → St → Option (List D)
 | [], _, _ => some []
 | (t, none) :: r, tm, s => match resL r tm s with | some l => some (tm.get t :: l) | none => none
 | (t, some (agg, size)) :: r, tm, s =>
   match tm.get t with
   | .ptr o off =>
     match s.objs[o]? with
     | some cs => match part cs off agg size, resL r tm s with | some d, some l => some (d :: l) | _, _ => none
     | none => none
   | _ => none

def oneD : List D → D
 | [d] => d
 | l => .tuple l

def retQ (B : Base) (res : List (Nat × Option (Bool × Nat))) (Q : D → St → Prop) : Exit → Tm → St → Prop
 | .normal, tm, s | .ret, tm, s => ∃ l, resL res tm s = some l ∧ ∃ n m, B.s.objs.length ≤ n ∧ B.s.toks.length ≤ m ∧ Q ((oneD l).fg n m) (s.cut n m)
 | _, _, _ => False

section
variable {P : Program} {M : Map} {s : St} {w : World}

theorem argTm_get : ∀ (l : List D) (n t : Nat), (argTm n l).get t = if n ≤ t then (l[t - n]?).getD .junk else .junk
 | [], n, t => by simp [argTm, Tm.get]
 | d :: r, n, t => by
   simp only [argTm, Tm.get, argTm_get r (n + 1) t]
   by_cases h : n = t
   · subst h; simp
   · rw [if_neg h]
     by_cases h2 : n + 1 ≤ t
     · rw [if_pos h2, if_pos (by omega), show t - n = (t - (n + 1)) + 1 by omega]; simp
     · rw [if_neg h2, if_neg (by omega)]

def resOne (tmps : Array Value) : ResultVar → Go.Sem Value
 | .tmp t => pure (tmps.getD t Go.undef)
 | .cell a t => do loadVar t (← asAddr (tmps.getD a Go.undef))

theorem resL_run (r : Rel M s w) {tm : Tm} {tmps : Array Value} (ht : RTm M s tm tmps) : ∀ {rs : List ResultVar} {res : List (Nat × Option (Bool × Nat))} {l : List D}, cRes P rs = some res → resL res tm s = some l →
   ∃ vs : List Value, (rs.mapM (resOne tmps)).run P w = .ok vs w ∧ vs.length = l.length ∧
     ∀ (i : Nat) (d : D) (v : Value), l[i]? = some d → vs[i]? = some v → RD M s d v
 | [], res, l, hc, hl => by cases hc; cases hl; exact ⟨[], rfl, rfl, by simp⟩
 | .tmp t :: rs, res, l, hc, hl => by
   obtain ⟨res', h1, rfl⟩ := map_some (by simpa [cRes] using hc)
   simp only [resL] at hl
   split at hl
   · rename_i l' hl'
     cases hl
     obtain ⟨vs, g1, g2, g3⟩ := resL_run r ht h1 hl'
     refine ⟨tmps.getD t Go.undef :: vs, ?_, by simp [g2], fun i d v e1 e2 => ?_⟩
     · rw [List.mapM_cons]
       simp only [resOne, Go.Sem.run_bind, Go.Sem.run_pure, Result.andThen_ok, g1]
     · cases i with
       | zero => simp only [List.getElem?_cons_zero, Option.some.injEq] at e1 e2; subst e1; subst e2; exact ht t
       | succ i => exact g3 i d v (by simpa using e1) (by simpa using e2)
   · cases hl
 | .cell a t :: rs, res, l, hc, hl => by
   simp only [cRes] at hc
   split at hc
   · rename_i g i res' h1 h2 h3
     cases hc
     simp only [resL] at hl
     split at hl
     · rename_i o off ho
       split at hl
       · rename_i cs hcs
         split at hl
         · rename_i d l' hd hl'
           cases hl
           obtain ⟨vs, g1, g2, g3⟩ := resL_run r ht h3 hl'
           have hv := ht a
           rw [ho] at hv
           obtain ⟨hv, _⟩ := hv.ptr_inv
           have hload : ∃ v, (loadVar t ⟨M.mu o, off, none⟩).run P w = .ok v w ∧ RD M s d v := by
             obtain ⟨vs', T, hh, hsz, ⟨hone, _⟩, hrd'⟩ := r.obj o cs hcs
             let n := if g then i.size else 1
             have hfit : off + n ≤ vs'.size := by
               rcases part_some hd with ⟨rfl, hq, _⟩ | ⟨rfl, hq⟩
               · simp [n]; omega
               · have := (List.getElem?_eq_some_iff.1 hq).1; simp [n]; omega
             have hlen : ((vs'.toList.drop off).take n).length = n := by simp; omega
             have hJ : ∀ (j : Nat) (u : Value), ((vs'.toList.drop off).take n)[j]? = some u → vs'[off + j]? = some u := by
               intro j u h
               rw [List.getElem?_take] at h
               split at h
               · rw [List.getElem?_drop] at h; simpa using h
               · cases h
             refine ⟨_, load_run (w := w) P h2 h1 (M.mu o) off ((vs'.toList.drop off).take n) hlen (fun j u h => by rw [cell?_row hh]; exact hJ j u h), ?_⟩
             exact part_sound hd _ hlen (fun _ u hu => hone u (Array.mem_toList_iff.1 (List.mem_of_mem_drop (List.mem_of_mem_take hu)))) (fun j d u e1 e2 => hrd' _ d u e1 (hJ j u e2))
           obtain ⟨v, hlv, hvd⟩ := hload
           refine ⟨v :: vs, ?_, by simp [g2], fun i d' v' e1 e2 => ?_⟩
           · rw [List.mapM_cons]
             have hone : (resOne tmps (.cell a t)).run P w = .ok v w := by
               simp only [resOne, Go.Sem.run_bind, hv, asAddr, Go.Sem.run_pure, Result.andThen_ok, hlv]
             simp only [Go.Sem.run_bind, hone, Result.andThen_ok, g1, Go.Sem.run_pure]
           · cases i with
             | zero => simp only [List.getElem?_cons_zero, Option.some.injEq] at e1 e2; subst e1; subst e2; exact hvd
             | succ i => exact g3 i d' v' (by simpa using e1) (by simpa using e2)
         · cases hl
       · cases hl
     · cases hl
   · cases hc

theorem results_sound (r : Rel M s w) {tm : Tm} {tmps : Array Value} (ht : RTm M s tm tmps) {fn : Func} {res : List (Nat × Option (Bool × Nat))} {l : List D} (hc : cRes P fn.results.toList = some res) (hl : resL res tm s = some l) :
   ∃ v, (results fn tmps).run P w = .ok v w ∧ RD M s (oneD l) v := by
 obtain ⟨vs, g1, g2, g3⟩ := resL_run (P := P) r ht hc hl
 have hrun : (results fn tmps).run P w = .ok (if h : vs.toArray.size = 1 then vs.toArray[0] else .tuple vs.toArray) w := by
   have e : results fn tmps = (do let vs ← fn.results.mapM (resOne tmps); pure (if h : vs.size = 1 then vs[0] else .tuple vs)) := by
     unfold results
     rfl
   rw [e, Array.mapM_eq_mapM_toList]
   simp only [Go.Sem.run_bind, Go.Sem.run_map, g1, Result.andThen_ok, Go.Sem.run_pure]
 refine ⟨_, hrun, ?_⟩
 clear hrun g1 hl
 match l, vs, g2, g3 with
 | [], [], _, _ => exact .tuple [] #[] rfl (by simp)
 | [d], [v], _, g3 => exact g3 0 d v rfl rfl
 | d :: d' :: l, v :: v' :: vs, h, g3 =>
   have : ¬ ((v :: v' :: vs).toArray.size = 1) := by simp
   rw [dif_neg this]
   exact .tuple _ _ (by simpa using h.symm) (fun i d v e1 e2 => g3 i d v e1 (by simpa using e2))

theorem ACalls.intro {f : FuncId} {fn : Func} {af : AF} {args : List D} {Q : D → St → Prop} (hf : P.funcs[f]? = some fn) (hc : cF P fn = some af) (hl : args.length ≤ af.ntmps)
   (h : ∀ B : Base, B.s = s → Sem P B af.ntmps af.body (retQ B af.results Q) (argTm 0 args) s) : ACalls P f args s Q := by
 intro M w vargs r hlaid hsz ha
 unfold cF at hc
 split at hc
 · rename_i c hbody
   split at hc
   · rename_i b res h1 h2
     cases hc
     simp only at h hl
     refine calls_of_wp hf hbody ?_
     have hs := h ⟨M, s, w, hlaid⟩ rfl c h1 { tmps := vargs ++ Array.replicate (fn.ntmps - vargs.size) Go.undef, defers := [] } w
       ⟨M, Ext.refl M s w, r, fun t => by
         rw [argTm_get]
         simp only [Nat.zero_le, if_true, Nat.sub_zero]
         cases hd : args[t]? with
         | none => exact .junk _
         | some d =>
           have hH := (List.getElem?_eq_some_iff.1 hd).1
           have hv : vargs[t]? = some vargs[t] := Array.getElem?_eq_getElem (by omega)
           have : (vargs ++ Array.replicate (fn.ntmps - vargs.size) Go.undef).getD t Go.undef = vargs[t] := by
             rw [Array.getD_eq_getD_getElem?, Array.getElem?_append_left (by omega), hv]; rfl
           rw [this]
           exact ha t d _ hd hv, by simp; omega, rfl⟩
     refine wp_mono hs fun e act w' hp => ?_
     obtain ⟨tm, s', hq, M', hext, r', ht, _, hdf⟩ := hp
     have fin : (∃ l, resL res tm s' = some l ∧ ∃ n m, s.objs.length ≤ n ∧ s.toks.length ≤ m ∧ Q ((oneD l).fg n m) (s'.cut n m)) → act.defers = [] ∧ ∃ v, (results fn act.tmps).run P w' = .ok v w' ∧
         ∃ M' d v' s', Ending.returned v = .returned v' ∧ Q d s' ∧ Ext M s w M' s' w' ∧ Rel M' s' w' ∧ RD M' s' d v' := by
       rintro ⟨l, hl, n, m, hn, hm, hQ⟩
       obtain ⟨v, hrun, hrd⟩ := results_sound (P := P) r' ht h2 hl
       exact ⟨hdf, v, hrun, M', _, v, _, rfl, hQ, hext.cut hn hm, r'.cut n m, hrd.fg n m⟩
     cases e with
     | normal => exact fin hq
     | ret => exact fin hq
     | exit id => exact hq.elim
     | goto l => exact hq.elim
     | panic ch => exact hq.elim
     | outgrown => exact hq.elim
   · cases hc
 · cases hc

end
end Go.Abs

/-! Frame -/

namespace Go.Abs

def Tag.ok (m : Nat) : Tag → Bool
 | .tok t _ => decide (t < m)
 | _ => true

def Tag.ren (ts : List Nat) : Tag → Tag
 | .tok t y => match ts[t]? with | some t' => .tok t' y | none => .shared
 | g => g

mutual
def D.ok (n m : Nat) : D → Bool
 | .ptr o _ => decide (o < n)
 | .cptr row _ => D.oks n m row
 | .slice g _ rows => g.ok m && D.okr n m rows
 | .agg cs => D.oks n m cs
 | .tuple ds => D.oks n m ds
 | .selfp _ o => decide (o < n)
 | _ => true
def D.oks (n m : Nat) : List D → Bool
 | [] => true
 | d :: r => D.ok n m d && D.oks n m r
def D.okr (n m : Nat) : List (List D) → Bool
 | [] => true
 | d :: r => D.oks n m d && D.okr n m r
end

mutual
def D.ren (os ts : List Nat) : D → D
 | .ptr o off => match os[o]? with | some o' => .ptr o' off | none => .junk
 | .cptr row off => .cptr (D.rens os ts row) off
 | .slice g z rows => .slice (g.ren ts) z (D.renr os ts rows)
 | .agg cs => .agg (D.rens os ts cs)
 | .tuple ds => .tuple (D.rens os ts ds)
 | .junk => .junk
 | .int k x => .int k x
 | .bool b => .bool b
 | .str l => .str l
 | .nilp => .nilp
 | .val v => .val v
 | .selfp T o => match os[o]? with | some o' => .selfp T o' | none => .junk
def D.rens (os ts : List Nat) : List D → List D
 | [] => []
 | d :: r => D.ren os ts d :: D.rens os ts r
def D.renr (os ts : List Nat) : List (List D) → List (List D)
 | [] => []
 | d :: r => D.rens os ts d :: D.renr os ts r
end

theorem rens_eq (os ts : List Nat) : ∀ l, D.rens os ts l = l.map (D.ren os ts)
 | [] => by simp [D.rens]
 | d :: r => by simp [D.rens, rens_eq os ts r]
theorem renr_eq (os ts : List Nat) : ∀ l, D.renr os ts l = l.map (D.rens os ts)
 | [] => by simp [D.renr]
 | d :: r => by simp [D.renr, renr_eq os ts r]
theorem oks_eq (n m : Nat) : ∀ l, D.oks n m l = l.all (D.ok n m)
 | [] => by simp [D.oks]
 | d :: r => by simp [D.oks, oks_eq n m r]
theorem okr_eq (n m : Nat) : ∀ l, D.okr n m l = l.all (D.oks n m)
 | [] => by simp [D.okr]
 | d :: r => by simp [D.okr, okr_eq n m r]

theorem ok_mem {n m : Nat} {l : List D} (h : D.oks n m l = true) {i : Nat} {d : D} (e : l[i]? = some d) : D.ok n m d = true := by
 rw [oks_eq] at h; exact List.all_eq_true.1 h d (List.mem_of_getElem? e)
theorem okr_mem {n m : Nat} {l : List (List D)} (h : D.okr n m l = true) {i : Nat} {d : List D} (e : l[i]? = some d) : D.oks n m d = true := by
 rw [okr_eq] at h; exact List.all_eq_true.1 h d (List.mem_of_getElem? e)

section
variable {M M0 : Map} {s s0 : St} {os ts : List Nat}

theorem TagOk.unren (hbe : ∀ (i : Nat) t, ts[i]? = some t → M0.be i = M.be t) (ht : ∀ (i t : Nat), ts[i]? = some t → s0.toks[i]? = s.toks[t]?) (hlen : s0.toks.length = ts.length) {g : Tag} {z len cap : Nat} {base : Option (Nat × Nat)} (hok : g.ok ts.length = true) (h : TagOk M s (g.ren ts) z len base cap) : TagOk M0 s0 g z len base cap := by
 cases g with
 | full => exact h
 | shared => exact h
 | tok t y =>
   have hH : t < ts.length := by simpa [Tag.ok] using hok
   have e : ts[t]? = some ts[t] := List.getElem?_eq_getElem hH
   simp only [Tag.ren, e] at h
   obtain ⟨h1, h2⟩ := h
   refine ⟨by omega, fun n hn => ?_⟩
   rw [ht t _ e] at hn
   rw [hbe t _ e]
   exact h2 n hn

theorem RD.unren (hG : M0.G = M.G) (hloc : ∀ (i : Nat) o, os[i]? = some o → M0.loc i = M.loc o) (hol : s0.objs.length = os.length)
   (hbe : ∀ (i : Nat) t, ts[i]? = some t → M0.be i = M.be t) (ht : ∀ (i t : Nat), ts[i]? = some t → s0.toks[i]? = s.toks[t]?) (hlen : s0.toks.length = ts.length) {d : D} {v : Value} (h : RD M s d v) :
   ∀ d0 : D, d0.ren os ts = d → d0.ok os.length ts.length = true → RD M0 s0 d0 v := by
 have hmu : ∀ (i : Nat) o, os[i]? = some o → M0.mu i = M.mu o := fun i o h => congrArg Prod.fst (hloc i o h)
 have tag := fun {g z len cap base} => @TagOk.unren M M0 s s0 ts hbe ht hlen g z len cap base
 induction h with
 | junk v =>
   intro d0 e ok
   cases d0 <;> simp only [D.ren] at e <;> try (cases e; done)
   · exact .junk v
   · rename_i o off
     have hH : o < os.length := by simpa [D.ok] using ok
     rw [List.getElem?_eq_getElem hH] at e; cases e
   · rename_i T o
     have hH : o < os.length := by simpa [D.ok] using ok
     rw [List.getElem?_eq_getElem hH] at e; cases e
 | val v hv => intro d0 e ok; cases d0 <;> simp only [D.ren] at e <;> first | (cases e; exact .val _ hv) | (split at e <;> cases e) | cases e
 | selfp T o v ho ht hv =>
   intro d0 e ok
   cases d0 <;> simp only [D.ren] at e <;> first | (split at e <;> cases e; done) | skip
   all_goals try (cases e; done)
   rename_i T0 o0
   have hH : o0 < os.length := by simpa [D.ok] using ok
   rw [List.getElem?_eq_getElem hH] at e
   cases e
   have hl := hloc o0 _ (List.getElem?_eq_getElem hH)
   exact .selfp _ o0 v (by omega) ((congrArg Prod.snd hl).trans ht) (by rw [hmu o0 _ (List.getElem?_eq_getElem hH)]; exact hv)
 | int k x => intro d0 e ok; cases d0 <;> simp only [D.ren] at e <;> first | (cases e; exact .int _ _) | (split at e <;> cases e) | cases e
 | bool b => intro d0 e ok; cases d0 <;> simp only [D.ren] at e <;> first | (cases e; exact .bool _) | (split at e <;> cases e) | cases e
 | str l => intro d0 e ok; cases d0 <;> simp only [D.ren] at e <;> first | (cases e; exact .str _) | (split at e <;> cases e) | cases e
 | nilp => intro d0 e ok; cases d0 <;> simp only [D.ren] at e <;> first | (cases e; exact .nilp) | (split at e <;> cases e) | cases e
 | ptr o off ho =>
   intro d0 e ok
   cases d0 <;> simp only [D.ren] at e <;> first | (cases e; done) | skip
   all_goals try (split at e <;> cases e; done)
   rename_i o0 off0
   have hH : o0 < os.length := by simpa [D.ok] using ok
   rw [List.getElem?_eq_getElem hH] at e
   cases e
   rw [← hmu o0 _ (List.getElem?_eq_getElem hH)]
   exact RD.ptr (s := s0) o0 _ (by omega)
 | cptr row off b k h1 h2 ih =>
   intro d0 e ok
   cases d0 <;> simp only [D.ren] at e <;> first | (split at e <;> cases e; done) | skip
   all_goals try (cases e; done)
   rename_i row0 off0
   simp only [D.cptr.injEq] at e
   obtain ⟨rfl, rfl⟩ := e
   simp only [D.ok] at ok
   rw [rens_eq] at h1 ih
   refine .cptr row0 off0 b k (fun i d e => ?_) (fun i d u e eu => ?_)
   · rw [hG]; exact h1 i _ (by rw [List.getElem?_map, e]; rfl)
   · rw [hG] at eu; exact ih i _ u (by rw [List.getElem?_map, e]; rfl) eu d rfl (ok_mem ok e)
 | snil g z cap hc htg =>
   intro d0 e ok
   cases d0 <;> simp only [D.ren] at e <;> first | (split at e <;> cases e; done) | skip
   all_goals try (cases e; done)
   rename_i g0 z0 rows0
   simp only [D.slice.injEq] at e
   obtain ⟨rfl, rfl, e⟩ := e
   have : rows0 = [] := by cases rows0 <;> simp [D.renr] at e; rfl
   subst this
   simp only [D.ok, Bool.and_eq_true] at ok
   exact .snil g0 z0 cap hc (tag ok.1 htg)
 | semp z a cap =>
   intro d0 e ok
   cases d0 <;> simp only [D.ren] at e <;> first | (split at e <;> cases e; done) | skip
   all_goals try (cases e; done)
   rename_i g0 z0 rows0
   simp only [D.slice.injEq] at e
   obtain ⟨hg, rfl, e⟩ := e
   have : rows0 = [] := by cases rows0 <;> simp [D.renr] at e; rfl
   subst this
   simp only [D.ok, Bool.and_eq_true] at ok
   have : g0 = .shared := by
     cases g0 with
     | tok t y =>
       have ht : t < ts.length := by simpa [Tag.ok] using ok.1
       simp [Tag.ren, ht] at hg
     | shared => rfl
     | _ => simp [Tag.ren] at hg
   subst this
   exact .semp _ a cap
 | slice g z rows b k cap hl hs h1 h2 htg ih =>
   intro d0 e ok
   cases d0 <;> simp only [D.ren] at e <;> first | (split at e <;> cases e; done) | skip
   all_goals try (cases e; done)
   rename_i g0 z0 rows0
   simp only [D.slice.injEq] at e
   obtain ⟨rfl, rfl, rfl⟩ := e
   simp only [D.ok, Bool.and_eq_true] at ok
   rw [renr_eq] at hl hs h1 ih htg
   simp only [renr_eq, List.length_map] at hl htg ⊢
   have hrow : ∀ (i : Nat) (row : List D), rows0[i]? = some row → (rows0.map (D.rens os ts))[i]? = some (D.rens os ts row) := fun i row e => by rw [List.getElem?_map, e]; rfl
   have hcell : ∀ (row : List D) (j : Nat) (d : D), row[j]? = some d → (D.rens os ts row)[j]? = some (D.ren os ts d) := fun row j d e => by rw [rens_eq, List.getElem?_map, e]; rfl
   refine .slice g0 z0 rows0 b k cap hl (fun row hr => ?_) (fun i row j d e1 e2 => ?_) (fun i row j d u e1 e2 eu => ?_) (tag ok.1 htg)
   · have := hs (D.rens os ts row) (List.mem_map.2 ⟨row, hr, rfl⟩)
     rwa [rens_eq, List.length_map] at this
   · rw [hG]; exact h1 i _ j _ (hrow i row e1) (hcell row j d e2)
   · rw [hG] at eu; exact ih i _ j _ u (hrow i row e1) (hcell row j d e2) eu d rfl (ok_mem (okr_mem ok.2 e1) e2)
 | agg cells vs hl h1 _ ih =>
   intro d0 e ok
   cases d0 <;> simp only [D.ren] at e <;> first | (split at e <;> cases e; done) | skip
   all_goals try (cases e; done)
   rename_i cs0
   simp only [D.agg.injEq] at e
   subst e
   simp only [D.ok] at ok
   rw [rens_eq] at hl ih
   refine .agg cs0 vs (by simpa using hl) h1 (fun i d v e1 e2 => ih i _ v (by rw [List.getElem?_map, e1]; rfl) e2 d rfl (ok_mem ok e1))
 | tuple ds vs hl _ ih =>
   intro d0 e ok
   cases d0 <;> simp only [D.ren] at e <;> first | (split at e <;> cases e; done) | skip
   all_goals try (cases e; done)
   rename_i cs0
   simp only [D.tuple.injEq] at e
   subst e
   simp only [D.ok] at ok
   rw [rens_eq] at hl ih
   refine .tuple cs0 vs (by simpa using hl) (fun i d v e1 e2 => ih i _ v (by rw [List.getElem?_map, e1]; rfl) e2 d rfl (ok_mem ok e1))

theorem RD.ren (hG : M0.G = M.G) (hloc : ∀ i, i < s0.objs.length → ∃ o, os[i]? = some o ∧ o < s.objs.length ∧ M.loc o = M0.loc i)
   (hbe : ∀ i, i < s0.toks.length → ∃ t, ts[i]? = some t ∧ t < s.toks.length ∧ s.toks[t]? = s0.toks[i]? ∧ M.be t = M0.be i) {d : D} {v : Value} (h : RD M0 s0 d v) : RD M s (d.ren os ts) v := by
 have tag : ∀ {g : Tag} {z len cap : Nat} {base : Option (Nat × Nat)}, TagOk M0 s0 g z len base cap → TagOk M s (g.ren ts) z len base cap := by
   intro g z len cap base h
   cases g with
   | full => exact h
   | shared => exact h
   | tok t y =>
     obtain ⟨h1, h2⟩ := h
     obtain ⟨t', e, hH, htk, hb⟩ := hbe t h1
     simp only [Tag.ren, e]
     refine ⟨hH, fun n hn => ?_⟩
     rw [hb]
     exact h2 n (htk ▸ hn)
 induction h with
 | junk v => simp only [D.ren]; exact .junk v
 | int k x => simp only [D.ren]; exact .int k x
 | bool b => simp only [D.ren]; exact .bool b
 | str l => simp only [D.ren]; exact .str l
 | nilp => simp only [D.ren]; exact .nilp
 | ptr o off ho =>
   obtain ⟨o', e, hH, hm⟩ := hloc o ho
   simp only [D.ren, e]
   have hm : M.mu o' = M0.mu o := congrArg Prod.fst hm
   rw [← hm]
   exact .ptr o' off hH
 | val v hv => simp only [D.ren]; exact .val v hv
 | selfp T o v ho ht hv =>
   obtain ⟨o', e, hH, hm⟩ := hloc o ho
   simp only [D.ren, e]
   have h1 : M.mu o' = M0.mu o := congrArg Prod.fst hm
   have h2 : M.ty o' = M0.ty o := congrArg Prod.snd hm
   exact .selfp T o' v hH (by rw [h2]; exact ht) (by rw [h1]; exact hv)
 | cptr row off b k h1 h2 ih =>
   simp only [D.ren, rens_eq]
   refine .cptr _ off b k (fun i d e => ?_) (fun i d u e eu => ?_)
   · simp only [List.getElem?_map, Option.map_eq_some_iff] at e
     obtain ⟨d', e, rfl⟩ := e
     rw [← hG]; exact h1 i d' e
   · simp only [List.getElem?_map, Option.map_eq_some_iff] at e
     obtain ⟨d', e, rfl⟩ := e
     rw [← hG] at eu; exact ih i d' u e eu
 | snil g z cap hc ht => simp only [D.ren, D.renr]; exact .snil _ z cap hc (tag ht)
 | semp z a cap => simp only [D.ren, D.renr, Tag.ren]; exact .semp z a cap
 | slice g z rows b k cap hl hs h1 h2 ht ih =>
   simp only [D.ren, renr_eq]
   have hlen : (rows.map (D.rens os ts)).length = rows.length := by simp
   have key := RD.slice (M := M) (s := s) (g.ren ts) z (rows.map (D.rens os ts)) b k cap (by rw [hlen]; exact hl) (fun row hr => by
       obtain ⟨row', h', rfl⟩ := List.mem_map.1 hr
       rw [rens_eq, List.length_map]; exact hs row' h')
     (fun i row j d e1 e2 => by
       simp only [List.getElem?_map, Option.map_eq_some_iff] at e1
       obtain ⟨row', e1, rfl⟩ := e1
       rw [rens_eq] at e2
       simp only [List.getElem?_map, Option.map_eq_some_iff] at e2
       obtain ⟨d', e2, rfl⟩ := e2
       rw [← hG]; exact h1 i row' j d' e1 e2)
     (fun i row j d u e1 e2 eu => by
       simp only [List.getElem?_map, Option.map_eq_some_iff] at e1
       obtain ⟨row', e1, rfl⟩ := e1
       rw [rens_eq] at e2
       simp only [List.getElem?_map, Option.map_eq_some_iff] at e2
       obtain ⟨d', e2, rfl⟩ := e2
       rw [← hG] at eu; exact ih i row' j d' u e1 e2 eu)
     (by rw [hlen]; exact tag ht)
   rw [hlen] at key
   exact key
 | agg cells vs hl h1 _ ih =>
   simp only [D.ren, rens_eq]
   refine .agg _ vs (by simpa using hl) h1 (fun i d v e1 e2 => ?_)
   simp only [List.getElem?_map, Option.map_eq_some_iff] at e1
   obtain ⟨d', e1, rfl⟩ := e1
   exact ih i d' v e1 e2
 | tuple ds vs hl _ ih =>
   simp only [D.ren, rens_eq]
   refine .tuple _ vs (by simpa using hl) (fun i d v e1 e2 => ?_)
   simp only [List.getElem?_map, Option.map_eq_some_iff] at e1
   obtain ⟨d', e1, rfl⟩ := e1
   exact ih i d' v e1 e2

/-! ### The frame -/

def plug {α : Type} : List Nat → List α → List α → List α
 | [], new, l => l ++ new
 | _ :: _, [], l => l
 | o :: os, x :: xs, l => plug os xs (l.set o x)

def allNums (os : List Nat) (n k : Nat) : List Nat := os ++ (List.range k).map (n + ·)

theorem plug_length {α : Type} : ∀ (os : List Nat) (xs l : List α), os.length ≤ xs.length → (plug os xs l).length = l.length + (xs.length - os.length)
 | [], xs, l, _ => by simp [plug]
 | o :: os, [], l, h => by simp at h
 | o :: os, x :: xs, l, h => by
   simp only [plug]
   rw [plug_length os xs _ (by simpa using h)]
   simp

theorem plug_get {α : Type} : ∀ (os : List Nat) (xs l : List α), os.length ≤ xs.length → os.Nodup → (∀ o ∈ os, o < l.length) →
   (∀ (i : Nat) (o : Nat), os[i]? = some o → (plug os xs l)[o]? = xs[i]?) ∧ (∀ o, o < l.length → o ∉ os → (plug os xs l)[o]? = l[o]?) ∧
   (∀ k, (plug os xs l)[l.length + k]? = xs[os.length + k]?)
 | [], xs, l, _, _, _ => by
   refine ⟨by simp, fun o ho _ => by simp only [plug]; rw [List.getElem?_append_left ho], fun k => by simp only [plug]; rw [List.getElem?_append_right (by omega)]; simp⟩
 | o :: os, [], l, h, _, _ => by simp at h
 | o :: os, x :: xs, l, h, hn, hH => by
   simp only [List.nodup_cons] at hn
   have hH' : ∀ q ∈ os, q < (l.set o x).length := fun q hq => by simpa using hH q (by simp [hq])
   obtain ⟨h1, h2, h3⟩ := plug_get os xs (l.set o x) (by simpa using h) hn.2 hH'
   have ho : o < l.length := hH o (by simp)
   simp only [plug]
   refine ⟨fun i q e => ?_, fun q hq hq2 => ?_, fun k => ?_⟩
   · cases i with
     | zero =>
       simp only [List.getElem?_cons_zero, Option.some.injEq] at e
       subst e
       rw [h2 o (by simpa using ho) hn.1]
       simp [ho]
     | succ i => simpa using h1 i q (by simpa using e)
   · have hqo : q ≠ o := fun e => hq2 (by simp [e])
     rw [h2 q (by simpa using hq) (fun h => hq2 (by simp [h])), List.getElem?_set_ne (Ne.symm hqo)]
   · have := h3 k
     simp only [List.length_set] at this
     rw [this]
     simp only [List.length_cons]
     rw [show os.length + 1 + k = (os.length + k) + 1 by omega]; simp

theorem allNums_get (os : List Nat) (n k i : Nat) : (allNums os n k)[i]? = if i < os.length then os[i]? else if i < os.length + k then some (n + (i - os.length)) else none := by
 unfold allNums
 split
 · rename_i h; rw [List.getElem?_append_left h]
 · rename_i h
   rw [List.getElem?_append_right (by omega)]
   split
   · rename_i h2
     rw [List.getElem?_map, List.getElem?_range (by omega)]; rfl
   · rename_i h2
     rw [List.getElem?_eq_none]
     simp; omega

def posOf : List Nat → Nat → Option Nat
 | [], _ => none
 | x :: r, o => if x = o then some 0 else (posOf r o).map (· + 1)

theorem posOf_some : ∀ {l : List Nat} {o i : Nat}, posOf l o = some i → l[i]? = some o
 | x :: r, o, i, h => by
   simp only [posOf] at h
   split at h
   · rename_i e; cases h; simp [e]
   · cases hp : posOf r o with
     | none => rw [hp] at h; cases h
     | some j => rw [hp] at h; cases h; simpa using posOf_some hp

theorem posOf_get : ∀ {l : List Nat} {o i : Nat}, l.Nodup → l[i]? = some o → posOf l o = some i
 | x :: r, o, i, hn, h => by
   simp only [List.nodup_cons] at hn
   simp only [posOf]
   cases i with
   | zero => simp at h; simp [h]
   | succ i =>
     simp at h
     have : x ≠ o := fun e => hn.1 (by rw [e]; exact List.mem_of_getElem? h)
     rw [if_neg this, posOf_get hn.2 h]; rfl

end
end Go.Abs

/-! Frame2 -/

namespace Go.Abs

theorem allNums_nodup {l : List Nat} {n k : Nat} (h : l.Nodup) (hl : ∀ o ∈ l, o < n) : (allNums l n k).Nodup := by
 unfold allNums
 rw [List.nodup_append]
 refine ⟨h, ?_, fun a ha b hb => ?_⟩
 · rw [List.nodup_iff_pairwise_ne, List.pairwise_map]
   exact List.Pairwise.imp (fun h => by omega) (List.nodup_iff_pairwise_ne.1 List.nodup_range)
 · obtain ⟨c, hc, rfl⟩ := List.mem_map.1 hb
   have := hl a ha
   omega

def subMap (M : Map) (os ts : List Nat) : Map := ⟨M.G, fun i => M.loc (os.getD i 0), fun i => M.be (ts.getD i 0)⟩

def backMap (M M0 : Map) (os ts : List Nat) : Map :=
 ⟨M0.G, fun o => match posOf os o with | some i => M0.loc i | none => M.loc o, fun t => match posOf ts t with | some i => M0.be i | none => M.be t⟩

section
variable {P : Program} {M : Map} {s s0 : St} {w : World} {os ts : List Nat}

theorem getD_of {l : List Nat} {i o : Nat} (h : l[i]? = some o) : l.getD i 0 = o := by simp [List.getD, h]

theorem Rel.sub (r : Rel M s w) (hos : os.Nodup) (hts : ts.Nodup) (hol : ∀ o ∈ os, o < s.objs.length)
   (ho : s0.objs.length = os.length) (hobj : ∀ (i o : Nat) (ds : List D), os[i]? = some o → s0.objs[i]? = some ds → s.objs[o]? = some (D.rens os ts ds) ∧ D.oks os.length ts.length ds = true)
   (ht : s0.toks.length = ts.length) (htok : ∀ (i t : Nat), ts[i]? = some t → s0.toks[i]? = s.toks[t]?) : Rel (subMap M os ts) s0 w := by
 have nth : ∀ i, i < s0.objs.length → ∃ o, os[i]? = some o ∧ o < s.objs.length := fun i hi => ⟨os[i], List.getElem?_eq_getElem (by omega), hol _ (List.getElem_mem _)⟩
 have loc : ∀ (i : Nat) o, os[i]? = some o → (subMap M os ts).loc i = M.loc o := fun i o h => by simp only [subMap, getD_of h]
 have mu : ∀ (i : Nat) o, os[i]? = some o → (subMap M os ts).mu i = M.mu o := fun i o h => congrArg Prod.fst (loc i o h)
 have be : ∀ (i : Nat) t, ts[i]? = some t → (subMap M os ts).be i = M.be t := fun i t h => by simp only [subMap, getD_of h]
 have tth : ∀ t, s0.live t → ∃ t', ts[t]? = some t' ∧ s.live t' := fun t ⟨n, hn⟩ => by
   have hH := (List.getElem?_eq_some_iff.1 hn).1
   have e : ts[t]? = some ts[t] := List.getElem?_eq_getElem (by omega)
   exact ⟨_, e, n, by rw [← htok t _ e]; exact hn⟩
 refine ⟨r.comm, fun i ds e => ?_, fun i hi off => ?_, fun i i' hi hi' e => ?_, fun t n e => ?_, fun t b c z i hl e hi => ?_, fun t t' b c z c' z' h h' e e' => ?_⟩
 · obtain ⟨o, h1, _⟩ := nth i (List.getElem?_eq_some_iff.1 e).1
   obtain ⟨h2, h3⟩ := hobj i o ds h1 e
   obtain ⟨vs, T, g1, g2, g3, g4⟩ := r.obj o _ h2
   refine ⟨vs, T, by rw [mu i o h1]; exact g1, by rw [rens_eq] at g2; simpa using g2, ⟨g3.1, by rw [show (subMap M os ts).ty i = M.ty o from congrArg Prod.snd (loc i o h1)]; exact g3.2⟩, fun j d v e1 e2 => ?_⟩
   exact RD.unren (M := M) (M0 := subMap M os ts) (s := s) rfl loc ho be htok ht (g4 j (d.ren os ts) v (by rw [rens_eq, List.getElem?_map, e1]; rfl) e2) d rfl (ok_mem h3 e1)
 · obtain ⟨o, h1, h2⟩ := nth i hi
   rw [mu i o h1]; exact r.objG o h2 off
 · obtain ⟨o, h1, h2⟩ := nth i hi
   obtain ⟨o', h1', h2'⟩ := nth i' hi'
   rw [mu i o h1, mu i' o' h1'] at e
   have := r.inj o o' h2 h2' e
   subst this
   have a := posOf_get hos h1
   have b := posOf_get hos h1'
   rw [a] at b; cases b; rfl
 · obtain ⟨t', h1, h2⟩ := tth t ⟨n, e⟩
   rw [be t t' h1]
   exact r.tok t' n (by rw [← htok t t' h1]; exact e)
 · obtain ⟨t', h1, h2⟩ := tth t hl
   obtain ⟨o, h3, h4⟩ := nth i hi
   rw [be t t' h1] at e
   rw [mu i o h3]
   exact r.tokObj t' b c z o h2 e h4
 · obtain ⟨q, h1, h2⟩ := tth t h
   obtain ⟨q', h1', h2'⟩ := tth t' h'
   rw [be t q h1] at e
   rw [be t' q' h1'] at e'
   have := r.tokInj q q' b c z c' z' h2 h2' e e'
   subst this
   have a := posOf_get hts h1
   have b := posOf_get hts h1'
   rw [a] at b; cases b; rfl

end

def St.back (s : St) (os ts : List Nat) (s' : St) : St :=
 ⟨plug os (s'.objs.map (D.rens (allNums os s.objs.length (s'.objs.length - os.length)) (allNums ts s.toks.length (s'.toks.length - ts.length)))) s.objs, plug ts s'.toks s.toks⟩

def D.back (s : St) (os ts : List Nat) (s' : St) (d : D) : D :=
 d.ren (allNums os s.objs.length (s'.objs.length - os.length)) (allNums ts s.toks.length (s'.toks.length - ts.length))

theorem ACalls.frame {P : Program} {f : FuncId} {args0 args : List D} {s s0 : St} {Q0 Q : D → St → Prop} (os ts : List Nat) (h : ACalls P f args0 s0 Q0) (hos : os.Nodup) (hts : ts.Nodup) (hol : ∀ o ∈ os, o < s.objs.length) (htl : ∀ t ∈ ts, t < s.toks.length)
   (ho : s0.objs.length = os.length) (hobj : ∀ (i o : Nat) (ds : List D), os[i]? = some o → s0.objs[i]? = some ds → s.objs[o]? = some (D.rens os ts ds) ∧ D.oks os.length ts.length ds = true)
   (ht : s0.toks.length = ts.length) (htok : ∀ (i t : Nat), ts[i]? = some t → s0.toks[i]? = s.toks[t]?)
   (hargs : args = D.rens os ts args0) (hok : D.oks os.length ts.length args0 = true) (k : ∀ d s', Q0 d s' → Q (d.back s os ts s') (s.back os ts s')) : ACalls P f args s Q := by
 intro M w vargs r hlaid hsz ha
 have r0 := r.sub hos hts hol ho hobj ht htok
 have loc : ∀ (i : Nat) o, os[i]? = some o → (subMap M os ts).loc i = M.loc o := fun i o h => by simp only [subMap, getD_of h]
 have mu : ∀ (i : Nat) o, os[i]? = some o → (subMap M os ts).mu i = M.mu o := fun i o h => congrArg Prod.fst (loc i o h)
 have be : ∀ (i : Nat) t, ts[i]? = some t → (subMap M os ts).be i = M.be t := fun i t h => by simp only [subMap, getD_of h]
 subst hargs
 have hlaid0 : Laid (subMap M os ts) s0 w := by
   intro g cs hg
   obtain ⟨h1, h2, h3⟩ := hlaid g cs hg
   refine ⟨h1, fun o hH => ?_, fun t c z hl hb => ?_⟩
   · obtain ⟨o', ho'⟩ : ∃ o', os[o]? = some o' := ⟨_, List.getElem?_eq_getElem (by omega)⟩
     rw [mu o o' ho']
     exact h2 o' (hol o' (List.mem_of_getElem? ho'))
   · obtain ⟨n, hn⟩ := hl
     have hH := (List.getElem?_eq_some_iff.1 hn).1
     obtain ⟨t', ht'⟩ : ∃ t', ts[t]? = some t' := ⟨_, List.getElem?_eq_getElem (by omega)⟩
     rw [be t t' ht'] at hb
     exact h3 t' c z ⟨n, by rw [← htok t t' ht']; exact hn⟩ hb
 have hc := h (subMap M os ts) w vargs r0 hlaid0 (by rw [hsz, rens_eq, List.length_map]) (fun i d v e1 e2 =>
   RD.unren (M := M) (M0 := subMap M os ts) (s := s) rfl loc ho be htok ht (ha i (d.ren os ts) v (by rw [rens_eq, List.getElem?_map, e1]; rfl) e2) d rfl (ok_mem hok e1))
 refine hc.mono ?_
 rintro en w' ⟨M0', d, v, s', rfl, hq, e, r', hv⟩
 have hn0 := e.le.n
 have ht0 := e.le.t
 generalize hos' : allNums os s.objs.length (s'.objs.length - os.length) = os'
 generalize hts' : allNums ts s.toks.length (s'.toks.length - ts.length) = ts'
 have nd : os'.Nodup := by rw [← hos']; exact allNums_nodup hos hol
 have ndt : ts'.Nodup := by rw [← hts']; exact allNums_nodup hts htl
 have oget : ∀ i, os'[i]? = if i < os.length then os[i]? else if i < s'.objs.length then some (s.objs.length + (i - os.length)) else none := fun i => by
   rw [← hos', allNums_get]; split
   · rfl
   · rw [show os.length + (s'.objs.length - os.length) = s'.objs.length by omega]
 have tget : ∀ i, ts'[i]? = if i < ts.length then ts[i]? else if i < s'.toks.length then some (s.toks.length + (i - ts.length)) else none := fun i => by
   rw [← hts', allNums_get]; split
   · rfl
   · rw [show ts.length + (s'.toks.length - ts.length) = s'.toks.length by omega]
 have hsb : s.back os ts s' = ⟨plug os (s'.objs.map (D.rens os' ts')) s.objs, plug ts s'.toks s.toks⟩ := by simp only [St.back, hos', hts']
 have hdb : d.back s os ts s' = d.ren os' ts' := by simp only [D.back, hos', hts']
 have hq' := k d s' hq
 rw [hsb, hdb] at hq'
 obtain ⟨p1, p2, p3⟩ := plug_get os (s'.objs.map (D.rens os' ts')) s.objs (by simp; omega) hos hol
 obtain ⟨q1, q2, q3⟩ := plug_get ts s'.toks s.toks (by omega) hts htl
 have plen := plug_length os (s'.objs.map (D.rens os' ts')) s.objs (by simp; omega)
 have qlen := plug_length ts s'.toks s.toks (by omega)
 simp only [List.length_map] at plen
 generalize hs2 : (⟨plug os (s'.objs.map (D.rens os' ts')) s.objs, plug ts s'.toks s.toks⟩ : St) = s2 at hq'
 have so : s2.objs = plug os (s'.objs.map (D.rens os' ts')) s.objs := by rw [← hs2]
 have st : s2.toks = plug ts s'.toks s.toks := by rw [← hs2]
 -- the framed objects
 have fo : ∀ (i o : Nat), os'[i]? = some o → o < s2.objs.length ∧ s2.objs[o]? = (s'.objs[i]?).map (D.rens os' ts') ∧ i < s'.objs.length ∧ (i < os.length → o < s.objs.length ∧ os[i]? = some o) ∧ (os.length ≤ i → s.objs.length ≤ o) := by
   intro i o hi
   rw [oget] at hi
   split at hi
   · rename_i h1
     have hH := hol o (List.mem_of_getElem? hi)
     refine ⟨by rw [so, plen]; omega, by rw [so, p1 i o hi, List.getElem?_map], by omega, fun _ => ⟨hH, hi⟩, fun h => by omega⟩
   · split at hi
     · rename_i h1 h2
       cases hi
       refine ⟨by rw [so, plen]; omega, ?_, h2, fun h => by omega, fun _ => by omega⟩
       rw [so, p3, List.getElem?_map, show os.length + (i - os.length) = i by omega]
     · cases hi
 have ft : ∀ (i t : Nat), ts'[i]? = some t → t < s2.toks.length ∧ s2.toks[t]? = s'.toks[i]? ∧ i < s'.toks.length ∧ (i < ts.length → t < s.toks.length ∧ ts[i]? = some t) ∧ (ts.length ≤ i → s.toks.length ≤ t) := by
   intro i t hi
   rw [tget] at hi
   split at hi
   · rename_i h1
     have hH := htl t (List.mem_of_getElem? hi)
     refine ⟨by rw [st, qlen]; omega, by rw [st, q1 i t hi], by omega, fun _ => ⟨hH, hi⟩, fun h => by omega⟩
   · split at hi
     · rename_i h1 h2
       cases hi
       refine ⟨by rw [st, qlen]; omega, ?_, h2, fun h => by omega, fun _ => by omega⟩
       rw [st, q3, show ts.length + (i - ts.length) = i by omega]
     · cases hi
 -- all others
 have uo : ∀ o, o < s2.objs.length → posOf os' o = none → o < s.objs.length ∧ o ∉ os ∧ s2.objs[o]? = s.objs[o]? := by
   intro o hH hp
   have hnot : ∀ i, os'[i]? ≠ some o := fun i hi => by rw [posOf_get nd hi] at hp; cases hp
   have h1 : o < s.objs.length := by
     rcases Nat.lt_or_ge o s.objs.length with h | h
     · exact h
     · exfalso
       rw [so, plen] at hH
       refine hnot (os.length + (o - s.objs.length)) ?_
       rw [oget, if_neg (by omega), if_pos (by omega)]
       congr 1; omega
   have h2 : o ∉ os := fun hm => by
     obtain ⟨i, hi⟩ := List.mem_iff_getElem?.1 hm
     have hil := (List.getElem?_eq_some_iff.1 hi).1
     exact hnot i (by rw [oget, if_pos hil]; exact hi)
   exact ⟨h1, h2, by rw [so, p2 o h1 h2]⟩
 have ut : ∀ t, t < s2.toks.length → posOf ts' t = none → t < s.toks.length ∧ t ∉ ts ∧ s2.toks[t]? = s.toks[t]? := by
   intro t hH hp
   have hnot : ∀ i, ts'[i]? ≠ some t := fun i hi => by rw [posOf_get ndt hi] at hp; cases hp
   have h1 : t < s.toks.length := by
     rcases Nat.lt_or_ge t s.toks.length with h | h
     · exact h
     · exfalso
       rw [st, qlen] at hH
       refine hnot (ts.length + (t - s.toks.length)) ?_
       rw [tget, if_neg (by omega), if_pos (by omega)]
       congr 1; omega
   have h2 : t ∉ ts := fun hm => by
     obtain ⟨i, hi⟩ := List.mem_iff_getElem?.1 hm
     have hil := (List.getElem?_eq_some_iff.1 hi).1
     exact hnot i (by rw [tget, if_pos hil]; exact hi)
   exact ⟨h1, h2, by rw [st, q2 t h1 h2]⟩
 generalize hM2 : backMap M M0' os' ts' = M2
 have mG : M0'.G = M2.G := by rw [← hM2]; rfl
 have lo : ∀ (i o : Nat), os'[i]? = some o → M2.loc o = M0'.loc i := fun i o hi => by rw [← hM2]; simp only [backMap, posOf_get nd hi]
 have lo0 : ∀ o, posOf os' o = none → M2.loc o = M.loc o := fun o hp => by rw [← hM2]; simp only [backMap, hp]
 have mo : ∀ (i o : Nat), os'[i]? = some o → M2.mu o = M0'.mu i := fun i o hi => congrArg Prod.fst (lo i o hi)
 have mo0 : ∀ o, posOf os' o = none → M2.mu o = M.mu o := fun o hp => congrArg Prod.fst (lo0 o hp)
 have mt : ∀ (i t : Nat), ts'[i]? = some t → M2.be t = M0'.be i := fun i t hi => by rw [← hM2]; simp only [backMap, posOf_get ndt hi]
 have mt0 : ∀ t, posOf ts' t = none → M2.be t = M.be t := fun t hp => by rw [← hM2]; simp only [backMap, hp]
 have le : Le M s M2 s2 := by
   refine ⟨fun b o v hg => by rw [← mG]; exact e.le.G b o v hg, by rw [so, plen]; omega, fun o hH => ?_, by rw [st, qlen]; omega, fun t n' hH hn' => ?_⟩
   · cases hp : posOf os' o with
     | none => exact lo0 o hp
     | some i =>
       have hi := posOf_some hp
       rw [lo i o hi]
       obtain ⟨_, _, _, h1, h2⟩ := fo i o hi
       have hil : i < os.length := by
         rcases Nat.lt_or_ge i os.length with h | h
         · exact h
         · have := h2 h; omega
       rw [e.le.loc i (by omega), loc i o (h1 hil).2]
   · cases hp : posOf ts' t with
     | none =>
       obtain ⟨_, _, h3⟩ := ut t (by rw [st, qlen]; omega) hp
       rw [h3] at hn'
       exact ⟨n', hn', Nat.le_refl _, fun _ => mt0 t hp⟩
     | some i =>
       have hi := posOf_some hp
       obtain ⟨_, g1, _, h1, h2⟩ := ft i t hi
       have hil : i < ts.length := by
         rcases Nat.lt_or_ge i ts.length with h | h
         · exact h
         · have := h2 h; omega
       rw [g1] at hn'
       obtain ⟨n, h3, h4, h5⟩ := e.le.tk i n' (by omega) hn'
       refine ⟨n, by rw [← htok i t (h1 hil).2]; exact h3, h4, fun eq => ?_⟩
       rw [mt i t hi, h5 eq, be i t (h1 hil).2]
 have hren : ∀ {d : D} {v : Value}, RD M0' s' d v → RD M2 s2 (d.ren os' ts') v := fun hd => RD.ren mG
   (fun i hi => by
     obtain ⟨o, ho⟩ : ∃ o, os'[i]? = some o := by
       rw [oget]; split
       · rename_i h1; exact ⟨_, List.getElem?_eq_getElem h1⟩
       · exact ⟨_, rfl⟩
     exact ⟨o, ho, (fo i o ho).1, lo i o ho⟩)
   (fun i hi => by
     obtain ⟨t, ht⟩ : ∃ t, ts'[i]? = some t := by
       rw [tget]; split
       · rename_i h1; exact ⟨_, List.getElem?_eq_getElem h1⟩
       · exact ⟨_, rfl⟩
     exact ⟨t, ht, (ft i t ht).1, (ft i t ht).2.1, mt i t ht⟩) hd
 -- blocks that the callee did not know
 have live0 : ∀ i, s0.live i → ∃ t, ts[i]? = some t ∧ s.live t := fun i ⟨n, hn⟩ => by
   have hH := (List.getElem?_eq_some_iff.1 hn).1
   have e1 : ts[i]? = some ts[i] := List.getElem?_eq_getElem (by omega)
   exact ⟨_, e1, n, by rw [← htok i _ e1]; exact hn⟩
 have keepB : ∀ b, b < w.heap.size → (∀ (i o : Nat), os[i]? = some o → M.mu o ≠ b) → (∀ (i t : Nat) c z, ts[i]? = some t → s.live t → M.be t ≠ some (b, c, z)) →
     w'.heap[b]? = w.heap[b]? ∧ ∀ off, M0'.G b off = M.G b off := by
   intro b hb h1 h2
   refine ⟨e.kept b hb (fun i hi => ?_) (fun i c z hl => ?_), fun off => ?_⟩
   · have e1 : os[i]? = some os[i] := List.getElem?_eq_getElem (by omega)
     rw [mu i _ e1]; exact h1 i _ e1
   · obtain ⟨t, e1, hH⟩ := live0 i hl
     rw [be i t e1]; exact h2 i t c z e1 hH
   · apply Classical.byContradiction
     intro hne
     rcases e.newG b off hne with h3 | ⟨i, c, z, hl, h3⟩
     · omega
     · obtain ⟨t, e1, hH⟩ := live0 i hl
       rw [be i t e1] at h3
       exact h2 i t c z e1 hH h3
 have keepO : ∀ o, o < s.objs.length → o ∉ os → w'.heap[M.mu o]? = w.heap[M.mu o]? ∧ ∀ off, M0'.G (M.mu o) off = M.G (M.mu o) off := fun o hH hnot =>
   keepB _ (r.mu_lt hH) (fun i o' h1 h2 => hnot (by rw [← r.inj o' o (hol o' (List.mem_of_getElem? h1)) hH h2]; exact List.mem_of_getElem? h1))
     (fun i t c z _ hl h2 => r.tokObj t _ c z o hl h2 hH rfl)
 have keepT : ∀ t b c z, s.live t → t ∉ ts → M.be t = some (b, c, z) → w'.heap[b]? = w.heap[b]? ∧ ∀ off, M0'.G b off = M.G b off := fun t b c z hl hnot hb =>
   keepB b (r.be_lt hl hb) (fun i o h1 => r.tokObj t b c z o hl hb (hol o (List.mem_of_getElem? h1)))
     (fun i t' c' z' h1 hl' h2 => hnot (by rw [r.tokInj t t' b c z c' z' hl hl' hb h2]; exact List.mem_of_getElem? h1))
 have lv : ∀ t, s2.live t → (∃ i, ts'[i]? = some t ∧ s'.live i) ∨ (posOf ts' t = none ∧ s.live t ∧ t ∉ ts) := by
   rintro t ⟨n, hn⟩
   cases hp : posOf ts' t with
   | none =>
     obtain ⟨h1, h2, h3⟩ := ut t (List.getElem?_eq_some_iff.1 hn).1 hp
     exact .inr ⟨rfl, ⟨n, by rw [← h3]; exact hn⟩, h2⟩
   | some i =>
     have hi := posOf_some hp
     exact .inl ⟨i, hi, n, by rw [← (ft i t hi).2.1]; exact hn⟩
 -- where a framed object lies
 have muc : ∀ (i o : Nat), os'[i]? = some o → (o < s.objs.length ∧ o ∈ os ∧ M0'.mu i = M.mu o) ∨ w.heap.size ≤ M0'.mu i := by
   intro i o hi
   obtain ⟨_, _, h1, h2, h3⟩ := fo i o hi
   rcases Nat.lt_or_ge i os.length with h | h
   · refine .inl ⟨(h2 h).1, List.mem_of_getElem? (h2 h).2, ?_⟩
     rw [e.le.mu i (by omega), mu i o (h2 h).2]
   · exact .inr (e.newO i (by omega) h1)
 have bec : ∀ (i t b c z : Nat), ts'[i]? = some t → s'.live i → M0'.be i = some (b, c, z) → (s.live t ∧ t ∈ ts ∧ ∃ c' z', M.be t = some (b, c', z')) ∨ w.heap.size ≤ b := by
   intro i t b c z hi hl hb
   rcases e.newT i b c z hl hb with ⟨h1, c', z', h2⟩ | h1
   · obtain ⟨t', e1, hH⟩ := live0 i h1
     have hil := (List.getElem?_eq_some_iff.1 e1).1
     obtain ⟨_, _, _, h3, _⟩ := ft i t hi
     have := (h3 hil).2
     rw [e1] at this; cases this
     rw [be i _ e1] at h2
     exact .inl ⟨hH, List.mem_of_getElem? e1, c', z', h2⟩
   · exact .inr h1
 refine ⟨M2, d.ren os' ts', v, s2, rfl, hq', ?_, ?_, hren hv⟩
 · -- Ext
   refine ⟨le, fun b hb h1 h2 => ?_, fun o h1 h2 => ?_, fun t b c z hl hb => ?_, fun b off hne => ?_, e.size, e.os, e.tape, e.output⟩
   · exact (keepB b hb (fun i o h3 => h1 o (hol o (List.mem_of_getElem? h3))) (fun i t c z _ hl => h2 t c z hl)).1
   · cases hp : posOf os' o with
     | none => have := (uo o h2 hp).1; omega
     | some i =>
       have hi := posOf_some hp
       rw [mo i o hi]
       rcases muc i o hi with ⟨h3, _⟩ | h3
       · omega
       · exact h3
   · rcases lv t hl with ⟨i, hi, hl'⟩ | ⟨hp, hl', _⟩
     · rw [mt i t hi] at hb
       rcases bec i t b c z hi hl' hb with ⟨h1, _, h2⟩ | h1
       · exact .inl ⟨h1, h2⟩
       · exact .inr h1
     · rw [mt0 t hp] at hb
       exact .inl ⟨hl', c, z, hb⟩
   · rw [← mG] at hne
     rcases e.newG b off hne with h1 | ⟨i, c, z, hl, hb⟩
     · exact .inl h1
     · obtain ⟨t, e1, hH⟩ := live0 i hl
       rw [be i t e1] at hb
       exact .inr ⟨t, c, z, hH, hb⟩
 · -- Rel
   refine ⟨fun b o v hg => r'.comm b o v (by rw [mG]; exact hg), fun o ds hds => ?_, fun o hH off => ?_, fun o o' hH hH' heq => ?_, fun t n hn => ?_, fun t b c z o hl hb hH => ?_, fun t t' b c z c' z' hl hl' hb hb' => ?_⟩
   · cases hp : posOf os' o with
     | some i =>
       have hi := posOf_some hp
       obtain ⟨_, g1, _⟩ := fo i o hi
       rw [g1] at hds
       obtain ⟨ds', h1, rfl⟩ := Option.map_eq_some_iff.1 hds
       obtain ⟨vs, T, h2, h3, h4, h5⟩ := r'.obj i ds' h1
       refine ⟨vs, T, by rw [mo i o hi]; exact h2, by rw [rens_eq]; simpa using h3, ⟨h4.1, by rw [show M2.ty o = M0'.ty i from congrArg Prod.snd (lo i o hi)]; exact h4.2⟩, fun j d v e1 e2 => ?_⟩
       rw [rens_eq] at e1
       simp only [List.getElem?_map, Option.map_eq_some_iff] at e1
       obtain ⟨d', e1, rfl⟩ := e1
       exact hren (h5 j d' v e1 e2)
     | none =>
       obtain ⟨h1, h2, h3⟩ := uo o (List.getElem?_eq_some_iff.1 hds).1 hp
       rw [h3] at hds
       obtain ⟨vs, T, g1, g2, g3, g4⟩ := r.obj o ds hds
       exact ⟨vs, T, by rw [mo0 o hp, (keepO o h1 h2).1]; exact g1, g2, ⟨g3.1, by rw [show M2.ty o = M.ty o from congrArg Prod.snd (lo0 o hp)]; exact g3.2⟩, fun j d v e1 e2 => (g4 j d v e1 e2).mono le⟩
   · cases hp : posOf os' o with
     | some i =>
       have hi := posOf_some hp
       rw [mo i o hi, ← mG]; exact r'.objG i (fo i o hi).2.2.1 off
     | none =>
       obtain ⟨h1, h2, h3⟩ := uo o hH hp
       rw [mo0 o hp, ← mG, (keepO o h1 h2).2 off]; exact r.objG o h1 off
   · cases hp : posOf os' o with
     | some i =>
       have hi := posOf_some hp
       rw [mo i o hi] at heq
       cases hp' : posOf os' o' with
       | some i' =>
         have hi' := posOf_some hp'
         rw [mo i' o' hi'] at heq
         have := r'.inj i i' (fo i o hi).2.2.1 (fo i' o' hi').2.2.1 heq
         subst this
         rw [hi] at hi'; cases hi'; rfl
       | none =>
         obtain ⟨h1, h2, _⟩ := uo o' hH' hp'
         rw [mo0 o' hp'] at heq
         rcases muc i o hi with ⟨h3, h4, h5⟩ | h3
         · rw [h5] at heq
           have := r.inj o o' h3 h1 heq
           subst this; exact (h2 h4).elim
         · have := r.mu_lt h1; omega
     | none =>
       obtain ⟨h1, h2, _⟩ := uo o hH hp
       rw [mo0 o hp] at heq
       cases hp' : posOf os' o' with
       | some i' =>
         have hi' := posOf_some hp'
         rw [mo i' o' hi'] at heq
         rcases muc i' o' hi' with ⟨h3, h4, h5⟩ | h3
         · rw [h5] at heq
           have := r.inj o o' h1 h3 heq
           subst this; exact (h2 h4).elim
         · have := r.mu_lt h1; omega
       | none =>
         obtain ⟨h1', _, _⟩ := uo o' hH' hp'
         rw [mo0 o' hp'] at heq
         exact r.inj o o' h1 h1' heq
   · rcases lv t ⟨n, hn⟩ with ⟨i, hi, hl⟩ | ⟨hp, hl, hnot⟩
     · rw [mt i t hi, ← mG]
       exact r'.tok i n (by rw [← (ft i t hi).2.1]; exact hn)
     · obtain ⟨_, _, h3⟩ := ut t (List.getElem?_eq_some_iff.1 hn).1 hp
       rw [h3] at hn
       rw [mt0 t hp]
       rcases r.tok t n hn with h4 | ⟨b, cap, size, vs, T, g1, g2, g3, g4, g5⟩
       · exact .inl h4
       · obtain ⟨k1, k2⟩ := keepT t b cap size hl hnot g1
         exact .inr ⟨b, cap, size, vs, T, g1, by rw [k1]; exact g2, g3, g4, fun off ho => by rw [← mG, k2 off]; exact g5.1 off ho, g5.2⟩
   · rcases lv t hl with ⟨i, hi, hl'⟩ | ⟨hp, hl', hnot⟩
     · rw [mt i t hi] at hb
       cases hpo : posOf os' o with
       | some j =>
         have hj := posOf_some hpo
         rw [mo j o hj]
         exact r'.tokObj i b c z j hl' hb (fo j o hj).2.2.1
       | none =>
         obtain ⟨h1, h2, _⟩ := uo o hH hpo
         rw [mo0 o hpo]
         rcases bec i t b c z hi hl' hb with ⟨h3, _, c', z', h4⟩ | h3
         · exact r.tokObj t b c' z' o h3 h4 h1
         · have := r.mu_lt h1; omega
     · rw [mt0 t hp] at hb
       cases hpo : posOf os' o with
       | some j =>
         have hj := posOf_some hpo
         rw [mo j o hj]
         rcases muc j o hj with ⟨h3, _, h5⟩ | h3
         · rw [h5]; exact r.tokObj t b c z o hl' hb h3
         · have := r.be_lt hl' hb; omega
       | none =>
         obtain ⟨h1, _, _⟩ := uo o hH hpo
         rw [mo0 o hpo]; exact r.tokObj t b c z o hl' hb h1
   · rcases lv t hl with ⟨i, hi, hli⟩ | ⟨hp, hH, hnot⟩
     · rw [mt i t hi] at hb
       rcases lv t' hl' with ⟨i', hi', hli'⟩ | ⟨hp', hH', hnot'⟩
       · rw [mt i' t' hi'] at hb'
         have := r'.tokInj i i' b c z c' z' hli hli' hb hb'
         subst this
         rw [hi] at hi'; cases hi'; rfl
       · rw [mt0 t' hp'] at hb'
         rcases bec i t b c z hi hli hb with ⟨h3, h4, c2, z2, h5⟩ | h3
         · have := r.tokInj t t' b c2 z2 c' z' h3 hH' h5 hb'
           subst this; exact (hnot' h4).elim
         · have := r.be_lt hH' hb'; omega
     · rw [mt0 t hp] at hb
       rcases lv t' hl' with ⟨i', hi', hli'⟩ | ⟨hp', hH', hnot'⟩
       · rw [mt i' t' hi'] at hb'
         rcases bec i' t' b c' z' hi' hli' hb' with ⟨h3, h4, c2, z2, h5⟩ | h3
         · have := r.tokInj t t' b c z c2 z2 hH h3 hb h5
           subst this; exact (hnot h4).elim
         · have := r.be_lt hH hb; omega
       · rw [mt0 t' hp'] at hb'
         exact r.tokInj t t' b c z c' z' hH hH' hb hb'

end Go.Abs
