/-
  What is laid here: the small language of abstract instructions, how they reckon on abstract states, and how a function's code is turned into it.
  No conditions.
-/
import Derived.Test.YtecpopiacpckiaaAbs
namespace Go.Abs

/-- The slots that hold something, each once. -/
abbrev Tm := List (Nat × D)

def Tm.get : Tm → Nat → D
  | [], _ => .junk
  | (k, d) :: r, t => if k = t then d else Tm.get r t

def Tm.set : Tm → Nat → D → Tm
  | [], t, d => [(t, d)]
  | (k, e) :: r, t, d => if k = t then (k, d) :: r else (k, e) :: Tm.set r t d

def Tm.put (tm : Tm) (dst : Option Nat) (d : D) : Tm :=
  match dst with
  | some t => tm.set t d
  | none => tm

inductive X where
  | s (t : Nat)
  | k (d : D)

def X.ev (tm : Tm) : X → D
  | .s t => tm.get t
  | .k d => d

/-- Operations without calls. -/
inductive AO where
  | mv (x : X)
  | pick (c a b : X)
  | alloc (zero : List D)
  | box (x : X)
  | build (zero : List D) (parts : List (Nat × Nat × X))
  | bslice (zero : List D) (size n : Nat) (parts : List (Nat × X))
  | bslt (zero : List D) (size n : Nat) (parts : List (Nat × X))
  | frz (x : X)
  | load (x : X) (agg : Bool) (size : Nat)
  | store (p x : X) (size : Nat)
  | nilck (x : X)
  | bin (op : BinOp) (x y : X)
  | eqb (neg : Bool) (x y : X)
  | eqs (neg : Bool) (ks : List Nat) (x y : X)     -- the fields' kinds: 0 an integer, 1 a bool, 2 a text
  | eqp (neg : Bool) (x y : X)
  | un (op : UnOp) (x : X)
  | conv (k : IntKind) (x : X)
  | tostr (x : X)
  | tobytes (x : X)
  | slc (size : Nat) (x : X) (lo hi : Option X)
  | sslc (x : X) (lo hi : Option X)
  | faddr (x : X) (off : Nat)
  | fld (x : X) (off : Nat) (agg : Bool) (size : Nat)
  | iaddr (x i : X) (size : Nat)
  | sidx (x i : X)
  | ext (x : X) (i : Nat)
  | len (x : X)
  | slen (x : X)
  | app (size bytes : Nat) (x y : X)
  | mm (isMax : Bool) (x y : X)

inductive AI where
  | nil (dst : Option Nat) (g : Option (Nat × Bool)) (neg : Bool) (x : X)     -- is a slice nil? (of an empty one nothing is known)
  | op (dst : Option Nat) (g : Option (Nat × Bool)) (o : AO)
  | call (dst : Option Nat) (g : Option (Nat × Bool)) (f : Nat) (xs : List X)

/-- Structured code. 'par': the order of the region's operations is open; it is reckoned in the plan's order; a load is looked at in so many earlier states, too. -/
inductive AC where
  | skip
  | run (is : List AI)
  | par (is : List AI) (plan : List (Nat × Nat))
  | seq (a b : AC)
  | cond (x : X) (a b : AC)
  | block (id : Nat) (a : AC)
  | loop (a : AC)
  | exit (id : Nat)
  | scope (a : AC)
  | label (l : Nat)
  | goto (l : Nat)
  | ret

structure AF where
  ntmps : Nat
  results : List (Nat × Option (Bool × Nat))     -- a slot; or a slot that holds the address, whether an aggregate, how many cells
  body : AC

/-! ### Regions of open order -/

inductive AK where
  | pure
  | load
  | alloc
  | core
  deriving DecidableEq

def AO.kind : AO → AK
  | .alloc _ => .core
  | .box _ => .core
  | .bslt .. => .core
  | .frz _ => .core
  | .store .. => .core
  | .app .. => .core
  | .load .. => .load
  | _ => .pure

def AI.kind : AI → AK
  | .op (some _) none (.alloc _) => .alloc
  | .op _ _ o => o.kind
  | _ => .core

def AI.dst : AI → Option Nat
  | .op d _ _ => d
  | .call d _ _ _ => d
  | .nil d _ _ _ => d

def X.reads : X → List Nat
  | .s t => [t]
  | .k _ => []

def readsL : List X → List Nat
  | [] => []
  | x :: r => x.reads ++ readsL r

def readsO : Option X → List Nat
  | none => []
  | some x => x.reads

def AO.reads : AO → List Nat
  | .mv x => x.reads
  | .pick c a b => c.reads ++ (a.reads ++ b.reads)
  | .alloc _ => []
  | .box x => x.reads
  | .build _ ps => readsL (ps.map (·.2.2))
  | .bslice _ _ _ ps => readsL (ps.map (·.2))
  | .bslt _ _ _ ps => readsL (ps.map (·.2))
  | .frz x => x.reads
  | .load x _ _ => x.reads
  | .store p x _ => p.reads ++ x.reads
  | .nilck x => x.reads
  | .bin _ x y => x.reads ++ y.reads
  | .eqb _ x y => x.reads ++ y.reads
  | .eqs _ _ x y => x.reads ++ y.reads
  | .eqp _ x y => x.reads ++ y.reads
  | .un _ x => x.reads
  | .conv _ x => x.reads
  | .tostr x => x.reads
  | .tobytes x => x.reads
  | .slc _ x lo hi => x.reads ++ (readsO lo ++ readsO hi)
  | .sslc x lo hi => x.reads ++ (readsO lo ++ readsO hi)
  | .faddr x _ => x.reads
  | .fld x _ _ _ => x.reads
  | .iaddr x i _ => x.reads ++ i.reads
  | .sidx x i => x.reads ++ i.reads
  | .ext x _ => x.reads
  | .len x => x.reads
  | .slen x => x.reads
  | .app _ _ x y => x.reads ++ y.reads
  | .mm _ x y => x.reads ++ y.reads

def readsG : Option (Nat × Bool) → List Nat
  | none => []
  | some (t, _) => [t]

def AI.reads : AI → List Nat
  | .op _ g o => readsG g ++ o.reads
  | .call _ g _ xs => readsG g ++ readsL xs
  | .nil _ g _ x => readsG g ++ x.reads

def offDst (d : Option Nat) (l : List Nat) : Bool :=
  match d with
  | none => true
  | some t => !l.contains t

def AI.apart (a q : AI) : Bool :=
  offDst a.dst q.reads && offDst q.dst a.reads && (match a.dst, q.dst with | some x, some y => x != y | _, _ => true)

def nthL (l : List (List Nat)) (i : Nat) : List Nat := l.getD i []

def kindAt (is : List AI) (i : Nat) : AK :=
  match is[i]? with
  | some a => a.kind
  | none => .core

def apartAt (is : List AI) (i j : Nat) : Bool :=
  match is[i]?, is[j]? with
  | some a, some b => a.apart b
  | _, _ => false

def isCore : AK → Bool
  | .core => true
  | .alloc => true
  | _ => false

/-- How many of these change the state. -/
def coresIn (is : List AI) (l : List Nat) : Nat := (l.filter fun i => isCore (kindAt is i)).length

/-- Ahead of what is reckoned for an allocated place there is nothing left. -/
def behindAll (is : List AI) (pq : List Nat) : List Nat → Bool
  | [] => true
  | a :: r => (!(kindAt is a == .alloc && pq.contains a) || r.all pq.contains) && behindAll is pq r

/-- 'pre': what stands ahead in the plan, the latest first. -/
def stepOk (is : List AI) (pt : List (List Nat)) (pre : List Nat) (q b : Nat) : Bool :=
  match kindAt is q with
  | .core => pre.all (nthL pt q).contains
  | .alloc => pre.all fun a => apartAt is a q
  | .pure => (pre.all fun a => (nthL pt q).contains a || apartAt is a q) && behindAll is (nthL pt q) pre
  | .load => (pre.all fun a => (nthL pt q).contains a || apartAt is a q) && behindAll is (nthL pt q) pre &&
      decide (coresIn is (pre.filter fun a => !(nthL pt q).contains a) ≤ b)

def okR (is : List AI) (af pt : List (List Nat)) : List Nat → List (Nat × Nat) → Bool
  | _, [] => true
  | pre, (q, b) :: r => stepOk is pt pre q b && !pre.contains q && ((nthL af q).all fun j => j != q && !(r.map (·.1)).contains j) && okR is af pt (q :: pre) r

/-- What must have come up ahead of an operation. -/
def depsOk (af pt : List (List Nat)) : Nat → Bool
  | 0 => true
  | i + 1 => ((nthL pt i).all fun j => (nthL af i).contains j || (nthL af i).any fun k => (nthL pt k).contains j) && depsOk af pt i

def planOk (is : List AI) (af pt : List (List Nat)) (plan : List (Nat × Nat)) : Bool :=
  depsOk af pt is.length && okR is af pt [] plan && (List.range is.length).all (plan.map (·.1)).contains && plan.all (fun p => decide (p.1 < is.length)) &&
    (List.range is.length).all fun i => (nthL af i).all fun j => decide (j < is.length)

def edgesOf (o : Oper) : List Nat := (o.after.toList.filter (Region.binds .any)).map (·.on)

/-- All that must have come up, in the text's order. -/
def closeL : List (List Nat) → List (List Nat) → List (List Nat)
  | done, [] => done
  | done, es :: r => closeL (done ++ [(es.flatMap fun k => nthL done k).foldl (fun l j => if l.contains j then l else l ++ [j]) es]) r

/-- As late as may be: what a changing step needs stands right ahead of it. -/
def lateL (is : List AI) (pt : List (List Nat)) : List Nat → List Nat → List Nat → List Nat
  | [], rest, out => out ++ ((rest.filter fun j => kindAt is j == .alloc) ++ rest.filter fun j => !(kindAt is j == .alloc))
  | c :: cs, rest, out =>
    let need := rest.filter fun j => (nthL pt c).contains j
    lateL is pt cs (rest.filter fun j => !(need.contains j) && j != c) (out ++ ((need.filter fun j => kindAt is j == .alloc) ++ (need.filter fun j => !(kindAt is j == .alloc)) ++ [c]))

/-- How far a load may be looked at earlier. -/
def backs (is : List AI) (pt : List (List Nat)) : List Nat → List Nat → List (Nat × Nat)
  | _, [] => []
  | pre, q :: r => (q, if kindAt is q == .load then coresIn is (pre.filter fun a => !(nthL pt q).contains a) else 0) :: backs is pt (q :: pre) r

def planOf (is : List AI) (af : List (List Nat)) : List (Nat × Nat) :=
  let pt := closeL [] af
  let all := List.range is.length
  backs is pt [] (lateL is pt (all.filter fun i => kindAt is i == .core) all [])

/-! ### How instructions reckon -/

/-- The cells of a value that can be stored. -/
def D.row : D → Option (List D)
  | .agg cs => some cs
  | .junk => none
  | .tuple _ => none
  | d => some [d]

def part (cs : List D) (off : Nat) (agg : Bool) (size : Nat) : Option D :=
  match agg with
  | true => if off + size ≤ cs.length then some (.agg ((cs.drop off).take size)) else none
  | false => cs[off]?

def splice (cs : List D) (off : Nat) (r : List D) : List D := cs.take off ++ r ++ cs.drop (off + r.length)

def fillD (cells : List D) : List (Nat × Nat × D) → Option (List D)
  | [] => some cells
  | (off, size, d) :: rest =>
    match d.row with
    | none => none
    | some r => if r.length = size ∧ off + size ≤ cells.length then fillD (splice cells off r) rest else none

def zeroRows (zero : List D) : Nat → List (List D)
  | 0 => []
  | n + 1 => zero :: zeroRows zero n

def fillRows (size : Nat) (rows : List (List D)) : List (Nat × D) → Option (List (List D))
  | [] => some rows
  | (i, d) :: rest =>
    match d.row with
    | none => none
    | some r => if r.length = size ∧ i < rows.length then fillRows size (rows.set i r) rest else none

def bytesLess : List UInt8 → List UInt8 → Bool := Op.bytesLess

/-- The longest text that is made, and the longest slice (times its element's bytes). -/
def maxStr : Nat := 1099511627776

def binInt (op : BinOp) (k : IntKind) (a b : Int) : Option D :=
  match op with
  | .add => some (.int k (k.wrap (a + b)))
  | .sub => some (.int k (k.wrap (a - b)))
  | .mul => some (.int k (k.wrap (a * b)))
  | .quo => if b = 0 then none else some (.int k (k.wrap (a.tdiv b)))
  | .rem => if b = 0 then none else some (.int k (a.tmod b))
  | .eql => some (.bool (a == b))
  | .neq => some (.bool (a != b))
  | .lss => some (.bool (decide (a < b)))
  | .leq => some (.bool (decide (a ≤ b)))
  | .gtr => some (.bool (decide (a > b)))
  | .geq => some (.bool (decide (a ≥ b)))
  | _ => none

def binStr (op : BinOp) (a b : List UInt8) : Option D :=
  match op with
  | .add => if a.length + b.length ≤ maxStr then some (.str (a ++ b)) else none
  | .eql => some (.bool (a == b))
  | .neq => some (.bool (!(a == b)))
  | .lss => some (.bool (bytesLess a b))
  | _ => none

def binD (op : BinOp) (x y : D) : Option D :=
  match x, y with
  | .int k a, .int k' b => if k = k' then binInt op k a b else none
  | .str a, .str b => binStr op a b
  | _, _ => none

/-- Two plain cells of one kind held against each other. -/
def cellEq : Nat → D → D → Option Bool
  | 0, .int k a, .int k' b => if k = k' then some (a == b) else none
  | 1, .bool a, .bool b => some (a == b)
  | 2, .str a, .str b => some (a == b)
  | _, _, _ => none

def cellsEq : List Nat → List D → List D → Option Bool
  | [], [], [] => some true
  | k :: ks, x :: xs, y :: ys =>
    match cellEq k x y with
    | none => none
    | some true => cellsEq ks xs ys
    | some false => some false
  | _, _, _ => none

def unD (op : UnOp) (x : D) : Option D :=
  match op, x with
  | .neg, .int k n => some (.int k (k.wrap (0 - n)))
  | .not, .bool b => some (.bool (!b))
  | _, _ => none

def byteOfRow : List D → Option UInt8
  | [.int .u8 n] => some (UInt8.ofNat n.toNat)
  | _ => none

def bytesOfRows : List (List D) → Option (List UInt8)
  | [] => some []
  | r :: rs =>
    match byteOfRow r, bytesOfRows rs with
    | some b, some bs => some (b :: bs)
    | _, _ => none

def Tag.cut (g : Tag) (whole : Bool) : Tag :=
  match g with
  | .full => if whole then .full else .shared
  | g => g

def loD (lo : Option D) : Option Int :=
  match lo with
  | none => some 0
  | some (.int _ n) => some n
  | _ => none

def hiD (hi : Option D) (len : Nat) : Option Int :=
  match hi with
  | none => some len
  | some (.int _ n) => some n
  | _ => none

def appD (size bytes : Nat) (x y : D) (s : St) : Option (D × St) :=
  match x, y with
  | .slice g z rows, .slice _ z' new =>
    if (rows = [] ∨ z = size) ∧ (new = [] ∨ z' = size) ∧ (rows.length + new.length) * (bytes + 1) ≤ maxStr then
      match new with
      | [] => some (.slice g z rows, s)
      | _ :: _ =>
        match g with
        | .full => some (.slice (.tok s.toks.length) size (rows ++ new), { s with toks := s.toks ++ [some (rows.length + new.length)] })
        | .shared => none
        | .tok t => if z = size ∧ s.toks[t]? = some (some rows.length) then some (.slice (.tok t) size (rows ++ new), { s with toks := s.toks.set t (some (rows.length + new.length)) }) else none
    else none
  | _, _ => none

def evalO (o : AO) (tm : Tm) (s : St) : Option (D × St) :=
  match o with
  | .mv x => some (x.ev tm, s)
  | .pick c a b =>
    match c.ev tm with
    | .bool t => some (if t then a.ev tm else b.ev tm, s)
    | _ => none
  | .alloc zero => some (.ptr s.objs.length 0, { s with objs := s.objs ++ [zero] })
  | .box x =>
    match (x.ev tm).row with
    | some r => some (.ptr s.objs.length 0, { s with objs := s.objs ++ [r] })
    | none => none
  | .build zero parts =>
    match fillD zero (parts.map fun p => (p.1, p.2.1, p.2.2.ev tm)) with
    | some cs => some (.agg cs, s)
    | none => none
  | .bslice zero size n parts =>
    match fillRows size (zeroRows zero n) (parts.map fun p => (p.1, p.2.ev tm)) with
    | some rows => some (.slice .full size rows, s)
    | none => none
  | .bslt zero size n parts =>
    match fillRows size (zeroRows zero n) (parts.map fun p => (p.1, p.2.ev tm)) with
    | some rows => some (.slice (.tok s.toks.length) size rows, { s with toks := s.toks ++ [some rows.length] })
    | none => none
  | .frz x =>
    match x.ev tm with
    | .slice (.tok t) z rows => if rows ≠ [] ∧ s.toks[t]? = some (some rows.length) then some (.slice .shared z rows, { s with toks := s.toks.set t none }) else none
    | _ => none
  | .load x agg size =>
    match x.ev tm with
    | .ptr o off =>
      match s.objs[o]? with
      | some cs => match part cs off agg size with | some d => some (d, s) | none => none
      | none => none
    | .cptr row off => match part row off agg size with | some d => some (d, s) | none => none
    | _ => none
  | .store p x size =>
    match p.ev tm, (x.ev tm).row with
    | .ptr o off, some r =>
      match s.objs[o]? with
      | some cs => if r.length = size ∧ off + size ≤ cs.length then some (.tuple [], { s with objs := s.objs.set o (splice cs off r) }) else none
      | none => none
    | _, _ => none
  | .nilck x =>
    match x.ev tm with
    | .ptr o off => some (.ptr o off, s)
    | .cptr row off => some (.cptr row off, s)
    | _ => none
  | .bin op x y => match binD op (x.ev tm) (y.ev tm) with | some d => some (d, s) | none => none
  | .eqb neg x y =>
    match x.ev tm, y.ev tm with
    | .bool a, .bool b => some (.bool (if neg then !(a == b) else a == b), s)
    | _, _ => none
  | .eqs neg ks x y =>
    match x.ev tm, y.ev tm with
    | .agg a, .agg b => match cellsEq ks a b with | some e => some (.bool (if neg then !e else e), s) | none => none
    | _, _ => none
  | .eqp neg x y =>
    match x.ev tm, y.ev tm with
    | .nilp, .nilp => some (.bool (!neg), s)
    | .ptr _ _, .nilp => some (.bool neg, s)
    | .cptr _ _, .nilp => some (.bool neg, s)
    | _, _ => none
  | .un op x => match unD op (x.ev tm) with | some d => some (d, s) | none => none
  | .conv k x => match x.ev tm with | .int _ n => some (.int k (k.wrap n), s) | _ => none
  | .tostr x =>
    match x.ev tm with
    | .slice _ _ rows => match bytesOfRows rows with | some b => some (.str b, s) | none => none
    | _ => none
  | .tobytes x =>
    match x.ev tm with
    | .str l => some (.slice .shared 1 (l.map fun c => [.int .u8 c.toNat]), s)
    | _ => none
  | .slc size x lo hi =>
    match x.ev tm with
    | .slice g z rows =>
      match loD (lo.map (·.ev tm)), hiD (hi.map (·.ev tm)) rows.length with
      | some l, some h =>
        if (rows = [] ∨ z = size) ∧ 0 ≤ l ∧ l ≤ h ∧ h ≤ rows.length then
          some (.slice (if l = 0 then g.cut (h = rows.length) else .shared) z ((rows.take h.toNat).drop l.toNat), s) else none
      | _, _ => none
    | _ => none
  | .sslc x lo hi =>
    match x.ev tm with
    | .str t =>
      match loD (lo.map (·.ev tm)), hiD (hi.map (·.ev tm)) t.length with
      | some l, some h => if 0 ≤ l ∧ l ≤ h ∧ h ≤ t.length then some (.str ((t.take h.toNat).drop l.toNat), s) else none
      | _, _ => none
    | _ => none
  | .faddr x off =>
    match x.ev tm with
    | .ptr o k => some (.ptr o (k + off), s)
    | .cptr row k => some (.cptr row (k + off), s)
    | _ => none
  | .fld x off agg size =>
    match x.ev tm with
    | .agg cs => match part cs off agg size with | some d => some (d, s) | none => none
    | _ => none
  | .iaddr x i size =>
    match x.ev tm, i.ev tm with
    | .slice _ z rows, .int _ n =>
      if 0 ≤ n ∧ z = size then
        match rows[n.toNat]? with
        | some row => some (.cptr row 0, s)
        | none => none
      else none
    | _, _ => none
  | .sidx x i =>
    match x.ev tm, i.ev tm with
    | .str t, .int _ n =>
      if 0 ≤ n then
        match t[n.toNat]? with
        | some c => some (.int .u8 c.toNat, s)
        | none => none
      else none
    | _, _ => none
  | .ext x i =>
    match x.ev tm with
    | .tuple ds => match ds[i]? with | some d => some (d, s) | none => none
    | _ => none
  | .slen x =>
    match x.ev tm with
    | .str t => some (.int .i64 t.length, s)
    | _ => none
  | .len x =>
    match x.ev tm with
    | .slice _ _ rows => some (.int .i64 rows.length, s)
    | _ => none
  | .app size bytes x y => appD size bytes (x.ev tm) (y.ev tm) s
  | .mm isMax x y =>
    match x.ev tm, y.ev tm with
    | .int k a, .int k' b => if k = k' then some (.int k (if isMax then (if b > a then b else a) else (if b < a then b else a)), s) else none
    | _, _ => none

/-! ### How code is turned into it -/

def litBytes (b : ByteArray) : List UInt8 := b.data.toList

def litCell : Value → Option D
  | .int k n => some (.int k n)
  | .bool b => some (.bool b)
  | .string b => some (.str (litBytes b))
  | .pointer none => some .nilp
  | .slice none 0 0 => some (.slice .full 0 [])
  | _ => none

def litCells : List Value → Option (List D)
  | [] => some []
  | v :: r => match litCell v, litCells r with | some d, some ds => some (d :: ds) | _, _ => none

def litD : Value → Option D
  | .agg cs => (litCells cs.toList).map .agg
  | .tuple ⟨[]⟩ => some (.tuple [])
  | v => litCell v

def cX : Operand → Option X
  | .tmp t => some (.s t)
  | .const v => (litD v).map .k
  | _ => none

def cXs : List Operand → Option (List X)
  | [] => some []
  | x :: r => match cX x, cXs r with | some d, some ds => some (d :: ds) | _, _ => none

def cXo : Option Operand → Option (Option X)
  | none => some none
  | some x => (cX x).map some

section
variable (P : Program)

def isAggT (t : TypeId) : Option Bool :=
  match P.underlying t with
  | some (.struct _) | some (.array _ _) => some true
  | some _ => some false
  | none => none

def zeroOf (t : TypeId) : Option (List D) :=
  match P.info? t with
  | some i => match i.zero with | some z => if z.cells.size = i.size then litCells z.cells.toList else none | none => none
  | none => none

/-- A field: where it begins, how many cells it has. -/
def fieldAtT (t : TypeId) (f : Nat) : Option (Nat × Nat × Bool) :=
  match P.underlying t with
  | some (.struct fs) =>
    match fs[f]? with
    | some fd => match P.info? fd.type, isAggT P fd.type with
      | some i, some a => if i.size = 0 then none else some (fd.offset, i.size, a)
      | _, _ => none
    | none => none
  | _ => none

def cParts (t : TypeId) : List (Nat × Operand) → Option (List (Nat × Nat × X))
  | [] => some []
  | (i, x) :: r => match fieldAtT P t i, cX x, cParts t r with
    | some (off, size, _), some x', some r' => some ((off, size, x') :: r')
    | _, _, _ => none

def cIdx : List (Nat × Operand) → Option (List (Nat × X))
  | [] => some []
  | (i, x) :: r => match cX x, cIdx r with
    | some x', some r' => some ((i, x') :: r')
    | _, _ => none

def kindOf (t : TypeId) : Option Nat :=
  match P.underlying t with
  | some (.int _) => some 0
  | some .bool => some 1
  | some .string => some 2
  | _ => none

def kindsOf : Nat → List Field → Option (List Nat)
  | _, [] => some []
  | n, f :: fs =>
    if f.offset = n ∧ f.name ≠ "_" then
      match kindOf P f.type, kindsOf (n + 1) fs with
      | some k, some ks => some (k :: ks)
      | _, _ => none
    else none

/-- A struct whose fields are integers, bools and strings, none of them blank. -/
def plainStruct (t : TypeId) : Option (List Nat) :=
  match P.underlying t with
  | some (.struct fs) => if P.eqGuardType P.depth t = false ∧ P.stoodInHeld t = false then kindsOf P 0 fs.toList else none
  | _ => none

def cOp (o : Oper) : Option AO :=
  match o.op with
  | .move x | .assign x => (cX x).map .mv
  | .pick c a b => match cX c, cX a, cX b with | some c, some a, some b => some (.pick c a b) | _, _, _ => none
  | .alloc t => (zeroOf P t).map .alloc
  | .box _ x => (cX x).map .box
  | .build t parts =>
    match P.underlying t, zeroOf P t, cParts P t parts.toList with
    | some (.struct fs), some z, some ps => if fs.toList.all fun f => (P.info? f.type).isSome then some (.build z ps) else none
    | _, _, _ => none
  | .buildSlice t n parts =>
    match P.underlying t with
    | some (.slice e) =>
      match P.info? e, zeroOf P e, cIdx parts.toList with
      | some i, some z, some ps => if 0 < i.size ∧ n * i.size ≤ 65536 then some (.bslice z i.size n ps) else none
      | _, _, _ => none
    | _ => none
  | .load t x =>
    match cX x, isAggT P t, P.info? t with
    | some x, some a, some i => some (.load x a i.size)
    | _, _, _ => none
  | .store t a x =>
    match cX a, cX x, P.info? t with
    | some a, some x, some i => some (.store a x i.size)
    | _, _, _ => none
  | .nilCheck x => (cX x).map .nilck
  | .binOp op t x y _ =>
    match cX x, cX y with
    | some x, some y =>
      match P.underlying t, op with
      | some (.int _), _ => some (.bin op x y)
      | some .string, _ => some (.bin op x y)
      | some .bool, .eql => some (.eqb false x y)
      | some .bool, .neq => some (.eqb true x y)
      | some (.pointer _), .eql => some (.eqp false x y)
      | some (.pointer _), .neq => some (.eqp true x y)
      | some (.struct _), .eql => (plainStruct P t).map (.eqs false · x y)
      | some (.struct _), .neq => (plainStruct P t).map (.eqs true · x y)
      | _, _ => none
    | _, _ => none
  | .unOp op _ x => (cX x).map (.un op)
  | .convert src dst x =>
    match cX x, P.underlying src, P.underlying dst with
    | some x, some (.int _), some (.int k) => some (.conv k x)
    | some x, some (.slice e), some .string => match P.underlying e with | some (.int .u8) => some (.tostr x) | _ => none
    | some x, some (.slice e), some (.slice _) => match P.underlying e with | some (.int .u8) => if src = dst then some (.frz x) else none | _ => none
    | some x, some .string, some (.slice e) => match P.underlying e, P.info? e with | some (.int .u8), some i => if i.size = 1 then some (.tobytes x) else none | _, _ => none
    | _, _, _ => none
  | .slice t x lo hi none =>
    match cX x, cXo lo, cXo hi, P.underlying t with
    | some x, some lo, some hi, some .string => some (.sslc x lo hi)
    | some x, some lo, some hi, some (.slice e) => match P.info? e with | some i => some (.slc i.size x lo hi) | none => none
    | _, _, _, _ => none
  | .fieldAddr t x f => match cX x, fieldAtT P t f with | some x, some (off, _, _) => some (.faddr x off) | _, _ => none
  | .field t x f => match cX x, fieldAtT P t f with | some x, some (off, size, a) => some (.fld x off a size) | _, _ => none
  | .indexAddr t x i =>
    match cX x, cX i, P.underlying t with
    | some x, some i, some (.slice e) => match P.info? e with | some j => if 0 < j.size then some (.iaddr x i j.size) else none | none => none
    | _, _, _ => none
  | .index t x i => match cX x, cX i, P.underlying t with | some x, some i, some .string => some (.sidx x i) | _, _, _ => none
  | .extract x i => (cX x).map (.ext · i)
  | .call { callee := .builtin .len, args, argTypes } =>
    match args.toList, argTypes.toList with
    | [x], [t] => match P.underlying t with
      | some .string => (cX x).map .slen
      | some (.slice _) => (cX x).map .len
      | _ => none
    | _, _ => none
  | .call { callee := .builtin .append, args, argTypes } =>
    match args.toList, argTypes.toList with
    | [x, y], [t, u] => match P.underlying t, P.underlying u, cX x, cX y with
      | some (.slice e), some (.slice _), some x, some y => match P.info? e, zeroOf P e with
        | some i, some _ => if 0 < i.size then some (.app i.size i.bytes x y) else none
        | _, _ => none
      | _, _, _, _ => none
    | _, _ => none
  | .call { callee := .builtin .max, args, .. } =>
    match args.toList with
    | [x, y] => match cX x, cX y with | some x, some y => some (.mm true x y) | _, _ => none
    | _ => none
  | .call { callee := .builtin .min, args, .. } =>
    match args.toList with
    | [x, y] => match cX x, cX y with | some x, some y => some (.mm false x y) | _, _ => none
    | _ => none
  | _ => none

def cGuard (ops : Array Oper) : Option (Nat × Bool) → Option (Option (Nat × Bool))
  | none => some none
  | some (j, b) =>
    match (ops[j]?).bind (·.dst) with
    | some t => some (some (t, b))
    | none => none

/-- A function that may be entered. -/
def enters (f : FuncId) : Bool :=
  match P.funcs[f]? with
  | some fn => fn.body.isSome && !(fn.name == "runtime.NumGoroutine")
  | none => false

/-- Is what is laid in a slot turned from a slice into a slice in this region? -/
def frozenIn (ops : Array Oper) (dst : Option Nat) : Bool :=
  ops.toList.any fun o => match o.op, dst with
    | .convert s d (.tmp t), some t' => t == t' && s == d
    | _, _ => false

/-- A slice held against nil: which one, and whether for being unlike. -/
def nilTest (o : Oper) : Option (Bool × X) :=
  match o.op with
  | .binOp op t x (.const (.slice none 0 0)) _ =>
    match P.underlying t, op, cX x with
    | some (.slice _), .eql, some x => some (false, x)
    | some (.slice _), .neq, some x => some (true, x)
    | _, _, _ => none
  | _ => none

def dstOk (nt : Nat) (dst : Option Nat) : Bool :=
  match dst with
  | some d => decide (d < nt)
  | none => true

def cBody (ops : Array Oper) (o : Oper) (g : Option (Nat × Bool)) : Option AI :=
  match o.op with
  | .call { callee := .value (.func f), args, .. } => if enters P f then (cXs args.toList).map (.call o.dst g f) else none
  | _ =>
    match nilTest P o with
    | some (neg, x) => some (.nil o.dst g neg x)
    | none =>
      match cOp P o with
      | some (.bslice z k n ps) => some (.op o.dst g (if frozenIn ops o.dst then .bslt z k n ps else .bslice z k n ps))
      | some ao => some (.op o.dst g ao)
      | none => none

def cI (nt : Nat) (ops : Array Oper) (o : Oper) : Option AI :=
  match cGuard ops o.guard with
  | none => none
  | some g => if dstOk nt o.dst = true then cBody P ops o g else none

def cIs (nt : Nat) (ops : Array Oper) : List Oper → Option (List AI)
  | [] => some []
  | o :: r => match cI P nt ops o, cIs nt ops r with | some i, some is => some (i :: is) | _, _ => none

def parOf (is : List AI) (af : List (List Nat)) : Option AC :=
  if planOk is af (closeL [] af) (planOf is af) then some (.par is (planOf is af)) else none

def cC (nt : Nat) : Code → Option AC
  | .skip => some .skip
  | .region _ ops false => (cIs P nt ops ops.toList).map .run
  | .region _ ops true => if P.follows .mixedOrders then (cIs P nt ops ops.toList).bind (parOf · (ops.toList.map edgesOf)) else none
  | .seq a b => match cC nt a, cC nt b with | some a, some b => some (.seq a b) | _, _ => none
  | .cond x a b => match cX x, cC nt a, cC nt b with | some x, some a, some b => some (.cond x a b) | _, _, _ => none
  | .block id a => (cC nt a).map (.block id)
  | .loop a => (cC nt a).map .loop
  | .exit id => some (.exit id)
  | .scope a => (cC nt a).map .scope
  | .label l => some (.label l)
  | .goto l => some (.goto l)
  | .ret => some .ret
  | _ => none

def cRes : List ResultVar → Option (List (Nat × Option (Bool × Nat)))
  | [] => some []
  | .tmp t :: r => (cRes r).map ((t, none) :: ·)
  | .cell a t :: r => match isAggT P t, P.info? t, cRes r with
    | some g, some i, some r' => some ((a, some (g, i.size)) :: r')
    | _, _, _ => none

def cF (fn : Func) : Option AF :=
  match fn.body with
  | some c => match cC P fn.ntmps c, cRes P fn.results.toList with
    | some b, some r => some ⟨fn.ntmps, r, b⟩
    | _, _ => none
  | none => none

end
end Go.Abs
