/-
  What is proved here: the abstract values and states of this proof, and the relation that ties them to the model's worlds: it only grows.
  No conditions.
-/
import Derived.Orders
import Derived.Calls
import Derived.Below
import Derived.Laws.AppendOwn
import Derived.Deep.AppendSrc
namespace Go.Abs

/-- Whether a slice may be appended to: 'full': it has no room; 'tok t': the owner of token t may; 'shared': nobody. -/
inductive Tag where
  | full
  | shared
  | tok (t : Nat)

/-- Abstract values: a slice is the list of its rows (the cells of its elements). -/
inductive D where
  | junk
  | int (k : IntKind) (n : Int)
  | bool (b : Bool)
  | str (s : List UInt8)
  | nilp
  | ptr (o off : Nat)
  | cptr (row : List D) (off : Nat)
  | slice (g : Tag) (size : Nat) (rows : List (List D))
  | agg (cells : List D)
  | tuple (vs : List D)

instance : Inhabited D := ⟨.junk⟩

/-- Where the abstract things lie in a world: what is fixed for good, the objects' blocks, the tokens' rows (block, capacity, cells an element). -/
structure Map where
  G : Nat → Nat → Option Value
  mu : Nat → Nat
  be : Nat → Option (Nat × Nat × Nat)

/-- An abstract state: the objects (rows of cells), and how far each token's row is written; 'none': the token is dead. -/
structure St where
  objs : List (List D)
  toks : List (Option Nat)

def TagOk (M : Map) (s : St) (g : Tag) (size len : Nat) (base : Option (Nat × Nat)) (cap : Nat) : Prop :=
  match g with
  | .full => cap = len
  | .shared => True
  | .tok t => t < s.toks.length ∧ ∀ n, s.toks[t]? = some (some n) → len ≤ n ∧
      (len = n → (M.be t = none ∧ cap = 0) ∨ ∃ b, base = some (b, 0) ∧ M.be t = some (b, cap, size))

inductive RD (M : Map) (s : St) : D → Value → Prop where
  | junk (v : Value) : RD M s .junk v
  | int (k : IntKind) (n : Int) : RD M s (.int k n) (.int k n)
  | bool (b : Bool) : RD M s (.bool b) (.bool b)
  | str (l : List UInt8) : RD M s (.str l) (.string ⟨⟨l⟩⟩)
  | nilp : RD M s .nilp (.pointer none)
  | ptr (o off : Nat) (h : o < s.objs.length) : RD M s (.ptr o off) (.pointer (some ⟨M.mu o, off, none⟩))
  | cptr (row : List D) (off b k : Nat) (h1 : ∀ (i : Nat) (d : D), row[i]? = some d → ∃ u, M.G b (k + i) = some u)
      (h2 : ∀ (i : Nat) (d : D) (u : Value), row[i]? = some d → M.G b (k + i) = some u → RD M s d u) :
      RD M s (.cptr row off) (.pointer (some ⟨b, k + off, none⟩))
  | snil (g : Tag) (size cap : Nat) (hc : cap = 0) (ht : TagOk M s g size 0 none cap) : RD M s (.slice g size []) (.slice none 0 cap)
  | slice (g : Tag) (size : Nat) (rows : List (List D)) (b k cap : Nat) (hl : rows.length ≤ cap)
      (hs : ∀ row ∈ rows, row.length = size)
      (h1 : ∀ (i : Nat) (row : List D) (j : Nat) (d : D), rows[i]? = some row → row[j]? = some d → ∃ u, M.G b (k + (i * size + j)) = some u)
      (h2 : ∀ (i : Nat) (row : List D) (j : Nat) (d : D) (u : Value), rows[i]? = some row → row[j]? = some d → M.G b (k + (i * size + j)) = some u → RD M s d u)
      (ht : TagOk M s g size rows.length (some (b, k)) cap) :
      RD M s (.slice g size rows) (.slice (some ⟨b, k, none⟩) rows.length cap)
  | agg (cells : List D) (vs : Array Value) (hl : cells.length = vs.size) (h1 : ∀ v ∈ vs, v.oneCell' = true)
      (h : ∀ (i : Nat) (d : D) (v : Value), cells[i]? = some d → vs[i]? = some v → RD M s d v) : RD M s (.agg cells) (.agg vs)
  | tuple (ds : List D) (vs : Array Value) (hl : ds.length = vs.size)
      (h : ∀ (i : Nat) (d : D) (v : Value), ds[i]? = some d → vs[i]? = some v → RD M s d v) : RD M s (.tuple ds) (.tuple vs)

/-- The abstract state has grown: what was fixed stays; objects and tokens keep their places; a token that was not used keeps its row. -/
structure Le (M : Map) (s : St) (M' : Map) (s' : St) : Prop where
  G : ∀ b o v, M.G b o = some v → M'.G b o = some v
  n : s.objs.length ≤ s'.objs.length
  mu : ∀ o, o < s.objs.length → M'.mu o = M.mu o
  t : s.toks.length ≤ s'.toks.length
  tk : ∀ t n', t < s.toks.length → s'.toks[t]? = some (some n') → ∃ n, s.toks[t]? = some (some n) ∧ n ≤ n' ∧ (n' = n → M'.be t = M.be t)

theorem Le.refl (M : Map) (s : St) : Le M s M s := ⟨fun _ _ _ h => h, Nat.le_refl _, fun _ _ => rfl, Nat.le_refl _, fun _ n _ h => ⟨n, h, Nat.le_refl _, fun _ => rfl⟩⟩

theorem Le.trans {M M' M'' : Map} {s s' s'' : St} (h : Le M s M' s') (k : Le M' s' M'' s'') : Le M s M'' s'' :=
  ⟨fun b o v e => k.G b o v (h.G b o v e), Nat.le_trans h.n k.n, fun o ho => (k.mu o (Nat.lt_of_lt_of_le ho h.n)).trans (h.mu o ho), Nat.le_trans h.t k.t,
   fun t n'' ht e => by
     obtain ⟨n', e', l, b⟩ := k.tk t n'' (Nat.lt_of_lt_of_le ht h.t) e
     obtain ⟨n, e'', l', b'⟩ := h.tk t n' ht e'
     refine ⟨n, e'', Nat.le_trans l' l, fun eq => ?_⟩
     have h1 : n' = n := by omega
     have h2 : n'' = n' := by omega
     rw [b h2, b' h1]⟩

theorem TagOk.mono {M M' : Map} {s s' : St} (h : Le M s M' s') {g : Tag} {size len cap : Nat} {base : Option (Nat × Nat)} (ht : TagOk M s g size len base cap) :
    TagOk M' s' g size len base cap := by
  cases g with
  | full => exact ht
  | shared => trivial
  | tok t =>
    obtain ⟨hlt, ht⟩ := ht
    refine ⟨Nat.lt_of_lt_of_le hlt h.t, fun n' e' => ?_⟩
    obtain ⟨n, e, l, b⟩ := h.tk t n' hlt e'
    obtain ⟨l', b'⟩ := ht n e
    refine ⟨Nat.le_trans l' l, fun eq => ?_⟩
    have h1 : n' = n := by omega
    have h2 : len = n := by omega
    rw [b h1]
    exact b' h2

theorem RD.mono {M M' : Map} {s s' : St} (h : Le M s M' s') {d : D} {v : Value} (r : RD M s d v) : RD M' s' d v := by
  induction r with
  | junk v => exact .junk v
  | int k n => exact .int k n
  | bool b => exact .bool b
  | str l => exact .str l
  | nilp => exact .nilp
  | ptr o off ho => rw [← h.mu o ho]; exact .ptr o off (Nat.lt_of_lt_of_le ho h.n)
  | cptr row off b k h1 h2 ih =>
    refine .cptr row off b k (fun i d e => ?_) (fun i d u e eu => ?_)
    · obtain ⟨u, hu⟩ := h1 i d e; exact ⟨u, h.G _ _ _ hu⟩
    · obtain ⟨u', hu⟩ := h1 i d e
      have := h.G _ _ _ hu
      rw [eu] at this
      cases this
      exact ih i d u e hu
  | snil g size cap hc ht => exact .snil g size cap hc (ht.mono h)
  | slice g size rows b k cap hl hs h1 h2 ht ih =>
    refine .slice g size rows b k cap hl hs (fun i row j d e e2 => ?_) (fun i row j d u e e2 eu => ?_) (ht.mono h)
    · obtain ⟨u, hu⟩ := h1 i row j d e e2; exact ⟨u, h.G _ _ _ hu⟩
    · obtain ⟨u', hu⟩ := h1 i row j d e e2
      have := h.G _ _ _ hu
      rw [eu] at this
      cases this
      exact ih i row j d u e e2 hu
  | agg cells vs hl h1 _ ih => exact .agg cells vs hl h1 ih
  | tuple ds vs hl _ ih => exact .tuple ds vs hl ih

def St.live (s : St) (t : Nat) : Prop := ∃ n, s.toks[t]? = some (some n)

/-- A world holds an abstract state. -/
structure Rel (M : Map) (s : St) (w : World) : Prop where
  comm : ∀ b o v, M.G b o = some v → w.cell? ⟨b, o, none⟩ = some v ∧ v.oneCell' = true
  obj : ∀ (o : Nat) (ds : List D), s.objs[o]? = some ds → ∃ (vs : Array Value) (T : TypeId), w.heap[M.mu o]? = some (.cells vs T (0, 0)) ∧ vs.size = ds.length ∧
    (∀ v ∈ vs, v.oneCell' = true) ∧ ∀ (i : Nat) (d : D) (v : Value), ds[i]? = some d → vs[i]? = some v → RD M s d v
  objG : ∀ o, o < s.objs.length → ∀ off, M.G (M.mu o) off = none
  inj : ∀ o o', o < s.objs.length → o' < s.objs.length → M.mu o = M.mu o' → o = o'
  tok : ∀ t n, s.toks[t]? = some (some n) → (M.be t = none ∧ n = 0) ∨ ∃ (b cap size : Nat) (vs : Array Value) (T : TypeId), M.be t = some (b, cap, size) ∧
    w.heap[b]? = some (.cells vs T (0, 0)) ∧ vs.size = cap * size ∧ n ≤ cap ∧ ∀ off, n * size ≤ off → M.G b off = none
  tokObj : ∀ t b c z o, s.live t → M.be t = some (b, c, z) → o < s.objs.length → M.mu o ≠ b
  tokInj : ∀ t t' b c z c' z', s.live t → s.live t' → M.be t = some (b, c, z) → M.be t' = some (b, c', z') → t = t'

/-- From one abstract state and world to a later one. -/
structure Ext (M : Map) (s : St) (w : World) (M' : Map) (s' : St) (w' : World) : Prop where
  le : Le M s M' s'
  kept : ∀ b, b < w.heap.size → (∀ o, o < s.objs.length → M.mu o ≠ b) → (∀ t c z, s.live t → M.be t ≠ some (b, c, z)) → w'.heap[b]? = w.heap[b]?
  newO : ∀ o, s.objs.length ≤ o → o < s'.objs.length → w.heap.size ≤ M'.mu o
  newT : ∀ t b c z, s'.live t → M'.be t = some (b, c, z) → (s.live t ∧ ∃ c' z', M.be t = some (b, c', z')) ∨ w.heap.size ≤ b
  newG : ∀ b o, M'.G b o ≠ M.G b o → w.heap.size ≤ b ∨ ∃ t c z, s.live t ∧ M.be t = some (b, c, z)
  size : w.heap.size ≤ w'.heap.size
  os : w'.os = w.os
  tape : w'.tape = w.tape
  output : w'.output = w.output

theorem Ext.refl (M : Map) (s : St) (w : World) : Ext M s w M s w :=
  ⟨Le.refl M s, fun _ _ _ _ => rfl, fun o h h' => by omega, fun t b c z h e => .inl ⟨h, c, z, e⟩, fun _ _ h => (h rfl).elim, Nat.le_refl _, rfl, rfl, rfl⟩

theorem Ext.trans {M M' M'' : Map} {s s' s'' : St} {w w' w'' : World} (h : Ext M s w M' s' w') (k : Ext M' s' w' M'' s'' w'') : Ext M s w M'' s'' w'' := by
  refine ⟨h.le.trans k.le, fun b hb ho ht => ?_, fun o h1 h2 => ?_, fun t b c z h1 e => ?_, fun b o hne => ?_, Nat.le_trans h.size k.size,
    k.os.trans h.os, k.tape.trans h.tape, k.output.trans h.output⟩
  · rw [k.kept b (Nat.lt_of_lt_of_le hb h.size) (fun o hlt e => ?_) (fun t c z hlt e => ?_), h.kept b hb ho ht]
    · rcases Nat.lt_or_ge o s.objs.length with h1 | h1
      · exact ho o h1 ((h.le.mu o h1).symm.trans e)
      · have := h.newO o h1 hlt; omega
    · rcases h.newT t b c z hlt e with ⟨h1, c', z', e'⟩ | h1
      · exact ht t c' z' h1 e'
      · omega
  · rcases Nat.lt_or_ge o s'.objs.length with h3 | h3
    · rw [k.le.mu o h3]; exact h.newO o h1 h3
    · exact Nat.le_trans h.size (k.newO o h3 h2)
  · rcases k.newT t b c z h1 e with ⟨h2, c', z', e'⟩ | h2
    · exact h.newT t b c' z' h2 e'
    · exact .inr (Nat.le_trans h.size h2)
  · by_cases e : M'.G b o = M.G b o
    · have : M''.G b o ≠ M'.G b o := fun e' => hne (e'.trans e)
      rcases k.newG b o this with h1 | ⟨t, c, z, h1, h2⟩
      · exact .inl (Nat.le_trans h.size h1)
      · rcases h.newT t b c z h1 h2 with ⟨h3, c', z', e'⟩ | h3
        · exact .inr ⟨t, c', z', h3, e'⟩
        · exact .inl h3
    · exact h.newG b o e

end Go.Abs
