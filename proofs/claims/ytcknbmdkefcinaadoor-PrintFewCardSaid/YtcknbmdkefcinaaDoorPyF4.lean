/-
  What is proved here: the statement PrintFewCardSaid: whatever the expression, the law, called, gives true, and of what was there nothing turns.
  No conditions.
-/
import Derived.Test.YtcknbmdkefcinaaDoorPyF3
import Derived.RowKit3
import Derived.WalkKit
import Derived.ProofKit
import Derived.OpenShut
import Derived.ShutString
import Derived.ChangeMaps5
import Derived.ChangeStays
import Derived.KernelRfl
import Derived.Test.YtcknbmdkefcinaaDoorRows
import Derived.Lib.LaidTab
import Derived.Lib.LaidIn
import Derived.LaidSub
import Derived.Test.YtcknbmdkefcinaaDoorCards
import Derived.Test.YtcknbmdkefcinaaDoorTie
import Derived.SevenTiedAt

set_option linter.unusedSimpArgs false
set_option linter.unusedVariables false

/-! Binds2 -/

namespace Go.Abs
set_option linter.unusedSimpArgs false
set_option linter.unusedVariables false
open Go.Proofs

/-- The text of a row: of its first names. -/
def rowB (names : List Str) (ops : List Int) : Nat → Str
  | 0 => []
  | i + 1 => rowB names ops i ++ (if i = 0 then [] else signR (ops.getD (i - 1) 0)) ++ names.getD i []

/-- Names and signs that fit. -/
structure RowOk (names : List Str) (ops : List Int) : Prop where
  len : names.length = ops.length + 1
  most : ops.length ≤ 20
  short : ∀ x ∈ names, x.length ≤ 1
  op : ∀ o ∈ ops, (decide (5 ≤ o) && decide (o ≤ 17)) = true

/-! ### How it is parted -/

def stepB (i : Nat) (op : Int) (al : Nat × Int) : Nat × Int := if bindB op ≤ al.2 then (i, bindB op) else al
/-- Where the sign is that binds least, of like ones the last. -/
def atB : List Int → Nat → Nat × Int → Nat × Int
  | [], _, al => al
  | op :: r, i, al => atB r (i + 1) (stepB i op al)
def splitB : Nat → List Str → List Int → Ex
  | 0, _, _ => ex0
  | n + 1, names, ops => if ops.length = 0 then exName (names.getD 0 []) else
    exTwo (ops.getD (atB ops 0 (0, 9)).1 0) (splitB n (names.take ((atB ops 0 (0, 9)).1 + 1)) (ops.take (atB ops 0 (0, 9)).1)) (splitB n (names.drop ((atB ops 0 (0, 9)).1 + 1)) (ops.drop ((atB ops 0 (0, 9)).1 + 1)))

end Go.Abs

/-! Lx -/

namespace Go.Abs
set_option linter.unusedSimpArgs false
set_option linter.unusedVariables false

def isR (c : UInt8) : Bool := (c.toNat : Int) == 35

/-- A text, from a place on, is these tokens. -/
inductive Lx : Nat → Str → List Tok → Prop where
  | nil (pos : Nat) : Lx pos [] []
  | blank (pos : Nat) (c : UInt8) (r : Str) (l : List Tok) (h : isB c = true) (k : Lx (pos + 1) r l) : Lx pos (c :: r) l
  | rem (pos : Nat) (c : UInt8) (r : Str) (l : List Tok) (h : isB c = false) (h2 : isR c = true) (k : Lx (pos + lineL (c :: r)) ((c :: r).drop (lineL (c :: r))) l) : Lx pos (c :: r) l
  | tok (pos : Nat) (c : UInt8) (r : Str) (t : Tok) (l : List Tok) (h : isB c = false) (h2 : isR c = false) (ht : tokE pos (c :: r) = .inl t) (k : Lx (pos + t.text.length) ((c :: r).drop t.text.length) l) : Lx pos (c :: r) (t :: l)

theorem lineL_le : ∀ s : Str, lineL s ≤ s.length
  | [] => Nat.le_refl _
  | c :: r => by simp only [lineL, List.length_cons]; split; have := lineL_le r; omega; omega
theorem signL_le : ∀ s : Str, signL s ≤ s.length
  | [] => Nat.le_refl _
  | [c] => by simp only [signL]; split <;> simp
  | c :: d :: r => by simp only [signL, List.length_cons]; split; omega; split; omega; omega

/-- What a token is of its text. -/
theorem tokE_text {pos : Nat} {s : Str} {t : Tok} (h : tokE pos s = .inl t) : t.pos = pos ∧ 0 < t.text.length ∧ ∃ rest, s = t.text ++ rest := by
  cases s with
  | nil => simp only [tokE] at h; cases h
  | cons c r =>
    simp only [tokE] at h
    cases hL : isL c
    · simp only [hL, Bool.false_eq_true, ↓reduceIte] at h
      cases hD : isD c
      · simp only [hD, Bool.false_eq_true, ↓reduceIte] at h
        split at h
        · cases h
        · cases h
          have := signL_le (c :: r)
          exact ⟨rfl, by simp only [List.length_take]; simp only [List.length_cons] at this ⊢; omega, (c :: r).drop (signL (c :: r)), by simp⟩
      · have k0 : 0 < runD (c :: r) := by simp [runD, hD]
        simp only [hD, ↓reduceIte] at h
        split at h
        · cases h
        · split at h
          · cases h
            exact ⟨rfl, by simp only [List.length_take, List.length_cons]; omega, (c :: r).drop (runD (c :: r)), by simp⟩
          · cases h
    · have k0 : 0 < runL (c :: r) := by simp [runL, hL]
      simp only [hL, ↓reduceIte] at h
      split at h
      · cases h
      · cases h
        exact ⟨rfl, by simp only [List.length_take, List.length_cons]; omega, (c :: r).drop (runL (c :: r)), by simp⟩

theorem tokE_er {pos : Nat} {s : Str} {e : Int} (h : tokE pos s = .inr e) : e = 2 ∨ e = 4 := by
  cases s with
  | nil => simp only [tokE] at h; cases h; exact .inl rfl
  | cons c r =>
    simp only [tokE] at h
    repeat' split at h
    all_goals first | (cases h; simp; done) | cases h

theorem tokE_ln {pos : Nat} {s : Str} {t : Tok} (h : tokE pos s = .inl t) : t.text.length ≤ s.length := by
  obtain ⟨_, _, rest, e⟩ := tokE_text h
  rw [e]; simp

/-- What the lexer makes of such a text. -/
theorem lexF_Lx {pos : Nat} {s : Str} {l : List Tok} (h : Lx pos s l) : ∀ (n : Nat) (out : List Tok), s.length < n → out.length + l.length ≤ 2000 → lexF n pos s out = (out ++ l ++ [⟨0, [], 0, (pos + s.length : Nat)⟩], 0, 0) := by
  induction h with
  | nil pos =>
    intro n out hn ho
    cases n with
    | zero => omega
    | succ n => simp [lexF]
  | blank pos c r l h k ih =>
    intro n out hn ho
    cases n with
    | zero => omega
    | succ n =>
      simp only [List.length_cons] at hn
      simp only [lexF, h, ↓reduceIte]
      rw [ih n out (by omega) ho]
      simp only [List.length_cons]
      have : pos + 1 + r.length = pos + (r.length + 1) := by omega
      rw [this]
  | rem pos c r l h h2 k ih =>
    intro n out hn ho
    cases n with
    | zero => omega
    | succ n =>
      have h3 : ((c.toNat : Int) == 35) = true := h2
      simp only [lexF, h, h3, Bool.false_eq_true, ↓reduceIte]
      have hp : 0 < lineL (c :: r) := by
        have : ((c.toNat : Int) != 10) = true := by simp only [beq_iff_eq] at h3; simp [h3]
        simp [lineL, this]
      have hle := lineL_le (c :: r)
      rw [ih n out (by rw [List.length_drop]; omega) ho]
      have : pos + lineL (c :: r) + ((c :: r).drop (lineL (c :: r))).length = pos + (c :: r).length := by rw [List.length_drop]; omega
      rw [this]
  | tok pos c r t l h h2 ht k ih =>
    intro n out hn ho
    cases n with
    | zero => omega
    | succ n =>
      have h3 : ((c.toNat : Int) == 35) = false := h2
      simp only [List.length_cons] at ho
      have hne : ¬ out.length = 2000 := by omega
      simp only [lexF, h, h3, Bool.false_eq_true, ↓reduceIte, ht, if_neg hne]
      obtain ⟨_, hp, _⟩ := tokE_text ht
      have hle := tokE_ln ht
      rw [ih n _ (by rw [List.length_drop]; omega) (by simp; omega)]
      have : pos + t.text.length + ((c :: r).drop t.text.length).length = pos + (c :: r).length := by rw [List.length_drop]; omega
      rw [this]
      simp

/-- A text of which the lexer makes tokens is one. -/
theorem Lx_of : ∀ (n pos : Nat) (s : Str) (out : List Tok), s.length < n → (lexF n pos s out).2.1 = 0 → out.length ≤ 2000 → ∃ l, Lx pos s l ∧ out.length + l.length ≤ 2000 := by
  intro n
  induction n with
  | zero => intro pos s out hn; omega
  | succ n ih =>
    intro pos s out hn h ho
    cases s with
    | nil => exact ⟨[], .nil _, by simpa using ho⟩
    | cons c r =>
      simp only [List.length_cons] at hn
      simp only [lexF] at h
      cases hb : isB c
      · simp only [hb, Bool.false_eq_true, ↓reduceIte] at h
        cases h3 : ((c.toNat : Int) == 35)
        · simp only [h3, Bool.false_eq_true, ↓reduceIte] at h
          cases ht : tokE pos (c :: r) with
          | inr e => simp only [ht] at h; have := tokE_er ht; omega
          | inl t =>
            simp only [ht] at h
            split at h
            · cases h
            · rename_i h2
              obtain ⟨_, hp, _⟩ := tokE_text ht
              obtain ⟨l, hl, hlen⟩ := ih _ _ _ (by rw [List.length_drop, List.length_cons]; omega) h (by simp; omega)
              refine ⟨t :: l, .tok _ _ _ _ _ hb h3 ht hl, ?_⟩
              simp only [List.length_append, List.length_cons, List.length_nil] at hlen ⊢
              omega
        · simp only [h3, ↓reduceIte] at h
          have hp : 0 < lineL (c :: r) := by
            have : ((c.toNat : Int) != 10) = true := by simp only [beq_iff_eq] at h3; simp [h3]
            simp [lineL, this]
          obtain ⟨l, hl, hlen⟩ := ih _ _ _ (by rw [List.length_drop, List.length_cons]; omega) h ho
          exact ⟨l, .rem _ _ _ _ hb h3 hl, hlen⟩
      · simp only [hb, ↓reduceIte] at h
        obtain ⟨l, hl, hlen⟩ := ih _ _ _ (by omega) h ho
        exact ⟨l, .blank _ _ _ _ hb hl, hlen⟩

def tEnd (n : Nat) : Tok := ⟨0, [], 0, (n : Nat)⟩

theorem lexAll_Lx {s : Str} {l : List Tok} (h : Lx 0 s l) (hs : s.length ≤ 100000) (hl : l.length ≤ 2000) : lexAll s = (l ++ [tEnd s.length], 0, 0) := by
  unfold lexAll
  rw [if_neg (by omega), lexF_Lx h _ _ (Nat.lt_succ_self _) (by simpa using hl)]
  simp [tEnd]
theorem Lx_lexAll {s : Str} (h : (lexAll s).2.1 = 0) : ∃ l, Lx 0 s l ∧ s.length ≤ 100000 ∧ l.length ≤ 2000 ∧ lexAll s = (l ++ [tEnd s.length], 0, 0) := by
  unfold lexAll at h
  split at h
  · cases h
  · rename_i hs
    obtain ⟨l, hl, hlen⟩ := Lx_of _ _ _ _ (Nat.lt_succ_self _) h (Nat.zero_le _)
    have hlen : l.length ≤ 2000 := by simpa using hlen
    exact ⟨l, hl, by omega, hlen, lexAll_Lx hl (by omega) hlen⟩

end Go.Abs

/-! Lx2 -/

namespace Go.Abs
set_option linter.unusedSimpArgs false
set_option linter.unusedVariables false

/-- Nothing that stands ahead goes on with that byte. -/
def stopC (c : UInt8) : Bool := !(isL c) && !(isD c) && !(c == 61) && !(c == 38) && !(c == 124)
def Stop : Str → Prop
  | [] => True
  | c :: _ => stopC c = true

/-- A token by itself, wherever it stands, with something behind it. -/
def TGood (t : Tok) : Prop := 0 < t.text.length ∧ ∀ (p : Nat) (b : Str), Stop b → tokE p (t.text ++ b) = .inl { t with pos := (p : Nat) }
end Go.Abs

/-! Tot -/

namespace Go.Abs
set_option linter.unusedSimpArgs false
set_option linter.unusedVariables false

/-- There is a result, and this holds of it. -/
def Tt {α : Type} (o : Option α) (Q : α → Prop) : Prop := ∃ a, o = some a ∧ Q a
theorem Tt.bind {α β : Type} {o : Option α} {f : α → Option β} {Q : α → Prop} {R : β → Prop} (h : Tt o Q) (k : ∀ a, Q a → Tt (f a) R) : Tt (o.bind f) R := by
  obtain ⟨a, rfl, hq⟩ := h
  exact k a hq
theorem Tt.mono {α : Type} {o : Option α} {Q R : α → Prop} (h : Tt o Q) (k : ∀ a, Q a → R a) : Tt o R := by
  obtain ⟨a, e, hq⟩ := h
  exact ⟨a, e, k a hq⟩
theorem Tt.some {α : Type} {a : α} {Q : α → Prop} (h : Q a) : Tt (some a) Q := ⟨a, rfl, h⟩
theorem Tt.ite {α : Type} {c : Prop} [Decidable c] {a b : Option α} {Q : α → Prop} (h1 : c → Tt a Q) (h2 : ¬ c → Tt b Q) : Tt (if c then a else b) Q := by
  by_cases h : c
  · rw [if_pos h]; exact h1 h
  · rw [if_neg h]; exact h2 h

structure Rd.Ok (r : Rd) : Prop where
  k : ∀ t ∈ r.l, 0 ≤ t.kind ∧ t.kind ≤ 4
  lt : r.i < r.l.length
  len : r.l.length ≤ 2001
  last : ∀ t, r.l[r.l.length - 1]? = some t → t.kind = 0
  n1 : r.n ≤ 201

/-- From one reader to a later one. -/
structure Rd.To (r r' : Rd) : Prop where
  ok : r'.Ok
  l : r'.l = r.l
  i : r.i ≤ r'.i
  g : r'.good = true → r.good = true
  s : r.good = false → r' = r
structure Rd.ToE (r r' : Rd) : Prop where
  to : r.To r'
  n : r'.n = r.n

theorem Rd.To.refl {r : Rd} (h : r.Ok) : r.To r := ⟨h, rfl, Nat.le_refl _, id, fun _ => rfl⟩
theorem Rd.To.trans {a b c : Rd} (h : a.To b) (k : b.To c) : a.To c :=
  ⟨k.ok, k.l.trans h.l, Nat.le_trans h.i k.i, fun g => h.g (k.g g), fun g => by have := h.s g; subst this; exact k.s g⟩
theorem Rd.ToE.refl {r : Rd} (h : r.Ok) : r.ToE r := ⟨.refl h, rfl⟩
theorem Rd.ToE.trans {a b c : Rd} (h : a.ToE b) (k : b.ToE c) : a.ToE c := ⟨h.to.trans k.to, k.n.trans h.n⟩

theorem peek_t {r : Rd} (h : r.Ok) : Tt r.peek fun t => r.l[r.i]? = some t ∧ 0 ≤ t.kind ∧ t.kind ≤ 4 ∧ (t.kind ≠ 0 → r.i + 1 < r.l.length) := by
  have hlt := h.lt
  have hget : r.l[r.i]? = some r.l[r.i] := List.getElem?_eq_getElem hlt
  have hk := h.k _ (List.getElem_mem hlt)
  refine ⟨r.l[r.i], ?_, hget, hk.1, hk.2, fun hz => ?_⟩
  · have : r.i < 4611686018427387904 := by have := h.len; omega
    simp only [Rd.peek, getO, this, ↓reduceIte, hget, Option.bind_some, hk.1, hk.2, decide_true, Bool.and_self]
  · rcases Nat.lt_or_ge (r.i + 1) r.l.length with h1 | h1
    · exact h1
    · have : r.i = r.l.length - 1 := by omega
      have := h.last r.l[r.i] (by rw [← this]; exact hget)
      exact absurd this hz

theorem Rd.Ok.on {r : Rd} (h : r.Ok) (hi : r.i + 1 < r.l.length) : ({ r with i := r.i + 1 } : Rd).Ok := ⟨h.k, hi, h.len, h.last, h.n1⟩
theorem Rd.ToE.on {r : Rd} (h : r.Ok) (hg : r.good = true) (hi : r.i + 1 < r.l.length) : r.ToE { r with i := r.i + 1 } :=
  ⟨⟨h.on hi, rfl, Nat.le_succ _, fun _ => hg, fun h' => by rw [hg] at h'; cases h'⟩, rfl⟩
theorem Rd.Ok.fault {r : Rd} (h : r.Ok) (c f : Int) : ({ r with code := c, fat := f } : Rd).Ok ∨ c = 0 := by
  by_cases hc : c = 0
  · exact .inr hc
  · exact .inl ⟨h.k, h.lt, h.len, h.last, h.n1⟩

theorem bad_t {r : Rd} (h : r.Ok) {c : Int} (hc : c ≠ 0) : Tt (r.bad c) fun r' => r.ToE r' ∧ r'.good = false ∧ r'.i = r.i := by
  unfold Rd.bad
  refine Tt.ite (fun hg => ?_) (fun hg => ?_)
  · refine (peek_t h).bind fun t ht => Tt.some ?_
    have hf : ({ r with code := c, fat := t.pos } : Rd).good = false := by simp [Rd.good, hc]
    refine ⟨⟨⟨?_, rfl, Nat.le_refl _, fun h' => (by rw [hf] at h'; cases h'), fun h' => (by rw [hg] at h'; cases h')⟩, rfl⟩, hf, rfl⟩
    rcases h.fault c t.pos with h1 | h1
    · exact h1
    · exact absurd h1 hc
  · have : r.good = false := by simpa using hg
    exact Tt.some ⟨.refl h, this, rfl⟩

theorem is_t {r : Rd} (h : r.Ok) (s : Str) : Tt (r.is s) fun b => b = true → r.i + 1 < r.l.length := by
  unfold Rd.is
  refine (peek_t h).bind fun t ht => Tt.some fun hb => ht.2.2.2 ?_
  simp only [Bool.and_eq_true, Bool.or_eq_true, beq_iff_eq] at hb
  omega

theorem take_t {r : Rd} (h : r.Ok) (s : Str) : Tt (r.take s) fun p => r.ToE p.2 ∧ (p.1 = true → p.2.i = r.i + 1 ∧ r.good = true ∧ p.2.good = true) ∧ (p.1 = false → p.2 = r) := by
  unfold Rd.take
  refine Tt.ite (fun hg => ?_) (fun hg => ?_)
  · exact Tt.some ⟨.refl h, by simp, by simp⟩
  · have hg' : r.good = true := by simpa using hg
    refine (is_t h s).bind fun b hb => Tt.ite (fun hc => Tt.some ⟨.refl h, by simp, by simp⟩) (fun hc => Tt.some ?_)
    have hbt : b = true := by simpa using hc
    exact ⟨.on h hg' (hb hbt), fun _ => ⟨rfl, hg', hg'⟩, by simp⟩

theorem want_t {r : Rd} (h : r.Ok) (s : Str) : Tt (r.want s) fun r' => r.ToE r' ∧ (r'.good = true → r'.i = r.i + 1) := by
  unfold Rd.want
  refine (take_t h s).bind fun p hp => Tt.ite (fun hc => ?_) (fun hc => ?_)
  · have : p.1 = false := by simpa using hc
    have e := hp.2.2 this
    rw [e]
    exact (bad_t h (by decide)).mono fun r' hr => ⟨hr.1, fun hg => by rw [hr.2.1] at hg; cases hg⟩
  · have : p.1 = true := by simpa using hc
    exact Tt.some ⟨hp.1, fun _ => (hp.2.1 this).1⟩

/-! ### Expressions -/

def ExT (r : Rd) (p : Ex × Rd) : Prop := r.ToE p.2 ∧ (p.2.good = true → p.1.size + 3 + 4 * r.i ≤ 4 * p.2.i)

theorem ex0_size : ex0.size = 1 := rfl

theorem expr_t : ∀ n : Nat,
    (∀ r : Rd, r.Ok → 3 * (r.l.length - r.i) + 1 ≤ n → Tt (Rd.one n r) (ExT r)) ∧
    (∀ (r : Rd) (k : Int), r.Ok → 3 * (r.l.length - r.i) + 2 ≤ n → Tt (Rd.two n k r) (ExT r)) ∧
    (∀ (r : Rd) (k : Int) (x : Ex), r.Ok → 3 * (r.l.length - r.i) + 1 ≤ n → Tt (Rd.twoL n k x r) fun p => r.ToE p.2 ∧ (p.2.good = true → p.1.size + 4 * r.i ≤ x.size + 4 * p.2.i)) := by
  intro n
  induction n with
  | zero => exact ⟨fun r _ h => by omega, fun r k _ h => by omega, fun r k x _ h => by omega⟩
  | succ n ih =>
  obtain ⟨ih1, ih2, ih3⟩ := ih
  refine ⟨fun r h hn => ?_, fun r k h hn => ?_, fun r k x h hn => ?_⟩
  · have hlt := h.lt
    simp only [Rd.one]
    refine (peek_t h).bind fun t ht => Tt.ite (fun hg => ?_) (fun hg => ?_)
    · have hg : r.good = false := by simpa using hg
      exact Tt.some ⟨.refl h, fun h' => by simp only [hg] at h'; cases h'⟩
    have hg : r.good = true := by simpa using hg
    refine Tt.ite (fun hk => ?_) (fun hk => Tt.ite (fun hk2 => ?_) (fun hk2 => ?_))
    · simp only [beq_iff_eq] at hk
      refine Tt.some ⟨.on h hg (ht.2.2.2 (by omega)), fun _ => ?_⟩
      simp only [Ex.size, Ex.sizes]; omega
    · simp only [beq_iff_eq] at hk2
      refine Tt.some ⟨.on h hg (ht.2.2.2 (by omega)), fun _ => ?_⟩
      simp only [Ex.size, Ex.sizes]; omega
    refine (take_t h _).bind fun p hp => Tt.ite (fun hc => ?_) (fun hc => ?_)
    · obtain ⟨e1, e2, e3⟩ := hp.2.1 hc
      have hl := hp.1.to.l
      have hi := hp.1.to.ok.lt
      refine (ih2 p.2 1 hp.1.to.ok (by rw [hl, e1]; rw [hl, e1] at hi; omega)).bind fun x hx => ?_
      refine (want_t hx.1.to.ok _).bind fun r2 hr2 => Tt.some ⟨hp.1.trans (hx.1.trans hr2.1), fun hgo => ?_⟩
      have := hx.2 (hr2.1.to.g hgo)
      have := hr2.2 hgo
      dsimp only
      omega
    · have hpf : p.1 = false := by simpa using hc
      rw [hp.2.2 hpf]
      refine (take_t h _).bind fun p hp => Tt.ite (fun hc => ?_) (fun hc => ?_)
      · obtain ⟨e1, e2, e3⟩ := hp.2.1 hc
        have hl := hp.1.to.l
        have hi := hp.1.to.ok.lt
        refine (ih1 p.2 hp.1.to.ok (by rw [hl, e1]; rw [hl, e1] at hi; omega)).bind fun x hx => Tt.some ⟨hp.1.trans hx.1, fun hgo => ?_⟩
        have := hx.2 hgo
        simp only [Ex.size, Ex.sizes]
        omega
      · have hpf : p.1 = false := by simpa using hc
        rw [hp.2.2 hpf]
        refine (take_t h _).bind fun p hp => Tt.ite (fun hc => ?_) (fun hc => ?_)
        · obtain ⟨e1, e2, e3⟩ := hp.2.1 hc
          have hl := hp.1.to.l
          have hi := hp.1.to.ok.lt
          refine (ih1 p.2 hp.1.to.ok (by rw [hl, e1]; rw [hl, e1] at hi; omega)).bind fun x hx => Tt.some ⟨hp.1.trans hx.1, fun hgo => ?_⟩
          have := hx.2 hgo
          simp only [Ex.size, Ex.sizes]
          omega
        · have hpf : p.1 = false := by simpa using hc
          rw [hp.2.2 hpf]
          exact (bad_t h (by decide)).bind fun r' hr => Tt.some ⟨hr.1, fun hg => by simp only [hr.2.1] at hg; cases hg⟩
  · simp only [Rd.two]
    refine (ih1 r h (by omega)).bind fun x hx => ?_
    have hl := hx.1.to.l
    have hi := hx.1.to.i
    refine (ih3 x.2 k x.1 hx.1.to.ok (by rw [hl]; omega)).mono fun p hp => ⟨hx.1.trans hp.1, fun hg => ?_⟩
    have h1 := hp.2 hg
    have h2 := hx.2 (hp.1.to.g hg)
    omega
  · have hlt := h.lt
    simp only [Rd.twoL]
    refine Tt.ite (fun hg => ?_) (fun hg => Tt.some ⟨.refl h, fun _ => Nat.le_refl _⟩)
    refine (peek_t h).bind fun t ht => Tt.ite (fun hc => Tt.some ⟨.refl h, fun _ => Nat.le_refl _⟩) (fun hc => ?_)
    have hk : t.kind ≠ 0 := fun e => hc (by
      have : opOf t = (0, 0) := by simp [opOf, e]
      simp [this])
    have hon := Rd.ToE.on h hg (ht.2.2.2 hk)
    have hi := hon.to.ok.lt
    refine (ih2 _ _ hon.to.ok (by dsimp only at hi ⊢; omega)).bind fun y hy => ?_
    have hl2 := hy.1.to.l
    have hi2 := hy.1.to.i
    have hi3 := hy.1.to.ok.lt
    dsimp only at hl2 hi2
    refine (ih3 y.2 k _ hy.1.to.ok (by rw [hl2] at hi3 ⊢; omega)).mono fun p hp => ⟨hon.trans (hy.1.trans hp.1), fun hgo => ?_⟩
    have h1 := hp.2 hgo
    have h2 := hy.2 (hp.1.to.g hgo)
    simp only [Ex.size, Ex.sizes] at h1
    dsimp only at h2
    omega

/-- Fuel that is enough for a whole expression. -/
theorem whole_t {n : Nat} {r : Rd} (h : r.Ok) (hn : 6006 ≤ n) : Tt (Rd.whole n r) (ExT r) := by
  have hlen := h.len
  unfold Rd.whole
  refine (peek_t h).bind fun t ht => ((expr_t n).2.1 r 1 h (by omega)).bind fun x hx => Tt.ite (fun hg => ?_) (fun hg => Tt.some ?_)
  · have hs := hx.2 hg
    have hi := hx.1.to.ok.lt
    have hl := hx.1.to.ok.len
    have hsz : x.1.size < 4611686018427387904 := by omega
    simp only [depthO, hsz, ↓reduceIte, Option.bind_some]
    refine Tt.ite (fun hd => Tt.some ?_) (fun hd => Tt.some hx)
    have hf : ({ x.2 with code := 4, fat := t.pos } : Rd).good = false := rfl
    refine ⟨⟨⟨?_, hx.1.to.l, hx.1.to.i, fun h' => (by rw [hf] at h'; cases h'), fun h' => ?_⟩, hx.1.n⟩, fun h' => by rw [hf] at h'; cases h'⟩
    · rcases hx.1.to.ok.fault 4 t.pos with h1 | h1
      · exact h1
      · cases h1
    · have := hx.1.to.s h'
      rw [this] at hg
      rw [hg] at h'
      cases h'
  · exact hx

end Go.Abs

/-! Tot2 -/

namespace Go.Abs
set_option linter.unusedSimpArgs false
set_option linter.unusedVariables false

def StT (r : Rd) (p : Sm × Rd) : Prop := r.ToE p.2 ∧ (p.2.good = true → p.1.size + 1 + 8 * r.i ≤ 8 * p.2.i)

end Go.Abs

/-! Tot3 -/

namespace Go.Abs
set_option linter.unusedSimpArgs false
set_option linter.unusedVariables false

/-- What statements leave. -/
structure StQ (r r' : Rd) : Prop where
  to : r.To r'
  n : r'.good = true → r'.n ≤ 200

def RowsT (r : Rd) (p : (List Sm × List Str) × Rd) : Prop := StQ r p.2 ∧ (p.2.good = true → Sm.sizes p.1.1 + p.1.2.length + 8 * r.i ≤ 8 * p.2.i)

theorem notEnd_t {r : Rd} (h : r.Ok) : Tt r.notEnd fun b => b = true → r.good = true := by
  unfold Rd.notEnd
  exact Tt.ite (fun hg => (peek_t h).bind fun t _ => Tt.some fun _ => hg) (fun hg => Tt.some (by simp))

/-! ### The lexer's tokens -/

def TokOk (t : Tok) : Prop := 1 ≤ t.kind ∧ t.kind ≤ 4

theorem tokE_ok {pos : Nat} {s : Str} {t : Tok} (h : tokE pos s = .inl t) : TokOk t := by
  cases s with
  | nil => simp only [tokE] at h; cases h
  | cons c r =>
    simp only [tokE] at h
    split at h
    · split at h
      · cases h
      · cases h; simp only [TokOk]; split <;> omega
    · split at h
      · split at h
        · cases h
        · split at h
          · cases h; simp [TokOk]
          · cases h
      · split at h
        · cases h
        · cases h; simp [TokOk]

theorem lexF_ok : ∀ (n pos : Nat) (s : Str) (out : List Tok), s.length < n → out.length ≤ 2000 → (∀ t ∈ out, TokOk t) →
    (lexF n pos s out).2.1 = 0 → ∃ l e, (lexF n pos s out).1 = l ++ [e] ∧ e.kind = 0 ∧ l.length ≤ 2000 ∧ ∀ t ∈ l, TokOk t := by
  intro n
  induction n with
  | zero => intro pos s out h; omega
  | succ n ih =>
    intro pos s out hn ho hok h
    cases s with
    | nil => exact ⟨out, ⟨0, [], 0, pos⟩, by simp [lexF], rfl, ho, hok⟩
    | cons c r =>
      simp only [List.length_cons] at hn
      simp only [lexF] at h ⊢
      split
      · rename_i hb
        rw [if_pos hb] at h
        exact ih _ _ _ (by omega) ho hok h
      · rename_i hb
        rw [if_neg hb] at h
        split
        · rename_i hc
          rw [if_pos hc] at h
          have hpos : 0 < lineL (c :: r) := by
            have : ((c.toNat : Int) != 10) = true := by simp only [beq_iff_eq] at hc; simp [hc]
            simp [lineL, this]
          exact ih _ _ _ (by rw [List.length_drop, List.length_cons]; omega) ho hok h
        · rename_i hc
          rw [if_neg hc] at h
          cases ht : tokE pos (c :: r) with
          | inr e =>
            simp only [ht] at h
            exfalso
            have : e = 2 ∨ e = 4 := by
              simp only [tokE] at ht
              repeat' split at ht
              all_goals first | (cases ht; simp; done) | cases ht
            omega
          | inl t =>
            simp only [ht] at h ⊢
            split
            · rename_i h2
              rw [if_pos h2] at h
              cases h
            · rename_i h2
              rw [if_neg h2] at h
              have hpos : 0 < t.text.length := by
                have : ∀ s : Str, t.text = s → 0 < s.length → 0 < t.text.length := fun s e h => by rw [e]; exact h
                simp only [tokE] at ht
                cases hL : isL c
                · simp only [hL, Bool.false_eq_true, ↓reduceIte] at ht
                  cases hD : isD c
                  · simp only [hD, Bool.false_eq_true, ↓reduceIte] at ht
                    split at ht
                    · cases ht
                    · cases ht; simp only [List.length_take, List.length_cons]; omega
                  · have k0 : 0 < runD (c :: r) := by simp [runD, hD]
                    simp only [hD, ↓reduceIte] at ht
                    split at ht
                    · cases ht
                    · split at ht
                      · cases ht; simp only [List.length_take, List.length_cons]; omega
                      · cases ht
                · have k0 : 0 < runL (c :: r) := by simp [runL, hL]
                  simp only [hL, ↓reduceIte] at ht
                  split at ht
                  · cases ht
                  · cases ht; simp only [List.length_take, List.length_cons]; omega
              refine ih _ _ _ (by rw [List.length_drop, List.length_cons]; omega) (by simp; omega) ?_ h
              intro t' ht'
              rcases List.mem_append.1 ht' with h3 | h3
              · exact hok t' h3
              · simp at h3; subst h3; exact tokE_ok ht

theorem lexAll_ok {text : Str} (h : (lexAll text).2.1 = 0) : (rd0 (lexAll text).1).Ok := by
  unfold lexAll at h ⊢
  split at h
  · cases h
  · rename_i hl
    rw [if_neg hl]
    obtain ⟨l, e, h1, h2, h3, h4⟩ := lexF_ok _ 0 text [] (Nat.lt_succ_self _) (Nat.zero_le _) (by simp) h
    rw [h1]
    refine ⟨fun t ht => ?_, by simp [rd0], by simp [rd0]; omega, fun t ht => ?_, by simp [rd0]⟩
    · simp only [rd0] at ht
      rcases List.mem_append.1 ht with h5 | h5
      · have := h4 t h5; simp only [TokOk] at this; omega
      · simp at h5; subst h5; omega
    · simp only [rd0, List.length_append, List.length_singleton, Nat.add_sub_cancel] at ht
      rw [List.getElem?_append_right (Nat.le_refl _)] at ht
      simp at ht
      subst ht
      exact h2

/-! ### Texts -/

def fuelM : Nat := 20000

theorem exprM_t (text : Str) : Tt (exprM fuelM text) fun p => p.1.size < 100000 := by
  unfold exprM
  refine Tt.ite (fun hz => Tt.some (by rw [ex0_size]; decide)) (fun hz => ?_)
  have h0 : (lexAll text).2.1 = 0 := by simpa using hz
  have hok := lexAll_ok h0
  refine (whole_t hok (by decide)).bind fun x hx => (notEnd_t hx.1.to.ok).bind fun b hb => Tt.ite (fun _ => ?_) (fun _ => Tt.ite (fun _ => Tt.some (by rw [ex0_size]; decide)) (fun hg => Tt.some ?_))
  · refine (bad_t hx.1.to.ok (by decide)).bind fun r hr => Tt.ite (fun _ => Tt.some (by rw [ex0_size]; decide)) (fun hg => ?_)
    rw [hr.2.1] at hg
    exact absurd rfl hg
  · have hg : x.2.good = true := by simpa using hg
    have h1 := hx.2 hg
    have h2 := hx.1.to.ok.lt
    have h3 := hx.1.to.ok.len
    dsimp only
    omega

end Go.Abs

/-! BindsL -/

namespace Go.Abs
set_option linter.unusedSimpArgs false
set_option linter.unusedVariables false

inductive SplitR : Ex → List (Int × Str) → Ex → Prop
  | nil (x : Ex) : SplitR x [] x
  | cut (x : Ex) (p1 : List (Int × Str)) (op : Int) (y : Str) (p2 : List (Int × Str)) (t1 t2 : Ex) (h1 : SplitR x p1 t1) (h2 : SplitR (exName y) p2 t2) (l1 : ∀ q ∈ p1, bindB op ≤ bindB q.1) (l2 : ∀ q ∈ p2, bindB op < bindB q.1) :
    SplitR x (p1 ++ (op, y) :: p2) (exTwo op t1 t2)

/-- Tokens of what stands behind the first name. -/
def TailT : List (Int × Str) → List Tok → Prop
  | [], l => ∃ t r, l = t :: r ∧ t.kind = 0
  | (op, y) :: p, l => ∃ s u r, l = s :: u :: r ∧ s.kind = 4 ∧ s.text = signR op ∧ (decide (5 ≤ op) && decide (op ≤ 17)) = true ∧ u.kind = 1 ∧ u.text = y ∧ TailT p r

def KB_two (n : Nat) : Prop := ∀ (least : Int) (r : Rd) (t0 : Tok) (p : List (Int × Str)) (l : List Tok) (x : Ex × Rd), r.l.drop r.i = t0 :: l → t0.kind = 1 → TailT p l → r.code = 0 → 1 ≤ least → Rd.two n least r = some x →
  ∃ p1 p2, p = p1 ++ p2 ∧ SplitR (exName t0.text) p1 x.1 ∧ (∀ q ∈ p1, least ≤ bindB q.1) ∧ (∀ q p', p2 = q :: p' → bindB q.1 < least) ∧ x.2 = { r with i := r.i + 1 + 2 * p1.length } ∧ TailT p2 (l.drop (2 * p1.length))
def KB_twoL (n : Nat) : Prop := ∀ (least : Int) (x0 : Ex) (A : List (Int × Str)) (x : Ex) (r : Rd) (p : List (Int × Str)) (l : List Tok) (z : Ex × Rd), r.l.drop r.i = l → TailT p l → r.code = 0 → 1 ≤ least → SplitR x0 A x →
  (∀ q p', p = q :: p' → ∀ a ∈ A, bindB q.1 ≤ bindB a.1) → Rd.twoL n least x r = some z →
  ∃ p1 p2, p = p1 ++ p2 ∧ SplitR x0 (A ++ p1) z.1 ∧ (∀ q ∈ p1, least ≤ bindB q.1) ∧ (∀ q p', p2 = q :: p' → bindB q.1 < least) ∧ z.2 = { r with i := r.i + 2 * p1.length } ∧ TailT p2 (l.drop (2 * p1.length))

end Go.Abs

/-! BindsL2 -/

namespace Go.Abs
set_option linter.unusedSimpArgs false
set_option linter.unusedVariables false

/-! ### The documents' way -/

def AtB (d : List Int) (al : Nat × Int) : Prop := (d = [] ∧ al.2 = 9) ∨ ∃ o1 op o2, d = o1 ++ op :: o2 ∧ o1.length = al.1 ∧ bindB op = al.2 ∧ (∀ o ∈ o1, bindB op ≤ bindB o) ∧ ∀ o ∈ o2, bindB op < bindB o
/-! ### The text -/

def tailB : List Str → List Int → Str
  | x :: xs, op :: ops => signR op ++ (x ++ tailB xs ops)
  | _, _ => []

def NoGo : Str → Prop
  | [] => True
  | c :: _ => isL c = false ∧ isD c = false
end Go.Abs

/-! Full5 -/

namespace Go.Abs
set_option linter.unusedSimpArgs false
set_option linter.unusedVariables false

/-- Is it such a token? -/
def TokIs (t : Tok) (k : Int) (s : Str) (n : Int) : Prop := t.kind = k ∧ t.text = s ∧ t.n = n

/-- The tokens of an expression's text, and what is behind them. -/
inductive FullT : Ex → List Tok → List Tok → Prop
  | num (n : Int) (t : Tok) (l : List Tok) (h : t.kind = 2) (h2 : t.n = n) : FullT ⟨1, n, [], []⟩ (t :: l) l
  | name (s : Str) (t : Tok) (l : List Tok) (h : t.kind = 1) (h2 : t.text = s) : FullT ⟨2, 0, s, []⟩ (t :: l) l
  | neg (y : Ex) (p m q : Tok) (l r : List Tok) (hp : TokIs p 4 [40] 0) (hm : TokIs m 4 [45] 0) (hy : FullT y l (q :: r)) (hq : TokIs q 4 [41] 0) : FullT ⟨3, 0, [], [y]⟩ (p :: m :: l) r
  | no (y : Ex) (p m q : Tok) (l r : List Tok) (hp : TokIs p 4 [40] 0) (hm : TokIs m 4 [33] 0) (hy : FullT y l (q :: r)) (hq : TokIs q 4 [41] 0) : FullT ⟨4, 0, [], [y]⟩ (p :: m :: l) r
  | two (op : Int) (a b : Ex) (p o q : Tok) (l m r : List Tok) (ho : (decide (5 ≤ op) && decide (op ≤ 17)) = true) (hp : TokIs p 4 [40] 0) (ha : FullT a l (o :: m)) (hs : TokIs o 4 (signR op) 0) (hb : FullT b m (q :: r)) (hq : TokIs q 4 [41] 0) :
    FullT ⟨op, 0, [], [a, b]⟩ (p :: l) r

end Go.Abs

/-! Full6 -/

namespace Go.Abs
set_option linter.unusedSimpArgs false
set_option linter.unusedVariables false

theorem dig_byte {d : Nat} (h : d < 10) : isD (UInt8.ofNat (48 + d)) = true ∧ isL (UInt8.ofNat (48 + d)) = false ∧ ((UInt8.ofNat (48 + d)).toNat : Int) = ((48 + d : Nat) : Int) := by
  have e : (UInt8.ofNat (48 + d)).toNat = 48 + d := by simp; omega
  refine ⟨?_, ?_, by rw [e]⟩
  · simp only [isD, e, Bool.and_eq_true, decide_eq_true_eq]; omega
  · simp only [isL, e, Bool.and_eq_false_iff, decide_eq_false_iff_not]; omega

theorem digF_dig : ∀ f n, ∀ c ∈ digF f n, isD c = true
  | 0, n, c, h => by simp [digF] at h
  | f + 1, n, c, h => by
    simp only [digF] at h
    split at h
    · rename_i hc; simp only [List.mem_singleton] at h; subst h; exact (dig_byte hc).1
    · rcases List.mem_append.1 h with h | h
      · exact digF_dig f _ c h
      · simp only [List.mem_singleton] at h; subst h; exact (dig_byte (Nat.mod_lt _ (by omega))).1

end Go.Abs

/-! Full7 -/

namespace Go.Abs
set_option linter.unusedSimpArgs false
set_option linter.unusedVariables false

/-- It does not go on with a sign. -/
def Okd : Str → Prop
  | [] => False
  | d :: _ => d ≠ 61 ∧ d ≠ 38 ∧ d ≠ 124

end Go.Abs

/-! Pe1 -/

namespace Go.Abs
set_option linter.unusedSimpArgs false
set_option linter.unusedVariables false

/-- So many places on. -/
def Rd.mv (r : Rd) (k : Nat) : Rd := { r with i := r.i + k }
/-- These tokens come. -/
structure At (r : Rd) (l : List Tok) : Prop where
  d : r.l.drop r.i = l
  c : r.code = 0
  s : r.l.length < 1000000000

def Kd (t : Tok) : Prop := 0 ≤ t.kind ∧ t.kind ≤ 4
/-- A token that ends an expression, or is a sign that binds no more than that. -/
def Halt (c : Int) (m : List Tok) : Prop := ∃ t m', m = t :: m' ∧ Kd t ∧ ((opOf t).1 = 0 ∨ (opOf t).2 ≤ c)

def OneAs (x : Ex) (l : List Tok) : Prop := ∀ (r : Rd) (lr : List Tok) (n : Nat), At r (l ++ lr) → 3 * l.length ≤ n + 1 → Rd.one n r = some (x, r.mv l.length)
def TwoAs (c : Int) (x : Ex) (l : List Tok) : Prop := ∀ (r : Rd) (lr : List Tok) (n : Nat) (k : Int), At r (l ++ lr) → Halt c lr → k ≤ c → 3 * l.length ≤ n → ∃ n', n ≤ n' + 3 * l.length ∧ Rd.two n k r = Rd.twoL n' k x (r.mv l.length)

end Go.Abs

/-! Pe2 -/

namespace Go.Abs
set_option linter.unusedSimpArgs false
set_option linter.unusedVariables false

/-- How many tokens a text has. -/
def exN (least : Int) : Ex → Nat
  | ⟨op, _, _, kids⟩ => match kids with
    | [] => 1
    | [a] => 1 + exN 7 a
    | a :: b :: _ => exN (bindB op) a + 1 + exN (bindB op + 1) b + (if bindB op < least then 2 else 0)
/-- A text is lexed as these tokens, whatever is behind it (but a letter, a digit). -/
def LxS (s : Str) (pos : Nat) (l : List Tok) : Prop := ∀ r lr, NoGo r → Lx (pos + s.length) r lr → Lx pos (s ++ r) (l ++ lr)

/-- It begins as an expression, not as a call. -/
def NoCall (l : List Tok) : Prop := (∃ t l', l = t :: l' ∧ (t.kind = 2 ∨ (t.kind = 4 ∧ (t.text = [40] ∨ t.text = [45] ∨ t.text = [33])))) ∨ (∃ t, l = [t] ∧ t.kind = 1) ∨ ∃ t u l', l = t :: u :: l' ∧ t.kind = 1 ∧ (decide (5 ≤ (opOf u).1) && decide ((opOf u).1 ≤ 17)) = true
/-- What ends an expression. -/
def Ends (m : List Tok) : Prop := ∃ t m', m = t :: m' ∧ Kd t ∧ (opOf t).1 = 0
/-- Read as a whole. -/
def WholeAs (x : Ex) (l : List Tok) : Prop := ∀ (r : Rd) (lr : List Tok) (n : Nat), At r (l ++ lr) → Ends lr → 3 * l.length < n → Rd.whole n r = some (x, r.mv l.length)

end Go.Abs

/-! Cost -/

namespace Go.Abs
set_option linter.unusedSimpArgs false
set_option linter.unusedVariables false

/-- A token's weight. -/
def wt (wa wp : Nat) (t : Tok) : Nat := if t.text = [40] then wp else wa
def pre (wa wp : Nat) (l : List Tok) (i : Nat) : Nat := ((l.take i).map (wt wa wp)).sum
theorem pre_succ {wa wp : Nat} {l : List Tok} {i : Nat} {t : Tok} (h : l[i]? = some t) : pre wa wp l (i + 1) = pre wa wp l i + wt wa wp t := by
  unfold pre
  rw [List.take_add_one, h]
  simp
theorem pre_le {wa wp : Nat} (l : List Tok) (i : Nat) : pre wa wp l i ≤ (l.map (wt wa wp)).sum := by
  unfold pre
  have : (l.map (wt wa wp)).sum = ((l.take i).map (wt wa wp)).sum + ((l.drop i).map (wt wa wp)).sum := by
    rw [← List.sum_append, ← List.map_append, List.take_append_drop]
  omega

/-- The weight of an expression's text. -/
def exW (wa wp : Nat) (least : Int) : Ex → Nat
  | ⟨op, _, _, kids⟩ => match kids with
    | [] => wa
    | [a] => wa + exW wa wp 7 a
    | a :: b :: _ => exW wa wp (bindB op) a + wa + exW wa wp (bindB op + 1) b + (if bindB op < least then wp + wa else 0)
theorem exW_mono {wa wp : Nat} {k k' : Int} (h : k ≤ k') (x : Ex) : exW wa wp k x ≤ exW wa wp k' x := by
  obtain ⟨op, n, name, kids⟩ := x
  match kids with
  | [] => simp [exW]
  | [a] => simp [exW]
  | a :: b :: _ => simp only [exW]; split <;> split <;> omega
theorem exW_one {wa wp : Nat} (k : Int) (x : Ex) : exW wa wp 7 x ≤ exW wa wp 1 x + (wp + wa) ∧ exW wa wp k x ≤ exW wa wp 1 x + (wp + wa) := by
  obtain ⟨op, n, name, kids⟩ := x
  match kids with
  | [] => simp [exW]
  | [a] => simp [exW]
  | a :: b :: _ => simp only [exW]; split <;> split <;> split <;> omega

theorem opOf_bind (t : Tok) : (opOf t).1 = 0 ∨ ((opOf t).2 = bindB (opOf t).1 ∧ 1 ≤ (opOf t).2 ∧ (opOf t).2 ≤ 6 ∧ t.text ≠ [40]) := by
  have key : ∀ {c : Prop} [Decidable c] {a b : Int × Int}, (c → a.1 = 0 ∨ (a.2 = bindB a.1 ∧ 1 ≤ a.2 ∧ a.2 ≤ 6 ∧ t.text ≠ [40])) → (¬ c → b.1 = 0 ∨ (b.2 = bindB b.1 ∧ 1 ≤ b.2 ∧ b.2 ≤ 6 ∧ t.text ≠ [40])) →
      ((if c then a else b).1 = 0 ∨ ((if c then a else b).2 = bindB (if c then a else b).1 ∧ 1 ≤ (if c then a else b).2 ∧ (if c then a else b).2 ≤ 6 ∧ t.text ≠ [40])) := by
    intro c _ a b h1 h2
    by_cases h : c
    · rw [if_pos h]; exact h1 h
    · rw [if_neg h]; exact h2 h
  unfold opOf
  exact key (fun _ => .inl rfl) (fun _ => key (fun h => .inr ⟨by decide, by decide, by decide, by rw [beq_iff_eq.1 h]; decide⟩) (fun _ => key (fun h => .inr ⟨by decide, by decide, by decide, by rw [beq_iff_eq.1 h]; decide⟩) (fun _ => key (fun h => .inr ⟨by decide, by decide, by decide, by rw [beq_iff_eq.1 h]; decide⟩) (fun _ => key (fun h => .inr ⟨by decide, by decide, by decide, by rw [beq_iff_eq.1 h]; decide⟩) (fun _ => key (fun h => .inr ⟨by decide, by decide, by decide, by rw [beq_iff_eq.1 h]; decide⟩) (fun _ => key (fun h => .inr ⟨by decide, by decide, by decide, by rw [beq_iff_eq.1 h]; decide⟩) (fun _ => key (fun h => .inr ⟨by decide, by decide, by decide, by rw [beq_iff_eq.1 h]; decide⟩) (fun _ => key (fun h => .inr ⟨by decide, by decide, by decide, by rw [beq_iff_eq.1 h]; decide⟩) (fun _ => key (fun h => .inr ⟨by decide, by decide, by decide, by rw [beq_iff_eq.1 h]; decide⟩) (fun _ => key (fun h => .inr ⟨by decide, by decide, by decide, by rw [beq_iff_eq.1 h]; decide⟩) (fun _ => key (fun h => .inr ⟨by decide, by decide, by decide, by rw [beq_iff_eq.1 h]; decide⟩) (fun _ => key (fun h => .inr ⟨by decide, by decide, by decide, by rw [beq_iff_eq.1 h]; decide⟩) (fun _ => key (fun h => .inr ⟨by decide, by decide, by decide, by rw [beq_iff_eq.1 h]; decide⟩) (fun _ => .inl rfl))))))))))))))

/-- Where it ends well, it began well, and this holds of it and of where it ends. -/
def CK {α : Type} (r : Rd) (o : Option (α × Rd)) (Q : α → Nat → Prop) : Prop := ∀ p, o = some p → p.2.l = r.l ∧ (p.2.good = true → r.good = true ∧ Q p.1 p.2.i)
theorem CK.bind {α β : Type} {r : Rd} {o : Option (α × Rd)} {f : α × Rd → Option (β × Rd)} {Q : α → Nat → Prop} {R : β → Nat → Prop} (h : CK r o Q) (k : ∀ a q, q.l = r.l → (q.good = true → r.good = true ∧ Q a q.i) → CK q (f (a, q)) R) : CK r (o.bind f) R := by
  intro p hp
  rw [Option.bind_eq_some_iff] at hp
  obtain ⟨⟨a, q⟩, h1, h2⟩ := hp
  obtain ⟨e, g⟩ := h _ h1
  obtain ⟨e2, g2⟩ := k a q e g _ h2
  exact ⟨e2.trans e, fun hg => ⟨(g (g2 hg).1).1, (g2 hg).2⟩⟩
theorem CK.ask {α β : Type} {r : Rd} {o : Option α} {f : α → Option (β × Rd)} {R : β → Nat → Prop} (k : ∀ a, o = some a → CK r (f a) R) : CK r (o.bind f) R := by
  intro p hp
  rw [Option.bind_eq_some_iff] at hp
  obtain ⟨a, h1, h2⟩ := hp
  exact k a h1 _ h2
theorem CK.ret {α : Type} {r : Rd} {a : α} {Q : α → Nat → Prop} (h : r.good = true → Q a r.i) : CK r (some (a, r)) Q := fun p hp => by cases hp; exact ⟨rfl, fun g => ⟨g, h g⟩⟩
theorem CK.on {α : Type} {r : Rd} {a : α} {Q : α → Nat → Prop} (i : Nat) (h : r.good = true → Q a i) : CK r (some (a, { r with i := i })) Q := fun p hp => by cases hp; exact ⟨rfl, fun g => ⟨g, h g⟩⟩
theorem CK.non {α : Type} {r : Rd} {Q : α → Nat → Prop} : CK r (none : Option (α × Rd)) Q := fun p hp => by cases hp
theorem CK.ite {α : Type} {r : Rd} {c : Prop} [Decidable c] {a b : Option (α × Rd)} {Q : α → Nat → Prop} (h1 : c → CK r a Q) (h2 : ¬ c → CK r b Q) : CK r (if c then a else b) Q := by
  by_cases h : c
  · rw [if_pos h]; exact h1 h
  · rw [if_neg h]; exact h2 h
theorem CK.from {α : Type} {r s : Rd} {o : Option (α × Rd)} {Q : α → Nat → Prop} (h : CK s o Q) (hl : s.l = r.l) (hg : s.good = r.good) : CK r o Q := fun p hp => ⟨(h p hp).1.trans hl, fun g => ⟨hg ▸ ((h p hp).2 g).1, ((h p hp).2 g).2⟩⟩
theorem bad_ck {α : Type} {r : Rd} {c : Int} (hc : c ≠ 0) (a : α) (Q : α → Nat → Prop) : CK r ((r.bad c).bind fun r => some (a, r)) Q := by
  intro p hp
  rw [Option.bind_eq_some_iff] at hp
  obtain ⟨q, h1, h2⟩ := hp
  obtain ⟨e, g⟩ := bad_g hc q h1
  cases h2
  exact ⟨e, fun h => by rw [g] at h; cases h⟩
/-- This sign stands there. -/
def Sg (l : List Tok) (i : Nat) (s : Str) (j : Nat) : Prop := ∃ t, l[i]? = some t ∧ (t.kind = 3 ∨ t.kind = 4) ∧ t.text = s ∧ j = i + 1
theorem take_ck (r : Rd) (s : Str) : CK r (r.take s) fun b j => (b = true → Sg r.l r.i s j) ∧ (b = false → j = r.i) := by
  unfold Rd.take
  refine CK.ite (fun _ => CK.ret fun _ => ⟨fun h => (Bool.false_ne_true h).elim, fun _ => rfl⟩) fun _ => CK.ask fun b hb => CK.ite (fun hn => CK.ret fun _ => ⟨fun h => (Bool.false_ne_true h).elim, fun _ => rfl⟩) fun hn => CK.on _ fun _ => ⟨fun _ => ?_, fun h => Bool.noConfusion h⟩
  unfold Rd.is at hb
  rw [Option.bind_eq_some_iff] at hb
  obtain ⟨t, ht, hb⟩ := hb
  have hb : ((t.kind == 3 || t.kind == 4) && t.text == s) = true := by
    have := Option.some.inj hb
    rw [this]; simpa using hn
  simp only [Bool.and_eq_true, Bool.or_eq_true, beq_iff_eq] at hb
  exact ⟨t, (peek_get ht).2.1, hb.1, hb.2, rfl⟩
theorem want_ck {β : Type} (r : Rd) (s : Str) {f : Rd → Option (β × Rd)} {R : β → Nat → Prop} (k : ∀ q, q.l = r.l → (q.good = true → r.good = true ∧ Sg r.l r.i s q.i) → CK q (f q) R) : CK r ((r.want s).bind f) R := by
  unfold Rd.want
  rw [Option.bind_assoc]
  refine (take_ck r s).bind fun b q e g => ?_
  dsimp only
  by_cases hb : b = true
  · subst hb
    simp only [Bool.not_true, Bool.false_eq_true, ↓reduceIte, Option.bind_some]
    exact k q e fun hg => ⟨(g hg).1, (g hg).2.1 rfl⟩
  · have hb : b = false := by simpa using hb
    subst hb
    simp only [Bool.not_false, ↓reduceIte]
    intro p hp
    rw [Option.bind_eq_some_iff] at hp
    obtain ⟨q2, h1, h2⟩ := hp
    obtain ⟨e2, g2⟩ := bad_g (by decide) q2 h1
    obtain ⟨e3, g3⟩ := k q2 (e2.trans e) (fun h => by rw [g2] at h; cases h) p h2
    exact ⟨e3.trans e2, fun hg => by have := (g3 hg).1; rw [g2] at this; cases this⟩

def Stops (k : Int) (l : List Tok) (j : Nat) : Prop := ∀ t, l[j]? = some t → (opOf t).1 = 0 ∨ (opOf t).2 < k

theorem expr_ck (wa wp : Nat) (hw : wa ≤ wp) : ∀ n : Nat, (∀ r : Rd, CK r (Rd.one n r) fun x j => exW wa wp 7 x + pre wa wp r.l r.i ≤ pre wa wp r.l j) ∧
    (∀ (r : Rd) (k : Int), k ≤ 7 → CK r (Rd.two n k r) fun x j => exW wa wp k x + pre wa wp r.l r.i ≤ pre wa wp r.l j ∧ Stops k r.l j) ∧
    (∀ (r : Rd) (k : Int) (x : Ex) (c : Nat), k ≤ 7 → (r.good = true → exW wa wp k x + c ≤ pre wa wp r.l r.i ∧ ∀ t, r.l[r.i]? = some t → (opOf t).1 ≠ 0 → k ≤ (opOf t).2 → exW wa wp (opOf t).2 x + c ≤ pre wa wp r.l r.i) →
      CK r (Rd.twoL n k x r) fun x j => exW wa wp k x + c ≤ pre wa wp r.l j ∧ Stops k r.l j) := by
  intro n
  induction n with
  | zero => exact ⟨fun r => by simp only [Rd.one]; exact CK.non, fun r k _ => by simp only [Rd.two]; exact CK.non, fun r k x c _ _ => by simp only [Rd.twoL]; exact CK.non⟩
  | succ n ih =>
    obtain ⟨ih1, ih2, ih3⟩ := ih
    have wsg : ∀ {l : List Tok} {i j : Nat} {s : Str}, Sg l i s j → s ≠ [40] → pre wa wp l j = pre wa wp l i + wa := by
      rintro l i j s ⟨t, h1, h2, h3, rfl⟩ hs
      rw [pre_succ h1]
      unfold wt
      rw [if_neg (by rw [h3]; exact hs)]
    refine ⟨fun r => ?_, fun r k hk => ?_, fun r k x c hk hx => ?_⟩
    · simp only [Rd.one]
      have leaf : ∀ {t : Tok} {x : Ex}, r.peek = some t → x.kids = [] → exW wa wp 7 x + pre wa wp r.l r.i ≤ pre wa wp r.l (r.i + 1) := by
        intro t x ht hx
        rw [pre_succ (peek_get ht).2.1]
        obtain ⟨op, n, name, kids⟩ := x
        dsimp only at hx
        subst hx
        unfold wt
        simp only [exW]
        split <;> omega
      refine CK.ask fun t ht => CK.ite (fun hg => CK.ret fun g => by rw [g] at hg; cases hg) fun _ => CK.ite (fun hk => CK.on _ fun _ => leaf ht rfl) fun _ =>
        CK.ite (fun hk => CK.on _ fun _ => leaf ht rfl) fun _ => ?_
      refine (take_ck r _).bind fun b q e g => CK.ite (fun hb => ?_) fun hb => ?_
      · refine (ih2 q 1 (by omega)).bind fun x s e2 g2 => ?_
        refine want_ck s _ fun u e3 g3 => CK.ret fun gu => ?_
        obtain ⟨gs, hsg⟩ := g3 gu
        obtain ⟨gq, hx, _⟩ := g2 gs
        obtain ⟨_, g1, _⟩ := g gq
        obtain ⟨t', h1, h2, h3, h4⟩ := g1 hb
        rw [e] at hx
        rw [e2, e] at hsg
        have p1 := pre_succ (wa := wa) (wp := wp) h1
        have p2 := wsg hsg (by decide)
        have hw : wt wa wp t' = wp := by unfold wt; rw [if_pos h3]
        have := (exW_one (wa := wa) (wp := wp) 1 x).1
        have ej : q.i = r.i + 1 := h4
        rw [ej, p1, hw] at hx
        dsimp only
        omega
      refine (take_ck q _).bind fun b2 q2 e2 g2 => CK.ite (fun hb2 => ?_) fun hb2 => ?_
      · refine (ih1 q2).bind fun x s e3 g3 => CK.ret fun gs => ?_
        obtain ⟨gq2, hx⟩ := g3 gs
        obtain ⟨gq, g1, _⟩ := g2 gq2
        obtain ⟨_, _, g0⟩ := g gq
        have ei := g0 (by simpa using hb)
        have hs := wsg (g1 hb2) (by decide)
        rw [e2, e] at hx
        rw [e, ei] at hs
        simp only [exW]
        rw [hs] at hx
        omega
      refine (take_ck q2 _).bind fun b3 q3 e3 g3 => CK.ite (fun hb3 => ?_) fun _ => bad_ck (by decide) _ _
      refine (ih1 q3).bind fun x s e4 g4 => CK.ret fun gs => ?_
      obtain ⟨gq3, hx⟩ := g4 gs
      obtain ⟨gq2, g1, _⟩ := g3 gq3
      obtain ⟨gq, _, g0'⟩ := g2 gq2
      obtain ⟨_, _, g0⟩ := g gq
      have ei := g0 (by simpa using hb)
      have ei2 := g0' (by simpa using hb2)
      have hs := wsg (g1 hb3) (by decide)
      rw [e3, e2, e] at hx
      rw [e2, e, ei2, ei] at hs
      simp only [exW]
      rw [hs] at hx
      omega
    · simp only [Rd.two]
      refine (ih1 r).bind fun x s e g => ?_
      have := ih3 s k x (pre wa wp r.l r.i) hk fun gs => by
        have hx := (g gs).2
        rw [e]
        have m1 := exW_mono (wa := wa) (wp := wp) hk x
        refine ⟨by omega, fun t _ h0 _ => ?_⟩
        rcases opOf_bind t with h | ⟨_, _, h6, _⟩
        · exact absurd h h0
        · have := exW_mono (wa := wa) (wp := wp) (show (opOf t).2 ≤ 7 by omega) x
          omega
      rw [e] at this
      exact this
    · simp only [Rd.twoL]
      refine CK.ite (fun hgood => CK.ask fun t ht => CK.ite (fun hst => CK.ret fun g => ⟨(hx g).1, fun u hu => ?_⟩) fun hop => ?_) fun hng => CK.ret fun g => absurd g hng
      · rw [(peek_get ht).2.1] at hu
        cases hu
        simp only [Bool.or_eq_true, decide_eq_true_eq, beq_iff_eq] at hst
        exact hst.symm
      · simp only [Bool.or_eq_true, decide_eq_true_eq, beq_iff_eq, not_or] at hop
        obtain ⟨hb, h1, h6, htx⟩ := (opOf_bind t).resolve_left hop.2
        have hx1 := (hx hgood).2 t (peek_get ht).2.1 hop.2 (by omega)
        refine CK.from (s := { r with i := r.i + 1 }) ?_ rfl rfl
        refine CK.bind (f := fun y => Rd.twoL n k ⟨(opOf t).1, 0, [], [x, y.1]⟩ y.2) (ih2 { r with i := r.i + 1 } _ (by omega)) fun y s e g => ?_
        have hp : pre wa wp r.l (r.i + 1) = pre wa wp r.l r.i + wa := by
          rw [pre_succ (peek_get ht).2.1]
          unfold wt
          rw [if_neg htx]
        have hl : s.l = r.l := e
        have := ih3 s k ⟨(opOf t).1, 0, [], [x, y]⟩ c hk fun gs => by
          obtain ⟨_, hy, hst⟩ := g gs
          dsimp only at hy hst
          rw [hp] at hy
          have key : ∀ k' : Int, k' ≤ (opOf t).2 → exW wa wp k' ⟨(opOf t).1, 0, [], [x, y]⟩ + c ≤ pre wa wp r.l s.i := by
            intro k' hk'
            simp only [exW]
            rw [if_neg (by omega), ← hb]
            omega
          rw [hl]
          refine ⟨key k (by omega), fun u hu h0 _ => key _ ?_⟩
          rcases hst u hu with h | h
          · exact absurd h h0
          · omega
        rw [hl] at this
        exact this

end Go.Abs

/-! Bld -/

namespace Go.Abs

set_option maxRecDepth 8000
set_option linter.unusedSimpArgs false
set_option linter.unusedVariables false
open Go.Proofs

def tWriter : TypeId := 68
theorem writer_lies : liesAt Tryd.prog Tryd.prog.depth tWriter (2 / Tryd.prog.cellsOf tWriter) 0 66 1 = true := by kernel_rfl

/-- A builder's object. -/
def bobj (o t : Nat) (l : Str) : List D := [.selfp tWriter o, .slice (.tok t true) 1 (encBy l)]
def bst (l : Str) : St := ⟨[bobj 0 0 l], [some l.length]⟩

theorem encBy_app (a b : Str) : encBy (a ++ b) = encBy a ++ encBy b := by simp [encBy]
theorem encBy_len (a : Str) : (encBy a).length = a.length := by simp [encBy]
theorem okrBy (n m : Nat) (l : Str) : D.okr n m (encBy l) = true := by
  simp [encBy, okr_eq, oks_eq, D.ok]
theorem renrBy (os ts : List Nat) (l : Str) : D.renr os ts (encBy l) = encBy l := renr_ok00 _ _ _ (okrBy 0 0 l)
theorem fgrBy (n m : Nat) (l : Str) : D.fgr n m (encBy l) = encBy l := fgr_ok n m _ (okrBy 0 0 l)

theorem appB_by {l m : Str} {t : Nat} {y : Bool} {g : Tag} {s : St} (h1 : l.length + m.length ≤ 549755813888) (h2 : s.toks[t]? = some (some l.length)) :
    appB (.slice (.tok t y) 1 (encBy l)) (.slice g 1 (encBy m)) s = some (.slice (.tok t y) 1 (encBy (l ++ m)), ⟨s.objs, s.toks.set t (some (l ++ m).length)⟩) := by
  have h3 : ((encBy l).length + (encBy m).length) * 2 ≤ maxStr := by simp only [encBy_len, maxStr]; omega
  cases m with
  | nil =>
    have : s.toks.set t (some l.length) = s.toks := by
      apply List.ext_getElem?
      intro i
      rw [List.getElem?_set]
      split
      · rename_i hi; subst hi; rw [h2, if_pos (List.getElem?_eq_some_iff.1 h2).1]
      · rfl
    simp only [encBy_len] at h3
    simp [appB, encBy, this]
    simpa [encBy] using h3
  | cons c m =>
    have e : encBy (c :: m) = [.int .u8 c.toNat] :: encBy m := rfl
    rw [e] at h3
    simp only [appB, e]
    rw [if_pos ⟨.inr trivial, .inr trivial, h3⟩]
    have h4 : s.toks[t]? = some (some (encBy l).length) := by rw [encBy_len]; exact h2
    simp only [h4, and_self, ↓reduceIte, encBy_app, e, List.length_append, List.length_cons, encBy_len]

theorem appB_str {l m : Str} {t : Nat} {y : Bool} {g : Tag} {s : St} (h1 : l.length + m.length ≤ 549755813888) (h2 : s.toks[t]? = some (some l.length)) :
    appB (.slice (.tok t y) 1 (encBy l)) (.slice g 1 (m.map fun c => [.int .u8 c.toNat])) s = some (.slice (.tok t y) 1 (encBy (l ++ m)), ⟨s.objs, s.toks.set t (some (l ++ m).length)⟩) := appB_by h1 h2
theorem appB_one {l : Str} {c : UInt8} {t : Nat} {y : Bool} {g : Tag} {s : St} (h1 : l.length + 1 ≤ 549755813888) (h2 : s.toks[t]? = some (some l.length)) :
    appB (.slice (.tok t y) 1 (encBy l)) (.slice g 1 [[.int .u8 c.toNat]]) s = some (.slice (.tok t y) 1 (encBy (l ++ [c])), ⟨s.objs, s.toks.set t (some (l ++ [c]).length)⟩) := appB_by (m := [c]) h1 h2
@[go_sem] theorem fgs_bobj {n m o t : Nat} {l : Str} (ho : o < n) (ht : t < m) : D.fgs n m (bobj o t l) = bobj o t l := by
  simp [bobj, D.fgs, D.fg, Tag.fg, ho, ht, fgrBy]
attribute [go_sem] fgrBy
/-- The methods in any state. -/
theorem Fun.bld {P : Program} {f : Nat} {args : List D} {l l' : Str} {d : D} (h : Fun P f (.ptr 0 0 :: args) (bst l) d (bst l')) (ha : D.oks 0 0 args = true) (hd : D.ok 0 0 d = true)
    {s : St} {o t : Nat} (ho : s.objs[o]? = some (bobj o t l)) (ht : s.toks[t]? = some (some l.length)) : Fun P f (.ptr o 0 :: args) s d ⟨s.objs.set o (bobj o t l'), s.toks.set t (some l'.length)⟩ := by
  refine ACalls.frame [o] [t] h (by simp) (by simp) (by simpa using (List.getElem?_eq_some_iff.1 ho).1) (by simpa using (List.getElem?_eq_some_iff.1 ht).1) rfl (fun i o' ds e1 e2 => ?_) rfl (fun i t' e1 => ?_)
    (by simp [D.rens, D.ren, rens_ok00 _ _ _ ha]) (by simp [D.oks, D.ok, oks_mono (Nat.zero_le 1) (Nat.zero_le 1) _ ha]) ?_
  · cases i with
    | zero =>
      simp [bst] at e1 e2; subst e1; subst e2
      exact ⟨by simp [bobj, D.rens, D.ren, Tag.ren, renrBy, ho], by simp [bobj, D.oks, D.ok, Tag.ok, okrBy]⟩
    | succ i => simp at e1
  · cases i with
    | zero => simp at e1; subst e1; simp [bst, ht]
    | succ i => simp at e1
  · rintro _ _ ⟨rfl, rfl⟩
    refine ⟨by simp [D.back, ren_ok00 _ _ _ hd], ?_⟩
    simp [St.back, plug, bst, allNums, D.rens, D.ren, Tag.ren, renrBy, bobj]

theorem WriteString_0 (l m : Str) (h : l.length + m.length ≤ 549755813888) : Fun Tryd.prog n_strings_Builder_WriteString [.ptr 0 0, .str m] (bst l) (.tuple [.int .i64 m.length, .val .nilIface]) (bst (l ++ m)) := by
  have hc := copyCheck_s (T := tWriter) (s := bst l) (o := 0) (r := [.slice (.tok 0 true) 1 (encBy l)]) rfl rfl writer_lies
  have ha := appB_str (l := l) (m := m) (t := 0) (y := true) (g := .shared) (s := bst l) h rfl
  simp only [bst, bobj] at hc ha
  unfold bst bobj
  refine Fun.go has_strings_Builder_WriteString rfl fun B Q hB hQ => ?_
  have hlt : 0 < 1 := Nat.zero_lt_one
  have hget : 0 < 1 := Nat.zero_lt_one
  have hpu : 0 < 1 := Nat.zero_lt_one
  have hinc : 0 < 1 := Nat.zero_lt_one
  repeat' (first
 | simp only [go_sem, hlt, hget, hpu, hinc, Int.reduceLE, ↓reduceIte, reduceCtorEq, Nat.reduceEqDiff, Nat.reduceLeDiff, Nat.reduceAdd, Nat.reduceMul, Nat.reduceSub, Nat.reduceLT, ha]
 | (with_reducible refine CU (hc) ?_)
 | (with_reducible first | refine CB_ofT (by assumption) fun hc => ?_ | refine CB_ofF (by assumption) fun hc => ?_ | refine CB_split (fun hc => ?_) fun hc => ?_) <;> (try simp only [hc, bs, ↓reduceIte] at h) <;> (try simp only [hc])
 | ((with_reducible first | refine leafR hQ ?_ | refine leafN hQ ?_); (try cases h); simp only [resL, oneD, Option.some.injEq, exists_eq_left', go_sem, hlt, hget, hpu, hinc, Int.reduceLE, ↓reduceIte, reduceCtorEq, Nat.reduceEqDiff, Nat.reduceLeDiff, Nat.reduceAdd, Nat.reduceMul, Nat.reduceSub, Nat.reduceLT, ha]; repeat' (first | exact Ok.out | with_reducible refine And.intro ?_ ?_ | (simp; done)))
 | (cases h; replace h := hr; clear hr; (try simp only [bs, ↓reduceIte] at h))
 | (cases h; done))

theorem WriteByte_0 (l : Str) (c : UInt8) (h : l.length + 1 ≤ 549755813888) : Fun Tryd.prog n_strings_Builder_WriteByte [.ptr 0 0, .int .u8 c.toNat] (bst l) (.val .nilIface) (bst (l ++ [c])) := by
  have hc := copyCheck_s (T := tWriter) (s := bst l) (o := 0) (r := [.slice (.tok 0 true) 1 (encBy l)]) rfl rfl writer_lies
  have ha := appB_one (l := l) (c := c) (t := 0) (y := true) (g := .full) (s := bst l) h rfl
  simp only [bst, bobj] at hc ha
  unfold bst bobj
  refine Fun.go has_strings_Builder_WriteByte rfl fun B Q hB hQ => ?_
  have hlt : 0 < 1 := Nat.zero_lt_one
  have hget : 0 < 1 := Nat.zero_lt_one
  have hpu : 0 < 1 := Nat.zero_lt_one
  have hinc : 0 < 1 := Nat.zero_lt_one
  repeat' (first
 | simp only [go_sem, hlt, hget, hpu, hinc, Int.reduceLE, ↓reduceIte, reduceCtorEq, Nat.reduceEqDiff, Nat.reduceLeDiff, Nat.reduceAdd, Nat.reduceMul, Nat.reduceSub, Nat.reduceLT, ha]
 | (with_reducible refine CU (hc) ?_)
 | (with_reducible first | refine CB_ofT (by assumption) fun hc => ?_ | refine CB_ofF (by assumption) fun hc => ?_ | refine CB_split (fun hc => ?_) fun hc => ?_) <;> (try simp only [hc, bs, ↓reduceIte] at h) <;> (try simp only [hc])
 | ((with_reducible first | refine leafR hQ ?_ | refine leafN hQ ?_); (try cases h); simp only [resL, oneD, Option.some.injEq, exists_eq_left', go_sem, hlt, hget, hpu, hinc, Int.reduceLE, ↓reduceIte, reduceCtorEq, Nat.reduceEqDiff, Nat.reduceLeDiff, Nat.reduceAdd, Nat.reduceMul, Nat.reduceSub, Nat.reduceLT, ha]; repeat' (first | exact Ok.out | with_reducible refine And.intro ?_ ?_ | (simp; done)))
 | (cases h; replace h := hr; clear hr; (try simp only [bs, ↓reduceIte] at h))
 | (cases h; done))

theorem WriteString_s {l : Str} {k : Nat} (m : Str) (hk : k = l.length) (h : k + m.length ≤ 549755813888) {s : St} {o t : Nat} (ho : s.objs[o]? = some (bobj o t l)) (ht : s.toks[t]? = some (some k)) :
    Fun Tryd.prog n_strings_Builder_WriteString [.ptr o 0, .str m] s (.tuple [.int .i64 m.length, .val .nilIface]) ⟨s.objs.set o (bobj o t (l ++ m)), s.toks.set t (some (k + m.length))⟩ := by
  subst hk
  have := (WriteString_0 l m h).bld rfl rfl ho ht
  rw [List.length_append] at this
  exact this
theorem WriteByte_s {l : Str} {k : Nat} (c : UInt8) (hk : k = l.length) (h : k + 1 ≤ 549755813888) {s : St} {o t : Nat} (ho : s.objs[o]? = some (bobj o t l)) (ht : s.toks[t]? = some (some k)) :
    Fun Tryd.prog n_strings_Builder_WriteByte [.ptr o 0, .int .u8 c.toNat] s (.val .nilIface) ⟨s.objs.set o (bobj o t (l ++ [c])), s.toks.set t (some (k + 1))⟩ := by
  subst hk
  have := (WriteByte_0 l c h).bld rfl rfl ho ht
  rw [List.length_append] at this
  exact this

/-- A line. -/
def lineS (n : Nat) (m : Str) : Str := List.replicate n 32 ++ m ++ [10]
theorem lineS_len (n : Nat) (m : Str) : (lineS n m).length = n + m.length + 1 := by simp [lineS]; omega

theorem line_0 (m : Str) (n : Nat) (l : Str) (h : l.length + n + m.length + 1 ≤ 549755813888) : Fun Tryd.prog n_print_writer_line [.ptr 0 0, .int .i64 n, .str m] (bst l) (.tuple []) (bst (l ++ lineS n m)) := by
  have z0 : decide ((0 : Int) > 0) = false := rfl
  unfold bst
  refine Fun.go has_print_writer_line rfl fun B Q hB hQ => ?_
  have hlt : 0 < 1 := Nat.zero_lt_one
  have hget : 0 < 1 := Nat.zero_lt_one
  have hpu : 0 < 1 := Nat.zero_lt_one
  have hinc : 0 < 1 := Nat.zero_lt_one
  repeat' (first
 | simp only [go_sem, hlt, hget, hpu, hinc, Int.reduceLE, ↓reduceIte, reduceCtorEq, Nat.reduceEqDiff, Nat.reduceLeDiff, Nat.reduceAdd, Nat.reduceMul, Nat.reduceSub, Nat.reduceLT]
 | (with_reducible first | refine CB_ofT (by assumption) fun hc => ?_ | refine CB_ofF (by assumption) fun hc => ?_ | refine CB_split (fun hc => ?_) fun hc => ?_) <;> (try simp only [hc, bs, ↓reduceIte] at h) <;> (try simp only [hc])
 | ((with_reducible first | refine leafR hQ ?_ | refine leafN hQ ?_); (try cases h); simp only [resL, oneD, Option.some.injEq, exists_eq_left', go_sem, hlt, hget, hpu, hinc, Int.reduceLE, ↓reduceIte, reduceCtorEq, Nat.reduceEqDiff, Nat.reduceLeDiff, Nat.reduceAdd, Nat.reduceMul, Nat.reduceSub, Nat.reduceLT]; repeat' (first | exact Ok.out | with_reducible refine And.intro ?_ ?_ | (simp; done)))
 | (cases h; replace h := hr; clear hr; (try simp only [bs, ↓reduceIte] at h))
 | (cases h; done))
  refine SemL.re _ _ 1 1 (by rw [hB]; exact Nat.le_of_ble_eq_true rfl) (by rw [hB]; exact Nat.le_of_ble_eq_true rfl) ?_ ?_ (SemL.ind (ι := Nat × Str × Nat) (fun i => i.2.1 ++ lineS i.1 m = l ++ lineS n m ∧ i.2.2 = i.2.1.length ∧ i.2.2 + i.1 + m.length + 1 ≤ 549755813888) (fun i => i.1)
    (fun i => [(0, .ptr 0 0), (1, .int .i64 (i.1 : Int)), (2, .str m)]) (fun i => ⟨[bobj 0 0 i.2.1], [some i.2.2]⟩) ?_ (n, l, l.length) ⟨rfl, rfl, h⟩)
  · (simp only [go_sem, hlt, hget, hpu, hinc, Int.reduceLE, ↓reduceIte, reduceCtorEq, Nat.reduceEqDiff, Nat.reduceLeDiff, Nat.reduceAdd, Nat.reduceMul, Nat.reduceSub, Nat.reduceLT]; repeat' (first | exact Ok.out | with_reducible refine And.intro ?_ ?_))
  · (simp only [go_sem, hlt, hget, hpu, hinc, Int.reduceLE, ↓reduceIte, reduceCtorEq, Nat.reduceEqDiff, Nat.reduceLeDiff, Nat.reduceAdd, Nat.reduceMul, Nat.reduceSub, Nat.reduceLT]; repeat' (first | exact Ok.out | with_reducible refine And.intro ?_ ?_))
  rintro ⟨k, acc, j⟩ ⟨h1, h2, h3⟩ IH
  dsimp only at h1 h2 h3
  cases k with
  | zero =>
    have e1 := fun (s : St) a b => WriteString_s (l := acc) m h2 (by omega) (s := s) (o := 0) (t := 0) a b
    have e2 := fun (s : St) a b => WriteByte_s (l := acc ++ m) (k := j + m.length) 10 (by simp; omega) (by omega) (s := s) (o := 0) (t := 0) a b
    simp only [show ((UInt8.toNat 10 : Nat) : Int) = 10 from rfl] at e2
    have e : acc ++ m ++ [10] = l ++ lineS n m := by rw [← h1]; simp [lineS]
    have e' : j + m.length + 1 = (l ++ lineS n m).length := by rw [← e]; simp; omega
    rw [← e', ← e] at hQ
    repeat' (first
 | simp only [go_sem, hlt, hget, hpu, hinc, Int.reduceLE, ↓reduceIte, reduceCtorEq, Nat.reduceEqDiff, Nat.reduceLeDiff, Nat.reduceAdd, Nat.reduceMul, Nat.reduceSub, Nat.reduceLT, z0]
 | (with_reducible refine CU (e1 _ rfl rfl) ?_)
 | (with_reducible refine CU (e2 _ rfl rfl) ?_)
 | (with_reducible first | refine CB_ofT (by assumption) fun hc => ?_ | refine CB_ofF (by assumption) fun hc => ?_ | refine CB_split (fun hc => ?_) fun hc => ?_) <;> (try simp only [hc, bs, ↓reduceIte] at h) <;> (try simp only [hc])
 | ((with_reducible first | refine leafR hQ ?_ | refine leafN hQ ?_); (try cases h); simp only [resL, oneD, Option.some.injEq, exists_eq_left', go_sem, hlt, hget, hpu, hinc, Int.reduceLE, ↓reduceIte, reduceCtorEq, Nat.reduceEqDiff, Nat.reduceLeDiff, Nat.reduceAdd, Nat.reduceMul, Nat.reduceSub, Nat.reduceLT, z0]; repeat' (first | exact Ok.out | with_reducible refine And.intro ?_ ?_ | (simp; done)))
 | (cases h; replace h := hr; clear hr; (try simp only [bs, ↓reduceIte] at h))
 | (cases h; done))
  | succ k =>
    have hlt : decide (((k + 1 : Nat) : Int) > 0) = true := by simp
    have e2 := fun (s : St) a b => WriteByte_s (l := acc) 32 h2 (by omega) (s := s) (o := 0) (t := 0) a b
    simp only [show ((UInt8.toNat 32 : Nat) : Int) = 32 from rfl] at e2
    have hw : IntKind.wrap .i64 (((k + 1 : Nat) : Int) - 1) = (k : Int) := by rw [wrap_ok] <;> omega
    repeat' (first
 | simp only [go_sem, hlt, hget, hpu, hinc, Int.reduceLE, ↓reduceIte, reduceCtorEq, Nat.reduceEqDiff, Nat.reduceLeDiff, Nat.reduceAdd, Nat.reduceMul, Nat.reduceSub, Nat.reduceLT, hw]
 | (with_reducible refine CU (e2 _ rfl rfl) ?_)
 | (with_reducible first | refine CB_ofT (by assumption) fun hc => ?_ | refine CB_ofF (by assumption) fun hc => ?_ | refine CB_split (fun hc => ?_) fun hc => ?_) <;> (try simp only [hc, bs, ↓reduceIte] at h) <;> (try simp only [hc])
 | ((with_reducible first | refine leafR hQ ?_ | refine leafN hQ ?_); (try cases h); simp only [resL, oneD, Option.some.injEq, exists_eq_left', go_sem, hlt, hget, hpu, hinc, Int.reduceLE, ↓reduceIte, reduceCtorEq, Nat.reduceEqDiff, Nat.reduceLeDiff, Nat.reduceAdd, Nat.reduceMul, Nat.reduceSub, Nat.reduceLT, hw]; repeat' (first | exact Ok.out | with_reducible refine And.intro ?_ ?_ | (simp; done)))
 | (cases h; replace h := hr; clear hr; (try simp only [bs, ↓reduceIte] at h))
 | (cases h; done))
    refine SemL.re _ _ 1 1 (by rw [hB]; exact Nat.le_of_ble_eq_true rfl) (by rw [hB]; exact Nat.le_of_ble_eq_true rfl) ?_ ?_ (IH (k, acc ++ [32], j + 1) ⟨by rw [← h1]; simp [lineS, List.replicate_succ], by simp [h2], by dsimp only; omega⟩ (Nat.lt_succ_self _))
    · (simp only [go_sem, hlt, hget, hpu, hinc, Int.reduceLE, ↓reduceIte, reduceCtorEq, Nat.reduceEqDiff, Nat.reduceLeDiff, Nat.reduceAdd, Nat.reduceMul, Nat.reduceSub, Nat.reduceLT]; repeat' (first | exact Ok.out | with_reducible refine And.intro ?_ ?_))
    · (simp only [go_sem, hlt, hget, hpu, hinc, Int.reduceLE, ↓reduceIte, reduceCtorEq, Nat.reduceEqDiff, Nat.reduceLeDiff, Nat.reduceAdd, Nat.reduceMul, Nat.reduceSub, Nat.reduceLT]; repeat' (first | exact Ok.out | with_reducible refine And.intro ?_ ?_))

end Go.Abs

/-! Pr2 -/

namespace Go.Abs

set_option maxRecDepth 8000
set_option linter.unusedSimpArgs false
set_option linter.unusedVariables false
open Go.Proofs

def marksS : List Str → Str
  | [] => []
  | s :: l => s ++ [58, 32] ++ marksS l
theorem marksS_len : ∀ {l : List Str}, (∀ t ∈ l, t.length ≤ 8) → (marksS l).length ≤ 10 * l.length
  | [], _ => Nat.le_refl _
  | s :: l, h => by
    have := h s (List.mem_cons_self ..)
    have := marksS_len fun t m => h t (List.mem_cons_of_mem _ m)
    simp only [marksS, List.length_append, List.length_cons, List.length_nil]; omega

theorem pref_s (b : Bool) (s : St) : Fun Tryd.prog n_print_ref [.bool b] s (.str (if b then [114, 101, 102, 32] else [])) s := by
  refine Fun.pure ?_ rfl rfl s
  unfold S0
  cases b
  · refine Fun.go has_print_ref rfl fun B Q hB hQ => ?_
    have hlt : 0 < 1 := Nat.zero_lt_one
    have hget : 0 < 1 := Nat.zero_lt_one
    have hpu : 0 < 1 := Nat.zero_lt_one
    have hinc : 0 < 1 := Nat.zero_lt_one
    repeat' (first
 | simp only [go_sem, hlt, hget, hpu, hinc, Int.reduceLE, ↓reduceIte, reduceCtorEq, Nat.reduceEqDiff, Nat.reduceLeDiff, Nat.reduceAdd, Nat.reduceMul, Nat.reduceSub, Nat.reduceLT]
 | (with_reducible first | refine CB_ofT (by assumption) fun hc => ?_ | refine CB_ofF (by assumption) fun hc => ?_ | refine CB_split (fun hc => ?_) fun hc => ?_) <;> (try simp only [hc, bs, ↓reduceIte] at h) <;> (try simp only [hc])
 | ((with_reducible first | refine leafR hQ ?_ | refine leafN hQ ?_); (try cases h); simp only [resL, oneD, Option.some.injEq, exists_eq_left', go_sem, hlt, hget, hpu, hinc, Int.reduceLE, ↓reduceIte, reduceCtorEq, Nat.reduceEqDiff, Nat.reduceLeDiff, Nat.reduceAdd, Nat.reduceMul, Nat.reduceSub, Nat.reduceLT]; repeat' (first | exact Ok.out | with_reducible refine And.intro ?_ ?_ | (simp; done)))
 | (cases h; replace h := hr; clear hr; (try simp only [bs, ↓reduceIte] at h))
 | (cases h; done))
  · refine Fun.go has_print_ref rfl fun B Q hB hQ => ?_
    have hlt : 0 < 1 := Nat.zero_lt_one
    have hget : 0 < 1 := Nat.zero_lt_one
    have hpu : 0 < 1 := Nat.zero_lt_one
    have hinc : 0 < 1 := Nat.zero_lt_one
    repeat' (first
 | simp only [go_sem, hlt, hget, hpu, hinc, Int.reduceLE, ↓reduceIte, reduceCtorEq, Nat.reduceEqDiff, Nat.reduceLeDiff, Nat.reduceAdd, Nat.reduceMul, Nat.reduceSub, Nat.reduceLT]
 | (with_reducible first | refine CB_ofT (by assumption) fun hc => ?_ | refine CB_ofF (by assumption) fun hc => ?_ | refine CB_split (fun hc => ?_) fun hc => ?_) <;> (try simp only [hc, bs, ↓reduceIte] at h) <;> (try simp only [hc])
 | ((with_reducible first | refine leafR hQ ?_ | refine leafN hQ ?_); (try cases h); simp only [resL, oneD, Option.some.injEq, exists_eq_left', go_sem, hlt, hget, hpu, hinc, Int.reduceLE, ↓reduceIte, reduceCtorEq, Nat.reduceEqDiff, Nat.reduceLeDiff, Nat.reduceAdd, Nat.reduceMul, Nat.reduceSub, Nat.reduceLT]; repeat' (first | exact Ok.out | with_reducible refine And.intro ?_ ?_ | (simp; done)))
 | (cases h; replace h := hr; clear hr; (try simp only [bs, ↓reduceIte] at h))
 | (cases h; done))

theorem pmarks_s {l : List Str} (hn : l.length ≤ 10000000) (h : ∀ t ∈ l, t.length ≤ 8) (s : St) : Fun Tryd.prog n_print_marks [.slice .shared 1 (l.map encStr)] s (.str (marksS l)) s := by
  refine Fun.pure ?_ (by simp [D.oks, D.ok, okrStr, Tag.ok]) rfl s
  unfold S0
  generalize hR : marksS l = R
  have hlen := marksS_len h
  rw [hR] at hlen
  refine Fun.go has_print_marks rfl fun B Q hB hQ => ?_
  have hlt : 0 < 1 := Nat.zero_lt_one
  have hget : 0 < 1 := Nat.zero_lt_one
  have hpu : 0 < 1 := Nat.zero_lt_one
  have hinc : 0 < 1 := Nat.zero_lt_one
  repeat' (first
 | simp only [go_sem, hlt, hget, hpu, hinc, Int.reduceLE, ↓reduceIte, reduceCtorEq, Nat.reduceEqDiff, Nat.reduceLeDiff, Nat.reduceAdd, Nat.reduceMul, Nat.reduceSub, Nat.reduceLT]
 | (with_reducible first | refine CB_ofT (by assumption) fun hc => ?_ | refine CB_ofF (by assumption) fun hc => ?_ | refine CB_split (fun hc => ?_) fun hc => ?_) <;> (try simp only [hc, bs, ↓reduceIte] at h) <;> (try simp only [hc])
 | ((with_reducible first | refine leafR hQ ?_ | refine leafN hQ ?_); (try cases h); simp only [resL, oneD, Option.some.injEq, exists_eq_left', go_sem, hlt, hget, hpu, hinc, Int.reduceLE, ↓reduceIte, reduceCtorEq, Nat.reduceEqDiff, Nat.reduceLeDiff, Nat.reduceAdd, Nat.reduceMul, Nat.reduceSub, Nat.reduceLT]; repeat' (first | exact Ok.out | with_reducible refine And.intro ?_ ?_ | (simp; done)))
 | (cases h; replace h := hr; clear hr; (try simp only [bs, ↓reduceIte] at h))
 | (cases h; done))
  refine SemL.re _ _ 1 0 (by rw [hB]; exact Nat.le_of_ble_eq_true rfl) (by rw [hB]; exact Nat.le_of_ble_eq_true rfl) ?_ ?_ (SemL.ind (ι := List Str × Nat × Str) (fun i => l.drop i.2.1 = i.1 ∧ i.2.2 ++ marksS i.1 = R) (fun i => i.1.length)
    (fun i => [(3, .str i.2.2), (6, .slice .shared 1 (l.map encStr)), (7, .int .i64 (l.length : Int)), (8, .int .i64 (i.2.1 : Int))]) (fun i => ⟨[], []⟩) ?_ (l, 0, []) ⟨rfl, hR⟩)
  · (simp only [go_sem, hlt, hget, hpu, hinc, Int.reduceLE, ↓reduceIte, reduceCtorEq, Nat.reduceEqDiff, Nat.reduceLeDiff, Nat.reduceAdd, Nat.reduceMul, Nat.reduceSub, Nat.reduceLT]; repeat' (first | exact Ok.out | with_reducible refine And.intro ?_ ?_))
  · (simp only [go_sem, hlt, hget, hpu, hinc, Int.reduceLE, ↓reduceIte, reduceCtorEq, Nat.reduceEqDiff, Nat.reduceLeDiff, Nat.reduceAdd, Nat.reduceMul, Nat.reduceSub, Nat.reduceLT]; repeat' (first | exact Ok.out | with_reducible refine And.intro ?_ ?_))
  rintro ⟨rest, k, acc⟩ ⟨h1, h2⟩ IH
  dsimp only at h1 h2
  cases rest with
  | nil =>
    have hlt := drop_nil h1
    simp only [marksS, List.append_nil] at h2
    repeat' (first
 | simp only [go_sem, hlt, hget, hpu, hinc, Int.reduceLE, ↓reduceIte, reduceCtorEq, Nat.reduceEqDiff, Nat.reduceLeDiff, Nat.reduceAdd, Nat.reduceMul, Nat.reduceSub, Nat.reduceLT, h2]
 | (with_reducible first | refine CB_ofT (by assumption) fun hc => ?_ | refine CB_ofF (by assumption) fun hc => ?_ | refine CB_split (fun hc => ?_) fun hc => ?_) <;> (try simp only [hc, bs, ↓reduceIte] at h) <;> (try simp only [hc])
 | ((with_reducible first | refine leafR hQ ?_ | refine leafN hQ ?_); (try cases h); simp only [resL, oneD, Option.some.injEq, exists_eq_left', go_sem, hlt, hget, hpu, hinc, Int.reduceLE, ↓reduceIte, reduceCtorEq, Nat.reduceEqDiff, Nat.reduceLeDiff, Nat.reduceAdd, Nat.reduceMul, Nat.reduceSub, Nat.reduceLT, h2]; repeat' (first | exact Ok.out | with_reducible refine And.intro ?_ ?_ | (simp; done)))
 | (cases h; replace h := hr; clear hr; (try simp only [bs, ↓reduceIte] at h))
 | (cases h; done))
  | cons t rest =>
    obtain ⟨hget, g2, hlt, g4⟩ := drop_cons h1
    have hpu : k < 4611686018427387904 := by omega
    have w1 : IntKind.wrap .i64 ((k : Int) + 1) = ((k + 1 : Nat) : Int) := by rw [wrap_ok] <;> omega
    have hal : acc.length + t.length + 2 ≤ R.length := by rw [← h2]; simp only [marksS, List.length_append, List.length_cons, List.length_nil]; omega
    have m1 : t.length + 1 + 1 ≤ maxStr := by unfold maxStr; omega
    have m2 : acc.length + (t.length + 1 + 1) ≤ maxStr := by unfold maxStr; omega
    repeat' (first
 | simp only [go_sem, hlt, hget, hpu, hinc, Int.reduceLE, ↓reduceIte, reduceCtorEq, Nat.reduceEqDiff, Nat.reduceLeDiff, Nat.reduceAdd, Nat.reduceMul, Nat.reduceSub, Nat.reduceLT, w1, m1, m2]
 | (with_reducible first | refine CB_ofT (by assumption) fun hc => ?_ | refine CB_ofF (by assumption) fun hc => ?_ | refine CB_split (fun hc => ?_) fun hc => ?_) <;> (try simp only [hc, bs, ↓reduceIte] at h) <;> (try simp only [hc])
 | ((with_reducible first | refine leafR hQ ?_ | refine leafN hQ ?_); (try cases h); simp only [resL, oneD, Option.some.injEq, exists_eq_left', go_sem, hlt, hget, hpu, hinc, Int.reduceLE, ↓reduceIte, reduceCtorEq, Nat.reduceEqDiff, Nat.reduceLeDiff, Nat.reduceAdd, Nat.reduceMul, Nat.reduceSub, Nat.reduceLT, w1, m1, m2]; repeat' (first | exact Ok.out | with_reducible refine And.intro ?_ ?_ | (simp; done)))
 | (cases h; replace h := hr; clear hr; (try simp only [bs, ↓reduceIte] at h))
 | (cases h; done))
    refine SemL.re _ _ 1 0 (by rw [hB]; exact Nat.le_of_ble_eq_true rfl) (by rw [hB]; exact Nat.le_of_ble_eq_true rfl) ?_ ?_ (IH (rest, k + 1, acc ++ (t ++ [58, 32])) ⟨g2, by rw [← h2]; simp [marksS]⟩ (by simp))
    · (simp only [go_sem, hlt, hget, hpu, hinc, Int.reduceLE, ↓reduceIte, reduceCtorEq, Nat.reduceEqDiff, Nat.reduceLeDiff, Nat.reduceAdd, Nat.reduceMul, Nat.reduceSub, Nat.reduceLT]; repeat' (first | exact Ok.out | with_reducible refine And.intro ?_ ?_))
    · (simp only [go_sem, hlt, hget, hpu, hinc, Int.reduceLE, ↓reduceIte, reduceCtorEq, Nat.reduceEqDiff, Nat.reduceLeDiff, Nat.reduceAdd, Nat.reduceMul, Nat.reduceSub, Nat.reduceLT]; repeat' (first | exact Ok.out | with_reducible refine And.intro ?_ ?_))

/-! ### Plain statements -/

def argS (a : Ar) : Str := if a.ref then [114, 101, 102, 32] ++ a.name else prE 0 a.x
def callS (name proc : Str) (args : List Ar) : Str := (if name = [] then [] else name ++ [32, 61, 32]) ++ (proc ++ [40] ++ Lib.join (args.map argS) [44, 32] ++ [41])
def plainS (kind : Int) (name proc : Str) (x : Ex) (has : Bool) (args : List Ar) : Str :=
  if kind = 1 then name ++ [32, 61, 32] ++ prE 0 x else if kind = 2 then [114, 101, 97, 100, 32] ++ name else if kind = 3 then [112, 114, 105, 110, 116, 32] ++ prE 0 x else if kind = 7 then [98, 114, 101, 97, 107] else if kind = 8 then [99, 111, 110, 116, 105, 110, 117, 101]
  else if kind = 10 then [103, 111, 116, 111, 32] ++ name else if kind = 9 then (if has then [114, 101, 116, 117, 114, 110, 32] ++ prE 0 x else [114, 101, 116, 117, 114, 110]) else callS name proc args

/-- What is written of a statement that may be. -/
structure Sm.PrO (s : Sm) : Prop where
  x : s.hasX = true → FormI s.x
  lab : ∀ t ∈ s.labels, t.length ≤ 8
  name : s.name.length ≤ 8
  proc : s.proc.length ≤ 8
  args : ∀ a ∈ s.args, a.name.length ≤ 8 ∧ (a.ref = false → FormI a.x)
  kind : 1 ≤ s.kind ∧ s.kind ≤ 10
  els : s.kind = 6 → s.els = []

theorem join_len (sep : Str) : ∀ l : List Str, (Lib.join l sep).length ≤ (l.map (·.length)).sum + sep.length * l.length
  | [] => by simp [Lib.join]
  | [a] => by simp [Lib.join, List.intercalate]
  | a :: b :: l => by
    have := join_len sep (b :: l)
    simp only [Lib.join, List.intercalate_cons_cons, List.length_append, List.map_cons, List.sum_cons, List.length_cons, Nat.mul_add] at this ⊢
    omega

theorem argsS_len : ∀ {l : List Ar}, (∀ a ∈ l, a.name.length ≤ 8 ∧ (a.ref = false → FormI a.x)) → ((l.map argS).map (·.length)).sum ≤ 25 * Ar.sizes l
  | [], _ => by simp
  | a :: l, h => by
    have h1 := h a (List.mem_cons_self ..)
    have := argsS_len fun t m => h t (List.mem_cons_of_mem _ m)
    have h2 : (argS a).length ≤ 25 * (1 + a.x.size) := by
      unfold argS
      split
      · simp only [List.length_append, List.length_cons, List.length_nil]; omega
      · rename_i c
        have := prE_len (h1.2 (by simpa using c)) 0
        have := nodes_size a.x.size a.x (Nat.le_refl _)
        omega
    simp only [List.map_cons, List.sum_cons, Ar.sizes] at this ⊢
    omega

theorem args_len {l : List Ar} (h : ∀ a ∈ l, a.name.length ≤ 8 ∧ (a.ref = false → FormI a.x)) : (Lib.join (l.map argS) [44, 32]).length ≤ 27 * Ar.sizes l := by
  have h1 := join_len [44, 32] (l.map argS)
  have h2 := argsS_len h
  have h3 := Ar.sizes_len l
  simp only [List.length_map, List.length_cons, List.length_nil] at h1 h3
  omega

theorem pplain_s {s : Sm} (h : s.PrO) (hs : s.size ≤ 1000000) (st : St) : Fun Tryd.prog n_print_plain [.agg (encSm s)] st (.str (plainS s.kind s.name s.proc s.x s.has s.args)) st := by
  refine Fun.pure ?_ (by simp [D.oks, D.ok, okSm]) rfl st
  obtain ⟨id, kind, labels, name, proc, x, has, args, thn, els⟩ := s
  obtain ⟨hx, _, hname, hproc, hargs, _, _⟩ := h
  dsimp only at hx hname hproc hargs ⊢
  simp only [Sm.size] at hs
  have hns := nodes_size x.size x (Nat.le_refl _)
  have hxn : x.nodes ≤ 1000000 := by omega
  unfold S0
  unfold plainS
  simp only [← beq_iff_eq (α := Int)]
  have hal := args_len hargs
  have k1 : (kind == 1) = true → FormI x := fun k => hx (by simp [Sm.hasX, k])
  have k3 : (kind == 3) = true → FormI x := fun k => hx (by simp [Sm.hasX, k])
  have k9 : (kind == 9) = true → has = true → FormI x := fun k h => hx (by simp [Sm.hasX, k, h])
  cases c1 : kind == 1 with
  | true =>
    have e1 := fun s => pexpr_s (k1 c1) hxn (least := 0) s
    simp only [encEx_eq] at e1
    have := prE_len (k1 c1) 0
    have m1 : name.length + 1 + 1 + 1 ≤ maxStr := by unfold maxStr; omega
    have m2 : name.length + 1 + 1 + 1 + (prE 0 x).length ≤ maxStr := by unfold maxStr; omega
    refine Fun.go has_print_plain rfl fun B Q hB hQ => ?_
    have hlt : 0 < 1 := Nat.zero_lt_one
    have hget : 0 < 1 := Nat.zero_lt_one
    have hpu : 0 < 1 := Nat.zero_lt_one
    have hinc : 0 < 1 := Nat.zero_lt_one
    repeat' (first
 | simp only [go_sem, hlt, hget, hpu, hinc, Int.reduceLE, ↓reduceIte, reduceCtorEq, Nat.reduceEqDiff, Nat.reduceLeDiff, Nat.reduceAdd, Nat.reduceMul, Nat.reduceSub, Nat.reduceLT, c1, m1, m2]
 | (with_reducible refine CU (e1 _) ?_)
 | (with_reducible first | refine CB_ofT (by assumption) fun hc => ?_ | refine CB_ofF (by assumption) fun hc => ?_ | refine CB_split (fun hc => ?_) fun hc => ?_) <;> (try simp only [hc, bs, ↓reduceIte] at h) <;> (try simp only [hc])
 | ((with_reducible first | refine leafR hQ ?_ | refine leafN hQ ?_); (try cases h); simp only [resL, oneD, Option.some.injEq, exists_eq_left', go_sem, hlt, hget, hpu, hinc, Int.reduceLE, ↓reduceIte, reduceCtorEq, Nat.reduceEqDiff, Nat.reduceLeDiff, Nat.reduceAdd, Nat.reduceMul, Nat.reduceSub, Nat.reduceLT, c1, m1, m2]; repeat' (first | exact Ok.out | with_reducible refine And.intro ?_ ?_ | (simp; done)))
 | (cases h; replace h := hr; clear hr; (try simp only [bs, ↓reduceIte] at h))
 | (cases h; done))
  | false =>
  cases c2 : kind == 2 with
  | true =>
    have m1 : (5 : Nat) + name.length ≤ maxStr := by unfold maxStr; omega
    refine Fun.go has_print_plain rfl fun B Q hB hQ => ?_
    have hlt : 0 < 1 := Nat.zero_lt_one
    have hget : 0 < 1 := Nat.zero_lt_one
    have hpu : 0 < 1 := Nat.zero_lt_one
    have hinc : 0 < 1 := Nat.zero_lt_one
    repeat' (first
 | simp only [go_sem, hlt, hget, hpu, hinc, Int.reduceLE, ↓reduceIte, reduceCtorEq, Nat.reduceEqDiff, Nat.reduceLeDiff, Nat.reduceAdd, Nat.reduceMul, Nat.reduceSub, Nat.reduceLT, c1, c2, m1]
 | (with_reducible first | refine CB_ofT (by assumption) fun hc => ?_ | refine CB_ofF (by assumption) fun hc => ?_ | refine CB_split (fun hc => ?_) fun hc => ?_) <;> (try simp only [hc, bs, ↓reduceIte] at h) <;> (try simp only [hc])
 | ((with_reducible first | refine leafR hQ ?_ | refine leafN hQ ?_); (try cases h); simp only [resL, oneD, Option.some.injEq, exists_eq_left', go_sem, hlt, hget, hpu, hinc, Int.reduceLE, ↓reduceIte, reduceCtorEq, Nat.reduceEqDiff, Nat.reduceLeDiff, Nat.reduceAdd, Nat.reduceMul, Nat.reduceSub, Nat.reduceLT, c1, c2, m1]; repeat' (first | exact Ok.out | with_reducible refine And.intro ?_ ?_ | (simp; done)))
 | (cases h; replace h := hr; clear hr; (try simp only [bs, ↓reduceIte] at h))
 | (cases h; done))
  | false =>
  cases c3 : kind == 3 with
  | true =>
    have e1 := fun s => pexpr_s (k3 c3) hxn (least := 0) s
    simp only [encEx_eq] at e1
    have := prE_len (k3 c3) 0
    have m1 : (6 : Nat) + (prE 0 x).length ≤ maxStr := by unfold maxStr; omega
    refine Fun.go has_print_plain rfl fun B Q hB hQ => ?_
    have hlt : 0 < 1 := Nat.zero_lt_one
    have hget : 0 < 1 := Nat.zero_lt_one
    have hpu : 0 < 1 := Nat.zero_lt_one
    have hinc : 0 < 1 := Nat.zero_lt_one
    repeat' (first
 | simp only [go_sem, hlt, hget, hpu, hinc, Int.reduceLE, ↓reduceIte, reduceCtorEq, Nat.reduceEqDiff, Nat.reduceLeDiff, Nat.reduceAdd, Nat.reduceMul, Nat.reduceSub, Nat.reduceLT, c1, c2, c3, m1]
 | (with_reducible refine CU (e1 _) ?_)
 | (with_reducible first | refine CB_ofT (by assumption) fun hc => ?_ | refine CB_ofF (by assumption) fun hc => ?_ | refine CB_split (fun hc => ?_) fun hc => ?_) <;> (try simp only [hc, bs, ↓reduceIte] at h) <;> (try simp only [hc])
 | ((with_reducible first | refine leafR hQ ?_ | refine leafN hQ ?_); (try cases h); simp only [resL, oneD, Option.some.injEq, exists_eq_left', go_sem, hlt, hget, hpu, hinc, Int.reduceLE, ↓reduceIte, reduceCtorEq, Nat.reduceEqDiff, Nat.reduceLeDiff, Nat.reduceAdd, Nat.reduceMul, Nat.reduceSub, Nat.reduceLT, c1, c2, c3, m1]; repeat' (first | exact Ok.out | with_reducible refine And.intro ?_ ?_ | (simp; done)))
 | (cases h; replace h := hr; clear hr; (try simp only [bs, ↓reduceIte] at h))
 | (cases h; done))
  | false =>
  cases c7 : kind == 7 with
  | true =>
    refine Fun.go has_print_plain rfl fun B Q hB hQ => ?_
    have hlt : 0 < 1 := Nat.zero_lt_one
    have hget : 0 < 1 := Nat.zero_lt_one
    have hpu : 0 < 1 := Nat.zero_lt_one
    have hinc : 0 < 1 := Nat.zero_lt_one
    repeat' (first
 | simp only [go_sem, hlt, hget, hpu, hinc, Int.reduceLE, ↓reduceIte, reduceCtorEq, Nat.reduceEqDiff, Nat.reduceLeDiff, Nat.reduceAdd, Nat.reduceMul, Nat.reduceSub, Nat.reduceLT, c1, c2, c3, c7]
 | (with_reducible first | refine CB_ofT (by assumption) fun hc => ?_ | refine CB_ofF (by assumption) fun hc => ?_ | refine CB_split (fun hc => ?_) fun hc => ?_) <;> (try simp only [hc, bs, ↓reduceIte] at h) <;> (try simp only [hc])
 | ((with_reducible first | refine leafR hQ ?_ | refine leafN hQ ?_); (try cases h); simp only [resL, oneD, Option.some.injEq, exists_eq_left', go_sem, hlt, hget, hpu, hinc, Int.reduceLE, ↓reduceIte, reduceCtorEq, Nat.reduceEqDiff, Nat.reduceLeDiff, Nat.reduceAdd, Nat.reduceMul, Nat.reduceSub, Nat.reduceLT, c1, c2, c3, c7]; repeat' (first | exact Ok.out | with_reducible refine And.intro ?_ ?_ | (simp; done)))
 | (cases h; replace h := hr; clear hr; (try simp only [bs, ↓reduceIte] at h))
 | (cases h; done))
  | false =>
  cases c8 : kind == 8 with
  | true =>
    refine Fun.go has_print_plain rfl fun B Q hB hQ => ?_
    have hlt : 0 < 1 := Nat.zero_lt_one
    have hget : 0 < 1 := Nat.zero_lt_one
    have hpu : 0 < 1 := Nat.zero_lt_one
    have hinc : 0 < 1 := Nat.zero_lt_one
    repeat' (first
 | simp only [go_sem, hlt, hget, hpu, hinc, Int.reduceLE, ↓reduceIte, reduceCtorEq, Nat.reduceEqDiff, Nat.reduceLeDiff, Nat.reduceAdd, Nat.reduceMul, Nat.reduceSub, Nat.reduceLT, c1, c2, c3, c7, c8]
 | (with_reducible first | refine CB_ofT (by assumption) fun hc => ?_ | refine CB_ofF (by assumption) fun hc => ?_ | refine CB_split (fun hc => ?_) fun hc => ?_) <;> (try simp only [hc, bs, ↓reduceIte] at h) <;> (try simp only [hc])
 | ((with_reducible first | refine leafR hQ ?_ | refine leafN hQ ?_); (try cases h); simp only [resL, oneD, Option.some.injEq, exists_eq_left', go_sem, hlt, hget, hpu, hinc, Int.reduceLE, ↓reduceIte, reduceCtorEq, Nat.reduceEqDiff, Nat.reduceLeDiff, Nat.reduceAdd, Nat.reduceMul, Nat.reduceSub, Nat.reduceLT, c1, c2, c3, c7, c8]; repeat' (first | exact Ok.out | with_reducible refine And.intro ?_ ?_ | (simp; done)))
 | (cases h; replace h := hr; clear hr; (try simp only [bs, ↓reduceIte] at h))
 | (cases h; done))
  | false =>
  cases c10 : kind == 10 with
  | true =>
    have m1 : (5 : Nat) + name.length ≤ maxStr := by unfold maxStr; omega
    refine Fun.go has_print_plain rfl fun B Q hB hQ => ?_
    have hlt : 0 < 1 := Nat.zero_lt_one
    have hget : 0 < 1 := Nat.zero_lt_one
    have hpu : 0 < 1 := Nat.zero_lt_one
    have hinc : 0 < 1 := Nat.zero_lt_one
    repeat' (first
 | simp only [go_sem, hlt, hget, hpu, hinc, Int.reduceLE, ↓reduceIte, reduceCtorEq, Nat.reduceEqDiff, Nat.reduceLeDiff, Nat.reduceAdd, Nat.reduceMul, Nat.reduceSub, Nat.reduceLT, c1, c2, c3, c7, c8, c10, m1]
 | (with_reducible first | refine CB_ofT (by assumption) fun hc => ?_ | refine CB_ofF (by assumption) fun hc => ?_ | refine CB_split (fun hc => ?_) fun hc => ?_) <;> (try simp only [hc, bs, ↓reduceIte] at h) <;> (try simp only [hc])
 | ((with_reducible first | refine leafR hQ ?_ | refine leafN hQ ?_); (try cases h); simp only [resL, oneD, Option.some.injEq, exists_eq_left', go_sem, hlt, hget, hpu, hinc, Int.reduceLE, ↓reduceIte, reduceCtorEq, Nat.reduceEqDiff, Nat.reduceLeDiff, Nat.reduceAdd, Nat.reduceMul, Nat.reduceSub, Nat.reduceLT, c1, c2, c3, c7, c8, c10, m1]; repeat' (first | exact Ok.out | with_reducible refine And.intro ?_ ?_ | (simp; done)))
 | (cases h; replace h := hr; clear hr; (try simp only [bs, ↓reduceIte] at h))
 | (cases h; done))
  | false =>
  cases c9 : kind == 9 with
  | true =>
    cases hh : has with
    | true =>
      have e1 := fun s => pexpr_s (k9 c9 hh) hxn (least := 0) s
      simp only [encEx_eq] at e1
      have := prE_len (k9 c9 hh) 0
      have m1 : (7 : Nat) + (prE 0 x).length ≤ maxStr := by unfold maxStr; omega
      refine Fun.go has_print_plain rfl fun B Q hB hQ => ?_
      have hlt : 0 < 1 := Nat.zero_lt_one
      have hget : 0 < 1 := Nat.zero_lt_one
      have hpu : 0 < 1 := Nat.zero_lt_one
      have hinc : 0 < 1 := Nat.zero_lt_one
      repeat' (first
 | simp only [go_sem, hlt, hget, hpu, hinc, Int.reduceLE, ↓reduceIte, reduceCtorEq, Nat.reduceEqDiff, Nat.reduceLeDiff, Nat.reduceAdd, Nat.reduceMul, Nat.reduceSub, Nat.reduceLT, c1, c2, c3, c7, c8, c10, c9, m1]
 | (with_reducible refine CU (e1 _) ?_)
 | (with_reducible first | refine CB_ofT (by assumption) fun hc => ?_ | refine CB_ofF (by assumption) fun hc => ?_ | refine CB_split (fun hc => ?_) fun hc => ?_) <;> (try simp only [hc, bs, ↓reduceIte] at h) <;> (try simp only [hc])
 | ((with_reducible first | refine leafR hQ ?_ | refine leafN hQ ?_); (try cases h); simp only [resL, oneD, Option.some.injEq, exists_eq_left', go_sem, hlt, hget, hpu, hinc, Int.reduceLE, ↓reduceIte, reduceCtorEq, Nat.reduceEqDiff, Nat.reduceLeDiff, Nat.reduceAdd, Nat.reduceMul, Nat.reduceSub, Nat.reduceLT, c1, c2, c3, c7, c8, c10, c9, m1]; repeat' (first | exact Ok.out | with_reducible refine And.intro ?_ ?_ | (simp; done)))
 | (cases h; replace h := hr; clear hr; (try simp only [bs, ↓reduceIte] at h))
 | (cases h; done))
    | false =>
      refine Fun.go has_print_plain rfl fun B Q hB hQ => ?_
      have hlt : 0 < 1 := Nat.zero_lt_one
      have hget : 0 < 1 := Nat.zero_lt_one
      have hpu : 0 < 1 := Nat.zero_lt_one
      have hinc : 0 < 1 := Nat.zero_lt_one
      repeat' (first
 | simp only [go_sem, hlt, hget, hpu, hinc, Int.reduceLE, ↓reduceIte, reduceCtorEq, Nat.reduceEqDiff, Nat.reduceLeDiff, Nat.reduceAdd, Nat.reduceMul, Nat.reduceSub, Nat.reduceLT, c1, c2, c3, c7, c8, c10, c9]
 | (with_reducible first | refine CB_ofT (by assumption) fun hc => ?_ | refine CB_ofF (by assumption) fun hc => ?_ | refine CB_split (fun hc => ?_) fun hc => ?_) <;> (try simp only [hc, bs, ↓reduceIte] at h) <;> (try simp only [hc])
 | ((with_reducible first | refine leafR hQ ?_ | refine leafN hQ ?_); (try cases h); simp only [resL, oneD, Option.some.injEq, exists_eq_left', go_sem, hlt, hget, hpu, hinc, Int.reduceLE, ↓reduceIte, reduceCtorEq, Nat.reduceEqDiff, Nat.reduceLeDiff, Nat.reduceAdd, Nat.reduceMul, Nat.reduceSub, Nat.reduceLT, c1, c2, c3, c7, c8, c10, c9]; repeat' (first | exact Ok.out | with_reducible refine And.intro ?_ ?_ | (simp; done)))
 | (cases h; replace h := hr; clear hr; (try simp only [bs, ↓reduceIte] at h))
 | (cases h; done))
  | false =>
    have hjl : (args.map argS).length ≤ 140737488355328 := by simp; have := Ar.sizes_len args; omega
    have hjm : (Lib.join (args.map argS) [44, 32]).length ≤ 140737488355328 := by omega
    have ej := fun s => Join_s (l := args.map argS) (sep := [44, 32]) hjl hjm (.tok 0) s
    have asz := Ar.sizes_len args
    have m1 : proc.length + 1 ≤ maxStr := by unfold maxStr; omega
    have m2 : proc.length + 1 + (Lib.join (args.map argS) [44, 32]).length ≤ maxStr := by unfold maxStr; omega
    have m3 : proc.length + 1 + (Lib.join (args.map argS) [44, 32]).length + 1 ≤ maxStr := by unfold maxStr; omega
    have m4 : name.length + 1 + 1 + 1 ≤ maxStr := by unfold maxStr; omega
    have m5 : name.length + 1 + 1 + 1 + (proc.length + 1 + (Lib.join (args.map argS) [44, 32]).length + 1) ≤ maxStr := by unfold maxStr; omega
    refine Fun.go has_print_plain rfl fun B Q hB hQ => ?_
    have hlt : 0 < 1 := Nat.zero_lt_one
    have hget : 0 < 1 := Nat.zero_lt_one
    have hpu : 0 < 1 := Nat.zero_lt_one
    have hinc : 0 < 1 := Nat.zero_lt_one
    repeat' (first
 | simp only [go_sem, hlt, hget, hpu, hinc, Int.reduceLE, ↓reduceIte, reduceCtorEq, Nat.reduceEqDiff, Nat.reduceLeDiff, Nat.reduceAdd, Nat.reduceMul, Nat.reduceSub, Nat.reduceLT, c1, c2, c3, c7, c8, c10, c9]
 | (with_reducible first | refine CB_ofT (by assumption) fun hc => ?_ | refine CB_ofF (by assumption) fun hc => ?_ | refine CB_split (fun hc => ?_) fun hc => ?_) <;> (try simp only [hc, bs, ↓reduceIte] at h) <;> (try simp only [hc])
 | ((with_reducible first | refine leafR hQ ?_ | refine leafN hQ ?_); (try cases h); simp only [resL, oneD, Option.some.injEq, exists_eq_left', go_sem, hlt, hget, hpu, hinc, Int.reduceLE, ↓reduceIte, reduceCtorEq, Nat.reduceEqDiff, Nat.reduceLeDiff, Nat.reduceAdd, Nat.reduceMul, Nat.reduceSub, Nat.reduceLT, c1, c2, c3, c7, c8, c10, c9]; repeat' (first | exact Ok.out | with_reducible refine And.intro ?_ ?_ | (simp; done)))
 | (cases h; replace h := hr; clear hr; (try simp only [bs, ↓reduceIte] at h))
 | (cases h; done))
    refine SemL.tokT 3 1 rfl ?_
    simp only [go_sem, hlt, hget, hpu, hinc, Int.reduceLE, ↓reduceIte, reduceCtorEq, Nat.reduceEqDiff, Nat.reduceLeDiff, Nat.reduceAdd, Nat.reduceMul, Nat.reduceSub, Nat.reduceLT]
    refine SemL.re _ _ 1 1 (by rw [hB]; exact Nat.le_of_ble_eq_true rfl) (by rw [hB]; exact Nat.le_of_ble_eq_true rfl) ?_ ?_ (SemL.ind (ι := List Ar × Nat × List Str) (fun i => args.drop i.2.1 = i.1 ∧ i.2.2 ++ i.1.map argS = args.map argS ∧ i.2.2.length = i.2.1) (fun i => i.1.length)
      (fun i => [(1, .ptr 0 0), (3, .slice (.tok 0) 1 (i.2.2.map encStr)), (47, .slice .shared 6 (args.map encAr)), (48, .int .i64 (args.length : Int)), (49, .int .i64 (i.2.1 : Int))]) (fun i => ⟨[encSm ⟨id, kind, labels, name, proc, x, has, args, thn, els⟩], [some i.2.1]⟩) ?_ (args, 0, []) ⟨rfl, rfl, rfl⟩)
    · (simp only [go_sem, hlt, hget, hpu, hinc, Int.reduceLE, ↓reduceIte, reduceCtorEq, Nat.reduceEqDiff, Nat.reduceLeDiff, Nat.reduceAdd, Nat.reduceMul, Nat.reduceSub, Nat.reduceLT]; repeat' (first | exact Ok.out | with_reducible refine And.intro ?_ ?_))
    · (simp only [go_sem, hlt, hget, hpu, hinc, Int.reduceLE, ↓reduceIte, reduceCtorEq, Nat.reduceEqDiff, Nat.reduceLeDiff, Nat.reduceAdd, Nat.reduceMul, Nat.reduceSub, Nat.reduceLT]; repeat' (first | exact Ok.out | with_reducible refine And.intro ?_ ?_))
    rintro ⟨rest, k, acc⟩ ⟨h1, h2, h3⟩ IH
    dsimp only at h1 h2 h3
    cases rest with
    | nil =>
      have hlt := drop_nil h1
      simp only [List.map_nil, List.append_nil] at h2
      subst h2
      cases cn : name == [] with
      | true =>
        have ec : callS name proc args = proc ++ [40] ++ Lib.join (args.map argS) [44, 32] ++ [41] := by rw [callS, if_pos (by simpa using cn), List.nil_append]
        repeat' (first
 | simp only [go_sem, hlt, hget, hpu, hinc, Int.reduceLE, ↓reduceIte, reduceCtorEq, Nat.reduceEqDiff, Nat.reduceLeDiff, Nat.reduceAdd, Nat.reduceMul, Nat.reduceSub, Nat.reduceLT, m1, m2, m3, cn, ec]
 | (with_reducible refine CU (ej _) ?_)
 | (with_reducible first | refine CB_ofT (by assumption) fun hc => ?_ | refine CB_ofF (by assumption) fun hc => ?_ | refine CB_split (fun hc => ?_) fun hc => ?_) <;> (try simp only [hc, bs, ↓reduceIte] at h) <;> (try simp only [hc])
 | ((with_reducible first | refine leafR hQ ?_ | refine leafN hQ ?_); (try cases h); simp only [resL, oneD, Option.some.injEq, exists_eq_left', go_sem, hlt, hget, hpu, hinc, Int.reduceLE, ↓reduceIte, reduceCtorEq, Nat.reduceEqDiff, Nat.reduceLeDiff, Nat.reduceAdd, Nat.reduceMul, Nat.reduceSub, Nat.reduceLT, m1, m2, m3, cn, ec]; repeat' (first | exact Ok.out | with_reducible refine And.intro ?_ ?_ | (simp; done)))
 | (cases h; replace h := hr; clear hr; (try simp only [bs, ↓reduceIte] at h))
 | (cases h; done))
      | false =>
        have ec : callS name proc args = name ++ [32, 61, 32] ++ (proc ++ [40] ++ Lib.join (args.map argS) [44, 32] ++ [41]) := by rw [callS, if_neg (by simpa using cn)]
        repeat' (first
 | simp only [go_sem, hlt, hget, hpu, hinc, Int.reduceLE, ↓reduceIte, reduceCtorEq, Nat.reduceEqDiff, Nat.reduceLeDiff, Nat.reduceAdd, Nat.reduceMul, Nat.reduceSub, Nat.reduceLT, m1, m2, m3, m4, m5, cn, ec]
 | (with_reducible refine CU (ej _) ?_)
 | (with_reducible first | refine CB_ofT (by assumption) fun hc => ?_ | refine CB_ofF (by assumption) fun hc => ?_ | refine CB_split (fun hc => ?_) fun hc => ?_) <;> (try simp only [hc, bs, ↓reduceIte] at h) <;> (try simp only [hc])
 | ((with_reducible first | refine leafR hQ ?_ | refine leafN hQ ?_); (try cases h); simp only [resL, oneD, Option.some.injEq, exists_eq_left', go_sem, hlt, hget, hpu, hinc, Int.reduceLE, ↓reduceIte, reduceCtorEq, Nat.reduceEqDiff, Nat.reduceLeDiff, Nat.reduceAdd, Nat.reduceMul, Nat.reduceSub, Nat.reduceLT, m1, m2, m3, m4, m5, cn, ec]; repeat' (first | exact Ok.out | with_reducible refine And.intro ?_ ?_ | (simp; done)))
 | (cases h; replace h := hr; clear hr; (try simp only [bs, ↓reduceIte] at h))
 | (cases h; done))
    | cons a rest =>
      obtain ⟨hget, g2, hlt, g4⟩ := drop_cons h1
      have hmem := List.mem_of_getElem? hget
      obtain ⟨ha1, ha2⟩ := hargs a hmem
      have hsz := Ar.sizes_mem hmem
      have han := nodes_size a.x.size a.x (Nat.le_refl _)
      have hk : k < 4611686018427387904 := by omega
      have w1 : IntKind.wrap .i64 ((k : Int) + 1) = ((k + 1 : Nat) : Int) := by rw [wrap_ok] <;> omega
      have hpu : (k + 1) * 17 ≤ maxStr := by unfold maxStr; omega
      cases hr : a.ref with
      | true =>
        have m1 : (4 : Nat) + a.name.length ≤ maxStr := by unfold maxStr; omega
        have ea : argS a = [114, 101, 102, 32] ++ a.name := by simp only [argS, hr, ↓reduceIte]
        repeat' (first
 | simp only [go_sem, hlt, hget, hpu, hinc, Int.reduceLE, ↓reduceIte, reduceCtorEq, Nat.reduceEqDiff, Nat.reduceLeDiff, Nat.reduceAdd, Nat.reduceMul, Nat.reduceSub, Nat.reduceLT, hr, m1, w1, h3]
 | (with_reducible refine CU (pref_s _ _) ?_)
 | (with_reducible first | refine CB_ofT (by assumption) fun hc => ?_ | refine CB_ofF (by assumption) fun hc => ?_ | refine CB_split (fun hc => ?_) fun hc => ?_) <;> (try simp only [hc, bs, ↓reduceIte] at h) <;> (try simp only [hc])
 | ((with_reducible first | refine leafR hQ ?_ | refine leafN hQ ?_); (try cases h); simp only [resL, oneD, Option.some.injEq, exists_eq_left', go_sem, hlt, hget, hpu, hinc, Int.reduceLE, ↓reduceIte, reduceCtorEq, Nat.reduceEqDiff, Nat.reduceLeDiff, Nat.reduceAdd, Nat.reduceMul, Nat.reduceSub, Nat.reduceLT, hr, m1, w1, h3]; repeat' (first | exact Ok.out | with_reducible refine And.intro ?_ ?_ | (simp; done)))
 | (cases h; replace h := hr; clear hr; (try simp only [bs, ↓reduceIte] at h))
 | (cases h; done))
        refine SemL.re _ _ 1 1 (by rw [hB]; exact Nat.le_of_ble_eq_true rfl) (by rw [hB]; exact Nat.le_of_ble_eq_true rfl) ?_ ?_ (IH (rest, k + 1, acc ++ [argS a]) ⟨g2, by rw [← h2]; simp, by simp [h3]⟩ (by simp))
        · (simp only [go_sem, hlt, hget, hpu, hinc, Int.reduceLE, ↓reduceIte, reduceCtorEq, Nat.reduceEqDiff, Nat.reduceLeDiff, Nat.reduceAdd, Nat.reduceMul, Nat.reduceSub, Nat.reduceLT, ea, List.cons_append, List.nil_append]; repeat' (first | exact Ok.out | with_reducible refine And.intro ?_ ?_))
        · (simp only [go_sem, hlt, hget, hpu, hinc, Int.reduceLE, ↓reduceIte, reduceCtorEq, Nat.reduceEqDiff, Nat.reduceLeDiff, Nat.reduceAdd, Nat.reduceMul, Nat.reduceSub, Nat.reduceLT, ea, List.cons_append, List.nil_append]; repeat' (first | exact Ok.out | with_reducible refine And.intro ?_ ?_))
      | false =>
        have e1 := fun s => pexpr_s (ha2 hr) (by omega) (least := 0) s
        have ea : argS a = prE 0 a.x := by simp only [argS, hr, Bool.false_eq_true, ↓reduceIte]
        repeat' (first
 | simp only [go_sem, hlt, hget, hpu, hinc, Int.reduceLE, ↓reduceIte, reduceCtorEq, Nat.reduceEqDiff, Nat.reduceLeDiff, Nat.reduceAdd, Nat.reduceMul, Nat.reduceSub, Nat.reduceLT, hr, w1, h3]
 | (with_reducible refine CU (e1 _) ?_)
 | (with_reducible first | refine CB_ofT (by assumption) fun hc => ?_ | refine CB_ofF (by assumption) fun hc => ?_ | refine CB_split (fun hc => ?_) fun hc => ?_) <;> (try simp only [hc, bs, ↓reduceIte] at h) <;> (try simp only [hc])
 | ((with_reducible first | refine leafR hQ ?_ | refine leafN hQ ?_); (try cases h); simp only [resL, oneD, Option.some.injEq, exists_eq_left', go_sem, hlt, hget, hpu, hinc, Int.reduceLE, ↓reduceIte, reduceCtorEq, Nat.reduceEqDiff, Nat.reduceLeDiff, Nat.reduceAdd, Nat.reduceMul, Nat.reduceSub, Nat.reduceLT, hr, w1, h3]; repeat' (first | exact Ok.out | with_reducible refine And.intro ?_ ?_ | (simp; done)))
 | (cases h; replace h := hr; clear hr; (try simp only [bs, ↓reduceIte] at h))
 | (cases h; done))
        refine SemL.re _ _ 1 1 (by rw [hB]; exact Nat.le_of_ble_eq_true rfl) (by rw [hB]; exact Nat.le_of_ble_eq_true rfl) ?_ ?_ (IH (rest, k + 1, acc ++ [argS a]) ⟨g2, by rw [← h2]; simp, by simp [h3]⟩ (by simp))
        · (simp only [go_sem, hlt, hget, hpu, hinc, Int.reduceLE, ↓reduceIte, reduceCtorEq, Nat.reduceEqDiff, Nat.reduceLeDiff, Nat.reduceAdd, Nat.reduceMul, Nat.reduceSub, Nat.reduceLT, ea, List.cons_append, List.nil_append]; repeat' (first | exact Ok.out | with_reducible refine And.intro ?_ ?_))
        · (simp only [go_sem, hlt, hget, hpu, hinc, Int.reduceLE, ↓reduceIte, reduceCtorEq, Nat.reduceEqDiff, Nat.reduceLeDiff, Nat.reduceAdd, Nat.reduceMul, Nat.reduceSub, Nat.reduceLT, ea, List.cons_append, List.nil_append]; repeat' (first | exact Ok.out | with_reducible refine And.intro ?_ ?_))

end Go.Abs

/-! Pr3 -/

namespace Go.Abs

set_option maxRecDepth 8000
set_option linter.unusedSimpArgs false
set_option linter.unusedVariables false
open Go.Proofs

mutual
/-- A statement's lines. -/
def rowS (inn : Nat) : Sm → Str
  | ⟨id, kind, labels, name, proc, x, has, args, thn, els⟩ =>
    if kind = 6 then lineS inn (marksS labels ++ [119, 104, 105, 108, 101, 32, 40] ++ prE 0 x ++ [41, 32, 123]) ++ rowsS (inn + 1) thn ++ lineS inn [125]
    else if kind = 5 then lineS inn (marksS labels ++ [105, 102, 32, 40] ++ prE 0 x ++ [41, 32, 123]) ++ rowsS (inn + 1) thn ++ (if els.length = 0 then [] else lineS inn [125, 32, 101, 108, 115, 101, 32, 123] ++ rowsS (inn + 1) els) ++ lineS inn [125]
    else lineS inn (marksS labels ++ plainS kind name proc x has args ++ [59])
def rowsS (inn : Nat) : List Sm → Str
  | [] => []
  | s :: l => rowS inn s ++ rowsS inn l
end
theorem rowS_eq (inn : Nat) (s : Sm) : rowS inn s = if s.kind = 6 then lineS inn (marksS s.labels ++ [119, 104, 105, 108, 101, 32, 40] ++ prE 0 s.x ++ [41, 32, 123]) ++ rowsS (inn + 1) s.thn ++ lineS inn [125]
    else if s.kind = 5 then lineS inn (marksS s.labels ++ [105, 102, 32, 40] ++ prE 0 s.x ++ [41, 32, 123]) ++ rowsS (inn + 1) s.thn ++ (if s.els.length = 0 then [] else lineS inn [125, 32, 101, 108, 115, 101, 32, 123] ++ rowsS (inn + 1) s.els) ++ lineS inn [125]
    else lineS inn (marksS s.labels ++ plainS s.kind s.name s.proc s.x s.has s.args ++ [59]) := by
  cases s; simp only [rowS]

mutual
/-- It can be written, so far in. -/
def Sm.PrR (inn : Nat) : Sm → Prop
  | ⟨id, kind, labels, name, proc, x, has, args, thn, els⟩ => Sm.PrO ⟨id, kind, labels, name, proc, x, has, args, thn, els⟩ ∧ inn ≤ 12 ∧ Sm.PrRs (inn + 1) thn ∧ Sm.PrRs (inn + 1) els
def Sm.PrRs (inn : Nat) : List Sm → Prop
  | [] => True
  | s :: l => s.PrR inn ∧ Sm.PrRs inn l
end
theorem PrR_eq (inn : Nat) (s : Sm) : s.PrR inn ↔ s.PrO ∧ inn ≤ 12 ∧ Sm.PrRs (inn + 1) s.thn ∧ Sm.PrRs (inn + 1) s.els := by cases s; simp only [Sm.PrR]
theorem PrRs_mem {inn : Nat} {s : Sm} : ∀ {l : List Sm}, Sm.PrRs inn l → s ∈ l → s.PrR inn
  | y :: l, h, m => by
    simp only [Sm.PrRs] at h
    rcases List.mem_cons.1 m with rfl | m
    · exact h.1
    · exact PrRs_mem h.2 m

theorem plainS_len {s : Sm} (h : s.PrO) : (plainS s.kind s.name s.proc s.x s.has s.args).length ≤ 25 * s.x.size + 27 * Ar.sizes s.args + 30 := by
  obtain ⟨hx, _, hname, hproc, hargs, _, _⟩ := h
  have hal := args_len hargs
  have hns := nodes_size s.x.size s.x (Nat.le_refl _)
  unfold plainS
  split
  · rename_i k
    have := prE_len (hx (by simp [Sm.hasX, k])) 0
    simp only [List.length_append, List.length_cons, List.length_nil]; omega
  split
  · simp only [List.length_append, List.length_cons, List.length_nil]; omega
  split
  · rename_i k
    have := prE_len (hx (by simp [Sm.hasX, k])) 0
    simp only [List.length_append, List.length_cons, List.length_nil]; omega
  split
  · simp only [List.length_append, List.length_cons, List.length_nil]; omega
  split
  · simp only [List.length_append, List.length_cons, List.length_nil]; omega
  split
  · simp only [List.length_append, List.length_cons, List.length_nil]; omega
  split
  · rename_i k
    split
    · rename_i kh
      have := prE_len (hx (by simp [Sm.hasX, k, kh])) 0
      simp only [List.length_append, List.length_cons, List.length_nil]; omega
    · simp only [List.length_append, List.length_cons, List.length_nil]; omega
  · unfold callS
    split <;> simp only [List.length_append, List.length_cons, List.length_nil] <;> omega

mutual
theorem rowS_len : ∀ {inn : Nat} (s : Sm), s.PrR inn → (rowS inn s).length ≤ 200 * s.size
  | inn, ⟨id, kind, labels, name, proc, x, has, args, thn, els⟩, h => by
    obtain ⟨ho, hi, ht, he⟩ := (PrR_eq _ _).1 h
    have h1 := rowsS_len thn ht
    have h2 := rowsS_len els he
    have h3 := marksS_len ho.lab
    have h4 := plainS_len ho
    have h6 := nodes_size x.size x (Nat.le_refl _)
    dsimp only at h3 h4
    simp only [rowS, Sm.size]
    split
    · rename_i k
      have h5 := prE_len (ho.x (by simp [Sm.hasX, k])) 0
      dsimp only at h5
      simp only [List.length_append, List.length_cons, List.length_nil, lineS_len]; omega
    split
    · rename_i k
      have h5 := prE_len (ho.x (by simp [Sm.hasX, k])) 0
      dsimp only at h5
      split <;> simp only [List.length_append, List.length_cons, List.length_nil, lineS_len] <;> omega
    · simp only [List.length_append, List.length_cons, List.length_nil, lineS_len]; omega
theorem rowsS_len : ∀ {inn : Nat} (l : List Sm), Sm.PrRs inn l → (rowsS inn l).length ≤ 200 * Sm.sizes l
  | _, [], _ => by simp [rowsS, Sm.sizes]
  | inn, s :: l, h => by
    simp only [Sm.PrRs] at h
    have h1 := rowS_len s h.1
    have h2 := rowsS_len l h.2
    simp only [rowsS, Sm.sizes, List.length_append]; omega
end

/-! ### The walk -/

def slen (l : Str) : Nat := l.length
theorem Fun.bldz {P : Program} {f : Nat} {args : List D} {l l' : Str} {d : D} (h : Fun P f (.ptr 0 0 :: args) ⟨[bobj 0 0 l], [some (slen l)]⟩ d ⟨[bobj 0 0 l'], [some (slen l')]⟩) (ha : D.oks 0 0 args = true) (hd : D.ok 0 0 d = true)
    {s : St} {o t : Nat} (ho : s.objs[o]? = some (bobj o t l)) (ht : s.toks[t]? = some (some (slen l))) : Fun P f (.ptr o 0 :: args) s d ⟨s.objs.set o (bobj o t l'), s.toks.set t (some (slen l'))⟩ := Fun.bld h ha hd ho ht
theorem line_z {l : Str} (n : Nat) (m : Str) (h : l.length + n + m.length + 1 ≤ 549755813888) {s : St} {o t : Nat} (ho : s.objs[o]? = some (bobj o t l)) (ht : s.toks[t]? = some (some (slen l))) :
    Fun Tryd.prog n_print_writer_line [.ptr o 0, .int .i64 n, .str m] s (.tuple []) ⟨s.objs.set o (bobj o t (l ++ lineS n m)), s.toks.set t (some (slen (l ++ lineS n m)))⟩ := (line_0 m n l h).bld rfl rfl ho ht

theorem prows_n : ∀ (m : Nat) (l : List Sm), Sm.sizes l ≤ m → Sm.sizes l ≤ 1000000 → ∀ (inn : Nat), Sm.PrRs inn l → ∀ acc : Str, acc.length + 200 * Sm.sizes l ≤ 540000000000 →
    Fun Tryd.prog n_print_writer_rows [.ptr 0 0, .slice .shared 13 (l.map encSm), .int .i64 inn] ⟨[bobj 0 0 acc], [some (slen acc)]⟩ (.tuple []) ⟨[bobj 0 0 (acc ++ rowsS inn l)], [some (slen (acc ++ rowsS inn l))]⟩ := by
  intro m
  induction m with
  | zero =>
    intro l h hs inn hp acc hb
    cases l with
    | nil =>
      have z : decide ((0 : Int) < 0) = false := rfl
      simp only [rowsS, List.append_nil]
      refine Fun.go has_print_writer_rows rfl fun B Q hB hQ => ?_
      have hlt : 0 < 1 := Nat.zero_lt_one
      have hget : 0 < 1 := Nat.zero_lt_one
      have hpu : 0 < 1 := Nat.zero_lt_one
      have hinc : 0 < 1 := Nat.zero_lt_one
      repeat' (first
 | simp only [go_sem, hlt, hget, hpu, hinc, Int.reduceLE, ↓reduceIte, reduceCtorEq, Nat.reduceEqDiff, Nat.reduceLeDiff, Nat.reduceAdd, Nat.reduceMul, Nat.reduceSub, Nat.reduceLT, z]
 | (with_reducible refine SemL.onceW ?_)
 | (with_reducible first | refine CB_ofT (by assumption) fun hc => ?_ | refine CB_ofF (by assumption) fun hc => ?_ | refine CB_split (fun hc => ?_) fun hc => ?_) <;> (try simp only [hc, bs, ↓reduceIte] at h) <;> (try simp only [hc])
 | ((with_reducible first | refine leafR hQ ?_ | refine leafN hQ ?_); (try cases h); simp only [resL, oneD, Option.some.injEq, exists_eq_left', go_sem, hlt, hget, hpu, hinc, Int.reduceLE, ↓reduceIte, reduceCtorEq, Nat.reduceEqDiff, Nat.reduceLeDiff, Nat.reduceAdd, Nat.reduceMul, Nat.reduceSub, Nat.reduceLT, z]; repeat' (first | exact Ok.out | with_reducible refine And.intro ?_ ?_ | (simp; done)))
 | (cases h; replace h := hr; clear hr; (try simp only [bs, ↓reduceIte] at h))
 | (cases h; done))
    | cons s l => simp only [Sm.sizes] at h; omega
  | succ m ih =>
    intro l h hs inn hp acc0 hb
    generalize hR : acc0 ++ rowsS inn l = R
    have hlen := Sm.sizes_len l
    refine Fun.go has_print_writer_rows rfl fun B Q hB hQ => ?_
    have hlt : 0 < 1 := Nat.zero_lt_one
    have hget : 0 < 1 := Nat.zero_lt_one
    have hpu : 0 < 1 := Nat.zero_lt_one
    have hinc : 0 < 1 := Nat.zero_lt_one
    repeat' (first
 | simp only [go_sem, hlt, hget, hpu, hinc, Int.reduceLE, ↓reduceIte, reduceCtorEq, Nat.reduceEqDiff, Nat.reduceLeDiff, Nat.reduceAdd, Nat.reduceMul, Nat.reduceSub, Nat.reduceLT]
 | (with_reducible first | refine CB_ofT (by assumption) fun hc => ?_ | refine CB_ofF (by assumption) fun hc => ?_ | refine CB_split (fun hc => ?_) fun hc => ?_) <;> (try simp only [hc, bs, ↓reduceIte] at h) <;> (try simp only [hc])
 | ((with_reducible first | refine leafR hQ ?_ | refine leafN hQ ?_); (try cases h); simp only [resL, oneD, Option.some.injEq, exists_eq_left', go_sem, hlt, hget, hpu, hinc, Int.reduceLE, ↓reduceIte, reduceCtorEq, Nat.reduceEqDiff, Nat.reduceLeDiff, Nat.reduceAdd, Nat.reduceMul, Nat.reduceSub, Nat.reduceLT]; repeat' (first | exact Ok.out | with_reducible refine And.intro ?_ ?_ | (simp; done)))
 | (cases h; replace h := hr; clear hr; (try simp only [bs, ↓reduceIte] at h))
 | (cases h; done))
    refine SemL.re _ _ 1 1 (by rw [hB]; exact Nat.le_of_ble_eq_true rfl) (by rw [hB]; exact Nat.le_of_ble_eq_true rfl) ?_ ?_ (SemL.ind (ι := List Sm × Nat × Str) (fun i => l.drop i.2.1 = i.1 ∧ i.2.2 ++ rowsS inn i.1 = R ∧ i.2.2.length + 200 * Sm.sizes i.1 ≤ 540000000000) (fun i => i.1.length)
      (fun i => [(0, .ptr 0 0), (2, .int .i64 (inn : Int)), (9, .slice .shared 13 (l.map encSm)), (10, .int .i64 (l.length : Int)), (11, .int .i64 (i.2.1 : Int))]) (fun i => ⟨[bobj 0 0 i.2.2], [some (slen i.2.2)]⟩) ?_ (l, 0, acc0) ⟨rfl, hR, hb⟩)
    · (simp only [go_sem, hlt, hget, hpu, hinc, Int.reduceLE, ↓reduceIte, reduceCtorEq, Nat.reduceEqDiff, Nat.reduceLeDiff, Nat.reduceAdd, Nat.reduceMul, Nat.reduceSub, Nat.reduceLT]; repeat' (first | exact Ok.out | with_reducible refine And.intro ?_ ?_))
    · (simp only [go_sem, hlt, hget, hpu, hinc, Int.reduceLE, ↓reduceIte, reduceCtorEq, Nat.reduceEqDiff, Nat.reduceLeDiff, Nat.reduceAdd, Nat.reduceMul, Nat.reduceSub, Nat.reduceLT]; repeat' (first | exact Ok.out | with_reducible refine And.intro ?_ ?_))
    rintro ⟨rest, k, acc⟩ ⟨h1, h2, h3⟩ IH
    dsimp only at h1 h2 h3
    cases rest with
    | nil =>
      have hlt := drop_nil h1
      simp only [rowsS, List.append_nil] at h2
      repeat' (first
 | simp only [go_sem, hlt, hget, hpu, hinc, Int.reduceLE, ↓reduceIte, reduceCtorEq, Nat.reduceEqDiff, Nat.reduceLeDiff, Nat.reduceAdd, Nat.reduceMul, Nat.reduceSub, Nat.reduceLT, h2]
 | (with_reducible first | refine CB_ofT (by assumption) fun hc => ?_ | refine CB_ofF (by assumption) fun hc => ?_ | refine CB_split (fun hc => ?_) fun hc => ?_) <;> (try simp only [hc, bs, ↓reduceIte] at h) <;> (try simp only [hc])
 | ((with_reducible first | refine leafR hQ ?_ | refine leafN hQ ?_); (try cases h); simp only [resL, oneD, Option.some.injEq, exists_eq_left', go_sem, hlt, hget, hpu, hinc, Int.reduceLE, ↓reduceIte, reduceCtorEq, Nat.reduceEqDiff, Nat.reduceLeDiff, Nat.reduceAdd, Nat.reduceMul, Nat.reduceSub, Nat.reduceLT, h2]; repeat' (first | exact Ok.out | with_reducible refine And.intro ?_ ?_ | (simp; done)))
 | (cases h; replace h := hr; clear hr; (try simp only [bs, ↓reduceIte] at h))
 | (cases h; done))
    | cons s rest =>
      obtain ⟨hget, g2, hlt, g4⟩ := drop_cons h1
      have hmem := List.mem_of_getElem? hget
      have hsz := Sm.sizes_mem hmem
      have hPR := PrRs_mem hp hmem
      obtain ⟨ho, hin, hpt, hpe⟩ := (PrR_eq _ _).1 hPR
      have hk : k < 4611686018427387904 := by omega
      have hsz2 : s.labels.length + s.x.size + Ar.sizes s.args + Sm.sizes s.thn + Sm.sizes s.els + 1 ≤ s.size := by cases s; simp only [Sm.size]; omega
      have w1 : IntKind.wrap .i64 ((k : Int) + 1) = ((k + 1 : Nat) : Int) := by rw [wrap_ok] <;> omega
      have w2 : IntKind.wrap .i64 ((inn : Int) + 1) = ((inn + 1 : Nat) : Int) := by rw [wrap_ok] <;> omega
      simp only [Sm.sizes] at h3
      have lm := marksS_len ho.lab
      have lp := plainS_len ho
      have lt := rowsS_len s.thn hpt
      have le := rowsS_len s.els hpe
      have ln := nodes_size s.x.size s.x (Nat.le_refl _)
      have em := fun st => pmarks_s (by omega) ho.lab st
      have hrow := rowS_eq inn s
      have lr := rowS_len s hPR
      simp only [rowsS] at h2
      cases c6 : s.kind == 6 with
      | true =>
        have hx : FormI s.x := ho.x (by simp [Sm.hasX, c6])
        have lx := prE_len hx 0
        have ee := fun st => pexpr_s hx (by omega) (least := 0) st
        have b1 : (marksS s.labels).length + 1 + 1 + 1 + 1 + 1 + 1 + 1 ≤ maxStr := by unfold maxStr; omega
        have b2 : (marksS s.labels).length + 1 + 1 + 1 + 1 + 1 + 1 + 1 + (prE 0 s.x).length ≤ maxStr := by unfold maxStr; omega
        have b3 : (marksS s.labels).length + 1 + 1 + 1 + 1 + 1 + 1 + 1 + (prE 0 s.x).length + 1 + 1 + 1 ≤ maxStr := by unfold maxStr; omega
        have e1 := fun st a b => line_z (l := acc) inn (marksS s.labels ++ [119, 104, 105, 108, 101, 32, 40] ++ prE 0 s.x ++ [41, 32, 123]) (by simp only [List.length_append, List.length_cons, List.length_nil]; omega) (s := st) (o := 0) (t := 0) a b
        have e2 := fun st a b => (ih s.thn (by omega) (by omega) (inn + 1) hpt (acc ++ lineS inn (marksS s.labels ++ [119, 104, 105, 108, 101, 32, 40] ++ prE 0 s.x ++ [41, 32, 123])) (by simp only [List.length_append, List.length_cons, List.length_nil, lineS_len]; omega)).bldz (by simp [D.oks, D.ok, okrSm, Tag.ok]) rfl (s := st) (o := 0) (t := 0) a b
        have e3 := fun st a b => line_z (l := acc ++ lineS inn (marksS s.labels ++ [119, 104, 105, 108, 101, 32, 40] ++ prE 0 s.x ++ [41, 32, 123]) ++ rowsS (inn + 1) s.thn) inn [125] (by simp only [List.length_append, List.length_cons, List.length_nil, lineS_len]; omega) (s := st) (o := 0) (t := 0) a b
        rw [if_pos (by simpa using c6)] at hrow
        repeat' (first
 | simp only [go_sem, hlt, hget, hpu, hinc, Int.reduceLE, ↓reduceIte, reduceCtorEq, Nat.reduceEqDiff, Nat.reduceLeDiff, Nat.reduceAdd, Nat.reduceMul, Nat.reduceSub, Nat.reduceLT, c6, b1, b2, b3, w1, w2]
 | (with_reducible refine CU (em _) ?_)
 | (with_reducible refine CU (ee _) ?_)
 | (with_reducible refine CU (e1 _ (by with_unfolding_all rfl) (by with_unfolding_all rfl)) ?_)
 | (with_reducible refine CU (e2 _ (by with_unfolding_all rfl) (by with_unfolding_all rfl)) ?_)
 | (with_reducible refine CU (e3 _ (by with_unfolding_all rfl) (by with_unfolding_all rfl)) ?_)
 | (with_reducible first | refine CB_ofT (by assumption) fun hc => ?_ | refine CB_ofF (by assumption) fun hc => ?_ | refine CB_split (fun hc => ?_) fun hc => ?_) <;> (try simp only [hc, bs, ↓reduceIte] at h) <;> (try simp only [hc])
 | ((with_reducible first | refine leafR hQ ?_ | refine leafN hQ ?_); (try cases h); simp only [resL, oneD, Option.some.injEq, exists_eq_left', go_sem, hlt, hget, hpu, hinc, Int.reduceLE, ↓reduceIte, reduceCtorEq, Nat.reduceEqDiff, Nat.reduceLeDiff, Nat.reduceAdd, Nat.reduceMul, Nat.reduceSub, Nat.reduceLT, c6, b1, b2, b3, w1, w2]; repeat' (first | exact Ok.out | with_reducible refine And.intro ?_ ?_ | (simp; done)))
 | (cases h; replace h := hr; clear hr; (try simp only [bs, ↓reduceIte] at h))
 | (cases h; done))
        refine SemL.re _ _ 1 1 (by rw [hB]; exact Nat.le_of_ble_eq_true rfl) (by rw [hB]; exact Nat.le_of_ble_eq_true rfl) ?_ ?_ (IH (rest, k + 1, acc ++ lineS inn (marksS s.labels ++ [119, 104, 105, 108, 101, 32, 40] ++ prE 0 s.x ++ [41, 32, 123]) ++ rowsS (inn + 1) s.thn ++ lineS inn [125]) ⟨g2, by rw [← h2, hrow]; simp only [List.append_assoc], by rw [hrow] at lr; simp only [List.length_append] at lr ⊢; omega⟩ (by simp))
        · (simp only [go_sem, hlt, hget, hpu, hinc, Int.reduceLE, ↓reduceIte, reduceCtorEq, Nat.reduceEqDiff, Nat.reduceLeDiff, Nat.reduceAdd, Nat.reduceMul, Nat.reduceSub, Nat.reduceLT]; repeat' (first | exact Ok.out | with_reducible refine And.intro ?_ ?_))
        · (simp only [go_sem, hlt, hget, hpu, hinc, Int.reduceLE, ↓reduceIte, reduceCtorEq, Nat.reduceEqDiff, Nat.reduceLeDiff, Nat.reduceAdd, Nat.reduceMul, Nat.reduceSub, Nat.reduceLT]; repeat' (first | exact Ok.out | with_reducible refine And.intro ?_ ?_))
      | false =>
      cases c5 : s.kind == 5 with
      | true =>
        have hx : FormI s.x := ho.x (by simp [Sm.hasX, c5])
        have lx := prE_len hx 0
        have ee := fun st => pexpr_s hx (by omega) (least := 0) st
        have b1 : (marksS s.labels).length + 1 + 1 + 1 + 1 ≤ maxStr := by unfold maxStr; omega
        have b2 : (marksS s.labels).length + 1 + 1 + 1 + 1 + (prE 0 s.x).length ≤ maxStr := by unfold maxStr; omega
        have b3 : (marksS s.labels).length + 1 + 1 + 1 + 1 + (prE 0 s.x).length + 1 + 1 + 1 ≤ maxStr := by unfold maxStr; omega
        have e1 := fun st a b => line_z (l := acc) inn (marksS s.labels ++ [105, 102, 32, 40] ++ prE 0 s.x ++ [41, 32, 123]) (by simp only [List.length_append, List.length_cons, List.length_nil]; omega) (s := st) (o := 0) (t := 0) a b
        have e2 := fun st a b => (ih s.thn (by omega) (by omega) (inn + 1) hpt (acc ++ lineS inn (marksS s.labels ++ [105, 102, 32, 40] ++ prE 0 s.x ++ [41, 32, 123])) (by simp only [List.length_append, List.length_cons, List.length_nil, lineS_len]; omega)).bldz (by simp [D.oks, D.ok, okrSm, Tag.ok]) rfl (s := st) (o := 0) (t := 0) a b
        rw [if_neg (by simpa using c6), if_pos (by simpa using c5)] at hrow
        cases ce : decide ((s.els.length : Int) > 0) with
        | true =>
          have ce' : s.els.length ≠ 0 := by have := of_decide_eq_true ce; omega
          rw [if_neg ce'] at hrow
          have e3 := fun st a b => line_z (l := acc ++ lineS inn (marksS s.labels ++ [105, 102, 32, 40] ++ prE 0 s.x ++ [41, 32, 123]) ++ rowsS (inn + 1) s.thn) inn [125, 32, 101, 108, 115, 101, 32, 123] (by simp only [List.length_append, List.length_cons, List.length_nil, lineS_len]; omega) (s := st) (o := 0) (t := 0) a b
          have e4 := fun st a b => (ih s.els (by omega) (by omega) (inn + 1) hpe (acc ++ lineS inn (marksS s.labels ++ [105, 102, 32, 40] ++ prE 0 s.x ++ [41, 32, 123]) ++ rowsS (inn + 1) s.thn ++ lineS inn [125, 32, 101, 108, 115, 101, 32, 123]) (by simp only [List.length_append, List.length_cons, List.length_nil, lineS_len]; omega)).bldz (by simp [D.oks, D.ok, okrSm, Tag.ok]) rfl (s := st) (o := 0) (t := 0) a b
          have e5 := fun st a b => line_z (l := acc ++ lineS inn (marksS s.labels ++ [105, 102, 32, 40] ++ prE 0 s.x ++ [41, 32, 123]) ++ rowsS (inn + 1) s.thn ++ lineS inn [125, 32, 101, 108, 115, 101, 32, 123] ++ rowsS (inn + 1) s.els) inn [125] (by simp only [List.length_append, List.length_cons, List.length_nil, lineS_len]; omega) (s := st) (o := 0) (t := 0) a b
          repeat' (first
 | simp only [go_sem, hlt, hget, hpu, hinc, Int.reduceLE, ↓reduceIte, reduceCtorEq, Nat.reduceEqDiff, Nat.reduceLeDiff, Nat.reduceAdd, Nat.reduceMul, Nat.reduceSub, Nat.reduceLT, c6, c5, ce, b1, b2, b3, w1, w2]
 | (with_reducible refine CU (em _) ?_)
 | (with_reducible refine CU (ee _) ?_)
 | (with_reducible refine CU (e1 _ (by with_unfolding_all rfl) (by with_unfolding_all rfl)) ?_)
 | (with_reducible refine CU (e2 _ (by with_unfolding_all rfl) (by with_unfolding_all rfl)) ?_)
 | (with_reducible refine CU (e3 _ (by with_unfolding_all rfl) (by with_unfolding_all rfl)) ?_)
 | (with_reducible refine CU (e4 _ (by with_unfolding_all rfl) (by with_unfolding_all rfl)) ?_)
 | (with_reducible refine CU (e5 _ (by with_unfolding_all rfl) (by with_unfolding_all rfl)) ?_)
 | (with_reducible first | refine CB_ofT (by assumption) fun hc => ?_ | refine CB_ofF (by assumption) fun hc => ?_ | refine CB_split (fun hc => ?_) fun hc => ?_) <;> (try simp only [hc, bs, ↓reduceIte] at h) <;> (try simp only [hc])
 | ((with_reducible first | refine leafR hQ ?_ | refine leafN hQ ?_); (try cases h); simp only [resL, oneD, Option.some.injEq, exists_eq_left', go_sem, hlt, hget, hpu, hinc, Int.reduceLE, ↓reduceIte, reduceCtorEq, Nat.reduceEqDiff, Nat.reduceLeDiff, Nat.reduceAdd, Nat.reduceMul, Nat.reduceSub, Nat.reduceLT, c6, c5, ce, b1, b2, b3, w1, w2]; repeat' (first | exact Ok.out | with_reducible refine And.intro ?_ ?_ | (simp; done)))
 | (cases h; replace h := hr; clear hr; (try simp only [bs, ↓reduceIte] at h))
 | (cases h; done))
          refine SemL.re _ _ 1 1 (by rw [hB]; exact Nat.le_of_ble_eq_true rfl) (by rw [hB]; exact Nat.le_of_ble_eq_true rfl) ?_ ?_ (IH (rest, k + 1, acc ++ lineS inn (marksS s.labels ++ [105, 102, 32, 40] ++ prE 0 s.x ++ [41, 32, 123]) ++ rowsS (inn + 1) s.thn ++ lineS inn [125, 32, 101, 108, 115, 101, 32, 123] ++ rowsS (inn + 1) s.els ++ lineS inn [125]) ⟨g2, by rw [← h2, hrow]; simp only [List.append_assoc], by rw [hrow] at lr; simp only [List.length_append] at lr ⊢; omega⟩ (by simp))
          · (simp only [go_sem, hlt, hget, hpu, hinc, Int.reduceLE, ↓reduceIte, reduceCtorEq, Nat.reduceEqDiff, Nat.reduceLeDiff, Nat.reduceAdd, Nat.reduceMul, Nat.reduceSub, Nat.reduceLT]; repeat' (first | exact Ok.out | with_reducible refine And.intro ?_ ?_))
          · (simp only [go_sem, hlt, hget, hpu, hinc, Int.reduceLE, ↓reduceIte, reduceCtorEq, Nat.reduceEqDiff, Nat.reduceLeDiff, Nat.reduceAdd, Nat.reduceMul, Nat.reduceSub, Nat.reduceLT]; repeat' (first | exact Ok.out | with_reducible refine And.intro ?_ ?_))
        | false =>
          have ce' : s.els.length = 0 := by have := of_decide_eq_false ce; omega
          rw [if_pos ce'] at hrow
          have e3 := fun st a b => line_z (l := acc ++ lineS inn (marksS s.labels ++ [105, 102, 32, 40] ++ prE 0 s.x ++ [41, 32, 123]) ++ rowsS (inn + 1) s.thn) inn [125] (by simp only [List.length_append, List.length_cons, List.length_nil, lineS_len]; omega) (s := st) (o := 0) (t := 0) a b
          repeat' (first
 | simp only [go_sem, hlt, hget, hpu, hinc, Int.reduceLE, ↓reduceIte, reduceCtorEq, Nat.reduceEqDiff, Nat.reduceLeDiff, Nat.reduceAdd, Nat.reduceMul, Nat.reduceSub, Nat.reduceLT, c6, c5, ce, b1, b2, b3, w1, w2]
 | (with_reducible refine CU (em _) ?_)
 | (with_reducible refine CU (ee _) ?_)
 | (with_reducible refine CU (e1 _ (by with_unfolding_all rfl) (by with_unfolding_all rfl)) ?_)
 | (with_reducible refine CU (e2 _ (by with_unfolding_all rfl) (by with_unfolding_all rfl)) ?_)
 | (with_reducible refine CU (e3 _ (by with_unfolding_all rfl) (by with_unfolding_all rfl)) ?_)
 | (with_reducible first | refine CB_ofT (by assumption) fun hc => ?_ | refine CB_ofF (by assumption) fun hc => ?_ | refine CB_split (fun hc => ?_) fun hc => ?_) <;> (try simp only [hc, bs, ↓reduceIte] at h) <;> (try simp only [hc])
 | ((with_reducible first | refine leafR hQ ?_ | refine leafN hQ ?_); (try cases h); simp only [resL, oneD, Option.some.injEq, exists_eq_left', go_sem, hlt, hget, hpu, hinc, Int.reduceLE, ↓reduceIte, reduceCtorEq, Nat.reduceEqDiff, Nat.reduceLeDiff, Nat.reduceAdd, Nat.reduceMul, Nat.reduceSub, Nat.reduceLT, c6, c5, ce, b1, b2, b3, w1, w2]; repeat' (first | exact Ok.out | with_reducible refine And.intro ?_ ?_ | (simp; done)))
 | (cases h; replace h := hr; clear hr; (try simp only [bs, ↓reduceIte] at h))
 | (cases h; done))
          refine SemL.re _ _ 1 1 (by rw [hB]; exact Nat.le_of_ble_eq_true rfl) (by rw [hB]; exact Nat.le_of_ble_eq_true rfl) ?_ ?_ (IH (rest, k + 1, acc ++ lineS inn (marksS s.labels ++ [105, 102, 32, 40] ++ prE 0 s.x ++ [41, 32, 123]) ++ rowsS (inn + 1) s.thn ++ lineS inn [125]) ⟨g2, by rw [← h2, hrow]; simp only [List.append_assoc, List.nil_append], by rw [hrow] at lr; simp only [List.length_append] at lr ⊢; omega⟩ (by simp))
          · (simp only [go_sem, hlt, hget, hpu, hinc, Int.reduceLE, ↓reduceIte, reduceCtorEq, Nat.reduceEqDiff, Nat.reduceLeDiff, Nat.reduceAdd, Nat.reduceMul, Nat.reduceSub, Nat.reduceLT]; repeat' (first | exact Ok.out | with_reducible refine And.intro ?_ ?_))
          · (simp only [go_sem, hlt, hget, hpu, hinc, Int.reduceLE, ↓reduceIte, reduceCtorEq, Nat.reduceEqDiff, Nat.reduceLeDiff, Nat.reduceAdd, Nat.reduceMul, Nat.reduceSub, Nat.reduceLT]; repeat' (first | exact Ok.out | with_reducible refine And.intro ?_ ?_))
      | false =>
        have ep := fun st => pplain_s ho (by omega) st
        have b1 : (marksS s.labels).length + (plainS s.kind s.name s.proc s.x s.has s.args).length ≤ maxStr := by unfold maxStr; omega
        have b2 : (marksS s.labels).length + (plainS s.kind s.name s.proc s.x s.has s.args).length + 1 ≤ maxStr := by unfold maxStr; omega
        have e1 := fun st a b => line_z (l := acc) inn (marksS s.labels ++ plainS s.kind s.name s.proc s.x s.has s.args ++ [59]) (by simp only [List.length_append, List.length_cons, List.length_nil]; omega) (s := st) (o := 0) (t := 0) a b
        rw [if_neg (by simpa using c6), if_neg (by simpa using c5)] at hrow
        repeat' (first
 | simp only [go_sem, hlt, hget, hpu, hinc, Int.reduceLE, ↓reduceIte, reduceCtorEq, Nat.reduceEqDiff, Nat.reduceLeDiff, Nat.reduceAdd, Nat.reduceMul, Nat.reduceSub, Nat.reduceLT, c6, c5, b1, b2, w1, w2]
 | (with_reducible refine CU (em _) ?_)
 | (with_reducible refine CU (ep _) ?_)
 | (with_reducible refine CU (e1 _ (by with_unfolding_all rfl) (by with_unfolding_all rfl)) ?_)
 | (with_reducible first | refine CB_ofT (by assumption) fun hc => ?_ | refine CB_ofF (by assumption) fun hc => ?_ | refine CB_split (fun hc => ?_) fun hc => ?_) <;> (try simp only [hc, bs, ↓reduceIte] at h) <;> (try simp only [hc])
 | ((with_reducible first | refine leafR hQ ?_ | refine leafN hQ ?_); (try cases h); simp only [resL, oneD, Option.some.injEq, exists_eq_left', go_sem, hlt, hget, hpu, hinc, Int.reduceLE, ↓reduceIte, reduceCtorEq, Nat.reduceEqDiff, Nat.reduceLeDiff, Nat.reduceAdd, Nat.reduceMul, Nat.reduceSub, Nat.reduceLT, c6, c5, b1, b2, w1, w2]; repeat' (first | exact Ok.out | with_reducible refine And.intro ?_ ?_ | (simp; done)))
 | (cases h; replace h := hr; clear hr; (try simp only [bs, ↓reduceIte] at h))
 | (cases h; done))
        refine SemL.re _ _ 1 1 (by rw [hB]; exact Nat.le_of_ble_eq_true rfl) (by rw [hB]; exact Nat.le_of_ble_eq_true rfl) ?_ ?_ (IH (rest, k + 1, acc ++ lineS inn (marksS s.labels ++ plainS s.kind s.name s.proc s.x s.has s.args ++ [59])) ⟨g2, by rw [← h2, hrow]; simp only [List.append_assoc], by rw [hrow] at lr; simp only [List.length_append] at lr ⊢; omega⟩ (by simp))
        · (simp only [go_sem, hlt, hget, hpu, hinc, Int.reduceLE, ↓reduceIte, reduceCtorEq, Nat.reduceEqDiff, Nat.reduceLeDiff, Nat.reduceAdd, Nat.reduceMul, Nat.reduceSub, Nat.reduceLT]; repeat' (first | exact Ok.out | with_reducible refine And.intro ?_ ?_))
        · (simp only [go_sem, hlt, hget, hpu, hinc, Int.reduceLE, ↓reduceIte, reduceCtorEq, Nat.reduceEqDiff, Nat.reduceLeDiff, Nat.reduceAdd, Nat.reduceMul, Nat.reduceSub, Nat.reduceLT]; repeat' (first | exact Ok.out | with_reducible refine And.intro ?_ ?_))

end Go.Abs

/-! Own -/

namespace Go.Abs

theorem Rel.ownO {M : Map} {s : St} {w : World} (r : Rel M s w) (o i z' : Nat) (y : Bool) {cs : List D} (hc : s.objs[o]? = some cs) (hi : cs[i]? = some (.val (.slice none 0 0))) :
    Rel (M.setT s.toks.length none) ⟨s.objs.set o (cs.set i (.slice (.tok s.toks.length y) z' [])), s.toks ++ [some 0]⟩ w ∧ Le M s (M.setT s.toks.length none) ⟨s.objs.set o (cs.set i (.slice (.tok s.toks.length y) z' [])), s.toks ++ [some 0]⟩ ∧
    Ext M s w (M.setT s.toks.length none) ⟨s.objs.set o (cs.set i (.slice (.tok s.toks.length y) z' [])), s.toks ++ [some 0]⟩ w := by
  obtain ⟨r', le⟩ := r.blank
  have le' : Le M s (M.setT s.toks.length none) ⟨s.objs.set o (cs.set i (.slice (.tok s.toks.length y) z' [])), s.toks ++ [some 0]⟩ := ⟨le.G, by simp, le.loc, le.t, le.tk⟩
  have le2 : Le (M.setT s.toks.length none) { s with toks := s.toks ++ [some 0] } (M.setT s.toks.length none) ⟨s.objs.set o (cs.set i (.slice (.tok s.toks.length y) z' [])), s.toks ++ [some 0]⟩ :=
    ⟨fun _ _ _ h => h, by simp, fun _ _ => rfl, Nat.le_refl _, fun t n' _ e => ⟨n', e, Nat.le_refl _, fun _ => rfl⟩⟩
  refine ⟨⟨r'.comm, fun o' ds e => ?_, fun o ho => r'.objG o (by simpa using ho), fun o o' ho ho' => r'.inj o o' (by simpa using ho) (by simpa using ho'), r'.tok,
      fun t b c z o hv e ho => r'.tokObj t b c z o hv e (by simpa using ho), r'.tokInj⟩, le', ?_⟩
  · simp only [List.getElem?_set] at e
    split at e
    · rename_i ho
      subst ho
      split at e
      · cases e
        obtain ⟨vs, T, g1, g2, g3, g4⟩ := r.obj o cs hc
        refine ⟨vs, T, g1, by simpa using g2, g3, fun j d v e1 e2 => ?_⟩
        rw [List.getElem?_set] at e1
        split at e1
        · rename_i hj
          subst hj
          split at e1
          · cases e1
            exact ((g4 i _ v hi e2).ownB (z' := z') (y := y)).mono le2
          · cases e1
        · exact (g4 j d v e1 e2).mono le'
      · cases e
    · obtain ⟨vs, T, g1, g2, g3, g4⟩ := r'.obj o' ds e
      exact ⟨vs, T, g1, g2, g3, fun i d v e1 e2 => (g4 i d v e1 e2).mono le2⟩
  · refine (ext_blank (Ext.refl M s w) le).trans ⟨le2, fun _ _ _ _ => rfl, fun o h1 h2 => ?_, fun t b c z hl e => .inl ⟨hl, c, z, e⟩, fun _ _ h => (h rfl).elim, Nat.le_refl _, rfl, rfl, rfl⟩
    simp at h2
    exact absurd h2 (Nat.not_lt.2 h1)

theorem SemL.tokB {P : Program} {B : Base} {nt : Nat} {a : AC} {Q : Exit → Tm → St → Prop} {tm : Tm} {s : St} (o i z' : Nat) (y : Bool) {cs : List D} (hc : s.objs[o]? = some cs) (hi : cs[i]? = some (.val (.slice none 0 0)))
    (h : SemL P B nt a Q tm ⟨s.objs.set o (cs.set i (.slice (.tok s.toks.length y) z' [])), s.toks ++ [some 0]⟩) : SemL P B nt a Q tm s := by
  intro c hcc act w hh
  obtain ⟨M, e, r, ht, h1, h2⟩ := hh
  obtain ⟨r2, le', ee⟩ := r.ownO o i z' y hc hi
  exact h c hcc act w ⟨_, e.trans ee, r2, fun k => (ht k).mono le', h1, h2⟩

theorem ACalls.tokB {P : Program} {f : FuncId} {args : List D} {s : St} {Q : D → St → Prop} (o i z' : Nat) (y : Bool) {cs : List D} (hc : s.objs[o]? = some cs) (hi : cs[i]? = some (.val (.slice none 0 0)))
    (h : ACalls P f args ⟨s.objs.set o (cs.set i (.slice (.tok s.toks.length y) z' [])), s.toks ++ [some 0]⟩ Q) : ACalls P f args s Q := by
  intro M w vargs r hd hl ha
  obtain ⟨r2, le', ee⟩ := r.ownO o i z' y hc hi
  refine (h _ w vargs r2 (hd.ext ee) hl fun i d v e1 e2 => (ha i d v e1 e2).mono le').mono fun e w' ⟨M', d, v, s', h1, h2, h3, h4⟩ => ⟨M', d, v, s', h1, h2, ee.trans h3, h4⟩

end Go.Abs

/-! MayEq2 -/

namespace Go.Abs
set_option linter.unusedSimpArgs false
set_option linter.unusedVariables false

theorem itmays_app : ∀ (a b : List It) (n : Nat), It.mays n (a ++ b) = (It.mays n a && It.mays (n + a.length) b)
  | [], b, n => by simp [It.mays]
  | i :: a, b, n => by
    simp only [List.cons_append, It.mays, itmays_app a b (n + 1), List.length_cons]
    have : n + 1 + a.length = n + (a.length + 1) := by omega
    rw [this]
    split <;> simp

theorem itmays_one (n : Nat) (i : It) : It.mays n [i] = true ↔ i.s.id = ((n + 1 : Nat) : Int) ∧ i.deep ≤ 12 ∧ i.s.one = true := by
  simp only [It.mays]
  split
  · rename_i h
    simp only [Bool.or_eq_true, bne_iff_ne, ne_eq, decide_eq_true_eq, Bool.not_eq_true'] at h
    refine ⟨fun h => (Bool.false_ne_true h).elim, fun ⟨h1, h2, h3⟩ => ?_⟩
    rcases h with (h | h) | h
    · exact (h h1).elim
    · omega
    · rw [h] at h3; cases h3
  · rename_i h
    simp only [Bool.or_eq_true, bne_iff_ne, ne_eq, decide_eq_true_eq, Bool.not_eq_true', not_or, Decidable.not_not, Bool.not_eq_false] at h
    exact ⟨fun _ => ⟨h.1.1, by omega, h.2⟩, fun _ => rfl⟩

mutual
theorem flatS_pre (deep inn : Int) (els : Bool) : ∀ (s : Sm) (out : List It), ∃ new, flatS deep inn els out s = out ++ (⟨s, deep, inn, els⟩ :: new)
  | ⟨id, kind, labels, name, proc, x, has, args, thn, e⟩, out => by
    simp only [flatS]
    split
    · obtain ⟨n1, h1⟩ := flatL_pre (deep + 1) id false thn (out ++ [⟨⟨id, kind, labels, name, proc, x, has, args, thn, e⟩, deep, inn, els⟩])
      obtain ⟨n2, h2⟩ := flatL_pre (deep + 1) id true e (flatL (deep + 1) id false (out ++ [⟨⟨id, kind, labels, name, proc, x, has, args, thn, e⟩, deep, inn, els⟩]) thn)
      rw [h2, h1]
      exact ⟨n1 ++ n2, by simp⟩
    · exact ⟨[], rfl⟩
theorem flatL_pre (deep inn : Int) (els : Bool) : ∀ (l : List Sm) (out : List It), ∃ new, flatL deep inn els out l = out ++ new
  | [], out => ⟨[], by simp [flatL]⟩
  | s :: l, out => by
    simp only [flatL]
    split
    · obtain ⟨n1, h1⟩ := flatS_pre deep inn els s out
      obtain ⟨n2, h2⟩ := flatL_pre deep inn els l (flatS deep inn els out s)
      rw [h2, h1]
      exact ⟨⟨s, deep, inn, els⟩ :: n1 ++ n2, by simp⟩
    · exact ⟨[], by simp⟩
end

theorem mayR_true {nest : Int} {n : Nat} {s : Sm} (h : (Sm.mayR nest n s).1 = true) :
    n + 1 ≤ 200 ∧ s.id = ((n + 1 : Nat) : Int) ∧ s.one = true ∧ (Sm.mayG (nest + 1) (n + 1) s.thn).1 = true ∧ (Sm.mayG (nest + 1) (Sm.mayG (nest + 1) (n + 1) s.thn).2 s.els).1 = true ∧
    (Sm.mayR nest n s).2 = (Sm.mayG (nest + 1) (Sm.mayG (nest + 1) (n + 1) s.thn).2 s.els).2 := by
  rw [mayR_eq] at h ⊢
  split at h
  · cases h
  rename_i h1
  simp only [Bool.or_eq_true, bne_iff_ne, ne_eq, decide_eq_true_eq, Bool.not_eq_true', not_or, Decidable.not_not, Bool.not_eq_false] at h1
  split at h
  · cases h
  rename_i h2
  have h2' : (Sm.mayG (nest + 1) (n + 1) s.thn).1 = true := by simpa using h2
  refine ⟨by omega, h1.1.1.2, ?_, h2', h, ?_⟩
  · rw [one_fields, h1.1.2, h1.2]; rfl
  · rw [if_neg (by simp only [Bool.or_eq_true, bne_iff_ne, ne_eq, decide_eq_true_eq, Bool.not_eq_true', not_or, Decidable.not_not, Bool.not_eq_false]; exact h1), if_neg h2]

theorem mayG_true {nest : Int} {n : Nat} {l : List Sm} (h : (Sm.mayG nest n l).1 = true) : (l = [] ∨ nest ≤ 12) ∧ Sm.mayG nest n l = Sm.mayL nest n l := by
  unfold Sm.mayG gate at *
  split at h
  · cases h
  · rename_i hc
    rw [if_neg hc]
    refine ⟨?_, rfl⟩
    simp only [Bool.and_eq_true, decide_eq_true_eq, not_and] at hc
    cases l with
    | nil => exact .inl rfl
    | cons s l => right; simp only [List.length_cons] at hc; omega

mutual
/-- What the program lets pass the documents let pass, too. -/
theorem mayR_flat : ∀ (s : Sm) (nest inn : Int) (els : Bool) (n : Nat) (out : List It), nest ≤ 12 → out.length ≤ n → n ≤ 200 → (Sm.mayR nest n s).1 = true →
    ∃ new, flatS nest inn els out s = out ++ new ∧ It.mays n new = true ∧ n + new.length = (Sm.mayR nest n s).2 ∧ (Sm.mayR nest n s).2 ≤ 200
  | ⟨id, kind, labels, name, proc, x, has, args, thn, e⟩, nest, inn, els, n, out, h12, ho, hn, h => by
    obtain ⟨h1, h2, h3, h4, h5, h6⟩ := mayR_true h
    dsimp only at h2 h4 h5 h6
    rw [h6]
    obtain ⟨g1, e1⟩ := mayG_true h4
    rw [e1] at h4 h5 ⊢
    obtain ⟨g2, e2⟩ := mayG_true h5
    rw [e2] at h5 ⊢
    have hit : It.mays n [(⟨⟨id, kind, labels, name, proc, x, has, args, thn, e⟩, nest, inn, els⟩ : It)] = true := (itmays_one _ _).2 ⟨h2, h12, h3⟩
    obtain ⟨n1, k1, k2, k3, k4⟩ := mayL_flat thn (nest + 1) id false (n + 1) (out ++ [⟨⟨id, kind, labels, name, proc, x, has, args, thn, e⟩, nest, inn, els⟩]) g1 (by simp; omega) h1 h4
    obtain ⟨n2, j1, j2, j3, j4⟩ := mayL_flat e (nest + 1) id true _ (out ++ [⟨⟨id, kind, labels, name, proc, x, has, args, thn, e⟩, nest, inn, els⟩] ++ n1) g2 (by simp; omega) k4 h5
    simp only [flatS]
    rw [if_pos (by simpa using h12), k1, j1]
    refine ⟨⟨⟨id, kind, labels, name, proc, x, has, args, thn, e⟩, nest, inn, els⟩ :: (n1 ++ n2), by simp, ?_, ?_, j4⟩
    · have : (⟨⟨id, kind, labels, name, proc, x, has, args, thn, e⟩, nest, inn, els⟩ : It) :: (n1 ++ n2) = [⟨⟨id, kind, labels, name, proc, x, has, args, thn, e⟩, nest, inn, els⟩] ++ n1 ++ n2 := by simp
      rw [this, itmays_app, itmays_app, hit, Bool.true_and]
      have e3 : n + ([(⟨⟨id, kind, labels, name, proc, x, has, args, thn, e⟩, nest, inn, els⟩ : It)] ++ n1).length = (Sm.mayL (nest + 1) (n + 1) thn).2 := by simp; omega
      rw [e3, j2]
      have e4 : n + [(⟨⟨id, kind, labels, name, proc, x, has, args, thn, e⟩, nest, inn, els⟩ : It)].length = n + 1 := rfl
      rw [e4, k2]; rfl
    · simp only [List.length_cons, List.length_append]; omega
theorem mayL_flat : ∀ (l : List Sm) (nest inn : Int) (els : Bool) (n : Nat) (out : List It), (l = [] ∨ nest ≤ 12) → out.length ≤ n → n ≤ 200 → (Sm.mayL nest n l).1 = true →
    ∃ new, flatL nest inn els out l = out ++ new ∧ It.mays n new = true ∧ n + new.length = (Sm.mayL nest n l).2 ∧ (Sm.mayL nest n l).2 ≤ 200
  | [], nest, inn, els, n, out, h12, ho, hn, h => ⟨[], by simp [flatL], rfl, by simp [Sm.mayL], by simpa [Sm.mayL] using hn⟩
  | s :: l, nest, inn, els, n, out, h12, ho, hn, h => by
    have h12' : nest ≤ 12 := h12.resolve_left (by simp)
    simp only [Sm.mayL] at h ⊢
    split at h
    · cases h
    rename_i hc
    rw [if_neg hc]
    obtain ⟨n1, k1, k2, k3, k4⟩ := mayR_flat s nest inn els n out h12' ho hn (by simpa using hc)
    obtain ⟨n2, j1, j2, j3, j4⟩ := mayL_flat l nest inn els _ (out ++ n1) (.inr h12') (by simp; omega) k4 h
    simp only [flatL]
    rw [if_pos (by simp only [decide_eq_true_eq]; omega), k1, j1]
    refine ⟨n1 ++ n2, by simp, ?_, by simp; omega, j4⟩
    rw [itmays_app, k2, k3, j2]; rfl
end

mutual
/-- What the documents let pass the program lets pass, too. -/
theorem flat_mayR : ∀ (s : Sm) (nest inn : Int) (els : Bool) (n : Nat) (out new : List It), flatS nest inn els out s = out ++ new → It.mays n new = true → out.length ≤ n → n + new.length ≤ 200 →
    Sm.mayR nest n s = (true, n + new.length) ∧ nest ≤ 12
  | ⟨id, kind, labels, name, proc, x, has, args, thn, e⟩, nest, inn, els, n, out, new, hfl, hm, ho, hn => by
    obtain ⟨n0, h0⟩ := flatS_pre nest inn els ⟨id, kind, labels, name, proc, x, has, args, thn, e⟩ out
    have e0 : new = ⟨⟨id, kind, labels, name, proc, x, has, args, thn, e⟩, nest, inn, els⟩ :: n0 := List.append_cancel_left (hfl.symm.trans h0)
    subst e0
    have hcons : (⟨⟨id, kind, labels, name, proc, x, has, args, thn, e⟩, nest, inn, els⟩ : It) :: n0 = [⟨⟨id, kind, labels, name, proc, x, has, args, thn, e⟩, nest, inn, els⟩] ++ n0 := rfl
    rw [hcons, itmays_app, Bool.and_eq_true] at hm
    obtain ⟨hm1, hm2⟩ := hm
    obtain ⟨c1, c2, c3⟩ := (itmays_one _ _).1 hm1
    dsimp only at c1 c2 c3
    simp only [List.length_cons] at hn ⊢
    have hfl' : flatL (nest + 1) id true (flatL (nest + 1) id false (out ++ [⟨⟨id, kind, labels, name, proc, x, has, args, thn, e⟩, nest, inn, els⟩]) thn) e = out ++ ([⟨⟨id, kind, labels, name, proc, x, has, args, thn, e⟩, nest, inn, els⟩] ++ n0) := by
      simp only [flatS] at hfl
      rw [if_pos (by simpa using c2)] at hfl
      exact hfl
    obtain ⟨n1, g1⟩ := flatL_pre (nest + 1) id false thn (out ++ [⟨⟨id, kind, labels, name, proc, x, has, args, thn, e⟩, nest, inn, els⟩])
    obtain ⟨n2, g2⟩ := flatL_pre (nest + 1) id true e (flatL (nest + 1) id false (out ++ [⟨⟨id, kind, labels, name, proc, x, has, args, thn, e⟩, nest, inn, els⟩]) thn)
    have en : n0 = n1 ++ n2 := by
      rw [g2, g1] at hfl'
      simp only [List.append_assoc, List.append_cancel_left_eq] at hfl'
      exact hfl'.symm
    subst en
    have hm2' : It.mays (n + 1) (n1 ++ n2) = true := hm2
    rw [itmays_app, Bool.and_eq_true] at hm2'
    simp only [List.length_append] at hn ⊢
    obtain ⟨r1, r2⟩ := flat_mayL thn (nest + 1) id false (n + 1) _ n1 g1 hm2'.1 (by simp; omega) (by omega)
    obtain ⟨q1, q2⟩ := flat_mayL e (nest + 1) id true (n + 1 + n1.length) _ n2 g2 hm2'.2 (by rw [g1]; simp; omega) (by omega)
    refine ⟨?_, c2⟩
    have gg : ∀ {l : List Sm} {m : Nat} {r : Bool × Nat}, Sm.mayL (nest + 1) m l = r → (l = [] ∨ nest + 1 ≤ 12) → Sm.mayG (nest + 1) m l = r := by
      intro l m r h1 h2
      unfold Sm.mayG gate
      rw [if_neg]
      · exact h1
      · simp only [Bool.and_eq_true, decide_eq_true_eq, not_and]
        rcases h2 with h2 | h2
        · subst h2; simp
        · omega
    have t1 := gg r1 r2
    have t2 := gg q1 q2
    rw [mayR_eq]
    dsimp only
    rw [t1]
    dsimp only
    rw [t2]
    rw [one_fields, Bool.and_eq_true] at c3
    rw [if_neg]
    · simp; omega
    · simp only [Bool.or_eq_true, bne_iff_ne, ne_eq, decide_eq_true_eq, Bool.not_eq_true', not_or, Decidable.not_not, Bool.not_eq_false]
      exact ⟨⟨⟨by omega, c1⟩, c3.1⟩, c3.2⟩
theorem flat_mayL : ∀ (l : List Sm) (nest inn : Int) (els : Bool) (n : Nat) (out new : List It), flatL nest inn els out l = out ++ new → It.mays n new = true → out.length ≤ n → n + new.length ≤ 200 →
    Sm.mayL nest n l = (true, n + new.length) ∧ (l = [] ∨ nest ≤ 12)
  | [], nest, inn, els, n, out, new, hfl, hm, ho, hn => by
    simp only [flatL] at hfl
    have : new = [] := by simpa using hfl
    subst this
    exact ⟨by simp [Sm.mayL], .inl rfl⟩
  | s :: l, nest, inn, els, n, out, new, hfl, hm, ho, hn => by
    simp only [flatL] at hfl
    rw [if_pos (by simp only [decide_eq_true_eq]; omega)] at hfl
    obtain ⟨n1, g1⟩ := flatS_pre nest inn els s out
    obtain ⟨n2, g2⟩ := flatL_pre nest inn els l (flatS nest inn els out s)
    have en : new = (⟨s, nest, inn, els⟩ :: n1) ++ n2 := by
      rw [g2, g1, List.append_assoc, List.append_cancel_left_eq] at hfl
      exact hfl.symm
    subst en
    rw [itmays_app, Bool.and_eq_true] at hm
    rw [List.length_append] at hn ⊢
    obtain ⟨r1, r2⟩ := flat_mayR s nest inn els n out _ g1 hm.1 ho (by omega)
    obtain ⟨q1, q2⟩ := flat_mayL l nest inn els (n + (⟨s, nest, inn, els⟩ :: n1 : List It).length) _ n2 g2 hm.2 (by rw [g1, List.length_append]; omega) (by omega)
    refine ⟨?_, .inr r2⟩
    simp only [Sm.mayL, r1, Bool.not_true, Bool.false_eq_true, ↓reduceIte, q1]
    congr 1; omega
end

theorem procs_all : ∀ (l : List Pc) (out : List It), out.length ≤ 200 → (Pc.mayL out.length l = true ↔ Pc.heads l = true ∧ ∃ new, allM out l = out ++ new ∧ (out ++ new).length ≤ 200 ∧ It.mays out.length new = true)
  | [], out, ho => by simp [Pc.mayL, Pc.heads, allM, It.mays]; exact ho
  | f :: l, out, ho => by
    have hpre : ∀ (l : List Pc) (out : List It), ∃ new, allM out l = out ++ new := by
      intro l
      induction l with
      | nil => intro out; exact ⟨[], by simp [allM]⟩
      | cons f l ih =>
        intro out
        simp only [allM]
        split
        · exact ⟨_, rfl⟩
        · obtain ⟨n1, h1⟩ := ih (out ++ f.flat)
          exact ⟨f.flat ++ n1, by rw [h1, List.append_assoc]⟩
    simp only [Pc.mayL, Pc.heads]
    have hcond : (decide ((f.params.length : Int) > 8) || decide ((f.vars.length : Int) > 16) || !(isName f.name) || !(mayNames f.vars) || !(mayNames f.fin)) = (!(isName f.name) || decide ((f.params.length : Int) > 8) || decide ((f.vars.length : Int) > 16) || !(mayNames f.vars) || !(mayNames f.fin)) := by
      cases isName f.name <;> simp
    rw [hcond]
    split
    · simp
    split
    · simp
    have hg : Sm.mayG 1 out.length f.body = Sm.mayL 1 out.length f.body := by unfold Sm.mayG gate; rw [if_neg (by simp)]
    rw [hg]
    constructor
    · intro h
      split at h
      · cases h
      rename_i hc
      obtain ⟨n1, k1, k2, k3, k4⟩ := mayL_flat f.body 1 0 false out.length [] (.inr (by omega)) (by simp) ho (by simpa using hc)
      have hfl : f.flat = n1 := by unfold Pc.flat; rw [k1]; rfl
      rw [← k3, ← List.length_append] at h
      obtain ⟨hh, n2, j1, j2, j3⟩ := (procs_all l (out ++ n1) (by rw [List.length_append]; omega)).1 h
      refine ⟨hh, n1 ++ n2, ?_, by simpa using j2, ?_⟩
      · simp only [allM, hfl]
        rw [if_neg (by simp only [List.length_append, decide_eq_true_eq]; omega), j1, List.append_assoc]
      · rw [itmays_app, k2, ← List.length_append, j3]; rfl
    · rintro ⟨hh, new, j1, j2, j3⟩
      simp only [allM] at j1
      split at j1
      · rename_i hc
        have : new = f.flat := (List.append_cancel_left j1).symm
        subst this
        simp only [decide_eq_true_eq] at hc
        omega
      rename_i hc
      simp only [decide_eq_true_eq] at hc
      obtain ⟨n2, g2⟩ := hpre l (out ++ f.flat)
      have en : new = f.flat ++ n2 := by
        rw [g2, List.append_assoc] at j1
        exact (List.append_cancel_left j1).symm
      subst en
      rw [itmays_app, Bool.and_eq_true] at j3
      rw [List.length_append, List.length_append] at j2
      obtain ⟨r1, _⟩ := flat_mayL f.body 1 0 false out.length [] f.flat (by unfold Pc.flat; rfl) j3.1 (by simp) (by omega)
      rw [r1]
      simp only [Bool.not_true, Bool.false_eq_true, ↓reduceIte]
      rw [← List.length_append]
      exact (procs_all l (out ++ f.flat) (by rw [List.length_append]; omega)).2 ⟨hh, n2, g2, by simp; omega, by rw [List.length_append]; exact j3.2⟩

theorem mayP_eq (p : Pg) : p.mayP = p.may := by
  have h := procs_all p.procs [] (by simp)
  unfold Pg.mayP Pg.may
  split
  · rfl
  · have e : Pc.mayL 0 p.procs = (if !(Pc.heads p.procs) then false else if decide ((p.all.length : Int) > 200) then false else It.mays 0 p.all) := by
      rw [Bool.eq_iff_iff]
      have h' : Pc.mayL 0 p.procs = true ↔ _ := h
      rw [h']
      have ha : p.all = allM [] p.procs := rfl
      constructor
      · rintro ⟨h1, new, h2, h3, h4⟩
        rw [ha, h2, h1]
        simp only [List.nil_append] at h3 ⊢
        simp only [Bool.not_true, Bool.false_eq_true, ↓reduceIte]
        rw [if_neg (by simp only [decide_eq_true_eq]; omega)]
        exact h4
      · intro h1
        cases hh : Pc.heads p.procs
        · rw [hh] at h1; simp at h1
        · rw [hh] at h1
          simp only [Bool.not_true, Bool.false_eq_true, ↓reduceIte] at h1
          split at h1
          · cases h1
          · rename_i hc
            simp only [decide_eq_true_eq] at hc
            exact ⟨rfl, p.all, by rw [ha]; rfl, by simp; omega, h1⟩
    exact e

end Go.Abs

/-! Pr4 -/

namespace Go.Abs

set_option maxRecDepth 8000
set_option linter.unusedSimpArgs false
set_option linter.unusedVariables false
open Go.Proofs

def paramS (a : Pm) : Str := (if a.ref then [114, 101, 102, 32] else []) ++ a.name
def procS (f : Pc) : Str :=
  lineS 0 ([112, 114, 111, 99, 32] ++ f.name ++ [40] ++ Lib.join (f.params.map paramS) [44, 32] ++ [41, 32, 123]) ++ (if f.vars.length = 0 then [] else lineS 1 ([118, 97, 114, 32] ++ Lib.join f.vars [44, 32] ++ [59])) ++ rowsS 1 f.body ++ lineS 0 (marksS f.fin ++ [125])
def procsS : List Pc → Str
  | [] => []
  | f :: l => procS f ++ procsS l
def globsS (l : List Str) : Str := if l.length = 0 then [] else lineS 0 ([103, 108, 111, 98, 97, 108, 32] ++ Lib.join l [44, 32] ++ [59])
def textS (p : Pg) : Str := globsS p.globals ++ procsS p.procs

/-- What is written of a procedure, of a program that may be. -/
structure Pc.PrP (f : Pc) : Prop where
  name : f.name.length ≤ 8
  params : ∀ a ∈ f.params, a.name.length ≤ 8
  vars : ∀ t ∈ f.vars, t.length ≤ 8
  fin : ∀ t ∈ f.fin, t.length ≤ 8
  body : Sm.PrRs 1 f.body
structure Pg.PrG (p : Pg) : Prop where
  globals : ∀ t ∈ p.globals, t.length ≤ 8
  procs : ∀ f ∈ p.procs, f.PrP

theorem short_len (sep : Str) {l : List Str} {n : Nat} (h : ∀ t ∈ l, t.length ≤ n) : (Lib.join l sep).length ≤ (n + sep.length) * l.length := by
  have h1 := join_len sep l
  have h2 : (l.map (·.length)).sum ≤ n * l.length := by
    clear h1
    induction l with
    | nil => simp
    | cons a l ih =>
      have := h a (List.mem_cons_self ..)
      have := ih fun t m => h t (List.mem_cons_of_mem _ m)
      simp only [List.map_cons, List.sum_cons, List.length_cons, Nat.mul_add, Nat.mul_one]; omega
  rw [Nat.add_mul]; omega
theorem params_len {l : List Pm} (h : ∀ a ∈ l, a.name.length ≤ 8) : (Lib.join (l.map paramS) [44, 32]).length ≤ 14 * l.length := by
  have := short_len [44, 32] (l := l.map paramS) (n := 12) (by
    intro t m
    obtain ⟨a, ha, rfl⟩ := List.mem_map.1 m
    have := h a ha
    unfold paramS
    split <;> simp only [List.length_append, List.length_cons, List.length_nil] <;> omega)
  simpa using this

theorem globsS_len {l : List Str} (h : ∀ t ∈ l, t.length ≤ 8) : (globsS l).length ≤ 10 * l.length + 9 := by
  have := short_len [44, 32] h
  unfold globsS
  split
  · simp
  · simp only [List.length_append, List.length_cons, List.length_nil, lineS_len] at this ⊢; omega

theorem procS_len {f : Pc} (h : f.PrP) : (procS f).length ≤ 200 * f.size := by
  have h1 := params_len h.params
  have h2 := short_len [44, 32] h.vars
  have h3 := marksS_len h.fin
  have h4 := rowsS_len f.body h.body
  have h5 := h.name
  unfold procS Pc.size
  simp only [List.length_cons, List.length_nil] at h2
  split <;> simp only [List.length_append, List.length_cons, List.length_nil, lineS_len] <;> omega
theorem procsS_len : ∀ {l : List Pc}, (∀ f ∈ l, f.PrP) → (procsS l).length ≤ 200 * Pc.sizes l
  | [], _ => by simp [procsS]
  | f :: l, h => by
    have h1 := procS_len (h f (List.mem_cons_self ..))
    have h2 := procsS_len fun t m => h t (List.mem_cons_of_mem _ m)
    simp only [procsS, Pc.sizes, List.length_append]; omega

/-! ### The walk -/

/-- A row of lines. -/
theorem prows_z {l : List Sm} (hs : Sm.sizes l ≤ 1000000) {inn : Nat} (hp : Sm.PrRs inn l) {acc : Str} (hb : acc.length + 200 * Sm.sizes l ≤ 540000000000) {s : St} {o t : Nat} (ho : s.objs[o]? = some (bobj o t acc)) (ht : s.toks[t]? = some (some (slen acc))) :
    Fun Tryd.prog n_print_writer_rows [.ptr o 0, .slice .shared 13 (l.map encSm), .int .i64 inn] s (.tuple []) ⟨s.objs.set o (bobj o t (acc ++ rowsS inn l)), s.toks.set t (some (slen (acc ++ rowsS inn l)))⟩ :=
  (prows_n _ l (Nat.le_refl _) hs inn hp acc hb).bldz (by simp [D.oks, D.ok, okrSm, Tag.ok]) rfl ho ht

/-- The first line of a writer. -/
theorem line_first (n : Nat) (m : Str) (h : n + m.length + 1 ≤ 549755813888) {s : St} {o : Nat} (ho : s.objs[o]? = some [.selfp tWriter o, .val (.slice none 0 0)]) :
    Fun Tryd.prog n_print_writer_line [.ptr o 0, .int .i64 n, .str m] s (.tuple []) ⟨s.objs.set o (bobj o s.toks.length (lineS n m)), s.toks ++ [some (slen (lineS n m))]⟩ := by
  have hlt := (List.getElem?_eq_some_iff.1 ho).1
  have := line_z (l := []) n m (by simpa using h) (s := ⟨s.objs.set o (bobj o s.toks.length []), s.toks ++ [some 0]⟩) (o := o) (t := s.toks.length) (by simp [hlt]) (by simp [slen])
  refine ACalls.tokB o 1 1 true ho rfl ?_
  refine ACalls.mono this fun d s' ⟨e1, e2⟩ => ⟨e1, ?_⟩
  rw [e2]
  simp

set_option maxHeartbeats 1600000 in
/-- What the loop over the procedures does. -/
theorem pText_loop {p : Pg} (hg : p.PrG) (hps : Pc.sizes p.procs ≤ 1000000) (hpl : p.procs.length ≤ Pc.sizes p.procs) {B : Base} {Q : Exit → Tm → St → Prop} (hB : B.s = { objs := [], toks := [] }) {R : Str} (hRn : R.length ≤ 540000000000)
    (hQ : retF { objs := [], toks := [] : St }.objs.length { objs := [], toks := [] : St }.toks.length [(2, none)] (D.str R) { objs := [], toks := [] } = Q) :
    ∀ i : List Pc × Nat × Str, (p.procs.drop i.2.1 = i.1 ∧ i.2.2 ++ procsS i.1 = R ∧ i.2.2.length + 200 * Pc.sizes i.1 ≤ 530000000000) →
    SemL Tryd.prog B 85 Q30 (inBlockQ 0 (thenQ (wpC Tryd.prog B 85 Q35 Q) Q))
      [(3, .ptr 1 0), (26, .slice .shared 5 (p.procs.map encPc)), (27, .int .i64 (p.procs.length : Int)), (28, .int .i64 (i.2.1 : Int))] ⟨[encPg p, bobj 1 0 i.2.2], [some (slen i.2.2)]⟩ := by
  have hlt : 0 < 1 := Nat.zero_lt_one
  have hget : 0 < 1 := Nat.zero_lt_one
  have hpu : 0 < 1 := Nat.zero_lt_one
  have hinc : 0 < 1 := Nat.zero_lt_one
  refine SemL.ind (ι := List Pc × Nat × Str) (fun i => p.procs.drop i.2.1 = i.1 ∧ i.2.2 ++ procsS i.1 = R ∧ i.2.2.length + 200 * Pc.sizes i.1 ≤ 530000000000) (fun i => i.1.length) (fun i => [(3, .ptr 1 0), (26, .slice .shared 5 (p.procs.map encPc)), (27, .int .i64 (p.procs.length : Int)), (28, .int .i64 (i.2.1 : Int))]) (fun i => ⟨[encPg p, bobj 1 0 i.2.2], [some (slen i.2.2)]⟩) ?_
  rintro ⟨rest, k, acc⟩ ⟨h1, h2, h3⟩ IH
  dsimp only at h1 h2 h3
  cases rest with
  | nil =>
    have hlt := drop_nil h1
    simp only [procsS, List.append_nil] at h2
    subst h2
    have es := fun st a b => String_s (s := st) (o := 1) (t := 0) (c0 := .selfp tWriter 1) acc a b (by omega)
    repeat' (first
 | simp only [go_sem, hlt, hget, hpu, hinc, Int.reduceLE, ↓reduceIte, reduceCtorEq, Nat.reduceEqDiff, Nat.reduceLeDiff, Nat.reduceAdd, Nat.reduceMul, Nat.reduceSub, Nat.reduceLT, bobj, slen]
 | (with_reducible refine CU (es _ (by with_unfolding_all rfl) (by with_unfolding_all rfl)) ?_)
 | (with_reducible first | refine CB_ofT (by assumption) fun hc => ?_ | refine CB_ofF (by assumption) fun hc => ?_ | refine CB_split (fun hc => ?_) fun hc => ?_) <;> (try simp only [hc, bs, ↓reduceIte] at h) <;> (try simp only [hc])
 | ((with_reducible first | refine leafR hQ ?_ | refine leafN hQ ?_); (try cases h); simp only [resL, oneD, Option.some.injEq, exists_eq_left', go_sem, hlt, hget, hpu, hinc, Int.reduceLE, ↓reduceIte, reduceCtorEq, Nat.reduceEqDiff, Nat.reduceLeDiff, Nat.reduceAdd, Nat.reduceMul, Nat.reduceSub, Nat.reduceLT, bobj, slen]; repeat' (first | exact Ok.out | with_reducible refine And.intro ?_ ?_ | (simp; done)))
 | (cases h; replace h := hr; clear hr; (try simp only [bs, ↓reduceIte] at h))
 | (cases h; done))
  | cons f rest =>
    obtain ⟨hget, g2, hlt, g4⟩ := drop_cons h1
    have hmem := List.mem_of_getElem? hget
    have hsz := Pc.sizes_mem hmem
    have hP := hg.procs f hmem
    have hk : k < 4611686018427387904 := by omega
    have w1 : IntKind.wrap .i64 ((k : Int) + 1) = ((k + 1 : Nat) : Int) := by rw [wrap_ok] <;> omega
    simp only [Pc.sizes] at h3
    simp only [procsS] at h2
    have lf := procS_len hP
    have hfz : f.params.length + f.vars.length + f.fin.length + Sm.sizes f.body + 1 ≤ f.size := by unfold Pc.size; omega
    repeat' (first
 | simp only [go_sem, hlt, hget, hpu, hinc, Int.reduceLE, ↓reduceIte, reduceCtorEq, Nat.reduceEqDiff, Nat.reduceLeDiff, Nat.reduceAdd, Nat.reduceMul, Nat.reduceSub, Nat.reduceLT]
 | (with_reducible first | refine CB_ofT (by assumption) fun hc => ?_ | refine CB_ofF (by assumption) fun hc => ?_ | refine CB_split (fun hc => ?_) fun hc => ?_) <;> (try simp only [hc, bs, ↓reduceIte] at h) <;> (try simp only [hc])
 | ((with_reducible first | refine leafR hQ ?_ | refine leafN hQ ?_); (try cases h); simp only [resL, oneD, Option.some.injEq, exists_eq_left', go_sem, hlt, hget, hpu, hinc, Int.reduceLE, ↓reduceIte, reduceCtorEq, Nat.reduceEqDiff, Nat.reduceLeDiff, Nat.reduceAdd, Nat.reduceMul, Nat.reduceSub, Nat.reduceLT]; repeat' (first | exact Ok.out | with_reducible refine And.intro ?_ ?_ | (simp; done)))
 | (cases h; replace h := hr; clear hr; (try simp only [bs, ↓reduceIte] at h))
 | (cases h; done))
    refine SemL.tokT 6 1 rfl ?_
    simp only [go_sem, hlt, hget, hpu, hinc, Int.reduceLE, ↓reduceIte, reduceCtorEq, Nat.reduceEqDiff, Nat.reduceLeDiff, Nat.reduceAdd, Nat.reduceMul, Nat.reduceSub, Nat.reduceLT]
    refine SemL.re _ _ 3 2 (by rw [hB]; exact Nat.le_of_ble_eq_true rfl) (by rw [hB]; exact Nat.le_of_ble_eq_true rfl) ?_ ?_ (SemL.ind (ι := List Pm × Nat × List Str) (fun i => f.params.drop i.2.1 = i.1 ∧ i.2.2 ++ i.1.map paramS = f.params.map paramS ∧ i.2.2.length = i.2.1) (fun i => i.1.length)
      (fun i => [(3, .ptr 1 0), (26, .slice .shared 5 (p.procs.map encPc)), (27, .int .i64 (p.procs.length : Int)), (28, .int .i64 (k : Int)), (5, .ptr 2 0), (6, .slice (.tok 1) 1 (i.2.2.map encStr)), (33, .slice .shared 2 (f.params.map encPm)), (34, .int .i64 (f.params.length : Int)), (35, .int .i64 (i.2.1 : Int))]) (fun i => ⟨[encPg p, bobj 1 0 acc, encPc f], [some (slen acc), some i.2.1]⟩) ?_ (f.params, 0, []) ⟨rfl, rfl, rfl⟩)
    · (simp only [go_sem, hlt, hget, hpu, hinc, Int.reduceLE, ↓reduceIte, reduceCtorEq, Nat.reduceEqDiff, Nat.reduceLeDiff, Nat.reduceAdd, Nat.reduceMul, Nat.reduceSub, Nat.reduceLT]; repeat' (first | exact Ok.out | with_reducible refine And.intro ?_ ?_))
    · (simp only [go_sem, hlt, hget, hpu, hinc, Int.reduceLE, ↓reduceIte, reduceCtorEq, Nat.reduceEqDiff, Nat.reduceLeDiff, Nat.reduceAdd, Nat.reduceMul, Nat.reduceSub, Nat.reduceLT]; repeat' (first | exact Ok.out | with_reducible refine And.intro ?_ ?_))
    rintro ⟨ps, j, out⟩ ⟨p1, p2, p3⟩ IH2
    dsimp only at p1 p2 p3
    cases ps with
    | nil =>
      have hlt := drop_nil p1
      simp only [List.map_nil, List.append_nil] at p2
      subst p2
      have lps := params_len hP.params
      have lvs := short_len [44, 32] hP.vars
      have lms := marksS_len hP.fin
      have lrs := rowsS_len f.body hP.body
      have lnm := hP.name
      simp only [List.length_cons, List.length_nil] at lvs
      have ej := fun s => Join_s (l := f.params.map paramS) (sep := [44, 32]) (by simp; omega) (by omega) (.tok 1) s
      have em := fun st => pmarks_s (by omega) hP.fin st
      have b1 : (5 : Nat) + f.name.length ≤ maxStr := by unfold maxStr; omega
      have b2 : f.name.length + 1 + 1 + 1 + 1 + 1 + 1 ≤ maxStr := by unfold maxStr; omega
      have b3 : f.name.length + 1 + 1 + 1 + 1 + 1 + 1 + (Lib.join (f.params.map paramS) [44, 32]).length ≤ maxStr := by unfold maxStr; omega
      have b4 : f.name.length + 1 + (Lib.join (f.params.map paramS) [44, 32]).length + 1 + 1 + 1 + 1 + 1 + 1 + 1 + 1 ≤ maxStr := by unfold maxStr; omega
      have b7 : (marksS f.fin).length + 1 ≤ maxStr := by unfold maxStr; omega
      have e1 := fun st a b => line_z (l := acc) 0 ([112, 114, 111, 99, 32] ++ f.name ++ [40] ++ Lib.join (f.params.map paramS) [44, 32] ++ [41, 32, 123]) (by simp only [List.length_append, List.length_cons, List.length_nil, lineS_len]; omega) (s := st) (o := 1) (t := 0) a b
      simp only [List.cons_append, List.nil_append, Int.cast_ofNat_Int] at e1
      cases cv : decide ((f.vars.length : Int) > 0) with
      | false =>
        have cv' : f.vars.length = 0 := by have := of_decide_eq_false cv; omega
        have e3 := fun st a b => prows_z (l := f.body) (by omega) hP.body (acc := acc ++ lineS 0 ([112, 114, 111, 99, 32] ++ f.name ++ [40] ++ Lib.join (f.params.map paramS) [44, 32] ++ [41, 32, 123])) (by simp only [List.length_append, List.length_cons, List.length_nil, lineS_len]; omega) (s := st) (o := 1) (t := 0) a b
        have e4 := fun st a b => line_z (l := acc ++ lineS 0 ([112, 114, 111, 99, 32] ++ f.name ++ [40] ++ Lib.join (f.params.map paramS) [44, 32] ++ [41, 32, 123]) ++ rowsS 1 f.body) 0 (marksS f.fin ++ [125]) (by simp only [List.length_append, List.length_cons, List.length_nil, lineS_len]; omega) (s := st) (o := 1) (t := 0) a b
        simp only [List.cons_append, List.nil_append, Int.cast_ofNat_Int] at e3 e4
        repeat' (first
 | simp only [go_sem, hlt, hget, hpu, hinc, Int.reduceLE, ↓reduceIte, reduceCtorEq, Nat.reduceEqDiff, Nat.reduceLeDiff, Nat.reduceAdd, Nat.reduceMul, Nat.reduceSub, Nat.reduceLT, w1, b1, b2, b3, b4, b7, cv]
 | (with_reducible refine CU (ej _) ?_)
 | (with_reducible refine CU (em _) ?_)
 | (with_reducible refine CU (e1 _ (by with_unfolding_all rfl) (by with_unfolding_all rfl)) ?_)
 | (with_reducible refine CU (e3 _ (by with_unfolding_all rfl) (by with_unfolding_all rfl)) ?_)
 | (with_reducible refine CU (e4 _ (by with_unfolding_all rfl) (by with_unfolding_all rfl)) ?_)
 | (with_reducible first | refine CB_ofT (by assumption) fun hc => ?_ | refine CB_ofF (by assumption) fun hc => ?_ | refine CB_split (fun hc => ?_) fun hc => ?_) <;> (try simp only [hc, bs, ↓reduceIte] at h) <;> (try simp only [hc])
 | ((with_reducible first | refine leafR hQ ?_ | refine leafN hQ ?_); (try cases h); simp only [resL, oneD, Option.some.injEq, exists_eq_left', go_sem, hlt, hget, hpu, hinc, Int.reduceLE, ↓reduceIte, reduceCtorEq, Nat.reduceEqDiff, Nat.reduceLeDiff, Nat.reduceAdd, Nat.reduceMul, Nat.reduceSub, Nat.reduceLT, w1, b1, b2, b3, b4, b7, cv]; repeat' (first | exact Ok.out | with_reducible refine And.intro ?_ ?_ | (simp; done)))
 | (cases h; replace h := hr; clear hr; (try simp only [bs, ↓reduceIte] at h))
 | (cases h; done))
        have hl := IH (rest, k + 1, acc ++ lineS 0 ([112, 114, 111, 99, 32] ++ f.name ++ [40] ++ Lib.join (f.params.map paramS) [44, 32] ++ [41, 32, 123]) ++ rowsS 1 f.body ++ lineS 0 (marksS f.fin ++ [125])) ⟨g2, by rw [← h2, procS, if_pos cv']; simp only [List.append_assoc, List.nil_append, List.cons_append], by rw [procS, if_pos cv'] at lf; simp only [List.length_append] at lf ⊢; omega⟩ (by simp)
        simp only [List.cons_append, List.nil_append, Int.cast_ofNat_Int] at hl
        refine SemL.re _ _ 2 1 (by rw [hB]; exact Nat.le_of_ble_eq_true rfl) (by rw [hB]; exact Nat.le_of_ble_eq_true rfl) ?_ ?_ (hl)
        · (simp only [go_sem, hlt, hget, hpu, hinc, Int.reduceLE, ↓reduceIte, reduceCtorEq, Nat.reduceEqDiff, Nat.reduceLeDiff, Nat.reduceAdd, Nat.reduceMul, Nat.reduceSub, Nat.reduceLT]; repeat' (first | exact Ok.out | with_reducible refine And.intro ?_ ?_))
        · (simp only [go_sem, hlt, hget, hpu, hinc, Int.reduceLE, ↓reduceIte, reduceCtorEq, Nat.reduceEqDiff, Nat.reduceLeDiff, Nat.reduceAdd, Nat.reduceMul, Nat.reduceSub, Nat.reduceLT]; repeat' (first | exact Ok.out | with_reducible refine And.intro ?_ ?_))
      | true =>
        have cv' : f.vars.length ≠ 0 := by have := of_decide_eq_true cv; omega
        have ej2 := fun s => Join_s (l := f.vars) (sep := [44, 32]) (by omega) (by omega) .shared s
        have b5 : (4 : Nat) + (Lib.join f.vars [44, 32]).length ≤ maxStr := by unfold maxStr; omega
        have b6 : (Lib.join f.vars [44, 32]).length + 1 + 1 + 1 + 1 + 1 ≤ maxStr := by unfold maxStr; omega
        have e2 := fun st a b => line_z (l := acc ++ lineS 0 ([112, 114, 111, 99, 32] ++ f.name ++ [40] ++ Lib.join (f.params.map paramS) [44, 32] ++ [41, 32, 123])) 1 ([118, 97, 114, 32] ++ Lib.join f.vars [44, 32] ++ [59]) (by simp only [List.length_append, List.length_cons, List.length_nil, lineS_len]; omega) (s := st) (o := 1) (t := 0) a b
        simp only [List.cons_append, List.nil_append, Int.cast_ofNat_Int] at e2
        have e3 := fun st a b => prows_z (l := f.body) (by omega) hP.body (acc := acc ++ lineS 0 ([112, 114, 111, 99, 32] ++ f.name ++ [40] ++ Lib.join (f.params.map paramS) [44, 32] ++ [41, 32, 123]) ++ lineS 1 ([118, 97, 114, 32] ++ Lib.join f.vars [44, 32] ++ [59])) (by simp only [List.length_append, List.length_cons, List.length_nil, lineS_len]; omega) (s := st) (o := 1) (t := 0) a b
        have e4 := fun st a b => line_z (l := acc ++ lineS 0 ([112, 114, 111, 99, 32] ++ f.name ++ [40] ++ Lib.join (f.params.map paramS) [44, 32] ++ [41, 32, 123]) ++ lineS 1 ([118, 97, 114, 32] ++ Lib.join f.vars [44, 32] ++ [59]) ++ rowsS 1 f.body) 0 (marksS f.fin ++ [125]) (by simp only [List.length_append, List.length_cons, List.length_nil, lineS_len]; omega) (s := st) (o := 1) (t := 0) a b
        simp only [List.cons_append, List.nil_append, Int.cast_ofNat_Int] at e3 e4
        repeat' (first
 | simp only [go_sem, hlt, hget, hpu, hinc, Int.reduceLE, ↓reduceIte, reduceCtorEq, Nat.reduceEqDiff, Nat.reduceLeDiff, Nat.reduceAdd, Nat.reduceMul, Nat.reduceSub, Nat.reduceLT, w1, b1, b2, b3, b4, b7, cv, b5, b6]
 | (with_reducible refine CU (ej _) ?_)
 | (with_reducible refine CU (em _) ?_)
 | (with_reducible refine CU (e1 _ (by with_unfolding_all rfl) (by with_unfolding_all rfl)) ?_)
 | (with_reducible refine CU (ej2 _) ?_)
 | (with_reducible refine CU (e2 _ (by with_unfolding_all rfl) (by with_unfolding_all rfl)) ?_)
 | (with_reducible refine CU (e3 _ (by with_unfolding_all rfl) (by with_unfolding_all rfl)) ?_)
 | (with_reducible refine CU (e4 _ (by with_unfolding_all rfl) (by with_unfolding_all rfl)) ?_)
 | (with_reducible first | refine CB_ofT (by assumption) fun hc => ?_ | refine CB_ofF (by assumption) fun hc => ?_ | refine CB_split (fun hc => ?_) fun hc => ?_) <;> (try simp only [hc, bs, ↓reduceIte] at h) <;> (try simp only [hc])
 | ((with_reducible first | refine leafR hQ ?_ | refine leafN hQ ?_); (try cases h); simp only [resL, oneD, Option.some.injEq, exists_eq_left', go_sem, hlt, hget, hpu, hinc, Int.reduceLE, ↓reduceIte, reduceCtorEq, Nat.reduceEqDiff, Nat.reduceLeDiff, Nat.reduceAdd, Nat.reduceMul, Nat.reduceSub, Nat.reduceLT, w1, b1, b2, b3, b4, b7, cv, b5, b6]; repeat' (first | exact Ok.out | with_reducible refine And.intro ?_ ?_ | (simp; done)))
 | (cases h; replace h := hr; clear hr; (try simp only [bs, ↓reduceIte] at h))
 | (cases h; done))
        have hl := IH (rest, k + 1, acc ++ lineS 0 ([112, 114, 111, 99, 32] ++ f.name ++ [40] ++ Lib.join (f.params.map paramS) [44, 32] ++ [41, 32, 123]) ++ lineS 1 ([118, 97, 114, 32] ++ Lib.join f.vars [44, 32] ++ [59]) ++ rowsS 1 f.body ++ lineS 0 (marksS f.fin ++ [125])) ⟨g2, by rw [← h2, procS, if_neg cv']; simp only [List.append_assoc, List.nil_append, List.cons_append], by rw [procS, if_neg cv'] at lf; simp only [List.length_append] at lf ⊢; omega⟩ (by simp)
        simp only [List.cons_append, List.nil_append, Int.cast_ofNat_Int] at hl
        refine SemL.re _ _ 2 1 (by rw [hB]; exact Nat.le_of_ble_eq_true rfl) (by rw [hB]; exact Nat.le_of_ble_eq_true rfl) ?_ ?_ (hl)
        · (simp only [go_sem, hlt, hget, hpu, hinc, Int.reduceLE, ↓reduceIte, reduceCtorEq, Nat.reduceEqDiff, Nat.reduceLeDiff, Nat.reduceAdd, Nat.reduceMul, Nat.reduceSub, Nat.reduceLT]; repeat' (first | exact Ok.out | with_reducible refine And.intro ?_ ?_))
        · (simp only [go_sem, hlt, hget, hpu, hinc, Int.reduceLE, ↓reduceIte, reduceCtorEq, Nat.reduceEqDiff, Nat.reduceLeDiff, Nat.reduceAdd, Nat.reduceMul, Nat.reduceSub, Nat.reduceLT]; repeat' (first | exact Ok.out | with_reducible refine And.intro ?_ ?_))
    | cons a ps =>
      obtain ⟨hget, q2, hlt, q4⟩ := drop_cons p1
      have hmem2 := List.mem_of_getElem? hget
      have han := hP.params a hmem2
      have hj : j < 4611686018427387904 := by omega
      have w2 : IntKind.wrap .i64 ((j : Int) + 1) = ((j + 1 : Nat) : Int) := by rw [wrap_ok] <;> omega
      have hpu : (j + 1) * 17 ≤ maxStr := by unfold maxStr; omega
      have ea : paramS a = (if a.ref = true then [114, 101, 102, 32] else []) ++ a.name := rfl
      cases hr : a.ref with
      | true =>
        rw [hr] at ea
        have m1 : (4 : Nat) + a.name.length ≤ maxStr := by unfold maxStr; omega
        repeat' (first
 | simp only [go_sem, hlt, hget, hpu, hinc, Int.reduceLE, ↓reduceIte, reduceCtorEq, Nat.reduceEqDiff, Nat.reduceLeDiff, Nat.reduceAdd, Nat.reduceMul, Nat.reduceSub, Nat.reduceLT, hr, m1, w2, p3]
 | (with_reducible refine CU (pref_s _ _) ?_)
 | (with_reducible first | refine CB_ofT (by assumption) fun hc => ?_ | refine CB_ofF (by assumption) fun hc => ?_ | refine CB_split (fun hc => ?_) fun hc => ?_) <;> (try simp only [hc, bs, ↓reduceIte] at h) <;> (try simp only [hc])
 | ((with_reducible first | refine leafR hQ ?_ | refine leafN hQ ?_); (try cases h); simp only [resL, oneD, Option.some.injEq, exists_eq_left', go_sem, hlt, hget, hpu, hinc, Int.reduceLE, ↓reduceIte, reduceCtorEq, Nat.reduceEqDiff, Nat.reduceLeDiff, Nat.reduceAdd, Nat.reduceMul, Nat.reduceSub, Nat.reduceLT, hr, m1, w2, p3]; repeat' (first | exact Ok.out | with_reducible refine And.intro ?_ ?_ | (simp; done)))
 | (cases h; replace h := hr; clear hr; (try simp only [bs, ↓reduceIte] at h))
 | (cases h; done))
        refine SemL.re _ _ 3 2 (by rw [hB]; exact Nat.le_of_ble_eq_true rfl) (by rw [hB]; exact Nat.le_of_ble_eq_true rfl) ?_ ?_ (IH2 (ps, j + 1, out ++ [paramS a]) ⟨q2, by rw [← p2]; simp, by simp [p3]⟩ (by simp))
        · (simp only [go_sem, hlt, hget, hpu, hinc, Int.reduceLE, ↓reduceIte, reduceCtorEq, Nat.reduceEqDiff, Nat.reduceLeDiff, Nat.reduceAdd, Nat.reduceMul, Nat.reduceSub, Nat.reduceLT, ea, List.cons_append, List.nil_append]; repeat' (first | exact Ok.out | with_reducible refine And.intro ?_ ?_))
        · (simp only [go_sem, hlt, hget, hpu, hinc, Int.reduceLE, ↓reduceIte, reduceCtorEq, Nat.reduceEqDiff, Nat.reduceLeDiff, Nat.reduceAdd, Nat.reduceMul, Nat.reduceSub, Nat.reduceLT, ea, List.cons_append, List.nil_append]; repeat' (first | exact Ok.out | with_reducible refine And.intro ?_ ?_))
      | false =>
        rw [hr] at ea
        have m1 : a.name.length ≤ maxStr := by unfold maxStr; omega
        repeat' (first
 | simp only [go_sem, hlt, hget, hpu, hinc, Int.reduceLE, ↓reduceIte, reduceCtorEq, Nat.reduceEqDiff, Nat.reduceLeDiff, Nat.reduceAdd, Nat.reduceMul, Nat.reduceSub, Nat.reduceLT, hr, m1, w2, p3, List.nil_append]
 | (with_reducible refine CU (pref_s _ _) ?_)
 | (with_reducible first | refine CB_ofT (by assumption) fun hc => ?_ | refine CB_ofF (by assumption) fun hc => ?_ | refine CB_split (fun hc => ?_) fun hc => ?_) <;> (try simp only [hc, bs, ↓reduceIte] at h) <;> (try simp only [hc])
 | ((with_reducible first | refine leafR hQ ?_ | refine leafN hQ ?_); (try cases h); simp only [resL, oneD, Option.some.injEq, exists_eq_left', go_sem, hlt, hget, hpu, hinc, Int.reduceLE, ↓reduceIte, reduceCtorEq, Nat.reduceEqDiff, Nat.reduceLeDiff, Nat.reduceAdd, Nat.reduceMul, Nat.reduceSub, Nat.reduceLT, hr, m1, w2, p3, List.nil_append]; repeat' (first | exact Ok.out | with_reducible refine And.intro ?_ ?_ | (simp; done)))
 | (cases h; replace h := hr; clear hr; (try simp only [bs, ↓reduceIte] at h))
 | (cases h; done))
        refine SemL.re _ _ 3 2 (by rw [hB]; exact Nat.le_of_ble_eq_true rfl) (by rw [hB]; exact Nat.le_of_ble_eq_true rfl) ?_ ?_ (IH2 (ps, j + 1, out ++ [paramS a]) ⟨q2, by rw [← p2]; simp, by simp [p3]⟩ (by simp))
        · (simp only [go_sem, hlt, hget, hpu, hinc, Int.reduceLE, ↓reduceIte, reduceCtorEq, Nat.reduceEqDiff, Nat.reduceLeDiff, Nat.reduceAdd, Nat.reduceMul, Nat.reduceSub, Nat.reduceLT, ea, List.cons_append, List.nil_append]; repeat' (first | exact Ok.out | with_reducible refine And.intro ?_ ?_))
        · (simp only [go_sem, hlt, hget, hpu, hinc, Int.reduceLE, ↓reduceIte, reduceCtorEq, Nat.reduceEqDiff, Nat.reduceLeDiff, Nat.reduceAdd, Nat.reduceMul, Nat.reduceSub, Nat.reduceLT, ea, List.cons_append, List.nil_append]; repeat' (first | exact Ok.out | with_reducible refine And.intro ?_ ?_))

theorem pText_s {p : Pg} (hf : p.FineP) (hg : p.mayP = true → p.PrG) (hs : p.size ≤ 1000000) (s : St) : Fun Tryd.prog n_print_Text [.agg (encPg p)] s (.str (if p.may then textS p else [])) s := by
  refine Fun.pure ?_ (by simp only [D.oks, D.ok, okPg]; rfl) rfl s
  have hm := fun s => tMay_s hf s
  rw [← mayP_eq]
  cases cm : p.mayP with
  | false =>
    rw [if_neg (by simp)]
    unfold S0
    refine Fun.go has_print_Text rfl fun B Q hB hQ => ?_
    have hlt : 0 < 1 := Nat.zero_lt_one
    have hget : 0 < 1 := Nat.zero_lt_one
    have hpu : 0 < 1 := Nat.zero_lt_one
    have hinc : 0 < 1 := Nat.zero_lt_one
    repeat' (first
 | simp only [go_sem, hlt, hget, hpu, hinc, Int.reduceLE, ↓reduceIte, reduceCtorEq, Nat.reduceEqDiff, Nat.reduceLeDiff, Nat.reduceAdd, Nat.reduceMul, Nat.reduceSub, Nat.reduceLT, cm]
 | (with_reducible refine CU (hm _) ?_)
 | (with_reducible first | refine CB_ofT (by assumption) fun hc => ?_ | refine CB_ofF (by assumption) fun hc => ?_ | refine CB_split (fun hc => ?_) fun hc => ?_) <;> (try simp only [hc, bs, ↓reduceIte] at h) <;> (try simp only [hc])
 | ((with_reducible first | refine leafR hQ ?_ | refine leafN hQ ?_); (try cases h); simp only [resL, oneD, Option.some.injEq, exists_eq_left', go_sem, hlt, hget, hpu, hinc, Int.reduceLE, ↓reduceIte, reduceCtorEq, Nat.reduceEqDiff, Nat.reduceLeDiff, Nat.reduceAdd, Nat.reduceMul, Nat.reduceSub, Nat.reduceLT, cm]; repeat' (first | exact Ok.out | with_reducible refine And.intro ?_ ?_ | (simp; done)))
 | (cases h; replace h := hr; clear hr; (try simp only [bs, ↓reduceIte] at h))
 | (cases h; done))
  | true =>
    rw [if_pos rfl]
    have hg := hg cm
    have hps : Pc.sizes p.procs ≤ 1000000 := by simp only [Pg.size] at hs; omega
    have hgl : p.globals.length ≤ 1000000 := by simp only [Pg.size] at hs; omega
    have hpl := Pc.sizes_len p.procs
    have lg := globsS_len hg.globals
    have lp := procsS_len hg.procs
    have ls := short_len [44, 32] hg.globals
    simp only [List.length_cons, List.length_nil] at ls
    unfold S0
    cases cg : decide ((p.globals.length : Int) > 0) with
    | true =>
      have cg' : p.globals.length ≠ 0 := by have := of_decide_eq_true cg; omega
      have eg : globsS p.globals = lineS 0 ([103, 108, 111, 98, 97, 108, 32] ++ Lib.join p.globals [44, 32] ++ [59]) := by rw [globsS, if_neg cg']
      have ej := fun s => Join_s (l := p.globals) (sep := [44, 32]) (by omega) (by omega) .shared s
      have b1 : (7 : Nat) + (Lib.join p.globals [44, 32]).length ≤ maxStr := by unfold maxStr; omega
      have b2 : (Lib.join p.globals [44, 32]).length + 1 + 1 + 1 + 1 + 1 + 1 + 1 + 1 ≤ maxStr := by unfold maxStr; omega
      have e1 := fun s a => line_first 0 ([103, 108, 111, 98, 97, 108, 32] ++ Lib.join p.globals [44, 32] ++ [59]) (by simp only [List.length_append, List.length_cons, List.length_nil]; omega) (s := s) (o := 1) a
      simp only [List.cons_append, List.nil_append, Int.cast_ofNat_Int] at e1 eg
      refine Fun.go has_print_Text rfl fun B Q hB hQ => ?_
      have hlt : 0 < 1 := Nat.zero_lt_one
      have hget : 0 < 1 := Nat.zero_lt_one
      have hpu : 0 < 1 := Nat.zero_lt_one
      have hinc : 0 < 1 := Nat.zero_lt_one
      repeat' (first
 | simp only [go_sem, hlt, hget, hpu, hinc, Int.reduceLE, ↓reduceIte, reduceCtorEq, Nat.reduceEqDiff, Nat.reduceLeDiff, Nat.reduceAdd, Nat.reduceMul, Nat.reduceSub, Nat.reduceLT, cm, cg, b1, b2]
 | (with_reducible refine CU (hm _) ?_)
 | (with_reducible refine CU (ej _) ?_)
 | (with_reducible refine CU (e1 _ (by with_unfolding_all rfl)) ?_)
 | (with_reducible first | refine CB_ofT (by assumption) fun hc => ?_ | refine CB_ofF (by assumption) fun hc => ?_ | refine CB_split (fun hc => ?_) fun hc => ?_) <;> (try simp only [hc, bs, ↓reduceIte] at h) <;> (try simp only [hc])
 | ((with_reducible first | refine leafR hQ ?_ | refine leafN hQ ?_); (try cases h); simp only [resL, oneD, Option.some.injEq, exists_eq_left', go_sem, hlt, hget, hpu, hinc, Int.reduceLE, ↓reduceIte, reduceCtorEq, Nat.reduceEqDiff, Nat.reduceLeDiff, Nat.reduceAdd, Nat.reduceMul, Nat.reduceSub, Nat.reduceLT, cm, cg, b1, b2]; repeat' (first | exact Ok.out | with_reducible refine And.intro ?_ ?_ | (simp; done)))
 | (cases h; replace h := hr; clear hr; (try simp only [bs, ↓reduceIte] at h))
 | (cases h; done))
      have hl := pText_loop hg hps hpl hB (R := textS p) (by simp only [textS, List.length_append]; omega) hQ (p.procs, 0, globsS p.globals) ⟨rfl, rfl, by dsimp only; omega⟩
      simp only [eg] at hl
      refine SemL.re _ _ 2 1 (by rw [hB]; exact Nat.le_of_ble_eq_true rfl) (by rw [hB]; exact Nat.le_of_ble_eq_true rfl) ?_ ?_ (hl)
      · (simp only [go_sem, hlt, hget, hpu, hinc, Int.reduceLE, ↓reduceIte, reduceCtorEq, Nat.reduceEqDiff, Nat.reduceLeDiff, Nat.reduceAdd, Nat.reduceMul, Nat.reduceSub, Nat.reduceLT]; repeat' (first | exact Ok.out | with_reducible refine And.intro ?_ ?_))
      · (simp only [go_sem, hlt, hget, hpu, hinc, Int.reduceLE, ↓reduceIte, reduceCtorEq, Nat.reduceEqDiff, Nat.reduceLeDiff, Nat.reduceAdd, Nat.reduceMul, Nat.reduceSub, Nat.reduceLT]; repeat' (first | exact Ok.out | with_reducible refine And.intro ?_ ?_))
    | false =>
      have cg' : p.globals.length = 0 := by have := of_decide_eq_false cg; omega
      have eg : globsS p.globals = [] := by rw [globsS, if_pos cg']
      refine Fun.go has_print_Text rfl fun B Q hB hQ => ?_
      have hlt : 0 < 1 := Nat.zero_lt_one
      have hget : 0 < 1 := Nat.zero_lt_one
      have hpu : 0 < 1 := Nat.zero_lt_one
      have hinc : 0 < 1 := Nat.zero_lt_one
      repeat' (first
 | simp only [go_sem, hlt, hget, hpu, hinc, Int.reduceLE, ↓reduceIte, reduceCtorEq, Nat.reduceEqDiff, Nat.reduceLeDiff, Nat.reduceAdd, Nat.reduceMul, Nat.reduceSub, Nat.reduceLT, cm, cg]
 | (with_reducible refine CU (hm _) ?_)
 | (with_reducible first | refine CB_ofT (by assumption) fun hc => ?_ | refine CB_ofF (by assumption) fun hc => ?_ | refine CB_split (fun hc => ?_) fun hc => ?_) <;> (try simp only [hc, bs, ↓reduceIte] at h) <;> (try simp only [hc])
 | ((with_reducible first | refine leafR hQ ?_ | refine leafN hQ ?_); (try cases h); simp only [resL, oneD, Option.some.injEq, exists_eq_left', go_sem, hlt, hget, hpu, hinc, Int.reduceLE, ↓reduceIte, reduceCtorEq, Nat.reduceEqDiff, Nat.reduceLeDiff, Nat.reduceAdd, Nat.reduceMul, Nat.reduceSub, Nat.reduceLT, cm, cg]; repeat' (first | exact Ok.out | with_reducible refine And.intro ?_ ?_ | (simp; done)))
 | (cases h; replace h := hr; clear hr; (try simp only [bs, ↓reduceIte] at h))
 | (cases h; done))
      refine SemL.tokB 1 1 1 true rfl rfl ?_
      simp only [go_sem, hlt, hget, hpu, hinc, Int.reduceLE, ↓reduceIte, reduceCtorEq, Nat.reduceEqDiff, Nat.reduceLeDiff, Nat.reduceAdd, Nat.reduceMul, Nat.reduceSub, Nat.reduceLT]
      have hl := pText_loop hg hps hpl hB (R := textS p) (by simp only [textS, List.length_append]; omega) hQ (p.procs, 0, globsS p.globals) ⟨rfl, rfl, by dsimp only; omega⟩
      simp only [eg] at hl
      refine SemL.re _ _ 2 1 (by rw [hB]; exact Nat.le_of_ble_eq_true rfl) (by rw [hB]; exact Nat.le_of_ble_eq_true rfl) ?_ ?_ (hl)
      · (simp only [go_sem, hlt, hget, hpu, hinc, Int.reduceLE, ↓reduceIte, reduceCtorEq, Nat.reduceEqDiff, Nat.reduceLeDiff, Nat.reduceAdd, Nat.reduceMul, Nat.reduceSub, Nat.reduceLT, bobj, encBy, List.map_nil, tWriter]; repeat' (first | exact Ok.out | with_reducible refine And.intro ?_ ?_))
      · (simp only [go_sem, hlt, hget, hpu, hinc, Int.reduceLE, ↓reduceIte, reduceCtorEq, Nat.reduceEqDiff, Nat.reduceLeDiff, Nat.reduceAdd, Nat.reduceMul, Nat.reduceSub, Nat.reduceLT, bobj, encBy, List.map_nil, tWriter]; repeat' (first | exact Ok.out | with_reducible refine And.intro ?_ ?_))

end Go.Abs

/-! PrMay -/

namespace Go.Abs
set_option linter.unusedSimpArgs false
set_option linter.unusedVariables false

mutual
/-- Its numbers are numbers. -/
def Sm.rng : Sm → Prop
  | ⟨_, _, _, _, _, x, _, args, thn, els⟩ => x.rng ∧ (∀ a ∈ args, a.x.rng) ∧ Sm.rngs thn ∧ Sm.rngs els
def Sm.rngs : List Sm → Prop
  | [] => True
  | s :: l => s.rng ∧ Sm.rngs l
end
def Pg.rng (p : Pg) : Prop := ∀ f ∈ p.procs, Sm.rngs f.body
theorem Sm.rng_eq (s : Sm) : s.rng ↔ s.x.rng ∧ (∀ a ∈ s.args, a.x.rng) ∧ Sm.rngs s.thn ∧ Sm.rngs s.els := by cases s; simp only [Sm.rng]

theorem one_PrO {s : Sm} (h : s.one = true) (hx : s.x.rng) (ha : ∀ a ∈ s.args, a.x.rng) : s.PrO := by
  unfold Sm.one at h
  split at h
  · cases h
  rename_i c1
  split at h
  · cases h
  rename_i c2
  split at h
  · cases h
  rename_i c3
  split at h
  · cases h
  rename_i c4
  simp only [Bool.or_eq_true, Bool.and_eq_true, decide_eq_true_eq, Bool.not_eq_true', not_or, Bool.not_eq_false, not_and, Bool.not_eq_true] at c1 c2 c3 c4
  refine ⟨fun k => may_formI (c1.1.1.2 k) hx, fun t ht => isName_len (mayNames_mem c1.1.1.1.2 ht), ?_, ?_, fun a m => ?_, by omega, fun k => ?_⟩
  · cases hn : s.hasName with
    | true => exact isName_len (c2.1 hn)
    | false =>
      by_cases e : s.name = []
      · rw [e]; simp
      · exact isName_len (c2.2 ⟨hn, by simpa using e⟩).2
  · cases hn : s.isCall with
    | true => exact isName_len (c3.1.2 hn)
    | false =>
      have : s.proc = [] := by
        have := c3.1.1
        rw [hn] at this
        simpa using this
      rw [this]; simp
  · have hm := mays_mem c4 m
    unfold Ar.may at hm
    split at hm
    · rename_i hr
      simp only [Bool.and_eq_true] at hm
      exact ⟨isName_len hm.1, fun h => by rw [hr] at h; cases h⟩
    · simp only [Bool.and_eq_true, beq_iff_eq] at hm
      exact ⟨by rw [hm.1]; simp, fun _ => may_formI hm.2 (ha a m)⟩
  · simp only [Bool.and_eq_true, Bool.or_eq_true, beq_iff_eq] at h
    rcases h.2 with h | h
    · exact List.eq_nil_of_length_eq_zero (by omega)
    · omega

mutual
theorem mayR_PrR : ∀ (s : Sm) (inn n : Nat), (inn : Int) ≤ 12 → (Sm.mayR inn n s).1 = true → s.rng → s.PrR inn
  | ⟨id, kind, labels, name, proc, x, has, args, thn, els⟩, inn, n, h12, hm, hr => by
    obtain ⟨_, _, h1, h2, h3, _⟩ := mayR_true hm
    obtain ⟨r1, r2, r3, r4⟩ := (Sm.rng_eq _).1 hr
    rw [PrR_eq]
    have t2 := mayG_true h2
    have t3 := mayG_true h3
    rw [t2.2] at h2
    rw [t3.2] at h3
    refine ⟨one_PrO h1 r1 r2, by omega, ?_, ?_⟩
    · exact mayL_PrR thn (inn + 1) _ (t2.1.imp_right fun h => by omega) (by simpa using h2) r3
    · exact mayL_PrR els (inn + 1) _ (t3.1.imp_right fun h => by omega) (by simpa using h3) r4
theorem mayL_PrR : ∀ (l : List Sm) (inn n : Nat), (l = [] ∨ (inn : Int) ≤ 12) → (Sm.mayL inn n l).1 = true → Sm.rngs l → Sm.PrRs inn l
  | [], _, _, _, _, _ => by simp only [Sm.PrRs]
  | s :: l, inn, n, h12, hm, hr => by
    have h12 : (inn : Int) ≤ 12 := h12.resolve_left (by simp)
    simp only [Sm.mayL] at hm
    simp only [Sm.rngs] at hr
    split at hm
    · cases hm
    rename_i hc
    simp only [Bool.not_eq_true', Bool.not_eq_false] at hc
    exact ⟨mayR_PrR s inn n h12 hc hr.1, mayL_PrR l inn _ (.inr h12) hm hr.2⟩
end

theorem pmayL_mem {f : Pc} : ∀ {l : List Pc} {n : Nat}, Pc.mayL n l = true → f ∈ l → (isName f.name = true ∧ mayNames f.vars = true ∧ mayNames f.fin = true ∧ Pm.mays f.params = true) ∧ ∃ n, (Sm.mayG 1 n f.body).1 = true
  | g :: l, n, h, m => by
    simp only [Pc.mayL] at h
    split at h
    · cases h
    rename_i c1
    split at h
    · cases h
    rename_i c2
    split at h
    · cases h
    rename_i c3
    simp only [Bool.or_eq_true, Bool.not_eq_true', not_or, Bool.not_eq_false] at c1 c2 c3
    rcases List.mem_cons.1 m with rfl | m
    · exact ⟨⟨c1.1.1.2, c1.1.2, c1.2, c2⟩, n, c3⟩
    · exact pmayL_mem h m

theorem may_PrG {p : Pg} (h : p.may = true) (hr : p.rng) : p.PrG := by
  rw [← mayP_eq] at h
  unfold Pg.mayP at h
  split at h
  · cases h
  rename_i c
  simp only [Bool.or_eq_true, Bool.not_eq_true', not_or, Bool.not_eq_false] at c
  refine ⟨fun t ht => isName_len (mayNames_mem c.2 ht), fun f hf => ?_⟩
  obtain ⟨⟨a, b, c, d⟩, n, e⟩ := pmayL_mem h hf
  have t := mayG_true e
  rw [t.2] at e
  exact ⟨isName_len a, fun x hx => isName_len (pmays_mem d hx), fun x hx => isName_len (mayNames_mem b hx), fun x hx => isName_len (mayNames_mem c hx), mayL_PrR f.body 1 n (.inr (by omega)) e (hr f hf)⟩

/-! ### It is asked alike -/

mutual
theorem mayR_FineD : ∀ (s : Sm) (nest : Int) (n : Nat), (Sm.mayR nest n s).1 = true → s.size < 4611686018427387000 → s.FineD
  | ⟨id, kind, labels, name, proc, x, has, args, thn, els⟩, nest, n, hm, hs => by
    obtain ⟨_, _, h1, h2, h3, _⟩ := mayR_true hm
    rw [FineD_eq]
    rw [(mayG_true h2).2] at h2
    rw [(mayG_true h3).2] at h3
    refine ⟨one_fine h1 hs, mayL_FineD thn _ _ h2 ?_, mayL_FineD els _ _ h3 ?_⟩ <;> simp only [Sm.size] at hs <;> omega
theorem mayL_FineD : ∀ (l : List Sm) (nest : Int) (n : Nat), (Sm.mayL nest n l).1 = true → Sm.sizes l < 4611686018427387000 → Sm.FineDs l
  | [], _, _, _, _ => by simp only [Sm.FineDs]
  | s :: l, nest, n, hm, hs => by
    simp only [Sm.mayL] at hm
    simp only [Sm.sizes] at hs
    split at hm
    · cases hm
    rename_i hc
    simp only [Bool.not_eq_true', Bool.not_eq_false] at hc
    exact ⟨mayR_FineD s nest n hc (by omega), mayL_FineD l nest _ hm (by omega)⟩
end
theorem may_FineP {p : Pg} (h : p.may = true) (hs : p.size < 4611686018427387000) : p.FineP := by
  have hf := may_fine h hs
  rw [← mayP_eq] at h
  unfold Pg.mayP at h
  split at h
  · cases h
  refine ⟨hf.sz, hf.glob, hf.heads, fun f m => ?_⟩
  obtain ⟨_, n, e⟩ := pmayL_mem h m
  rw [(mayG_true e).2] at e
  have := Pc.sizes_mem m
  simp only [Pg.size] at hs
  exact mayL_FineD f.body 1 n e (by unfold Pc.size at this; omega)

end Go.Abs

/-! Fits1 -/

namespace Go.Abs

set_option maxRecDepth 8000
set_option linter.unusedSimpArgs false
set_option linter.unusedVariables false
open Go.Proofs

def weighTs : List Str → Int → Int
  | [], n => n
  | t :: l, n => if n ≤ 20000 then weighTs l (weighT t n) else n
def weighAs : List Ar → Int → Int
  | [], n => n
  | a :: l, n => if n ≤ 20000 then weighAs l (weighT a.name (weighE a.x n)) else n
def weighMs : List Pm → Int → Int
  | [], n => n
  | a :: l, n => if n ≤ 20000 then weighMs l (weighT a.name n) else n
mutual
def weighS : Sm → Int → Int
  | ⟨_, _, labels, name, proc, x, _, args, thn, els⟩, n => weighSs els (weighSs thn (weighAs args (weighT proc (weighT name (weighTs labels (weighE x n))))))
def weighSs : List Sm → Int → Int
  | [], n => n
  | s :: l, n => if n ≤ 20000 then weighSs l (weighS s n) else n
end
def weighF (f : Pc) (n : Int) : Int := weighSs f.body (weighMs f.params (weighTs f.fin (weighTs f.vars (weighT f.name n))))
def weighFs : List Pc → Int → Int
  | [], n => n
  | f :: l, n => if n ≤ 20000 then weighFs l (weighF f n) else n
def Pg.weigh (p : Pg) : Int := weighFs p.procs (weighTs p.globals 0)


/-! ### The walk -/

end Go.Abs

/-! Fits2 -/

namespace Go.Abs

set_option maxRecDepth 8000
set_option linter.unusedSimpArgs false
set_option linter.unusedVariables false
open Go.Proofs

end Go.Abs

/-! Pr5 -/

namespace Go.Abs

set_option maxRecDepth 8000
set_option linter.unusedSimpArgs false
set_option linter.unusedVariables false
open Go.Proofs

def muchR (x : Ex) : Int := if arityI x.op < 2 then 7 else bindB x.op
/-! ### Texts -/

def joinF (sep : Str) : Nat → List Str → Str
  | _, [] => []
  | k, a :: l => (if k = 0 then [] else sep) ++ (a ++ joinF sep (k + 1) l)
end Go.Abs

/-! Pr6 -/

namespace Go.Abs

set_option maxRecDepth 8000
set_option linter.unusedSimpArgs false
set_option linter.unusedVariables false
open Go.Proofs

/-- A statement's first line. -/
def lineT (s : Sm) : Str := if s.kind = 6 then [119, 104, 105, 108, 101, 32, 40] ++ prE 0 s.x ++ [41, 32, 123] else if s.kind = 5 then [105, 102, 32, 40] ++ prE 0 s.x ++ [41, 32, 123] else plainS s.kind s.name s.proc s.x s.has s.args ++ [59]

end Go.Abs

/-! Pr7 -/

namespace Go.Abs

set_option maxRecDepth 8000
set_option linter.unusedSimpArgs false
set_option linter.unusedVariables false
open Go.Proofs

end Go.Abs

/-! Pr8 -/

namespace Go.Abs

set_option maxRecDepth 8000
set_option linter.unusedSimpArgs false
set_option linter.unusedVariables false
open Go.Proofs

end Go.Abs

/-! Some -/

namespace Go.Abs

set_option maxRecDepth 8000
set_option linter.unusedSimpArgs false
set_option linter.unusedVariables false
open Go.Proofs

theorem some_may : some0.may = true := by decide +kernel
theorem some_text : textS some0 = source := by decide +kernel
theorem some_rng : some0.rng := by
  intro f hf
  simp only [some0, List.mem_cons, List.not_mem_nil, or_false] at hf
  rcases hf with rfl | rfl <;> simp [Sm.rngs, Sm.rng, Ex.rng, Ex.rngs, exNum, exName, exTwo, ex0]

def prB : Pc := ⟨[112], [⟨[120], false⟩, ⟨[121], true⟩], [], [
    ⟨5, 1, [], [121], [], exTwo 8 (exName [121]) (exName [120]), false, [], [], []⟩,
    ⟨6, 5, [], [], [], exTwo 12 (exName [121]) (exNum 9), false, [], [⟨7, 10, [], [101], [], ex0, false, [], [], []⟩], []⟩,
    ⟨8, 9, [], [], [], exName [121], true, [], [], []⟩], [[101]]⟩
def stB : Sm := ⟨6, 5, [], [], [], exTwo 12 (exName [121]) (exNum 9), false, [], [⟨7, 10, [], [101], [], ex0, false, [], [], []⟩], []⟩
theorem some_prB : some0.procs[1]? = some prB := rfl
theorem some_stB : prB.body[1]? = some stB := rfl

theorem printed5_s (s : St) : Fun Tryd.prog n_law5_printed [] s (.bool true) s := by
  refine Fun.pure ?_ rfl rfl s
  have hsz : some0.size ≤ 1000000 := by decide +kernel
  have h1 := pText_s (may_FineP some_may (by omega)) (fun _ => may_PrG some_may some_rng) hsz
  rw [if_pos some_may, some_text] at h1
  have h2 := pExpr_s (x := stB.x) (by simp [stB, Ex.rng, Ex.rngs, exNum, exName, exTwo]) (by decide) (by simp [stB, Ex.texts, Ex.textss, exNum, exName, exTwo]) (by decide)
  have e : printE stB.x = [121, 32, 62, 32, 57] := by decide +kernel
  rw [e] at h2
  have b1 : (source == source) = true := beq_self_eq_true _
  have b2 : (([121, 32, 62, 32, 57] : Str) == [121, 32, 62, 32, 57]) = true := rfl
  have e1 := some_prB
  have e2 := some_stB
  have hS := fun s => Some_s s
  generalize some0 = P at *
  generalize prB = F at *
  generalize stB = T at *
  unfold S0
  refine Fun.go has_law5_printed rfl fun B Q hB hQ => ?_
  have hlt : 0 < 1 := Nat.zero_lt_one
  have hget : 0 < 1 := Nat.zero_lt_one
  have hpu : 0 < 1 := Nat.zero_lt_one
  have hinc : 0 < 1 := Nat.zero_lt_one
  repeat' (first
 | simp only [go_sem, hlt, hget, hpu, hinc, Int.reduceLE, ↓reduceIte, reduceCtorEq, Nat.reduceEqDiff, Nat.reduceLeDiff, Nat.reduceAdd, Nat.reduceMul, Nat.reduceSub, Nat.reduceLT, Int.toNat_one, e1, e2, b1, b2]
 | (with_reducible refine CU (hS _) ?_)
 | (with_reducible refine CU (h1 _) ?_)
 | (with_reducible refine CU (h2 _) ?_)
 | (with_reducible refine CU (Source_s _) ?_)
 | (with_reducible first | refine CB_ofT (by assumption) fun hc => ?_ | refine CB_ofF (by assumption) fun hc => ?_ | refine CB_split (fun hc => ?_) fun hc => ?_) <;> (try simp only [hc, bs, ↓reduceIte] at h) <;> (try simp only [hc])
 | ((with_reducible first | refine leafR hQ ?_ | refine leafN hQ ?_); (try cases h); simp only [resL, oneD, Option.some.injEq, exists_eq_left', go_sem, hlt, hget, hpu, hinc, Int.reduceLE, ↓reduceIte, reduceCtorEq, Nat.reduceEqDiff, Nat.reduceLeDiff, Nat.reduceAdd, Nat.reduceMul, Nat.reduceSub, Nat.reduceLT, Int.toNat_one, e1, e2, b1, b2]; repeat' (first | exact Ok.out | with_reducible refine And.intro ?_ ?_ | (simp; done)))
 | (cases h; replace h := hr; clear hr; (try simp only [bs, ↓reduceIte] at h))
 | (cases h; done))

end Go.Abs

/-! LawPr1 -/

namespace Go.Abs

set_option maxRecDepth 8000
set_option linter.unusedSimpArgs false
set_option linter.unusedVariables false
open Go.Proofs

theorem weighE_fits {x : Ex} (h : weighE x 0 ≤ 20000) : x.size ≤ 40001 ∧ x.texts := by
  obtain ⟨a1, a2, a3, a4⟩ := weigh_in _ x (Nat.le_refl _) 0 (by omega)
  obtain ⟨b1, b2⟩ := a4 h
  exact ⟨by omega, b2⟩

end Go.Abs

/-! LawPr2 -/

namespace Go.Abs

set_option maxRecDepth 8000
set_option linter.unusedSimpArgs false
set_option linter.unusedVariables false
open Go.Proofs

end Go.Abs

/-! Few -/

namespace Go.Abs
set_option linter.unusedSimpArgs false
set_option linter.unusedVariables false

/-- How many brackets open. -/
def opens (s : Str) : Nat := (s.map fun c => if c = 40 then 1 else 0).sum
theorem opens_app (a b : Str) : opens (a ++ b) = opens a + opens b := by simp [opens]
theorem opens_cons (c : UInt8) (s : Str) : opens (c :: s) = (if c = 40 then 1 else 0) + opens s := by simp [opens]
theorem opens_drop (s : Str) (k : Nat) : opens (s.drop k) ≤ opens s := by
  have := opens_app (s.take k) (s.drop k)
  rw [List.take_append_drop] at this
  omega

/-- How deep it goes, at the end. -/
def bal (s : Str) : Int := (s.map fun c => if c = 40 then (1 : Int) else if c = 41 then -1 else 0).sum
theorem bal_app (a b : Str) : bal (a ++ b) = bal a + bal b := by simp [bal]
theorem bal_cons (c : UInt8) (s : Str) : bal (c :: s) = (if c = 40 then (1 : Int) else if c = 41 then -1 else 0) + bal s := by simp [bal]
structure Bl (s : Str) : Prop where
  z : bal s = 0
  nn : ∀ j, 0 ≤ bal (s.take j)
theorem Bl.app {a b : Str} (ha : Bl a) (hb : Bl b) : Bl (a ++ b) := by
  refine ⟨by rw [bal_app, ha.z, hb.z]; rfl, fun j => ?_⟩
  rw [List.take_append, bal_app]
  by_cases h : j ≤ a.length
  · have : b.take (j - a.length) = [] := by rw [Nat.sub_eq_zero_of_le h]; rfl
    rw [this]
    have := ha.nn j
    simp only [bal, List.map_nil, List.sum_nil] at this ⊢
    omega
  · have e : a.take j = a := List.take_of_length_le (by omega)
    rw [e, ha.z]
    have := hb.nn (j - a.length)
    omega
theorem Bl.flat : ∀ {s : Str}, (∀ c ∈ s, c ≠ 40 ∧ c ≠ 41) → Bl s := by
  have key : ∀ s : Str, (∀ c ∈ s, c ≠ 40 ∧ c ≠ 41) → bal s = 0 := by
    intro s
    induction s with
    | nil => intro _; rfl
    | cons c s ih =>
      intro h
      have := h c (by simp)
      rw [bal_cons, if_neg this.1, if_neg this.2, ih fun d hd => h d (List.mem_cons_of_mem _ hd)]
      rfl
  intro s h
  exact ⟨key s h, fun j => by rw [key _ fun c hc => h c (List.mem_of_mem_take hc)]; exact Int.le_refl _⟩
theorem Bl.shut {s : Str} (h : Bl s) : Bl ([40] ++ s ++ [41]) := by
  refine ⟨by rw [bal_app, bal_app, h.z]; rfl, fun j => ?_⟩
  cases j with
  | zero => exact Int.le_refl _
  | succ j =>
    have e : ([40] ++ s ++ [41]).take (j + 1) = 40 :: (s ++ [41]).take j := rfl
    rw [e, bal_cons, if_pos rfl, List.take_append, bal_app]
    have h1 := h.nn j
    have : -1 ≤ bal (([41] : Str).take (j - s.length)) := by
      cases j - s.length with
      | zero => decide
      | succ k => simp [bal]
    omega

theorem flat_name {t : Str} (h : isName t = true) : ∀ c ∈ t, c ≠ 40 ∧ c ≠ 41 := by
  have ld : ∀ c : UInt8, (isL c || isD c) = true → c ≠ 40 ∧ c ≠ 41 := by
    intro c hc
    constructor <;> rintro rfl <;> simp (decide := true) at hc
  have all : ∀ r : Str, nameT r = true → ∀ c ∈ r, (isL c || isD c) = true := by
    intro r
    induction r with
    | nil => intro _ c hc; cases hc
    | cons d r ih =>
      intro hr c hc
      simp only [nameT] at hr
      split at hr
      · cases hr
      rename_i hd
      rcases List.mem_cons.1 hc with rfl | hc
      · cases h1 : isL c <;> cases h2 : isD c <;> simp [h1, h2] at hd ⊢
      · exact ih hr c hc
  cases t with
  | nil => intro c hc; cases hc
  | cons c r =>
    simp only [isName] at h
    split at h
    · cases h
    rename_i hc
    split at h
    · rename_i hn
      intro d hd
      rcases List.mem_cons.1 hd with rfl | hd
      · simp only [Bool.or_eq_true, not_or, Bool.not_eq_true', Bool.not_eq_false] at hc
        exact ld _ (by rw [hc.2]; rfl)
      · exact ld _ (all r hn d hd)
    · cases h
theorem flat_dig (n : Nat) : ∀ c ∈ digF 20 n, c ≠ 40 ∧ c ≠ 41 := by
  intro c hc
  have := digF_dig 20 n c hc
  constructor <;> rintro rfl <;> simp (decide := true) at this
theorem flat_sign {op : Int} (h : (decide (5 ≤ op) && decide (op ≤ 17)) = true) : ∀ c ∈ signR op, c ≠ 40 ∧ c ≠ 41 := by
  rcases signs h with rfl | rfl | rfl | rfl | rfl | rfl | rfl | rfl | rfl | rfl | rfl | rfl | rfl <;> decide
theorem opens_flat {s : Str} (h : ∀ c ∈ s, c ≠ 40 ∧ c ≠ 41) : opens s = 0 := by
  induction s with
  | nil => rfl
  | cons c s ih =>
    rw [opens_cons, if_neg (h c (by simp)).1, ih fun d hd => h d (List.mem_cons_of_mem _ hd)]

/-- An expression's text is balanced; its brackets are those that must be. -/
theorem pr_bal {x : Ex} (h : FormI x) : ∀ least, Bl (prE least x) ∧ opens (prE least x) = exW 0 1 least x := by
  induction h with
  | num n => intro least; rw [pr_num]; exact ⟨.flat (flat_dig _), by rw [opens_flat (flat_dig _)]; rfl⟩
  | name t ht => intro least; rw [pr_name]; exact ⟨.flat (flat_name ht), by rw [opens_flat (flat_name ht)]; rfl⟩
  | neg y _ ih =>
    intro least; rw [pr_neg]
    exact ⟨(Bl.flat (s := [45]) (by decide)).app (ih 7).1, by rw [opens_app, (ih 7).2]; simp [exW, opens]⟩
  | no y _ ih =>
    intro least; rw [pr_no]
    exact ⟨(Bl.flat (s := [33]) (by decide)).app (ih 7).1, by rw [opens_app, (ih 7).2]; simp [exW, opens]⟩
  | two op a b ho _ _ iha ihb =>
    intro least
    have hs : Bl [32] := .flat (by decide)
    have e1 : opens [32] = 0 := by decide
    have hT : Bl (prT op a b) ∧ opens (prT op a b) = exW 0 1 (bindB op) a + 0 + exW 0 1 (bindB op + 1) b := by
      unfold prT
      refine ⟨((((iha _).1.app hs).app (.flat (flat_sign ho))).app hs).app (ihb _).1, ?_⟩
      rw [opens_app, opens_app, opens_app, opens_app, (iha _).2, (ihb _).2, opens_flat (flat_sign ho), e1]
      all_goals omega
    rw [pr_two]
    simp only [exW]
    split
    · refine ⟨hT.1.shut, ?_⟩
      rw [opens_app, opens_app, hT.2]
      have e2 : opens [40] = 1 := by decide
      have e3 : opens [41] = 0 := by decide
      omega
    · exact ⟨hT.1, by rw [hT.2]; omega⟩

theorem exW_01 {x : Ex} (h : FormI x) : exW 0 1 0 x ≤ exW 0 1 1 x := exW_mono (by omega) x

/-- A text's tokens have no more brackets than the text. -/
theorem lx_opens {pos : Nat} {s : Str} {l : List Tok} (h : Lx pos s l) : (l.map (wt 0 1)).sum ≤ opens s := by
  induction h with
  | nil => simp
  | blank pos c r l _ _ ih => rw [opens_cons]; omega
  | rem pos c r l _ _ _ ih => exact Nat.le_trans ih (opens_drop _ _)
  | tok pos c r t l _ _ ht _ ih =>
    obtain ⟨_, _, rest, e⟩ := tokE_text ht
    rw [e, List.drop_left] at ih
    rw [e, opens_app, List.map_cons, List.sum_cons]
    have : wt 0 1 t ≤ opens t.text := by
      unfold wt
      split
      · rename_i h; rw [h]; decide
      · exact Nat.zero_le _
    omega

/-- What is read as an expression has the brackets that must be. -/
theorem expr_opens {m : Nat} {s : Str} {x : Ex} {f : Int} (h : exprM m s = some (x, 0, f)) : exW 0 1 1 x ≤ opens s := by
  unfold exprM at h
  split at h
  · rename_i hc
    have h2 : (lexAll s).2 = (0, f) := (Prod.mk.inj (Option.some.inj h)).2
    rw [h2] at hc
    simp at hc
  rename_i hc
  obtain ⟨l, h1, _, _, h4⟩ := Lx_lexAll (s := s) (by simpa using hc)
  rw [h4] at h
  dsimp only at h
  rw [Option.bind_eq_some_iff] at h
  obtain ⟨w, hw, h⟩ := h
  have hgood : w.2.good = true ∧ w.1 = x := by
    rw [Option.bind_eq_some_iff] at h
    obtain ⟨b, _, h⟩ := h
    split at h
    · rw [Option.bind_eq_some_iff] at h
      obtain ⟨r, hr, h⟩ := h
      obtain ⟨_, g⟩ := bad_g (by decide) r hr
      rw [g] at h
      simp only [Bool.not_false, ↓reduceIte, Option.some.injEq, Prod.mk.injEq] at h
      have := h.2.1
      have g' : (r.code == 0) = false := g
      rw [this] at g'
      cases g'
    · split at h
      · rename_i hg
        simp only [Option.some.injEq, Prod.mk.injEq] at h
        have g' : (w.2.code == 0) = false := by simpa using hg
        rw [h.2.1] at g'
        cases g'
      · rename_i hg
        cases h
        exact ⟨by simpa using hg, rfl⟩
  unfold Rd.whole at hw
  rw [Option.bind_eq_some_iff] at hw
  obtain ⟨t, _, hw⟩ := hw
  rw [Option.bind_eq_some_iff] at hw
  obtain ⟨y, h2, hw⟩ := hw
  have hyw : y.2.good = true ∧ w.1 = y.1 := by
    split at hw
    · rename_i hg
      rw [Option.bind_eq_some_iff] at hw
      obtain ⟨d, _, hw⟩ := hw
      split at hw
      · cases hw; exact ⟨hg, rfl⟩
      · cases hw; exact ⟨hg, rfl⟩
    · rename_i hg
      cases hw
      exact absurd hgood.1 hg
  have := (((expr_ck 0 1 (by omega) m).2.1 _ 1 (by omega) y h2).2 hyw.1).2.1
  rw [← hgood.2, hyw.2]
  have h5 := pre_le (wa := 0) (wp := 1) (l ++ [tEnd s.length]) y.2.i
  have h6 := lx_opens h1
  have e : ((l ++ [tEnd s.length]).map (wt 0 1)).sum = (l.map (wt 0 1)).sum := by
    rw [List.map_append, List.sum_append]; rfl
  rw [e] at h5
  have : exW 0 1 1 y.1 + pre 0 1 (l ++ [tEnd s.length]) 0 ≤ pre 0 1 (l ++ [tEnd s.length]) y.2.i := this
  omega

/-! ### Without a pair -/

def withoutM (s : Str) (a b : Nat) : Str := s.take a ++ (s.take b).drop (a + 1) ++ s.drop (b + 1)
theorem without_opens {s : Str} {a b : Nat} (ha : s[a]? = some 40) (hab : a < b) : opens (withoutM s a b) + 1 ≤ opens s := by
  unfold withoutM
  rw [opens_app, opens_app]
  have e : s = s.take a ++ 40 :: s.drop (a + 1) := by
    have h1 : s.drop a = 40 :: s.drop (a + 1) := by
      have hlt := (List.getElem?_eq_some_iff.1 ha).1
      rw [List.drop_eq_getElem_cons hlt, (List.getElem?_eq_some_iff.1 ha).2]
    rw [← h1, List.take_append_drop]
  have h2 : opens s = opens (s.take a) + (1 + opens (s.drop (a + 1))) := by
    conv => lhs; rw [e]
    rw [opens_app, opens_cons, if_pos rfl]
  have h3 : opens (s.drop (a + 1)) = opens ((s.take b).drop (a + 1)) + opens (s.drop b) := by
    rw [← opens_app]
    congr 1
    rw [List.drop_take]
    have : s.drop b = (s.drop (a + 1)).drop (b - (a + 1)) := by rw [List.drop_drop]; congr 1; omega
    rw [this, List.take_append_drop]
  have h4 : opens (s.drop (b + 1)) ≤ opens (s.drop b) := by
    have := opens_drop (s.drop b) 1
    rw [List.drop_drop] at this
    exact this
  omega

/-- Where it is closed. -/
def closeF (n : Int) (i : Nat) : Str → Option Nat
  | [] => none
  | c :: s =>
    let n1 := if (c.toNat : Int) == 40 then n + 1 else n
    let n2 := if (c.toNat : Int) == 41 then n1 - 1 else n1
    if n2 == 0 then some i else closeF n2 (i + 1) s
theorem byte_eq (c : UInt8) (k : Nat) (hk : k < 256) : ((c.toNat : Int) == (k : Int)) = (c == UInt8.ofNat k) := by
  rw [Bool.eq_iff_iff]
  simp only [beq_iff_eq]
  constructor
  · intro h
    have : c.toNat = k := by omega
    rw [← this]; simp
  · rintro rfl
    simp [UInt8.toNat_ofNat']; omega
theorem close_some : ∀ (s : Str) (n : Int) (i : Nat), 1 ≤ n → n + bal s ≤ 0 → ∃ e, closeF n i s = some e ∧ i ≤ e ∧ e < i + s.length
  | [], n, i, h1, h2 => by simp only [bal, List.map_nil, List.sum_nil] at h2; omega
  | c :: s, n, i, h1, h2 => by
    rw [bal_cons] at h2
    have b40 : ((c.toNat : Int) == 40) = (c == 40) := byte_eq c 40 (by decide)
    have b41 : ((c.toNat : Int) == 41) = (c == 41) := byte_eq c 41 (by decide)
    have fin : ∀ n2 : Int, (0 ≤ n2) → n2 + bal s ≤ 0 → ∃ e, (if n2 == 0 then some i else closeF n2 (i + 1) s) = some e ∧ i ≤ e ∧ e < i + (c :: s).length := by
      intro n2 h3 h4
      by_cases h0 : n2 = 0
      · exact ⟨i, by simp [h0], Nat.le_refl _, by simp only [List.length_cons]; omega⟩
      · obtain ⟨e, g1, g2, g3⟩ := close_some s n2 (i + 1) (by omega) h4
        exact ⟨e, by rw [if_neg (by simpa using h0)]; exact g1, by omega, by simp only [List.length_cons]; omega⟩
    simp only [closeF, b40, b41]
    by_cases c40 : c = 40
    · subst c40
      rw [if_pos rfl] at h2
      exact fin _ (by simp (decide := true); omega) (by simp (decide := true); omega)
    · rw [if_neg c40] at h2
      by_cases c41 : c = 41
      · subst c41
        rw [if_pos rfl] at h2
        exact fin _ (by simp (decide := true); omega) (by simp (decide := true); omega)
      · rw [if_neg c41] at h2
        have e1 : (c == 40) = false := by simpa using c40
        have e2 : (c == 41) = false := by simpa using c41
        rw [e1, e2]
        exact fin _ (by simp; omega) (by simp; omega)
theorem closes {s : Str} (hb : Bl s) {i : Nat} (h : s[i]? = some 40) : ∃ e, closeF 0 i (s.drop i) = some e ∧ i < e ∧ e < s.length := by
  have hlt := (List.getElem?_eq_some_iff.1 h).1
  have e : s.drop i = 40 :: s.drop (i + 1) := by rw [List.drop_eq_getElem_cons hlt, (List.getElem?_eq_some_iff.1 h).2]
  have h1 : bal (s.drop i) ≤ 0 := by
    have := bal_app (s.take i) (s.drop i)
    rw [List.take_append_drop, hb.z] at this
    have := hb.nn i
    omega
  rw [e, bal_cons, if_pos rfl] at h1
  obtain ⟨k, g1, g2, g3⟩ := close_some (s.drop (i + 1)) 1 (i + 1) (by omega) (by omega)
  rw [List.length_drop] at g3
  refine ⟨k, ?_, by omega, by omega⟩
  rw [e]
  simp only [closeF]
  simpa (decide := true) using g1

end Go.Abs

/-! LawPr5 -/

namespace Go.Abs

set_option maxRecDepth 8000
set_option linter.unusedSimpArgs false
set_option linter.unusedVariables false
open Go.Proofs

theorem closing_s {s : Str} {at_ : Nat} (hl : s.length < 1000000000) (ha : at_ ≤ s.length) (st : St) : Fun Tryd.prog n_law5_closing [.str s, .int .i64 (at_ : Nat)] st (.int .i64 (((closeF 0 at_ (s.drop at_)).getD at_ : Nat))) st := by
  refine Fun.pure ?_ rfl rfl st
  unfold S0
  generalize hR : closeF 0 at_ (s.drop at_) = R
  refine Fun.go has_law5_closing rfl fun B Q hB hQ => ?_
  have hlt : 0 < 1 := Nat.zero_lt_one
  have hget : 0 < 1 := Nat.zero_lt_one
  have hpu : 0 < 1 := Nat.zero_lt_one
  have hinc : 0 < 1 := Nat.zero_lt_one
  repeat' (first
 | simp only [go_sem, hlt, hget, hpu, hinc, Int.reduceLE, ↓reduceIte, reduceCtorEq, Nat.reduceEqDiff, Nat.reduceLeDiff, Nat.reduceAdd, Nat.reduceMul, Nat.reduceSub, Nat.reduceLT]
 | (with_reducible first | refine CB_ofT (by assumption) fun hc => ?_ | refine CB_ofF (by assumption) fun hc => ?_ | refine CB_split (fun hc => ?_) fun hc => ?_) <;> (try simp only [hc, bs, ↓reduceIte] at h) <;> (try simp only [hc])
 | ((with_reducible first | refine leafR hQ ?_ | refine leafN hQ ?_); (try cases h); simp only [resL, oneD, Option.some.injEq, exists_eq_left', go_sem, hlt, hget, hpu, hinc, Int.reduceLE, ↓reduceIte, reduceCtorEq, Nat.reduceEqDiff, Nat.reduceLeDiff, Nat.reduceAdd, Nat.reduceMul, Nat.reduceSub, Nat.reduceLT]; repeat' (first | exact Ok.out | with_reducible refine And.intro ?_ ?_ | (simp; done)))
 | (cases h; replace h := hr; clear hr; (try simp only [bs, ↓reduceIte] at h))
 | (cases h; done))
  refine SemL.re _ _ 0 0 (by rw [hB]; exact Nat.le_of_ble_eq_true rfl) (by rw [hB]; exact Nat.le_of_ble_eq_true rfl) ?_ ?_ (SemL.ind (ι := Str × Nat × Int) (fun i => s.drop i.2.1 = i.1 ∧ closeF i.2.2 i.2.1 i.1 = R ∧ -(i.2.1 : Int) ≤ i.2.2 ∧ i.2.2 ≤ i.2.1 ∧ i.2.1 ≤ s.length) (fun i => i.1.length)
    (fun i => [(0, .str s), (1, .int .i64 (at_ : Nat)), (5, .int .i64 i.2.2), (6, .int .i64 (i.2.1 : Nat))]) (fun i => ⟨[], []⟩) ?_ (s.drop at_, at_, 0) ⟨rfl, hR, by dsimp only; omega, by dsimp only; omega, ha⟩)
  · (simp only [go_sem, hlt, hget, hpu, hinc, Int.reduceLE, ↓reduceIte, reduceCtorEq, Nat.reduceEqDiff, Nat.reduceLeDiff, Nat.reduceAdd, Nat.reduceMul, Nat.reduceSub, Nat.reduceLT]; repeat' (first | exact Ok.out | with_reducible refine And.intro ?_ ?_))
  · (simp only [go_sem, hlt, hget, hpu, hinc, Int.reduceLE, ↓reduceIte, reduceCtorEq, Nat.reduceEqDiff, Nat.reduceLeDiff, Nat.reduceAdd, Nat.reduceMul, Nat.reduceSub, Nat.reduceLT]; repeat' (first | exact Ok.out | with_reducible refine And.intro ?_ ?_))
  rintro ⟨rest, i, n⟩ ⟨g1, h, b1, b2, b3⟩ IH
  dsimp only at g1 h b1 b2 b3
  cases rest with
  | nil =>
    have hlt := drop_nil g1
    simp only [closeF] at h
    subst h
    repeat' (first
 | simp only [go_sem, hlt, hget, hpu, hinc, Int.reduceLE, ↓reduceIte, reduceCtorEq, Nat.reduceEqDiff, Nat.reduceLeDiff, Nat.reduceAdd, Nat.reduceMul, Nat.reduceSub, Nat.reduceLT, Option.getD_none]
 | (with_reducible first | refine CB_ofT (by assumption) fun hc => ?_ | refine CB_ofF (by assumption) fun hc => ?_ | refine CB_split (fun hc => ?_) fun hc => ?_) <;> (try simp only [hc, bs, ↓reduceIte] at h) <;> (try simp only [hc])
 | ((with_reducible first | refine leafR hQ ?_ | refine leafN hQ ?_); (try cases h); simp only [resL, oneD, Option.some.injEq, exists_eq_left', go_sem, hlt, hget, hpu, hinc, Int.reduceLE, ↓reduceIte, reduceCtorEq, Nat.reduceEqDiff, Nat.reduceLeDiff, Nat.reduceAdd, Nat.reduceMul, Nat.reduceSub, Nat.reduceLT, Option.getD_none]; repeat' (first | exact Ok.out | with_reducible refine And.intro ?_ ?_ | (simp; done)))
 | (cases h; replace h := hr; clear hr; (try simp only [bs, ↓reduceIte] at h))
 | (cases h; done))
  | cons c rest =>
    obtain ⟨hget, g2, hlt, g6⟩ := drop_cons g1
    have w3 : IntKind.wrap .i64 ((i : Int) + 1) = ((i + 1 : Nat) : Int) := by rw [wrap_ok] <;> omega
    have w4 : IntKind.wrap .i64 (n + 1) = n + 1 := wrap_ok (by omega) (by omega)
    have w5 : IntKind.wrap .i64 (n - 1) = n - 1 := wrap_ok (by omega) (by omega)
    simp only [closeF] at h
    cases c40 : (c.toNat : Int) == 40 with
    | true =>
      have c41 : ((c.toNat : Int) == 41) = false := by simp at c40 ⊢; omega
      rw [c40, c41] at h
      simp only [↓reduceIte, Bool.false_eq_true] at h
      cases z : n + 1 == 0 with
      | true =>
        rw [z] at h
        simp only [↓reduceIte] at h
        subst h
        repeat' (first
 | simp only [go_sem, hlt, hget, hpu, hinc, Int.reduceLE, ↓reduceIte, reduceCtorEq, Nat.reduceEqDiff, Nat.reduceLeDiff, Nat.reduceAdd, Nat.reduceMul, Nat.reduceSub, Nat.reduceLT, c40, c41, w3, w4, z, Option.getD_some]
 | (with_reducible first | refine CB_ofT (by assumption) fun hc => ?_ | refine CB_ofF (by assumption) fun hc => ?_ | refine CB_split (fun hc => ?_) fun hc => ?_) <;> (try simp only [hc, bs, ↓reduceIte] at h) <;> (try simp only [hc])
 | ((with_reducible first | refine leafR hQ ?_ | refine leafN hQ ?_); (try cases h); simp only [resL, oneD, Option.some.injEq, exists_eq_left', go_sem, hlt, hget, hpu, hinc, Int.reduceLE, ↓reduceIte, reduceCtorEq, Nat.reduceEqDiff, Nat.reduceLeDiff, Nat.reduceAdd, Nat.reduceMul, Nat.reduceSub, Nat.reduceLT, c40, c41, w3, w4, z, Option.getD_some]; repeat' (first | exact Ok.out | with_reducible refine And.intro ?_ ?_ | (simp; done)))
 | (cases h; replace h := hr; clear hr; (try simp only [bs, ↓reduceIte] at h))
 | (cases h; done))
      | false =>
        rw [z] at h
        simp only [↓reduceIte, Bool.false_eq_true] at h
        repeat' (first
 | simp only [go_sem, hlt, hget, hpu, hinc, Int.reduceLE, ↓reduceIte, reduceCtorEq, Nat.reduceEqDiff, Nat.reduceLeDiff, Nat.reduceAdd, Nat.reduceMul, Nat.reduceSub, Nat.reduceLT, c40, c41, w3, w4, z]
 | (with_reducible first | refine CB_ofT (by assumption) fun hc => ?_ | refine CB_ofF (by assumption) fun hc => ?_ | refine CB_split (fun hc => ?_) fun hc => ?_) <;> (try simp only [hc, bs, ↓reduceIte] at h) <;> (try simp only [hc])
 | ((with_reducible first | refine leafR hQ ?_ | refine leafN hQ ?_); (try cases h); simp only [resL, oneD, Option.some.injEq, exists_eq_left', go_sem, hlt, hget, hpu, hinc, Int.reduceLE, ↓reduceIte, reduceCtorEq, Nat.reduceEqDiff, Nat.reduceLeDiff, Nat.reduceAdd, Nat.reduceMul, Nat.reduceSub, Nat.reduceLT, c40, c41, w3, w4, z]; repeat' (first | exact Ok.out | with_reducible refine And.intro ?_ ?_ | (simp; done)))
 | (cases h; replace h := hr; clear hr; (try simp only [bs, ↓reduceIte] at h))
 | (cases h; done))
        refine SemL.re _ _ 0 0 (by rw [hB]; exact Nat.le_of_ble_eq_true rfl) (by rw [hB]; exact Nat.le_of_ble_eq_true rfl) ?_ ?_ (IH (rest, i + 1, n + 1) ⟨g2, h, by dsimp only; omega, by dsimp only; omega, by dsimp only; omega⟩ (Nat.lt_succ_self _))
        · (simp only [go_sem, hlt, hget, hpu, hinc, Int.reduceLE, ↓reduceIte, reduceCtorEq, Nat.reduceEqDiff, Nat.reduceLeDiff, Nat.reduceAdd, Nat.reduceMul, Nat.reduceSub, Nat.reduceLT]; repeat' (first | exact Ok.out | with_reducible refine And.intro ?_ ?_))
        · (simp only [go_sem, hlt, hget, hpu, hinc, Int.reduceLE, ↓reduceIte, reduceCtorEq, Nat.reduceEqDiff, Nat.reduceLeDiff, Nat.reduceAdd, Nat.reduceMul, Nat.reduceSub, Nat.reduceLT]; repeat' (first | exact Ok.out | with_reducible refine And.intro ?_ ?_))
    | false =>
      cases c41 : (c.toNat : Int) == 41 with
      | true =>
        rw [c40, c41] at h
        simp only [↓reduceIte, Bool.false_eq_true] at h
        cases z : n - 1 == 0 with
        | true =>
          rw [z] at h
          simp only [↓reduceIte] at h
          subst h
          repeat' (first
 | simp only [go_sem, hlt, hget, hpu, hinc, Int.reduceLE, ↓reduceIte, reduceCtorEq, Nat.reduceEqDiff, Nat.reduceLeDiff, Nat.reduceAdd, Nat.reduceMul, Nat.reduceSub, Nat.reduceLT, c40, c41, w3, w5, z, Option.getD_some]
 | (with_reducible first | refine CB_ofT (by assumption) fun hc => ?_ | refine CB_ofF (by assumption) fun hc => ?_ | refine CB_split (fun hc => ?_) fun hc => ?_) <;> (try simp only [hc, bs, ↓reduceIte] at h) <;> (try simp only [hc])
 | ((with_reducible first | refine leafR hQ ?_ | refine leafN hQ ?_); (try cases h); simp only [resL, oneD, Option.some.injEq, exists_eq_left', go_sem, hlt, hget, hpu, hinc, Int.reduceLE, ↓reduceIte, reduceCtorEq, Nat.reduceEqDiff, Nat.reduceLeDiff, Nat.reduceAdd, Nat.reduceMul, Nat.reduceSub, Nat.reduceLT, c40, c41, w3, w5, z, Option.getD_some]; repeat' (first | exact Ok.out | with_reducible refine And.intro ?_ ?_ | (simp; done)))
 | (cases h; replace h := hr; clear hr; (try simp only [bs, ↓reduceIte] at h))
 | (cases h; done))
        | false =>
          rw [z] at h
          simp only [↓reduceIte, Bool.false_eq_true] at h
          repeat' (first
 | simp only [go_sem, hlt, hget, hpu, hinc, Int.reduceLE, ↓reduceIte, reduceCtorEq, Nat.reduceEqDiff, Nat.reduceLeDiff, Nat.reduceAdd, Nat.reduceMul, Nat.reduceSub, Nat.reduceLT, c40, c41, w3, w5, z]
 | (with_reducible first | refine CB_ofT (by assumption) fun hc => ?_ | refine CB_ofF (by assumption) fun hc => ?_ | refine CB_split (fun hc => ?_) fun hc => ?_) <;> (try simp only [hc, bs, ↓reduceIte] at h) <;> (try simp only [hc])
 | ((with_reducible first | refine leafR hQ ?_ | refine leafN hQ ?_); (try cases h); simp only [resL, oneD, Option.some.injEq, exists_eq_left', go_sem, hlt, hget, hpu, hinc, Int.reduceLE, ↓reduceIte, reduceCtorEq, Nat.reduceEqDiff, Nat.reduceLeDiff, Nat.reduceAdd, Nat.reduceMul, Nat.reduceSub, Nat.reduceLT, c40, c41, w3, w5, z]; repeat' (first | exact Ok.out | with_reducible refine And.intro ?_ ?_ | (simp; done)))
 | (cases h; replace h := hr; clear hr; (try simp only [bs, ↓reduceIte] at h))
 | (cases h; done))
          refine SemL.re _ _ 0 0 (by rw [hB]; exact Nat.le_of_ble_eq_true rfl) (by rw [hB]; exact Nat.le_of_ble_eq_true rfl) ?_ ?_ (IH (rest, i + 1, n - 1) ⟨g2, h, by dsimp only; omega, by dsimp only; omega, by dsimp only; omega⟩ (Nat.lt_succ_self _))
          · (simp only [go_sem, hlt, hget, hpu, hinc, Int.reduceLE, ↓reduceIte, reduceCtorEq, Nat.reduceEqDiff, Nat.reduceLeDiff, Nat.reduceAdd, Nat.reduceMul, Nat.reduceSub, Nat.reduceLT]; repeat' (first | exact Ok.out | with_reducible refine And.intro ?_ ?_))
          · (simp only [go_sem, hlt, hget, hpu, hinc, Int.reduceLE, ↓reduceIte, reduceCtorEq, Nat.reduceEqDiff, Nat.reduceLeDiff, Nat.reduceAdd, Nat.reduceMul, Nat.reduceSub, Nat.reduceLT]; repeat' (first | exact Ok.out | with_reducible refine And.intro ?_ ?_))
      | false =>
        rw [c40, c41] at h
        simp only [↓reduceIte, Bool.false_eq_true] at h
        cases z : n == 0 with
        | true =>
          rw [z] at h
          simp only [↓reduceIte] at h
          subst h
          repeat' (first
 | simp only [go_sem, hlt, hget, hpu, hinc, Int.reduceLE, ↓reduceIte, reduceCtorEq, Nat.reduceEqDiff, Nat.reduceLeDiff, Nat.reduceAdd, Nat.reduceMul, Nat.reduceSub, Nat.reduceLT, c40, c41, w3, z, Option.getD_some]
 | (with_reducible first | refine CB_ofT (by assumption) fun hc => ?_ | refine CB_ofF (by assumption) fun hc => ?_ | refine CB_split (fun hc => ?_) fun hc => ?_) <;> (try simp only [hc, bs, ↓reduceIte] at h) <;> (try simp only [hc])
 | ((with_reducible first | refine leafR hQ ?_ | refine leafN hQ ?_); (try cases h); simp only [resL, oneD, Option.some.injEq, exists_eq_left', go_sem, hlt, hget, hpu, hinc, Int.reduceLE, ↓reduceIte, reduceCtorEq, Nat.reduceEqDiff, Nat.reduceLeDiff, Nat.reduceAdd, Nat.reduceMul, Nat.reduceSub, Nat.reduceLT, c40, c41, w3, z, Option.getD_some]; repeat' (first | exact Ok.out | with_reducible refine And.intro ?_ ?_ | (simp; done)))
 | (cases h; replace h := hr; clear hr; (try simp only [bs, ↓reduceIte] at h))
 | (cases h; done))
        | false =>
          rw [z] at h
          simp only [↓reduceIte, Bool.false_eq_true] at h
          repeat' (first
 | simp only [go_sem, hlt, hget, hpu, hinc, Int.reduceLE, ↓reduceIte, reduceCtorEq, Nat.reduceEqDiff, Nat.reduceLeDiff, Nat.reduceAdd, Nat.reduceMul, Nat.reduceSub, Nat.reduceLT, c40, c41, w3, z]
 | (with_reducible first | refine CB_ofT (by assumption) fun hc => ?_ | refine CB_ofF (by assumption) fun hc => ?_ | refine CB_split (fun hc => ?_) fun hc => ?_) <;> (try simp only [hc, bs, ↓reduceIte] at h) <;> (try simp only [hc])
 | ((with_reducible first | refine leafR hQ ?_ | refine leafN hQ ?_); (try cases h); simp only [resL, oneD, Option.some.injEq, exists_eq_left', go_sem, hlt, hget, hpu, hinc, Int.reduceLE, ↓reduceIte, reduceCtorEq, Nat.reduceEqDiff, Nat.reduceLeDiff, Nat.reduceAdd, Nat.reduceMul, Nat.reduceSub, Nat.reduceLT, c40, c41, w3, z]; repeat' (first | exact Ok.out | with_reducible refine And.intro ?_ ?_ | (simp; done)))
 | (cases h; replace h := hr; clear hr; (try simp only [bs, ↓reduceIte] at h))
 | (cases h; done))
          refine SemL.re _ _ 0 0 (by rw [hB]; exact Nat.le_of_ble_eq_true rfl) (by rw [hB]; exact Nat.le_of_ble_eq_true rfl) ?_ ?_ (IH (rest, i + 1, n) ⟨g2, h, by dsimp only; omega, by dsimp only; omega, by dsimp only; omega⟩ (Nat.lt_succ_self _))
          · (simp only [go_sem, hlt, hget, hpu, hinc, Int.reduceLE, ↓reduceIte, reduceCtorEq, Nat.reduceEqDiff, Nat.reduceLeDiff, Nat.reduceAdd, Nat.reduceMul, Nat.reduceSub, Nat.reduceLT]; repeat' (first | exact Ok.out | with_reducible refine And.intro ?_ ?_))
          · (simp only [go_sem, hlt, hget, hpu, hinc, Int.reduceLE, ↓reduceIte, reduceCtorEq, Nat.reduceEqDiff, Nat.reduceLeDiff, Nat.reduceAdd, Nat.reduceMul, Nat.reduceSub, Nat.reduceLT]; repeat' (first | exact Ok.out | with_reducible refine And.intro ?_ ?_))

theorem without_s {s : Str} {a b : Nat} (hl : s.length < 1000000000) (hab : a < b) (hb : b < s.length) (st : St) : Fun Tryd.prog n_law5_without [.str s, .int .i64 (a : Nat), .int .i64 (b : Nat)] st (.str (withoutM s a b)) st := by
  refine Fun.pure ?_ rfl rfl st
  unfold S0 withoutM
  have w1 : IntKind.wrap .i64 ((a : Int) + 1) = ((a + 1 : Nat) : Int) := by rw [wrap_ok] <;> omega
  have w2 : IntKind.wrap .i64 ((b : Int) + 1) = ((b + 1 : Nat) : Int) := by rw [wrap_ok] <;> omega
  have e1 : (0 : Int) ≤ (a : Int) ∧ (a : Int) ≤ (s.length : Int) := by omega
  have e2 : (0 : Int) ≤ ((a + 1 : Nat) : Int) ∧ ((a + 1 : Nat) : Int) ≤ (b : Int) ∧ (b : Int) ≤ (s.length : Int) := by omega
  have e3 : (0 : Int) ≤ ((b + 1 : Nat) : Int) ∧ ((b + 1 : Nat) : Int) ≤ (s.length : Int) := by omega
  have e2a := e2.1
  have e2b := e2.2.1
  have e2c := e2.2.2
  have e3a := e3.1
  have e3b := e3.2
  have e1a := e1.1
  have e1b := e1.2
  have m1 : min a s.length = a := by omega
  have m2 : min b s.length = b := by omega
  have b1 : a + (b - (a + 1)) ≤ maxStr := by unfold maxStr; omega
  have b2 : a + (b - (a + 1)) + (s.length - (b + 1)) ≤ maxStr := by unfold maxStr; omega
  have t0 : s.take s.length = s := List.take_length
  refine Fun.go has_law5_without rfl fun B Q hB hQ => ?_
  have hlt : 0 < 1 := Nat.zero_lt_one
  have hget : 0 < 1 := Nat.zero_lt_one
  have hpu : 0 < 1 := Nat.zero_lt_one
  have hinc : 0 < 1 := Nat.zero_lt_one
  repeat' (first
 | simp only [go_sem, hlt, hget, hpu, hinc, Int.reduceLE, ↓reduceIte, reduceCtorEq, Nat.reduceEqDiff, Nat.reduceLeDiff, Nat.reduceAdd, Nat.reduceMul, Nat.reduceSub, Nat.reduceLT, w1, w2, e1a, e1b, e2a, e2b, e2c, e3a, e3b, m1, m2, b1, b2, t0, List.drop_zero, Int.toNat_natCast, Int.toNat_zero, Int.le_refl, List.length_take, List.length_drop, and_self, Option.map_none, Option.map_some]
 | (with_reducible first | refine CB_ofT (by assumption) fun hc => ?_ | refine CB_ofF (by assumption) fun hc => ?_ | refine CB_split (fun hc => ?_) fun hc => ?_) <;> (try simp only [hc, bs, ↓reduceIte] at h) <;> (try simp only [hc])
 | ((with_reducible first | refine leafR hQ ?_ | refine leafN hQ ?_); (try cases h); simp only [resL, oneD, Option.some.injEq, exists_eq_left', go_sem, hlt, hget, hpu, hinc, Int.reduceLE, ↓reduceIte, reduceCtorEq, Nat.reduceEqDiff, Nat.reduceLeDiff, Nat.reduceAdd, Nat.reduceMul, Nat.reduceSub, Nat.reduceLT, w1, w2, e1a, e1b, e2a, e2b, e2c, e3a, e3b, m1, m2, b1, b2, t0, List.drop_zero, Int.toNat_natCast, Int.toNat_zero, Int.le_refl, List.length_take, List.length_drop, and_self, Option.map_none, Option.map_some]; repeat' (first | exact Ok.out | with_reducible refine And.intro ?_ ?_ | (simp; done)))
 | (cases h; replace h := hr; clear hr; (try simp only [bs, ↓reduceIte] at h))
 | (cases h; done))

theorem printFew_s {x : Ex} (hr : x.rng) (s : St) : Fun Tryd.prog n_law5_PrintFew [.agg (encEx x)] s (.bool true) s := by
  refine Fun.pure ?_ (by simp [D.oks, D.ok, okEx]) rfl s
  have h0 := fun s => printed5_s s
  have hf := fun s => FitsExpr_s x s
  unfold S0
  cases c : decide (weighE x 0 ≤ 20000) with
  | false =>
    refine Fun.go has_law5_PrintFew rfl fun B Q hB hQ => ?_
    have hlt : 0 < 1 := Nat.zero_lt_one
    have hget : 0 < 1 := Nat.zero_lt_one
    have hpu : 0 < 1 := Nat.zero_lt_one
    have hinc : 0 < 1 := Nat.zero_lt_one
    repeat' (first
 | simp only [go_sem, hlt, hget, hpu, hinc, Int.reduceLE, ↓reduceIte, reduceCtorEq, Nat.reduceEqDiff, Nat.reduceLeDiff, Nat.reduceAdd, Nat.reduceMul, Nat.reduceSub, Nat.reduceLT, c]
 | (with_reducible refine CU (h0 _) ?_)
 | (with_reducible refine CU (hf _) ?_)
 | (with_reducible first | refine CB_ofT (by assumption) fun hc => ?_ | refine CB_ofF (by assumption) fun hc => ?_ | refine CB_split (fun hc => ?_) fun hc => ?_) <;> (try simp only [hc, bs, ↓reduceIte] at h) <;> (try simp only [hc])
 | ((with_reducible first | refine leafR hQ ?_ | refine leafN hQ ?_); (try cases h); simp only [resL, oneD, Option.some.injEq, exists_eq_left', go_sem, hlt, hget, hpu, hinc, Int.reduceLE, ↓reduceIte, reduceCtorEq, Nat.reduceEqDiff, Nat.reduceLeDiff, Nat.reduceAdd, Nat.reduceMul, Nat.reduceSub, Nat.reduceLT, c]; repeat' (first | exact Ok.out | with_reducible refine And.intro ?_ ?_ | (simp; done)))
 | (cases h; replace h := hr; clear hr; (try simp only [bs, ↓reduceIte] at h))
 | (cases h; done))
  | true =>
  obtain ⟨hs, ht⟩ := weighE_fits (of_decide_eq_true c)
  have hn := nodes_size _ x (Nat.le_refl _)
  have h1 := fun s => pExpr_s hr (by omega) ht (by omega) s
  have h2 := fun s => MayExpr_s (x := x) (by omega) ht s
  have h3 := fun s => Size_s _ x (Nat.le_refl _) (most := 60) (by omega) (by omega) s
  cases c2 : x.may with
  | false =>
    refine Fun.go has_law5_PrintFew rfl fun B Q hB hQ => ?_
    have hlt : 0 < 1 := Nat.zero_lt_one
    have hget : 0 < 1 := Nat.zero_lt_one
    have hpu : 0 < 1 := Nat.zero_lt_one
    have hinc : 0 < 1 := Nat.zero_lt_one
    repeat' (first
 | simp only [go_sem, hlt, hget, hpu, hinc, Int.reduceLE, ↓reduceIte, reduceCtorEq, Nat.reduceEqDiff, Nat.reduceLeDiff, Nat.reduceAdd, Nat.reduceMul, Nat.reduceSub, Nat.reduceLT, c, c2]
 | (with_reducible refine CU (h0 _) ?_)
 | (with_reducible refine CU (hf _) ?_)
 | (with_reducible refine CU (h2 _) ?_)
 | (with_reducible first | refine CB_ofT (by assumption) fun hc => ?_ | refine CB_ofF (by assumption) fun hc => ?_ | refine CB_split (fun hc => ?_) fun hc => ?_) <;> (try simp only [hc, bs, ↓reduceIte] at h) <;> (try simp only [hc])
 | ((with_reducible first | refine leafR hQ ?_ | refine leafN hQ ?_); (try cases h); simp only [resL, oneD, Option.some.injEq, exists_eq_left', go_sem, hlt, hget, hpu, hinc, Int.reduceLE, ↓reduceIte, reduceCtorEq, Nat.reduceEqDiff, Nat.reduceLeDiff, Nat.reduceAdd, Nat.reduceMul, Nat.reduceSub, Nat.reduceLT, c, c2]; repeat' (first | exact Ok.out | with_reducible refine And.intro ?_ ?_ | (simp; done)))
 | (cases h; replace h := hr; clear hr; (try simp only [bs, ↓reduceIte] at h))
 | (cases h; done))
  | true =>
  have e : printE x = prE 0 x := by unfold printE; rw [c2]; rfl
  rw [e] at h1
  have hF := may_formI c2 hr
  by_cases c3 : sizeM x 60 ≤ 60
  · have d3 : decide (sizeM x 60 > 60) = false := by simp; omega
    have hlen := prE_len hF 0
    obtain ⟨hbl, hop⟩ := pr_bal hF 0
    have hx01 := exW_01 hF
    have hT : (prE 0 x).length < 1000000000 := by omega
    generalize prE 0 x = T at *
    refine Fun.go has_law5_PrintFew rfl fun B Q hB hQ => ?_
    have hlt : 0 < 1 := Nat.zero_lt_one
    have hget : 0 < 1 := Nat.zero_lt_one
    have hpu : 0 < 1 := Nat.zero_lt_one
    have hinc : 0 < 1 := Nat.zero_lt_one
    repeat' (first
 | simp only [go_sem, hlt, hget, hpu, hinc, Int.reduceLE, ↓reduceIte, reduceCtorEq, Nat.reduceEqDiff, Nat.reduceLeDiff, Nat.reduceAdd, Nat.reduceMul, Nat.reduceSub, Nat.reduceLT, c, c2, d3]
 | (with_reducible refine CU (h0 _) ?_)
 | (with_reducible refine CU (hf _) ?_)
 | (with_reducible refine CU (h1 _) ?_)
 | (with_reducible refine CU (h2 _) ?_)
 | (with_reducible refine CU (h3 _) ?_)
 | (with_reducible first | refine CB_ofT (by assumption) fun hc => ?_ | refine CB_ofF (by assumption) fun hc => ?_ | refine CB_split (fun hc => ?_) fun hc => ?_) <;> (try simp only [hc, bs, ↓reduceIte] at h) <;> (try simp only [hc])
 | ((with_reducible first | refine leafR hQ ?_ | refine leafN hQ ?_); (try cases h); simp only [resL, oneD, Option.some.injEq, exists_eq_left', go_sem, hlt, hget, hpu, hinc, Int.reduceLE, ↓reduceIte, reduceCtorEq, Nat.reduceEqDiff, Nat.reduceLeDiff, Nat.reduceAdd, Nat.reduceMul, Nat.reduceSub, Nat.reduceLT, c, c2, d3]; repeat' (first | exact Ok.out | with_reducible refine And.intro ?_ ?_ | (simp; done)))
 | (cases h; replace h := hr; clear hr; (try simp only [bs, ↓reduceIte] at h))
 | (cases h; done))
    refine SemL.re _ _ 1 0 (by rw [hB]; exact Nat.le_of_ble_eq_true rfl) (by rw [hB]; exact Nat.le_of_ble_eq_true rfl) ?_ ?_ (SemL.ind (ι := Str × Nat) (fun i => T.drop i.2 = i.1) (fun i => i.1.length)
      (fun i => [(1, .ptr 0 0), (3, .str T), (4, .int .i64 (i.2 : Nat))]) (fun i => ⟨[encEx x], []⟩) ?_ (T, 0) rfl)
    · (simp only [go_sem, hlt, hget, hpu, hinc, Int.reduceLE, ↓reduceIte, reduceCtorEq, Nat.reduceEqDiff, Nat.reduceLeDiff, Nat.reduceAdd, Nat.reduceMul, Nat.reduceSub, Nat.reduceLT]; repeat' (first | exact Ok.out | with_reducible refine And.intro ?_ ?_))
    · (simp only [go_sem, hlt, hget, hpu, hinc, Int.reduceLE, ↓reduceIte, reduceCtorEq, Nat.reduceEqDiff, Nat.reduceLeDiff, Nat.reduceAdd, Nat.reduceMul, Nat.reduceSub, Nat.reduceLT]; repeat' (first | exact Ok.out | with_reducible refine And.intro ?_ ?_))
    rintro ⟨rest, i⟩ g1 IH
    dsimp only at g1
    cases rest with
    | nil =>
      have hlt := drop_nil g1
      repeat' (first
 | simp only [go_sem, hlt, hget, hpu, hinc, Int.reduceLE, ↓reduceIte, reduceCtorEq, Nat.reduceEqDiff, Nat.reduceLeDiff, Nat.reduceAdd, Nat.reduceMul, Nat.reduceSub, Nat.reduceLT]
 | (with_reducible first | refine CB_ofT (by assumption) fun hc => ?_ | refine CB_ofF (by assumption) fun hc => ?_ | refine CB_split (fun hc => ?_) fun hc => ?_) <;> (try simp only [hc, bs, ↓reduceIte] at h) <;> (try simp only [hc])
 | ((with_reducible first | refine leafR hQ ?_ | refine leafN hQ ?_); (try cases h); simp only [resL, oneD, Option.some.injEq, exists_eq_left', go_sem, hlt, hget, hpu, hinc, Int.reduceLE, ↓reduceIte, reduceCtorEq, Nat.reduceEqDiff, Nat.reduceLeDiff, Nat.reduceAdd, Nat.reduceMul, Nat.reduceSub, Nat.reduceLT]; repeat' (first | exact Ok.out | with_reducible refine And.intro ?_ ?_ | (simp; done)))
 | (cases h; replace h := hr; clear hr; (try simp only [bs, ↓reduceIte] at h))
 | (cases h; done))
    | cons ch rest =>
      obtain ⟨hget, g2, hlt, g6⟩ := drop_cons g1
      have w3 : IntKind.wrap .i64 ((i : Int) + 1) = ((i + 1 : Nat) : Int) := by rw [wrap_ok] <;> omega
      have IH' := IH (rest, i + 1) g2 (Nat.lt_succ_self _)
      cases c40 : (ch.toNat : Int) == 40 with
      | false =>
        have c40' : ((ch.toNat : Int) != 40) = true := by simpa using c40
        repeat' (first
 | simp only [go_sem, hlt, hget, hpu, hinc, Int.reduceLE, ↓reduceIte, reduceCtorEq, Nat.reduceEqDiff, Nat.reduceLeDiff, Nat.reduceAdd, Nat.reduceMul, Nat.reduceSub, Nat.reduceLT, c40, c40', w3]
 | (with_reducible first | refine CB_ofT (by assumption) fun hc => ?_ | refine CB_ofF (by assumption) fun hc => ?_ | refine CB_split (fun hc => ?_) fun hc => ?_) <;> (try simp only [hc, bs, ↓reduceIte] at h) <;> (try simp only [hc])
 | ((with_reducible first | refine leafR hQ ?_ | refine leafN hQ ?_); (try cases h); simp only [resL, oneD, Option.some.injEq, exists_eq_left', go_sem, hlt, hget, hpu, hinc, Int.reduceLE, ↓reduceIte, reduceCtorEq, Nat.reduceEqDiff, Nat.reduceLeDiff, Nat.reduceAdd, Nat.reduceMul, Nat.reduceSub, Nat.reduceLT, c40, c40', w3]; repeat' (first | exact Ok.out | with_reducible refine And.intro ?_ ?_ | (simp; done)))
 | (cases h; replace h := hr; clear hr; (try simp only [bs, ↓reduceIte] at h))
 | (cases h; done))
        refine SemL.re _ _ 1 0 (by rw [hB]; exact Nat.le_of_ble_eq_true rfl) (by rw [hB]; exact Nat.le_of_ble_eq_true rfl) ?_ ?_ (IH')
        · (simp only [go_sem, hlt, hget, hpu, hinc, Int.reduceLE, ↓reduceIte, reduceCtorEq, Nat.reduceEqDiff, Nat.reduceLeDiff, Nat.reduceAdd, Nat.reduceMul, Nat.reduceSub, Nat.reduceLT]; repeat' (first | exact Ok.out | with_reducible refine And.intro ?_ ?_))
        · (simp only [go_sem, hlt, hget, hpu, hinc, Int.reduceLE, ↓reduceIte, reduceCtorEq, Nat.reduceEqDiff, Nat.reduceLeDiff, Nat.reduceAdd, Nat.reduceMul, Nat.reduceSub, Nat.reduceLT]; repeat' (first | exact Ok.out | with_reducible refine And.intro ?_ ?_))
      | true =>
        have c40' : ((ch.toNat : Int) != 40) = false := by simpa using c40
        have hch : ch = 40 := by
          have : ((ch.toNat : Int) == 40) = (ch == 40) := byte_eq ch 40 (by decide)
          rw [c40] at this
          simpa using this.symm
        rw [hch] at hget
        obtain ⟨ed, k1, k2, k3⟩ := closes hbl hget
        have hc := fun st => closing_s (s := T) (at_ := i) hT (by omega) st
        rw [k1] at hc
        simp only [Option.getD_some] at hc
        have hw := fun st => without_s (s := T) hT k2 k3 st
        have hwo := without_opens hget k2
        obtain ⟨⟨y, f⟩, hy, hsz⟩ := exprM_t (withoutM T i ed)
        have hwl : (withoutM T i ed).length < 4611686018427387904 := by simp only [withoutM, List.length_append, List.length_take, List.length_drop]; omega
        have hp := fun st => Expr_s hy hwl st
        have he := fun st => EqExpr_s (x := x) (y := y) (by omega) st
        have hne : ((ed : Int) == (i : Int)) = false := by simp; omega
        have key : f.1 = 0 → Ex.beq x y = false := by
          intro hf0
          cases hb : Ex.beq x y with
          | false => rfl
          | true =>
            exfalso
            have := Ex.beq_eq x y hb
            subst this
            obtain ⟨f1, f2⟩ := f
            dsimp only at hf0
            subst hf0
            have := expr_opens hy
            omega
        obtain ⟨f1, f2⟩ := f
        dsimp only at key hp
        have e40 : (((40 : UInt8).toNat : Int) != 40) = false := by decide
        have e40' : ((40 : Int) != 40) = false := by decide
        cases z : f1 == 0 with
        | false =>
          repeat' (first
 | simp only [go_sem, hlt, hget, hpu, hinc, Int.reduceLE, ↓reduceIte, reduceCtorEq, Nat.reduceEqDiff, Nat.reduceLeDiff, Nat.reduceAdd, Nat.reduceMul, Nat.reduceSub, Nat.reduceLT, e40, e40', hne, w3, z, encF]
 | (with_reducible refine CU (hc _) ?_)
 | (with_reducible refine CU (hw _) ?_)
 | (with_reducible refine CU (hp _) ?_)
 | (with_reducible first | refine CB_ofT (by assumption) fun hc => ?_ | refine CB_ofF (by assumption) fun hc => ?_ | refine CB_split (fun hc => ?_) fun hc => ?_) <;> (try simp only [hc, bs, ↓reduceIte] at h) <;> (try simp only [hc])
 | ((with_reducible first | refine leafR hQ ?_ | refine leafN hQ ?_); (try cases h); simp only [resL, oneD, Option.some.injEq, exists_eq_left', go_sem, hlt, hget, hpu, hinc, Int.reduceLE, ↓reduceIte, reduceCtorEq, Nat.reduceEqDiff, Nat.reduceLeDiff, Nat.reduceAdd, Nat.reduceMul, Nat.reduceSub, Nat.reduceLT, e40, e40', hne, w3, z, encF]; repeat' (first | exact Ok.out | with_reducible refine And.intro ?_ ?_ | (simp; done)))
 | (cases h; replace h := hr; clear hr; (try simp only [bs, ↓reduceIte] at h))
 | (cases h; done))
          refine SemL.re _ _ 1 0 (by rw [hB]; exact Nat.le_of_ble_eq_true rfl) (by rw [hB]; exact Nat.le_of_ble_eq_true rfl) ?_ ?_ (IH')
          · (simp only [go_sem, hlt, hget, hpu, hinc, Int.reduceLE, ↓reduceIte, reduceCtorEq, Nat.reduceEqDiff, Nat.reduceLeDiff, Nat.reduceAdd, Nat.reduceMul, Nat.reduceSub, Nat.reduceLT]; repeat' (first | exact Ok.out | with_reducible refine And.intro ?_ ?_))
          · (simp only [go_sem, hlt, hget, hpu, hinc, Int.reduceLE, ↓reduceIte, reduceCtorEq, Nat.reduceEqDiff, Nat.reduceLeDiff, Nat.reduceAdd, Nat.reduceMul, Nat.reduceSub, Nat.reduceLT]; repeat' (first | exact Ok.out | with_reducible refine And.intro ?_ ?_))
        | true =>
          have kf := key (by simpa using z)
          repeat' (first
 | simp only [go_sem, hlt, hget, hpu, hinc, Int.reduceLE, ↓reduceIte, reduceCtorEq, Nat.reduceEqDiff, Nat.reduceLeDiff, Nat.reduceAdd, Nat.reduceMul, Nat.reduceSub, Nat.reduceLT, e40, e40', hne, w3, z, kf, encF]
 | (with_reducible refine CU (hc _) ?_)
 | (with_reducible refine CU (hw _) ?_)
 | (with_reducible refine CU (hp _) ?_)
 | (with_reducible refine CU (he _) ?_)
 | (with_reducible first | refine CB_ofT (by assumption) fun hc => ?_ | refine CB_ofF (by assumption) fun hc => ?_ | refine CB_split (fun hc => ?_) fun hc => ?_) <;> (try simp only [hc, bs, ↓reduceIte] at h) <;> (try simp only [hc])
 | ((with_reducible first | refine leafR hQ ?_ | refine leafN hQ ?_); (try cases h); simp only [resL, oneD, Option.some.injEq, exists_eq_left', go_sem, hlt, hget, hpu, hinc, Int.reduceLE, ↓reduceIte, reduceCtorEq, Nat.reduceEqDiff, Nat.reduceLeDiff, Nat.reduceAdd, Nat.reduceMul, Nat.reduceSub, Nat.reduceLT, e40, e40', hne, w3, z, kf, encF]; repeat' (first | exact Ok.out | with_reducible refine And.intro ?_ ?_ | (simp; done)))
 | (cases h; replace h := hr; clear hr; (try simp only [bs, ↓reduceIte] at h))
 | (cases h; done))
          refine SemL.re _ _ 1 0 (by rw [hB]; exact Nat.le_of_ble_eq_true rfl) (by rw [hB]; exact Nat.le_of_ble_eq_true rfl) ?_ ?_ (IH')
          · (simp only [go_sem, hlt, hget, hpu, hinc, Int.reduceLE, ↓reduceIte, reduceCtorEq, Nat.reduceEqDiff, Nat.reduceLeDiff, Nat.reduceAdd, Nat.reduceMul, Nat.reduceSub, Nat.reduceLT]; repeat' (first | exact Ok.out | with_reducible refine And.intro ?_ ?_))
          · (simp only [go_sem, hlt, hget, hpu, hinc, Int.reduceLE, ↓reduceIte, reduceCtorEq, Nat.reduceEqDiff, Nat.reduceLeDiff, Nat.reduceAdd, Nat.reduceMul, Nat.reduceSub, Nat.reduceLT]; repeat' (first | exact Ok.out | with_reducible refine And.intro ?_ ?_))
  · have d3 : decide (sizeM x 60 > 60) = true := by simp; omega
    refine Fun.go has_law5_PrintFew rfl fun B Q hB hQ => ?_
    have hlt : 0 < 1 := Nat.zero_lt_one
    have hget : 0 < 1 := Nat.zero_lt_one
    have hpu : 0 < 1 := Nat.zero_lt_one
    have hinc : 0 < 1 := Nat.zero_lt_one
    repeat' (first
 | simp only [go_sem, hlt, hget, hpu, hinc, Int.reduceLE, ↓reduceIte, reduceCtorEq, Nat.reduceEqDiff, Nat.reduceLeDiff, Nat.reduceAdd, Nat.reduceMul, Nat.reduceSub, Nat.reduceLT, c, c2, d3]
 | (with_reducible refine CU (h0 _) ?_)
 | (with_reducible refine CU (hf _) ?_)
 | (with_reducible refine CU (h1 _) ?_)
 | (with_reducible refine CU (h2 _) ?_)
 | (with_reducible refine CU (h3 _) ?_)
 | (with_reducible first | refine CB_ofT (by assumption) fun hc => ?_ | refine CB_ofF (by assumption) fun hc => ?_ | refine CB_split (fun hc => ?_) fun hc => ?_) <;> (try simp only [hc, bs, ↓reduceIte] at h) <;> (try simp only [hc])
 | ((with_reducible first | refine leafR hQ ?_ | refine leafN hQ ?_); (try cases h); simp only [resL, oneD, Option.some.injEq, exists_eq_left', go_sem, hlt, hget, hpu, hinc, Int.reduceLE, ↓reduceIte, reduceCtorEq, Nat.reduceEqDiff, Nat.reduceLeDiff, Nat.reduceAdd, Nat.reduceMul, Nat.reduceSub, Nat.reduceLT, c, c2, d3]; repeat' (first | exact Ok.out | with_reducible refine And.intro ?_ ?_ | (simp; done)))
 | (cases h; replace h := hr; clear hr; (try simp only [bs, ↓reduceIte] at h))
 | (cases h; done))

end Go.Abs

/-! Glue2 -/

namespace Go.Abs

def M0 : Map := ⟨fun _ _ => none, fun _ => (0, none), fun _ => none⟩

/-- Of what was there nothing turns. -/
def Kept (w w' : World) : Prop := w.keptBut w' (fun _ => False) ∧ ∀ a : Addr, a.block < w.heap.size → w'.frozen? a = w.frozen? a

theorem Kept.frame {w w' : World} (h : Kept w w') (may : MemPlace → Prop) : w.keptBut w' may := World.keptBut_mono (fun _ f => f.elim) h.1

theorem Ext.toKept {M M' : Map} {s' : St} {w w' : World} (e : Ext M S0 w M' s' w') : Kept w w' := by
  have hh : ∀ b, b < w.heap.size → w'.heap[b]? = w.heap[b]? := fun b hb =>
    e.kept b hb (fun o ho => by simp [S0] at ho) (fun t c z hl => by obtain ⟨n, hn⟩ := hl; simp [S0] at hn)
  refine ⟨⟨e.os, e.output, fun i hi => ?_⟩, fun a ha => ?_⟩
  · rw [hh i hi]
    exact (World.keptBut_refl w (fun _ => False)).2.2 i hi
  · simp only [World.frozen?, hh _ ha]

theorem rel0 (G : Nat → Nat → Option Value) (w : World) (h : ∀ b o v, G b o = some v → w.cell? ⟨b, o, none⟩ = some v ∧ v.oneCell' = true) : Rel ⟨G, fun _ => (0, none), fun _ => none⟩ S0 w :=
  ⟨h, fun o ds e => by simp [S0] at e, fun o ho => by simp [S0] at ho, fun o o' ho => by simp [S0] at ho, fun t n e => by simp [S0] at e,
    fun t b c z o hl => by obtain ⟨n, hn⟩ := hl; simp [S0] at hn, fun t t' b c z c' z' hl => by obtain ⟨n, hn⟩ := hl; simp [S0] at hn⟩

/-- The listed variables hold what they hold, in a world. -/
def LaidW (w : World) : Prop := ∀ g cs, tabs g = some cs → ∃ T fr, w.heap[g]? = some (.cells cs T fr)
theorem laid0 (G : Nat → Nat → Option Value) {w : World} (h : LaidW w) : Laid ⟨G, fun _ => (0, none), fun _ => none⟩ S0 w :=
  fun g cs hg => ⟨h g cs hg, fun o ho => by simp [S0] at ho, fun t c z hl => by obtain ⟨n, hn⟩ := hl; simp [S0] at hn⟩

/-- A law is called. -/
theorem law_calls {P : Program} {f : FuncId} {args : List D} {vargs : Array Value} {w : World} {G : Nat → Nat → Option Value} (h : ACalls P f args S0 fun d _ => d = .bool true)
    (hG : ∀ b o v, G b o = some v → w.cell? ⟨b, o, none⟩ = some v ∧ v.oneCell' = true) (hl : vargs.size = args.length)
    (ha : ∀ (i : Nat) (d : D) (v : Value), args[i]? = some d → vargs[i]? = some v → RD ⟨G, fun _ => (0, none), fun _ => none⟩ S0 d v) (hlaid : LaidW w) :
    Calls P f vargs w fun e w' => e = .returned (.bool true) ∧ Kept w w' := by
  refine (h _ w vargs (rel0 G w hG) (laid0 G hlaid) hl ha).mono fun e w' hw => ?_
  obtain ⟨M', d, v, s', rfl, rfl, he, _, hv⟩ := hw
  rw [hv.bool_inv]
  exact ⟨rfl, he.toKept⟩

section
variable {P : Program} {H : Type} {enc : TypeId × Value → H}

/-- The row's closing condition, where nothing turns of what was there. -/
theorem post_of_kept {f : Func} {s : ChangeSpec} {apart fresh handsOn again : Bool} {W W' : World} {args : Array Value} {v : Value} {ds gs : List (DataW H)} {before pa pv : List MemPlace}
    (hW : DataW.Whole enc P f.params.toList s.vars apart W args.toList ds gs before)
    (hres : ∀ (b : Nat) (sp : Nat → Bool) (hd : Bool), DataW.TrodAll enc P W' b sp hd f.resultTypes.toList (v.resultList f.resultTypes.size) (s.fn H (ds ++ gs)).results [])
    (hargs : ∀ sp : Nat → Bool, (∀ p ∈ before, sp p.block = true) → DataW.TrodAll enc P W' 0 sp true f.params.toList args.toList (s.fn H (ds ++ gs)).args pa)
    (hvars : ∀ sp : Nat → Bool, (∀ p ∈ before, sp p.block = true) → DataW.TrodVars enc P W' sp s.vars (s.fn H (ds ++ gs)).vars pv)
    (hps : before = pa ++ pv) (hk : Kept W W')
    (hok : ∀ (j : Nat) (t : TypeId) (r : Value), f.resultTypes[j]? = some t → (v.resultList f.resultTypes.size)[j]? = some r → Value.okWide P W' .any 0 t r) :
    s.post enc P f apart fresh handsOn again W args v W' := by
  have hlt : ∀ p ∈ before, p.block < W.heap.size := fun p hp => hW.lt p hp
  have hold : ∀ p ∈ before, (fun b => decide (b < W.heap.size)) p.block = true := fun p hp => by simpa using hlt p hp
  refine ⟨ds, gs, before, [], pa, pv, hW, hres _ _ _, hargs _ hold, hvars _ hold, World.keptBut_mono (fun p hp => ⟨hp, ?_⟩) (hk.frame (· ∈ before)), fun _ => ?_⟩
  · rw [hps, List.mem_append] at hp
    exact Or.inr hp
  · obtain ⟨_, _, _, _, _, hz, hn⟩ := hW
    refine ⟨hok, _, _, ([] ++ pa) ++ pv, ⟨[] ++ pa, pv, ChangeShapes.trodAll_append (hargs _ (fun _ _ => rfl)) (hres _ _ _), hvars _ (fun _ _ => rfl), rfl, ?_, ?_⟩, ?_⟩
    · intro b off hp
      have hp' : MemPlace.cell b off ∈ before := by rw [hps]; simpa using hp
      rw [hk.2 _ (hlt _ hp')]
      exact hz b off hp'
    · intro ha
      have := hn ha
      rw [hps] at this
      simpa using this
    · intro p hp _
      rw [hps]
      simpa using hp
end
end Go.Abs

/-! Join -/

namespace Go.Abs
open Go.RowKit Go.ChangeShapes Go.WideShapes

/-- All that can be read. -/
def memG (w : World) (b o : Nat) : Option Value :=
  match w.cell? ⟨b, o, none⟩ with
  | some v => if v.oneCell' = true then some v else none
  | none => none
theorem memG_ok {w : World} (b o : Nat) (v : Value) (h : memG w b o = some v) : w.cell? ⟨b, o, none⟩ = some v ∧ v.oneCell' = true := by
  unfold memG at h
  split at h
  · split at h
    · cases h; exact ⟨‹_›, ‹_›⟩
    · cases h
  · cases h
/-- All of it is fixed. -/
def memM (w : World) : Map := ⟨memG w, fun _ => (0, none), fun _ => none⟩

theorem Kept.sameAt {w w' : World} (h : Kept w w') {p : MemPlace} (hp : p.block < w.heap.size) : w.sameAt w' p := by
  have hk := h.1.2.2 p.block hp
  cases p with
  | cell b off =>
    simp only [MemPlace.block] at hk hp
    simp only [World.sameAt, World.cell?]
    split at hk
    · rename_i c t fr c' t' fr' e e'
      rw [e, e']
      simp only [hk.2.2.2 off (fun f => f)]
    · rename_i es clock es' clock' e e'
      rw [e, e']
    · rw [hk]
  | map b =>
    simp only [MemPlace.block] at hk hp
    simp only [World.sameAt]
    split at hk
    · rename_i c t fr c' t' fr' e e'
      rw [e, e']
      obtain ⟨rfl, rfl, hs, hc⟩ := hk
      have : c' = c := by
        apply Array.ext_getElem?
        intro i
        exact hc i (fun f => f)
      rw [this]
    · rename_i es clock es' clock' e e'
      rcases hk with f | ⟨rfl, rfl⟩
      · exact f.elim
      · rw [e, e']
    · exact hk

section
variable {P : Program} {H : Type} {enc : TypeId × Value → H} {T : TypeId → Prop}

theorem args_again (K : Kids P T) (hz : ∀ {t e : TypeId}, T t → P.underlying t = some (.slice e) → 0 < P.cellsOf e) {W W' : World} (hk : Kept W W') {sp : Nat → Bool} :
    ∀ {ts : List TypeId} {vs : List Value} {ds : List (DataW H)} {ps : List MemPlace}, (∀ t ∈ ts, T t) → (∀ p ∈ ps, p.block < W.heap.size) → (∀ p ∈ ps, sp p.block = true) →
      DataW.TrodAll enc P W 0 (fun _ => true) true ts vs ds ps → DataW.TrodAll enc P W' 0 sp true ts vs ds ps
  | [], [], [], _, _, _, _, h => h
  | t :: ts, v :: vs, d :: ds, ps, hT, hlt, hs, ⟨p, q, ⟨n, h1⟩, h2, e⟩ => by
    subst e
    refine ⟨p, q, ⟨n, DataW.trod_stays K hz (fun f => by cases f) (hT t (List.mem_cons_self ..)) h1 (fun x hx => hk.sameAt (hlt x (List.mem_append_left _ hx))) (fun x hx => hs x (List.mem_append_left _ hx))⟩, ?_, rfl⟩
    exact args_again K hz hk (fun t ht => hT t (List.mem_cons_of_mem _ ht)) (fun x hx => hlt x (List.mem_append_right _ hx)) (fun x hx => hs x (List.mem_append_right _ hx)) h2
  | [], [], _ :: _, _, _, _, _, h => h.elim
  | [], _ :: _, _, _, _, _, _, h => h.elim
  | _ :: _, [], _, _, _, _, _, h => h.elim
  | _ :: _, _ :: _, [], _, _, _, _, h => h.elim

/-- The row's closing condition. -/
theorem law_post (K : Kids P T) (hz : ∀ {t e : TypeId}, T t → P.underlying t = some (.slice e) → 0 < P.cellsOf e) {f : Func} {s : ChangeSpec} {apart fresh handsOn again : Bool} {tb : TypeId} {W W' : World} {args : Array Value} {ds gs : List (DataW H)} {before : List MemPlace}
    (hT : ∀ t ∈ f.params.toList, T t) (hb : P.underlying tb = some .bool) (hr : f.resultTypes = #[tb]) (hvars : s.vars = []) (hW : DataW.Whole enc P f.params.toList s.vars apart W args.toList ds gs before)
    (hfn : s.fn H (ds ++ gs) = { results := [.lit (.bool true)], args := ds }) (hk : Kept W W') : s.post enc P f apart fresh handsOn again W args (.bool true) W' := by
  have hW' := hW
  have hlt : ∀ p ∈ before, p.block < W.heap.size := fun p hp => hW.lt p hp
  obtain ⟨p, q, hA, hV, rfl, hfz, hnd⟩ := hW
  rw [hvars] at hV
  obtain ⟨rfl, rfl⟩ := trodVars_none hV
  simp only [List.append_nil] at hlt hfn
  refine post_of_kept (pa := p) (pv := []) hW' (fun b sp hd => ?_) (fun sp hsp => ?_) (fun sp hsp => ?_) rfl hk (ok_one hr rfl (okWide_bool_mk hb _))
  · rw [List.append_nil, hfn, hr]
    exact trodAll_cons_mk (shut_bool hb _) trodAll_mk0
  · rw [List.append_nil, hfn]
    simp only [List.append_nil] at hsp
    exact args_again K hz hk hT hlt hsp hA
  · rw [List.append_nil, hfn, hvars]
    rfl

/-- A law is called with arguments that can be read. -/
theorem law_run {f : FuncId} {args : List D} {vargs : Array Value} {w : World} (h : ACalls P f args S0 fun d _ => d = .bool true) (hl : vargs.size = args.length)
    (ha : ∀ (i : Nat) (d : D) (v : Value), args[i]? = some d → vargs[i]? = some v → RD (memM w) S0 d v) (hlaid : LaidW w) : Calls P f vargs w fun e w' => e = .returned (.bool true) ∧ Kept w w' :=
  law_calls (G := memG w) h memG_ok hl ha hlaid
end

end Go.Abs

/-! Join2 -/

namespace Go.Abs
set_option linter.unusedSimpArgs false
set_option linter.unusedVariables false
open Go.RowKit Go.ChangeShapes Go.WideShapes

end Go.Abs

/-! Join3 -/

namespace Go.Abs
set_option linter.unusedSimpArgs false
set_option linter.unusedVariables false
open Go.RowKit Go.ChangeShapes Go.WideShapes

/-- A row of cells is these. -/
def Rowed (W : World) (ds : List D) (cs : List Value) : Prop := ds.length = cs.length ∧ (∀ (i : Nat) (d : D) (v : Value), ds[i]? = some d → cs[i]? = some v → RD (memM W) S0 d v) ∧ ∀ v ∈ cs, v.oneCell' = true

theorem Rowed.one {W : World} {d : D} {v : Value} (h : RD (memM W) S0 d v) (hv : v.oneCell' = true) : Rowed W [d] [v] := by
  refine ⟨rfl, fun i d' v' h1 h2 => ?_, fun u hu => by simp at hu; subst hu; exact hv⟩
  cases i with
  | zero => simp at h1 h2; subst h1 h2; exact h
  | succ i => simp at h1
theorem Rowed.app {W : World} {ds ds' : List D} {cs cs' : List Value} (h : Rowed W ds cs) (h' : Rowed W ds' cs') : Rowed W (ds ++ ds') (cs ++ cs') := by
  obtain ⟨a1, a2, a3⟩ := h
  obtain ⟨b1, b2, b3⟩ := h'
  refine ⟨by simp [a1, b1], fun i d v h1 h2 => ?_, fun v hv => ?_⟩
  · by_cases hi : i < ds.length
    · rw [List.getElem?_append_left hi] at h1
      rw [List.getElem?_append_left (by omega)] at h2
      exact a2 i d v h1 h2
    · rw [List.getElem?_append_right (by omega)] at h1
      rw [List.getElem?_append_right (by omega), ← a1] at h2
      exact b2 _ d v h1 h2
  · rcases List.mem_append.1 hv with hv | hv
    · exact a3 v hv
    · exact b3 v hv
/-- A part, then the rest. -/
theorem Rowed.at {W : World} {ds ds' : List D} {cs : List Value} {o n : Nat} (h : Rowed W ds ((cs.drop o).take n)) (h' : Rowed W ds' (cs.drop (o + n))) : Rowed W (ds ++ ds') (cs.drop o) := by
  have e : cs.drop o = (cs.drop o).take n ++ cs.drop (o + n) := by rw [← List.drop_drop, List.take_append_drop]
  rw [e]
  exact h.app h'
theorem Rowed.end {W : World} {cs : List Value} {o : Nat} (h : cs.length = o) : Rowed W [] (cs.drop o) := by
  rw [← h, List.drop_length]
  exact ⟨rfl, fun i d v h => by simp at h, fun v hv => by cases hv⟩

section
variable {H : Type} {enc : TypeId × Value → H} {P : Program} {W : World} {sp : Nat → Bool}

def structOf (P : Program) (t : TypeId) : List (TypeId × Nat) :=
  match P.underlying t with
  | some (.struct fs) => fs.toList.map fun f => (f.type, f.offset)
  | _ => []

theorem struct_fields {t : TypeId} {l : List (TypeId × Nat)} {fuel : Nat} {cs : List Value} {x : DataW H × List MemPlace} (h : structOf P t = l) (hne : l ≠ []) (ht : DataW.trod enc P W 0 sp true fuel t cs = some x) :
    ∃ n, fuel = n + 1 ∧ cs.length = P.cellsOf t ∧ ∀ (i : Nat) (f : TypeId × Nat), l[i]? = some f → ∃ y, DataW.trod enc P W 0 sp true n f.1 ((cs.drop f.2).take (P.cellsOf f.1)) = some y := by
  unfold structOf at h
  split at h
  · rename_i fs hu
    obtain ⟨xs, n, e, _, hl, hlen, hf⟩ := DataW.trod_struct hu ht
    refine ⟨n, e, hl, fun i f hi => ?_⟩
    subst h
    rw [List.getElem?_map, Option.map_eq_some_iff] at hi
    obtain ⟨g, hg, rfl⟩ := hi
    have hg' : fs[i]? = some g := by simpa using hg
    have hi : i < xs.length := by rw [hlen]; exact (Array.getElem?_eq_some_iff.1 hg').1
    exact ⟨xs[i], by rw [hf i g hg', List.getElem?_eq_getElem hi]⟩
  · exact absurd h.symm hne

theorem structOf_some {t : TypeId} {l : List (TypeId × Nat)} (h : structOf P t = l) (hne : l ≠ []) : ∃ fs, P.underlying t = some (.struct fs) := by
  unfold structOf at h
  split at h
  · exact ⟨_, ‹_›⟩
  · exact absurd h.symm hne

theorem choose_list {α : Type} {Q : Nat → α → Prop} : ∀ n, (∀ i, i < n → ∃ y, Q i y) → ∃ ys : List α, ys.length = n ∧ ∀ i y, ys[i]? = some y → Q i y
  | 0, _ => ⟨[], rfl, fun i y h => by simp at h⟩
  | n + 1, h => by
    obtain ⟨ys, h1, h2⟩ := choose_list n fun i hi => h i (by omega)
    obtain ⟨y, hy⟩ := h n (by omega)
    refine ⟨ys ++ [y], by simp [h1], fun i z hz => ?_⟩
    by_cases hi : i < ys.length
    · rw [List.getElem?_append_left hi] at hz; exact h2 i z hz
    · rw [List.getElem?_append_right (by omega)] at hz
      have : i - ys.length = 0 := by
        rcases Nat.eq_zero_or_pos (i - ys.length) with h | h
        · exact h
        · rw [List.getElem?_eq_none (by simp only [List.length_cons, List.length_nil]; omega)] at hz; cases hz
      rw [this] at hz
      simp at hz
      subst hz
      have : i = n := by omega
      subst this
      exact hy

/-- A list of things that can be read. -/
theorem rd_slice {α : Type} (en : α → List D) (good : α → Prop) {z : Nat} {t e : TypeId} {fuel : Nat} {cs : List Value} {x : DataW H × List MemPlace} (ht : P.underlying t = some (.slice e)) (hz : P.cellsOf e = z) (hz0 : 0 < z) (hen : ∀ y, (en y).length = z)
    (hel : ∀ n < fuel, ∀ cs x, DataW.trod enc P W 0 sp true n e cs = some x → ∃ y, Rowed W (en y) cs ∧ good y) (h : DataW.trod enc P W 0 sp true fuel t cs = some x) :
    ∃ ys : List α, Rowed W [.slice .shared z (ys.map en)] cs ∧ ∀ y ∈ ys, good y := by
  rcases DataW.trod_slice ht h with ⟨rfl, _⟩ | ⟨a, len, cap, elems, rest, n, hn, rfl, _, hb, hl, hm, hlen, hcell, _, _⟩
  · exact ⟨[], Rowed.one (.snil _ _ _ rfl trivial) rfl, fun y hy => by cases hy⟩
  · by_cases h0 : len = 0
    · subst h0
      exact ⟨[], Rowed.one (.semp _ _ _) rfl, fun y hy => by cases hy⟩
    · obtain ⟨ys, hys, hall⟩ := choose_list (Q := fun i y => good y ∧ ∃ cs', W.cells? 0 (a.add (i * z)) z = some cs' ∧ Rowed W (en y) cs') len fun i hi => by
        have hc := hcell i hi
        rw [List.getElem?_eq_getElem (by omega), hz, Option.bind_eq_some_iff] at hc
        obtain ⟨cs', h1, h2⟩ := hc
        obtain ⟨y, h3, h4⟩ := hel n (by omega) _ _ h2
        exact ⟨y, h4, cs', h1, h3⟩
      have cell : ∀ i y, ys[i]? = some y → ∀ (j : Nat) d, (en y)[j]? = some d → ∃ v, W.cell? ((a.add (i * z)).add j) = some v ∧ RD (memM W) S0 d v ∧ v.oneCell' = true := by
        intro i y hy j d hd
        obtain ⟨_, cs', h1, h2, h3, h4⟩ := hall i y hy
        obtain ⟨_, k1, k2⟩ := World.cells?_some h1
        have hj : j < z := by rw [← hen y]; exact (List.getElem?_eq_some_iff.1 hd).1
        have hv : cs'[j]? = some cs'[j] := List.getElem?_eq_getElem (by omega)
        exact ⟨cs'[j], by rw [k2 j hj, hv], h3 j d _ hd hv, h4 _ (List.getElem_mem _)⟩
      obtain ⟨b, off, spot⟩ := a
      have hspot : spot = none := by
        have hy : ys[0]? = some (ys[0]'(by omega)) := List.getElem?_eq_getElem (by omega)
        obtain ⟨d, hd⟩ : ∃ d, (en (ys[0]'(by omega)))[0]? = some d := ⟨_, List.getElem?_eq_getElem (show 0 < (en (ys[0]'(by omega))).length by rw [hen]; exact hz0)⟩
        obtain ⟨v, hv, _⟩ := cell 0 _ hy 0 _ hd
        have := World.cell?_spot hv
        simpa [Addr.add] using this
      subst hspot
      have e : (ys.map en).length = len := by simp [hys]
      have := RD.slice (M := memM W) (s := S0) .shared z (ys.map en) b off cap (by omega) (fun row hr => by obtain ⟨y, _, rfl⟩ := List.mem_map.1 hr; exact hen y)
        (fun i row j d h1 h2 => by
          rw [List.getElem?_map, Option.map_eq_some_iff] at h1
          obtain ⟨y, h1, rfl⟩ := h1
          obtain ⟨v, hv, _, h4⟩ := cell i y h1 j d h2
          rw [add_plain, add_plain] at hv
          refine ⟨v, ?_⟩
          show memG W b (off + (i * z + j)) = _
          unfold memG
          rw [show off + (i * z + j) = off + i * z + j by omega, hv]
          simp [h4])
        (fun i row j d u h1 h2 hu => by
          rw [List.getElem?_map, Option.map_eq_some_iff] at h1
          obtain ⟨y, h1, rfl⟩ := h1
          obtain ⟨v, hv, h3, h4⟩ := cell i y h1 j d h2
          rw [add_plain, add_plain] at hv
          obtain ⟨hu, _⟩ := memG_ok _ _ _ hu
          rw [show off + (i * z + j) = off + i * z + j by omega, hv] at hu
          cases hu
          exact h3) trivial
      rw [e] at this
      refine ⟨ys, Rowed.one this rfl, fun y hy => ?_⟩
      obtain ⟨i, hi⟩ := List.getElem?_of_mem hy
      exact (hall i y hi).1

theorem rd_i64 {t : TypeId} {fuel : Nat} {cs : List Value} {x : DataW H × List MemPlace} (ht : P.underlying t = some (.int .i64)) (h : DataW.trod enc P W 0 sp true fuel t cs = some x) : ∃ n : Int, Rowed W [.int .i64 n] cs ∧ n ≤ 9223372036854775807 ∧ -9223372036854775808 ≤ n := by
  obtain ⟨n, rfl, _, hw⟩ := DataW.trod_int ht h
  simp [Lit.wf, IntKind.min, IntKind.max, IntKind.signed, IntKind.bits] at hw
  exact ⟨n, Rowed.one (.int _ _) rfl, by omega, by omega⟩
theorem rd_str {t : TypeId} {fuel : Nat} {cs : List Value} {x : DataW H × List MemPlace} (ht : P.underlying t = some .string) (h : DataW.trod enc P W 0 sp true fuel t cs = some x) : ∃ s : Str, Rowed W (encStr s) cs ∧ s.length ≤ maxLen := by
  obtain ⟨s, rfl, _, hm⟩ := DataW.trod_string ht h
  obtain ⟨⟨l⟩⟩ := s
  exact ⟨l, Rowed.one (.str l) rfl, hm⟩

/-- Expressions. -/
theorem rd_ex {tE tI tN tS tK : TypeId} (hE : structOf P tE = [(tI, 0), (tN, 1), (tS, 2), (tK, 3)]) (hEc : P.cellsOf tE = 4) (hI : P.underlying tI = some (.int .i64)) (hN : P.underlying tN = some (.int .i64)) (hS : P.underlying tS = some .string) (hK : P.underlying tK = some (.slice tE))
    (cI : P.cellsOf tI = 1) (cN : P.cellsOf tN = 1) (cS : P.cellsOf tS = 1) (cK : P.cellsOf tK = 1) :
    ∀ (fuel : Nat) (cs : List Value) (x : DataW H × List MemPlace), DataW.trod enc P W 0 sp true fuel tE cs = some x → ∃ y : Ex, Rowed W (encEx y) cs ∧ y.rng := by
  intro fuel
  induction fuel using Nat.strongRecOn with
  | _ fuel ih =>
    intro cs x h
    obtain ⟨n, rfl, hl, hf⟩ := struct_fields hE (by simp) h
    obtain ⟨y0, h0⟩ := hf 0 _ rfl
    obtain ⟨y1, h1⟩ := hf 1 _ rfl
    obtain ⟨y2, h2⟩ := hf 2 _ rfl
    obtain ⟨y3, h3⟩ := hf 3 _ rfl
    dsimp only at h0 h1 h2 h3
    rw [cI] at h0
    rw [cN] at h1
    rw [cS] at h2
    rw [cK] at h3
    obtain ⟨op, r0, _⟩ := rd_i64 hI h0
    obtain ⟨m, r1, hm, _⟩ := rd_i64 hN h1
    obtain ⟨s, r2, _⟩ := rd_str hS h2
    obtain ⟨ks, r3, hg⟩ := rd_slice (W := W) encEx Ex.rng hK hEc (by decide) lenEx (fun k hk cs x hx => ih k (by omega) cs x hx) h3
    refine ⟨⟨op, m, s, ks⟩, ?_, hm, ?_⟩
    · have := r0.at (r1.at (r2.at (r3.at (Rowed.end (by rw [hl, hEc])))))
      rw [encEx_eq]
      simpa [encStr] using this
    · clear r3
      induction ks with
      | nil => exact trivial
      | cons k ks ihk => exact ⟨hg k (by simp), ihk fun y hy => hg y (by simp [hy])⟩

/-- Of a whole argument. -/
theorem Rowed.agg {ds : List D} {v : Value} (h : Rowed W ds v.cells.toList) (hv : ∃ vs, v = .agg vs) : RD (memM W) S0 (.agg ds) v := by
  obtain ⟨vs, rfl⟩ := hv
  obtain ⟨h1, h2, h3⟩ := h
  have e : (Value.agg vs).cells = vs := rfl
  rw [e] at h1 h2 h3
  refine .agg ds vs (by simpa using h1) (fun v hv => h3 v (by simpa using hv)) fun i d v hd hv => h2 i d v hd (by simpa using hv)
end

end Go.Abs

/-! Join4 -/

namespace Go.Abs
set_option linter.unusedSimpArgs false
set_option linter.unusedVariables false
open Go.Proofs Go.RowKit Go.ChangeShapes Go.WideShapes

section
variable {H : Type} {enc : TypeId × Value → H} {W : World} {sp : Nat → Bool}

theorem rdp_ex (fuel : Nat) (cs : List Value) (x : DataW H × List MemPlace) (h : DataW.trod enc Tryd.prog W 0 sp true fuel 31 cs = some x) : ∃ y : Ex, Rowed W (encEx y) cs ∧ y.rng :=
  rd_ex (tE := 31) (tI := 3) (tN := 2) (tS := 9) (tK := 29) (by kernel_rfl) (by kernel_rfl) (by kernel_rfl) (by kernel_rfl) (by kernel_rfl) (by kernel_rfl) (by kernel_rfl) (by kernel_rfl) (by kernel_rfl) (by kernel_rfl) _ _ _ h
end

end Go.Abs

/-! Laid5 -/

namespace Go.Proofs.YtcknbmdkefcinaaDoor
open Go.ChangeShapes Go.WideShapes Go.ChangeAt Go.RowKit Go.Abs
set_option linter.unusedVariables false

theorem own : ownKnob Tryd.prog.godebug = none := by kernel_rfl
theorem kids : Kids Tryd.prog (· < Tryd.prog.types.size) := kids_rows (by kernel_rfl) (by kernel_rfl)
theorem full : ∀ {t e : TypeId}, t < Tryd.prog.types.size → Tryd.prog.underlying t = some (.slice e) → 0 < Tryd.prog.cellsOf e := fun {t e} => slices_full_of Tryd.prog (by kernel_rfl) t e

/-- The variables that the rows list. -/
def laid3 : List (String × DataW Unit) := [("math/bits.deBruijn32tab", Rows.laid_math_bits_deBruijn32tab), ("math/bits.deBruijn64tab", Rows.laid_math_bits_deBruijn64tab), ("internal/strconv.uint64pow10", Rows.laid_internal_strconv_uint64pow10)]

theorem laid_pow : (Rows.laid_internal_strconv_uint64pow10 : DataW Unit) = Lib.tabData .u64 Lib.pow10Tab := by kernel_rfl

theorem laidW_of {W : World} (h : laidMetH Tryd.prog laid3 W) : LaidW W := by
  have h1 : laidMet Tryd.prog [("internal/strconv.uint64pow10", Lib.tabData .u64 Lib.pow10Tab)] W := by
    have := (laidMetH_iff.1 h).1.filter fun x => x.1 == "internal/strconv.uint64pow10"
    rw [← laid_pow]
    exact this
  have ht : Lib.TabIs Tryd.prog W "internal/strconv.uint64pow10" .u64 Lib.pow10Tab :=
    Lib.tabIs_of_head (g := gPow) (t := 159) (e := 135) (n := 20) (by kernel_rfl) (by kernel_rfl) (by kernel_rfl) (by kernel_rfl) (by kernel_rfl) (by kernel_rfl) h1
  have hg : Tryd.prog.globalNamed "internal/strconv.uint64pow10" = some gPow := by kernel_rfl
  unfold Lib.TabIs World.var? at ht
  rw [hg] at ht
  simp only [Option.bind_some] at ht
  intro g cs hcs
  unfold tabs at hcs
  split at hcs
  · rename_i hgg
    subst hgg
    cases hcs
    split at ht
    · rename_i cs' T fr e
      cases ht
      exact ⟨T, fr, e⟩
    · cases ht
  · cases hcs

/-- A table's cells. -/
def tabCells : DataW Unit → Array Value
  | .agg l => (l.map fun | .lit (.int k n) => Value.int k n | _ => .int .i64 0).toArray
  | _ => #[]
/-- A world in which the tables are laid. -/
noncomputable def laidWorld (os : Os) : World :=
  let w0 := World.holding Tryd.prog os ⟨#[], #[], []⟩
  let lay := fun (h : Array Obj) (g : Nat) (d : DataW Unit) => h.modify g fun
      | .cells _ t frozen => .cells (tabCells d) t frozen
      | o => o
  { w0 with heap := lay (lay (lay w0.heap 1 Rows.laid_internal_strconv_uint64pow10) 2 Rows.laid_math_bits_deBruijn32tab) 3 Rows.laid_math_bits_deBruijn64tab }
theorem laid_met (os : Os) (args : Array Value) : laidMetH Tryd.prog laid3 ((laidWorld os).forCall (fun _ _ => 0) ⟨#[], args, []⟩).memory :=
  laidMetH_iff.2 ⟨(LaidIn.of_run [2, 3, 1] 8 (by kernel_rfl) (by kernel_rfl) (by kernel_rfl) (by kernel_rfl)).met, fun x hx => by
    have : laid3.filter (fun x => x.2.handleName?.isSome) = [] := by kernel_rfl
    rw [this] at hx; cases hx⟩

end Go.Proofs.YtcknbmdkefcinaaDoor

/-! PrintFew -/

namespace Go.Proofs.YtcknbmdkefcinaaDoor.printFew
open Go.ChangeShapes Go.WideShapes Go.ChangeAt Go.RowKit Go.Abs
set_option linter.unusedVariables false

theorem walk (w : World) (hL : LaidW w) (x : Ex) (hr : x.rng) (v : Value) (hv : RD (memM w) S0 (.agg (encEx x)) v) : Calls Tryd.prog 8 #[v] w fun e w' => e = .returned (.bool true) ∧ Kept w w' := by
  refine law_run (args := [.agg (encEx x)]) ((printFew_s hr S0).mono fun _ _ h => h.1) rfl ?_ hL
  intro i d v h1 h2
  match i, h1, h2 with
  | 0, h1, h2 => simp at h1 h2; subst h1 h2; exact hv

set_option maxRecDepth 100000 in
theorem lifted (os : Os) (started : os.Started) (H : Type) (enc : TypeId × Value → H) :
    ReturnsInHanded {} Tryd.checked os 8 .any (fun w args => (Rows.printFewSpec.pre enc Tryd.prog Tryd.f8 Rows.printFewRow.domain false w args ∧ laidMetH Tryd.prog laid3 w) ∧ sizedMet enc Tryd.prog Tryd.f8 (OpenSpec.ofChange Rows.printFewSpec) false w args)
      (Rows.printFewSpec.post enc Tryd.prog Tryd.f8 false true false false) := by
  refine returnsInHanded_of_change_and (C := Tryd.checked) (X := fun w _ => laidMetH Tryd.prog laid3 w) (fun _ _ _ hh h => h.of_heap hh) own started (by kernel_rfl) Tryd.func8
    (ChangeSpec.witness_at (enc := enc) (C := Tryd.checked) (os := os) (X := fun w _ => laidMetH Tryd.prog laid3 w) false (laidWorld os) #[.agg #[.int .i64 0, .int .i64 0, .string ⟨#[]⟩, .slice none 0 0]] 8 rfl (by kernel_rfl) (by kernel_rfl) (by kernel_rfl) (by kernel_rfl) (by kernel_rfl) (laid_met os _)) ?_
  intro W base args ds gs before hval0 hW hcnd _ hL _
  have hval : ∀ (j : Nat) t v, Tryd.f8.params[j]? = some t → args[j]? = some v → Value.okWide Tryd.prog W .any base t v := hval0
  have hW' := hW
  obtain ⟨p, q, hA0, hV, rfl, hfz, hnd⟩ := hW
  have hA : DataW.TrodAll enc Tryd.prog W 0 (fun _ => true) true Tryd.f8.params.toList args.toList ds p := hA0
  rw [Tryd.params8] at hA hval
  obtain ⟨v0, d0, rfl, rfl, hd0⟩ := trodAll_one hA
  obtain ⟨rfl, rfl⟩ := trodVars_none hV
  have hgo : ∃ x : Ex, RD (memM W) S0 (.agg (encEx x)) v0 ∧ x.rng := by
    obtain ⟨fuel, hf⟩ := hd0
    obtain ⟨y, h1, h2⟩ := rdp_ex _ _ _ hf
    obtain ⟨fs, hfs⟩ := structOf_some (P := Tryd.prog) (t := 31) (l := [(3, 0), (2, 1), (9, 2), (29, 3)]) (by kernel_rfl) (by simp)
    obtain ⟨cs, e, _⟩ := okWide_struct hfs (hval 0 31 _ rfl rfl)
    exact ⟨y, h1.agg ⟨cs, e⟩, h2⟩
  obtain ⟨x, hv, hr⟩ := hgo
  refine (walk W (laidW_of hL) x hr v0 hv).mono fun e W' ⟨he, hg⟩ => ?_
  subst he
  exact ⟨_, rfl, law_post kids full (by rw [Tryd.params8]; decide) Tryd.underlying4 (by kernel_rfl) rfl hW' rfl hg⟩

theorem over : Rows.PrintFewSaid :=
  OpenClaim.holds_of_wide 8 Tryd.f8 rfl rfl rfl rfl rfl rfl rfl ⟨rfl, rfl, rfl, rfl, rfl⟩ rfl rfl rfl rfl rfl (by kernel_rfl) Tryd.func8 (by kernel_rfl)
    (of_decide_eq_true (by kernel_rfl)) (by unfold Func.isWrapper; first | (rw [if_pos (by decide +kernel)]; kernel_rfl) | (rw [if_neg (by decide +kernel)]; exact ⟨rfl, rfl⟩))
    (fun os started H enc _ => lifted os started H enc)

theorem proved : Rows.PrintFewCardSaid :=
  Claim7.holds_tied_plain_at .later [] [.data, .data, .data] true (true, "c4602d4ef5bdffa21f560167e243406d26df7374ad6c9b92d056c6ba37991ec5") false
    over (fun _ h => by cases h) (by kernel_rfl) (fun _ h => by cases h) printFew_row_tie rfl ⟨rfl, rfl⟩ (by kernel_rfl) rfl
    (fun f fn hf hfn => by
      obtain rfl : f = 8 := Option.some.inj ((show Tryd.prog.funcNamed "whittler/whittlerlaw5.PrintFew" = some 8 by kernel_rfl).symm.trans hf) |>.symm
      obtain rfl : fn = Tryd.f8 := (Option.some.inj (Tryd.func8.symm.trans hfn)).symm
      exact ⟨by kernel_rfl, fun j t ht => by
        rw [Tryd.params8] at ht
        have h3 : t = 31 := by
          rcases j with _ | j
          · simpa using ht.symm
          · simp at ht
        subst h3
        exact (show Tryd.prog.wantsStandIn 31 = false by kernel_rfl)⟩)
    (by kernel_rfl)
#print axioms proved
end Go.Proofs.YtcknbmdkefcinaaDoor.printFew
