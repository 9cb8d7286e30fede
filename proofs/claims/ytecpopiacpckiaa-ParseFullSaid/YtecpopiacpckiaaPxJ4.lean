/-
  What is proved here: the statement ParseFullSaid: whatever the expression, the law, called, gives true, and of what was there nothing turns.
  No conditions.
-/
import Derived.Test.YtecpopiacpckiaaPxJ3
import Derived.RowKit3
import Derived.WalkKit
import Derived.ProofKit
import Derived.OpenShut
import Derived.ShutString
import Derived.ChangeMaps5
import Derived.ChangeStays
import Derived.Test.YtecpopiacpckiaaRows

set_option linter.unusedSimpArgs false
set_option linter.unusedVariables false

/-! BindsL -/

namespace Go.Abs
set_option linter.unusedSimpArgs false
set_option linter.unusedVariables false

inductive SplitR : Ex → List (Int × Str) → Ex → Prop
  | nil (x : Ex) : SplitR x [] x
  | cut (x : Ex) (p1 : List (Int × Str)) (op : Int) (y : Str) (p2 : List (Int × Str)) (t1 t2 : Ex) (h1 : SplitR x p1 t1) (h2 : SplitR (exName y) p2 t2) (l1 : ∀ q ∈ p1, bindB op ≤ bindB q.1) (l2 : ∀ q ∈ p2, bindB op < bindB q.1) :
    SplitR x (p1 ++ (op, y) :: p2) (exTwo op t1 t2)

/-- Tokens of what stands behind the first name. -/
def TailT : List (Int × Str) → List Tok → Prop
  | [], l => ∃ t r, l = t :: r ∧ t.kind = 0
  | (op, y) :: p, l => ∃ s u r, l = s :: u :: r ∧ s.kind = 4 ∧ s.text = signR op ∧ (decide (5 ≤ op) && decide (op ≤ 17)) = true ∧ u.kind = 1 ∧ u.text = y ∧ TailT p r

theorem drop_get {α : Type} {l r : List α} {i : Nat} {x : α} (h : l.drop i = x :: r) : l[i]? = some x ∧ l.drop (i + 1) = r := by
  obtain ⟨a, b, _, _⟩ := drop_cons h
  exact ⟨a, b⟩

def KB_two (n : Nat) : Prop := ∀ (least : Int) (r : Rd) (t0 : Tok) (p : List (Int × Str)) (l : List Tok) (x : Ex × Rd), r.l.drop r.i = t0 :: l → t0.kind = 1 → TailT p l → r.code = 0 → 1 ≤ least → Rd.two n least r = some x →
  ∃ p1 p2, p = p1 ++ p2 ∧ SplitR (exName t0.text) p1 x.1 ∧ (∀ q ∈ p1, least ≤ bindB q.1) ∧ (∀ q p', p2 = q :: p' → bindB q.1 < least) ∧ x.2 = { r with i := r.i + 1 + 2 * p1.length } ∧ TailT p2 (l.drop (2 * p1.length))
def KB_twoL (n : Nat) : Prop := ∀ (least : Int) (x0 : Ex) (A : List (Int × Str)) (x : Ex) (r : Rd) (p : List (Int × Str)) (l : List Tok) (z : Ex × Rd), r.l.drop r.i = l → TailT p l → r.code = 0 → 1 ≤ least → SplitR x0 A x →
  (∀ q p', p = q :: p' → ∀ a ∈ A, bindB q.1 ≤ bindB a.1) → Rd.twoL n least x r = some z →
  ∃ p1 p2, p = p1 ++ p2 ∧ SplitR x0 (A ++ p1) z.1 ∧ (∀ q ∈ p1, least ≤ bindB q.1) ∧ (∀ q p', p2 = q :: p' → bindB q.1 < least) ∧ z.2 = { r with i := r.i + 2 * p1.length } ∧ TailT p2 (l.drop (2 * p1.length))

theorem row_one_name {n : Nat} {r : Rd} {t0 : Tok} {l : List Tok} {x : Ex × Rd} (hd : r.l.drop r.i = t0 :: l) (hk : t0.kind = 1) (hc : r.code = 0) (h : Rd.one n r = some x) : x = (exName t0.text, { r with i := r.i + 1 }) := by
  cases n with
  | zero => simp only [Rd.one] at h; cases h
  | succ n =>
    simp only [Rd.one] at h
    rw [Option.bind_eq_some_iff] at h
    obtain ⟨t, h1, h⟩ := h
    have ht := (peek_get h1).2.1
    rw [(drop_get hd).1] at ht
    cases ht
    have hg : r.good = true := by simp [hc]
    simp only [hg, hk, Bool.not_true, Bool.false_eq_true, ↓reduceIte] at h
    have : ((1 : Int) == 2) = false := rfl
    simp only [this, BEq.rfl, Bool.false_eq_true, ↓reduceIte] at h
    cases h
    rfl

end Go.Abs

/-! BindsL2 -/

namespace Go.Abs
set_option linter.unusedSimpArgs false
set_option linter.unusedVariables false

/-! ### The documents' way -/

def AtB (d : List Int) (al : Nat × Int) : Prop := (d = [] ∧ al.2 = 9) ∨ ∃ o1 op o2, d = o1 ++ op :: o2 ∧ o1.length = al.1 ∧ bindB op = al.2 ∧ (∀ o ∈ o1, bindB op ≤ bindB o) ∧ ∀ o ∈ o2, bindB op < bindB o
/-! ### The text -/

def tailB : List Str → List Int → Str
  | x :: xs, op :: ops => signR op ++ (x ++ tailB xs ops)
  | _, _ => []

def NoGo : Str → Prop
  | [] => True
  | c :: _ => isL c = false ∧ isD c = false
theorem sign_nogo {op : Int} (h : (decide (5 ≤ op) && decide (op ≤ 17)) = true) (r : Str) : NoGo (signR op ++ r) := by
  rcases signs h with rfl | rfl | rfl | rfl | rfl | rfl | rfl | rfl | rfl | rfl | rfl | rfl | rfl <;> exact ⟨by decide, by decide⟩

end Go.Abs

/-! Full5 -/

namespace Go.Abs
set_option linter.unusedSimpArgs false
set_option linter.unusedVariables false

/-- Is it such a token? -/
def TokIs (t : Tok) (k : Int) (s : Str) (n : Int) : Prop := t.kind = k ∧ t.text = s ∧ t.n = n

/-- The tokens of an expression's text, and what is behind them. -/
inductive FullT : Ex → List Tok → List Tok → Prop
  | num (n : Int) (t : Tok) (l : List Tok) (h : t.kind = 2) (h2 : t.n = n) : FullT ⟨1, n, [], []⟩ (t :: l) l
  | name (s : Str) (t : Tok) (l : List Tok) (h : t.kind = 1) (h2 : t.text = s) : FullT ⟨2, 0, s, []⟩ (t :: l) l
  | neg (y : Ex) (p m q : Tok) (l r : List Tok) (hp : TokIs p 4 [40] 0) (hm : TokIs m 4 [45] 0) (hy : FullT y l (q :: r)) (hq : TokIs q 4 [41] 0) : FullT ⟨3, 0, [], [y]⟩ (p :: m :: l) r
  | no (y : Ex) (p m q : Tok) (l r : List Tok) (hp : TokIs p 4 [40] 0) (hm : TokIs m 4 [33] 0) (hy : FullT y l (q :: r)) (hq : TokIs q 4 [41] 0) : FullT ⟨4, 0, [], [y]⟩ (p :: m :: l) r
  | two (op : Int) (a b : Ex) (p o q : Tok) (l m r : List Tok) (ho : (decide (5 ≤ op) && decide (op ≤ 17)) = true) (hp : TokIs p 4 [40] 0) (ha : FullT a l (o :: m)) (hs : TokIs o 4 (signR op) 0) (hb : FullT b m (q :: r)) (hq : TokIs q 4 [41] 0) :
    FullT ⟨op, 0, [], [a, b]⟩ (p :: l) r

end Go.Abs

/-! Full6 -/

namespace Go.Abs
set_option linter.unusedSimpArgs false
set_option linter.unusedVariables false

theorem dig_byte {d : Nat} (h : d < 10) : isD (UInt8.ofNat (48 + d)) = true ∧ isL (UInt8.ofNat (48 + d)) = false ∧ ((UInt8.ofNat (48 + d)).toNat : Int) = ((48 + d : Nat) : Int) := by
  have e : (UInt8.ofNat (48 + d)).toNat = 48 + d := by simp; omega
  refine ⟨?_, ?_, by rw [e]⟩
  · simp only [isD, e, Bool.and_eq_true, decide_eq_true_eq]; omega
  · simp only [isL, e, Bool.and_eq_false_iff, decide_eq_false_iff_not]; omega

theorem digF_dig : ∀ f n, ∀ c ∈ digF f n, isD c = true
  | 0, n, c, h => by simp [digF] at h
  | f + 1, n, c, h => by
    simp only [digF] at h
    split at h
    · rename_i hc; simp only [List.mem_singleton] at h; subst h; exact (dig_byte hc).1
    · rcases List.mem_append.1 h with h | h
      · exact digF_dig f _ c h
      · simp only [List.mem_singleton] at h; subst h; exact (dig_byte (Nat.mod_lt _ (by omega))).1

theorem runD_all' {b : Str} (hb : NoGo b) : ∀ s : Str, (∀ c ∈ s, isD c = true) → runD (s ++ b) = s.length
  | [], _ => by
    cases b with
    | nil => rfl
    | cons c r => simp only [NoGo] at hb; simp [runD, hb.2]
  | c :: s, h => by simp only [List.cons_append, runD, h c (by simp), ↓reduceIte, List.length_cons, runD_all' hb s (fun d hd => h d (by simp [hd]))]

theorem worth_app : ∀ (s : Str) (a : Int) (c : UInt8), worth a (s ++ [c]) = (worth a s).bind fun n => worth n [c]
  | [], a, c => by simp [worth]
  | d :: s, a, c => by
    simp only [List.cons_append, worth]
    split
    · rfl
    · exact worth_app s _ c

theorem digF_worth : ∀ f n, n < 10 ^ f → n ≤ 9223372036854775807 → 0 < f → worth 0 (digF f n) = some (n : Int)
  | 0, n, _, _, h => by omega
  | f + 1, n, hn, hm, _ => by
    simp only [digF]
    split
    · have := (dig_byte (d := n) (by omega)).2.2
      simp only [worth, this]
      rw [if_neg (by omega)]
      congr 1; omega
    · have hf0 : 0 < f := by
        cases f with
        | zero => simp at hn; omega
        | succ f => omega
      have := (dig_byte (d := n % 10) (by omega)).2.2
      rw [worth_app, digF_worth f (n / 10) (by rw [Nat.pow_succ] at hn; omega) (by omega) hf0]
      simp only [Option.bind_some, worth, this]
      rw [if_neg (by omega)]
      congr 1; omega

theorem digF_first : ∀ f n, 10 ≤ n → n < 10 ^ f → ∃ d r, 1 ≤ d ∧ d < 10 ∧ digF f n = UInt8.ofNat (48 + d) :: r
  | 0, n, h, hn => by simp at hn; omega
  | f + 1, n, h, hn => by
    simp only [digF]
    rw [if_neg (by omega)]
    by_cases h1 : n / 10 < 10
    · cases f with
      | zero => simp at hn; omega
      | succ f => simp only [digF, if_pos h1, List.cons_append, List.nil_append]; exact ⟨n / 10, _, by omega, h1, rfl⟩
    · obtain ⟨d, r, k1, k2, k3⟩ := digF_first f (n / 10) (by omega) (by rw [Nat.pow_succ] at hn; omega)
      rw [k3]
      exact ⟨d, _, k1, k2, rfl⟩

theorem tokE_num {n : Nat} (hn : n ≤ 9223372036854775807) (pos : Nat) {r : Str} (hr : NoGo r) : tokE pos (digF 20 n ++ r) = .inl ⟨2, digF 20 n, n, pos⟩ := by
  have hrun := runD_all' hr (digF 20 n) (digF_dig 20 n)
  have hw := digF_worth 20 n (by omega) hn (by omega)
  have hfirst : ∃ c s, digF 20 n = c :: s ∧ isD c = true ∧ isL c = false ∧ ¬ (s.length + 1 > 1 ∧ (c.toNat : Int) = 48) := by
    by_cases h : n < 10
    · obtain ⟨b1, b2, b3⟩ := dig_byte h
      exact ⟨_, [], by simp only [digF, if_pos h], b1, b2, by simp⟩
    · obtain ⟨d, s, k1, k2, k3⟩ := digF_first 20 n (by omega) (by omega)
      obtain ⟨b1, b2, b3⟩ := dig_byte k2
      exact ⟨_, s, k3, b1, b2, by rw [b3]; omega⟩
  obtain ⟨c, s, e, h1, h2, h3⟩ := hfirst
  rw [e] at hrun hw ⊢
  have ht : (c :: s ++ r).take (c :: s).length = c :: s := List.take_left' rfl
  rw [List.cons_append] at hrun ht ⊢
  simp only [tokE, h1, h2, Bool.false_eq_true, ↓reduceIte, hrun, ht, hw]
  rw [if_neg (by simpa using h3)]

end Go.Abs

/-! Full7 -/

namespace Go.Abs
set_option linter.unusedSimpArgs false
set_option linter.unusedVariables false

/-- It does not go on with a sign. -/
def Okd : Str → Prop
  | [] => False
  | d :: _ => d ≠ 61 ∧ d ≠ 38 ∧ d ≠ 124

theorem sign2_okd {c d : UInt8} {r : Str} (h : Okd (d :: r)) : sign2 [c, d] = false := by
  obtain ⟨a, b, e⟩ := h
  simp [sign2, a, b, e]

theorem okd_of {d : UInt8} {r : Str} (h : isL d = true ∨ isD d = true ∨ d = 40) : Okd (d :: r) := by
  refine ⟨?_, ?_, ?_⟩ <;> rintro rfl <;> rcases h with h | h | h <;> first | exact absurd h (by decide) | cases h

theorem tokE_sign' {op : Int} (h : (decide (5 ≤ op) && decide (op ≤ 17)) = true) (pos : Nat) {r : Str} (hr : Okd r) : tokE pos (signR op ++ r) = .inl ⟨4, signR op, 0, pos⟩ := by
  cases r with
  | nil => exact hr.elim
  | cons c r =>
    have s2 := fun a => sign2_okd (c := a) hr
    rcases signs h with rfl | rfl | rfl | rfl | rfl | rfl | rfl | rfl | rfl | rfl | rfl | rfl | rfl
    all_goals simp (decide := true) [signR, tokE, signL, s2]

theorem tokE_open (pos : Nat) (r : Str) : tokE pos (40 :: r) = .inl ⟨4, [40], 0, pos⟩ := by
  cases r with
  | nil => simp (decide := true) [tokE, signL]
  | cons d r => 
    have : sign2 [40, d] = false := by simp (decide := true) [sign2]
    simp (decide := true) [tokE, signL, this]
theorem tokE_shut (pos : Nat) (r : Str) : tokE pos (41 :: r) = .inl ⟨4, [41], 0, pos⟩ := by
  cases r with
  | nil => simp (decide := true) [tokE, signL]
  | cons d r => 
    have : sign2 [41, d] = false := by simp (decide := true) [sign2]
    simp (decide := true) [tokE, signL, this]
theorem tokE_minus (pos : Nat) (r : Str) : tokE pos (45 :: r) = .inl ⟨4, [45], 0, pos⟩ := by
  cases r with
  | nil => simp (decide := true) [tokE, signL]
  | cons d r => 
    have : sign2 [45, d] = false := by simp (decide := true) [sign2]
    simp (decide := true) [tokE, signL, this]
theorem tokE_not (pos : Nat) {r : Str} (hr : Okd r) : tokE pos (33 :: r) = .inl ⟨4, [33], 0, pos⟩ := by
  cases r with
  | nil => exact hr.elim
  | cons d r => 
    have := sign2_okd (c := 33) hr
    simp (decide := true) [tokE, signL, this]

theorem nameT_run {b : Str} (hb : NoGo b) : ∀ s : Str, nameT s = true → runL (s ++ b) = s.length
  | [], _ => by
    cases b with
    | nil => rfl
    | cons c r => simp only [NoGo] at hb; simp [runL, hb.1, hb.2]
  | c :: s, h => by
    simp only [nameT] at h
    split at h
    · cases h
    · rename_i hc
      have : (isL c || isD c) = true := by cases h1 : isL c <;> cases h2 : isD c <;> simp [h1, h2] at hc ⊢
      simp only [List.cons_append, runL, this, ↓reduceIte, List.length_cons, nameT_run hb s h]

theorem tokE_nm {t : Str} (ht : isName t = true) (pos : Nat) {r : Str} (hr : NoGo r) : tokE pos (t ++ r) = .inl ⟨1, t, 0, pos⟩ ∧ ∃ c s, t = c :: s ∧ isL c = true := by
  cases t with
  | nil => cases ht
  | cons c s =>
    have hlen := isName_len ht
    simp only [isName] at ht
    split at ht
    · cases ht
    · rename_i hc
      simp only [Bool.or_eq_true, not_or, Bool.not_eq_true', Bool.not_eq_false] at hc
      split at ht
      · rename_i hn
        have hw : isWord (c :: s) = false := by simpa using ht
        have hrun : runL (c :: (s ++ r)) = (c :: s).length := by simp only [runL, hc.2, Bool.true_or, ↓reduceIte, nameT_run hr s hn, List.length_cons]
        have htk : (c :: (s ++ r)).take (c :: s).length = c :: s := by rw [← List.cons_append]; exact List.take_left' rfl
        refine ⟨?_, c, s, rfl, hc.2⟩
        rw [List.cons_append]
        simp only [tokE, hc.2, ↓reduceIte, hrun, htk, hw, Bool.false_eq_true]
        rw [if_neg (by omega)]
      · cases ht

end Go.Abs

/-! Full8 -/

namespace Go.Abs
set_option linter.unusedSimpArgs false
set_option linter.unusedVariables false

/-- It is read as that expression. -/
def ReadsAs (x : Ex) (l m : List Tok) : Prop := ∀ (n : Nat) (r : Rd) (p : Ex × Rd), r.l.drop r.i = l → r.code = 0 → Rd.one n r = some p → ∃ j, p = (x, { r with i := j }) ∧ r.l.drop j = m
def ReadsTwo (x : Ex) (l m : List Tok) : Prop := ∀ (n : Nat) (r : Rd) (p : Ex × Rd), r.l.drop r.i = l → r.code = 0 → Rd.two n 1 r = some p → ∃ j, p = (x, { r with i := j }) ∧ r.l.drop j = m

theorem peek_is {r : Rd} {t u : Tok} {m : List Tok} (hd : r.l.drop r.i = t :: m) (h : r.peek = some u) : u = t := by
  have := (peek_get h).2.1
  rw [(drop_get hd).1] at this
  cases this; rfl

theorem take_yes {r : Rd} {t : Tok} {m : List Tok} {s : Str} {p : Bool × Rd} (hd : r.l.drop r.i = t :: m) (hc : r.code = 0) (hk : t.kind = 4) (ht : t.text = s) (h : r.take s = some p) : p = (true, { r with i := r.i + 1 }) := by
  have hg : r.good = true := by simp [hc]
  unfold Rd.take at h
  simp only [hg, Bool.not_true, Bool.false_eq_true, ↓reduceIte] at h
  rw [Option.bind_eq_some_iff] at h
  obtain ⟨b, hb, h⟩ := h
  unfold Rd.is at hb
  rw [Option.bind_eq_some_iff] at hb
  obtain ⟨u, hu, hb⟩ := hb
  cases peek_is hd hu
  have : b = true := by cases hb; simp [hk, ht]
  subst this
  simp at h
  exact h.symm
theorem take_no {r : Rd} {t : Tok} {m : List Tok} {s : Str} {p : Bool × Rd} (hd : r.l.drop r.i = t :: m) (hc : r.code = 0) (ht : t.text ≠ s) (h : r.take s = some p) : p = (false, r) := by
  have hg : r.good = true := by simp [hc]
  unfold Rd.take at h
  simp only [hg, Bool.not_true, Bool.false_eq_true, ↓reduceIte] at h
  rw [Option.bind_eq_some_iff] at h
  obtain ⟨b, hb, h⟩ := h
  unfold Rd.is at hb
  rw [Option.bind_eq_some_iff] at hb
  obtain ⟨u, hu, hb⟩ := hb
  cases peek_is hd hu
  have : b = false := by cases hb; simp [ht]
  subst this
  simp at h
  exact h.symm
theorem want_yes {r r' : Rd} {t : Tok} {m : List Tok} {s : Str} (hd : r.l.drop r.i = t :: m) (hc : r.code = 0) (hk : t.kind = 4) (ht : t.text = s) (h : r.want s = some r') : r' = { r with i := r.i + 1 } := by
  unfold Rd.want at h
  rw [Option.bind_eq_some_iff] at h
  obtain ⟨p, hp, h⟩ := h
  cases take_yes hd hc hk ht hp
  simp at h
  exact h.symm

/-- A loop stops at a token that is no sign between two. -/
theorem twoL_stop {n : Nat} {least : Int} {x : Ex} {r : Rd} {t : Tok} {m : List Tok} {p : Ex × Rd} (hd : r.l.drop r.i = t :: m) (hc : r.code = 0) (ho : (opOf t).1 = 0) (h : Rd.twoL n least x r = some p) : p = (x, r) := by
  cases n with
  | zero => simp only [Rd.twoL] at h; cases h
  | succ n =>
    have hg : r.good = true := by simp [hc]
    simp only [Rd.twoL] at h
    rw [if_pos hg, Option.bind_eq_some_iff] at h
    obtain ⟨u, hu, h⟩ := h
    cases peek_is hd hu
    rw [if_pos (by rw [ho]; simp)] at h
    cases h; rfl

theorem two_stop {n : Nat} {least : Int} {x : Ex} {r : Rd} {l : List Tok} {t : Tok} {m : List Tok} {p : Ex × Rd} (hx : ReadsAs x l (t :: m)) (hd : r.l.drop r.i = l) (hc : r.code = 0) (ho : (opOf t).1 = 0) (h : Rd.two n least r = some p) : ∃ j, p = (x, { r with i := j }) ∧ r.l.drop j = t :: m := by
  cases n with
  | zero => simp only [Rd.two] at h; cases h
  | succ n =>
    simp only [Rd.two] at h
    rw [Option.bind_eq_some_iff] at h
    obtain ⟨y, hy, h⟩ := h
    obtain ⟨j, rfl, hj⟩ := hx n r y hd hc hy
    have := twoL_stop (r := { r with i := j }) hj hc ho h
    exact ⟨j, this, hj⟩

theorem ReadsTwo.of {x : Ex} {l : List Tok} {t : Tok} {m : List Tok} (hx : ReadsAs x l (t :: m)) (ho : (opOf t).1 = 0) : ReadsTwo x l (t :: m) := fun n r p hd hc h => two_stop hx hd hc ho h

theorem opOf_shut {q : Tok} (hk : q.kind = 4) (ht : q.text = [41]) : (opOf q).1 = 0 := by simp (decide := true) [opOf, hk, ht]

/-- In brackets. -/
theorem ReadsTwo.shut {x : Ex} {l m : List Tok} {p q : Tok} (hx : ReadsTwo x l (q :: m)) (hp : p.kind = 4) (hpt : p.text = [40]) (hq : q.kind = 4) (hqt : q.text = [41]) : ReadsAs x (p :: l) m := by
  intro n r w hd hc h
  cases n with
  | zero => simp only [Rd.one] at h; cases h
  | succ n =>
    have hg : r.good = true := by simp [hc]
    simp only [Rd.one] at h
    rw [Option.bind_eq_some_iff] at h
    obtain ⟨u, hu, h⟩ := h
    cases peek_is hd hu
    have k2 : (p.kind == 2) = false := by rw [hp]; rfl
    have k1 : (p.kind == 1) = false := by rw [hp]; rfl
    simp only [hg, k2, k1, Bool.not_true, Bool.false_eq_true, ↓reduceIte] at h
    rw [Option.bind_eq_some_iff] at h
    obtain ⟨y, hy, h⟩ := h
    cases take_yes hd hc hp hpt hy
    simp only [↓reduceIte] at h
    rw [Option.bind_eq_some_iff] at h
    obtain ⟨z, hz, h⟩ := h
    obtain ⟨j, rfl, hj⟩ := hx n { r with i := r.i + 1 } z (drop_get hd).2 hc hz
    rw [Option.bind_eq_some_iff] at h
    obtain ⟨r', hr, h⟩ := h
    cases want_yes (r := { r with i := j }) hj hc hq hqt hr
    cases h
    exact ⟨j + 1, rfl, (drop_get hj).2⟩

theorem reads_num {t : Tok} (hk : t.kind = 2) (m : List Tok) : ReadsAs ⟨1, t.n, [], []⟩ (t :: m) m := by
  intro n r w hd hc h
  cases n with
  | zero => simp only [Rd.one] at h; cases h
  | succ n =>
    have hg : r.good = true := by simp [hc]
    simp only [Rd.one] at h
    rw [Option.bind_eq_some_iff] at h
    obtain ⟨u, hu, h⟩ := h
    cases peek_is hd hu
    have k2 : (t.kind == 2) = true := by rw [hk]; rfl
    simp only [hg, k2, Bool.not_true, Bool.false_eq_true, ↓reduceIte] at h
    cases h
    exact ⟨r.i + 1, rfl, (drop_get hd).2⟩
theorem reads_name {t : Tok} (hk : t.kind = 1) (m : List Tok) : ReadsAs ⟨2, 0, t.text, []⟩ (t :: m) m := by
  intro n r w hd hc h
  have := row_one_name hd hk hc h
  subst this
  exact ⟨r.i + 1, rfl, (drop_get hd).2⟩
/-- Behind a minus. -/
theorem reads_neg {y : Ex} {l m : List Tok} {t : Tok} (hk : t.kind = 4) (ht : t.text = [45]) (hy : ReadsAs y l m) : ReadsAs ⟨3, 0, [], [y]⟩ (t :: l) m := by
  intro n r w hd hc h
  cases n with
  | zero => simp only [Rd.one] at h; cases h
  | succ n =>
    have hg : r.good = true := by simp [hc]
    simp only [Rd.one] at h
    rw [Option.bind_eq_some_iff] at h
    obtain ⟨u, hu, h⟩ := h
    cases peek_is hd hu
    have k2 : (t.kind == 2) = false := by rw [hk]; rfl
    have k1 : (t.kind == 1) = false := by rw [hk]; rfl
    simp only [hg, k2, k1, Bool.not_true, Bool.false_eq_true, ↓reduceIte] at h
    rw [Option.bind_eq_some_iff] at h
    obtain ⟨a, ha, h⟩ := h
    cases take_no hd hc (by rw [ht]; decide) ha
    simp only [Bool.false_eq_true, ↓reduceIte] at h
    rw [Option.bind_eq_some_iff] at h
    obtain ⟨b, hb, h⟩ := h
    cases take_yes hd hc hk ht hb
    simp only [↓reduceIte] at h
    rw [Option.bind_eq_some_iff] at h
    obtain ⟨z, hz, h⟩ := h
    obtain ⟨j, rfl, hj⟩ := hy n { r with i := r.i + 1 } z (drop_get hd).2 hc hz
    cases h
    exact ⟨j, rfl, hj⟩
theorem reads_no {y : Ex} {l m : List Tok} {t : Tok} (hk : t.kind = 4) (ht : t.text = [33]) (hy : ReadsAs y l m) : ReadsAs ⟨4, 0, [], [y]⟩ (t :: l) m := by
  intro n r w hd hc h
  cases n with
  | zero => simp only [Rd.one] at h; cases h
  | succ n =>
    have hg : r.good = true := by simp [hc]
    simp only [Rd.one] at h
    rw [Option.bind_eq_some_iff] at h
    obtain ⟨u, hu, h⟩ := h
    cases peek_is hd hu
    have k2 : (t.kind == 2) = false := by rw [hk]; rfl
    have k1 : (t.kind == 1) = false := by rw [hk]; rfl
    simp only [hg, k2, k1, Bool.not_true, Bool.false_eq_true, ↓reduceIte] at h
    rw [Option.bind_eq_some_iff] at h
    obtain ⟨a, ha, h⟩ := h
    cases take_no hd hc (by rw [ht]; decide) ha
    simp only [Bool.false_eq_true, ↓reduceIte] at h
    rw [Option.bind_eq_some_iff] at h
    obtain ⟨b, hb, h⟩ := h
    cases take_no hd hc (by rw [ht]; decide) hb
    simp only [Bool.false_eq_true, ↓reduceIte] at h
    rw [Option.bind_eq_some_iff] at h
    obtain ⟨b, hb, h⟩ := h
    cases take_yes hd hc hk ht hb
    simp only [↓reduceIte] at h
    rw [Option.bind_eq_some_iff] at h
    obtain ⟨z, hz, h⟩ := h
    obtain ⟨j, rfl, hj⟩ := hy n { r with i := r.i + 1 } z (drop_get hd).2 hc hz
    cases h
    exact ⟨j, rfl, hj⟩
/-- Two with a sign between. -/
theorem reads_two {op : Int} (hop : (decide (5 ≤ op) && decide (op ≤ 17)) = true) {a b : Ex} {l m k : List Tok} {o q : Tok} (ha : ReadsAs a l (o :: m)) (hk : o.kind = 4) (ht : o.text = signR op) (hb : ReadsAs b m (q :: k)) (hq : q.kind = 4) (hqt : q.text = [41]) :
    ReadsTwo ⟨op, 0, [], [a, b]⟩ l (q :: k) := by
  intro n r w hd hc h
  have hB := bindB_pos hop
  have ho : opOf o = (op, bindB op) := by rw [binds_op o hk, ht, hB.2.2]; rfl
  cases n with
  | zero => simp only [Rd.two] at h; cases h
  | succ n =>
    simp only [Rd.two] at h
    rw [Option.bind_eq_some_iff] at h
    obtain ⟨y, hy, h⟩ := h
    obtain ⟨j, rfl, hj⟩ := ha n r y hd hc hy
    cases n with
    | zero => simp only [Rd.twoL] at h; cases h
    | succ n =>
      have hg : ({ r with i := j } : Rd).good = true := by simp [hc]
      simp only [Rd.twoL] at h
      rw [if_pos hg, Option.bind_eq_some_iff] at h
      obtain ⟨u, hu, h⟩ := h
      cases peek_is (r := { r with i := j }) hj hu
      have o0 : (op == 0) = false := by
        simp only [Bool.and_eq_true, decide_eq_true_eq] at hop
        exact beq_eq_false_iff_ne.2 (by omega)
      have hcn : (decide (bindB op < 1) || op == 0) = false := by simp [o0]; omega
      rw [ho] at h
      rw [if_neg (by rw [hcn]; simp), Option.bind_eq_some_iff] at h
      obtain ⟨z, hz, h⟩ := h
      obtain ⟨j2, rfl, hj2⟩ := two_stop (r := { r with i := j + 1 }) hb (drop_get hj).2 hc (opOf_shut hq hqt) hz
      have := twoL_stop (r := { r with i := j2 }) hj2 hc (opOf_shut hq hqt) h
      exact ⟨j2, this, hj2⟩

end Go.Abs

/-! Full9 -/

namespace Go.Abs
set_option linter.unusedSimpArgs false
set_option linter.unusedVariables false

/-- A text's tokens, whatever is behind it, and that they are read as that expression. -/
def LxAs (s : Str) (x : Ex) (n : Nat) : Prop := ∀ pos : Nat, ∃ l : List Tok, l.length ≤ n ∧ (∀ r lr, NoGo r → Lx (pos + s.length) r lr → Lx pos (s ++ r) (l ++ lr)) ∧ ∀ lr, ReadsAs x (l ++ lr) lr

theorem digF_nil (f n : Nat) : digF (f + 1) n ≠ [] := by
  intro h
  simp only [digF] at h
  split at h <;> simp at h
theorem digF_ne (n : Nat) : ∃ c s, digF 20 n = c :: s ∧ isD c = true := by
  cases h : digF 20 n with
  | nil => exact absurd h (digF_nil 19 n)
  | cons c s => exact ⟨c, s, rfl, digF_dig 20 n c (by rw [h]; simp)⟩

theorem fullE_first {x : Ex} (h : FormI x) : ∃ c s, fullE x = c :: s ∧ (isL c = true ∨ isD c = true ∨ c = 40) := by
  cases h with
  | num n h0 h1 =>
    obtain ⟨c, s, e, hd⟩ := digF_ne n.toNat
    exact ⟨c, s, by simp only [fullE, fullK, Int.reduceEq, ↓reduceIte]; exact e, .inr (.inl hd)⟩
  | name t ht =>
    obtain ⟨_, c, s, e, hc⟩ := tokE_nm ht 0 (r := []) trivial
    exact ⟨c, s, by simp only [fullE, fullK, ↓reduceIte]; exact e, .inl hc⟩
  | neg y hy => exact ⟨40, _, by simp only [fullE, fullK, ↓reduceIte, List.cons_append]; rfl, .inr (.inr rfl)⟩
  | no y hy => exact ⟨40, _, by simp only [fullE, fullK, Int.reduceEq, ↓reduceIte, List.cons_append]; rfl, .inr (.inr rfl)⟩
  | two op a b ho ha hb => exact ⟨40, _, by simp only [fullE, fullK, List.cons_append]; rfl, .inr (.inr rfl)⟩

theorem fullE_okd {x : Ex} (h : FormI x) (r : Str) : Okd (fullE x ++ r) := by
  obtain ⟨c, s, e, h⟩ := fullE_first h
  rw [e]; exact okd_of h

theorem LxAs.shut {s : Str} {x : Ex} {n : Nat} (h : ∀ pos : Nat, ∃ l : List Tok, l.length ≤ n ∧ (∀ r lr, NoGo r → Lx (pos + s.length) r lr → Lx pos (s ++ r) (l ++ lr)) ∧ ∀ q lr, q.kind = 4 → q.text = [41] → ReadsTwo x (l ++ q :: lr) (q :: lr)) : LxAs (40 :: (s ++ [41])) x (n + 2) := by
  intro pos
  obtain ⟨l, g1, g2, g3⟩ := h (pos + 1)
  refine ⟨⟨4, [40], 0, (pos : Nat)⟩ :: (l ++ [⟨4, [41], 0, ((pos + 1 + s.length : Nat) : Int)⟩]), by simp; omega, fun r lr hr hl => ?_, fun lr => ?_⟩
  · simp only [List.cons_append, List.append_assoc, List.nil_append]
    refine .tok' (tokE_open _ _) ?_
    refine g2 (41 :: r) _ ⟨by decide, by decide⟩ ?_
    refine .tok' (tokE_shut _ _) ?_
    have : pos + 1 + s.length + 1 = pos + (40 :: (s ++ [41])).length := by simp; omega
    simpa [this] using hl
  · simp only [List.cons_append, List.append_assoc, List.nil_append]
    exact ReadsTwo.shut (g3 _ lr rfl rfl) rfl rfl rfl rfl

theorem LxAs.two {s : Str} {x : Ex} {n : Nat} (h : LxAs s x n) : ∀ pos : Nat, ∃ l : List Tok, l.length ≤ n ∧ (∀ r lr, NoGo r → Lx (pos + s.length) r lr → Lx pos (s ++ r) (l ++ lr)) ∧ ∀ q lr, q.kind = 4 → q.text = [41] → ReadsTwo x (l ++ q :: lr) (q :: lr) := by
  intro pos
  obtain ⟨l, g1, g2, g3⟩ := h pos
  exact ⟨l, g1, g2, fun q lr hq hqt => .of (g3 _) (opOf_shut hq hqt)⟩

theorem full_lx {x : Ex} (h : FormI x) : LxAs (fullE x) x (5 * x.nodes) := by
  induction h with
  | num n h0 h1 =>
    intro pos
    have e := Int.toNat_of_nonneg h0
    refine ⟨[⟨2, digF 20 n.toNat, n.toNat, (pos : Nat)⟩], by simp [Ex.nodes, Ex.nodess], fun r lr hr hl => ?_, fun lr => ?_⟩
    · have ef : fullE ⟨1, n, [], []⟩ = digF 20 n.toNat := by simp only [fullE, fullK, Int.reduceEq, ↓reduceIte]
      rw [ef] at hl ⊢
      refine .tok' (tokE_num (by omega) pos hr) ?_
      simpa using hl
    · have := reads_num (t := ⟨2, digF 20 n.toNat, n.toNat, (pos : Nat)⟩) rfl lr
      dsimp only at this
      rw [e] at this
      simpa [e] using this
  | name t ht =>
    intro pos
    refine ⟨[⟨1, t, 0, (pos : Nat)⟩], by simp [Ex.nodes, Ex.nodess], fun r lr hr hl => ?_, fun lr => ?_⟩
    · have ef : fullE ⟨2, 0, t, []⟩ = t := by simp only [fullE, fullK, ↓reduceIte]
      rw [ef] at hl ⊢
      refine .tok' (tokE_nm ht pos hr).1 ?_
      simpa using hl
    · exact reads_name (t := ⟨1, t, 0, (pos : Nat)⟩) rfl lr
  | neg y hy ih =>
    have ef : fullE ⟨3, 0, [], [y]⟩ = 40 :: ((45 :: fullE y) ++ [41]) := by simp only [fullE, fullK, ↓reduceIte]; simp
    rw [ef]
    have : LxAs (40 :: ((45 :: fullE y) ++ [41])) ⟨3, 0, [], [y]⟩ ((5 * y.nodes + 1) + 2) := LxAs.shut (LxAs.two fun pos => by
      obtain ⟨l, g1, g2, g3⟩ := ih (pos + 1)
      refine ⟨⟨4, [45], 0, (pos : Nat)⟩ :: l, by simp; omega, fun r lr hr hl => ?_, fun lr => reads_neg rfl rfl (g3 lr)⟩
      simp only [List.cons_append]
      refine .tok' (tokE_minus _ _) ?_
      refine g2 r lr hr ?_
      have : pos + 1 + (fullE y).length = pos + (45 :: fullE y).length := by simp; omega
      rw [this]; exact hl)
    intro pos
    obtain ⟨l, g1, g2⟩ := this pos
    exact ⟨l, by simp only [Ex.nodes, Ex.nodess]; omega, g2⟩
  | no y hy ih =>
    have ef : fullE ⟨4, 0, [], [y]⟩ = 40 :: ((33 :: fullE y) ++ [41]) := by simp only [fullE, fullK, Int.reduceEq, ↓reduceIte]; simp
    rw [ef]
    have : LxAs (40 :: ((33 :: fullE y) ++ [41])) ⟨4, 0, [], [y]⟩ ((5 * y.nodes + 1) + 2) := LxAs.shut (LxAs.two fun pos => by
      obtain ⟨l, g1, g2, g3⟩ := ih (pos + 1)
      refine ⟨⟨4, [33], 0, (pos : Nat)⟩ :: l, by simp; omega, fun r lr hr hl => ?_, fun lr => reads_no rfl rfl (g3 lr)⟩
      simp only [List.cons_append]
      refine .tok' (tokE_not _ (fullE_okd hy r)) ?_
      refine g2 r lr hr ?_
      have : pos + 1 + (fullE y).length = pos + (33 :: fullE y).length := by simp; omega
      rw [this]; exact hl)
    intro pos
    obtain ⟨l, g1, g2⟩ := this pos
    exact ⟨l, by simp only [Ex.nodes, Ex.nodess]; omega, g2⟩
  | two op a b ho ha hb iha ihb =>
    have ef : fullE ⟨op, 0, [], [a, b]⟩ = 40 :: ((fullE a ++ (signR op ++ fullE b)) ++ [41]) := by simp only [fullE, fullK]; simp
    rw [ef]
    have : LxAs (40 :: ((fullE a ++ (signR op ++ fullE b)) ++ [41])) ⟨op, 0, [], [a, b]⟩ ((5 * a.nodes + 1 + 5 * b.nodes) + 2) := LxAs.shut fun pos => by
      obtain ⟨l, g1, g2, g3⟩ := iha pos
      obtain ⟨m, k1, k2, k3⟩ := ihb (pos + (fullE a).length + (signR op).length)
      refine ⟨l ++ ⟨4, signR op, 0, ((pos + (fullE a).length : Nat) : Int)⟩ :: m, by simp; omega, fun r lr hr hl => ?_, fun q lr hq hqt => ?_⟩
      · simp only [List.append_assoc, List.cons_append]
        refine g2 _ _ (sign_nogo ho _) ?_
        refine .tok' (tokE_sign' ho _ (fullE_okd hb r)) ?_
        dsimp only
        rw [List.drop_left]
        refine k2 r lr hr ?_
        have : pos + (fullE a).length + (signR op).length + (fullE b).length = pos + (fullE a ++ (signR op ++ fullE b)).length := by simp; omega
        rw [this]; exact hl
      · simp only [List.append_assoc, List.cons_append]
        exact reads_two ho (g3 _) rfl rfl (k3 _) hq hqt
    intro pos
    obtain ⟨l, g1, g2⟩ := this pos
    exact ⟨l, by simp only [Ex.nodes, Ex.nodess]; omega, g2⟩

/-- Read as a whole. -/
theorem exprM_reads {s : Str} {x : Ex} {n : Nat} (hx : LxAs s x n) (hn : n ≤ 2000) (hs : s.length ≤ 100000) (hdp : x.depth ≤ 20) {p : Ex × Int × Int} (h : exprM fuelM s = some p) : p = (x, 0, 0) := by
  obtain ⟨l, g1, g2, g3⟩ := hx 0
  have hlx : Lx 0 s l := by simpa using g2 [] [] trivial (.nil _)
  have hlex := lexAll_Lx hlx hs (by omega)
  unfold exprM at h
  rw [hlex] at h
  simp only [bne_self_eq_false, Bool.false_eq_true, ↓reduceIte] at h
  rw [Option.bind_eq_some_iff] at h
  obtain ⟨w, hw, h⟩ := h
  unfold Rd.whole at hw
  rw [Option.bind_eq_some_iff] at hw
  obtain ⟨t, ht, hw⟩ := hw
  rw [Option.bind_eq_some_iff] at hw
  obtain ⟨y, h2, hw⟩ := hw
  obtain ⟨j, rfl, hj⟩ := two_stop (g3 [tEnd s.length]) rfl rfl (by simp [opOf, tEnd]) h2
  dsimp only at hw hj
  have hg : ({ rd0 (l ++ [tEnd s.length]) with i := j } : Rd).good = true := rfl
  rw [if_pos hg, Option.bind_eq_some_iff] at hw
  obtain ⟨d, h3, hw⟩ := hw
  have hdd : d = (x.depth : Int) := by unfold depthO at h3; split at h3 <;> cases h3; rfl
  rw [if_neg (by simp only [decide_eq_true_eq]; omega)] at hw
  cases hw
  rw [Option.bind_eq_some_iff] at h
  obtain ⟨b, hb, h⟩ := h
  have hb' : b = false := by
    dsimp only at hb
    unfold Rd.notEnd at hb
    rw [if_pos hg, Option.bind_eq_some_iff] at hb
    obtain ⟨u, hu, hb⟩ := hb
    have := peek_is (r := { rd0 (l ++ [tEnd s.length]) with i := j }) hj hu
    subst this
    cases hb
    simp [tEnd]
  subst hb'
  dsimp only at h
  rw [if_neg (by simp), hg] at h
  simp only [Bool.not_true, Bool.false_eq_true, ↓reduceIte, Option.some.injEq] at h
  exact h.symm

/-- What the program makes of the text, and of that in two more brackets. -/
theorem full_read {x : Ex} (h : FormI x) (hn : x.nodes ≤ 300) (hd : x.depth ≤ 20) : exprM fuelM (fullE x) = some (x, 0, 0) ∧ exprM fuelM (40 :: 40 :: (fullE x ++ [41, 41])) = some (x, 0, 0) ∧ x.size < 100000 := by
  have hl := fullE_len h
  have hx := full_lx h
  have h2 : LxAs (40 :: 40 :: (fullE x ++ [41, 41])) x (5 * x.nodes + 2 + 2) := by
    have := LxAs.shut (LxAs.two (LxAs.shut (LxAs.two hx)))
    simpa using this
  obtain ⟨p, hp, hsz⟩ := exprM_t (fullE x)
  have e := exprM_reads hx (by omega) (by omega) hd hp
  subst e
  obtain ⟨q, hq, _⟩ := exprM_t (40 :: 40 :: (fullE x ++ [41, 41]))
  have e := exprM_reads h2 (by omega) (by simp; omega) hd hq
  subst e
  exact ⟨hp, hq, hsz⟩

end Go.Abs

/-! LawFull -/

namespace Go.Abs

set_option maxRecDepth 8000
set_option linter.unusedSimpArgs false
set_option linter.unusedVariables false
open Go.Proofs

theorem ParseFull_true (x : Ex) (hr : x.rng) : Fun Try.prog n_law4_ParseFull [.agg (encEx x)] S0 (.bool true) S0 := by
  have t1 := fun s => FitsExpr_s x s
  obtain ⟨_, _, _, hw⟩ := weigh_in _ x (Nat.le_refl _) 0 (by omega)
  unfold S0
  by_cases c1 : weighE x 0 ≤ 20000
  · have d1 : decide (weighE x 0 ≤ 20000) = true := by simp; omega
    obtain ⟨hsz, htx⟩ := hw c1
    have t2 := fun s => MayExpr_s (x := x) (by omega) htx s
    have t3 := fun s => Size_s _ x (Nat.le_refl _) (most := 300) (by omega) (by omega) s
    obtain ⟨s1, s2, s3⟩ := size_in _ x (Nat.le_refl _) 300 (by omega)
    by_cases c2 : x.may = true
    · by_cases c3 : sizeM x 300 ≤ 300
      · have d3 : decide (sizeM x 300 > 300) = false := by simp; omega
        have hn : x.nodes ≤ 300 := by have := s3 c3; omega
        have hm : x.form = true ∧ x.depth ≤ 20 := by
          simp only [Ex.may, Bool.and_eq_true, decide_eq_true_eq] at c2
          exact ⟨c2.2, by omega⟩
        have hF := FormI.of _ x (Nat.le_refl _) hm.1 hr
        obtain ⟨e1, e2, e3⟩ := full_read hF hn hm.2
        have hl := fullE_len hF
        have t4 := fun s => Full_s hF (by omega) s
        have t5 := fun s => Expr_s e1 (by omega) s
        have t6 := fun s => Expr_s e2 (by simp; omega) s
        have t7 := fun s => EqExpr_s (x := x) (y := x) (by omega) s
        rw [Ex.beq_refl] at t7
        have m1 : (2 : Nat) + (fullE x).length ≤ maxStr := by unfold maxStr; omega
        have m2 : (fullE x).length + 1 + 1 + 2 ≤ maxStr := by unfold maxStr; omega
        have z0 : ((0 : Int) == 0) = true := rfl
        simp only [go_sem] at t4 t5 t6 t7
        refine Fun.go has_law4_ParseFull rfl fun B Q hB hQ => ?_
        have hlt : 0 < 1 := Nat.zero_lt_one
        have hget : 0 < 1 := Nat.zero_lt_one
        have hpu : 0 < 1 := Nat.zero_lt_one
        have hinc : 0 < 1 := Nat.zero_lt_one
        repeat' (first
 | simp only [go_sem, hlt, hget, hpu, hinc, Int.reduceLE, ↓reduceIte, reduceCtorEq, Nat.reduceEqDiff, Nat.reduceLeDiff, Nat.reduceAdd, Nat.reduceMul, Nat.reduceSub, Nat.reduceLT, d1, c2, d3, m1, m2, encF, z0]
 | (with_reducible refine CU (parsed_0 _) ?_)
 | (with_reducible refine CU (t1 _) ?_)
 | (with_reducible refine CU (t2 _) ?_)
 | (with_reducible refine CU (t3 _) ?_)
 | (with_reducible refine CU (t4 _) ?_)
 | (with_reducible refine CU (t5 _) ?_)
 | (with_reducible refine CU (t6 _) ?_)
 | (with_reducible refine CU (t7 _) ?_)
 | (with_reducible first | refine CB_ofT (by assumption) fun hc => ?_ | refine CB_ofF (by assumption) fun hc => ?_ | refine CB_split (fun hc => ?_) fun hc => ?_) <;> (try simp only [hc, bs, ↓reduceIte] at h) <;> (try simp only [hc])
 | ((with_reducible first | refine leafR hQ ?_ | refine leafN hQ ?_); (try cases h); simp only [resL, oneD, Option.some.injEq, exists_eq_left', go_sem, hlt, hget, hpu, hinc, Int.reduceLE, ↓reduceIte, reduceCtorEq, Nat.reduceEqDiff, Nat.reduceLeDiff, Nat.reduceAdd, Nat.reduceMul, Nat.reduceSub, Nat.reduceLT, d1, c2, d3, m1, m2, encF, z0]; repeat' (first | exact Ok.out | with_reducible refine And.intro ?_ ?_ | (simp; done)))
 | (cases h; replace h := hr; clear hr; (try simp only [bs, ↓reduceIte] at h))
 | (cases h; done))
      · have d3 : decide (sizeM x 300 > 300) = true := by simp; omega
        refine Fun.go has_law4_ParseFull rfl fun B Q hB hQ => ?_
        have hlt : 0 < 1 := Nat.zero_lt_one
        have hget : 0 < 1 := Nat.zero_lt_one
        have hpu : 0 < 1 := Nat.zero_lt_one
        have hinc : 0 < 1 := Nat.zero_lt_one
        repeat' (first
 | simp only [go_sem, hlt, hget, hpu, hinc, Int.reduceLE, ↓reduceIte, reduceCtorEq, Nat.reduceEqDiff, Nat.reduceLeDiff, Nat.reduceAdd, Nat.reduceMul, Nat.reduceSub, Nat.reduceLT, d1, c2, d3]
 | (with_reducible refine CU (parsed_0 _) ?_)
 | (with_reducible refine CU (t1 _) ?_)
 | (with_reducible refine CU (t2 _) ?_)
 | (with_reducible refine CU (t3 _) ?_)
 | (with_reducible first | refine CB_ofT (by assumption) fun hc => ?_ | refine CB_ofF (by assumption) fun hc => ?_ | refine CB_split (fun hc => ?_) fun hc => ?_) <;> (try simp only [hc, bs, ↓reduceIte] at h) <;> (try simp only [hc])
 | ((with_reducible first | refine leafR hQ ?_ | refine leafN hQ ?_); (try cases h); simp only [resL, oneD, Option.some.injEq, exists_eq_left', go_sem, hlt, hget, hpu, hinc, Int.reduceLE, ↓reduceIte, reduceCtorEq, Nat.reduceEqDiff, Nat.reduceLeDiff, Nat.reduceAdd, Nat.reduceMul, Nat.reduceSub, Nat.reduceLT, d1, c2, d3]; repeat' (first | exact Ok.out | with_reducible refine And.intro ?_ ?_ | (simp; done)))
 | (cases h; replace h := hr; clear hr; (try simp only [bs, ↓reduceIte] at h))
 | (cases h; done))
    · have c2 : x.may = false := by simpa using c2
      refine Fun.go has_law4_ParseFull rfl fun B Q hB hQ => ?_
      have hlt : 0 < 1 := Nat.zero_lt_one
      have hget : 0 < 1 := Nat.zero_lt_one
      have hpu : 0 < 1 := Nat.zero_lt_one
      have hinc : 0 < 1 := Nat.zero_lt_one
      repeat' (first
 | simp only [go_sem, hlt, hget, hpu, hinc, Int.reduceLE, ↓reduceIte, reduceCtorEq, Nat.reduceEqDiff, Nat.reduceLeDiff, Nat.reduceAdd, Nat.reduceMul, Nat.reduceSub, Nat.reduceLT, d1, c2]
 | (with_reducible refine CU (parsed_0 _) ?_)
 | (with_reducible refine CU (t1 _) ?_)
 | (with_reducible refine CU (t2 _) ?_)
 | (with_reducible first | refine CB_ofT (by assumption) fun hc => ?_ | refine CB_ofF (by assumption) fun hc => ?_ | refine CB_split (fun hc => ?_) fun hc => ?_) <;> (try simp only [hc, bs, ↓reduceIte] at h) <;> (try simp only [hc])
 | ((with_reducible first | refine leafR hQ ?_ | refine leafN hQ ?_); (try cases h); simp only [resL, oneD, Option.some.injEq, exists_eq_left', go_sem, hlt, hget, hpu, hinc, Int.reduceLE, ↓reduceIte, reduceCtorEq, Nat.reduceEqDiff, Nat.reduceLeDiff, Nat.reduceAdd, Nat.reduceMul, Nat.reduceSub, Nat.reduceLT, d1, c2]; repeat' (first | exact Ok.out | with_reducible refine And.intro ?_ ?_ | (simp; done)))
 | (cases h; replace h := hr; clear hr; (try simp only [bs, ↓reduceIte] at h))
 | (cases h; done))
  · have d1 : decide (weighE x 0 ≤ 20000) = false := by simp; omega
    refine Fun.go has_law4_ParseFull rfl fun B Q hB hQ => ?_
    have hlt : 0 < 1 := Nat.zero_lt_one
    have hget : 0 < 1 := Nat.zero_lt_one
    have hpu : 0 < 1 := Nat.zero_lt_one
    have hinc : 0 < 1 := Nat.zero_lt_one
    repeat' (first
 | simp only [go_sem, hlt, hget, hpu, hinc, Int.reduceLE, ↓reduceIte, reduceCtorEq, Nat.reduceEqDiff, Nat.reduceLeDiff, Nat.reduceAdd, Nat.reduceMul, Nat.reduceSub, Nat.reduceLT, d1]
 | (with_reducible refine CU (parsed_0 _) ?_)
 | (with_reducible refine CU (t1 _) ?_)
 | (with_reducible first | refine CB_ofT (by assumption) fun hc => ?_ | refine CB_ofF (by assumption) fun hc => ?_ | refine CB_split (fun hc => ?_) fun hc => ?_) <;> (try simp only [hc, bs, ↓reduceIte] at h) <;> (try simp only [hc])
 | ((with_reducible first | refine leafR hQ ?_ | refine leafN hQ ?_); (try cases h); simp only [resL, oneD, Option.some.injEq, exists_eq_left', go_sem, hlt, hget, hpu, hinc, Int.reduceLE, ↓reduceIte, reduceCtorEq, Nat.reduceEqDiff, Nat.reduceLeDiff, Nat.reduceAdd, Nat.reduceMul, Nat.reduceSub, Nat.reduceLT, d1]; repeat' (first | exact Ok.out | with_reducible refine And.intro ?_ ?_ | (simp; done)))
 | (cases h; replace h := hr; clear hr; (try simp only [bs, ↓reduceIte] at h))
 | (cases h; done))

end Go.Abs

/-! Glue2 -/

namespace Go.Abs

def M0 : Map := ⟨fun _ _ => none, fun _ => 0, fun _ => none⟩

/-- Of what was there nothing turns. -/
def Kept (w w' : World) : Prop := w.keptBut w' (fun _ => False) ∧ ∀ a : Addr, a.block < w.heap.size → w'.frozen? a = w.frozen? a

theorem Kept.frame {w w' : World} (h : Kept w w') (may : MemPlace → Prop) : w.keptBut w' may := World.keptBut_mono (fun _ f => f.elim) h.1

theorem Ext.toKept {M M' : Map} {s' : St} {w w' : World} (e : Ext M S0 w M' s' w') : Kept w w' := by
  have hh : ∀ b, b < w.heap.size → w'.heap[b]? = w.heap[b]? := fun b hb =>
    e.kept b hb (fun o ho => by simp [S0] at ho) (fun t c z hl => by obtain ⟨n, hn⟩ := hl; simp [S0] at hn)
  refine ⟨⟨e.os, e.output, fun i hi => ?_⟩, fun a ha => ?_⟩
  · rw [hh i hi]
    exact (World.keptBut_refl w (fun _ => False)).2.2 i hi
  · simp only [World.frozen?, hh _ ha]

theorem rel0 (G : Nat → Nat → Option Value) (w : World) (h : ∀ b o v, G b o = some v → w.cell? ⟨b, o, none⟩ = some v ∧ v.oneCell' = true) : Rel ⟨G, fun _ => 0, fun _ => none⟩ S0 w :=
  ⟨h, fun o ds e => by simp [S0] at e, fun o ho => by simp [S0] at ho, fun o o' ho => by simp [S0] at ho, fun t n e => by simp [S0] at e,
    fun t b c z o hl => by obtain ⟨n, hn⟩ := hl; simp [S0] at hn, fun t t' b c z c' z' hl => by obtain ⟨n, hn⟩ := hl; simp [S0] at hn⟩

/-- A law is called. -/
theorem law_calls {P : Program} {f : FuncId} {args : List D} {vargs : Array Value} {w : World} {G : Nat → Nat → Option Value} (h : ACalls P f args S0 fun d _ => d = .bool true)
    (hG : ∀ b o v, G b o = some v → w.cell? ⟨b, o, none⟩ = some v ∧ v.oneCell' = true) (hl : vargs.size = args.length)
    (ha : ∀ (i : Nat) (d : D) (v : Value), args[i]? = some d → vargs[i]? = some v → RD ⟨G, fun _ => 0, fun _ => none⟩ S0 d v) :
    Calls P f vargs w fun e w' => e = .returned (.bool true) ∧ Kept w w' := by
  refine (h _ w vargs (rel0 G w hG) hl ha).mono fun e w' hw => ?_
  obtain ⟨M', d, v, s', rfl, rfl, he, _, hv⟩ := hw
  rw [hv.bool_inv]
  exact ⟨rfl, he.toKept⟩

section
variable {P : Program} {H : Type} {enc : TypeId × Value → H}

/-- The row's closing condition, where nothing turns of what was there. -/
theorem post_of_kept {f : Func} {s : ChangeSpec} {apart fresh handsOn again : Bool} {W W' : World} {args : Array Value} {v : Value} {ds gs : List (DataW H)} {before pa pv : List MemPlace}
    (hW : DataW.Whole enc P f.params.toList s.vars apart W args.toList ds gs before)
    (hres : ∀ (b : Nat) (sp : Nat → Bool) (hd : Bool), DataW.TrodAll enc P W' b sp hd f.resultTypes.toList (v.resultList f.resultTypes.size) (s.fn H (ds ++ gs)).results [])
    (hargs : ∀ sp : Nat → Bool, (∀ p ∈ before, sp p.block = true) → DataW.TrodAll enc P W' 0 sp true f.params.toList args.toList (s.fn H (ds ++ gs)).args pa)
    (hvars : ∀ sp : Nat → Bool, (∀ p ∈ before, sp p.block = true) → DataW.TrodVars enc P W' sp s.vars (s.fn H (ds ++ gs)).vars pv)
    (hps : before = pa ++ pv) (hk : Kept W W')
    (hok : ∀ (j : Nat) (t : TypeId) (r : Value), f.resultTypes[j]? = some t → (v.resultList f.resultTypes.size)[j]? = some r → Value.okWide P W' .any 0 t r) :
    s.post enc P f apart fresh handsOn again W args v W' := by
  have hlt : ∀ p ∈ before, p.block < W.heap.size := fun p hp => hW.lt p hp
  have hold : ∀ p ∈ before, (fun b => decide (b < W.heap.size)) p.block = true := fun p hp => by simpa using hlt p hp
  refine ⟨ds, gs, before, [], pa, pv, hW, hres _ _ _, hargs _ hold, hvars _ hold, World.keptBut_mono (fun p hp => ⟨hp, ?_⟩) (hk.frame (· ∈ before)), fun _ => ?_⟩
  · rw [hps, List.mem_append] at hp
    exact Or.inr hp
  · obtain ⟨_, _, _, _, _, hz, hn⟩ := hW
    refine ⟨hok, _, _, ([] ++ pa) ++ pv, ⟨[] ++ pa, pv, ChangeShapes.trodAll_append (hargs _ (fun _ _ => rfl)) (hres _ _ _), hvars _ (fun _ _ => rfl), rfl, ?_, ?_⟩, ?_⟩
    · intro b off hp
      have hp' : MemPlace.cell b off ∈ before := by rw [hps]; simpa using hp
      rw [hk.2 _ (hlt _ hp')]
      exact hz b off hp'
    · intro ha
      have := hn ha
      rw [hps] at this
      simpa using this
    · intro p hp _
      rw [hps]
      simpa using hp
end
end Go.Abs

/-! Join -/

namespace Go.Abs
open Go.RowKit Go.ChangeShapes Go.WideShapes

/-- All that can be read. -/
def memG (w : World) (b o : Nat) : Option Value :=
  match w.cell? ⟨b, o, none⟩ with
  | some v => if v.oneCell' = true then some v else none
  | none => none
theorem memG_ok {w : World} (b o : Nat) (v : Value) (h : memG w b o = some v) : w.cell? ⟨b, o, none⟩ = some v ∧ v.oneCell' = true := by
  unfold memG at h
  split at h
  · split at h
    · cases h; exact ⟨‹_›, ‹_›⟩
    · cases h
  · cases h
/-- All of it is fixed. -/
def memM (w : World) : Map := ⟨memG w, fun _ => 0, fun _ => none⟩

theorem Kept.sameAt {w w' : World} (h : Kept w w') {p : MemPlace} (hp : p.block < w.heap.size) : w.sameAt w' p := by
  have hk := h.1.2.2 p.block hp
  cases p with
  | cell b off =>
    simp only [MemPlace.block] at hk hp
    simp only [World.sameAt, World.cell?]
    split at hk
    · rename_i c t fr c' t' fr' e e'
      rw [e, e']
      simp only [hk.2.2.2 off (fun f => f)]
    · rename_i es clock es' clock' e e'
      rw [e, e']
    · rw [hk]
  | map b =>
    simp only [MemPlace.block] at hk hp
    simp only [World.sameAt]
    split at hk
    · rename_i c t fr c' t' fr' e e'
      rw [e, e']
      obtain ⟨rfl, rfl, hs, hc⟩ := hk
      have : c' = c := by
        apply Array.ext_getElem?
        intro i
        exact hc i (fun f => f)
      rw [this]
    · rename_i es clock es' clock' e e'
      rcases hk with f | ⟨rfl, rfl⟩
      · exact f.elim
      · rw [e, e']
    · exact hk

section
variable {P : Program} {H : Type} {enc : TypeId × Value → H} {T : TypeId → Prop}

theorem args_again (K : Kids P T) (hz : ∀ {t e : TypeId}, T t → P.underlying t = some (.slice e) → 0 < P.cellsOf e) {W W' : World} (hk : Kept W W') {sp : Nat → Bool} :
    ∀ {ts : List TypeId} {vs : List Value} {ds : List (DataW H)} {ps : List MemPlace}, (∀ t ∈ ts, T t) → (∀ p ∈ ps, p.block < W.heap.size) → (∀ p ∈ ps, sp p.block = true) →
      DataW.TrodAll enc P W 0 (fun _ => true) true ts vs ds ps → DataW.TrodAll enc P W' 0 sp true ts vs ds ps
  | [], [], [], _, _, _, _, h => h
  | t :: ts, v :: vs, d :: ds, ps, hT, hlt, hs, ⟨p, q, ⟨n, h1⟩, h2, e⟩ => by
    subst e
    refine ⟨p, q, ⟨n, DataW.trod_stays K hz (fun f => by cases f) (hT t (List.mem_cons_self ..)) h1 (fun x hx => hk.sameAt (hlt x (List.mem_append_left _ hx))) (fun x hx => hs x (List.mem_append_left _ hx))⟩, ?_, rfl⟩
    exact args_again K hz hk (fun t ht => hT t (List.mem_cons_of_mem _ ht)) (fun x hx => hlt x (List.mem_append_right _ hx)) (fun x hx => hs x (List.mem_append_right _ hx)) h2
  | [], [], _ :: _, _, _, _, _, h => h.elim
  | [], _ :: _, _, _, _, _, _, h => h.elim
  | _ :: _, [], _, _, _, _, _, h => h.elim
  | _ :: _, _ :: _, [], _, _, _, _, h => h.elim

/-- The row's closing condition. -/
theorem law_post (K : Kids P T) (hz : ∀ {t e : TypeId}, T t → P.underlying t = some (.slice e) → 0 < P.cellsOf e) {f : Func} {s : ChangeSpec} {apart fresh handsOn again : Bool} {tb : TypeId} {W W' : World} {args : Array Value} {ds gs : List (DataW H)} {before : List MemPlace}
    (hT : ∀ t ∈ f.params.toList, T t) (hb : P.underlying tb = some .bool) (hr : f.resultTypes = #[tb]) (hvars : s.vars = []) (hW : DataW.Whole enc P f.params.toList s.vars apart W args.toList ds gs before)
    (hfn : s.fn H (ds ++ gs) = { results := [.lit (.bool true)], args := ds }) (hk : Kept W W') : s.post enc P f apart fresh handsOn again W args (.bool true) W' := by
  have hW' := hW
  have hlt : ∀ p ∈ before, p.block < W.heap.size := fun p hp => hW.lt p hp
  obtain ⟨p, q, hA, hV, rfl, hfz, hnd⟩ := hW
  rw [hvars] at hV
  obtain ⟨rfl, rfl⟩ := trodVars_none hV
  simp only [List.append_nil] at hlt hfn
  refine post_of_kept (pa := p) (pv := []) hW' (fun b sp hd => ?_) (fun sp hsp => ?_) (fun sp hsp => ?_) rfl hk (ok_one hr rfl (okWide_bool_mk hb _))
  · rw [List.append_nil, hfn, hr]
    exact trodAll_cons_mk (shut_bool hb _) trodAll_mk0
  · rw [List.append_nil, hfn]
    simp only [List.append_nil] at hsp
    exact args_again K hz hk hT hlt hsp hA
  · rw [List.append_nil, hfn, hvars]
    rfl

/-- A law is called with arguments that can be read. -/
theorem law_run {f : FuncId} {args : List D} {vargs : Array Value} {w : World} (h : ACalls P f args S0 fun d _ => d = .bool true) (hl : vargs.size = args.length)
    (ha : ∀ (i : Nat) (d : D) (v : Value), args[i]? = some d → vargs[i]? = some v → RD (memM w) S0 d v) : Calls P f vargs w fun e w' => e = .returned (.bool true) ∧ Kept w w' :=
  law_calls (G := memG w) h memG_ok hl ha
end

end Go.Abs

/-! Join2 -/

namespace Go.Abs
set_option linter.unusedSimpArgs false
set_option linter.unusedVariables false
open Go.RowKit Go.ChangeShapes Go.WideShapes

end Go.Abs

/-! Join3 -/

namespace Go.Abs
set_option linter.unusedSimpArgs false
set_option linter.unusedVariables false
open Go.RowKit Go.ChangeShapes Go.WideShapes

/-- A row of cells is these. -/
def Rowed (W : World) (ds : List D) (cs : List Value) : Prop := ds.length = cs.length ∧ (∀ (i : Nat) (d : D) (v : Value), ds[i]? = some d → cs[i]? = some v → RD (memM W) S0 d v) ∧ ∀ v ∈ cs, v.oneCell' = true

theorem Rowed.one {W : World} {d : D} {v : Value} (h : RD (memM W) S0 d v) (hv : v.oneCell' = true) : Rowed W [d] [v] := by
  refine ⟨rfl, fun i d' v' h1 h2 => ?_, fun u hu => by simp at hu; subst hu; exact hv⟩
  cases i with
  | zero => simp at h1 h2; subst h1 h2; exact h
  | succ i => simp at h1
theorem Rowed.app {W : World} {ds ds' : List D} {cs cs' : List Value} (h : Rowed W ds cs) (h' : Rowed W ds' cs') : Rowed W (ds ++ ds') (cs ++ cs') := by
  obtain ⟨a1, a2, a3⟩ := h
  obtain ⟨b1, b2, b3⟩ := h'
  refine ⟨by simp [a1, b1], fun i d v h1 h2 => ?_, fun v hv => ?_⟩
  · by_cases hi : i < ds.length
    · rw [List.getElem?_append_left hi] at h1
      rw [List.getElem?_append_left (by omega)] at h2
      exact a2 i d v h1 h2
    · rw [List.getElem?_append_right (by omega)] at h1
      rw [List.getElem?_append_right (by omega), ← a1] at h2
      exact b2 _ d v h1 h2
  · rcases List.mem_append.1 hv with hv | hv
    · exact a3 v hv
    · exact b3 v hv
/-- A part, then the rest. -/
theorem Rowed.at {W : World} {ds ds' : List D} {cs : List Value} {o n : Nat} (h : Rowed W ds ((cs.drop o).take n)) (h' : Rowed W ds' (cs.drop (o + n))) : Rowed W (ds ++ ds') (cs.drop o) := by
  have e : cs.drop o = (cs.drop o).take n ++ cs.drop (o + n) := by rw [← List.drop_drop, List.take_append_drop]
  rw [e]
  exact h.app h'
theorem Rowed.end {W : World} {cs : List Value} {o : Nat} (h : cs.length = o) : Rowed W [] (cs.drop o) := by
  rw [← h, List.drop_length]
  exact ⟨rfl, fun i d v h => by simp at h, fun v hv => by cases hv⟩

section
variable {H : Type} {enc : TypeId × Value → H} {P : Program} {W : World} {sp : Nat → Bool}

def structOf (P : Program) (t : TypeId) : List (TypeId × Nat) :=
  match P.underlying t with
  | some (.struct fs) => fs.toList.map fun f => (f.type, f.offset)
  | _ => []

theorem struct_fields {t : TypeId} {l : List (TypeId × Nat)} {fuel : Nat} {cs : List Value} {x : DataW H × List MemPlace} (h : structOf P t = l) (hne : l ≠ []) (ht : DataW.trod enc P W 0 sp true fuel t cs = some x) :
    ∃ n, fuel = n + 1 ∧ cs.length = P.cellsOf t ∧ ∀ (i : Nat) (f : TypeId × Nat), l[i]? = some f → ∃ y, DataW.trod enc P W 0 sp true n f.1 ((cs.drop f.2).take (P.cellsOf f.1)) = some y := by
  unfold structOf at h
  split at h
  · rename_i fs hu
    obtain ⟨xs, n, e, _, hl, hlen, hf⟩ := DataW.trod_struct hu ht
    refine ⟨n, e, hl, fun i f hi => ?_⟩
    subst h
    rw [List.getElem?_map, Option.map_eq_some_iff] at hi
    obtain ⟨g, hg, rfl⟩ := hi
    have hg' : fs[i]? = some g := by simpa using hg
    have hi : i < xs.length := by rw [hlen]; exact (Array.getElem?_eq_some_iff.1 hg').1
    exact ⟨xs[i], by rw [hf i g hg', List.getElem?_eq_getElem hi]⟩
  · exact absurd h.symm hne

theorem structOf_some {t : TypeId} {l : List (TypeId × Nat)} (h : structOf P t = l) (hne : l ≠ []) : ∃ fs, P.underlying t = some (.struct fs) := by
  unfold structOf at h
  split at h
  · exact ⟨_, ‹_›⟩
  · exact absurd h.symm hne

theorem choose_list {α : Type} {Q : Nat → α → Prop} : ∀ n, (∀ i, i < n → ∃ y, Q i y) → ∃ ys : List α, ys.length = n ∧ ∀ i y, ys[i]? = some y → Q i y
  | 0, _ => ⟨[], rfl, fun i y h => by simp at h⟩
  | n + 1, h => by
    obtain ⟨ys, h1, h2⟩ := choose_list n fun i hi => h i (by omega)
    obtain ⟨y, hy⟩ := h n (by omega)
    refine ⟨ys ++ [y], by simp [h1], fun i z hz => ?_⟩
    by_cases hi : i < ys.length
    · rw [List.getElem?_append_left hi] at hz; exact h2 i z hz
    · rw [List.getElem?_append_right (by omega)] at hz
      have : i - ys.length = 0 := by
        rcases Nat.eq_zero_or_pos (i - ys.length) with h | h
        · exact h
        · rw [List.getElem?_eq_none (by simp only [List.length_cons, List.length_nil]; omega)] at hz; cases hz
      rw [this] at hz
      simp at hz
      subst hz
      have : i = n := by omega
      subst this
      exact hy

/-- A list of things that can be read. -/
theorem rd_slice {α : Type} (en : α → List D) (good : α → Prop) {z : Nat} {t e : TypeId} {fuel : Nat} {cs : List Value} {x : DataW H × List MemPlace} (ht : P.underlying t = some (.slice e)) (hz : P.cellsOf e = z) (hz0 : 0 < z) (hen : ∀ y, (en y).length = z)
    (hel : ∀ n < fuel, ∀ cs x, DataW.trod enc P W 0 sp true n e cs = some x → ∃ y, Rowed W (en y) cs ∧ good y) (h : DataW.trod enc P W 0 sp true fuel t cs = some x) :
    ∃ ys : List α, Rowed W [.slice .shared z (ys.map en)] cs ∧ ∀ y ∈ ys, good y := by
  rcases DataW.trod_slice ht h with ⟨rfl, _⟩ | ⟨a, len, cap, elems, rest, n, hn, rfl, _, hb, hl, hm, hlen, hcell, _, _⟩
  · exact ⟨[], Rowed.one (.snil _ _ _ rfl trivial) rfl, fun y hy => by cases hy⟩
  · by_cases h0 : len = 0
    · subst h0
      exact ⟨[], Rowed.one (.semp _ _ _) rfl, fun y hy => by cases hy⟩
    · obtain ⟨ys, hys, hall⟩ := choose_list (Q := fun i y => good y ∧ ∃ cs', W.cells? 0 (a.add (i * z)) z = some cs' ∧ Rowed W (en y) cs') len fun i hi => by
        have hc := hcell i hi
        rw [List.getElem?_eq_getElem (by omega), hz, Option.bind_eq_some_iff] at hc
        obtain ⟨cs', h1, h2⟩ := hc
        obtain ⟨y, h3, h4⟩ := hel n (by omega) _ _ h2
        exact ⟨y, h4, cs', h1, h3⟩
      have cell : ∀ i y, ys[i]? = some y → ∀ (j : Nat) d, (en y)[j]? = some d → ∃ v, W.cell? ((a.add (i * z)).add j) = some v ∧ RD (memM W) S0 d v ∧ v.oneCell' = true := by
        intro i y hy j d hd
        obtain ⟨_, cs', h1, h2, h3, h4⟩ := hall i y hy
        obtain ⟨_, k1, k2⟩ := World.cells?_some h1
        have hj : j < z := by rw [← hen y]; exact (List.getElem?_eq_some_iff.1 hd).1
        have hv : cs'[j]? = some cs'[j] := List.getElem?_eq_getElem (by omega)
        exact ⟨cs'[j], by rw [k2 j hj, hv], h3 j d _ hd hv, h4 _ (List.getElem_mem _)⟩
      obtain ⟨b, off, spot⟩ := a
      have hspot : spot = none := by
        have hy : ys[0]? = some (ys[0]'(by omega)) := List.getElem?_eq_getElem (by omega)
        obtain ⟨d, hd⟩ : ∃ d, (en (ys[0]'(by omega)))[0]? = some d := ⟨_, List.getElem?_eq_getElem (show 0 < (en (ys[0]'(by omega))).length by rw [hen]; exact hz0)⟩
        obtain ⟨v, hv, _⟩ := cell 0 _ hy 0 _ hd
        have := World.cell?_spot hv
        simpa [Addr.add] using this
      subst hspot
      have e : (ys.map en).length = len := by simp [hys]
      have := RD.slice (M := memM W) (s := S0) .shared z (ys.map en) b off cap (by omega) (fun row hr => by obtain ⟨y, _, rfl⟩ := List.mem_map.1 hr; exact hen y)
        (fun i row j d h1 h2 => by
          rw [List.getElem?_map, Option.map_eq_some_iff] at h1
          obtain ⟨y, h1, rfl⟩ := h1
          obtain ⟨v, hv, _, h4⟩ := cell i y h1 j d h2
          rw [add_plain, add_plain] at hv
          refine ⟨v, ?_⟩
          show memG W b (off + (i * z + j)) = _
          unfold memG
          rw [show off + (i * z + j) = off + i * z + j by omega, hv]
          simp [h4])
        (fun i row j d u h1 h2 hu => by
          rw [List.getElem?_map, Option.map_eq_some_iff] at h1
          obtain ⟨y, h1, rfl⟩ := h1
          obtain ⟨v, hv, h3, h4⟩ := cell i y h1 j d h2
          rw [add_plain, add_plain] at hv
          obtain ⟨hu, _⟩ := memG_ok _ _ _ hu
          rw [show off + (i * z + j) = off + i * z + j by omega, hv] at hu
          cases hu
          exact h3) trivial
      rw [e] at this
      refine ⟨ys, Rowed.one this rfl, fun y hy => ?_⟩
      obtain ⟨i, hi⟩ := List.getElem?_of_mem hy
      exact (hall i y hi).1

theorem rd_i64 {t : TypeId} {fuel : Nat} {cs : List Value} {x : DataW H × List MemPlace} (ht : P.underlying t = some (.int .i64)) (h : DataW.trod enc P W 0 sp true fuel t cs = some x) : ∃ n : Int, Rowed W [.int .i64 n] cs ∧ n ≤ 9223372036854775807 ∧ -9223372036854775808 ≤ n := by
  obtain ⟨n, rfl, _, hw⟩ := DataW.trod_int ht h
  simp [Lit.wf, IntKind.min, IntKind.max, IntKind.signed, IntKind.bits] at hw
  exact ⟨n, Rowed.one (.int _ _) rfl, by omega, by omega⟩
theorem rd_str {t : TypeId} {fuel : Nat} {cs : List Value} {x : DataW H × List MemPlace} (ht : P.underlying t = some .string) (h : DataW.trod enc P W 0 sp true fuel t cs = some x) : ∃ s : Str, Rowed W (encStr s) cs ∧ s.length ≤ maxLen := by
  obtain ⟨s, rfl, _, hm⟩ := DataW.trod_string ht h
  obtain ⟨⟨l⟩⟩ := s
  exact ⟨l, Rowed.one (.str l) rfl, hm⟩

/-- Expressions. -/
theorem rd_ex {tE tI tN tS tK : TypeId} (hE : structOf P tE = [(tI, 0), (tN, 1), (tS, 2), (tK, 3)]) (hEc : P.cellsOf tE = 4) (hI : P.underlying tI = some (.int .i64)) (hN : P.underlying tN = some (.int .i64)) (hS : P.underlying tS = some .string) (hK : P.underlying tK = some (.slice tE))
    (cI : P.cellsOf tI = 1) (cN : P.cellsOf tN = 1) (cS : P.cellsOf tS = 1) (cK : P.cellsOf tK = 1) :
    ∀ (fuel : Nat) (cs : List Value) (x : DataW H × List MemPlace), DataW.trod enc P W 0 sp true fuel tE cs = some x → ∃ y : Ex, Rowed W (encEx y) cs ∧ y.rng := by
  intro fuel
  induction fuel using Nat.strongRecOn with
  | _ fuel ih =>
    intro cs x h
    obtain ⟨n, rfl, hl, hf⟩ := struct_fields hE (by simp) h
    obtain ⟨y0, h0⟩ := hf 0 _ rfl
    obtain ⟨y1, h1⟩ := hf 1 _ rfl
    obtain ⟨y2, h2⟩ := hf 2 _ rfl
    obtain ⟨y3, h3⟩ := hf 3 _ rfl
    dsimp only at h0 h1 h2 h3
    rw [cI] at h0
    rw [cN] at h1
    rw [cS] at h2
    rw [cK] at h3
    obtain ⟨op, r0, _⟩ := rd_i64 hI h0
    obtain ⟨m, r1, hm, _⟩ := rd_i64 hN h1
    obtain ⟨s, r2, _⟩ := rd_str hS h2
    obtain ⟨ks, r3, hg⟩ := rd_slice (W := W) encEx Ex.rng hK hEc (by decide) lenEx (fun k hk cs x hx => ih k (by omega) cs x hx) h3
    refine ⟨⟨op, m, s, ks⟩, ?_, hm, ?_⟩
    · have := r0.at (r1.at (r2.at (r3.at (Rowed.end (by rw [hl, hEc])))))
      rw [encEx_eq]
      simpa [encStr] using this
    · clear r3
      induction ks with
      | nil => exact trivial
      | cons k ks ihk => exact ⟨hg k (by simp), ihk fun y hy => hg y (by simp [hy])⟩

/-- Of a whole argument. -/
theorem Rowed.agg {ds : List D} {v : Value} (h : Rowed W ds v.cells.toList) (hv : ∃ vs, v = .agg vs) : RD (memM W) S0 (.agg ds) v := by
  obtain ⟨vs, rfl⟩ := hv
  obtain ⟨h1, h2, h3⟩ := h
  have e : (Value.agg vs).cells = vs := rfl
  rw [e] at h1 h2 h3
  refine .agg ds vs (by simpa using h1) (fun v hv => h3 v (by simpa using hv)) fun i d v hd hv => h2 i d v hd (by simpa using hv)
end

end Go.Abs

/-! ParseFull -/

namespace Go.Proofs.Ytecpopiacpckiaa.parseFull
open Go.ChangeShapes Go.WideShapes Go.ChangeAt Go.RowKit Go.Abs
set_option linter.unusedVariables false

theorem own : ownKnob Try.prog.godebug = none := by kernel_rfl
theorem kids : Kids Try.prog (· < Try.prog.types.size) := kids_rows (by kernel_rfl) (by kernel_rfl)
theorem full : ∀ {t e : TypeId}, t < Try.prog.types.size → Try.prog.underlying t = some (.slice e) → 0 < Try.prog.cellsOf e := fun {t e} => slices_full_of Try.prog (by kernel_rfl) t e

theorem walk (w : World) (x : Ex) (hr : x.rng) (v : Value) (hv : RD (memM w) S0 (.agg (encEx x)) v) : Calls Try.prog 10 #[v] w fun e w' => e = .returned (.bool true) ∧ Kept w w' := by
  refine law_run (args := [.agg (encEx x)]) ((ParseFull_true x hr).mono fun _ _ h => h.1) rfl ?_
  intro i d v h1 h2
  match i, h1, h2 with
  | 0, h1, h2 => simp at h1 h2; subst h1 h2; exact hv

set_option maxRecDepth 100000 in
theorem lifted (os : Os) (started : os.Started) (H : Type) (enc : TypeId × Value → H) :
    ReturnsInHanded {} Try.checked os 10 .any (Rows.parseFullSpec.pre6 enc Try.prog Try.f10 Rows.parseFullRow.domain false) (Rows.parseFullSpec.post enc Try.prog Try.f10 false true false false) := by
  refine returnsInHanded_of_change (C := Try.checked) own started (by kernel_rfl) Try.func10
    (ChangeSpec.witness6 (enc := enc) (C := Try.checked) false ⟨#[], #[.agg #[.int .i64 0, .int .i64 0, .string ⟨#[]⟩, .slice none 0 0]], []⟩ 8 (by kernel_rfl) (by kernel_rfl) (by kernel_rfl) (by kernel_rfl)) ?_
  intro W base args ds gs before hval0 hW hcnd _
  have hval : ∀ (j : Nat) t v, Try.f10.params[j]? = some t → args[j]? = some v → Value.okWide Try.prog W .any base t v := hval0
  have hW' := hW
  obtain ⟨p, q, hA0, hV, rfl, hfz, hnd⟩ := hW
  have hA : DataW.TrodAll enc Try.prog W 0 (fun _ => true) true Try.f10.params.toList args.toList ds p := hA0
  rw [Try.params10] at hA hval
  obtain ⟨v0, d0, rfl, rfl, hd0⟩ := trodAll_one hA
  obtain ⟨rfl, rfl⟩ := trodVars_none hV
  have hgo : ∃ x : Ex, RD (memM W) S0 (.agg (encEx x)) v0 ∧ x.rng := by
    obtain ⟨fuel, hf⟩ := hd0
    obtain ⟨y, h1, h2⟩ := rd_ex (tE := 37) (tI := 3) (tN := 2) (tS := 9) (tK := 35) (by kernel_rfl) (by kernel_rfl) (by kernel_rfl) (by kernel_rfl) (by kernel_rfl) (by kernel_rfl) (by kernel_rfl) (by kernel_rfl) (by kernel_rfl) (by kernel_rfl) _ _ _ hf
    obtain ⟨fs, hfs⟩ := structOf_some (P := Try.prog) (t := 37) (l := [(3, 0), (2, 1), (9, 2), (35, 3)]) (by kernel_rfl) (by simp)
    obtain ⟨cs, e, _⟩ := okWide_struct hfs (hval 0 37 _ rfl rfl)
    exact ⟨y, h1.agg ⟨cs, e⟩, h2⟩
  obtain ⟨x, hv, hr⟩ := hgo
  refine (walk W x hr v0 hv).mono fun e W' ⟨he, hg⟩ => ?_
  subst he
  exact ⟨_, rfl, law_post kids full (by rw [Try.params10]; decide) Try.underlying4 (by kernel_rfl) rfl hW' rfl hg⟩

theorem over : Rows.parseFullRow.holds Try.pinned (OpenSpec.ofChange Rows.parseFullSpec) :=
  OpenClaim.holds_of_wide 10 Try.f10 rfl rfl rfl rfl rfl rfl rfl ⟨rfl, rfl, rfl, rfl, rfl⟩ rfl rfl rfl rfl rfl (by kernel_rfl) Try.func10 (by kernel_rfl)
    (of_decide_eq_true (by kernel_rfl)) (by unfold Func.isWrapper; first | (rw [if_pos (by decide +kernel)]; kernel_rfl) | (rw [if_neg (by decide +kernel)]; exact ⟨rfl, rfl⟩))
    (fun os started H enc _ => lifted os started H enc)

theorem proved : Rows.ParseFullSaid :=
  over
#print axioms proved
end Go.Proofs.Ytecpopiacpckiaa.parseFull
