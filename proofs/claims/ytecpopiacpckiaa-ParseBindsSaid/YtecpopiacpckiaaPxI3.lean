/-
  What is proved here: the statement ParseBindsSaid: whatever the list of numbers, the law, called, gives true, and of what was there nothing turns.
  No conditions.
-/
import Derived.Test.YtecpopiacpckiaaPxI2
import Derived.KernelRfl
import Derived.RowKit3
import Derived.WalkKit
import Derived.ProofKit
import Derived.OpenShut
import Derived.ShutString
import Derived.ChangeMaps5
import Derived.ChangeStays
import Derived.Test.YtecpopiacpckiaaRows

/-! Lex2 -/

namespace Go.Abs

set_option maxRecDepth 8000
set_option linter.unusedSimpArgs false
set_option linter.unusedVariables false
open Go.Proofs

theorem runL_pos {c : UInt8} {r : Str} (h : isL c = true) : 0 < runL (c :: r) := by simp [runL, h]
theorem runL_len : ∀ s : Str, runL s ≤ s.length
  | [] => Nat.le_refl _
  | c :: r => by simp only [runL]; split <;> simp only [List.length_cons] <;> have := runL_len r <;> omega
theorem runD_len : ∀ s : Str, runD s ≤ s.length
  | [] => Nat.le_refl _
  | c :: r => by simp only [runD]; split <;> simp only [List.length_cons] <;> have := runD_len r <;> omega
theorem lineL_len : ∀ s : Str, lineL s ≤ s.length
  | [] => Nat.le_refl _
  | c :: r => by simp only [lineL]; split <;> simp only [List.length_cons] <;> have := lineL_len r <;> omega
theorem signL_len : ∀ s : Str, signL s ≤ s.length
  | [] => Nat.le_refl _
  | [c] => by simp only [signL]; split <;> simp
  | c :: d :: r => by simp only [signL]; (repeat' split) <;> simp
theorem runD_all : ∀ (s : Str), ∀ c ∈ s.take (runD s), isD c = true
  | [], c, h => by simp [runD] at h
  | d :: r, c, h => by
    simp only [runD] at h
    split at h
    · rw [List.take_succ_cons] at h
      rcases List.mem_cons.1 h with rfl | h
      · assumption
      · exact runD_all r c h
    · simp at h

def encF (f : Int × Int) : List D := [.int .i64 f.1, .int .i64 f.2]

/-- At the label ahead of the next token. -/
def lexTM (text : Str) (out : List Tok) (pos : Nat) : Tm := [(0, .str text), (3, .ptr 0 0), (4, .slice (.tok 0) 4 (out.map encTok)), (5, .ptr 1 0), (6, .int .i64 (pos : Int))]
def lexST (out : List Tok) : St := ⟨[[.int .i64 0, .int .i64 0], [.junk, .junk, .junk, .junk]], [some out.length]⟩

theorem lineL_pos {c : UInt8} {r : Str} (h : ((c.toNat : Int) == 35) = true) : 0 < lineL (c :: r) := by
  have : ((c.toNat : Int) != 10) = true := by simp only [beq_iff_eq] at h; simp [h]
  simp [lineL, this]

/-- On to the next token. -/
def LexGo (text : Str) (B : Base) (Q : Exit → Tm → St → Prop) (p : List Tok × Int × Int) (N : Nat) : Prop :=
  ∀ (n pos : Nat) (rest : Str) (out : List Tok), text.drop pos = rest → lexF n pos rest out = p → rest.length < n → out.length ≤ 2000 → pos ≤ text.length → n < N →
    SemS Try.prog B 152 Q7Y (.seq .skip Q7T) Q (lexTM text out pos) (lexST out)

theorem LexGo.to {text : Str} {B : Base} {Q : Exit → Tm → St → Prop} {p : List Tok × Int × Int} {N : Nat} (hB : B.s = S0) (IH : LexGo text B Q p N) {n pos : Nat} {rest : Str} {out : List Tok} {tm : Tm} {s : St}
    (h1 : text.drop pos = rest) (h : lexF n pos rest out = p) (h2 : rest.length < n) (h3 : out.length ≤ 2000) (h4 : pos ≤ text.length) (h5 : n < N)
    (ht : TmW tm 2 1 (lexTM text out pos)) (ho : WkR (s.cut 2 1).objs (lexST out).objs) (hk : (s.cut 2 1).toks = (lexST out).toks) :
    jumpA Try.prog B 152 Q7Y Q (.goto 0) tm s := by
  refine jumpA_to (l := 0) (r := .seq .skip Q7T) rfl (SemS.re _ _ 2 1 (by rw [hB]; exact Nat.le_of_ble_eq_true rfl) (by rw [hB]; exact Nat.le_of_ble_eq_true rfl) ht ho ?_)
  have := IH n pos rest out h1 h h2 h3 h4 h5
  rw [hk]
  exact this

attribute [go_sem] lexTM lexST encF
theorem lex_nil {text : Str} (hl : text.length ≤ 100000) {B : Base} {Q : Exit → Tm → St → Prop} {p : List Tok × Int × Int} (hB : B.s = S0)
    (hQ : retF 0 0 [(2, none), (3, some (true, 2))] (.tuple [.slice .shared 4 (p.1.map encTok), .agg (encF p.2)]) ⟨[], []⟩ = Q)
    {n pos : Nat} {out : List Tok} (ho : out.length ≤ 2000) (hp : pos ≤ text.length) (IH : LexGo text B Q p (n + 1))
    (h1 : text.drop pos = []) (h : lexF (n + 1) pos [] out = p) : wpC Try.prog B 152 Q7T (jumpA Try.prog B 152 Q7Y Q) (lexTM text out pos) (lexST out) := by
  have hlt : 0 < 1 := Nat.zero_lt_one
  have hget : 0 < 1 := Nat.zero_lt_one
  have hpu : 0 < 1 := Nat.zero_lt_one
  have hinc : 0 < 1 := Nat.zero_lt_one
  have hroom : (out.length + 1) * 41 ≤ maxStr := by simp only [maxStr]; omega
  have hge : decide ((pos : Int) ≥ (text.length : Int)) = true := by have := List.drop_eq_nil_iff.1 h1; simp; omega
  have : pos = text.length := by have := List.drop_eq_nil_iff.1 h1; omega
  subst this
  simp only [lexF] at h
  repeat' (first
 | simp only [go_sem, hlt, hget, hpu, hinc, Int.reduceLE, ↓reduceIte, reduceCtorEq, Nat.reduceEqDiff, Nat.reduceLeDiff, Nat.reduceAdd, Nat.reduceMul, Nat.reduceSub, Nat.reduceLT, hge, hroom]
 | (with_reducible first | refine CB_ofT (by assumption) fun hc => ?_ | refine CB_ofF (by assumption) fun hc => ?_ | refine CB_split (fun hc => ?_) fun hc => ?_) <;> (try simp only [hc, bs, ↓reduceIte] at h) <;> (try simp only [hc])
 | ((with_reducible first | refine leafR hQ ?_ | refine leafN hQ ?_); (try cases h); simp only [resL, oneD, Option.some.injEq, exists_eq_left', go_sem, hlt, hget, hpu, hinc, Int.reduceLE, ↓reduceIte, reduceCtorEq, Nat.reduceEqDiff, Nat.reduceLeDiff, Nat.reduceAdd, Nat.reduceMul, Nat.reduceSub, Nat.reduceLT, hge, hroom]; repeat' (first | exact Ok.out | with_reducible refine And.intro ?_ ?_ | (simp; done)))
 | (cases h; replace h := hr; clear hr; (try simp only [bs, ↓reduceIte] at h))
 | (cases h; done))

theorem lex_blank {text : Str} (hl : text.length ≤ 100000) {B : Base} {Q : Exit → Tm → St → Prop} {p : List Tok × Int × Int} (hB : B.s = S0)
    (hQ : retF 0 0 [(2, none), (3, some (true, 2))] (.tuple [.slice .shared 4 (p.1.map encTok), .agg (encF p.2)]) ⟨[], []⟩ = Q)
    {n pos : Nat} {out : List Tok} (ho : out.length ≤ 2000) (hp : pos ≤ text.length) (IH : LexGo text B Q p (n + 1))
    {c : UInt8} {r : Str} (h1 : text.drop pos = c :: r) (hb : isB c = true) (hn : (c :: r).length < n + 1) (h : lexF (n + 1) pos (c :: r) out = p) :
    wpC Try.prog B 152 Q7T (jumpA Try.prog B 152 Q7Y Q) (lexTM text out pos) (lexST out) := by
  have hpu : 0 < 1 := Nat.zero_lt_one
  have hinc : 0 < 1 := Nat.zero_lt_one
  obtain ⟨hget, g2, g3, g4⟩ := drop_cons h1
  have hlt : pos < 4611686018427387904 := by omega
  have hge : decide ((pos : Int) ≥ (text.length : Int)) = false := by simp; omega
  simp only [lexF, hb, ↓reduceIte] at h
  have hn' : r.length < n := by simp only [List.length_cons] at hn; omega
  have e : ∀ x y : Int, (x == y) = false → (x == y) = true → False := fun x y a b => by rw [a] at b; cases b
  simp only [isB] at hb
  repeat' (first
 | simp only [go_sem, hlt, hget, hpu, hinc, Int.reduceLE, ↓reduceIte, reduceCtorEq, Nat.reduceEqDiff, Nat.reduceLeDiff, Nat.reduceAdd, Nat.reduceMul, Nat.reduceSub, Nat.reduceLT, hge]
 | (refine IH.to hB g2 h hn' ho g4 (Nat.lt_succ_self _) ?_ ?_ ?_ <;> ((try simp only [go_sem, hlt, hget, hpu, hinc, Int.reduceLE, ↓reduceIte, reduceCtorEq, Nat.reduceEqDiff, Nat.reduceLeDiff, Nat.reduceAdd, Nat.reduceMul, Nat.reduceSub, Nat.reduceLT]); repeat' (first | exact Ok.out | with_reducible refine And.intro ?_ ?_ | omega | (simp; done))); done)
 | (with_reducible first | refine CB_ofT (by assumption) fun hc => ?_ | refine CB_ofF (by assumption) fun hc => ?_ | refine CB_split (fun hc => ?_) fun hc => ?_) <;> (try simp only [hc, bs, ↓reduceIte] at h) <;> (try simp only [hc])
 | ((with_reducible first | refine leafR hQ ?_ | refine leafN hQ ?_); (try cases h); simp only [resL, oneD, Option.some.injEq, exists_eq_left', go_sem, hlt, hget, hpu, hinc, Int.reduceLE, ↓reduceIte, reduceCtorEq, Nat.reduceEqDiff, Nat.reduceLeDiff, Nat.reduceAdd, Nat.reduceMul, Nat.reduceSub, Nat.reduceLT, hge]; repeat' (first | exact Ok.out | with_reducible refine And.intro ?_ ?_ | (simp; done)))
 | (cases h; replace h := hr; clear hr; (try simp only [bs, ↓reduceIte] at h))
 | (cases h; done))
  all_goals (exfalso; simp_all; done)

theorem lex_remark {text : Str} (hl : text.length ≤ 100000) {B : Base} {Q : Exit → Tm → St → Prop} {p : List Tok × Int × Int} (hB : B.s = S0)
    (hQ : retF 0 0 [(2, none), (3, some (true, 2))] (.tuple [.slice .shared 4 (p.1.map encTok), .agg (encF p.2)]) ⟨[], []⟩ = Q)
    {n pos : Nat} {out : List Tok} (ho : out.length ≤ 2000) (hp : pos ≤ text.length) (IH : LexGo text B Q p (n + 1))
    {c : UInt8} {r : Str} (h1 : text.drop pos = c :: r) (hb : isB c = false) (hc : ((c.toNat : Int) == 35) = true) (hn : (c :: r).length < n + 1) (h : lexF (n + 1) pos (c :: r) out = p) :
    wpC Try.prog B 152 Q7T (jumpA Try.prog B 152 Q7Y Q) (lexTM text out pos) (lexST out) := by
  have hpu : 0 < 1 := Nat.zero_lt_one
  have hinc : 0 < 1 := Nat.zero_lt_one
  have hget0 := (drop_cons h1).1
  have hget := hget0
  have g4 := (drop_cons h1).2.2.2
  have hlt : pos < 4611686018427387904 := by omega
  have hge : decide ((pos : Int) ≥ (text.length : Int)) = false := by simp; omega
  simp only [lexF, hb, Bool.false_eq_true, ↓reduceIte, hc] at h
  simp only [isB, Bool.or_eq_false_iff] at hb
  have hk := lineL_pos (r := r) hc
  have hk2 := lineL_len (c :: r)
  have hk3 : (c :: r).length = text.length - pos := by rw [← h1, List.length_drop]
  generalize hL : lineL (c :: r) = L at h hk hk2
  repeat' (first
 | simp only [go_sem, hlt, hget, hpu, hinc, Int.reduceLE, ↓reduceIte, reduceCtorEq, Nat.reduceEqDiff, Nat.reduceLeDiff, Nat.reduceAdd, Nat.reduceMul, Nat.reduceSub, Nat.reduceLT, hge, hb.1.1.1, hb.1.1.2, hb.1.2, hb.2, hc]
 | (with_reducible refine jumpA_go (l := 1) (by with_unfolding_all rfl) ?_)
 | (with_reducible first | refine CB_ofT (by assumption) fun hc => ?_ | refine CB_ofF (by assumption) fun hc => ?_ | refine CB_split (fun hc => ?_) fun hc => ?_) <;> (try simp only [hc, bs, ↓reduceIte] at h) <;> (try simp only [hc])
 | ((with_reducible first | refine leafR hQ ?_ | refine leafN hQ ?_); (try cases h); simp only [resL, oneD, Option.some.injEq, exists_eq_left', go_sem, hlt, hget, hpu, hinc, Int.reduceLE, ↓reduceIte, reduceCtorEq, Nat.reduceEqDiff, Nat.reduceLeDiff, Nat.reduceAdd, Nat.reduceMul, Nat.reduceSub, Nat.reduceLT, hge, hb.1.1.1, hb.1.1.2, hb.1.2, hb.2, hc]; repeat' (first | exact Ok.out | with_reducible refine And.intro ?_ ?_ | (simp; done)))
 | (cases h; replace h := hr; clear hr; (try simp only [bs, ↓reduceIte] at h))
 | (cases h; done))
  refine SemL.re _ _ 2 1 (by rw [hB]; exact Nat.le_of_ble_eq_true rfl) (by rw [hB]; exact Nat.le_of_ble_eq_true rfl) ?_ ?_ (SemL.ind (ι := Str × Nat) (fun i => text.drop i.2 = i.1 ∧ i.2 + lineL i.1 = pos + L) (fun i => i.1.length)
    (fun i => lexTM text out i.2) (fun i => lexST out) ?_ (c :: r, pos) ⟨h1, by dsimp only; omega⟩)
  · (simp only [go_sem, hlt, hget, hpu, hinc, Int.reduceLE, ↓reduceIte, reduceCtorEq, Nat.reduceEqDiff, Nat.reduceLeDiff, Nat.reduceAdd, Nat.reduceMul, Nat.reduceSub, Nat.reduceLT]; repeat' (first | exact Ok.out | with_reducible refine And.intro ?_ ?_))
  · (simp only [go_sem, hlt, hget, hpu, hinc, Int.reduceLE, ↓reduceIte, reduceCtorEq, Nat.reduceEqDiff, Nat.reduceLeDiff, Nat.reduceAdd, Nat.reduceMul, Nat.reduceSub, Nat.reduceLT]; repeat' (first | exact Ok.out | with_reducible refine And.intro ?_ ?_))
  rintro ⟨rest, k⟩ ⟨j1, j2⟩ IHl
  dsimp only at j1 j2
  have fin : text.drop (pos + L) = (c :: r).drop L := by rw [← h1, List.drop_drop]
  have hlen : ((c :: r).drop L).length < n := by rw [List.length_drop]; omega
  cases rest with
  | nil =>
    have hge := drop_nil j1
    simp only [lineL, Nat.add_zero] at j2
    subst j2
    repeat' (first
 | simp only [go_sem, hlt, hget, hpu, hinc, Int.reduceLE, ↓reduceIte, reduceCtorEq, Nat.reduceEqDiff, Nat.reduceLeDiff, Nat.reduceAdd, Nat.reduceMul, Nat.reduceSub, Nat.reduceLT, hge]
 | (refine IH.to hB fin h hlen ho (by omega) (Nat.lt_succ_self _) ?_ ?_ ?_ <;> ((try simp only [go_sem, hlt, hget, hpu, hinc, Int.reduceLE, ↓reduceIte, reduceCtorEq, Nat.reduceEqDiff, Nat.reduceLeDiff, Nat.reduceAdd, Nat.reduceMul, Nat.reduceSub, Nat.reduceLT]); repeat' (first | exact Ok.out | with_reducible refine And.intro ?_ ?_ | omega | (simp; done))); done)
 | (with_reducible first | refine CB_ofT (by assumption) fun hc => ?_ | refine CB_ofF (by assumption) fun hc => ?_ | refine CB_split (fun hc => ?_) fun hc => ?_) <;> (try simp only [hc, bs, ↓reduceIte] at h) <;> (try simp only [hc])
 | ((with_reducible first | refine leafR hQ ?_ | refine leafN hQ ?_); (try cases h); simp only [resL, oneD, Option.some.injEq, exists_eq_left', go_sem, hlt, hget, hpu, hinc, Int.reduceLE, ↓reduceIte, reduceCtorEq, Nat.reduceEqDiff, Nat.reduceLeDiff, Nat.reduceAdd, Nat.reduceMul, Nat.reduceSub, Nat.reduceLT, hge]; repeat' (first | exact Ok.out | with_reducible refine And.intro ?_ ?_ | (simp; done)))
 | (cases h; replace h := hr; clear hr; (try simp only [bs, ↓reduceIte] at h))
 | (cases h; done))
  | cons d rest =>
    obtain ⟨hget, g2, hge, g5⟩ := drop_cons j1
    have hlt : k < 4611686018427387904 := by omega
    cases hd : ((d.toNat : Int) != 10)
    · simp only [lineL, hd, Bool.false_eq_true, ↓reduceIte, Nat.add_zero] at j2
      subst j2
      repeat' (first
 | simp only [go_sem, hlt, hget, hpu, hinc, Int.reduceLE, ↓reduceIte, reduceCtorEq, Nat.reduceEqDiff, Nat.reduceLeDiff, Nat.reduceAdd, Nat.reduceMul, Nat.reduceSub, Nat.reduceLT, hge, hd]
 | (refine IH.to hB fin h hlen ho (by omega) (Nat.lt_succ_self _) ?_ ?_ ?_ <;> ((try simp only [go_sem, hlt, hget, hpu, hinc, Int.reduceLE, ↓reduceIte, reduceCtorEq, Nat.reduceEqDiff, Nat.reduceLeDiff, Nat.reduceAdd, Nat.reduceMul, Nat.reduceSub, Nat.reduceLT]); repeat' (first | exact Ok.out | with_reducible refine And.intro ?_ ?_ | omega | (simp; done))); done)
 | (with_reducible first | refine CB_ofT (by assumption) fun hc => ?_ | refine CB_ofF (by assumption) fun hc => ?_ | refine CB_split (fun hc => ?_) fun hc => ?_) <;> (try simp only [hc, bs, ↓reduceIte] at h) <;> (try simp only [hc])
 | ((with_reducible first | refine leafR hQ ?_ | refine leafN hQ ?_); (try cases h); simp only [resL, oneD, Option.some.injEq, exists_eq_left', go_sem, hlt, hget, hpu, hinc, Int.reduceLE, ↓reduceIte, reduceCtorEq, Nat.reduceEqDiff, Nat.reduceLeDiff, Nat.reduceAdd, Nat.reduceMul, Nat.reduceSub, Nat.reduceLT, hge, hd]; repeat' (first | exact Ok.out | with_reducible refine And.intro ?_ ?_ | (simp; done)))
 | (cases h; replace h := hr; clear hr; (try simp only [bs, ↓reduceIte] at h))
 | (cases h; done))
    · simp only [lineL, hd, ↓reduceIte] at j2
      repeat' (first
 | simp only [go_sem, hlt, hget, hpu, hinc, Int.reduceLE, ↓reduceIte, reduceCtorEq, Nat.reduceEqDiff, Nat.reduceLeDiff, Nat.reduceAdd, Nat.reduceMul, Nat.reduceSub, Nat.reduceLT, hge, hd]
 | (with_reducible first | refine CB_ofT (by assumption) fun hc => ?_ | refine CB_ofF (by assumption) fun hc => ?_ | refine CB_split (fun hc => ?_) fun hc => ?_) <;> (try simp only [hc, bs, ↓reduceIte] at h) <;> (try simp only [hc])
 | ((with_reducible first | refine leafR hQ ?_ | refine leafN hQ ?_); (try cases h); simp only [resL, oneD, Option.some.injEq, exists_eq_left', go_sem, hlt, hget, hpu, hinc, Int.reduceLE, ↓reduceIte, reduceCtorEq, Nat.reduceEqDiff, Nat.reduceLeDiff, Nat.reduceAdd, Nat.reduceMul, Nat.reduceSub, Nat.reduceLT, hge, hd]; repeat' (first | exact Ok.out | with_reducible refine And.intro ?_ ?_ | (simp; done)))
 | (cases h; replace h := hr; clear hr; (try simp only [bs, ↓reduceIte] at h))
 | (cases h; done))
      refine SemL.re _ _ 2 1 (by rw [hB]; exact Nat.le_of_ble_eq_true rfl) (by rw [hB]; exact Nat.le_of_ble_eq_true rfl) ?_ ?_ (IHl (rest, k + 1) ⟨g2, by dsimp only; omega⟩ (Nat.lt_succ_self _))
      · (simp only [go_sem, hlt, hget, hpu, hinc, Int.reduceLE, ↓reduceIte, reduceCtorEq, Nat.reduceEqDiff, Nat.reduceLeDiff, Nat.reduceAdd, Nat.reduceMul, Nat.reduceSub, Nat.reduceLT]; repeat' (first | exact Ok.out | with_reducible refine And.intro ?_ ?_))
      · (simp only [go_sem, hlt, hget, hpu, hinc, Int.reduceLE, ↓reduceIte, reduceCtorEq, Nat.reduceEqDiff, Nat.reduceLeDiff, Nat.reduceAdd, Nat.reduceMul, Nat.reduceSub, Nat.reduceLT]; repeat' (first | exact Ok.out | with_reducible refine And.intro ?_ ?_))

theorem lex_sign {text : Str} (hl : text.length ≤ 100000) {B : Base} {Q : Exit → Tm → St → Prop} {p : List Tok × Int × Int} (hB : B.s = S0)
    (hQ : retF 0 0 [(2, none), (3, some (true, 2))] (.tuple [.slice .shared 4 (p.1.map encTok), .agg (encF p.2)]) ⟨[], []⟩ = Q)
    {n pos : Nat} {out : List Tok} (ho : out.length ≤ 2000) (hp : pos ≤ text.length) (IH : LexGo text B Q p (n + 1))
    {c : UInt8} {r : Str} (h1 : text.drop pos = c :: r) (hb : isB c = false) (hc : ((c.toNat : Int) == 35) = false) (hL : isL c = false) (hD : isD c = false) (hn : (c :: r).length < n + 1) (h : lexF (n + 1) pos (c :: r) out = p) :
    wpC Try.prog B 152 Q7T (jumpA Try.prog B 152 Q7Y Q) (lexTM text out pos) (lexST out) := by
  have hpu : 0 < 1 := Nat.zero_lt_one
  have hinc : 0 < 1 := Nat.zero_lt_one
  have hget := (drop_cons h1).1
  have g4 := (drop_cons h1).2.2.2
  have hlt : pos < 4611686018427387904 := by omega
  have hge : decide ((pos : Int) ≥ (text.length : Int)) = false := by simp; omega
  have hroom : (out.length + 1) * 41 ≤ maxStr := by simp only [maxStr]; omega
  have hsign := fun s => sign_s h1 (by omega) s
  have hk2 := signL_len (c :: r)
  have hk3 : (c :: r).length = text.length - pos := by rw [← h1, List.length_drop]
  simp only [lexF, hb, Bool.false_eq_true, ↓reduceIte, hc, tokE, hL, hD] at h
  simp only [isB, Bool.or_eq_false_iff] at hb
  generalize hK : signL (c :: r) = k at h hsign hk2
  have e1 : IntKind.wrap .i64 ((pos : Int) + (k : Int)) = ((pos + k : Nat) : Int) := by rw [wrap_ok] <;> omega
  have e2 : (0 : Int) ≤ (pos : Int) ∧ (pos : Int) ≤ ((pos + k : Nat) : Int) ∧ ((pos + k : Nat) : Int) ≤ (text.length : Int) := by omega
  have e3 : (text.take (pos + k)).drop pos = (c :: r).take k := by rw [slice_at, h1]
  by_cases hz : k = 0
  · have hgt : decide (((pos + k : Nat) : Int) > (pos : Int)) = false := by simp; omega
    simp only [hz, ↓reduceIte] at h
    repeat' (first
 | simp only [go_sem, hlt, hget, hpu, hinc, Int.reduceLE, ↓reduceIte, reduceCtorEq, Nat.reduceEqDiff, Nat.reduceLeDiff, Nat.reduceAdd, Nat.reduceMul, Nat.reduceSub, Nat.reduceLT, hge, hb.1.1.1, hb.1.1.2, hb.1.2, hb.2, hc, hL, hD, e1, e2, e3, hgt]
 | (with_reducible refine CU (letter_s _ _) ?_)
 | (with_reducible refine CU (digit_s _ _) ?_)
 | (with_reducible refine CU (hsign _) ?_)
 | (with_reducible refine jumpA_go (l := 4) (by with_unfolding_all rfl) ?_)
 | (with_reducible refine jumpA_go (l := 5) (by with_unfolding_all rfl) ?_)
 | (with_reducible first | refine CB_ofT (by assumption) fun hc => ?_ | refine CB_ofF (by assumption) fun hc => ?_ | refine CB_split (fun hc => ?_) fun hc => ?_) <;> (try simp only [hc, bs, ↓reduceIte] at h) <;> (try simp only [hc])
 | ((with_reducible first | refine leafR hQ ?_ | refine leafN hQ ?_); (try cases h); simp only [resL, oneD, Option.some.injEq, exists_eq_left', go_sem, hlt, hget, hpu, hinc, Int.reduceLE, ↓reduceIte, reduceCtorEq, Nat.reduceEqDiff, Nat.reduceLeDiff, Nat.reduceAdd, Nat.reduceMul, Nat.reduceSub, Nat.reduceLT, hge, hb.1.1.1, hb.1.1.2, hb.1.2, hb.2, hc, hL, hD, e1, e2, e3, hgt]; repeat' (first | exact Ok.out | with_reducible refine And.intro ?_ ?_ | (simp; done)))
 | (cases h; replace h := hr; clear hr; (try simp only [bs, ↓reduceIte] at h))
 | (cases h; done))
  · have hgt : decide (((pos + k : Nat) : Int) > (pos : Int)) = true := by simp; omega
    have hlen : ((c :: r).take k).length = k := by rw [List.length_take]; omega
    have fin : text.drop (pos + k) = (c :: r).drop k := by rw [← h1, List.drop_drop]
    have hlen2 : ((c :: r).drop k).length < n := by rw [List.length_drop]; omega
    simp only [hz, ↓reduceIte, hlen] at h
    by_cases ho2 : out.length = 2000
    · have ho3 : ((out.length : Int) == 2000) = true := by simp [ho2]
      simp only [ho2, ↓reduceIte] at h
      repeat' (first
 | simp only [go_sem, hlt, hget, hpu, hinc, Int.reduceLE, ↓reduceIte, reduceCtorEq, Nat.reduceEqDiff, Nat.reduceLeDiff, Nat.reduceAdd, Nat.reduceMul, Nat.reduceSub, Nat.reduceLT, hge, hb.1.1.1, hb.1.1.2, hb.1.2, hb.2, hc, hL, hD, e1, e2, e3, hgt, ho3]
 | (with_reducible refine CU (letter_s _ _) ?_)
 | (with_reducible refine CU (digit_s _ _) ?_)
 | (with_reducible refine CU (hsign _) ?_)
 | (with_reducible refine jumpA_go (l := 4) (by with_unfolding_all rfl) ?_)
 | (with_reducible refine jumpA_go (l := 5) (by with_unfolding_all rfl) ?_)
 | (with_reducible first | refine CB_ofT (by assumption) fun hc => ?_ | refine CB_ofF (by assumption) fun hc => ?_ | refine CB_split (fun hc => ?_) fun hc => ?_) <;> (try simp only [hc, bs, ↓reduceIte] at h) <;> (try simp only [hc])
 | ((with_reducible first | refine leafR hQ ?_ | refine leafN hQ ?_); (try cases h); simp only [resL, oneD, Option.some.injEq, exists_eq_left', go_sem, hlt, hget, hpu, hinc, Int.reduceLE, ↓reduceIte, reduceCtorEq, Nat.reduceEqDiff, Nat.reduceLeDiff, Nat.reduceAdd, Nat.reduceMul, Nat.reduceSub, Nat.reduceLT, hge, hb.1.1.1, hb.1.1.2, hb.1.2, hb.2, hc, hL, hD, e1, e2, e3, hgt, ho3]; repeat' (first | exact Ok.out | with_reducible refine And.intro ?_ ?_ | (simp; done)))
 | (cases h; replace h := hr; clear hr; (try simp only [bs, ↓reduceIte] at h))
 | (cases h; done))
    · have ho3 : ((out.length : Int) == 2000) = false := by simp; omega
      have ho4 : ∀ t : Tok, (out ++ [t]).length ≤ 2000 := by intro t; simp; omega
      simp only [ho2, ↓reduceIte] at h
      repeat' (first
 | simp only [go_sem, hlt, hget, hpu, hinc, Int.reduceLE, ↓reduceIte, reduceCtorEq, Nat.reduceEqDiff, Nat.reduceLeDiff, Nat.reduceAdd, Nat.reduceMul, Nat.reduceSub, Nat.reduceLT, hge, hb.1.1.1, hb.1.1.2, hb.1.2, hb.2, hc, hL, hD, e1, e2, e3, hgt, ho3, hroom]
 | (with_reducible refine CU (letter_s _ _) ?_)
 | (with_reducible refine CU (digit_s _ _) ?_)
 | (with_reducible refine CU (hsign _) ?_)
 | (with_reducible refine jumpA_go (l := 4) (by with_unfolding_all rfl) ?_)
 | (with_reducible refine jumpA_go (l := 5) (by with_unfolding_all rfl) ?_)
 | (refine IH.to hB fin h hlen2 (ho4 _) (by omega) (Nat.lt_succ_self _) ?_ ?_ ?_ <;> ((try simp only [go_sem, hlt, hget, hpu, hinc, Int.reduceLE, ↓reduceIte, reduceCtorEq, Nat.reduceEqDiff, Nat.reduceLeDiff, Nat.reduceAdd, Nat.reduceMul, Nat.reduceSub, Nat.reduceLT]); repeat' (first | exact Ok.out | with_reducible refine And.intro ?_ ?_ | omega | (simp; done))); done)
 | (with_reducible first | refine CB_ofT (by assumption) fun hc => ?_ | refine CB_ofF (by assumption) fun hc => ?_ | refine CB_split (fun hc => ?_) fun hc => ?_) <;> (try simp only [hc, bs, ↓reduceIte] at h) <;> (try simp only [hc])
 | ((with_reducible first | refine leafR hQ ?_ | refine leafN hQ ?_); (try cases h); simp only [resL, oneD, Option.some.injEq, exists_eq_left', go_sem, hlt, hget, hpu, hinc, Int.reduceLE, ↓reduceIte, reduceCtorEq, Nat.reduceEqDiff, Nat.reduceLeDiff, Nat.reduceAdd, Nat.reduceMul, Nat.reduceSub, Nat.reduceLT, hge, hb.1.1.1, hb.1.1.2, hb.1.2, hb.2, hc, hL, hD, e1, e2, e3, hgt, ho3, hroom]; repeat' (first | exact Ok.out | with_reducible refine And.intro ?_ ?_ | (simp; done)))
 | (cases h; replace h := hr; clear hr; (try simp only [bs, ↓reduceIte] at h))
 | (cases h; done))

theorem lex_name {text : Str} (hl : text.length ≤ 100000) {B : Base} {Q : Exit → Tm → St → Prop} {p : List Tok × Int × Int} (hB : B.s = S0)
    (hQ : retF 0 0 [(2, none), (3, some (true, 2))] (.tuple [.slice .shared 4 (p.1.map encTok), .agg (encF p.2)]) ⟨[], []⟩ = Q)
    {n pos : Nat} {out : List Tok} (ho : out.length ≤ 2000) (hp : pos ≤ text.length) (IH : LexGo text B Q p (n + 1))
    {c : UInt8} {r : Str} (h1 : text.drop pos = c :: r) (hb : isB c = false) (hc : ((c.toNat : Int) == 35) = false) (hL : isL c = true) (hn : (c :: r).length < n + 1) (h : lexF (n + 1) pos (c :: r) out = p) :
    wpC Try.prog B 152 Q7T (jumpA Try.prog B 152 Q7Y Q) (lexTM text out pos) (lexST out) := by
  have hpu : 0 < 1 := Nat.zero_lt_one
  have hinc : 0 < 1 := Nat.zero_lt_one
  have hget := (drop_cons h1).1
  have g4 := (drop_cons h1).2.2.2
  have hlt : pos < 4611686018427387904 := by omega
  have hge : decide ((pos : Int) ≥ (text.length : Int)) = false := by simp; omega
  have hroom : (out.length + 1) * 41 ≤ maxStr := by simp only [maxStr]; omega
  have hrun := fun s => run_s (text := text) (pos := pos) (by omega) s
  rw [h1] at hrun
  have hk2 := runL_len (c :: r)
  have hk1 := runL_pos (r := r) hL
  have hk3 : (c :: r).length = text.length - pos := by rw [← h1, List.length_drop]
  simp only [lexF, hb, Bool.false_eq_true, ↓reduceIte, hc, tokE, hL] at h
  simp only [isB, Bool.or_eq_false_iff] at hb
  generalize hK : runL (c :: r) = k at h hrun hk2 hk1
  have hlen : ((c :: r).take k).length = k := by rw [List.length_take]; omega
  simp only [hlen] at h
  have e1 : IntKind.wrap .i64 (((pos + k : Nat) : Int) - (pos : Int)) = (k : Int) := by rw [wrap_ok] <;> omega
  have e2 : (0 : Int) ≤ (pos : Int) ∧ (pos : Int) ≤ ((pos + k : Nat) : Int) ∧ ((pos + k : Nat) : Int) ≤ (text.length : Int) := by omega
  have e3 : (text.take (pos + k)).drop pos = (c :: r).take k := by rw [slice_at, h1]
  by_cases hz : k > 8
  · have hgt : decide ((k : Int) > 8) = true := by simp; omega
    simp only [hz, ↓reduceIte] at h
    cases hw : isWord ((c :: r).take k)
    · repeat' (first
 | simp only [go_sem, hlt, hget, hpu, hinc, Int.reduceLE, ↓reduceIte, reduceCtorEq, Nat.reduceEqDiff, Nat.reduceLeDiff, Nat.reduceAdd, Nat.reduceMul, Nat.reduceSub, Nat.reduceLT, hge, hb.1.1.1, hb.1.1.2, hb.1.2, hb.2, hc, hL, e1, e2, e3, hgt, hw]
 | (with_reducible refine CU (letter_s _ _) ?_)
 | (with_reducible refine CU (hrun _) ?_)
 | (with_reducible refine CU (word_s _ _) ?_)
 | (with_reducible refine jumpA_go (l := 2) (by with_unfolding_all rfl) ?_)
 | (with_reducible refine jumpA_go (l := 4) (by with_unfolding_all rfl) ?_)
 | (with_reducible refine jumpA_go (l := 5) (by with_unfolding_all rfl) ?_)
 | (with_reducible first | refine CB_ofT (by assumption) fun hc => ?_ | refine CB_ofF (by assumption) fun hc => ?_ | refine CB_split (fun hc => ?_) fun hc => ?_) <;> (try simp only [hc, bs, ↓reduceIte] at h) <;> (try simp only [hc])
 | ((with_reducible first | refine leafR hQ ?_ | refine leafN hQ ?_); (try cases h); simp only [resL, oneD, Option.some.injEq, exists_eq_left', go_sem, hlt, hget, hpu, hinc, Int.reduceLE, ↓reduceIte, reduceCtorEq, Nat.reduceEqDiff, Nat.reduceLeDiff, Nat.reduceAdd, Nat.reduceMul, Nat.reduceSub, Nat.reduceLT, hge, hb.1.1.1, hb.1.1.2, hb.1.2, hb.2, hc, hL, e1, e2, e3, hgt, hw]; repeat' (first | exact Ok.out | with_reducible refine And.intro ?_ ?_ | (simp; done)))
 | (cases h; replace h := hr; clear hr; (try simp only [bs, ↓reduceIte] at h))
 | (cases h; done))
    · repeat' (first
 | simp only [go_sem, hlt, hget, hpu, hinc, Int.reduceLE, ↓reduceIte, reduceCtorEq, Nat.reduceEqDiff, Nat.reduceLeDiff, Nat.reduceAdd, Nat.reduceMul, Nat.reduceSub, Nat.reduceLT, hge, hb.1.1.1, hb.1.1.2, hb.1.2, hb.2, hc, hL, e1, e2, e3, hgt, hw]
 | (with_reducible refine CU (letter_s _ _) ?_)
 | (with_reducible refine CU (hrun _) ?_)
 | (with_reducible refine CU (word_s _ _) ?_)
 | (with_reducible refine jumpA_go (l := 2) (by with_unfolding_all rfl) ?_)
 | (with_reducible refine jumpA_go (l := 4) (by with_unfolding_all rfl) ?_)
 | (with_reducible refine jumpA_go (l := 5) (by with_unfolding_all rfl) ?_)
 | (with_reducible first | refine CB_ofT (by assumption) fun hc => ?_ | refine CB_ofF (by assumption) fun hc => ?_ | refine CB_split (fun hc => ?_) fun hc => ?_) <;> (try simp only [hc, bs, ↓reduceIte] at h) <;> (try simp only [hc])
 | ((with_reducible first | refine leafR hQ ?_ | refine leafN hQ ?_); (try cases h); simp only [resL, oneD, Option.some.injEq, exists_eq_left', go_sem, hlt, hget, hpu, hinc, Int.reduceLE, ↓reduceIte, reduceCtorEq, Nat.reduceEqDiff, Nat.reduceLeDiff, Nat.reduceAdd, Nat.reduceMul, Nat.reduceSub, Nat.reduceLT, hge, hb.1.1.1, hb.1.1.2, hb.1.2, hb.2, hc, hL, e1, e2, e3, hgt, hw]; repeat' (first | exact Ok.out | with_reducible refine And.intro ?_ ?_ | (simp; done)))
 | (cases h; replace h := hr; clear hr; (try simp only [bs, ↓reduceIte] at h))
 | (cases h; done))
  · have hgt : decide ((k : Int) > 8) = false := by simp; omega
    have fin : text.drop (pos + k) = (c :: r).drop k := by rw [← h1, List.drop_drop]
    have hlen2 : ((c :: r).drop k).length < n := by rw [List.length_drop]; omega
    simp only [hz, ↓reduceIte, hlen] at h
    by_cases ho2 : out.length = 2000
    · have ho3 : ((out.length : Int) == 2000) = true := by simp [ho2]
      simp only [ho2, ↓reduceIte] at h
      cases hw : isWord ((c :: r).take k)
      · repeat' (first
 | simp only [go_sem, hlt, hget, hpu, hinc, Int.reduceLE, ↓reduceIte, reduceCtorEq, Nat.reduceEqDiff, Nat.reduceLeDiff, Nat.reduceAdd, Nat.reduceMul, Nat.reduceSub, Nat.reduceLT, hge, hb.1.1.1, hb.1.1.2, hb.1.2, hb.2, hc, hL, e1, e2, e3, hgt, ho3, hw]
 | (with_reducible refine CU (letter_s _ _) ?_)
 | (with_reducible refine CU (hrun _) ?_)
 | (with_reducible refine CU (word_s _ _) ?_)
 | (with_reducible refine jumpA_go (l := 2) (by with_unfolding_all rfl) ?_)
 | (with_reducible refine jumpA_go (l := 4) (by with_unfolding_all rfl) ?_)
 | (with_reducible refine jumpA_go (l := 5) (by with_unfolding_all rfl) ?_)
 | (with_reducible first | refine CB_ofT (by assumption) fun hc => ?_ | refine CB_ofF (by assumption) fun hc => ?_ | refine CB_split (fun hc => ?_) fun hc => ?_) <;> (try simp only [hc, bs, ↓reduceIte] at h) <;> (try simp only [hc])
 | ((with_reducible first | refine leafR hQ ?_ | refine leafN hQ ?_); (try cases h); simp only [resL, oneD, Option.some.injEq, exists_eq_left', go_sem, hlt, hget, hpu, hinc, Int.reduceLE, ↓reduceIte, reduceCtorEq, Nat.reduceEqDiff, Nat.reduceLeDiff, Nat.reduceAdd, Nat.reduceMul, Nat.reduceSub, Nat.reduceLT, hge, hb.1.1.1, hb.1.1.2, hb.1.2, hb.2, hc, hL, e1, e2, e3, hgt, ho3, hw]; repeat' (first | exact Ok.out | with_reducible refine And.intro ?_ ?_ | (simp; done)))
 | (cases h; replace h := hr; clear hr; (try simp only [bs, ↓reduceIte] at h))
 | (cases h; done))
      · repeat' (first
 | simp only [go_sem, hlt, hget, hpu, hinc, Int.reduceLE, ↓reduceIte, reduceCtorEq, Nat.reduceEqDiff, Nat.reduceLeDiff, Nat.reduceAdd, Nat.reduceMul, Nat.reduceSub, Nat.reduceLT, hge, hb.1.1.1, hb.1.1.2, hb.1.2, hb.2, hc, hL, e1, e2, e3, hgt, ho3, hw]
 | (with_reducible refine CU (letter_s _ _) ?_)
 | (with_reducible refine CU (hrun _) ?_)
 | (with_reducible refine CU (word_s _ _) ?_)
 | (with_reducible refine jumpA_go (l := 2) (by with_unfolding_all rfl) ?_)
 | (with_reducible refine jumpA_go (l := 4) (by with_unfolding_all rfl) ?_)
 | (with_reducible refine jumpA_go (l := 5) (by with_unfolding_all rfl) ?_)
 | (with_reducible first | refine CB_ofT (by assumption) fun hc => ?_ | refine CB_ofF (by assumption) fun hc => ?_ | refine CB_split (fun hc => ?_) fun hc => ?_) <;> (try simp only [hc, bs, ↓reduceIte] at h) <;> (try simp only [hc])
 | ((with_reducible first | refine leafR hQ ?_ | refine leafN hQ ?_); (try cases h); simp only [resL, oneD, Option.some.injEq, exists_eq_left', go_sem, hlt, hget, hpu, hinc, Int.reduceLE, ↓reduceIte, reduceCtorEq, Nat.reduceEqDiff, Nat.reduceLeDiff, Nat.reduceAdd, Nat.reduceMul, Nat.reduceSub, Nat.reduceLT, hge, hb.1.1.1, hb.1.1.2, hb.1.2, hb.2, hc, hL, e1, e2, e3, hgt, ho3, hw]; repeat' (first | exact Ok.out | with_reducible refine And.intro ?_ ?_ | (simp; done)))
 | (cases h; replace h := hr; clear hr; (try simp only [bs, ↓reduceIte] at h))
 | (cases h; done))
    · have ho3 : ((out.length : Int) == 2000) = false := by simp; omega
      have ho4 : ∀ t : Tok, (out ++ [t]).length ≤ 2000 := by intro t; simp; omega
      simp only [ho2, ↓reduceIte] at h
      cases hw : isWord ((c :: r).take k)
      · simp only [hw, Bool.false_eq_true, ↓reduceIte] at h
        repeat' (first
 | simp only [go_sem, hlt, hget, hpu, hinc, Int.reduceLE, ↓reduceIte, reduceCtorEq, Nat.reduceEqDiff, Nat.reduceLeDiff, Nat.reduceAdd, Nat.reduceMul, Nat.reduceSub, Nat.reduceLT, hge, hb.1.1.1, hb.1.1.2, hb.1.2, hb.2, hc, hL, e1, e2, e3, hgt, ho3, hroom, hw]
 | (with_reducible refine CU (letter_s _ _) ?_)
 | (with_reducible refine CU (hrun _) ?_)
 | (with_reducible refine CU (word_s _ _) ?_)
 | (with_reducible refine jumpA_go (l := 2) (by with_unfolding_all rfl) ?_)
 | (with_reducible refine jumpA_go (l := 4) (by with_unfolding_all rfl) ?_)
 | (with_reducible refine jumpA_go (l := 5) (by with_unfolding_all rfl) ?_)
 | (refine IH.to hB fin h hlen2 (ho4 _) (by omega) (Nat.lt_succ_self _) ?_ ?_ ?_ <;> ((try simp only [go_sem, hlt, hget, hpu, hinc, Int.reduceLE, ↓reduceIte, reduceCtorEq, Nat.reduceEqDiff, Nat.reduceLeDiff, Nat.reduceAdd, Nat.reduceMul, Nat.reduceSub, Nat.reduceLT]); repeat' (first | exact Ok.out | with_reducible refine And.intro ?_ ?_ | omega | (simp; done))); done)
 | (with_reducible first | refine CB_ofT (by assumption) fun hc => ?_ | refine CB_ofF (by assumption) fun hc => ?_ | refine CB_split (fun hc => ?_) fun hc => ?_) <;> (try simp only [hc, bs, ↓reduceIte] at h) <;> (try simp only [hc])
 | ((with_reducible first | refine leafR hQ ?_ | refine leafN hQ ?_); (try cases h); simp only [resL, oneD, Option.some.injEq, exists_eq_left', go_sem, hlt, hget, hpu, hinc, Int.reduceLE, ↓reduceIte, reduceCtorEq, Nat.reduceEqDiff, Nat.reduceLeDiff, Nat.reduceAdd, Nat.reduceMul, Nat.reduceSub, Nat.reduceLT, hge, hb.1.1.1, hb.1.1.2, hb.1.2, hb.2, hc, hL, e1, e2, e3, hgt, ho3, hroom, hw]; repeat' (first | exact Ok.out | with_reducible refine And.intro ?_ ?_ | (simp; done)))
 | (cases h; replace h := hr; clear hr; (try simp only [bs, ↓reduceIte] at h))
 | (cases h; done))
      · simp only [hw, ↓reduceIte] at h
        repeat' (first
 | simp only [go_sem, hlt, hget, hpu, hinc, Int.reduceLE, ↓reduceIte, reduceCtorEq, Nat.reduceEqDiff, Nat.reduceLeDiff, Nat.reduceAdd, Nat.reduceMul, Nat.reduceSub, Nat.reduceLT, hge, hb.1.1.1, hb.1.1.2, hb.1.2, hb.2, hc, hL, e1, e2, e3, hgt, ho3, hroom, hw]
 | (with_reducible refine CU (letter_s _ _) ?_)
 | (with_reducible refine CU (hrun _) ?_)
 | (with_reducible refine CU (word_s _ _) ?_)
 | (with_reducible refine jumpA_go (l := 2) (by with_unfolding_all rfl) ?_)
 | (with_reducible refine jumpA_go (l := 4) (by with_unfolding_all rfl) ?_)
 | (with_reducible refine jumpA_go (l := 5) (by with_unfolding_all rfl) ?_)
 | (refine IH.to hB fin h hlen2 (ho4 _) (by omega) (Nat.lt_succ_self _) ?_ ?_ ?_ <;> ((try simp only [go_sem, hlt, hget, hpu, hinc, Int.reduceLE, ↓reduceIte, reduceCtorEq, Nat.reduceEqDiff, Nat.reduceLeDiff, Nat.reduceAdd, Nat.reduceMul, Nat.reduceSub, Nat.reduceLT]); repeat' (first | exact Ok.out | with_reducible refine And.intro ?_ ?_ | omega | (simp; done))); done)
 | (with_reducible first | refine CB_ofT (by assumption) fun hc => ?_ | refine CB_ofF (by assumption) fun hc => ?_ | refine CB_split (fun hc => ?_) fun hc => ?_) <;> (try simp only [hc, bs, ↓reduceIte] at h) <;> (try simp only [hc])
 | ((with_reducible first | refine leafR hQ ?_ | refine leafN hQ ?_); (try cases h); simp only [resL, oneD, Option.some.injEq, exists_eq_left', go_sem, hlt, hget, hpu, hinc, Int.reduceLE, ↓reduceIte, reduceCtorEq, Nat.reduceEqDiff, Nat.reduceLeDiff, Nat.reduceAdd, Nat.reduceMul, Nat.reduceSub, Nat.reduceLT, hge, hb.1.1.1, hb.1.1.2, hb.1.2, hb.2, hc, hL, e1, e2, e3, hgt, ho3, hroom, hw]; repeat' (first | exact Ok.out | with_reducible refine And.intro ?_ ?_ | (simp; done)))
 | (cases h; replace h := hr; clear hr; (try simp only [bs, ↓reduceIte] at h))
 | (cases h; done))

end Go.Abs

/-! Lex3 -/

namespace Go.Abs

set_option maxRecDepth 8000
set_option linter.unusedSimpArgs false
set_option linter.unusedVariables false
open Go.Proofs

theorem runD_pos {c : UInt8} {r : Str} (h : isD c = true) : 0 < runD (c :: r) := by simp [runD, h]

theorem lex_digits {text : Str} (hl : text.length ≤ 100000) {B : Base} {Q : Exit → Tm → St → Prop} {p : List Tok × Int × Int} (hB : B.s = S0)
    (hQ : retF 0 0 [(2, none), (3, some (true, 2))] (.tuple [.slice .shared 4 (p.1.map encTok), .agg (encF p.2)]) ⟨[], []⟩ = Q)
    {n pos : Nat} {out : List Tok} (ho : out.length ≤ 2000) (hp : pos ≤ text.length) (IH : LexGo text B Q p (n + 1))
    {c : UInt8} {r : Str} (h1 : text.drop pos = c :: r) (hb : isB c = false) (hc : ((c.toNat : Int) == 35) = false) (hL : isL c = false) (hD : isD c = true) (hn : (c :: r).length < n + 1) (h : lexF (n + 1) pos (c :: r) out = p) :
    wpC Try.prog B 152 Q7T (jumpA Try.prog B 152 Q7Y Q) (lexTM text out pos) (lexST out) := by
  have hpu : 0 < 1 := Nat.zero_lt_one
  have hinc : 0 < 1 := Nat.zero_lt_one
  have hget := (drop_cons h1).1
  have g4 := (drop_cons h1).2.2.2
  have hlt : pos < 4611686018427387904 := by omega
  have hge : decide ((pos : Int) ≥ (text.length : Int)) = false := by simp; omega
  have hroom : (out.length + 1) * 41 ≤ maxStr := by simp only [maxStr]; omega
  have hk2 := runD_len (c :: r)
  have hk1 := runD_pos (r := r) hD
  have hk3 : (c :: r).length = text.length - pos := by rw [← h1, List.length_drop]
  have hall := runD_all (c :: r)
  simp only [lexF, hb, Bool.false_eq_true, ↓reduceIte, hc, tokE, hL, hD] at h
  simp only [isB, Bool.or_eq_false_iff] at hb
  generalize hK : runD (c :: r) = k at h hk2 hk1 hall
  have hlen : ((c :: r).take k).length = k := by rw [List.length_take]; omega
  have hnum := fun s => number_s hall (by rw [hlen]; omega) s
  simp only [hlen] at h
  have hfirst : ((c :: r).take k)[0]? = some c := by rw [List.getElem?_take_of_lt hk1]; rfl
  have e2 : (0 : Int) ≤ (pos : Int) ∧ (pos : Int) ≤ ((pos + k : Nat) : Int) ∧ ((pos + k : Nat) : Int) ≤ (text.length : Int) := by omega
  have e3 : (text.take (pos + k)).drop pos = (c :: r).take k := by rw [slice_at, h1]
  have fin : text.drop (pos + k) = (c :: r).drop k := by rw [← h1, List.drop_drop]
  have hlen2 : ((c :: r).drop k).length < n := by rw [List.length_drop]; omega
  have hgo : pos + k ≤ text.length := by omega
  repeat' (first
 | simp only [go_sem, hlt, hget, hpu, hinc, Int.reduceLE, ↓reduceIte, reduceCtorEq, Nat.reduceEqDiff, Nat.reduceLeDiff, Nat.reduceAdd, Nat.reduceMul, Nat.reduceSub, Nat.reduceLT, hge, hb.1.1.1, hb.1.1.2, hb.1.2, hb.2, hc, hL, hD]
 | (with_reducible refine CU (letter_s _ _) ?_)
 | (with_reducible refine CU (digit_s _ _) ?_)
 | (with_reducible refine jumpA_go (l := 3) (by with_unfolding_all rfl) ?_)
 | (with_reducible first | refine CB_ofT (by assumption) fun hc => ?_ | refine CB_ofF (by assumption) fun hc => ?_ | refine CB_split (fun hc => ?_) fun hc => ?_) <;> (try simp only [hc, bs, ↓reduceIte] at h) <;> (try simp only [hc])
 | ((with_reducible first | refine leafR hQ ?_ | refine leafN hQ ?_); (try cases h); simp only [resL, oneD, Option.some.injEq, exists_eq_left', go_sem, hlt, hget, hpu, hinc, Int.reduceLE, ↓reduceIte, reduceCtorEq, Nat.reduceEqDiff, Nat.reduceLeDiff, Nat.reduceAdd, Nat.reduceMul, Nat.reduceSub, Nat.reduceLT, hge, hb.1.1.1, hb.1.1.2, hb.1.2, hb.2, hc, hL, hD]; repeat' (first | exact Ok.out | with_reducible refine And.intro ?_ ?_ | (simp; done)))
 | (cases h; replace h := hr; clear hr; (try simp only [bs, ↓reduceIte] at h))
 | (cases h; done))
  refine SemL.re _ _ 2 1 (by rw [hB]; exact Nat.le_of_ble_eq_true rfl) (by rw [hB]; exact Nat.le_of_ble_eq_true rfl) ?_ ?_ (SemL.ind (ι := Str × Nat) (fun i => text.drop i.2 = i.1 ∧ i.2 + runD i.1 = pos + k) (fun i => i.1.length)
    (fun i => lexTM text out i.2) (fun i => ⟨[[.int .i64 0, .int .i64 0], [.int .i64 0, .str [], .int .i64 0, .int .i64 (pos : Int)]], [some out.length]⟩) ?_ (c :: r, pos) ⟨h1, by dsimp only; omega⟩)
  · (simp only [go_sem, hlt, hget, hpu, hinc, Int.reduceLE, ↓reduceIte, reduceCtorEq, Nat.reduceEqDiff, Nat.reduceLeDiff, Nat.reduceAdd, Nat.reduceMul, Nat.reduceSub, Nat.reduceLT]; repeat' (first | exact Ok.out | with_reducible refine And.intro ?_ ?_))
  · (simp only [go_sem, hlt, hget, hpu, hinc, Int.reduceLE, ↓reduceIte, reduceCtorEq, Nat.reduceEqDiff, Nat.reduceLeDiff, Nat.reduceAdd, Nat.reduceMul, Nat.reduceSub, Nat.reduceLT]; repeat' (first | exact Ok.out | with_reducible refine And.intro ?_ ?_))
  rintro ⟨rest, j⟩ ⟨j1, j2⟩ IHl
  dsimp only at j1 j2
  have step : ∀ d rest', rest = d :: rest' → isD d = true → wpC Try.prog B 152 Q6F (thenQ (SemL Try.prog B 152 Q6F
      (inBlockQ 3 (thenQ (wpC Try.prog B 152 Q78 (jumpA Try.prog B 152 Q7Y Q)) (jumpA Try.prog B 152 Q7Y Q))))
      (inBlockQ 3 (thenQ (wpC Try.prog B 152 Q78 (jumpA Try.prog B 152 Q7Y Q)) (jumpA Try.prog B 152 Q7Y Q))))
      (lexTM text out j) ⟨[[.int .i64 0, .int .i64 0], [.int .i64 0, .str [], .int .i64 0, .int .i64 (pos : Int)]], [some out.length]⟩ := by
    rintro d rest' rfl hd
    obtain ⟨hget, g2, hge, g5⟩ := drop_cons j1
    have hlt : j < 4611686018427387904 := by omega
    simp only [runD, hd, ↓reduceIte] at j2
    repeat' (first
 | simp only [go_sem, hlt, hget, hpu, hinc, Int.reduceLE, ↓reduceIte, reduceCtorEq, Nat.reduceEqDiff, Nat.reduceLeDiff, Nat.reduceAdd, Nat.reduceMul, Nat.reduceSub, Nat.reduceLT, hge, hd]
 | (with_reducible refine CU (digit_s _ _) ?_)
 | (with_reducible first | refine CB_ofT (by assumption) fun hc => ?_ | refine CB_ofF (by assumption) fun hc => ?_ | refine CB_split (fun hc => ?_) fun hc => ?_) <;> (try simp only [hc, bs, ↓reduceIte] at h) <;> (try simp only [hc])
 | ((with_reducible first | refine leafR hQ ?_ | refine leafN hQ ?_); (try cases h); simp only [resL, oneD, Option.some.injEq, exists_eq_left', go_sem, hlt, hget, hpu, hinc, Int.reduceLE, ↓reduceIte, reduceCtorEq, Nat.reduceEqDiff, Nat.reduceLeDiff, Nat.reduceAdd, Nat.reduceMul, Nat.reduceSub, Nat.reduceLT, hge, hd]; repeat' (first | exact Ok.out | with_reducible refine And.intro ?_ ?_ | (simp; done)))
 | (cases h; replace h := hr; clear hr; (try simp only [bs, ↓reduceIte] at h))
 | (cases h; done))
    refine SemL.re _ _ 2 1 (by rw [hB]; exact Nat.le_of_ble_eq_true rfl) (by rw [hB]; exact Nat.le_of_ble_eq_true rfl) ?_ ?_ (IHl (rest', j + 1) ⟨g2, by dsimp only; omega⟩ (Nat.lt_succ_self _))
    · (simp only [go_sem, hlt, hget, hpu, hinc, Int.reduceLE, ↓reduceIte, reduceCtorEq, Nat.reduceEqDiff, Nat.reduceLeDiff, Nat.reduceAdd, Nat.reduceMul, Nat.reduceSub, Nat.reduceLT]; repeat' (first | exact Ok.out | with_reducible refine And.intro ?_ ?_))
    · (simp only [go_sem, hlt, hget, hpu, hinc, Int.reduceLE, ↓reduceIte, reduceCtorEq, Nat.reduceEqDiff, Nat.reduceLeDiff, Nat.reduceAdd, Nat.reduceMul, Nat.reduceSub, Nat.reduceLT]; repeat' (first | exact Ok.out | with_reducible refine And.intro ?_ ?_))
  cases rest with
  | nil =>
    have hge := drop_nil j1
    simp only [runD, Nat.add_zero] at j2
    subst j2
    by_cases hz : k > 1 ∧ (c.toNat : Int) = 48
    · have z1 : decide ((k : Int) > 1) = true := by simp; omega
      have z2 : ((c.toNat : Int) == 48) = true := by simp [hz.2]
      rw [if_pos hz] at h
      dsimp only at h
      repeat' (first
 | simp only [go_sem, hlt, hget, hpu, hinc, Int.reduceLE, ↓reduceIte, reduceCtorEq, Nat.reduceEqDiff, Nat.reduceLeDiff, Nat.reduceAdd, Nat.reduceMul, Nat.reduceSub, Nat.reduceLT, hge, e2, e3, hlen, hfirst, z1, z2]
 | (with_reducible refine jumpA_go (l := 4) (by with_unfolding_all rfl) ?_)
 | (with_reducible refine jumpA_go (l := 5) (by with_unfolding_all rfl) ?_)
 | (with_reducible first | refine CB_ofT (by assumption) fun hc => ?_ | refine CB_ofF (by assumption) fun hc => ?_ | refine CB_split (fun hc => ?_) fun hc => ?_) <;> (try simp only [hc, bs, ↓reduceIte] at h) <;> (try simp only [hc])
 | ((with_reducible first | refine leafR hQ ?_ | refine leafN hQ ?_); (try cases h); simp only [resL, oneD, Option.some.injEq, exists_eq_left', go_sem, hlt, hget, hpu, hinc, Int.reduceLE, ↓reduceIte, reduceCtorEq, Nat.reduceEqDiff, Nat.reduceLeDiff, Nat.reduceAdd, Nat.reduceMul, Nat.reduceSub, Nat.reduceLT, hge, e2, e3, hlen, hfirst, z1, z2]; repeat' (first | exact Ok.out | with_reducible refine And.intro ?_ ?_ | (simp; done)))
 | (cases h; replace h := hr; clear hr; (try simp only [bs, ↓reduceIte] at h))
 | (cases h; done))
    · have hz' : decide ((k : Int) > 1) = false ∨ (decide ((k : Int) > 1) = true ∧ ((c.toNat : Int) == 48) = false) := by
        by_cases h1 : k > 1
        · right; exact ⟨by simp; omega, by simp; intro h2; exact hz ⟨h1, h2⟩⟩
        · left; simp; omega
      rw [if_neg hz] at h
      cases hw : worth 0 ((c :: r).take k) with
      | none =>
        have hwp : worthP ((c :: r).take k) = (0, false) := by simp only [worthP, hw]
        simp only [hwp] at hnum
        simp only [hw] at h
        rcases hz' with z1 | ⟨z1, z2⟩
        · repeat' (first
 | simp only [go_sem, hlt, hget, hpu, hinc, Int.reduceLE, ↓reduceIte, reduceCtorEq, Nat.reduceEqDiff, Nat.reduceLeDiff, Nat.reduceAdd, Nat.reduceMul, Nat.reduceSub, Nat.reduceLT, hge, e2, e3, hlen, hfirst, z1]
 | (with_reducible refine CU (hnum _) ?_)
 | (with_reducible refine jumpA_go (l := 4) (by with_unfolding_all rfl) ?_)
 | (with_reducible refine jumpA_go (l := 5) (by with_unfolding_all rfl) ?_)
 | (with_reducible first | refine CB_ofT (by assumption) fun hc => ?_ | refine CB_ofF (by assumption) fun hc => ?_ | refine CB_split (fun hc => ?_) fun hc => ?_) <;> (try simp only [hc, bs, ↓reduceIte] at h) <;> (try simp only [hc])
 | ((with_reducible first | refine leafR hQ ?_ | refine leafN hQ ?_); (try cases h); simp only [resL, oneD, Option.some.injEq, exists_eq_left', go_sem, hlt, hget, hpu, hinc, Int.reduceLE, ↓reduceIte, reduceCtorEq, Nat.reduceEqDiff, Nat.reduceLeDiff, Nat.reduceAdd, Nat.reduceMul, Nat.reduceSub, Nat.reduceLT, hge, e2, e3, hlen, hfirst, z1]; repeat' (first | exact Ok.out | with_reducible refine And.intro ?_ ?_ | (simp; done)))
 | (cases h; replace h := hr; clear hr; (try simp only [bs, ↓reduceIte] at h))
 | (cases h; done))
        · repeat' (first
 | simp only [go_sem, hlt, hget, hpu, hinc, Int.reduceLE, ↓reduceIte, reduceCtorEq, Nat.reduceEqDiff, Nat.reduceLeDiff, Nat.reduceAdd, Nat.reduceMul, Nat.reduceSub, Nat.reduceLT, hge, e2, e3, hlen, hfirst, z1, z2]
 | (with_reducible refine CU (hnum _) ?_)
 | (with_reducible refine jumpA_go (l := 4) (by with_unfolding_all rfl) ?_)
 | (with_reducible refine jumpA_go (l := 5) (by with_unfolding_all rfl) ?_)
 | (with_reducible first | refine CB_ofT (by assumption) fun hc => ?_ | refine CB_ofF (by assumption) fun hc => ?_ | refine CB_split (fun hc => ?_) fun hc => ?_) <;> (try simp only [hc, bs, ↓reduceIte] at h) <;> (try simp only [hc])
 | ((with_reducible first | refine leafR hQ ?_ | refine leafN hQ ?_); (try cases h); simp only [resL, oneD, Option.some.injEq, exists_eq_left', go_sem, hlt, hget, hpu, hinc, Int.reduceLE, ↓reduceIte, reduceCtorEq, Nat.reduceEqDiff, Nat.reduceLeDiff, Nat.reduceAdd, Nat.reduceMul, Nat.reduceSub, Nat.reduceLT, hge, e2, e3, hlen, hfirst, z1, z2]; repeat' (first | exact Ok.out | with_reducible refine And.intro ?_ ?_ | (simp; done)))
 | (cases h; replace h := hr; clear hr; (try simp only [bs, ↓reduceIte] at h))
 | (cases h; done))
      | some v =>
        have hwp : worthP ((c :: r).take k) = (v, true) := by simp only [worthP, hw]
        simp only [hwp] at hnum
        simp only [hw, hlen] at h
        by_cases ho2 : out.length = 2000
        · have ho3 : ((out.length : Int) == 2000) = true := by simp [ho2]
          simp only [ho2, ↓reduceIte] at h
          rcases hz' with z1 | ⟨z1, z2⟩
          · repeat' (first
 | simp only [go_sem, hlt, hget, hpu, hinc, Int.reduceLE, ↓reduceIte, reduceCtorEq, Nat.reduceEqDiff, Nat.reduceLeDiff, Nat.reduceAdd, Nat.reduceMul, Nat.reduceSub, Nat.reduceLT, hge, e2, e3, hlen, hfirst, z1, ho3]
 | (with_reducible refine CU (hnum _) ?_)
 | (with_reducible refine jumpA_go (l := 4) (by with_unfolding_all rfl) ?_)
 | (with_reducible refine jumpA_go (l := 5) (by with_unfolding_all rfl) ?_)
 | (with_reducible first | refine CB_ofT (by assumption) fun hc => ?_ | refine CB_ofF (by assumption) fun hc => ?_ | refine CB_split (fun hc => ?_) fun hc => ?_) <;> (try simp only [hc, bs, ↓reduceIte] at h) <;> (try simp only [hc])
 | ((with_reducible first | refine leafR hQ ?_ | refine leafN hQ ?_); (try cases h); simp only [resL, oneD, Option.some.injEq, exists_eq_left', go_sem, hlt, hget, hpu, hinc, Int.reduceLE, ↓reduceIte, reduceCtorEq, Nat.reduceEqDiff, Nat.reduceLeDiff, Nat.reduceAdd, Nat.reduceMul, Nat.reduceSub, Nat.reduceLT, hge, e2, e3, hlen, hfirst, z1, ho3]; repeat' (first | exact Ok.out | with_reducible refine And.intro ?_ ?_ | (simp; done)))
 | (cases h; replace h := hr; clear hr; (try simp only [bs, ↓reduceIte] at h))
 | (cases h; done))
          · repeat' (first
 | simp only [go_sem, hlt, hget, hpu, hinc, Int.reduceLE, ↓reduceIte, reduceCtorEq, Nat.reduceEqDiff, Nat.reduceLeDiff, Nat.reduceAdd, Nat.reduceMul, Nat.reduceSub, Nat.reduceLT, hge, e2, e3, hlen, hfirst, z1, z2, ho3]
 | (with_reducible refine CU (hnum _) ?_)
 | (with_reducible refine jumpA_go (l := 4) (by with_unfolding_all rfl) ?_)
 | (with_reducible refine jumpA_go (l := 5) (by with_unfolding_all rfl) ?_)
 | (with_reducible first | refine CB_ofT (by assumption) fun hc => ?_ | refine CB_ofF (by assumption) fun hc => ?_ | refine CB_split (fun hc => ?_) fun hc => ?_) <;> (try simp only [hc, bs, ↓reduceIte] at h) <;> (try simp only [hc])
 | ((with_reducible first | refine leafR hQ ?_ | refine leafN hQ ?_); (try cases h); simp only [resL, oneD, Option.some.injEq, exists_eq_left', go_sem, hlt, hget, hpu, hinc, Int.reduceLE, ↓reduceIte, reduceCtorEq, Nat.reduceEqDiff, Nat.reduceLeDiff, Nat.reduceAdd, Nat.reduceMul, Nat.reduceSub, Nat.reduceLT, hge, e2, e3, hlen, hfirst, z1, z2, ho3]; repeat' (first | exact Ok.out | with_reducible refine And.intro ?_ ?_ | (simp; done)))
 | (cases h; replace h := hr; clear hr; (try simp only [bs, ↓reduceIte] at h))
 | (cases h; done))
        · have ho3 : ((out.length : Int) == 2000) = false := by simp; omega
          have ho4 : ∀ t : Tok, (out ++ [t]).length ≤ 2000 := by intro t; simp; omega
          simp only [ho2, ↓reduceIte] at h
          rcases hz' with z1 | ⟨z1, z2⟩
          · repeat' (first
 | simp only [go_sem, hlt, hget, hpu, hinc, Int.reduceLE, ↓reduceIte, reduceCtorEq, Nat.reduceEqDiff, Nat.reduceLeDiff, Nat.reduceAdd, Nat.reduceMul, Nat.reduceSub, Nat.reduceLT, hge, e2, e3, hlen, hfirst, z1, ho3, hroom]
 | (with_reducible refine CU (hnum _) ?_)
 | (with_reducible refine jumpA_go (l := 4) (by with_unfolding_all rfl) ?_)
 | (with_reducible refine jumpA_go (l := 5) (by with_unfolding_all rfl) ?_)
 | (refine IH.to hB fin h hlen2 (ho4 _) hgo (Nat.lt_succ_self _) ?_ ?_ ?_ <;> ((try simp only [go_sem, hlt, hget, hpu, hinc, Int.reduceLE, ↓reduceIte, reduceCtorEq, Nat.reduceEqDiff, Nat.reduceLeDiff, Nat.reduceAdd, Nat.reduceMul, Nat.reduceSub, Nat.reduceLT]); repeat' (first | exact Ok.out | with_reducible refine And.intro ?_ ?_ | omega | (simp; done))); done)
 | (with_reducible first | refine CB_ofT (by assumption) fun hc => ?_ | refine CB_ofF (by assumption) fun hc => ?_ | refine CB_split (fun hc => ?_) fun hc => ?_) <;> (try simp only [hc, bs, ↓reduceIte] at h) <;> (try simp only [hc])
 | ((with_reducible first | refine leafR hQ ?_ | refine leafN hQ ?_); (try cases h); simp only [resL, oneD, Option.some.injEq, exists_eq_left', go_sem, hlt, hget, hpu, hinc, Int.reduceLE, ↓reduceIte, reduceCtorEq, Nat.reduceEqDiff, Nat.reduceLeDiff, Nat.reduceAdd, Nat.reduceMul, Nat.reduceSub, Nat.reduceLT, hge, e2, e3, hlen, hfirst, z1, ho3, hroom]; repeat' (first | exact Ok.out | with_reducible refine And.intro ?_ ?_ | (simp; done)))
 | (cases h; replace h := hr; clear hr; (try simp only [bs, ↓reduceIte] at h))
 | (cases h; done))
          · repeat' (first
 | simp only [go_sem, hlt, hget, hpu, hinc, Int.reduceLE, ↓reduceIte, reduceCtorEq, Nat.reduceEqDiff, Nat.reduceLeDiff, Nat.reduceAdd, Nat.reduceMul, Nat.reduceSub, Nat.reduceLT, hge, e2, e3, hlen, hfirst, z1, z2, ho3, hroom]
 | (with_reducible refine CU (hnum _) ?_)
 | (with_reducible refine jumpA_go (l := 4) (by with_unfolding_all rfl) ?_)
 | (with_reducible refine jumpA_go (l := 5) (by with_unfolding_all rfl) ?_)
 | (refine IH.to hB fin h hlen2 (ho4 _) hgo (Nat.lt_succ_self _) ?_ ?_ ?_ <;> ((try simp only [go_sem, hlt, hget, hpu, hinc, Int.reduceLE, ↓reduceIte, reduceCtorEq, Nat.reduceEqDiff, Nat.reduceLeDiff, Nat.reduceAdd, Nat.reduceMul, Nat.reduceSub, Nat.reduceLT]); repeat' (first | exact Ok.out | with_reducible refine And.intro ?_ ?_ | omega | (simp; done))); done)
 | (with_reducible first | refine CB_ofT (by assumption) fun hc => ?_ | refine CB_ofF (by assumption) fun hc => ?_ | refine CB_split (fun hc => ?_) fun hc => ?_) <;> (try simp only [hc, bs, ↓reduceIte] at h) <;> (try simp only [hc])
 | ((with_reducible first | refine leafR hQ ?_ | refine leafN hQ ?_); (try cases h); simp only [resL, oneD, Option.some.injEq, exists_eq_left', go_sem, hlt, hget, hpu, hinc, Int.reduceLE, ↓reduceIte, reduceCtorEq, Nat.reduceEqDiff, Nat.reduceLeDiff, Nat.reduceAdd, Nat.reduceMul, Nat.reduceSub, Nat.reduceLT, hge, e2, e3, hlen, hfirst, z1, z2, ho3, hroom]; repeat' (first | exact Ok.out | with_reducible refine And.intro ?_ ?_ | (simp; done)))
 | (cases h; replace h := hr; clear hr; (try simp only [bs, ↓reduceIte] at h))
 | (cases h; done))
  | cons d rest =>
    obtain ⟨hget, g2, hge, g5⟩ := drop_cons j1
    have hlt : j < 4611686018427387904 := by omega
    cases hd : isD d
    · simp only [runD, hd, Bool.false_eq_true, ↓reduceIte, Nat.add_zero] at j2
      subst j2
      by_cases hz : k > 1 ∧ (c.toNat : Int) = 48
      · have z1 : decide ((k : Int) > 1) = true := by simp; omega
        have z2 : ((c.toNat : Int) == 48) = true := by simp [hz.2]
        rw [if_pos hz] at h
        dsimp only at h
        repeat' (first
 | simp only [go_sem, hlt, hget, hpu, hinc, Int.reduceLE, ↓reduceIte, reduceCtorEq, Nat.reduceEqDiff, Nat.reduceLeDiff, Nat.reduceAdd, Nat.reduceMul, Nat.reduceSub, Nat.reduceLT, hge, hd, e2, e3, hlen, hfirst, z1, z2]
 | (with_reducible refine CU (digit_s _ _) ?_)
 | (with_reducible refine jumpA_go (l := 4) (by with_unfolding_all rfl) ?_)
 | (with_reducible refine jumpA_go (l := 5) (by with_unfolding_all rfl) ?_)
 | (with_reducible first | refine CB_ofT (by assumption) fun hc => ?_ | refine CB_ofF (by assumption) fun hc => ?_ | refine CB_split (fun hc => ?_) fun hc => ?_) <;> (try simp only [hc, bs, ↓reduceIte] at h) <;> (try simp only [hc])
 | ((with_reducible first | refine leafR hQ ?_ | refine leafN hQ ?_); (try cases h); simp only [resL, oneD, Option.some.injEq, exists_eq_left', go_sem, hlt, hget, hpu, hinc, Int.reduceLE, ↓reduceIte, reduceCtorEq, Nat.reduceEqDiff, Nat.reduceLeDiff, Nat.reduceAdd, Nat.reduceMul, Nat.reduceSub, Nat.reduceLT, hge, hd, e2, e3, hlen, hfirst, z1, z2]; repeat' (first | exact Ok.out | with_reducible refine And.intro ?_ ?_ | (simp; done)))
 | (cases h; replace h := hr; clear hr; (try simp only [bs, ↓reduceIte] at h))
 | (cases h; done))
      · have hz' : decide ((k : Int) > 1) = false ∨ (decide ((k : Int) > 1) = true ∧ ((c.toNat : Int) == 48) = false) := by
          by_cases h1 : k > 1
          · right; exact ⟨by simp; omega, by simp; intro h2; exact hz ⟨h1, h2⟩⟩
          · left; simp; omega
        rw [if_neg hz] at h
        cases hw : worth 0 ((c :: r).take k) with
        | none =>
          have hwp : worthP ((c :: r).take k) = (0, false) := by simp only [worthP, hw]
          simp only [hwp] at hnum
          simp only [hw] at h
          rcases hz' with z1 | ⟨z1, z2⟩
          · repeat' (first
 | simp only [go_sem, hlt, hget, hpu, hinc, Int.reduceLE, ↓reduceIte, reduceCtorEq, Nat.reduceEqDiff, Nat.reduceLeDiff, Nat.reduceAdd, Nat.reduceMul, Nat.reduceSub, Nat.reduceLT, hge, hd, e2, e3, hlen, hfirst, z1]
 | (with_reducible refine CU (digit_s _ _) ?_)
 | (with_reducible refine CU (hnum _) ?_)
 | (with_reducible refine jumpA_go (l := 4) (by with_unfolding_all rfl) ?_)
 | (with_reducible refine jumpA_go (l := 5) (by with_unfolding_all rfl) ?_)
 | (with_reducible first | refine CB_ofT (by assumption) fun hc => ?_ | refine CB_ofF (by assumption) fun hc => ?_ | refine CB_split (fun hc => ?_) fun hc => ?_) <;> (try simp only [hc, bs, ↓reduceIte] at h) <;> (try simp only [hc])
 | ((with_reducible first | refine leafR hQ ?_ | refine leafN hQ ?_); (try cases h); simp only [resL, oneD, Option.some.injEq, exists_eq_left', go_sem, hlt, hget, hpu, hinc, Int.reduceLE, ↓reduceIte, reduceCtorEq, Nat.reduceEqDiff, Nat.reduceLeDiff, Nat.reduceAdd, Nat.reduceMul, Nat.reduceSub, Nat.reduceLT, hge, hd, e2, e3, hlen, hfirst, z1]; repeat' (first | exact Ok.out | with_reducible refine And.intro ?_ ?_ | (simp; done)))
 | (cases h; replace h := hr; clear hr; (try simp only [bs, ↓reduceIte] at h))
 | (cases h; done))
          · repeat' (first
 | simp only [go_sem, hlt, hget, hpu, hinc, Int.reduceLE, ↓reduceIte, reduceCtorEq, Nat.reduceEqDiff, Nat.reduceLeDiff, Nat.reduceAdd, Nat.reduceMul, Nat.reduceSub, Nat.reduceLT, hge, hd, e2, e3, hlen, hfirst, z1, z2]
 | (with_reducible refine CU (digit_s _ _) ?_)
 | (with_reducible refine CU (hnum _) ?_)
 | (with_reducible refine jumpA_go (l := 4) (by with_unfolding_all rfl) ?_)
 | (with_reducible refine jumpA_go (l := 5) (by with_unfolding_all rfl) ?_)
 | (with_reducible first | refine CB_ofT (by assumption) fun hc => ?_ | refine CB_ofF (by assumption) fun hc => ?_ | refine CB_split (fun hc => ?_) fun hc => ?_) <;> (try simp only [hc, bs, ↓reduceIte] at h) <;> (try simp only [hc])
 | ((with_reducible first | refine leafR hQ ?_ | refine leafN hQ ?_); (try cases h); simp only [resL, oneD, Option.some.injEq, exists_eq_left', go_sem, hlt, hget, hpu, hinc, Int.reduceLE, ↓reduceIte, reduceCtorEq, Nat.reduceEqDiff, Nat.reduceLeDiff, Nat.reduceAdd, Nat.reduceMul, Nat.reduceSub, Nat.reduceLT, hge, hd, e2, e3, hlen, hfirst, z1, z2]; repeat' (first | exact Ok.out | with_reducible refine And.intro ?_ ?_ | (simp; done)))
 | (cases h; replace h := hr; clear hr; (try simp only [bs, ↓reduceIte] at h))
 | (cases h; done))
        | some v =>
          have hwp : worthP ((c :: r).take k) = (v, true) := by simp only [worthP, hw]
          simp only [hwp] at hnum
          simp only [hw, hlen] at h
          by_cases ho2 : out.length = 2000
          · have ho3 : ((out.length : Int) == 2000) = true := by simp [ho2]
            simp only [ho2, ↓reduceIte] at h
            rcases hz' with z1 | ⟨z1, z2⟩
            · repeat' (first
 | simp only [go_sem, hlt, hget, hpu, hinc, Int.reduceLE, ↓reduceIte, reduceCtorEq, Nat.reduceEqDiff, Nat.reduceLeDiff, Nat.reduceAdd, Nat.reduceMul, Nat.reduceSub, Nat.reduceLT, hge, hd, e2, e3, hlen, hfirst, z1, ho3]
 | (with_reducible refine CU (digit_s _ _) ?_)
 | (with_reducible refine CU (hnum _) ?_)
 | (with_reducible refine jumpA_go (l := 4) (by with_unfolding_all rfl) ?_)
 | (with_reducible refine jumpA_go (l := 5) (by with_unfolding_all rfl) ?_)
 | (with_reducible first | refine CB_ofT (by assumption) fun hc => ?_ | refine CB_ofF (by assumption) fun hc => ?_ | refine CB_split (fun hc => ?_) fun hc => ?_) <;> (try simp only [hc, bs, ↓reduceIte] at h) <;> (try simp only [hc])
 | ((with_reducible first | refine leafR hQ ?_ | refine leafN hQ ?_); (try cases h); simp only [resL, oneD, Option.some.injEq, exists_eq_left', go_sem, hlt, hget, hpu, hinc, Int.reduceLE, ↓reduceIte, reduceCtorEq, Nat.reduceEqDiff, Nat.reduceLeDiff, Nat.reduceAdd, Nat.reduceMul, Nat.reduceSub, Nat.reduceLT, hge, hd, e2, e3, hlen, hfirst, z1, ho3]; repeat' (first | exact Ok.out | with_reducible refine And.intro ?_ ?_ | (simp; done)))
 | (cases h; replace h := hr; clear hr; (try simp only [bs, ↓reduceIte] at h))
 | (cases h; done))
            · repeat' (first
 | simp only [go_sem, hlt, hget, hpu, hinc, Int.reduceLE, ↓reduceIte, reduceCtorEq, Nat.reduceEqDiff, Nat.reduceLeDiff, Nat.reduceAdd, Nat.reduceMul, Nat.reduceSub, Nat.reduceLT, hge, hd, e2, e3, hlen, hfirst, z1, z2, ho3]
 | (with_reducible refine CU (digit_s _ _) ?_)
 | (with_reducible refine CU (hnum _) ?_)
 | (with_reducible refine jumpA_go (l := 4) (by with_unfolding_all rfl) ?_)
 | (with_reducible refine jumpA_go (l := 5) (by with_unfolding_all rfl) ?_)
 | (with_reducible first | refine CB_ofT (by assumption) fun hc => ?_ | refine CB_ofF (by assumption) fun hc => ?_ | refine CB_split (fun hc => ?_) fun hc => ?_) <;> (try simp only [hc, bs, ↓reduceIte] at h) <;> (try simp only [hc])
 | ((with_reducible first | refine leafR hQ ?_ | refine leafN hQ ?_); (try cases h); simp only [resL, oneD, Option.some.injEq, exists_eq_left', go_sem, hlt, hget, hpu, hinc, Int.reduceLE, ↓reduceIte, reduceCtorEq, Nat.reduceEqDiff, Nat.reduceLeDiff, Nat.reduceAdd, Nat.reduceMul, Nat.reduceSub, Nat.reduceLT, hge, hd, e2, e3, hlen, hfirst, z1, z2, ho3]; repeat' (first | exact Ok.out | with_reducible refine And.intro ?_ ?_ | (simp; done)))
 | (cases h; replace h := hr; clear hr; (try simp only [bs, ↓reduceIte] at h))
 | (cases h; done))
          · have ho3 : ((out.length : Int) == 2000) = false := by simp; omega
            have ho4 : ∀ t : Tok, (out ++ [t]).length ≤ 2000 := by intro t; simp; omega
            simp only [ho2, ↓reduceIte] at h
            rcases hz' with z1 | ⟨z1, z2⟩
            · repeat' (first
 | simp only [go_sem, hlt, hget, hpu, hinc, Int.reduceLE, ↓reduceIte, reduceCtorEq, Nat.reduceEqDiff, Nat.reduceLeDiff, Nat.reduceAdd, Nat.reduceMul, Nat.reduceSub, Nat.reduceLT, hge, hd, e2, e3, hlen, hfirst, z1, ho3, hroom]
 | (with_reducible refine CU (digit_s _ _) ?_)
 | (with_reducible refine CU (hnum _) ?_)
 | (with_reducible refine jumpA_go (l := 4) (by with_unfolding_all rfl) ?_)
 | (with_reducible refine jumpA_go (l := 5) (by with_unfolding_all rfl) ?_)
 | (refine IH.to hB fin h hlen2 (ho4 _) hgo (Nat.lt_succ_self _) ?_ ?_ ?_ <;> ((try simp only [go_sem, hlt, hget, hpu, hinc, Int.reduceLE, ↓reduceIte, reduceCtorEq, Nat.reduceEqDiff, Nat.reduceLeDiff, Nat.reduceAdd, Nat.reduceMul, Nat.reduceSub, Nat.reduceLT]); repeat' (first | exact Ok.out | with_reducible refine And.intro ?_ ?_ | omega | (simp; done))); done)
 | (with_reducible first | refine CB_ofT (by assumption) fun hc => ?_ | refine CB_ofF (by assumption) fun hc => ?_ | refine CB_split (fun hc => ?_) fun hc => ?_) <;> (try simp only [hc, bs, ↓reduceIte] at h) <;> (try simp only [hc])
 | ((with_reducible first | refine leafR hQ ?_ | refine leafN hQ ?_); (try cases h); simp only [resL, oneD, Option.some.injEq, exists_eq_left', go_sem, hlt, hget, hpu, hinc, Int.reduceLE, ↓reduceIte, reduceCtorEq, Nat.reduceEqDiff, Nat.reduceLeDiff, Nat.reduceAdd, Nat.reduceMul, Nat.reduceSub, Nat.reduceLT, hge, hd, e2, e3, hlen, hfirst, z1, ho3, hroom]; repeat' (first | exact Ok.out | with_reducible refine And.intro ?_ ?_ | (simp; done)))
 | (cases h; replace h := hr; clear hr; (try simp only [bs, ↓reduceIte] at h))
 | (cases h; done))
            · repeat' (first
 | simp only [go_sem, hlt, hget, hpu, hinc, Int.reduceLE, ↓reduceIte, reduceCtorEq, Nat.reduceEqDiff, Nat.reduceLeDiff, Nat.reduceAdd, Nat.reduceMul, Nat.reduceSub, Nat.reduceLT, hge, hd, e2, e3, hlen, hfirst, z1, z2, ho3, hroom]
 | (with_reducible refine CU (digit_s _ _) ?_)
 | (with_reducible refine CU (hnum _) ?_)
 | (with_reducible refine jumpA_go (l := 4) (by with_unfolding_all rfl) ?_)
 | (with_reducible refine jumpA_go (l := 5) (by with_unfolding_all rfl) ?_)
 | (refine IH.to hB fin h hlen2 (ho4 _) hgo (Nat.lt_succ_self _) ?_ ?_ ?_ <;> ((try simp only [go_sem, hlt, hget, hpu, hinc, Int.reduceLE, ↓reduceIte, reduceCtorEq, Nat.reduceEqDiff, Nat.reduceLeDiff, Nat.reduceAdd, Nat.reduceMul, Nat.reduceSub, Nat.reduceLT]); repeat' (first | exact Ok.out | with_reducible refine And.intro ?_ ?_ | omega | (simp; done))); done)
 | (with_reducible first | refine CB_ofT (by assumption) fun hc => ?_ | refine CB_ofF (by assumption) fun hc => ?_ | refine CB_split (fun hc => ?_) fun hc => ?_) <;> (try simp only [hc, bs, ↓reduceIte] at h) <;> (try simp only [hc])
 | ((with_reducible first | refine leafR hQ ?_ | refine leafN hQ ?_); (try cases h); simp only [resL, oneD, Option.some.injEq, exists_eq_left', go_sem, hlt, hget, hpu, hinc, Int.reduceLE, ↓reduceIte, reduceCtorEq, Nat.reduceEqDiff, Nat.reduceLeDiff, Nat.reduceAdd, Nat.reduceMul, Nat.reduceSub, Nat.reduceLT, hge, hd, e2, e3, hlen, hfirst, z1, z2, ho3, hroom]; repeat' (first | exact Ok.out | with_reducible refine And.intro ?_ ?_ | (simp; done)))
 | (cases h; replace h := hr; clear hr; (try simp only [bs, ↓reduceIte] at h))
 | (cases h; done))
    · exact step d rest rfl hd


theorem lex_all {text : Str} (hl : text.length ≤ 100000) {B : Base} {Q : Exit → Tm → St → Prop} {p : List Tok × Int × Int} (hB : B.s = S0)
    (hQ : retF 0 0 [(2, none), (3, some (true, 2))] (.tuple [.slice .shared 4 (p.1.map encTok), .agg (encF p.2)]) ⟨[], []⟩ = Q)
    {n pos : Nat} {out : List Tok} (ho : out.length ≤ 2000) (hp : pos ≤ text.length) (IH : LexGo text B Q p (n + 1)) {rest : Str} (h1 : text.drop pos = rest) (h : lexF (n + 1) pos rest out = p) (hn : rest.length < n + 1) :
    wpC Try.prog B 152 Q7T (jumpA Try.prog B 152 Q7Y Q) (lexTM text out pos) (lexST out) := by
  cases rest with
  | nil => exact lex_nil hl hB hQ ho hp IH h1 h
  | cons c r =>
    cases hb : isB c
    · cases hc : ((c.toNat : Int) == 35)
      · cases hL : isL c
        · cases hD : isD c
          · exact lex_sign hl hB hQ ho hp IH h1 hb hc hL hD hn h
          · exact lex_digits hl hB hQ ho hp IH h1 hb hc hL hD hn h
        · exact lex_name hl hB hQ ho hp IH h1 hb hc hL hn h
      · exact lex_remark hl hB hQ ho hp IH h1 hb hc hn h
    · exact lex_blank hl hB hQ ho hp IH h1 hb hn h

theorem lex_go {text : Str} (hl : text.length ≤ 100000) {B : Base} {Q : Exit → Tm → St → Prop} {p : List Tok × Int × Int} (hB : B.s = S0)
    (hQ : retF 0 0 [(2, none), (3, some (true, 2))] (.tuple [.slice .shared 4 (p.1.map encTok), .agg (encF p.2)]) ⟨[], []⟩ = Q) : ∀ N, LexGo text B Q p N := by
  intro N
  induction N with
  | zero => intro n pos rest out _ _ _ _ _ h; exact absurd h (Nat.not_lt_zero _)
  | succ N ih =>
    intro n pos rest out h1 h h2 h3 h4 h5
    cases n with
    | zero => omega
    | succ n =>
      refine SemS.onceW ?_
      show wpC Try.prog B 152 Q7T (jumpA Try.prog B 152 Q7Y Q) (lexTM text out pos) (lexST out)
      exact lex_all hl hB hQ h3 h4 (fun n' pos' rest' out' a b c d e f => ih n' pos' rest' out' a b c d e (by omega)) h1 h h2

theorem all_s (text : Str) (hl : text.length < 4611686018427387904) (s : St) :
    Fun Try.prog n_lex_All [.str text] s (.tuple [.slice .shared 4 ((lexAll text).1.map encTok), .agg (encF (lexAll text).2)]) s := by
  refine Fun.pure ?_ rfl (by simp [D.ok, D.oks, okrTok, Tag.ok, encF]) s
  generalize h : lexAll text = p
  unfold lexAll at h
  unfold S0
  refine Fun.go has_lex_All rfl fun B Q hB hQ => ?_
  have hlt : 0 < 1 := Nat.zero_lt_one
  have hget : 0 < 1 := Nat.zero_lt_one
  have hpu : 0 < 1 := Nat.zero_lt_one
  have hinc : 0 < 1 := Nat.zero_lt_one
  repeat' (first
 | simp only [go_sem, hlt, hget, hpu, hinc, Int.reduceLE, ↓reduceIte, reduceCtorEq, Nat.reduceEqDiff, Nat.reduceLeDiff, Nat.reduceAdd, Nat.reduceMul, Nat.reduceSub, Nat.reduceLT]
 | (with_reducible first | refine CB_ofT (by assumption) fun hc => ?_ | refine CB_ofF (by assumption) fun hc => ?_ | refine CB_split (fun hc => ?_) fun hc => ?_) <;> (try simp only [hc, bs, ↓reduceIte] at h) <;> (try simp only [hc])
 | ((with_reducible first | refine leafR hQ ?_ | refine leafN hQ ?_); (try cases h); simp only [resL, oneD, Option.some.injEq, exists_eq_left', go_sem, hlt, hget, hpu, hinc, Int.reduceLE, ↓reduceIte, reduceCtorEq, Nat.reduceEqDiff, Nat.reduceLeDiff, Nat.reduceAdd, Nat.reduceMul, Nat.reduceSub, Nat.reduceLT]; repeat' (first | exact Ok.out | with_reducible refine And.intro ?_ ?_ | (simp; done)))
 | (cases h; replace h := hr; clear hr; (try simp only [bs, ↓reduceIte] at h))
 | (cases h; done))
  refine SemS.once (Sem.seqW ?_)
  simp only [go_sem, hlt, hget, hpu, hinc, Int.reduceLE, ↓reduceIte, reduceCtorEq, Nat.reduceEqDiff, Nat.reduceLeDiff, Nat.reduceAdd, Nat.reduceMul, Nat.reduceSub, Nat.reduceLT]
  refine Sem.seqW ?_
  simp only [go_sem, hlt, hget, hpu, hinc, Int.reduceLE, ↓reduceIte, reduceCtorEq, Nat.reduceEqDiff, Nat.reduceLeDiff, Nat.reduceAdd, Nat.reduceMul, Nat.reduceSub, Nat.reduceLT]
  refine Sem.seqW ?_
  simp only [go_sem, hlt, hget, hpu, hinc, Int.reduceLE, ↓reduceIte, reduceCtorEq, Nat.reduceEqDiff, Nat.reduceLeDiff, Nat.reduceAdd, Nat.reduceMul, Nat.reduceSub, Nat.reduceLT]
  refine Sem.seqW ?_
  by_cases hz : text.length > 100000
  · have hgt : decide ((text.length : Int) > 100000) = true := by simp; omega
    rw [if_pos hz] at h
    repeat' (first
 | simp only [go_sem, hlt, hget, hpu, hinc, Int.reduceLE, ↓reduceIte, reduceCtorEq, Nat.reduceEqDiff, Nat.reduceLeDiff, Nat.reduceAdd, Nat.reduceMul, Nat.reduceSub, Nat.reduceLT, hgt]
 | (with_reducible first | refine CB_ofT (by assumption) fun hc => ?_ | refine CB_ofF (by assumption) fun hc => ?_ | refine CB_split (fun hc => ?_) fun hc => ?_) <;> (try simp only [hc, bs, ↓reduceIte] at h) <;> (try simp only [hc])
 | ((with_reducible first | refine leafR hQ ?_ | refine leafN hQ ?_); (try cases h); simp only [resL, oneD, Option.some.injEq, exists_eq_left', go_sem, hlt, hget, hpu, hinc, Int.reduceLE, ↓reduceIte, reduceCtorEq, Nat.reduceEqDiff, Nat.reduceLeDiff, Nat.reduceAdd, Nat.reduceMul, Nat.reduceSub, Nat.reduceLT, hgt]; repeat' (first | exact Ok.out | with_reducible refine And.intro ?_ ?_ | (simp; done)))
 | (cases h; replace h := hr; clear hr; (try simp only [bs, ↓reduceIte] at h))
 | (cases h; done))
  · have hgt : decide ((text.length : Int) > 100000) = false := by simp; omega
    rw [if_neg hz] at h
    have hl' : text.length ≤ 100000 := by omega
    have hQ' : retF 0 0 [(2, none), (3, some (true, 2))] (.tuple [.slice .shared 4 (p.1.map encTok), .agg (encF p.2)]) ⟨[], []⟩ = Q := hQ
    repeat' (first
 | simp only [go_sem, hlt, hget, hpu, hinc, Int.reduceLE, ↓reduceIte, reduceCtorEq, Nat.reduceEqDiff, Nat.reduceLeDiff, Nat.reduceAdd, Nat.reduceMul, Nat.reduceSub, Nat.reduceLT, hgt]
 | (with_reducible first | refine CB_ofT (by assumption) fun hc => ?_ | refine CB_ofF (by assumption) fun hc => ?_ | refine CB_split (fun hc => ?_) fun hc => ?_) <;> (try simp only [hc, bs, ↓reduceIte] at h) <;> (try simp only [hc])
 | ((with_reducible first | refine leafR hQ ?_ | refine leafN hQ ?_); (try cases h); simp only [resL, oneD, Option.some.injEq, exists_eq_left', go_sem, hlt, hget, hpu, hinc, Int.reduceLE, ↓reduceIte, reduceCtorEq, Nat.reduceEqDiff, Nat.reduceLeDiff, Nat.reduceAdd, Nat.reduceMul, Nat.reduceSub, Nat.reduceLT, hgt]; repeat' (first | exact Ok.out | with_reducible refine And.intro ?_ ?_ | (simp; done)))
 | (cases h; replace h := hr; clear hr; (try simp only [bs, ↓reduceIte] at h))
 | (cases h; done))
    refine Sem.seqW ?_
    simp only [go_sem, hlt, hget, hpu, hinc, Int.reduceLE, ↓reduceIte, reduceCtorEq, Nat.reduceEqDiff, Nat.reduceLeDiff, Nat.reduceAdd, Nat.reduceMul, Nat.reduceSub, Nat.reduceLT]
    refine Sem.tokT 4 4 rfl ?_
    simp only [go_sem, hlt, hget, hpu, hinc, Int.reduceLE, ↓reduceIte, reduceCtorEq, Nat.reduceEqDiff, Nat.reduceLeDiff, Nat.reduceAdd, Nat.reduceMul, Nat.reduceSub, Nat.reduceLT]
    refine Sem.re _ _ 2 1 (by rw [hB]; exact Nat.le_of_ble_eq_true rfl) (by rw [hB]; exact Nat.le_of_ble_eq_true rfl) ?_ ?_ (wpC_sound (lex_all hl' hB hQ' (out := []) (pos := 0) (by simp) (Nat.zero_le _) (lex_go hl' hB hQ' _) rfl h (by simp)))
    · (simp only [go_sem, hlt, hget, hpu, hinc, Int.reduceLE, ↓reduceIte, reduceCtorEq, Nat.reduceEqDiff, Nat.reduceLeDiff, Nat.reduceAdd, Nat.reduceMul, Nat.reduceSub, Nat.reduceLT]; repeat' (first | exact Ok.out | with_reducible refine And.intro ?_ ?_))
    · (simp only [go_sem, hlt, hget, hpu, hinc, Int.reduceLE, ↓reduceIte, reduceCtorEq, Nat.reduceEqDiff, Nat.reduceLeDiff, Nat.reduceAdd, Nat.reduceMul, Nat.reduceSub, Nat.reduceLT]; repeat' (first | exact Ok.out | with_reducible refine And.intro ?_ ?_))

end Go.Abs

/-! Tree1 -/

namespace Go.Abs

set_option maxRecDepth 8000
set_option linter.unusedSimpArgs false
set_option linter.unusedVariables false
open Go.Proofs

theorem app_emptyN {size bytes z : Nat} {g : Tag} {rows : List (List D)} {s : St} (h : rows.length * (bytes + 1) ≤ maxStr) (hr : rows ≠ []) :
    appD size bytes (.slice .full z []) (.slice g size rows) s = some (.slice (.tok s.toks.length) size rows, ⟨s.objs, s.toks ++ [some rows.length]⟩) := by
  cases rows with
  | nil => exact absurd rfl hr
  | cons r l => simp only [appD]; simp at h ⊢; exact h

theorem clone_str {l : List Str} (hl : l.length < 1073741824) (g : Tag) (s : St) : Fun Try.prog n_slices_Clone_string [.slice g 1 (l.map encStr)] s (.slice .shared 1 (l.map encStr)) s := by
  refine ACalls.weak (.cons (Wk.shared _ _ _) .nil) (Fun.pure ?_ (by simp [D.oks, D.ok, Tag.ok, okrStr]) (by simp [D.ok, Tag.ok, okrStr]) s)
  unfold S0
  refine Fun.go has_slices_Clone_string rfl fun B Q hB hQ => ?_
  have hlt : 0 < 1 := Nat.zero_lt_one
  have hget : 0 < 1 := Nat.zero_lt_one
  have hpu : 0 < 1 := Nat.zero_lt_one
  have hinc : 0 < 1 := Nat.zero_lt_one
  cases l with
  | nil =>
    repeat' (first
 | simp only [go_sem, hlt, hget, hpu, hinc, Int.reduceLE, ↓reduceIte, reduceCtorEq, Nat.reduceEqDiff, Nat.reduceLeDiff, Nat.reduceAdd, Nat.reduceMul, Nat.reduceSub, Nat.reduceLT]
 | (with_reducible first | refine CB_ofT (by assumption) fun hc => ?_ | refine CB_ofF (by assumption) fun hc => ?_ | refine CB_split (fun hc => ?_) fun hc => ?_) <;> (try simp only [hc, bs, ↓reduceIte] at h) <;> (try simp only [hc])
 | ((with_reducible first | refine leafR hQ ?_ | refine leafN hQ ?_); (try cases h); simp only [resL, oneD, Option.some.injEq, exists_eq_left', go_sem, hlt, hget, hpu, hinc, Int.reduceLE, ↓reduceIte, reduceCtorEq, Nat.reduceEqDiff, Nat.reduceLeDiff, Nat.reduceAdd, Nat.reduceMul, Nat.reduceSub, Nat.reduceLT]; repeat' (first | exact Ok.out | with_reducible refine And.intro ?_ ?_ | (simp; done)))
 | (cases h; replace h := hr; clear hr; (try simp only [bs, ↓reduceIte] at h))
 | (cases h; done))
    refine NJ_split (fun _ => ?_) ?_
    · repeat' (first
 | simp only [go_sem, hlt, hget, hpu, hinc, Int.reduceLE, ↓reduceIte, reduceCtorEq, Nat.reduceEqDiff, Nat.reduceLeDiff, Nat.reduceAdd, Nat.reduceMul, Nat.reduceSub, Nat.reduceLT, appD, true_or, Nat.zero_le]
 | (with_reducible first | refine CB_ofT (by assumption) fun hc => ?_ | refine CB_ofF (by assumption) fun hc => ?_ | refine CB_split (fun hc => ?_) fun hc => ?_) <;> (try simp only [hc, bs, ↓reduceIte] at h) <;> (try simp only [hc])
 | ((with_reducible first | refine leafR hQ ?_ | refine leafN hQ ?_); (try cases h); simp only [resL, oneD, Option.some.injEq, exists_eq_left', go_sem, hlt, hget, hpu, hinc, Int.reduceLE, ↓reduceIte, reduceCtorEq, Nat.reduceEqDiff, Nat.reduceLeDiff, Nat.reduceAdd, Nat.reduceMul, Nat.reduceSub, Nat.reduceLT, appD, true_or, Nat.zero_le]; repeat' (first | exact Ok.out | with_reducible refine And.intro ?_ ?_ | (simp; done)))
 | (cases h; replace h := hr; clear hr; (try simp only [bs, ↓reduceIte] at h))
 | (cases h; done))
    · repeat' (first
 | simp only [go_sem, hlt, hget, hpu, hinc, Int.reduceLE, ↓reduceIte, reduceCtorEq, Nat.reduceEqDiff, Nat.reduceLeDiff, Nat.reduceAdd, Nat.reduceMul, Nat.reduceSub, Nat.reduceLT, appD, true_or, Nat.zero_le]
 | (with_reducible first | refine CB_ofT (by assumption) fun hc => ?_ | refine CB_ofF (by assumption) fun hc => ?_ | refine CB_split (fun hc => ?_) fun hc => ?_) <;> (try simp only [hc, bs, ↓reduceIte] at h) <;> (try simp only [hc])
 | ((with_reducible first | refine leafR hQ ?_ | refine leafN hQ ?_); (try cases h); simp only [resL, oneD, Option.some.injEq, exists_eq_left', go_sem, hlt, hget, hpu, hinc, Int.reduceLE, ↓reduceIte, reduceCtorEq, Nat.reduceEqDiff, Nat.reduceLeDiff, Nat.reduceAdd, Nat.reduceMul, Nat.reduceSub, Nat.reduceLT, appD, true_or, Nat.zero_le]; repeat' (first | exact Ok.out | with_reducible refine And.intro ?_ ?_ | (simp; done)))
 | (cases h; replace h := hr; clear hr; (try simp only [bs, ↓reduceIte] at h))
 | (cases h; done))
  | cons x l =>
    have e : ((x :: l).map encStr).length * (16 + 1) ≤ maxStr := by simp only [List.length_map, maxStr]; omega
    have e2 := fun s => app_emptyN (size := 1) (z := 1) (g := .shared) (s := s) e (by simp)
    simp only [List.map_cons, encStr] at e2
    repeat' (first
 | simp only [go_sem, hlt, hget, hpu, hinc, Int.reduceLE, ↓reduceIte, reduceCtorEq, Nat.reduceEqDiff, Nat.reduceLeDiff, Nat.reduceAdd, Nat.reduceMul, Nat.reduceSub, Nat.reduceLT, e2]
 | (with_reducible first | refine CB_ofT (by assumption) fun hc => ?_ | refine CB_ofF (by assumption) fun hc => ?_ | refine CB_split (fun hc => ?_) fun hc => ?_) <;> (try simp only [hc, bs, ↓reduceIte] at h) <;> (try simp only [hc])
 | ((with_reducible first | refine leafR hQ ?_ | refine leafN hQ ?_); (try cases h); simp only [resL, oneD, Option.some.injEq, exists_eq_left', go_sem, hlt, hget, hpu, hinc, Int.reduceLE, ↓reduceIte, reduceCtorEq, Nat.reduceEqDiff, Nat.reduceLeDiff, Nat.reduceAdd, Nat.reduceMul, Nat.reduceSub, Nat.reduceLT, e2]; repeat' (first | exact Ok.out | with_reducible refine And.intro ?_ ?_ | (simp; done)))
 | (cases h; replace h := hr; clear hr; (try simp only [bs, ↓reduceIte] at h))
 | (cases h; done))

theorem clone_pm {l : List Pm} (hl : l.length < 1073741824) (g : Tag) (s : St) : Fun Try.prog n_slices_Clone_api_Param [.slice g 2 (l.map encPm)] s (.slice .shared 2 (l.map encPm)) s := by
  refine ACalls.weak (.cons (Wk.shared _ _ _) .nil) (Fun.pure ?_ (by simp [D.oks, D.ok, Tag.ok, okrPm]) (by simp [D.ok, Tag.ok, okrPm]) s)
  unfold S0
  refine Fun.go has_slices_Clone_api_Param rfl fun B Q hB hQ => ?_
  have hlt : 0 < 1 := Nat.zero_lt_one
  have hget : 0 < 1 := Nat.zero_lt_one
  have hpu : 0 < 1 := Nat.zero_lt_one
  have hinc : 0 < 1 := Nat.zero_lt_one
  cases l with
  | nil =>
    repeat' (first
 | simp only [go_sem, hlt, hget, hpu, hinc, Int.reduceLE, ↓reduceIte, reduceCtorEq, Nat.reduceEqDiff, Nat.reduceLeDiff, Nat.reduceAdd, Nat.reduceMul, Nat.reduceSub, Nat.reduceLT]
 | (with_reducible first | refine CB_ofT (by assumption) fun hc => ?_ | refine CB_ofF (by assumption) fun hc => ?_ | refine CB_split (fun hc => ?_) fun hc => ?_) <;> (try simp only [hc, bs, ↓reduceIte] at h) <;> (try simp only [hc])
 | ((with_reducible first | refine leafR hQ ?_ | refine leafN hQ ?_); (try cases h); simp only [resL, oneD, Option.some.injEq, exists_eq_left', go_sem, hlt, hget, hpu, hinc, Int.reduceLE, ↓reduceIte, reduceCtorEq, Nat.reduceEqDiff, Nat.reduceLeDiff, Nat.reduceAdd, Nat.reduceMul, Nat.reduceSub, Nat.reduceLT]; repeat' (first | exact Ok.out | with_reducible refine And.intro ?_ ?_ | (simp; done)))
 | (cases h; replace h := hr; clear hr; (try simp only [bs, ↓reduceIte] at h))
 | (cases h; done))
    refine NJ_split (fun _ => ?_) ?_
    · repeat' (first
 | simp only [go_sem, hlt, hget, hpu, hinc, Int.reduceLE, ↓reduceIte, reduceCtorEq, Nat.reduceEqDiff, Nat.reduceLeDiff, Nat.reduceAdd, Nat.reduceMul, Nat.reduceSub, Nat.reduceLT, appD, true_or, Nat.zero_le]
 | (with_reducible first | refine CB_ofT (by assumption) fun hc => ?_ | refine CB_ofF (by assumption) fun hc => ?_ | refine CB_split (fun hc => ?_) fun hc => ?_) <;> (try simp only [hc, bs, ↓reduceIte] at h) <;> (try simp only [hc])
 | ((with_reducible first | refine leafR hQ ?_ | refine leafN hQ ?_); (try cases h); simp only [resL, oneD, Option.some.injEq, exists_eq_left', go_sem, hlt, hget, hpu, hinc, Int.reduceLE, ↓reduceIte, reduceCtorEq, Nat.reduceEqDiff, Nat.reduceLeDiff, Nat.reduceAdd, Nat.reduceMul, Nat.reduceSub, Nat.reduceLT, appD, true_or, Nat.zero_le]; repeat' (first | exact Ok.out | with_reducible refine And.intro ?_ ?_ | (simp; done)))
 | (cases h; replace h := hr; clear hr; (try simp only [bs, ↓reduceIte] at h))
 | (cases h; done))
    · repeat' (first
 | simp only [go_sem, hlt, hget, hpu, hinc, Int.reduceLE, ↓reduceIte, reduceCtorEq, Nat.reduceEqDiff, Nat.reduceLeDiff, Nat.reduceAdd, Nat.reduceMul, Nat.reduceSub, Nat.reduceLT, appD, true_or, Nat.zero_le]
 | (with_reducible first | refine CB_ofT (by assumption) fun hc => ?_ | refine CB_ofF (by assumption) fun hc => ?_ | refine CB_split (fun hc => ?_) fun hc => ?_) <;> (try simp only [hc, bs, ↓reduceIte] at h) <;> (try simp only [hc])
 | ((with_reducible first | refine leafR hQ ?_ | refine leafN hQ ?_); (try cases h); simp only [resL, oneD, Option.some.injEq, exists_eq_left', go_sem, hlt, hget, hpu, hinc, Int.reduceLE, ↓reduceIte, reduceCtorEq, Nat.reduceEqDiff, Nat.reduceLeDiff, Nat.reduceAdd, Nat.reduceMul, Nat.reduceSub, Nat.reduceLT, appD, true_or, Nat.zero_le]; repeat' (first | exact Ok.out | with_reducible refine And.intro ?_ ?_ | (simp; done)))
 | (cases h; replace h := hr; clear hr; (try simp only [bs, ↓reduceIte] at h))
 | (cases h; done))
  | cons x l =>
    have e : ((x :: l).map encPm).length * (24 + 1) ≤ maxStr := by simp only [List.length_map, maxStr]; omega
    have e2 := fun s => app_emptyN (size := 2) (z := 2) (g := .shared) (s := s) e (by simp)
    simp only [List.map_cons, encStr] at e2
    repeat' (first
 | simp only [go_sem, hlt, hget, hpu, hinc, Int.reduceLE, ↓reduceIte, reduceCtorEq, Nat.reduceEqDiff, Nat.reduceLeDiff, Nat.reduceAdd, Nat.reduceMul, Nat.reduceSub, Nat.reduceLT, e2]
 | (with_reducible first | refine CB_ofT (by assumption) fun hc => ?_ | refine CB_ofF (by assumption) fun hc => ?_ | refine CB_split (fun hc => ?_) fun hc => ?_) <;> (try simp only [hc, bs, ↓reduceIte] at h) <;> (try simp only [hc])
 | ((with_reducible first | refine leafR hQ ?_ | refine leafN hQ ?_); (try cases h); simp only [resL, oneD, Option.some.injEq, exists_eq_left', go_sem, hlt, hget, hpu, hinc, Int.reduceLE, ↓reduceIte, reduceCtorEq, Nat.reduceEqDiff, Nat.reduceLeDiff, Nat.reduceAdd, Nat.reduceMul, Nat.reduceSub, Nat.reduceLT, e2]; repeat' (first | exact Ok.out | with_reducible refine And.intro ?_ ?_ | (simp; done)))
 | (cases h; replace h := hr; clear hr; (try simp only [bs, ↓reduceIte] at h))
 | (cases h; done))


theorem expr_n : ∀ n, n < 1073741824 → ∀ x : Ex, x.size ≤ n → Fun Try.prog n_tree_expr [.agg (encEx x)] S0 (.agg (encEx x)) S0 := by
  intro n
  induction n with
  | zero => rintro _ ⟨op, m, name, kids⟩ h; simp only [Ex.size] at h; omega
  | succ n ihn =>
  rintro hn ⟨op, m, name, kids⟩ hx
  have hk : ∀ y ∈ kids, ∀ s, Fun Try.prog n_tree_expr [.agg (encEx y)] s (.agg (encEx y)) s := fun y hy s =>
    (ihn (by omega) y (by simp only [Ex.size] at hx; have := Ex.sizes_mem hy; omega)).pure (by simp [D.oks, D.ok, okEx]) (by simp [D.ok, okEx]) s
  have hlen : kids.length < 1073741824 := by simp only [Ex.size] at hx; have := Ex.sizes_len kids; omega
  unfold S0
  refine Fun.go has_tree_expr rfl fun B Q hB hQ => ?_
  have hlt : 0 < 1 := Nat.zero_lt_one
  have hget : 0 < 1 := Nat.zero_lt_one
  have hpu : 0 < 1 := Nat.zero_lt_one
  have hinc : 0 < 1 := Nat.zero_lt_one
  repeat' (first
 | simp only [go_sem, hlt, hget, hpu, hinc, Int.reduceLE, ↓reduceIte, reduceCtorEq, Nat.reduceEqDiff, Nat.reduceLeDiff, Nat.reduceAdd, Nat.reduceMul, Nat.reduceSub, Nat.reduceLT]
 | (with_reducible first | refine CB_ofT (by assumption) fun hc => ?_ | refine CB_ofF (by assumption) fun hc => ?_ | refine CB_split (fun hc => ?_) fun hc => ?_) <;> (try simp only [hc, bs, ↓reduceIte] at h) <;> (try simp only [hc])
 | ((with_reducible first | refine leafR hQ ?_ | refine leafN hQ ?_); (try cases h); simp only [resL, oneD, Option.some.injEq, exists_eq_left', go_sem, hlt, hget, hpu, hinc, Int.reduceLE, ↓reduceIte, reduceCtorEq, Nat.reduceEqDiff, Nat.reduceLeDiff, Nat.reduceAdd, Nat.reduceMul, Nat.reduceSub, Nat.reduceLT]; repeat' (first | exact Ok.out | with_reducible refine And.intro ?_ ?_ | (simp; done)))
 | (cases h; replace h := hr; clear hr; (try simp only [bs, ↓reduceIte] at h))
 | (cases h; done))
  refine SemL.tokO 0 3 4 rfl rfl ?_
  simp only [go_sem, hlt, hget, hpu, hinc, Int.reduceLE, ↓reduceIte, reduceCtorEq, Nat.reduceEqDiff, Nat.reduceLeDiff, Nat.reduceAdd, Nat.reduceMul, Nat.reduceSub, Nat.reduceLT]
  refine SemL.re _ _ 2 1 (by rw [hB]; exact Nat.le_of_ble_eq_true rfl) (by rw [hB]; exact Nat.le_of_ble_eq_true rfl) ?_ ?_ (SemL.ind (ι := List Ex × Nat × List Ex) (fun i => kids.drop i.2.1 = i.1 ∧ i.2.1 = i.2.2.length ∧ i.2.2 ++ i.1 = kids) (fun i => i.1.length)
    (fun i => [(1, .ptr 0 0), (2, .ptr 1 0), (9, .slice .shared 4 (kids.map encEx)), (10, .int .i64 (kids.length : Int)), (11, .int .i64 (i.2.1 : Int))])
    (fun i => ⟨[[.int .i64 op, .int .i64 m, .str name, .slice (.tok 0) 4 (i.2.2.map encEx)], encEx ex0], [some i.2.1]⟩) ?_ (kids, 0, []) ⟨rfl, rfl, rfl⟩)
  · (simp only [go_sem, hlt, hget, hpu, hinc, Int.reduceLE, ↓reduceIte, reduceCtorEq, Nat.reduceEqDiff, Nat.reduceLeDiff, Nat.reduceAdd, Nat.reduceMul, Nat.reduceSub, Nat.reduceLT]; repeat' (first | exact Ok.out | with_reducible refine And.intro ?_ ?_))
  · (simp only [go_sem, hlt, hget, hpu, hinc, Int.reduceLE, ↓reduceIte, reduceCtorEq, Nat.reduceEqDiff, Nat.reduceLeDiff, Nat.reduceAdd, Nat.reduceMul, Nat.reduceSub, Nat.reduceLT]; repeat' (first | exact Ok.out | with_reducible refine And.intro ?_ ?_))
  rintro ⟨rest, k, acc⟩ ⟨h1, h2, h3⟩ IH
  dsimp only at h1 h2 h3
  subst h2
  cases rest with
  | nil =>
    have hlt := drop_nil h1
    rw [List.append_nil] at h3
    subst h3
    repeat' (first
 | simp only [go_sem, hlt, hget, hpu, hinc, Int.reduceLE, ↓reduceIte, reduceCtorEq, Nat.reduceEqDiff, Nat.reduceLeDiff, Nat.reduceAdd, Nat.reduceMul, Nat.reduceSub, Nat.reduceLT]
 | (with_reducible first | refine CB_ofT (by assumption) fun hc => ?_ | refine CB_ofF (by assumption) fun hc => ?_ | refine CB_split (fun hc => ?_) fun hc => ?_) <;> (try simp only [hc, bs, ↓reduceIte] at h) <;> (try simp only [hc])
 | ((with_reducible first | refine leafR hQ ?_ | refine leafN hQ ?_); (try cases h); simp only [resL, oneD, Option.some.injEq, exists_eq_left', go_sem, hlt, hget, hpu, hinc, Int.reduceLE, ↓reduceIte, reduceCtorEq, Nat.reduceEqDiff, Nat.reduceLeDiff, Nat.reduceAdd, Nat.reduceMul, Nat.reduceSub, Nat.reduceLT]; repeat' (first | exact Ok.out | with_reducible refine And.intro ?_ ?_ | (simp; done)))
 | (cases h; replace h := hr; clear hr; (try simp only [bs, ↓reduceIte] at h))
 | (cases h; done))
  | cons y rest =>
    obtain ⟨hget, g2, hlt, g4⟩ := drop_cons h1
    have hpu : acc.length < 4611686018427387904 := by omega
    have hroom : (acc.length + 1) * 57 ≤ maxStr := by simp only [maxStr]; omega
    have hy := hk y (List.mem_of_getElem? hget)
    repeat' (first
 | simp only [go_sem, hlt, hget, hpu, hinc, Int.reduceLE, ↓reduceIte, reduceCtorEq, Nat.reduceEqDiff, Nat.reduceLeDiff, Nat.reduceAdd, Nat.reduceMul, Nat.reduceSub, Nat.reduceLT, hroom]
 | (with_reducible refine CU (hy _) ?_)
 | (with_reducible first | refine CB_ofT (by assumption) fun hc => ?_ | refine CB_ofF (by assumption) fun hc => ?_ | refine CB_split (fun hc => ?_) fun hc => ?_) <;> (try simp only [hc, bs, ↓reduceIte] at h) <;> (try simp only [hc])
 | ((with_reducible first | refine leafR hQ ?_ | refine leafN hQ ?_); (try cases h); simp only [resL, oneD, Option.some.injEq, exists_eq_left', go_sem, hlt, hget, hpu, hinc, Int.reduceLE, ↓reduceIte, reduceCtorEq, Nat.reduceEqDiff, Nat.reduceLeDiff, Nat.reduceAdd, Nat.reduceMul, Nat.reduceSub, Nat.reduceLT, hroom]; repeat' (first | exact Ok.out | with_reducible refine And.intro ?_ ?_ | (simp; done)))
 | (cases h; replace h := hr; clear hr; (try simp only [bs, ↓reduceIte] at h))
 | (cases h; done))
    refine SemL.re _ _ 2 1 (by rw [hB]; exact Nat.le_of_ble_eq_true rfl) (by rw [hB]; exact Nat.le_of_ble_eq_true rfl) ?_ ?_ (IH (rest, acc.length + 1, acc ++ [y]) ⟨g2, by simp, by simp only [List.append_assoc, List.cons_append, List.nil_append]; exact h3⟩ (Nat.lt_succ_self _))
    · (simp only [go_sem, hlt, hget, hpu, hinc, Int.reduceLE, ↓reduceIte, reduceCtorEq, Nat.reduceEqDiff, Nat.reduceLeDiff, Nat.reduceAdd, Nat.reduceMul, Nat.reduceSub, Nat.reduceLT]; repeat' (first | exact Ok.out | with_reducible refine And.intro ?_ ?_))
    · (simp only [go_sem, hlt, hget, hpu, hinc, Int.reduceLE, ↓reduceIte, reduceCtorEq, Nat.reduceEqDiff, Nat.reduceLeDiff, Nat.reduceAdd, Nat.reduceMul, Nat.reduceSub, Nat.reduceLT]; repeat' (first | exact Ok.out | with_reducible refine And.intro ?_ ?_))

theorem expr_s {x : Ex} (h : x.size < 1073741824) (s : St) : Fun Try.prog n_tree_expr [.agg (encEx x)] s (.agg (encEx x)) s :=
  (expr_n x.size h x (Nat.le_refl _)).pure (by simp [D.oks, D.ok, okEx]) (by simp [D.ok, okEx]) s

end Go.Abs

/-! Tree2 -/

namespace Go.Abs

set_option maxRecDepth 8000
set_option linter.unusedSimpArgs false
set_option linter.unusedVariables false
open Go.Proofs

abbrev C_cop (b : Bool) (N : Nat) : Prop := ∀ l : List Sm, Sm.sizes l < N → ∀ n : Nat, n + Sm.sizes l < 1073741824 → ∀ s : St,
  Fun Try.prog n_tree_copied [.slice .shared 13 (l.map encSm), .int .i64 (n : Int), .bool b] s (.tuple [.slice .shared 13 ((Sm.nums b n l).1.map encSm), .int .i64 ((Sm.nums b n l).2 : Int)]) s

theorem cop_true {N : Nat} (ih : C_cop true N) (l : List Sm) (hl : Sm.sizes l < N + 1) (n : Nat) (hn : n + Sm.sizes l < 1073741824) :
  Fun Try.prog n_tree_copied [.slice .shared 13 (l.map encSm), .int .i64 (n : Int), .bool true] S0 (.tuple [.slice .shared 13 ((Sm.nums true n l).1.map encSm), .int .i64 ((Sm.nums true n l).2 : Int)]) S0 := by
  unfold S0
  refine Fun.go has_tree_copied rfl fun B Q hB hQ => ?_
  have hlt : 0 < 1 := Nat.zero_lt_one
  have hget : 0 < 1 := Nat.zero_lt_one
  have hpu : 0 < 1 := Nat.zero_lt_one
  have hinc : 0 < 1 := Nat.zero_lt_one
  repeat' (first
 | simp only [go_sem, hlt, hget, hpu, hinc, Int.reduceLE, ↓reduceIte, reduceCtorEq, Nat.reduceEqDiff, Nat.reduceLeDiff, Nat.reduceAdd, Nat.reduceMul, Nat.reduceSub, Nat.reduceLT]
 | (with_reducible first | refine CB_ofT (by assumption) fun hc => ?_ | refine CB_ofF (by assumption) fun hc => ?_ | refine CB_split (fun hc => ?_) fun hc => ?_) <;> (try simp only [hc, bs, ↓reduceIte] at h) <;> (try simp only [hc])
 | ((with_reducible first | refine leafR hQ ?_ | refine leafN hQ ?_); (try cases h); simp only [resL, oneD, Option.some.injEq, exists_eq_left', go_sem, hlt, hget, hpu, hinc, Int.reduceLE, ↓reduceIte, reduceCtorEq, Nat.reduceEqDiff, Nat.reduceLeDiff, Nat.reduceAdd, Nat.reduceMul, Nat.reduceSub, Nat.reduceLT]; repeat' (first | exact Ok.out | with_reducible refine And.intro ?_ ?_ | (simp; done)))
 | (cases h; replace h := hr; clear hr; (try simp only [bs, ↓reduceIte] at h))
 | (cases h; done))
  have hlen : l.length < 1073741824 := by have := Sm.sizes_len l; omega
  refine SemL.tokT 8 13 rfl ?_
  simp only [go_sem, hlt, hget, hpu, hinc, Int.reduceLE, ↓reduceIte, reduceCtorEq, Nat.reduceEqDiff, Nat.reduceLeDiff, Nat.reduceAdd, Nat.reduceMul, Nat.reduceSub, Nat.reduceLT]
  refine SemL.re _ _ 0 1 (by rw [hB]; exact Nat.le_of_ble_eq_true rfl) (by rw [hB]; exact Nat.le_of_ble_eq_true rfl) ?_ ?_ (SemL.ind (ι := List Sm × Nat × List Sm × Nat) (fun i => l.drop i.2.1 = i.1 ∧ i.2.1 = i.2.2.1.length ∧ Sm.nums true n l = (i.2.2.1 ++ (Sm.nums true i.2.2.2 i.1).1, (Sm.nums true i.2.2.2 i.1).2) ∧ i.2.2.2 + Sm.sizes i.1 ≤ n + Sm.sizes l) (fun i => i.1.length)
    (fun i => [(1, .int .i64 (i.2.2.2 : Int)), (2, .bool true), (8, .slice (.tok 0) 13 (i.2.2.1.map encSm)), (14, .slice .shared 13 (l.map encSm)), (15, .int .i64 (l.length : Int)), (16, .int .i64 (i.2.1 : Int))])
    (fun i => ⟨[], [some i.2.1]⟩) ?_ (l, 0, [], n) ⟨rfl, rfl, rfl, Nat.le_refl _⟩)
  · (simp only [go_sem, hlt, hget, hpu, hinc, Int.reduceLE, ↓reduceIte, reduceCtorEq, Nat.reduceEqDiff, Nat.reduceLeDiff, Nat.reduceAdd, Nat.reduceMul, Nat.reduceSub, Nat.reduceLT]; repeat' (first | exact Ok.out | with_reducible refine And.intro ?_ ?_))
  · (simp only [go_sem, hlt, hget, hpu, hinc, Int.reduceLE, ↓reduceIte, reduceCtorEq, Nat.reduceEqDiff, Nat.reduceLeDiff, Nat.reduceAdd, Nat.reduceMul, Nat.reduceSub, Nat.reduceLT]; repeat' (first | exact Ok.out | with_reducible refine And.intro ?_ ?_))
  rintro ⟨rest, k, acc, m⟩ ⟨h1, h2, h3, h4⟩ IH
  dsimp only at h1 h2 h3 h4
  subst h2
  cases rest with
  | nil =>
    have hlt := drop_nil h1
    simp only [Sm.nums, List.append_nil] at h3
    rw [h3] at hQ
    repeat' (first
 | simp only [go_sem, hlt, hget, hpu, hinc, Int.reduceLE, ↓reduceIte, reduceCtorEq, Nat.reduceEqDiff, Nat.reduceLeDiff, Nat.reduceAdd, Nat.reduceMul, Nat.reduceSub, Nat.reduceLT]
 | (with_reducible first | refine CB_ofT (by assumption) fun hc => ?_ | refine CB_ofF (by assumption) fun hc => ?_ | refine CB_split (fun hc => ?_) fun hc => ?_) <;> (try simp only [hc, bs, ↓reduceIte] at h) <;> (try simp only [hc])
 | ((with_reducible first | refine leafR hQ ?_ | refine leafN hQ ?_); (try cases h); simp only [resL, oneD, Option.some.injEq, exists_eq_left', go_sem, hlt, hget, hpu, hinc, Int.reduceLE, ↓reduceIte, reduceCtorEq, Nat.reduceEqDiff, Nat.reduceLeDiff, Nat.reduceAdd, Nat.reduceMul, Nat.reduceSub, Nat.reduceLT]; repeat' (first | exact Ok.out | with_reducible refine And.intro ?_ ?_ | (simp; done)))
 | (cases h; replace h := hr; clear hr; (try simp only [bs, ↓reduceIte] at h))
 | (cases h; done))
  | cons y rest =>
    obtain ⟨hget, g2, hlt, g4⟩ := drop_cons h1
    simp only [Sm.sizes] at h4 hl
    have hm : m < 4611686018427387904 := by omega
    have hk : acc.length < 4611686018427387904 := by omega
    have hsz : y.size ≤ N := by have := Sm.sizes_mem (List.mem_of_getElem? hget); omega
    obtain ⟨id, kind, labels, name, proc, x, has, args, thn, els⟩ := y
    simp only [Sm.size] at hsz h4
    have hroom : (acc.length + 1) * 209 ≤ maxStr := by simp only [maxStr]; omega
    have hx := fun s => expr_s (x := x) (by omega) s
    simp only [encEx_eq] at hx
    have hcl := fun g s => clone_str (l := labels) (by omega) g s
    have hal := Ar.sizes_len args
    repeat' (first
 | simp only [go_sem, hlt, hget, hpu, hinc, Int.reduceLE, ↓reduceIte, reduceCtorEq, Nat.reduceEqDiff, Nat.reduceLeDiff, Nat.reduceAdd, Nat.reduceMul, Nat.reduceSub, Nat.reduceLT, wrap_inc hm]
 | (with_reducible refine CU (hcl _ _) ?_)
 | (with_reducible refine CU (hx _) ?_)
 | (with_reducible first | refine CB_ofT (by assumption) fun hc => ?_ | refine CB_ofF (by assumption) fun hc => ?_ | refine CB_split (fun hc => ?_) fun hc => ?_) <;> (try simp only [hc, bs, ↓reduceIte] at h) <;> (try simp only [hc])
 | ((with_reducible first | refine leafR hQ ?_ | refine leafN hQ ?_); (try cases h); simp only [resL, oneD, Option.some.injEq, exists_eq_left', go_sem, hlt, hget, hpu, hinc, Int.reduceLE, ↓reduceIte, reduceCtorEq, Nat.reduceEqDiff, Nat.reduceLeDiff, Nat.reduceAdd, Nat.reduceMul, Nat.reduceSub, Nat.reduceLT, wrap_inc hm]; repeat' (first | exact Ok.out | with_reducible refine And.intro ?_ ?_ | (simp; done)))
 | (cases h; replace h := hr; clear hr; (try simp only [bs, ↓reduceIte] at h))
 | (cases h; done))
    refine SemL.tokO 1 10 6 rfl rfl ?_
    simp only [go_sem, hlt, hget, hpu, hinc, Int.reduceLE, ↓reduceIte, reduceCtorEq, Nat.reduceEqDiff, Nat.reduceLeDiff, Nat.reduceAdd, Nat.reduceMul, Nat.reduceSub, Nat.reduceLT]
    refine SemL.re _ _ 2 2 (by rw [hB]; exact Nat.le_of_ble_eq_true rfl) (by rw [hB]; exact Nat.le_of_ble_eq_true rfl) ?_ ?_ (SemL.ind (ι := List Ar × Nat × List Ar) (fun i => args.drop i.2.1 = i.1 ∧ i.2.1 = i.2.2.length ∧ i.2.2 ++ i.1 = args) (fun i => i.1.length)
      (fun i => [(1, .int .i64 ((m + 1 : Nat) : Int)), (2, .bool true), (8, .slice (.tok 0) 13 (acc.map encSm)), (10, .ptr 0 0), (11, .ptr 1 0), (14, .slice .shared 13 (l.map encSm)), (15, .int .i64 (l.length : Int)), (16, .int .i64 (acc.length : Int)),
        (36, .slice .shared 6 (args.map encAr)), (37, .int .i64 (args.length : Int)), (38, .int .i64 (i.2.1 : Int))])
      (fun i => ⟨[encSm ⟨id, kind, labels, name, proc, x, has, args, thn, els⟩, [.int .i64 ((m + 1 : Nat) : Int), .int .i64 kind, .slice .shared 1 (labels.map encStr), .str name, .str proc, .int .i64 x.op, .int .i64 x.n, .str x.name, .slice .shared 4 (x.kids.map encEx), .bool has, .slice (.tok 1) 6 (i.2.2.map encAr), .slice .shared 13 (thn.map encSm), .slice .shared 13 (els.map encSm)]], [some acc.length, some i.2.1]⟩) ?_ (args, 0, []) ⟨rfl, rfl, rfl⟩)
    · (simp only [go_sem, hlt, hget, hpu, hinc, Int.reduceLE, ↓reduceIte, reduceCtorEq, Nat.reduceEqDiff, Nat.reduceLeDiff, Nat.reduceAdd, Nat.reduceMul, Nat.reduceSub, Nat.reduceLT]; repeat' (first | exact Ok.out | with_reducible refine And.intro ?_ ?_))
    · (simp only [go_sem, hlt, hget, hpu, hinc, Int.reduceLE, ↓reduceIte, reduceCtorEq, Nat.reduceEqDiff, Nat.reduceLeDiff, Nat.reduceAdd, Nat.reduceMul, Nat.reduceSub, Nat.reduceLT]; repeat' (first | exact Ok.out | with_reducible refine And.intro ?_ ?_))
    rintro ⟨resta, ka, acca⟩ ⟨j1, j2, j3⟩ IHa
    dsimp only at j1 j2 j3
    subst j2
    cases resta with
    | nil =>
      have hlt := drop_nil j1
      rw [List.append_nil] at j3
      subst j3
      have b1 := Sm.nums_le true (m + 1) thn
      have b2 := Sm.nums_le true (Sm.nums true (m + 1) thn).2 els
      have c1 := ih thn (by omega) (m + 1) (by omega)
      have c2 := ih els (by omega) (Sm.nums true (m + 1) thn).2 (by omega)
      repeat' (first
 | simp only [go_sem, hlt, hget, hpu, hinc, Int.reduceLE, ↓reduceIte, reduceCtorEq, Nat.reduceEqDiff, Nat.reduceLeDiff, Nat.reduceAdd, Nat.reduceMul, Nat.reduceSub, Nat.reduceLT, hroom]
 | (with_reducible refine CU (c1 _) ?_)
 | (with_reducible refine CU (c2 _) ?_)
 | (with_reducible first | refine CB_ofT (by assumption) fun hc => ?_ | refine CB_ofF (by assumption) fun hc => ?_ | refine CB_split (fun hc => ?_) fun hc => ?_) <;> (try simp only [hc, bs, ↓reduceIte] at h) <;> (try simp only [hc])
 | ((with_reducible first | refine leafR hQ ?_ | refine leafN hQ ?_); (try cases h); simp only [resL, oneD, Option.some.injEq, exists_eq_left', go_sem, hlt, hget, hpu, hinc, Int.reduceLE, ↓reduceIte, reduceCtorEq, Nat.reduceEqDiff, Nat.reduceLeDiff, Nat.reduceAdd, Nat.reduceMul, Nat.reduceSub, Nat.reduceLT, hroom]; repeat' (first | exact Ok.out | with_reducible refine And.intro ?_ ?_ | (simp; done)))
 | (cases h; replace h := hr; clear hr; (try simp only [bs, ↓reduceIte] at h))
 | (cases h; done))
      refine SemL.re _ _ 0 1 (by rw [hB]; exact Nat.le_of_ble_eq_true rfl) (by rw [hB]; exact Nat.le_of_ble_eq_true rfl) ?_ ?_ (IH (rest, acc.length + 1, acc ++ [(Sm.num true m ⟨id, kind, labels, name, proc, x, has, acca, thn, els⟩).1], (Sm.num true m ⟨id, kind, labels, name, proc, x, has, acca, thn, els⟩).2) ⟨g2, by simp, by rw [h3]; simp [Sm.nums], by simp only [Sm.num]; omega⟩ (Nat.lt_succ_self _))
      · (simp only [go_sem, hlt, hget, hpu, hinc, Int.reduceLE, ↓reduceIte, reduceCtorEq, Nat.reduceEqDiff, Nat.reduceLeDiff, Nat.reduceAdd, Nat.reduceMul, Nat.reduceSub, Nat.reduceLT, wrap_inc hk, Sm.num]; repeat' (first | exact Ok.out | with_reducible refine And.intro ?_ ?_))
      · (simp only [go_sem, hlt, hget, hpu, hinc, Int.reduceLE, ↓reduceIte, reduceCtorEq, Nat.reduceEqDiff, Nat.reduceLeDiff, Nat.reduceAdd, Nat.reduceMul, Nat.reduceSub, Nat.reduceLT, wrap_inc hk, Sm.num]; repeat' (first | exact Ok.out | with_reducible refine And.intro ?_ ?_))
    | cons a resta =>
      obtain ⟨hget, g2, hlt, g4⟩ := drop_cons j1
      have ha : a.x.size < 1073741824 := by have := Ar.sizes_mem (List.mem_of_getElem? hget); omega
      have hka : acca.length < 4611686018427387904 := by omega
      have hrooma : (acca.length + 1) * 81 ≤ maxStr := by simp only [maxStr]; omega
      have hxa := fun s => expr_s ha s
      simp only [encEx_eq] at hxa
      obtain ⟨aref, aname, ax⟩ := a
      repeat' (first
 | simp only [go_sem, hlt, hget, hpu, hinc, Int.reduceLE, ↓reduceIte, reduceCtorEq, Nat.reduceEqDiff, Nat.reduceLeDiff, Nat.reduceAdd, Nat.reduceMul, Nat.reduceSub, Nat.reduceLT, hrooma]
 | (with_reducible refine CU (hxa _) ?_)
 | (with_reducible first | refine CB_ofT (by assumption) fun hc => ?_ | refine CB_ofF (by assumption) fun hc => ?_ | refine CB_split (fun hc => ?_) fun hc => ?_) <;> (try simp only [hc, bs, ↓reduceIte] at h) <;> (try simp only [hc])
 | ((with_reducible first | refine leafR hQ ?_ | refine leafN hQ ?_); (try cases h); simp only [resL, oneD, Option.some.injEq, exists_eq_left', go_sem, hlt, hget, hpu, hinc, Int.reduceLE, ↓reduceIte, reduceCtorEq, Nat.reduceEqDiff, Nat.reduceLeDiff, Nat.reduceAdd, Nat.reduceMul, Nat.reduceSub, Nat.reduceLT, hrooma]; repeat' (first | exact Ok.out | with_reducible refine And.intro ?_ ?_ | (simp; done)))
 | (cases h; replace h := hr; clear hr; (try simp only [bs, ↓reduceIte] at h))
 | (cases h; done))
      refine SemL.re _ _ 2 2 (by rw [hB]; exact Nat.le_of_ble_eq_true rfl) (by rw [hB]; exact Nat.le_of_ble_eq_true rfl) ?_ ?_ (IHa (resta, acca.length + 1, acca ++ [⟨aref, aname, ax⟩]) ⟨g2, by simp, by simp only [List.append_assoc, List.cons_append, List.nil_append]; exact j3⟩ (Nat.lt_succ_self _))
      · (simp only [go_sem, hlt, hget, hpu, hinc, Int.reduceLE, ↓reduceIte, reduceCtorEq, Nat.reduceEqDiff, Nat.reduceLeDiff, Nat.reduceAdd, Nat.reduceMul, Nat.reduceSub, Nat.reduceLT, wrap_inc hka]; repeat' (first | exact Ok.out | with_reducible refine And.intro ?_ ?_))
      · (simp only [go_sem, hlt, hget, hpu, hinc, Int.reduceLE, ↓reduceIte, reduceCtorEq, Nat.reduceEqDiff, Nat.reduceLeDiff, Nat.reduceAdd, Nat.reduceMul, Nat.reduceSub, Nat.reduceLT, wrap_inc hka]; repeat' (first | exact Ok.out | with_reducible refine And.intro ?_ ?_))

theorem cop_all : ∀ N, C_cop true N := by
  intro N
  induction N with
  | zero => intro l hl; exact absurd hl (Nat.not_lt_zero _)
  | succ N ih =>
    intro l hl n hn s
    exact (cop_true ih l hl n hn).pure (by simp [D.oks, D.ok, Tag.ok, okrSm]) (by simp [D.oks, D.ok, Tag.ok, okrSm]) s

theorem cop_s {l : List Sm} {n : Nat} (h : n + Sm.sizes l < 1073741824) (s : St) :
    Fun Try.prog n_tree_copied [.slice .shared 13 (l.map encSm), .int .i64 (n : Int), .bool true] s (.tuple [.slice .shared 13 ((Sm.nums true n l).1.map encSm), .int .i64 ((Sm.nums true n l).2 : Int)]) s :=
  cop_all _ l (Nat.lt_succ_self _) n h s

theorem Number_0 {p : Pg} (hp : p.size < 1073741824) : Fun Try.prog n_tree_Number [.agg (encPg p)] S0 (.agg (encPg p.number)) S0 := by
  obtain ⟨globals, procs⟩ := p
  simp only [Pg.size] at hp
  have hlen : procs.length < 1073741824 := by have := Pc.sizes_len procs; omega
  have hcg := fun g s => clone_str (l := globals) (by omega) g s
  unfold S0
  refine Fun.go has_tree_Number rfl fun B Q hB hQ => ?_
  have hlt : 0 < 1 := Nat.zero_lt_one
  have hget : 0 < 1 := Nat.zero_lt_one
  have hpu : 0 < 1 := Nat.zero_lt_one
  have hinc : 0 < 1 := Nat.zero_lt_one
  repeat' (first
 | simp only [go_sem, hlt, hget, hpu, hinc, Int.reduceLE, ↓reduceIte, reduceCtorEq, Nat.reduceEqDiff, Nat.reduceLeDiff, Nat.reduceAdd, Nat.reduceMul, Nat.reduceSub, Nat.reduceLT]
 | (with_reducible refine CU (hcg _ _) ?_)
 | (with_reducible first | refine CB_ofT (by assumption) fun hc => ?_ | refine CB_ofF (by assumption) fun hc => ?_ | refine CB_split (fun hc => ?_) fun hc => ?_) <;> (try simp only [hc, bs, ↓reduceIte] at h) <;> (try simp only [hc])
 | ((with_reducible first | refine leafR hQ ?_ | refine leafN hQ ?_); (try cases h); simp only [resL, oneD, Option.some.injEq, exists_eq_left', go_sem, hlt, hget, hpu, hinc, Int.reduceLE, ↓reduceIte, reduceCtorEq, Nat.reduceEqDiff, Nat.reduceLeDiff, Nat.reduceAdd, Nat.reduceMul, Nat.reduceSub, Nat.reduceLT]; repeat' (first | exact Ok.out | with_reducible refine And.intro ?_ ?_ | (simp; done)))
 | (cases h; replace h := hr; clear hr; (try simp only [bs, ↓reduceIte] at h))
 | (cases h; done))
  refine SemL.tokO 2 1 5 rfl rfl ?_
  simp only [go_sem, hlt, hget, hpu, hinc, Int.reduceLE, ↓reduceIte, reduceCtorEq, Nat.reduceEqDiff, Nat.reduceLeDiff, Nat.reduceAdd, Nat.reduceMul, Nat.reduceSub, Nat.reduceLT]
  refine SemL.re _ _ 3 1 (by rw [hB]; exact Nat.le_of_ble_eq_true rfl) (by rw [hB]; exact Nat.le_of_ble_eq_true rfl) ?_ ?_ (SemL.ind (ι := List Pc × Nat × List Pc × Nat) (fun i => procs.drop i.2.1 = i.1 ∧ i.2.1 = i.2.2.1.length ∧ Pc.nums 0 procs = i.2.2.1 ++ Pc.nums i.2.2.2 i.1 ∧ i.2.2.2 + Pc.sizes i.1 ≤ Pc.sizes procs) (fun i => i.1.length)
    (fun i => [(2, .ptr 1 0), (3, .int .i64 (i.2.2.2 : Int)), (4, .ptr 2 0), (13, .slice .shared 5 (procs.map encPc)), (14, .int .i64 (procs.length : Int)), (15, .int .i64 (i.2.1 : Int))])
    (fun i => ⟨[encPg ⟨globals, procs⟩, encPg pg0, [.slice .shared 1 (globals.map encStr), .slice (.tok 0) 5 (i.2.2.1.map encPc)]], [some i.2.1]⟩) ?_ (procs, 0, [], 0) ⟨rfl, rfl, rfl, by dsimp only; omega⟩)
  · (simp only [go_sem, hlt, hget, hpu, hinc, Int.reduceLE, ↓reduceIte, reduceCtorEq, Nat.reduceEqDiff, Nat.reduceLeDiff, Nat.reduceAdd, Nat.reduceMul, Nat.reduceSub, Nat.reduceLT]; repeat' (first | exact Ok.out | with_reducible refine And.intro ?_ ?_))
  · (simp only [go_sem, hlt, hget, hpu, hinc, Int.reduceLE, ↓reduceIte, reduceCtorEq, Nat.reduceEqDiff, Nat.reduceLeDiff, Nat.reduceAdd, Nat.reduceMul, Nat.reduceSub, Nat.reduceLT]; repeat' (first | exact Ok.out | with_reducible refine And.intro ?_ ?_))
  rintro ⟨rest, k, acc, m⟩ ⟨h1, h2, h3, h4⟩ IH
  dsimp only at h1 h2 h3 h4
  subst h2
  cases rest with
  | nil =>
    have hlt := drop_nil h1
    simp only [Pc.nums, List.append_nil] at h3
    subst h3
    repeat' (first
 | simp only [go_sem, hlt, hget, hpu, hinc, Int.reduceLE, ↓reduceIte, reduceCtorEq, Nat.reduceEqDiff, Nat.reduceLeDiff, Nat.reduceAdd, Nat.reduceMul, Nat.reduceSub, Nat.reduceLT, Pg.number]
 | (with_reducible first | refine CB_ofT (by assumption) fun hc => ?_ | refine CB_ofF (by assumption) fun hc => ?_ | refine CB_split (fun hc => ?_) fun hc => ?_) <;> (try simp only [hc, bs, ↓reduceIte] at h) <;> (try simp only [hc])
 | ((with_reducible first | refine leafR hQ ?_ | refine leafN hQ ?_); (try cases h); simp only [resL, oneD, Option.some.injEq, exists_eq_left', go_sem, hlt, hget, hpu, hinc, Int.reduceLE, ↓reduceIte, reduceCtorEq, Nat.reduceEqDiff, Nat.reduceLeDiff, Nat.reduceAdd, Nat.reduceMul, Nat.reduceSub, Nat.reduceLT, Pg.number]; repeat' (first | exact Ok.out | with_reducible refine And.intro ?_ ?_ | (simp; done)))
 | (cases h; replace h := hr; clear hr; (try simp only [bs, ↓reduceIte] at h))
 | (cases h; done))
  | cons y rest =>
    obtain ⟨hget, g2, hlt, g4⟩ := drop_cons h1
    simp only [Pc.sizes] at h4
    have hsz := Pc.sizes_mem (List.mem_of_getElem? hget)
    obtain ⟨name, params, vars, body, fin⟩ := y
    simp only [Pc.size] at hsz h4
    have hk : acc.length < 4611686018427387904 := by omega
    have hroom : (acc.length + 1) * 113 ≤ maxStr := by simp only [maxStr]; omega
    have c1 := fun g s => clone_pm (l := params) (by omega) g s
    have c2 := fun g s => clone_str (l := vars) (by omega) g s
    have c3 := fun g s => clone_str (l := fin) (by omega) g s
    have c4 := fun s => cop_s (l := body) (n := m) (by omega) s
    have b1 := Sm.nums_le true m body
    repeat' (first
 | simp only [go_sem, hlt, hget, hpu, hinc, Int.reduceLE, ↓reduceIte, reduceCtorEq, Nat.reduceEqDiff, Nat.reduceLeDiff, Nat.reduceAdd, Nat.reduceMul, Nat.reduceSub, Nat.reduceLT, hroom]
 | (with_reducible refine CU (c1 _ _) ?_)
 | (with_reducible refine CU (c2 _ _) ?_)
 | (with_reducible refine CU (c3 _ _) ?_)
 | (with_reducible refine CU (c4 _) ?_)
 | (with_reducible first | refine CB_ofT (by assumption) fun hc => ?_ | refine CB_ofF (by assumption) fun hc => ?_ | refine CB_split (fun hc => ?_) fun hc => ?_) <;> (try simp only [hc, bs, ↓reduceIte] at h) <;> (try simp only [hc])
 | ((with_reducible first | refine leafR hQ ?_ | refine leafN hQ ?_); (try cases h); simp only [resL, oneD, Option.some.injEq, exists_eq_left', go_sem, hlt, hget, hpu, hinc, Int.reduceLE, ↓reduceIte, reduceCtorEq, Nat.reduceEqDiff, Nat.reduceLeDiff, Nat.reduceAdd, Nat.reduceMul, Nat.reduceSub, Nat.reduceLT, hroom]; repeat' (first | exact Ok.out | with_reducible refine And.intro ?_ ?_ | (simp; done)))
 | (cases h; replace h := hr; clear hr; (try simp only [bs, ↓reduceIte] at h))
 | (cases h; done))
    refine SemL.re _ _ 3 1 (by rw [hB]; exact Nat.le_of_ble_eq_true rfl) (by rw [hB]; exact Nat.le_of_ble_eq_true rfl) ?_ ?_ (IH (rest, acc.length + 1, acc ++ [⟨name, params, vars, (Sm.nums true m body).1, fin⟩], (Sm.nums true m body).2) ⟨g2, by simp, by rw [h3]; simp [Pc.nums], by dsimp only; omega⟩ (Nat.lt_succ_self _))
    · (simp only [go_sem, hlt, hget, hpu, hinc, Int.reduceLE, ↓reduceIte, reduceCtorEq, Nat.reduceEqDiff, Nat.reduceLeDiff, Nat.reduceAdd, Nat.reduceMul, Nat.reduceSub, Nat.reduceLT, wrap_inc hk]; repeat' (first | exact Ok.out | with_reducible refine And.intro ?_ ?_))
    · (simp only [go_sem, hlt, hget, hpu, hinc, Int.reduceLE, ↓reduceIte, reduceCtorEq, Nat.reduceEqDiff, Nat.reduceLeDiff, Nat.reduceAdd, Nat.reduceMul, Nat.reduceSub, Nat.reduceLT, wrap_inc hk]; repeat' (first | exact Ok.out | with_reducible refine And.intro ?_ ?_))

theorem Number_s {p q : Pg} (h : p.numberO = some q) (s : St) : Fun Try.prog n_tree_Number [.agg (encPg p)] s (.agg (encPg q)) s := by
  unfold Pg.numberO at h
  split at h
  · cases h; exact (Number_0 ‹_›).pure (by simp [D.oks, D.ok, okPg]) (by simp [D.ok, okPg]) s
  · cases h

end Go.Abs

/-! MirParse -/

namespace Go.Abs

def rd0 (l : List Tok) : Rd := ⟨l, 0, 0, 0, 0⟩

def parseM (m : Nat) (text : Str) : Option (Pg × Int × Int) :=
  if (lexAll text).2.1 != 0 then some (pg0, (lexAll text).2)
  else (Rd.program m (rd0 (lexAll text).1)).bind fun p => if p.2.code != 0 then some (pg0, p.2.code, p.2.fat) else (p.1.numberO).bind fun q => some (q, 0, 0)

def exprM (m : Nat) (text : Str) : Option (Ex × Int × Int) :=
  if (lexAll text).2.1 != 0 then some (ex0, (lexAll text).2)
  else (Rd.whole m (rd0 (lexAll text).1)).bind fun x => x.2.notEnd.bind fun b =>
    if b then (x.2.bad 3).bind fun r => if !r.good then some (ex0, r.code, r.fat) else some (x.1, 0, 0)
    else if !x.2.good then some (ex0, x.2.code, x.2.fat) else some (x.1, 0, 0)

end Go.Abs

/-! Prs7 -/

namespace Go.Abs

set_option maxRecDepth 8000
set_option linter.unusedSimpArgs false
set_option linter.unusedVariables false
open Go.Proofs

theorem program_s {m : Nat} {r : Rd} {p : Pg × Rd} (h : Rd.program m r = some p) {s : St} {o : Nat} (ho : s.objs[o]? = some (encRd r)) :
    Fun Try.prog n_parse_reader_program [.ptr o 0] s (.agg (encPg p.1)) ⟨s.objs.set o (encRd p.2), s.toks⟩ := by
  refine Fun.meth ?_ rfl (okRd r) (okRd p.2) (by simp [D.ok, okPg]) ho
  unfold Rd.program at h
  refine Fun.go has_parse_reader_program rfl fun B Q hB hQ => ?_
  have hlt : 0 < 1 := Nat.zero_lt_one
  have hget : 0 < 1 := Nat.zero_lt_one
  have hpu : 0 < 1 := Nat.zero_lt_one
  have hinc : 0 < 1 := Nat.zero_lt_one
  repeat' (first
 | simp only [go_sem, hlt, hget, hpu, hinc, Int.reduceLE, ↓reduceIte, reduceCtorEq, Nat.reduceEqDiff, Nat.reduceLeDiff, Nat.reduceAdd, Nat.reduceMul, Nat.reduceSub, Nat.reduceLT]
 | (with_reducible first | refine CB_ofT (by assumption) fun hc => ?_ | refine CB_ofF (by assumption) fun hc => ?_ | refine CB_split (fun hc => ?_) fun hc => ?_) <;> (try simp only [hc, bs, ↓reduceIte] at h) <;> (try simp only [hc])
 | ((with_reducible first | refine leafR hQ ?_ | refine leafN hQ ?_); (try cases h); simp only [resL, oneD, Option.some.injEq, exists_eq_left', go_sem, hlt, hget, hpu, hinc, Int.reduceLE, ↓reduceIte, reduceCtorEq, Nat.reduceEqDiff, Nat.reduceLeDiff, Nat.reduceAdd, Nat.reduceMul, Nat.reduceSub, Nat.reduceLT]; repeat' (first | exact Ok.out | with_reducible refine And.intro ?_ ?_ | (simp; done)))
 | (cases h; replace h := hr; clear hr; (try simp only [bs, ↓reduceIte] at h))
 | (cases h; done))
  rw [Option.bind_eq_some_iff] at h
  obtain ⟨q, h, hr⟩ := h
  refine SemL.tokO 2 0 1 rfl rfl ?_
  simp only [go_sem, hlt, hget, hpu, hinc, Int.reduceLE, ↓reduceIte, reduceCtorEq, Nat.reduceEqDiff, Nat.reduceLeDiff, Nat.reduceAdd, Nat.reduceMul, Nat.reduceSub, Nat.reduceLT]
  refine SemL.re _ _ 3 1 (by rw [hB]; exact Nat.le_of_ble_eq_true rfl) (by rw [hB]; exact Nat.le_of_ble_eq_true rfl) ?_ ?_ (SemL.ind (ι := Nat × List Str × Rd × Nat) (fun i => Rd.globals m i.1 i.2.1 i.2.2.1 = some q ∧ i.2.2.2 = i.2.1.length) (fun i => i.1)
    (fun i => [(0, .ptr 0 0), (2, .ptr 1 0), (3, .ptr 2 0)]) (fun i => ⟨[encRd i.2.2.1, [.slice .full 0 [], .slice .full 0 []], [.slice (.tok 0) 1 (i.2.1.map encStr), .slice .full 0 []]], [some i.2.2.2]⟩) ?_ (m, [], r, 0) ⟨h, rfl⟩)
  · (simp only [go_sem, hlt, hget, hpu, hinc, Int.reduceLE, ↓reduceIte, reduceCtorEq, Nat.reduceEqDiff, Nat.reduceLeDiff, Nat.reduceAdd, Nat.reduceMul, Nat.reduceSub, Nat.reduceLT]; repeat' (first | exact Ok.out | with_reducible refine And.intro ?_ ?_))
  · (simp only [go_sem, hlt, hget, hpu, hinc, Int.reduceLE, ↓reduceIte, reduceCtorEq, Nat.reduceEqDiff, Nat.reduceLeDiff, Nat.reduceAdd, Nat.reduceMul, Nat.reduceSub, Nat.reduceLT]; repeat' (first | exact Ok.out | with_reducible refine And.intro ?_ ?_))
  rintro ⟨n, l, r, k⟩ ⟨h, hk⟩ IH
  dsimp only at hk; subst hk
  cases n with
  | zero => simp only [Rd.globals] at h; cases h
  | succ n =>
    simp only [Rd.globals] at h
    repeat' (first
 | simp only [go_sem, hlt, hget, hpu, hinc, Int.reduceLE, ↓reduceIte, reduceCtorEq, Nat.reduceEqDiff, Nat.reduceLeDiff, Nat.reduceAdd, Nat.reduceMul, Nat.reduceSub, Nat.reduceLT]
 | (rw [Option.bind_eq_some_iff] at h; obtain ⟨_, h1, h⟩ := h; first | (with_reducible refine CU (take_s h1 (by with_unfolding_all rfl)) ?_) | (with_reducible refine CU (names_s h1 (by with_unfolding_all rfl) (by with_unfolding_all rfl)) ?_))
 | (with_reducible first | refine CB_ofT (by assumption) fun hc => ?_ | refine CB_ofF (by assumption) fun hc => ?_ | refine CB_split (fun hc => ?_) fun hc => ?_) <;> (try simp only [hc, bs, ↓reduceIte] at h) <;> (try simp only [hc])
 | ((with_reducible first | refine leafR hQ ?_ | refine leafN hQ ?_); (try cases h); simp only [resL, oneD, Option.some.injEq, exists_eq_left', go_sem, hlt, hget, hpu, hinc, Int.reduceLE, ↓reduceIte, reduceCtorEq, Nat.reduceEqDiff, Nat.reduceLeDiff, Nat.reduceAdd, Nat.reduceMul, Nat.reduceSub, Nat.reduceLT]; repeat' (first | exact Ok.out | with_reducible refine And.intro ?_ ?_ | (simp; done)))
 | (cases h; replace h := hr; clear hr; (try simp only [bs, ↓reduceIte] at h))
 | (cases h; done))
    · refine SemL.re _ _ 3 1 (by rw [hB]; exact Nat.le_of_ble_eq_true rfl) (by rw [hB]; exact Nat.le_of_ble_eq_true rfl) ?_ ?_ (IH (n, _, _, _) ⟨h, rfl⟩ (Nat.lt_succ_self _))
      · (simp only [go_sem, hlt, hget, hpu, hinc, Int.reduceLE, ↓reduceIte, reduceCtorEq, Nat.reduceEqDiff, Nat.reduceLeDiff, Nat.reduceAdd, Nat.reduceMul, Nat.reduceSub, Nat.reduceLT]; repeat' (first | exact Ok.out | with_reducible refine And.intro ?_ ?_))
      · (simp only [go_sem, hlt, hget, hpu, hinc, Int.reduceLE, ↓reduceIte, reduceCtorEq, Nat.reduceEqDiff, Nat.reduceLeDiff, Nat.reduceAdd, Nat.reduceMul, Nat.reduceSub, Nat.reduceLT]; repeat' (first | exact Ok.out | with_reducible refine And.intro ?_ ?_))
    · refine SemL.re _ _ 3 0 (by rw [hB]; exact Nat.le_of_ble_eq_true rfl) (by rw [hB]; exact Nat.le_of_ble_eq_true rfl) ?_ ?_ (program_tail hB hQ _ h)
      · (simp only [go_sem, hlt, hget, hpu, hinc, Int.reduceLE, ↓reduceIte, reduceCtorEq, Nat.reduceEqDiff, Nat.reduceLeDiff, Nat.reduceAdd, Nat.reduceMul, Nat.reduceSub, Nat.reduceLT]; repeat' (first | exact Ok.out | with_reducible refine And.intro ?_ ?_))
      · (simp only [go_sem, hlt, hget, hpu, hinc, Int.reduceLE, ↓reduceIte, reduceCtorEq, Nat.reduceEqDiff, Nat.reduceLeDiff, Nat.reduceAdd, Nat.reduceMul, Nat.reduceSub, Nat.reduceLT]; repeat' (first | exact Ok.out | with_reducible refine And.intro ?_ ?_))

theorem Parse_s {m : Nat} {text : Str} {p : Pg × Int × Int} (h : parseM m text = some p) (hl : text.length < 4611686018427387904) (s : St) :
    Fun Try.prog n_parse_Parse [.str text] s (.tuple [.agg (encPg p.1), .agg (encF p.2)]) s := by
  refine Fun.pure ?_ rfl (by simp [D.ok, D.oks, okPg, encF]) s
  unfold parseM at h
  have hlex := all_s text hl
  generalize lexAll text = t at h hlex
  unfold S0
  refine Fun.go has_parse_Parse rfl fun B Q hB hQ => ?_
  have hlt : 0 < 1 := Nat.zero_lt_one
  have hget : 0 < 1 := Nat.zero_lt_one
  have hpu : 0 < 1 := Nat.zero_lt_one
  have hinc : 0 < 1 := Nat.zero_lt_one
  repeat' (first
 | simp only [go_sem, hlt, hget, hpu, hinc, Int.reduceLE, ↓reduceIte, reduceCtorEq, Nat.reduceEqDiff, Nat.reduceLeDiff, Nat.reduceAdd, Nat.reduceMul, Nat.reduceSub, Nat.reduceLT, rd0]
 | (rw [Option.bind_eq_some_iff] at h; obtain ⟨_, h1, h⟩ := h; first | (with_reducible refine CU (program_s h1 (by with_unfolding_all rfl)) ?_) | (with_reducible refine CU (Number_s h1 _) ?_))
 | (with_reducible refine CU (hlex _) ?_)
 | (with_reducible first | refine CB_ofT (by assumption) fun hc => ?_ | refine CB_ofF (by assumption) fun hc => ?_ | refine CB_split (fun hc => ?_) fun hc => ?_) <;> (try simp only [hc, bs, ↓reduceIte] at h) <;> (try simp only [hc])
 | ((with_reducible first | refine leafR hQ ?_ | refine leafN hQ ?_); (try cases h); simp only [resL, oneD, Option.some.injEq, exists_eq_left', go_sem, hlt, hget, hpu, hinc, Int.reduceLE, ↓reduceIte, reduceCtorEq, Nat.reduceEqDiff, Nat.reduceLeDiff, Nat.reduceAdd, Nat.reduceMul, Nat.reduceSub, Nat.reduceLT, rd0]; repeat' (first | exact Ok.out | with_reducible refine And.intro ?_ ?_ | (simp; done)))
 | (cases h; replace h := hr; clear hr; (try simp only [bs, ↓reduceIte] at h))
 | (cases h; done))

theorem Expr_s {m : Nat} {text : Str} {p : Ex × Int × Int} (h : exprM m text = some p) (hl : text.length < 4611686018427387904) (s : St) :
    Fun Try.prog n_parse_Expr [.str text] s (.tuple [.agg (encEx p.1), .agg (encF p.2)]) s := by
  refine Fun.pure ?_ rfl (by simp [D.ok, D.oks, okEx, encF]) s
  unfold exprM Rd.notEnd at h
  have hlex := all_s text hl
  generalize lexAll text = t at h hlex
  unfold S0
  refine Fun.go has_parse_Expr rfl fun B Q hB hQ => ?_
  have hlt : 0 < 1 := Nat.zero_lt_one
  have hget : 0 < 1 := Nat.zero_lt_one
  have hpu : 0 < 1 := Nat.zero_lt_one
  have hinc : 0 < 1 := Nat.zero_lt_one
  repeat' (first
 | simp only [go_sem, hlt, hget, hpu, hinc, Int.reduceLE, ↓reduceIte, reduceCtorEq, Nat.reduceEqDiff, Nat.reduceLeDiff, Nat.reduceAdd, Nat.reduceMul, Nat.reduceSub, Nat.reduceLT, rd0]
 | (rw [Option.bind_eq_some_iff] at h; obtain ⟨_, h1, h⟩ := h; first | (with_reducible refine CU (whole_s h1 (by with_unfolding_all rfl)) ?_) | (with_reducible refine CU (peek_s h1 (by with_unfolding_all rfl)) ?_) | (with_reducible refine CU (bad_s h1 (by with_unfolding_all rfl)) ?_))
 | (with_reducible refine CU (hlex _) ?_)
 | (with_reducible refine CU (good_s (by with_unfolding_all rfl)) ?_)
 | (with_reducible first | refine CB_ofT (by assumption) fun hc => ?_ | refine CB_ofF (by assumption) fun hc => ?_ | refine CB_split (fun hc => ?_) fun hc => ?_) <;> (try simp only [hc, bs, ↓reduceIte] at h) <;> (try simp only [hc])
 | ((with_reducible first | refine leafR hQ ?_ | refine leafN hQ ?_); (try cases h); simp only [resL, oneD, Option.some.injEq, exists_eq_left', go_sem, hlt, hget, hpu, hinc, Int.reduceLE, ↓reduceIte, reduceCtorEq, Nat.reduceEqDiff, Nat.reduceLeDiff, Nat.reduceAdd, Nat.reduceMul, Nat.reduceSub, Nat.reduceLT, rd0]; repeat' (first | exact Ok.out | with_reducible refine And.intro ?_ ?_ | (simp; done)))
 | (cases h; replace h := hr; clear hr; (try simp only [bs, ↓reduceIte] at h))
 | (cases h; done))

end Go.Abs

/-! Tot -/

namespace Go.Abs
set_option linter.unusedSimpArgs false
set_option linter.unusedVariables false

/-- There is a result, and this holds of it. -/
def Tt {α : Type} (o : Option α) (Q : α → Prop) : Prop := ∃ a, o = some a ∧ Q a
theorem Tt.bind {α β : Type} {o : Option α} {f : α → Option β} {Q : α → Prop} {R : β → Prop} (h : Tt o Q) (k : ∀ a, Q a → Tt (f a) R) : Tt (o.bind f) R := by
  obtain ⟨a, rfl, hq⟩ := h
  exact k a hq
theorem Tt.mono {α : Type} {o : Option α} {Q R : α → Prop} (h : Tt o Q) (k : ∀ a, Q a → R a) : Tt o R := by
  obtain ⟨a, e, hq⟩ := h
  exact ⟨a, e, k a hq⟩
theorem Tt.some {α : Type} {a : α} {Q : α → Prop} (h : Q a) : Tt (some a) Q := ⟨a, rfl, h⟩
theorem Tt.ite {α : Type} {c : Prop} [Decidable c] {a b : Option α} {Q : α → Prop} (h1 : c → Tt a Q) (h2 : ¬ c → Tt b Q) : Tt (if c then a else b) Q := by
  by_cases h : c
  · rw [if_pos h]; exact h1 h
  · rw [if_neg h]; exact h2 h

structure Rd.Ok (r : Rd) : Prop where
  k : ∀ t ∈ r.l, 0 ≤ t.kind ∧ t.kind ≤ 4
  lt : r.i < r.l.length
  len : r.l.length ≤ 2001
  last : ∀ t, r.l[r.l.length - 1]? = some t → t.kind = 0
  n1 : r.n ≤ 201

/-- From one reader to a later one. -/
structure Rd.To (r r' : Rd) : Prop where
  ok : r'.Ok
  l : r'.l = r.l
  i : r.i ≤ r'.i
  g : r'.good = true → r.good = true
  s : r.good = false → r' = r
structure Rd.ToE (r r' : Rd) : Prop where
  to : r.To r'
  n : r'.n = r.n

theorem Rd.To.refl {r : Rd} (h : r.Ok) : r.To r := ⟨h, rfl, Nat.le_refl _, id, fun _ => rfl⟩
theorem Rd.To.trans {a b c : Rd} (h : a.To b) (k : b.To c) : a.To c :=
  ⟨k.ok, k.l.trans h.l, Nat.le_trans h.i k.i, fun g => h.g (k.g g), fun g => by have := h.s g; subst this; exact k.s g⟩
theorem Rd.ToE.refl {r : Rd} (h : r.Ok) : r.ToE r := ⟨.refl h, rfl⟩
theorem Rd.ToE.trans {a b c : Rd} (h : a.ToE b) (k : b.ToE c) : a.ToE c := ⟨h.to.trans k.to, k.n.trans h.n⟩

theorem peek_t {r : Rd} (h : r.Ok) : Tt r.peek fun t => r.l[r.i]? = some t ∧ 0 ≤ t.kind ∧ t.kind ≤ 4 ∧ (t.kind ≠ 0 → r.i + 1 < r.l.length) := by
  have hlt := h.lt
  have hget : r.l[r.i]? = some r.l[r.i] := List.getElem?_eq_getElem hlt
  have hk := h.k _ (List.getElem_mem hlt)
  refine ⟨r.l[r.i], ?_, hget, hk.1, hk.2, fun hz => ?_⟩
  · have : r.i < 4611686018427387904 := by have := h.len; omega
    simp only [Rd.peek, getO, this, ↓reduceIte, hget, Option.bind_some, hk.1, hk.2, decide_true, Bool.and_self]
  · rcases Nat.lt_or_ge (r.i + 1) r.l.length with h1 | h1
    · exact h1
    · have : r.i = r.l.length - 1 := by omega
      have := h.last r.l[r.i] (by rw [← this]; exact hget)
      exact absurd this hz

theorem Rd.Ok.on {r : Rd} (h : r.Ok) (hi : r.i + 1 < r.l.length) : ({ r with i := r.i + 1 } : Rd).Ok := ⟨h.k, hi, h.len, h.last, h.n1⟩
theorem Rd.ToE.on {r : Rd} (h : r.Ok) (hg : r.good = true) (hi : r.i + 1 < r.l.length) : r.ToE { r with i := r.i + 1 } :=
  ⟨⟨h.on hi, rfl, Nat.le_succ _, fun _ => hg, fun h' => by rw [hg] at h'; cases h'⟩, rfl⟩
theorem Rd.Ok.fault {r : Rd} (h : r.Ok) (c f : Int) : ({ r with code := c, fat := f } : Rd).Ok ∨ c = 0 := by
  by_cases hc : c = 0
  · exact .inr hc
  · exact .inl ⟨h.k, h.lt, h.len, h.last, h.n1⟩

theorem bad_t {r : Rd} (h : r.Ok) {c : Int} (hc : c ≠ 0) : Tt (r.bad c) fun r' => r.ToE r' ∧ r'.good = false ∧ r'.i = r.i := by
  unfold Rd.bad
  refine Tt.ite (fun hg => ?_) (fun hg => ?_)
  · refine (peek_t h).bind fun t ht => Tt.some ?_
    have hf : ({ r with code := c, fat := t.pos } : Rd).good = false := by simp [Rd.good, hc]
    refine ⟨⟨⟨?_, rfl, Nat.le_refl _, fun h' => (by rw [hf] at h'; cases h'), fun h' => (by rw [hg] at h'; cases h')⟩, rfl⟩, hf, rfl⟩
    rcases h.fault c t.pos with h1 | h1
    · exact h1
    · exact absurd h1 hc
  · have : r.good = false := by simpa using hg
    exact Tt.some ⟨.refl h, this, rfl⟩

theorem is_t {r : Rd} (h : r.Ok) (s : Str) : Tt (r.is s) fun b => b = true → r.i + 1 < r.l.length := by
  unfold Rd.is
  refine (peek_t h).bind fun t ht => Tt.some fun hb => ht.2.2.2 ?_
  simp only [Bool.and_eq_true, Bool.or_eq_true, beq_iff_eq] at hb
  omega

theorem take_t {r : Rd} (h : r.Ok) (s : Str) : Tt (r.take s) fun p => r.ToE p.2 ∧ (p.1 = true → p.2.i = r.i + 1 ∧ r.good = true ∧ p.2.good = true) ∧ (p.1 = false → p.2 = r) := by
  unfold Rd.take
  refine Tt.ite (fun hg => ?_) (fun hg => ?_)
  · exact Tt.some ⟨.refl h, by simp, by simp⟩
  · have hg' : r.good = true := by simpa using hg
    refine (is_t h s).bind fun b hb => Tt.ite (fun hc => Tt.some ⟨.refl h, by simp, by simp⟩) (fun hc => Tt.some ?_)
    have hbt : b = true := by simpa using hc
    exact ⟨.on h hg' (hb hbt), fun _ => ⟨rfl, hg', hg'⟩, by simp⟩

theorem want_t {r : Rd} (h : r.Ok) (s : Str) : Tt (r.want s) fun r' => r.ToE r' ∧ (r'.good = true → r'.i = r.i + 1) := by
  unfold Rd.want
  refine (take_t h s).bind fun p hp => Tt.ite (fun hc => ?_) (fun hc => ?_)
  · have : p.1 = false := by simpa using hc
    have e := hp.2.2 this
    rw [e]
    exact (bad_t h (by decide)).mono fun r' hr => ⟨hr.1, fun hg => by rw [hr.2.1] at hg; cases hg⟩
  · have : p.1 = true := by simpa using hc
    exact Tt.some ⟨hp.1, fun _ => (hp.2.1 this).1⟩

/-! ### Expressions -/

def ExT (r : Rd) (p : Ex × Rd) : Prop := r.ToE p.2 ∧ (p.2.good = true → p.1.size + 3 + 4 * r.i ≤ 4 * p.2.i)

theorem ex0_size : ex0.size = 1 := rfl

theorem expr_t : ∀ n : Nat,
    (∀ r : Rd, r.Ok → 3 * (r.l.length - r.i) + 1 ≤ n → Tt (Rd.one n r) (ExT r)) ∧
    (∀ (r : Rd) (k : Int), r.Ok → 3 * (r.l.length - r.i) + 2 ≤ n → Tt (Rd.two n k r) (ExT r)) ∧
    (∀ (r : Rd) (k : Int) (x : Ex), r.Ok → 3 * (r.l.length - r.i) + 1 ≤ n → Tt (Rd.twoL n k x r) fun p => r.ToE p.2 ∧ (p.2.good = true → p.1.size + 4 * r.i ≤ x.size + 4 * p.2.i)) := by
  intro n
  induction n with
  | zero => exact ⟨fun r _ h => by omega, fun r k _ h => by omega, fun r k x _ h => by omega⟩
  | succ n ih =>
  obtain ⟨ih1, ih2, ih3⟩ := ih
  refine ⟨fun r h hn => ?_, fun r k h hn => ?_, fun r k x h hn => ?_⟩
  · have hlt := h.lt
    simp only [Rd.one]
    refine (peek_t h).bind fun t ht => Tt.ite (fun hg => ?_) (fun hg => ?_)
    · have hg : r.good = false := by simpa using hg
      exact Tt.some ⟨.refl h, fun h' => by simp only [hg] at h'; cases h'⟩
    have hg : r.good = true := by simpa using hg
    refine Tt.ite (fun hk => ?_) (fun hk => Tt.ite (fun hk2 => ?_) (fun hk2 => ?_))
    · simp only [beq_iff_eq] at hk
      refine Tt.some ⟨.on h hg (ht.2.2.2 (by omega)), fun _ => ?_⟩
      simp only [Ex.size, Ex.sizes]; omega
    · simp only [beq_iff_eq] at hk2
      refine Tt.some ⟨.on h hg (ht.2.2.2 (by omega)), fun _ => ?_⟩
      simp only [Ex.size, Ex.sizes]; omega
    refine (take_t h _).bind fun p hp => Tt.ite (fun hc => ?_) (fun hc => ?_)
    · obtain ⟨e1, e2, e3⟩ := hp.2.1 hc
      have hl := hp.1.to.l
      have hi := hp.1.to.ok.lt
      refine (ih2 p.2 1 hp.1.to.ok (by rw [hl, e1]; rw [hl, e1] at hi; omega)).bind fun x hx => ?_
      refine (want_t hx.1.to.ok _).bind fun r2 hr2 => Tt.some ⟨hp.1.trans (hx.1.trans hr2.1), fun hgo => ?_⟩
      have := hx.2 (hr2.1.to.g hgo)
      have := hr2.2 hgo
      dsimp only
      omega
    · have hpf : p.1 = false := by simpa using hc
      rw [hp.2.2 hpf]
      refine (take_t h _).bind fun p hp => Tt.ite (fun hc => ?_) (fun hc => ?_)
      · obtain ⟨e1, e2, e3⟩ := hp.2.1 hc
        have hl := hp.1.to.l
        have hi := hp.1.to.ok.lt
        refine (ih1 p.2 hp.1.to.ok (by rw [hl, e1]; rw [hl, e1] at hi; omega)).bind fun x hx => Tt.some ⟨hp.1.trans hx.1, fun hgo => ?_⟩
        have := hx.2 hgo
        simp only [Ex.size, Ex.sizes]
        omega
      · have hpf : p.1 = false := by simpa using hc
        rw [hp.2.2 hpf]
        refine (take_t h _).bind fun p hp => Tt.ite (fun hc => ?_) (fun hc => ?_)
        · obtain ⟨e1, e2, e3⟩ := hp.2.1 hc
          have hl := hp.1.to.l
          have hi := hp.1.to.ok.lt
          refine (ih1 p.2 hp.1.to.ok (by rw [hl, e1]; rw [hl, e1] at hi; omega)).bind fun x hx => Tt.some ⟨hp.1.trans hx.1, fun hgo => ?_⟩
          have := hx.2 hgo
          simp only [Ex.size, Ex.sizes]
          omega
        · have hpf : p.1 = false := by simpa using hc
          rw [hp.2.2 hpf]
          exact (bad_t h (by decide)).bind fun r' hr => Tt.some ⟨hr.1, fun hg => by simp only [hr.2.1] at hg; cases hg⟩
  · simp only [Rd.two]
    refine (ih1 r h (by omega)).bind fun x hx => ?_
    have hl := hx.1.to.l
    have hi := hx.1.to.i
    refine (ih3 x.2 k x.1 hx.1.to.ok (by rw [hl]; omega)).mono fun p hp => ⟨hx.1.trans hp.1, fun hg => ?_⟩
    have h1 := hp.2 hg
    have h2 := hx.2 (hp.1.to.g hg)
    omega
  · have hlt := h.lt
    simp only [Rd.twoL]
    refine Tt.ite (fun hg => ?_) (fun hg => Tt.some ⟨.refl h, fun _ => Nat.le_refl _⟩)
    refine (peek_t h).bind fun t ht => Tt.ite (fun hc => Tt.some ⟨.refl h, fun _ => Nat.le_refl _⟩) (fun hc => ?_)
    have hk : t.kind ≠ 0 := fun e => hc (by
      have : opOf t = (0, 0) := by simp [opOf, e]
      simp [this])
    have hon := Rd.ToE.on h hg (ht.2.2.2 hk)
    have hi := hon.to.ok.lt
    refine (ih2 _ _ hon.to.ok (by dsimp only at hi ⊢; omega)).bind fun y hy => ?_
    have hl2 := hy.1.to.l
    have hi2 := hy.1.to.i
    have hi3 := hy.1.to.ok.lt
    dsimp only at hl2 hi2
    refine (ih3 y.2 k _ hy.1.to.ok (by rw [hl2] at hi3 ⊢; omega)).mono fun p hp => ⟨hon.trans (hy.1.trans hp.1), fun hgo => ?_⟩
    have h1 := hp.2 hgo
    have h2 := hy.2 (hp.1.to.g hgo)
    simp only [Ex.size, Ex.sizes] at h1
    dsimp only at h2
    omega

/-- Fuel that is enough for a whole expression. -/
theorem whole_t {n : Nat} {r : Rd} (h : r.Ok) (hn : 6006 ≤ n) : Tt (Rd.whole n r) (ExT r) := by
  have hlen := h.len
  unfold Rd.whole
  refine (peek_t h).bind fun t ht => ((expr_t n).2.1 r 1 h (by omega)).bind fun x hx => Tt.ite (fun hg => ?_) (fun hg => Tt.some ?_)
  · have hs := hx.2 hg
    have hi := hx.1.to.ok.lt
    have hl := hx.1.to.ok.len
    have hsz : x.1.size < 4611686018427387904 := by omega
    simp only [depthO, hsz, ↓reduceIte, Option.bind_some]
    refine Tt.ite (fun hd => Tt.some ?_) (fun hd => Tt.some hx)
    have hf : ({ x.2 with code := 4, fat := t.pos } : Rd).good = false := rfl
    refine ⟨⟨⟨?_, hx.1.to.l, hx.1.to.i, fun h' => (by rw [hf] at h'; cases h'), fun h' => ?_⟩, hx.1.n⟩, fun h' => by rw [hf] at h'; cases h'⟩
    · rcases hx.1.to.ok.fault 4 t.pos with h1 | h1
      · exact h1
      · cases h1
    · have := hx.1.to.s h'
      rw [this] at hg
      rw [hg] at h'
      cases h'
  · exact hx

end Go.Abs

/-! Tot2 -/

namespace Go.Abs
set_option linter.unusedSimpArgs false
set_option linter.unusedVariables false

def StT (r : Rd) (p : Sm × Rd) : Prop := r.ToE p.2 ∧ (p.2.good = true → p.1.size + 1 + 8 * r.i ≤ 8 * p.2.i)

end Go.Abs

/-! Tot3 -/

namespace Go.Abs
set_option linter.unusedSimpArgs false
set_option linter.unusedVariables false

/-- What statements leave. -/
structure StQ (r r' : Rd) : Prop where
  to : r.To r'
  n : r'.good = true → r'.n ≤ 200

def RowsT (r : Rd) (p : (List Sm × List Str) × Rd) : Prop := StQ r p.2 ∧ (p.2.good = true → Sm.sizes p.1.1 + p.1.2.length + 8 * r.i ≤ 8 * p.2.i)

theorem notEnd_t {r : Rd} (h : r.Ok) : Tt r.notEnd fun b => b = true → r.good = true := by
  unfold Rd.notEnd
  exact Tt.ite (fun hg => (peek_t h).bind fun t _ => Tt.some fun _ => hg) (fun hg => Tt.some (by simp))

/-! ### The lexer's tokens -/

def TokOk (t : Tok) : Prop := 1 ≤ t.kind ∧ t.kind ≤ 4

theorem tokE_ok {pos : Nat} {s : Str} {t : Tok} (h : tokE pos s = .inl t) : TokOk t := by
  cases s with
  | nil => simp only [tokE] at h; cases h
  | cons c r =>
    simp only [tokE] at h
    split at h
    · split at h
      · cases h
      · cases h; simp only [TokOk]; split <;> omega
    · split at h
      · split at h
        · cases h
        · split at h
          · cases h; simp [TokOk]
          · cases h
      · split at h
        · cases h
        · cases h; simp [TokOk]

theorem lexF_ok : ∀ (n pos : Nat) (s : Str) (out : List Tok), s.length < n → out.length ≤ 2000 → (∀ t ∈ out, TokOk t) →
    (lexF n pos s out).2.1 = 0 → ∃ l e, (lexF n pos s out).1 = l ++ [e] ∧ e.kind = 0 ∧ l.length ≤ 2000 ∧ ∀ t ∈ l, TokOk t := by
  intro n
  induction n with
  | zero => intro pos s out h; omega
  | succ n ih =>
    intro pos s out hn ho hok h
    cases s with
    | nil => exact ⟨out, ⟨0, [], 0, pos⟩, by simp [lexF], rfl, ho, hok⟩
    | cons c r =>
      simp only [List.length_cons] at hn
      simp only [lexF] at h ⊢
      split
      · rename_i hb
        rw [if_pos hb] at h
        exact ih _ _ _ (by omega) ho hok h
      · rename_i hb
        rw [if_neg hb] at h
        split
        · rename_i hc
          rw [if_pos hc] at h
          have hpos : 0 < lineL (c :: r) := by
            have : ((c.toNat : Int) != 10) = true := by simp only [beq_iff_eq] at hc; simp [hc]
            simp [lineL, this]
          exact ih _ _ _ (by rw [List.length_drop, List.length_cons]; omega) ho hok h
        · rename_i hc
          rw [if_neg hc] at h
          cases ht : tokE pos (c :: r) with
          | inr e =>
            simp only [ht] at h
            exfalso
            have : e = 2 ∨ e = 4 := by
              simp only [tokE] at ht
              repeat' split at ht
              all_goals first | (cases ht; simp; done) | cases ht
            omega
          | inl t =>
            simp only [ht] at h ⊢
            split
            · rename_i h2
              rw [if_pos h2] at h
              cases h
            · rename_i h2
              rw [if_neg h2] at h
              have hpos : 0 < t.text.length := by
                have : ∀ s : Str, t.text = s → 0 < s.length → 0 < t.text.length := fun s e h => by rw [e]; exact h
                simp only [tokE] at ht
                cases hL : isL c
                · simp only [hL, Bool.false_eq_true, ↓reduceIte] at ht
                  cases hD : isD c
                  · simp only [hD, Bool.false_eq_true, ↓reduceIte] at ht
                    split at ht
                    · cases ht
                    · cases ht; simp only [List.length_take, List.length_cons]; omega
                  · have k0 : 0 < runD (c :: r) := by simp [runD, hD]
                    simp only [hD, ↓reduceIte] at ht
                    split at ht
                    · cases ht
                    · split at ht
                      · cases ht; simp only [List.length_take, List.length_cons]; omega
                      · cases ht
                · have k0 : 0 < runL (c :: r) := by simp [runL, hL]
                  simp only [hL, ↓reduceIte] at ht
                  split at ht
                  · cases ht
                  · cases ht; simp only [List.length_take, List.length_cons]; omega
              refine ih _ _ _ (by rw [List.length_drop, List.length_cons]; omega) (by simp; omega) ?_ h
              intro t' ht'
              rcases List.mem_append.1 ht' with h3 | h3
              · exact hok t' h3
              · simp at h3; subst h3; exact tokE_ok ht

theorem lexAll_ok {text : Str} (h : (lexAll text).2.1 = 0) : (rd0 (lexAll text).1).Ok := by
  unfold lexAll at h ⊢
  split at h
  · cases h
  · rename_i hl
    rw [if_neg hl]
    obtain ⟨l, e, h1, h2, h3, h4⟩ := lexF_ok _ 0 text [] (Nat.lt_succ_self _) (Nat.zero_le _) (by simp) h
    rw [h1]
    refine ⟨fun t ht => ?_, by simp [rd0], by simp [rd0]; omega, fun t ht => ?_, by simp [rd0]⟩
    · simp only [rd0] at ht
      rcases List.mem_append.1 ht with h5 | h5
      · have := h4 t h5; simp only [TokOk] at this; omega
      · simp at h5; subst h5; omega
    · simp only [rd0, List.length_append, List.length_singleton, Nat.add_sub_cancel] at ht
      rw [List.getElem?_append_right (Nat.le_refl _)] at ht
      simp at ht
      subst ht
      exact h2

/-! ### Texts -/

def fuelM : Nat := 20000

theorem exprM_t (text : Str) : Tt (exprM fuelM text) fun p => p.1.size < 100000 := by
  unfold exprM
  refine Tt.ite (fun hz => Tt.some (by rw [ex0_size]; decide)) (fun hz => ?_)
  have h0 : (lexAll text).2.1 = 0 := by simpa using hz
  have hok := lexAll_ok h0
  refine (whole_t hok (by decide)).bind fun x hx => (notEnd_t hx.1.to.ok).bind fun b hb => Tt.ite (fun _ => ?_) (fun _ => Tt.ite (fun _ => Tt.some (by rw [ex0_size]; decide)) (fun hg => Tt.some ?_))
  · refine (bad_t hx.1.to.ok (by decide)).bind fun r hr => Tt.ite (fun _ => Tt.some (by rw [ex0_size]; decide)) (fun hg => ?_)
    rw [hr.2.1] at hg
    exact absurd rfl hg
  · have hg : x.2.good = true := by simpa using hg
    have h1 := hx.2 hg
    have h2 := hx.1.to.ok.lt
    have h3 := hx.1.to.ok.len
    dsimp only
    omega

end Go.Abs

/-! Parsed2 -/

namespace Go.Abs

set_option maxRecDepth 8000
set_option linter.unusedSimpArgs false
set_option linter.unusedVariables false
open Go.Proofs

theorem parse_source : parseM fuelM source = some (some0, 0, 0) := by kernel_rfl
theorem expr_one : exprM fuelM [49, 32, 43, 32, 97] = some (exTwo 8 (exNum 1) (exName [97]), 0, 0) := by kernel_rfl
theorem source_len : source.length < 4611686018427387904 := by simp [source]
theorem one_len : ([49, 32, 43, 32, 97] : Str).length < 4611686018427387904 := by decide
theorem some0_ble : Nat.ble (some0.size + 1) 1000 = true := by kernel_rfl
theorem some0_size : some0.size < 1073741824 := Nat.lt_of_lt_of_le (Nat.le_of_ble_eq_true some0_ble) (Nat.le_of_ble_eq_true rfl)

theorem parsed_0 (s : St) : Fun Try.prog n_law4_parsed [] s (.bool true) s := by
  refine Fun.pure ?_ rfl rfl s
  have h1 := fun s => Parse_s parse_source source_len s
  have h2 := fun s => Expr_s expr_one one_len s
  have h3 := fun s => Eq_s (b := some0) some0_size s
  rw [Pg.beq_refl] at h3
  have z0 : ((0 : Int) == 0) = true := rfl
  have z8 : ((8 : Int) == 8) = true := rfl
  have z2 : ((2 : Int) == 2) = true := rfl
  unfold S0
  refine Fun.go has_law4_parsed rfl fun B Q hB hQ => ?_
  have hlt : 0 < 1 := Nat.zero_lt_one
  have hget : 0 < 1 := Nat.zero_lt_one
  have hpu : 0 < 1 := Nat.zero_lt_one
  have hinc : 0 < 1 := Nat.zero_lt_one
  repeat' (first
 | simp only [go_sem, hlt, hget, hpu, hinc, Int.reduceLE, ↓reduceIte, reduceCtorEq, Nat.reduceEqDiff, Nat.reduceLeDiff, Nat.reduceAdd, Nat.reduceMul, Nat.reduceSub, Nat.reduceLT, z0, z8, z2, exTwo, Int.cast_ofNat_Int]
 | (with_reducible refine CU (Source_s _) ?_)
 | (with_reducible refine CU (Some_s _) ?_)
 | (with_reducible refine CU (h1 _) ?_)
 | (with_reducible refine CU (h2 _) ?_)
 | (with_reducible refine CU (h3 _) ?_)
 | (with_reducible first | refine CB_ofT (by assumption) fun hc => ?_ | refine CB_ofF (by assumption) fun hc => ?_ | refine CB_split (fun hc => ?_) fun hc => ?_) <;> (try simp only [hc, bs, ↓reduceIte] at h) <;> (try simp only [hc])
 | ((with_reducible first | refine leafR hQ ?_ | refine leafN hQ ?_); (try cases h); simp only [resL, oneD, Option.some.injEq, exists_eq_left', go_sem, hlt, hget, hpu, hinc, Int.reduceLE, ↓reduceIte, reduceCtorEq, Nat.reduceEqDiff, Nat.reduceLeDiff, Nat.reduceAdd, Nat.reduceMul, Nat.reduceSub, Nat.reduceLT, z0, z8, z2, exTwo, Int.cast_ofNat_Int]; repeat' (first | exact Ok.out | with_reducible refine And.intro ?_ ?_ | (simp; done)))
 | (cases h; replace h := hr; clear hr; (try simp only [bs, ↓reduceIte] at h))
 | (cases h; done))

end Go.Abs

/-! Room1 -/

namespace Go.Abs

set_option maxRecDepth 8000
set_option linter.unusedSimpArgs false
set_option linter.unusedVariables false
open Go.Proofs

def modM (n k : Int) : Int := if Int.tmod n k < 0 then Int.tmod n k + k else Int.tmod n k
theorem modM_lt (n : Int) {k : Int} (hk : 1 ≤ k) : 0 ≤ modM n k ∧ modM n k < k := by
  unfold modM
  have h1 := Int.tmod_lt_of_pos n (by omega : 0 < k)
  have h2 := Int.lt_tmod_of_pos n (by omega : 0 < k)
  split <;> omega

theorem Mod_s (n : Int) {k : Int} (hk : 1 ≤ k) (hk2 : k < 1000000) (s : St) : Fun Try.prog n_ref3_Mod [.int .i64 n, .int .i64 k] s (.int .i64 (modM n k)) s := by
  refine Fun.pure ?_ rfl rfl s
  have h1 := Int.tmod_lt_of_pos n (by omega : 0 < k)
  have h2 := Int.lt_tmod_of_pos n (by omega : 0 < k)
  have c1 : decide (k < 1) = false := by simp; omega
  have w1 : IntKind.wrap .i64 (Int.tmod n k) = Int.tmod n k := wrap_ok (by omega) (by omega)
  have w2 : IntKind.wrap .i64 (Int.tmod n k + k) = Int.tmod n k + k := wrap_ok (by omega) (by omega)
  have k0 : (k = 0) = False := by simp; omega
  unfold S0
  by_cases hm : Int.tmod n k < 0
  · have c2 : decide (Int.tmod n k < 0) = true := by simp; omega
    rw [show modM n k = Int.tmod n k + k from if_pos hm]
    refine Fun.go has_ref3_Mod rfl fun B Q hB hQ => ?_
    have hlt : 0 < 1 := Nat.zero_lt_one
    have hget : 0 < 1 := Nat.zero_lt_one
    have hpu : 0 < 1 := Nat.zero_lt_one
    have hinc : 0 < 1 := Nat.zero_lt_one
    repeat' (first
 | simp only [go_sem, hlt, hget, hpu, hinc, Int.reduceLE, ↓reduceIte, reduceCtorEq, Nat.reduceEqDiff, Nat.reduceLeDiff, Nat.reduceAdd, Nat.reduceMul, Nat.reduceSub, Nat.reduceLT, c1, c2, w1, w2, k0]
 | (with_reducible first | refine CB_ofT (by assumption) fun hc => ?_ | refine CB_ofF (by assumption) fun hc => ?_ | refine CB_split (fun hc => ?_) fun hc => ?_) <;> (try simp only [hc, bs, ↓reduceIte] at h) <;> (try simp only [hc])
 | ((with_reducible first | refine leafR hQ ?_ | refine leafN hQ ?_); (try cases h); simp only [resL, oneD, Option.some.injEq, exists_eq_left', go_sem, hlt, hget, hpu, hinc, Int.reduceLE, ↓reduceIte, reduceCtorEq, Nat.reduceEqDiff, Nat.reduceLeDiff, Nat.reduceAdd, Nat.reduceMul, Nat.reduceSub, Nat.reduceLT, c1, c2, w1, w2, k0]; repeat' (first | exact Ok.out | with_reducible refine And.intro ?_ ?_ | (simp; done)))
 | (cases h; replace h := hr; clear hr; (try simp only [bs, ↓reduceIte] at h))
 | (cases h; done))
  · have c2 : decide (Int.tmod n k < 0) = false := by simp; omega
    rw [show modM n k = Int.tmod n k from if_neg hm]
    refine Fun.go has_ref3_Mod rfl fun B Q hB hQ => ?_
    have hlt : 0 < 1 := Nat.zero_lt_one
    have hget : 0 < 1 := Nat.zero_lt_one
    have hpu : 0 < 1 := Nat.zero_lt_one
    have hinc : 0 < 1 := Nat.zero_lt_one
    repeat' (first
 | simp only [go_sem, hlt, hget, hpu, hinc, Int.reduceLE, ↓reduceIte, reduceCtorEq, Nat.reduceEqDiff, Nat.reduceLeDiff, Nat.reduceAdd, Nat.reduceMul, Nat.reduceSub, Nat.reduceLT, c1, c2, w1, w2, k0]
 | (with_reducible first | refine CB_ofT (by assumption) fun hc => ?_ | refine CB_ofF (by assumption) fun hc => ?_ | refine CB_split (fun hc => ?_) fun hc => ?_) <;> (try simp only [hc, bs, ↓reduceIte] at h) <;> (try simp only [hc])
 | ((with_reducible first | refine leafR hQ ?_ | refine leafN hQ ?_); (try cases h); simp only [resL, oneD, Option.some.injEq, exists_eq_left', go_sem, hlt, hget, hpu, hinc, Int.reduceLE, ↓reduceIte, reduceCtorEq, Nat.reduceEqDiff, Nat.reduceLeDiff, Nat.reduceAdd, Nat.reduceMul, Nat.reduceSub, Nat.reduceLT, c1, c2, w1, w2, k0]; repeat' (first | exact Ok.out | with_reducible refine And.intro ?_ ?_ | (simp; done)))
 | (cases h; replace h := hr; clear hr; (try simp only [bs, ↓reduceIte] at h))
 | (cases h; done))

def manyM (t : Str) : Nat → Str
  | 0 => []
  | n + 1 => manyM t n ++ t
def two (i : Nat) : Str := [UInt8.ofNat (48 + i / 10), UInt8.ofNat (48 + i % 10)]
def rowM (ahead : Str) : Nat → Str
  | 0 => []
  | n + 1 => (if n = 0 then rowM ahead n else rowM ahead n ++ [44]) ++ (ahead ++ [97] ++ two n)
def procsM : Nat → Str
  | 0 => []
  | n + 1 => procsM n ++ ([112, 114, 111, 99, 32, 112] ++ two n ++ [40, 41, 123, 125])

theorem wrap_u8 {i : Nat} (h : i < 256) : IntKind.wrap .u8 (i : Int) = (i : Int) := by
  rw [IntKind.wrap_u8]; omega

end Go.Abs

/-! Binds1 -/

namespace Go.Abs

set_option maxRecDepth 8000
set_option linter.unusedSimpArgs false
set_option linter.unusedVariables false
open Go.Proofs

def encInt (n : Int) : List D := [.int .i64 n]
theorem okInt (n : Int) : D.oks 0 0 (encInt n) = true := rfl
theorem okrInt (l : List Int) : D.okr 0 0 (l.map encInt) = true := okr_map okInt l
theorem fgrInt (n m : Nat) (l : List Int) : D.fgr n m (l.map encInt) = l.map encInt := fgr_map okInt n m l
attribute [go_sem] encInt fgrInt
/-- A sign's text. -/
def signR (op : Int) : Str :=
  if op = 5 then [42] else if op = 6 then [47] else if op = 7 then [37] else if op = 8 then [43] else if op = 9 then [45] else if op = 10 then [60] else if op = 11 then [60, 61]
  else if op = 12 then [62] else if op = 13 then [62, 61] else if op = 14 then [61, 61] else if op = 15 then [33, 61] else if op = 16 then [38, 38] else [124, 124]
def bindB (op : Int) : Int := (bindsR (signR op)).1

theorem signs {op : Int} (h : (decide (5 ≤ op) && decide (op ≤ 17)) = true) : op = 5 ∨ op = 6 ∨ op = 7 ∨ op = 8 ∨ op = 9 ∨ op = 10 ∨ op = 11 ∨ op = 12 ∨ op = 13 ∨ op = 14 ∨ op = 15 ∨ op = 16 ∨ op = 17 := by
  simp only [Bool.and_eq_true, decide_eq_true_eq] at h; omega

theorem signs_s {op : Int} (h : (decide (5 ≤ op) && decide (op ≤ 17)) = true) (s : St) : Fun Try.prog n_ref3_sign [.int .i64 op] s (.str (signR op)) s := by
  refine Fun.pure ?_ rfl rfl s
  unfold S0
  rcases signs h with rfl | rfl | rfl | rfl | rfl | rfl | rfl | rfl | rfl | rfl | rfl | rfl | rfl
  all_goals
    refine Fun.go has_ref3_sign rfl fun B Q hB hQ => ?_
    have hlt : 0 < 1 := Nat.zero_lt_one
    have hget : 0 < 1 := Nat.zero_lt_one
    have hpu : 0 < 1 := Nat.zero_lt_one
    have hinc : 0 < 1 := Nat.zero_lt_one
    repeat' (first
 | simp only [go_sem, hlt, hget, hpu, hinc, Int.reduceLE, ↓reduceIte, reduceCtorEq, Nat.reduceEqDiff, Nat.reduceLeDiff, Nat.reduceAdd, Nat.reduceMul, Nat.reduceSub, Nat.reduceLT, signR, Int.reduceSub, Int.cast_ofNat_Int, wrap_ok, Int.reduceNeg, Int.reduceLT, Int.reduceToNat, Int.reduceEq]
 | (with_reducible first | refine CB_ofT (by assumption) fun hc => ?_ | refine CB_ofF (by assumption) fun hc => ?_ | refine CB_split (fun hc => ?_) fun hc => ?_) <;> (try simp only [hc, bs, ↓reduceIte] at h) <;> (try simp only [hc])
 | ((with_reducible first | refine leafR hQ ?_ | refine leafN hQ ?_); (try cases h); simp only [resL, oneD, Option.some.injEq, exists_eq_left', go_sem, hlt, hget, hpu, hinc, Int.reduceLE, ↓reduceIte, reduceCtorEq, Nat.reduceEqDiff, Nat.reduceLeDiff, Nat.reduceAdd, Nat.reduceMul, Nat.reduceSub, Nat.reduceLT, signR, Int.reduceSub, Int.cast_ofNat_Int, wrap_ok, Int.reduceNeg, Int.reduceLT, Int.reduceToNat, Int.reduceEq]; repeat' (first | exact Ok.out | with_reducible refine And.intro ?_ ?_ | (simp; done)))
 | (cases h; replace h := hr; clear hr; (try simp only [bs, ↓reduceIte] at h))
 | (cases h; done))

theorem bindB_pos {op : Int} (h : (decide (5 ≤ op) && decide (op ≤ 17)) = true) : 1 ≤ bindB op ∧ bindB op ≤ 6 ∧ (bindsR (signR op)).2 = op := by
  rcases signs h with rfl | rfl | rfl | rfl | rfl | rfl | rfl | rfl | rfl | rfl | rfl | rfl | rfl <;> exact ⟨by decide, by decide, by decide⟩

/-- So many names. -/
def operandsM : Nat → List Str
  | 0 => []
  | n + 1 => operandsM n ++ [[UInt8.ofNat (97 + n)]]
theorem operandsM_len : ∀ n, (operandsM n).length = n
  | 0 => rfl
  | n + 1 => by simp [operandsM, operandsM_len n]

theorem operands_s {m : Int} (h : (decide (0 ≤ m) && decide (m ≤ 20)) = true) (s : St) : Fun Try.prog n_law4_operands [.int .i64 m] s (.slice .shared 1 ((operandsM m.toNat).map encStr)) s := by
  refine Fun.pure ?_ rfl (by simp [D.ok, okrStr, Tag.ok]) s
  simp only [Bool.and_eq_true, decide_eq_true_eq] at h
  obtain ⟨n, hn⟩ : ∃ n : Nat, m = (n : Int) := ⟨m.toNat, by omega⟩
  subst hn
  have hn : n ≤ 20 := by omega
  rw [Int.toNat_natCast]
  unfold S0
  refine Fun.go has_law4_operands rfl fun B Q hB hQ => ?_
  have hlt : 0 < 1 := Nat.zero_lt_one
  have hget : 0 < 1 := Nat.zero_lt_one
  have hpu : 0 < 1 := Nat.zero_lt_one
  have hinc : 0 < 1 := Nat.zero_lt_one
  repeat' (first
 | simp only [go_sem, hlt, hget, hpu, hinc, Int.reduceLE, ↓reduceIte, reduceCtorEq, Nat.reduceEqDiff, Nat.reduceLeDiff, Nat.reduceAdd, Nat.reduceMul, Nat.reduceSub, Nat.reduceLT]
 | (with_reducible first | refine CB_ofT (by assumption) fun hc => ?_ | refine CB_ofF (by assumption) fun hc => ?_ | refine CB_split (fun hc => ?_) fun hc => ?_) <;> (try simp only [hc, bs, ↓reduceIte] at h) <;> (try simp only [hc])
 | ((with_reducible first | refine leafR hQ ?_ | refine leafN hQ ?_); (try cases h); simp only [resL, oneD, Option.some.injEq, exists_eq_left', go_sem, hlt, hget, hpu, hinc, Int.reduceLE, ↓reduceIte, reduceCtorEq, Nat.reduceEqDiff, Nat.reduceLeDiff, Nat.reduceAdd, Nat.reduceMul, Nat.reduceSub, Nat.reduceLT]; repeat' (first | exact Ok.out | with_reducible refine And.intro ?_ ?_ | (simp; done)))
 | (cases h; replace h := hr; clear hr; (try simp only [bs, ↓reduceIte] at h))
 | (cases h; done))
  refine SemL.tokT 3 1 rfl ?_
  simp only [go_sem, hlt, hget, hpu, hinc, Int.reduceLE, ↓reduceIte, reduceCtorEq, Nat.reduceEqDiff, Nat.reduceLeDiff, Nat.reduceAdd, Nat.reduceMul, Nat.reduceSub, Nat.reduceLT]
  refine SemL.re _ _ 0 1 (by rw [hB]; exact Nat.le_of_ble_eq_true rfl) (by rw [hB]; exact Nat.le_of_ble_eq_true rfl) ?_ ?_ (SemL.ind (ι := Nat) (fun i => i ≤ n) (fun i => n - i)
    (fun i => [(0, .int .i64 (n : Int)), (3, .slice (.tok 0) 1 ((operandsM i).map encStr)), (4, .int .i64 (i : Int))]) (fun i => ⟨[], [some i]⟩) ?_ 0 (Nat.zero_le _))
  · (simp only [go_sem, hlt, hget, hpu, hinc, Int.reduceLE, ↓reduceIte, reduceCtorEq, Nat.reduceEqDiff, Nat.reduceLeDiff, Nat.reduceAdd, Nat.reduceMul, Nat.reduceSub, Nat.reduceLT, operandsM]; repeat' (first | exact Ok.out | with_reducible refine And.intro ?_ ?_))
  · (simp only [go_sem, hlt, hget, hpu, hinc, Int.reduceLE, ↓reduceIte, reduceCtorEq, Nat.reduceEqDiff, Nat.reduceLeDiff, Nat.reduceAdd, Nat.reduceMul, Nat.reduceSub, Nat.reduceLT, operandsM]; repeat' (first | exact Ok.out | with_reducible refine And.intro ?_ ?_))
  rintro i hi IH
  have hl := operandsM_len i
  by_cases hc : i < n
  · have c1 : decide ((i : Int) < (n : Int)) = true := by simp; omega
    have w1 : IntKind.wrap .i64 (97 + (i : Int)) = ((97 + i : Nat) : Int) := by rw [wrap_ok] <;> omega
    have w2 := wrap_u8 (i := 97 + i) (by omega)
    have w3 : IntKind.wrap .i64 ((i : Int) + 1) = ((i + 1 : Nat) : Int) := by rw [wrap_ok] <;> omega
    have hpu : (i + 1) * 17 ≤ maxStr := by unfold maxStr; omega
    repeat' (first
 | simp only [go_sem, hlt, hget, hpu, hinc, Int.reduceLE, ↓reduceIte, reduceCtorEq, Nat.reduceEqDiff, Nat.reduceLeDiff, Nat.reduceAdd, Nat.reduceMul, Nat.reduceSub, Nat.reduceLT, c1, w1, w2, w3, hl, bytesOfRows, byteOfRow]
 | (with_reducible first | refine CB_ofT (by assumption) fun hc => ?_ | refine CB_ofF (by assumption) fun hc => ?_ | refine CB_split (fun hc => ?_) fun hc => ?_) <;> (try simp only [hc, bs, ↓reduceIte] at h) <;> (try simp only [hc])
 | ((with_reducible first | refine leafR hQ ?_ | refine leafN hQ ?_); (try cases h); simp only [resL, oneD, Option.some.injEq, exists_eq_left', go_sem, hlt, hget, hpu, hinc, Int.reduceLE, ↓reduceIte, reduceCtorEq, Nat.reduceEqDiff, Nat.reduceLeDiff, Nat.reduceAdd, Nat.reduceMul, Nat.reduceSub, Nat.reduceLT, c1, w1, w2, w3, hl, bytesOfRows, byteOfRow]; repeat' (first | exact Ok.out | with_reducible refine And.intro ?_ ?_ | (simp; done)))
 | (cases h; replace h := hr; clear hr; (try simp only [bs, ↓reduceIte] at h))
 | (cases h; done))
    refine SemL.re _ _ 0 1 (by rw [hB]; exact Nat.le_of_ble_eq_true rfl) (by rw [hB]; exact Nat.le_of_ble_eq_true rfl) ?_ ?_ (IH (i + 1) hc (by omega))
    · (simp only [go_sem, hlt, hget, hpu, hinc, Int.reduceLE, ↓reduceIte, reduceCtorEq, Nat.reduceEqDiff, Nat.reduceLeDiff, Nat.reduceAdd, Nat.reduceMul, Nat.reduceSub, Nat.reduceLT, operandsM]; repeat' (first | exact Ok.out | with_reducible refine And.intro ?_ ?_))
    · (simp only [go_sem, hlt, hget, hpu, hinc, Int.reduceLE, ↓reduceIte, reduceCtorEq, Nat.reduceEqDiff, Nat.reduceLeDiff, Nat.reduceAdd, Nat.reduceMul, Nat.reduceSub, Nat.reduceLT, operandsM]; repeat' (first | exact Ok.out | with_reducible refine And.intro ?_ ?_))
  · have c1 : decide ((i : Int) < (n : Int)) = false := by simp; omega
    have : i = n := by omega
    subst this
    repeat' (first
 | simp only [go_sem, hlt, hget, hpu, hinc, Int.reduceLE, ↓reduceIte, reduceCtorEq, Nat.reduceEqDiff, Nat.reduceLeDiff, Nat.reduceAdd, Nat.reduceMul, Nat.reduceSub, Nat.reduceLT, c1]
 | (with_reducible first | refine CB_ofT (by assumption) fun hc => ?_ | refine CB_ofF (by assumption) fun hc => ?_ | refine CB_split (fun hc => ?_) fun hc => ?_) <;> (try simp only [hc, bs, ↓reduceIte] at h) <;> (try simp only [hc])
 | ((with_reducible first | refine leafR hQ ?_ | refine leafN hQ ?_); (try cases h); simp only [resL, oneD, Option.some.injEq, exists_eq_left', go_sem, hlt, hget, hpu, hinc, Int.reduceLE, ↓reduceIte, reduceCtorEq, Nat.reduceEqDiff, Nat.reduceLeDiff, Nat.reduceAdd, Nat.reduceMul, Nat.reduceSub, Nat.reduceLT, c1]; repeat' (first | exact Ok.out | with_reducible refine And.intro ?_ ?_ | (simp; done)))
 | (cases h; replace h := hr; clear hr; (try simp only [bs, ↓reduceIte] at h))
 | (cases h; done))

end Go.Abs

/-! Binds2 -/

namespace Go.Abs

set_option maxRecDepth 8000
set_option linter.unusedSimpArgs false
set_option linter.unusedVariables false
open Go.Proofs

/-- The text of a row: of its first names. -/
def rowB (names : List Str) (ops : List Int) : Nat → Str
  | 0 => []
  | i + 1 => rowB names ops i ++ (if i = 0 then [] else signR (ops.getD (i - 1) 0)) ++ names.getD i []

theorem signR_len {op : Int} (h : (decide (5 ≤ op) && decide (op ≤ 17)) = true) : (signR op).length ≤ 2 := by
  rcases signs h with rfl | rfl | rfl | rfl | rfl | rfl | rfl | rfl | rfl | rfl | rfl | rfl | rfl <;> decide

/-- Names and signs that fit. -/
structure RowOk (names : List Str) (ops : List Int) : Prop where
  len : names.length = ops.length + 1
  most : ops.length ≤ 20
  short : ∀ x ∈ names, x.length ≤ 1
  op : ∀ o ∈ ops, (decide (5 ≤ o) && decide (o ≤ 17)) = true

theorem Row_s {names : List Str} {ops : List Int} (h : RowOk names ops) (s : St) : Fun Try.prog n_ref3_Row [.slice .shared 1 (names.map encStr), .slice .shared 1 (ops.map encInt)] s (.str (rowB names ops names.length)) s := by
  refine Fun.pure ?_ (by simp [D.oks, D.ok, okrStr, okrInt, Tag.ok]) rfl s
  obtain ⟨h1, h2, h3, h4⟩ := h
  have hn : names.length < 4611686018427387904 := by omega
  unfold S0
  refine Fun.go has_ref3_Row rfl fun B Q hB hQ => ?_
  have hlt : 0 < 1 := Nat.zero_lt_one
  have hget : 0 < 1 := Nat.zero_lt_one
  have hpu : 0 < 1 := Nat.zero_lt_one
  have hinc : 0 < 1 := Nat.zero_lt_one
  repeat' (first
 | simp only [go_sem, hlt, hget, hpu, hinc, Int.reduceLE, ↓reduceIte, reduceCtorEq, Nat.reduceEqDiff, Nat.reduceLeDiff, Nat.reduceAdd, Nat.reduceMul, Nat.reduceSub, Nat.reduceLT]
 | (with_reducible first | refine CB_ofT (by assumption) fun hc => ?_ | refine CB_ofF (by assumption) fun hc => ?_ | refine CB_split (fun hc => ?_) fun hc => ?_) <;> (try simp only [hc, bs, ↓reduceIte] at h) <;> (try simp only [hc])
 | ((with_reducible first | refine leafR hQ ?_ | refine leafN hQ ?_); (try cases h); simp only [resL, oneD, Option.some.injEq, exists_eq_left', go_sem, hlt, hget, hpu, hinc, Int.reduceLE, ↓reduceIte, reduceCtorEq, Nat.reduceEqDiff, Nat.reduceLeDiff, Nat.reduceAdd, Nat.reduceMul, Nat.reduceSub, Nat.reduceLT]; repeat' (first | exact Ok.out | with_reducible refine And.intro ?_ ?_ | (simp; done)))
 | (cases h; replace h := hr; clear hr; (try simp only [bs, ↓reduceIte] at h))
 | (cases h; done))
  refine SemL.re _ _ 1 0 (by rw [hB]; exact Nat.le_of_ble_eq_true rfl) (by rw [hB]; exact Nat.le_of_ble_eq_true rfl) ?_ ?_ (SemL.ind (ι := Nat) (fun i => i ≤ names.length ∧ (rowB names ops i).length ≤ 3 * i) (fun i => names.length - i)
    (fun i => [(1, .slice .shared 1 (ops.map encInt)), (5, .str (rowB names ops i)), (8, .slice .shared 1 (names.map encStr)), (9, .int .i64 (names.length : Int)), (10, .int .i64 (i : Int))]) (fun i => ⟨[], []⟩) ?_ 0 ⟨Nat.zero_le _, Nat.le_refl _⟩)
  · (simp only [go_sem, hlt, hget, hpu, hinc, Int.reduceLE, ↓reduceIte, reduceCtorEq, Nat.reduceEqDiff, Nat.reduceLeDiff, Nat.reduceAdd, Nat.reduceMul, Nat.reduceSub, Nat.reduceLT, rowB]; repeat' (first | exact Ok.out | with_reducible refine And.intro ?_ ?_))
  · (simp only [go_sem, hlt, hget, hpu, hinc, Int.reduceLE, ↓reduceIte, reduceCtorEq, Nat.reduceEqDiff, Nat.reduceLeDiff, Nat.reduceAdd, Nat.reduceMul, Nat.reduceSub, Nat.reduceLT, rowB]; repeat' (first | exact Ok.out | with_reducible refine And.intro ?_ ?_))
  rintro i ⟨hi, hl⟩ IH
  by_cases hk : i < names.length
  · have c1 : decide ((i : Int) < (names.length : Int)) = true := by simp; omega
    obtain ⟨x, hx⟩ : ∃ x, names[i]? = some x := ⟨_, List.getElem?_eq_getElem hk⟩
    have hxl := h3 x (List.mem_of_getElem? hx)
    have hgx : names.getD i [] = x := by rw [List.getD_eq_getElem?_getD, hx]; rfl
    have w3 : IntKind.wrap .i64 ((i : Int) + 1) = ((i + 1 : Nat) : Int) := by rw [wrap_ok] <;> omega
    by_cases h0 : i = 0
    · have c2 : decide ((i : Int) > 0) = false := by simp; omega
      have r0 : rowB names ops i = [] := by rw [h0]; rfl
      have m1 : x.length ≤ maxStr := by unfold maxStr; omega
      have e : rowB names ops (i + 1) = x := by simp only [rowB, r0, hgx, if_pos h0, List.nil_append]
      repeat' (first
 | simp only [go_sem, hlt, hget, hpu, hinc, Int.reduceLE, ↓reduceIte, reduceCtorEq, Nat.reduceEqDiff, Nat.reduceLeDiff, Nat.reduceAdd, Nat.reduceMul, Nat.reduceSub, Nat.reduceLT, c1, c2, hx, w3, m1, r0, List.nil_append, List.length_nil, Nat.zero_add, hk]
 | (with_reducible first | refine CB_ofT (by assumption) fun hc => ?_ | refine CB_ofF (by assumption) fun hc => ?_ | refine CB_split (fun hc => ?_) fun hc => ?_) <;> (try simp only [hc, bs, ↓reduceIte] at h) <;> (try simp only [hc])
 | ((with_reducible first | refine leafR hQ ?_ | refine leafN hQ ?_); (try cases h); simp only [resL, oneD, Option.some.injEq, exists_eq_left', go_sem, hlt, hget, hpu, hinc, Int.reduceLE, ↓reduceIte, reduceCtorEq, Nat.reduceEqDiff, Nat.reduceLeDiff, Nat.reduceAdd, Nat.reduceMul, Nat.reduceSub, Nat.reduceLT, c1, c2, hx, w3, m1, r0, List.nil_append, List.length_nil, Nat.zero_add, hk]; repeat' (first | exact Ok.out | with_reducible refine And.intro ?_ ?_ | (simp; done)))
 | (cases h; replace h := hr; clear hr; (try simp only [bs, ↓reduceIte] at h))
 | (cases h; done))
      refine SemL.re _ _ 1 0 (by rw [hB]; exact Nat.le_of_ble_eq_true rfl) (by rw [hB]; exact Nat.le_of_ble_eq_true rfl) ?_ ?_ (IH (i + 1) ⟨hk, by rw [e]; omega⟩ (by omega))
      · (simp only [go_sem, hlt, hget, hpu, hinc, Int.reduceLE, ↓reduceIte, reduceCtorEq, Nat.reduceEqDiff, Nat.reduceLeDiff, Nat.reduceAdd, Nat.reduceMul, Nat.reduceSub, Nat.reduceLT, e]; repeat' (first | exact Ok.out | with_reducible refine And.intro ?_ ?_))
      · (simp only [go_sem, hlt, hget, hpu, hinc, Int.reduceLE, ↓reduceIte, reduceCtorEq, Nat.reduceEqDiff, Nat.reduceLeDiff, Nat.reduceAdd, Nat.reduceMul, Nat.reduceSub, Nat.reduceLT, e]; repeat' (first | exact Ok.out | with_reducible refine And.intro ?_ ?_))
    · have c2 : decide ((i : Int) > 0) = true := by simp; omega
      have hi' : i - 1 < ops.length := by omega
      obtain ⟨op, ho⟩ : ∃ op, ops[i - 1]? = some op := ⟨_, List.getElem?_eq_getElem hi'⟩
      have hop := h4 op (List.mem_of_getElem? ho)
      have hgo : ops.getD (i - 1) 0 = op := by rw [List.getD_eq_getElem?_getD, ho]; rfl
      have w1 : IntKind.wrap .i64 ((i : Int) - 1) = ((i - 1 : Nat) : Int) := by rw [wrap_ok] <;> omega
      have hs := signR_len hop
      have e : rowB names ops (i + 1) = rowB names ops i ++ signR op ++ x := by simp only [rowB, if_neg h0, hgx, hgo]
      have m1 : (rowB names ops i).length + (signR op).length ≤ maxStr := by unfold maxStr; omega
      have m2 : (rowB names ops i).length + (signR op).length + x.length ≤ maxStr := by unfold maxStr; omega
      repeat' (first
 | simp only [go_sem, hlt, hget, hpu, hinc, Int.reduceLE, ↓reduceIte, reduceCtorEq, Nat.reduceEqDiff, Nat.reduceLeDiff, Nat.reduceAdd, Nat.reduceMul, Nat.reduceSub, Nat.reduceLT, c1, c2, hx, ho, hi', w1, w3, m1, m2, hk]
 | (with_reducible refine CU (signs_s hop _) ?_)
 | (with_reducible first | refine CB_ofT (by assumption) fun hc => ?_ | refine CB_ofF (by assumption) fun hc => ?_ | refine CB_split (fun hc => ?_) fun hc => ?_) <;> (try simp only [hc, bs, ↓reduceIte] at h) <;> (try simp only [hc])
 | ((with_reducible first | refine leafR hQ ?_ | refine leafN hQ ?_); (try cases h); simp only [resL, oneD, Option.some.injEq, exists_eq_left', go_sem, hlt, hget, hpu, hinc, Int.reduceLE, ↓reduceIte, reduceCtorEq, Nat.reduceEqDiff, Nat.reduceLeDiff, Nat.reduceAdd, Nat.reduceMul, Nat.reduceSub, Nat.reduceLT, c1, c2, hx, ho, hi', w1, w3, m1, m2, hk]; repeat' (first | exact Ok.out | with_reducible refine And.intro ?_ ?_ | (simp; done)))
 | (cases h; replace h := hr; clear hr; (try simp only [bs, ↓reduceIte] at h))
 | (cases h; done))
      refine SemL.re _ _ 1 0 (by rw [hB]; exact Nat.le_of_ble_eq_true rfl) (by rw [hB]; exact Nat.le_of_ble_eq_true rfl) ?_ ?_ (IH (i + 1) ⟨hk, by rw [e]; simp only [List.length_append]; omega⟩ (by omega))
      · (simp only [go_sem, hlt, hget, hpu, hinc, Int.reduceLE, ↓reduceIte, reduceCtorEq, Nat.reduceEqDiff, Nat.reduceLeDiff, Nat.reduceAdd, Nat.reduceMul, Nat.reduceSub, Nat.reduceLT, e]; repeat' (first | exact Ok.out | with_reducible refine And.intro ?_ ?_))
      · (simp only [go_sem, hlt, hget, hpu, hinc, Int.reduceLE, ↓reduceIte, reduceCtorEq, Nat.reduceEqDiff, Nat.reduceLeDiff, Nat.reduceAdd, Nat.reduceMul, Nat.reduceSub, Nat.reduceLT, e]; repeat' (first | exact Ok.out | with_reducible refine And.intro ?_ ?_))
  · have c1 : decide ((i : Int) < (names.length : Int)) = false := by simp; omega
    have : i = names.length := by omega
    subst this
    repeat' (first
 | simp only [go_sem, hlt, hget, hpu, hinc, Int.reduceLE, ↓reduceIte, reduceCtorEq, Nat.reduceEqDiff, Nat.reduceLeDiff, Nat.reduceAdd, Nat.reduceMul, Nat.reduceSub, Nat.reduceLT, c1]
 | (with_reducible first | refine CB_ofT (by assumption) fun hc => ?_ | refine CB_ofF (by assumption) fun hc => ?_ | refine CB_split (fun hc => ?_) fun hc => ?_) <;> (try simp only [hc, bs, ↓reduceIte] at h) <;> (try simp only [hc])
 | ((with_reducible first | refine leafR hQ ?_ | refine leafN hQ ?_); (try cases h); simp only [resL, oneD, Option.some.injEq, exists_eq_left', go_sem, hlt, hget, hpu, hinc, Int.reduceLE, ↓reduceIte, reduceCtorEq, Nat.reduceEqDiff, Nat.reduceLeDiff, Nat.reduceAdd, Nat.reduceMul, Nat.reduceSub, Nat.reduceLT, c1]; repeat' (first | exact Ok.out | with_reducible refine And.intro ?_ ?_ | (simp; done)))
 | (cases h; replace h := hr; clear hr; (try simp only [bs, ↓reduceIte] at h))
 | (cases h; done))

/-! ### How it is parted -/

def stepB (i : Nat) (op : Int) (al : Nat × Int) : Nat × Int := if bindB op ≤ al.2 then (i, bindB op) else al
/-- Where the sign is that binds least, of like ones the last. -/
def atB : List Int → Nat → Nat × Int → Nat × Int
  | [], _, al => al
  | op :: r, i, al => atB r (i + 1) (stepB i op al)
theorem atB_lt : ∀ (l : List Int) (i : Nat) (al : Nat × Int), al.1 < i + l.length → (atB l i al).1 < i + l.length
  | [], i, al, h => h
  | op :: r, i, al, h => by
    have := atB_lt r (i + 1) (stepB i op al) (by unfold stepB; simp only [List.length_cons] at h; split <;> first | (dsimp only; omega) | omega)
    simp only [atB, List.length_cons]; omega
def splitB : Nat → List Str → List Int → Ex
  | 0, _, _ => ex0
  | n + 1, names, ops => if ops.length = 0 then exName (names.getD 0 []) else
    exTwo (ops.getD (atB ops 0 (0, 9)).1 0) (splitB n (names.take ((atB ops 0 (0, 9)).1 + 1)) (ops.take (atB ops 0 (0, 9)).1)) (splitB n (names.drop ((atB ops 0 (0, 9)).1 + 1)) (ops.drop ((atB ops 0 (0, 9)).1 + 1)))

theorem RowOk.left {names : List Str} {ops : List Int} (h : RowOk names ops) {a : Nat} (ha : a < ops.length) : RowOk (names.take (a + 1)) (ops.take a) :=
  ⟨by have := h.len; simp; omega, by have := h.most; simp; omega, fun x hx => h.short x (List.mem_of_mem_take hx), fun x hx => h.op x (List.mem_of_mem_take hx)⟩
theorem RowOk.right {names : List Str} {ops : List Int} (h : RowOk names ops) {a : Nat} (ha : a < ops.length) : RowOk (names.drop (a + 1)) (ops.drop (a + 1)) :=
  ⟨by have := h.len; simp; omega, by have := h.most; simp; omega, fun x hx => h.short x (List.mem_of_mem_drop hx), fun x hx => h.op x (List.mem_of_mem_drop hx)⟩

theorem Split_s : ∀ (n : Nat) {names : List Str} {ops : List Int}, ops.length < n → RowOk names ops → ∀ (s : St),
    Fun Try.prog n_ref3_Split [.slice .shared 1 (names.map encStr), .slice .shared 1 (ops.map encInt)] s (.agg (encEx (splitB n names ops))) s := by
  intro n
  induction n with
  | zero => intro names ops h; exact absurd h (Nat.not_lt_zero _)
  | succ n ih =>
    intro names ops hlen h s
    refine Fun.pure ?_ (by simp [D.oks, D.ok, okrStr, okrInt, Tag.ok]) (by simp [D.ok, okEx]) s
    have h1 := h.len
    have h2 := h.most
    have hn : names.length < 4611686018427387904 := by omega
    unfold S0
    by_cases h0 : ops.length = 0
    · have c1 : (((ops.length : Nat) : Int) == 0) = true := by rw [h0]; rfl
      have c2 : (((names.length : Nat) : Int) == 0) = false := beq_eq_false_iff_ne.2 (by omega)
      obtain ⟨x, hx⟩ : ∃ x, names[0]? = some x := ⟨_, List.getElem?_eq_getElem (by omega)⟩
      have hgx : names.getD 0 [] = x := by rw [List.getD_eq_getElem?_getD, hx]; rfl
      have e : splitB (n + 1) names ops = exName x := by simp only [splitB, if_pos h0, hgx]
      have hl0 : 0 < names.length := by omega
      rw [e]
      refine Fun.go has_ref3_Split rfl fun B Q hB hQ => ?_
      have hlt : 0 < 1 := Nat.zero_lt_one
      have hget : 0 < 1 := Nat.zero_lt_one
      have hpu : 0 < 1 := Nat.zero_lt_one
      have hinc : 0 < 1 := Nat.zero_lt_one
      repeat' (first
 | simp only [go_sem, hlt, hget, hpu, hinc, Int.reduceLE, ↓reduceIte, reduceCtorEq, Nat.reduceEqDiff, Nat.reduceLeDiff, Nat.reduceAdd, Nat.reduceMul, Nat.reduceSub, Nat.reduceLT, c1, c2, hx, hl0]
 | (with_reducible refine CU (name_ref_s _ _) ?_)
 | (with_reducible first | refine CB_ofT (by assumption) fun hc => ?_ | refine CB_ofF (by assumption) fun hc => ?_ | refine CB_split (fun hc => ?_) fun hc => ?_) <;> (try simp only [hc, bs, ↓reduceIte] at h) <;> (try simp only [hc])
 | ((with_reducible first | refine leafR hQ ?_ | refine leafN hQ ?_); (try cases h); simp only [resL, oneD, Option.some.injEq, exists_eq_left', go_sem, hlt, hget, hpu, hinc, Int.reduceLE, ↓reduceIte, reduceCtorEq, Nat.reduceEqDiff, Nat.reduceLeDiff, Nat.reduceAdd, Nat.reduceMul, Nat.reduceSub, Nat.reduceLT, c1, c2, hx, hl0]; repeat' (first | exact Ok.out | with_reducible refine And.intro ?_ ?_ | (simp; done)))
 | (cases h; replace h := hr; clear hr; (try simp only [bs, ↓reduceIte] at h))
 | (cases h; done))
    · have c1 : (((ops.length : Nat) : Int) == 0) = false := beq_eq_false_iff_ne.2 (by omega)
      have c2 : (((names.length : Nat) : Int) == 0) = false := beq_eq_false_iff_ne.2 (by omega)
      refine Fun.go has_ref3_Split rfl fun B Q hB hQ => ?_
      have hlt : 0 < 1 := Nat.zero_lt_one
      have hget : 0 < 1 := Nat.zero_lt_one
      have hpu : 0 < 1 := Nat.zero_lt_one
      have hinc : 0 < 1 := Nat.zero_lt_one
      repeat' (first
 | simp only [go_sem, hlt, hget, hpu, hinc, Int.reduceLE, ↓reduceIte, reduceCtorEq, Nat.reduceEqDiff, Nat.reduceLeDiff, Nat.reduceAdd, Nat.reduceMul, Nat.reduceSub, Nat.reduceLT, c1, c2]
 | (with_reducible first | refine CB_ofT (by assumption) fun hc => ?_ | refine CB_ofF (by assumption) fun hc => ?_ | refine CB_split (fun hc => ?_) fun hc => ?_) <;> (try simp only [hc, bs, ↓reduceIte] at h) <;> (try simp only [hc])
 | ((with_reducible first | refine leafR hQ ?_ | refine leafN hQ ?_); (try cases h); simp only [resL, oneD, Option.some.injEq, exists_eq_left', go_sem, hlt, hget, hpu, hinc, Int.reduceLE, ↓reduceIte, reduceCtorEq, Nat.reduceEqDiff, Nat.reduceLeDiff, Nat.reduceAdd, Nat.reduceMul, Nat.reduceSub, Nat.reduceLT, c1, c2]; repeat' (first | exact Ok.out | with_reducible refine And.intro ?_ ?_ | (simp; done)))
 | (cases h; replace h := hr; clear hr; (try simp only [bs, ↓reduceIte] at h))
 | (cases h; done))
      have hA0 : (atB ops 0 (0, 9)).1 < ops.length := by have := atB_lt ops 0 (0, 9) (by dsimp only; omega); omega
      have e : splitB (n + 1) names ops = exTwo (ops.getD (atB ops 0 (0, 9)).1 0) (splitB n (names.take ((atB ops 0 (0, 9)).1 + 1)) (ops.take (atB ops 0 (0, 9)).1)) (splitB n (names.drop ((atB ops 0 (0, 9)).1 + 1)) (ops.drop ((atB ops 0 (0, 9)).1 + 1))) := by simp only [splitB, if_neg h0]
      rw [e] at hQ
      clear e
      generalize hA : atB ops 0 (0, 9) = A at hQ hA0
      obtain ⟨a, least⟩ := A
      dsimp only at hQ hA0
      refine SemL.re _ _ 1 0 (by rw [hB]; exact Nat.le_of_ble_eq_true rfl) (by rw [hB]; exact Nat.le_of_ble_eq_true rfl) ?_ ?_ (SemL.ind (ι := List Int × Nat × Nat × Int) (fun i => ops.drop i.2.1 = i.1 ∧ atB i.1 i.2.1 (i.2.2.1, i.2.2.2) = (a, least) ∧ i.2.2.1 < i.2.1 + i.1.length) (fun i => i.1.length)
        (fun i => [(0, .slice .shared 1 (names.map encStr)), (1, .slice .shared 1 (ops.map encInt)), (4, .ptr 0 0), (5, .int .i64 (i.2.2.1 : Int)), (6, .int .i64 i.2.2.2), (27, .slice .shared 1 (ops.map encInt)), (28, .int .i64 (ops.length : Int)), (29, .int .i64 (i.2.1 : Int))]) (fun i => ⟨[encEx ex0], []⟩) ?_ (ops, 0, 0, 9) ⟨rfl, hA, by dsimp only; omega⟩)
      · (simp only [go_sem, hlt, hget, hpu, hinc, Int.reduceLE, ↓reduceIte, reduceCtorEq, Nat.reduceEqDiff, Nat.reduceLeDiff, Nat.reduceAdd, Nat.reduceMul, Nat.reduceSub, Nat.reduceLT]; repeat' (first | exact Ok.out | with_reducible refine And.intro ?_ ?_))
      · (simp only [go_sem, hlt, hget, hpu, hinc, Int.reduceLE, ↓reduceIte, reduceCtorEq, Nat.reduceEqDiff, Nat.reduceLeDiff, Nat.reduceAdd, Nat.reduceMul, Nat.reduceSub, Nat.reduceLT]; repeat' (first | exact Ok.out | with_reducible refine And.intro ?_ ?_))
      rintro ⟨rest, k, at_, le⟩ ⟨g1, g2, g3⟩ IH
      dsimp only at g1 g2 g3
      cases rest with
      | nil =>
        have hlt := drop_nil g1
        simp only [atB, Prod.mk.injEq] at g2
        obtain ⟨rfl, rfl⟩ := g2
        obtain ⟨op, ho⟩ : ∃ op, ops[at_]? = some op := ⟨_, List.getElem?_eq_getElem hA0⟩
        have hgo : ops.getD at_ 0 = op := by rw [List.getD_eq_getElem?_getD, ho]; rfl
        have w1 : IntKind.wrap .i64 ((at_ : Int) + 1) = ((at_ + 1 : Nat) : Int) := by rw [wrap_ok] <;> omega
        have k1 : ((at_ + 1 : Nat) : Int) ≤ (names.length : Int) := by omega
        have k2 : ((at_ + 1 : Nat) : Int) ≤ (ops.length : Int) := by omega
        have k3 : (at_ : Int) ≤ (ops.length : Int) := by omega
        have l1 := fun s => ih (by simp; omega) (h.left hA0) s
        have l2 := fun s => ih (by simp; omega) (h.right hA0) s
        repeat' (first
 | simp only [go_sem, hlt, hget, hpu, hinc, Int.reduceLE, ↓reduceIte, reduceCtorEq, Nat.reduceEqDiff, Nat.reduceLeDiff, Nat.reduceAdd, Nat.reduceMul, Nat.reduceSub, Nat.reduceLT, ho, hgo, w1, k1, k2, k3, or_true, true_and, Int.le_refl, ite_self, List.take_length, ← List.map_take, ← List.map_drop]
 | (with_reducible refine CU (l1 _) ?_)
 | (with_reducible refine CU (l2 _) ?_)
 | (with_reducible refine CU (two_ref_s _ _ _ _) ?_)
 | (with_reducible first | refine CB_ofT (by assumption) fun hc => ?_ | refine CB_ofF (by assumption) fun hc => ?_ | refine CB_split (fun hc => ?_) fun hc => ?_) <;> (try simp only [hc, bs, ↓reduceIte] at h) <;> (try simp only [hc])
 | ((with_reducible first | refine leafR hQ ?_ | refine leafN hQ ?_); (try cases h); simp only [resL, oneD, Option.some.injEq, exists_eq_left', go_sem, hlt, hget, hpu, hinc, Int.reduceLE, ↓reduceIte, reduceCtorEq, Nat.reduceEqDiff, Nat.reduceLeDiff, Nat.reduceAdd, Nat.reduceMul, Nat.reduceSub, Nat.reduceLT, ho, hgo, w1, k1, k2, k3, or_true, true_and, Int.le_refl, ite_self, List.take_length, ← List.map_take, ← List.map_drop]; repeat' (first | exact Ok.out | with_reducible refine And.intro ?_ ?_ | (simp; done)))
 | (cases h; replace h := hr; clear hr; (try simp only [bs, ↓reduceIte] at h))
 | (cases h; done))
      | cons op rest =>
        obtain ⟨hget, g4, hlt, g5⟩ := drop_cons g1
        have hop := h.op op (List.mem_of_getElem? hget)
        have w3 : IntKind.wrap .i64 ((k : Int) + 1) = ((k + 1 : Nat) : Int) := by rw [wrap_ok] <;> omega
        simp only [atB] at g2
        simp only [List.length_cons] at g3
        by_cases hb : bindB op ≤ le
        · have c3 : decide ((bindsR (signR op)).1 ≤ le) = true := by simpa [bindB] using hb
          rw [show stepB k op (at_, le) = (k, bindB op) from if_pos hb] at g2
          repeat' (first
 | simp only [go_sem, hlt, hget, hpu, hinc, Int.reduceLE, ↓reduceIte, reduceCtorEq, Nat.reduceEqDiff, Nat.reduceLeDiff, Nat.reduceAdd, Nat.reduceMul, Nat.reduceSub, Nat.reduceLT, w3, c3]
 | (with_reducible refine CU (signs_s hop _) ?_)
 | (with_reducible refine CU (Binds_s _ _) ?_)
 | (with_reducible first | refine CB_ofT (by assumption) fun hc => ?_ | refine CB_ofF (by assumption) fun hc => ?_ | refine CB_split (fun hc => ?_) fun hc => ?_) <;> (try simp only [hc, bs, ↓reduceIte] at h) <;> (try simp only [hc])
 | ((with_reducible first | refine leafR hQ ?_ | refine leafN hQ ?_); (try cases h); simp only [resL, oneD, Option.some.injEq, exists_eq_left', go_sem, hlt, hget, hpu, hinc, Int.reduceLE, ↓reduceIte, reduceCtorEq, Nat.reduceEqDiff, Nat.reduceLeDiff, Nat.reduceAdd, Nat.reduceMul, Nat.reduceSub, Nat.reduceLT, w3, c3]; repeat' (first | exact Ok.out | with_reducible refine And.intro ?_ ?_ | (simp; done)))
 | (cases h; replace h := hr; clear hr; (try simp only [bs, ↓reduceIte] at h))
 | (cases h; done))
          refine SemL.re _ _ 1 0 (by rw [hB]; exact Nat.le_of_ble_eq_true rfl) (by rw [hB]; exact Nat.le_of_ble_eq_true rfl) ?_ ?_ (IH (rest, k + 1, k, bindB op) ⟨g4, g2, by dsimp only; omega⟩ (Nat.lt_succ_self _))
          · (simp only [go_sem, hlt, hget, hpu, hinc, Int.reduceLE, ↓reduceIte, reduceCtorEq, Nat.reduceEqDiff, Nat.reduceLeDiff, Nat.reduceAdd, Nat.reduceMul, Nat.reduceSub, Nat.reduceLT, bindB]; repeat' (first | exact Ok.out | with_reducible refine And.intro ?_ ?_))
          · (simp only [go_sem, hlt, hget, hpu, hinc, Int.reduceLE, ↓reduceIte, reduceCtorEq, Nat.reduceEqDiff, Nat.reduceLeDiff, Nat.reduceAdd, Nat.reduceMul, Nat.reduceSub, Nat.reduceLT, bindB]; repeat' (first | exact Ok.out | with_reducible refine And.intro ?_ ?_))
        · have c3 : decide ((bindsR (signR op)).1 ≤ le) = false := by simpa [bindB] using hb
          rw [show stepB k op (at_, le) = (at_, le) from if_neg hb] at g2
          repeat' (first
 | simp only [go_sem, hlt, hget, hpu, hinc, Int.reduceLE, ↓reduceIte, reduceCtorEq, Nat.reduceEqDiff, Nat.reduceLeDiff, Nat.reduceAdd, Nat.reduceMul, Nat.reduceSub, Nat.reduceLT, w3, c3]
 | (with_reducible refine CU (signs_s hop _) ?_)
 | (with_reducible refine CU (Binds_s _ _) ?_)
 | (with_reducible first | refine CB_ofT (by assumption) fun hc => ?_ | refine CB_ofF (by assumption) fun hc => ?_ | refine CB_split (fun hc => ?_) fun hc => ?_) <;> (try simp only [hc, bs, ↓reduceIte] at h) <;> (try simp only [hc])
 | ((with_reducible first | refine leafR hQ ?_ | refine leafN hQ ?_); (try cases h); simp only [resL, oneD, Option.some.injEq, exists_eq_left', go_sem, hlt, hget, hpu, hinc, Int.reduceLE, ↓reduceIte, reduceCtorEq, Nat.reduceEqDiff, Nat.reduceLeDiff, Nat.reduceAdd, Nat.reduceMul, Nat.reduceSub, Nat.reduceLT, w3, c3]; repeat' (first | exact Ok.out | with_reducible refine And.intro ?_ ?_ | (simp; done)))
 | (cases h; replace h := hr; clear hr; (try simp only [bs, ↓reduceIte] at h))
 | (cases h; done))
          refine SemL.re _ _ 1 0 (by rw [hB]; exact Nat.le_of_ble_eq_true rfl) (by rw [hB]; exact Nat.le_of_ble_eq_true rfl) ?_ ?_ (IH (rest, k + 1, at_, le) ⟨g4, g2, by dsimp only; omega⟩ (Nat.lt_succ_self _))
          · (simp only [go_sem, hlt, hget, hpu, hinc, Int.reduceLE, ↓reduceIte, reduceCtorEq, Nat.reduceEqDiff, Nat.reduceLeDiff, Nat.reduceAdd, Nat.reduceMul, Nat.reduceSub, Nat.reduceLT]; repeat' (first | exact Ok.out | with_reducible refine And.intro ?_ ?_))
          · (simp only [go_sem, hlt, hget, hpu, hinc, Int.reduceLE, ↓reduceIte, reduceCtorEq, Nat.reduceEqDiff, Nat.reduceLeDiff, Nat.reduceAdd, Nat.reduceMul, Nat.reduceSub, Nat.reduceLT]; repeat' (first | exact Ok.out | with_reducible refine And.intro ?_ ?_))

end Go.Abs

/-! Lx -/

namespace Go.Abs
set_option linter.unusedSimpArgs false
set_option linter.unusedVariables false

def isR (c : UInt8) : Bool := (c.toNat : Int) == 35

/-- A text, from a place on, is these tokens. -/
inductive Lx : Nat → Str → List Tok → Prop where
  | nil (pos : Nat) : Lx pos [] []
  | blank (pos : Nat) (c : UInt8) (r : Str) (l : List Tok) (h : isB c = true) (k : Lx (pos + 1) r l) : Lx pos (c :: r) l
  | rem (pos : Nat) (c : UInt8) (r : Str) (l : List Tok) (h : isB c = false) (h2 : isR c = true) (k : Lx (pos + lineL (c :: r)) ((c :: r).drop (lineL (c :: r))) l) : Lx pos (c :: r) l
  | tok (pos : Nat) (c : UInt8) (r : Str) (t : Tok) (l : List Tok) (h : isB c = false) (h2 : isR c = false) (ht : tokE pos (c :: r) = .inl t) (k : Lx (pos + t.text.length) ((c :: r).drop t.text.length) l) : Lx pos (c :: r) (t :: l)

theorem lineL_le : ∀ s : Str, lineL s ≤ s.length
  | [] => Nat.le_refl _
  | c :: r => by simp only [lineL, List.length_cons]; split; have := lineL_le r; omega; omega
theorem signL_le : ∀ s : Str, signL s ≤ s.length
  | [] => Nat.le_refl _
  | [c] => by simp only [signL]; split <;> simp
  | c :: d :: r => by simp only [signL, List.length_cons]; split; omega; split; omega; omega

/-- What a token is of its text. -/
theorem tokE_text {pos : Nat} {s : Str} {t : Tok} (h : tokE pos s = .inl t) : t.pos = pos ∧ 0 < t.text.length ∧ ∃ rest, s = t.text ++ rest := by
  cases s with
  | nil => simp only [tokE] at h; cases h
  | cons c r =>
    simp only [tokE] at h
    cases hL : isL c
    · simp only [hL, Bool.false_eq_true, ↓reduceIte] at h
      cases hD : isD c
      · simp only [hD, Bool.false_eq_true, ↓reduceIte] at h
        split at h
        · cases h
        · cases h
          have := signL_le (c :: r)
          exact ⟨rfl, by simp only [List.length_take]; simp only [List.length_cons] at this ⊢; omega, (c :: r).drop (signL (c :: r)), by simp⟩
      · have k0 : 0 < runD (c :: r) := by simp [runD, hD]
        simp only [hD, ↓reduceIte] at h
        split at h
        · cases h
        · split at h
          · cases h
            exact ⟨rfl, by simp only [List.length_take, List.length_cons]; omega, (c :: r).drop (runD (c :: r)), by simp⟩
          · cases h
    · have k0 : 0 < runL (c :: r) := by simp [runL, hL]
      simp only [hL, ↓reduceIte] at h
      split at h
      · cases h
      · cases h
        exact ⟨rfl, by simp only [List.length_take, List.length_cons]; omega, (c :: r).drop (runL (c :: r)), by simp⟩

theorem tokE_ln {pos : Nat} {s : Str} {t : Tok} (h : tokE pos s = .inl t) : t.text.length ≤ s.length := by
  obtain ⟨_, _, rest, e⟩ := tokE_text h
  rw [e]; simp

/-- What the lexer makes of such a text. -/
theorem lexF_Lx {pos : Nat} {s : Str} {l : List Tok} (h : Lx pos s l) : ∀ (n : Nat) (out : List Tok), s.length < n → out.length + l.length ≤ 2000 → lexF n pos s out = (out ++ l ++ [⟨0, [], 0, (pos + s.length : Nat)⟩], 0, 0) := by
  induction h with
  | nil pos =>
    intro n out hn ho
    cases n with
    | zero => omega
    | succ n => simp [lexF]
  | blank pos c r l h k ih =>
    intro n out hn ho
    cases n with
    | zero => omega
    | succ n =>
      simp only [List.length_cons] at hn
      simp only [lexF, h, ↓reduceIte]
      rw [ih n out (by omega) ho]
      simp only [List.length_cons]
      have : pos + 1 + r.length = pos + (r.length + 1) := by omega
      rw [this]
  | rem pos c r l h h2 k ih =>
    intro n out hn ho
    cases n with
    | zero => omega
    | succ n =>
      have h3 : ((c.toNat : Int) == 35) = true := h2
      simp only [lexF, h, h3, Bool.false_eq_true, ↓reduceIte]
      have hp : 0 < lineL (c :: r) := by
        have : ((c.toNat : Int) != 10) = true := by simp only [beq_iff_eq] at h3; simp [h3]
        simp [lineL, this]
      have hle := lineL_le (c :: r)
      rw [ih n out (by rw [List.length_drop]; omega) ho]
      have : pos + lineL (c :: r) + ((c :: r).drop (lineL (c :: r))).length = pos + (c :: r).length := by rw [List.length_drop]; omega
      rw [this]
  | tok pos c r t l h h2 ht k ih =>
    intro n out hn ho
    cases n with
    | zero => omega
    | succ n =>
      have h3 : ((c.toNat : Int) == 35) = false := h2
      simp only [List.length_cons] at ho
      have hne : ¬ out.length = 2000 := by omega
      simp only [lexF, h, h3, Bool.false_eq_true, ↓reduceIte, ht, if_neg hne]
      obtain ⟨_, hp, _⟩ := tokE_text ht
      have hle := tokE_ln ht
      rw [ih n _ (by rw [List.length_drop]; omega) (by simp; omega)]
      have : pos + t.text.length + ((c :: r).drop t.text.length).length = pos + (c :: r).length := by rw [List.length_drop]; omega
      rw [this]
      simp

def tEnd (n : Nat) : Tok := ⟨0, [], 0, (n : Nat)⟩

theorem lexAll_Lx {s : Str} {l : List Tok} (h : Lx 0 s l) (hs : s.length ≤ 100000) (hl : l.length ≤ 2000) : lexAll s = (l ++ [tEnd s.length], 0, 0) := by
  unfold lexAll
  rw [if_neg (by omega), lexF_Lx h _ _ (Nat.lt_succ_self _) (by simpa using hl)]
  simp [tEnd]
end Go.Abs

/-! Lx2 -/

namespace Go.Abs
set_option linter.unusedSimpArgs false
set_option linter.unusedVariables false

/-- Nothing that stands ahead goes on with that byte. -/
def stopC (c : UInt8) : Bool := !(isL c) && !(isD c) && !(c == 61) && !(c == 38) && !(c == 124)
def Stop : Str → Prop
  | [] => True
  | c :: _ => stopC c = true

/-- A token by itself, wherever it stands, with something behind it. -/
def TGood (t : Tok) : Prop := 0 < t.text.length ∧ ∀ (p : Nat) (b : Str), Stop b → tokE p (t.text ++ b) = .inl { t with pos := (p : Nat) }
/-- The first byte of a token. -/
theorem tokE_first {pos : Nat} {s : Str} {t : Tok} (h : tokE pos s = .inl t) : ∃ c r, s = c :: r ∧ isB c = false ∧ isR c = false := by
  cases s with
  | nil => simp only [tokE] at h; cases h
  | cons c r =>
    refine ⟨c, r, rfl, ?_⟩
    simp only [tokE] at h
    cases hL : isL c
    · cases hD : isD c
      · simp only [hL, hD, Bool.false_eq_true, ↓reduceIte] at h
        have hs : signL (c :: r) ≠ 0 := by
          intro h0; rw [if_pos h0] at h; cases h
        have hc : ∀ n : Int, (c.toNat : Int) = n → n = 32 ∨ n = 9 ∨ n = 10 ∨ n = 13 ∨ n = 35 → False := by
          intro n hn hh
          have hcs : c = 32 ∨ c = 9 ∨ c = 10 ∨ c = 13 ∨ c = 35 := by
            have : ∀ k : UInt8, (c.toNat : Int) = (k.toNat : Int) → c = k := by
              intro k hk
              have : c.toNat = k.toNat := by omega
              exact UInt8.toNat_inj.1 this
            rcases hh with h | h | h | h | h
            · exact .inl (this 32 (by rw [hn, h]; rfl))
            · exact .inr (.inl (this 9 (by rw [hn, h]; rfl)))
            · exact .inr (.inr (.inl (this 10 (by rw [hn, h]; rfl))))
            · exact .inr (.inr (.inr (.inl (this 13 (by rw [hn, h]; rfl)))))
            · exact .inr (.inr (.inr (.inr (this 35 (by rw [hn, h]; rfl)))))
          apply hs
          cases r with
          | nil => rcases hcs with rfl | rfl | rfl | rfl | rfl <;> decide
          | cons d r =>
            have h1 : sign2 [c, d] = false := by
              cases hx : sign2 [c, d]
              · rfl
              · simp only [sign2, Bool.or_eq_true, beq_iff_eq, List.cons.injEq, and_true] at hx
                rcases hcs with rfl | rfl | rfl | rfl | rfl <;> simp at hx
            have h2 : sign1 c = false := by rcases hcs with rfl | rfl | rfl | rfl | rfl <;> decide
            simp only [signL, h1, h2, Bool.false_eq_true, ↓reduceIte]
        refine ⟨?_, ?_⟩
        · cases hb : isB c
          · rfl
          · simp only [isB, Bool.or_eq_true, beq_iff_eq] at hb
            exact (hc _ rfl (by omega)).elim
        · cases hb : isR c
          · rfl
          · simp only [isR, beq_iff_eq] at hb
            exact (hc _ rfl (by omega)).elim
      · simp only [isD, Bool.and_eq_true, decide_eq_true_eq] at hD
        refine ⟨?_, ?_⟩
        · simp only [isB, Bool.or_eq_false_iff, beq_eq_false_iff_ne, ne_eq]; omega
        · simp only [isR, beq_eq_false_iff_ne, ne_eq]; omega
    · simp only [isL, Bool.and_eq_true, decide_eq_true_eq] at hL
      refine ⟨?_, ?_⟩
      · simp only [isB, Bool.or_eq_false_iff, beq_eq_false_iff_ne, ne_eq]; omega
      · simp only [isR, beq_eq_false_iff_ne, ne_eq]; omega

theorem Lx.tok' {pos : Nat} {s : Str} {t : Tok} {l : List Tok} (ht : tokE pos s = .inl t) (k : Lx (pos + t.text.length) (s.drop t.text.length) l) : Lx pos s (t :: l) := by
  obtain ⟨c, r, rfl, h1, h2⟩ := tokE_first ht
  exact .tok _ _ _ _ _ h1 h2 ht k
end Go.Abs

/-! BindsL -/

namespace Go.Abs
set_option linter.unusedSimpArgs false
set_option linter.unusedVariables false

inductive SplitR : Ex → List (Int × Str) → Ex → Prop
  | nil (x : Ex) : SplitR x [] x
  | cut (x : Ex) (p1 : List (Int × Str)) (op : Int) (y : Str) (p2 : List (Int × Str)) (t1 t2 : Ex) (h1 : SplitR x p1 t1) (h2 : SplitR (exName y) p2 t2) (l1 : ∀ q ∈ p1, bindB op ≤ bindB q.1) (l2 : ∀ q ∈ p2, bindB op < bindB q.1) :
    SplitR x (p1 ++ (op, y) :: p2) (exTwo op t1 t2)

theorem SplitR.uniq {x : Ex} {p : List (Int × Str)} {t : Ex} (h : SplitR x p t) : ∀ t', SplitR x p t' → t = t' := by
  induction h with
  | nil x =>
    intro t' h'
    generalize hp : ([] : List (Int × Str)) = p at h'
    cases h' with
    | nil => rfl
    | cut => simp at hp
  | cut x p1 op y p2 t1 t2 h1 h2 l1 l2 ih1 ih2 =>
    intro t' h'
    generalize hp : p1 ++ (op, y) :: p2 = p at h'
    cases h' with
    | nil => simp at hp
    | cut _ q1 op' y' q2 s1 s2 g1 g2 m1 m2 =>
      have key : q1 = p1 ∧ op' = op ∧ y' = y ∧ q2 = p2 := by
        rcases List.append_eq_append_iff.1 hp with ⟨c, e1, e2⟩ | ⟨c, e1, e2⟩
        · cases c with
          | nil => simp at e1 e2; exact ⟨e1, e2.1.1.symm, e2.1.2.symm, e2.2.symm⟩
          | cons a c =>
            simp only [List.cons_append, List.cons.injEq] at e2
            obtain ⟨rfl, rfl⟩ := e2
            have k1 := m1 (op, y) (by rw [e1]; simp)
            have k2 := l2 (op', y') (by simp)
            dsimp only at k1 k2; omega
        · cases c with
          | nil => simp at e1 e2; exact ⟨e1.symm, e2.1.1, e2.1.2, e2.2⟩
          | cons a c =>
            simp only [List.cons_append, List.cons.injEq] at e2
            obtain ⟨rfl, rfl⟩ := e2
            have k1 := l1 (op', y') (by rw [e1]; simp)
            have k2 := m2 (op, y) (by simp)
            dsimp only at k1 k2; omega
      obtain ⟨rfl, rfl, rfl, rfl⟩ := key
      rw [ih1 _ g1, ih2 _ g2]

theorem SplitR.depth {x : Ex} {p : List (Int × Str)} {t : Ex} (h : SplitR x p t) : ∀ {y : Str}, x = exName y → t.depth ≤ 1 + p.length := by
  induction h with
  | nil x => intro y e; subst e; simp [exName, Ex.depth, Ex.depths]
  | cut x p1 op y p2 t1 t2 h1 h2 l1 l2 ih1 ih2 =>
    intro z e
    have := ih1 e
    have := ih2 rfl
    simp only [exTwo, Ex.depth, Ex.depths, List.length_append, List.length_cons]
    omega

/-- Tokens of what stands behind the first name. -/
def TailT : List (Int × Str) → List Tok → Prop
  | [], l => ∃ t r, l = t :: r ∧ t.kind = 0
  | (op, y) :: p, l => ∃ s u r, l = s :: u :: r ∧ s.kind = 4 ∧ s.text = signR op ∧ (decide (5 ≤ op) && decide (op ≤ 17)) = true ∧ u.kind = 1 ∧ u.text = y ∧ TailT p r

theorem drop_get {α : Type} {l r : List α} {i : Nat} {x : α} (h : l.drop i = x :: r) : l[i]? = some x ∧ l.drop (i + 1) = r := by
  obtain ⟨a, b, _, _⟩ := drop_cons h
  exact ⟨a, b⟩

def KB_two (n : Nat) : Prop := ∀ (least : Int) (r : Rd) (t0 : Tok) (p : List (Int × Str)) (l : List Tok) (x : Ex × Rd), r.l.drop r.i = t0 :: l → t0.kind = 1 → TailT p l → r.code = 0 → 1 ≤ least → Rd.two n least r = some x →
  ∃ p1 p2, p = p1 ++ p2 ∧ SplitR (exName t0.text) p1 x.1 ∧ (∀ q ∈ p1, least ≤ bindB q.1) ∧ (∀ q p', p2 = q :: p' → bindB q.1 < least) ∧ x.2 = { r with i := r.i + 1 + 2 * p1.length } ∧ TailT p2 (l.drop (2 * p1.length))
def KB_twoL (n : Nat) : Prop := ∀ (least : Int) (x0 : Ex) (A : List (Int × Str)) (x : Ex) (r : Rd) (p : List (Int × Str)) (l : List Tok) (z : Ex × Rd), r.l.drop r.i = l → TailT p l → r.code = 0 → 1 ≤ least → SplitR x0 A x →
  (∀ q p', p = q :: p' → ∀ a ∈ A, bindB q.1 ≤ bindB a.1) → Rd.twoL n least x r = some z →
  ∃ p1 p2, p = p1 ++ p2 ∧ SplitR x0 (A ++ p1) z.1 ∧ (∀ q ∈ p1, least ≤ bindB q.1) ∧ (∀ q p', p2 = q :: p' → bindB q.1 < least) ∧ z.2 = { r with i := r.i + 2 * p1.length } ∧ TailT p2 (l.drop (2 * p1.length))

theorem row_one_name {n : Nat} {r : Rd} {t0 : Tok} {l : List Tok} {x : Ex × Rd} (hd : r.l.drop r.i = t0 :: l) (hk : t0.kind = 1) (hc : r.code = 0) (h : Rd.one n r = some x) : x = (exName t0.text, { r with i := r.i + 1 }) := by
  cases n with
  | zero => simp only [Rd.one] at h; cases h
  | succ n =>
    simp only [Rd.one] at h
    rw [Option.bind_eq_some_iff] at h
    obtain ⟨t, h1, h⟩ := h
    have ht := (peek_get h1).2.1
    rw [(drop_get hd).1] at ht
    cases ht
    have hg : r.good = true := by simp [hc]
    simp only [hg, hk, Bool.not_true, Bool.false_eq_true, ↓reduceIte] at h
    have : ((1 : Int) == 2) = false := rfl
    simp only [this, BEq.rfl, Bool.false_eq_true, ↓reduceIte] at h
    cases h
    rfl

theorem two_both : ∀ n, KB_two n ∧ KB_twoL n := by
  intro n
  induction n with
  | zero =>
    constructor
    · intro _ _ _ _ _ _ _ _ _ _ _ h; simp only [Rd.two] at h; cases h
    · intro _ _ _ _ _ _ _ _ _ _ _ _ _ _ h; simp only [Rd.twoL] at h; cases h
  | succ n ih =>
    obtain ⟨i1, i2⟩ := ih
    constructor
    · intro least r t0 p l x hd hk hT hc hl h
      simp only [Rd.two] at h
      rw [Option.bind_eq_some_iff] at h
      obtain ⟨y, h1, h⟩ := h
      cases row_one_name hd hk hc h1
      exact i2 least (exName t0.text) [] (exName t0.text) { r with i := r.i + 1 } p l x (drop_get hd).2 hT hc hl (.nil _) (fun _ _ _ a ha => by cases ha) h
    · intro least x0 A x r p l z hd hT hc hl hS hA h
      simp only [Rd.twoL] at h
      have hg : r.good = true := by simp [hc]
      rw [if_pos hg, Option.bind_eq_some_iff] at h
      obtain ⟨t, h1, h⟩ := h
      have ht := (peek_get h1).2.1
      have stop : (decide ((opOf t).2 < least) || (opOf t).1 == 0) = true → (∀ q p', p = q :: p' → bindB q.1 < least) → ∃ p1 p2, p = p1 ++ p2 ∧ SplitR x0 (A ++ p1) z.1 ∧ (∀ q ∈ p1, least ≤ bindB q.1) ∧ (∀ q p', p2 = q :: p' → bindB q.1 < least) ∧ z.2 = { r with i := r.i + 2 * p1.length } ∧ TailT p2 (l.drop (2 * p1.length)) := by
        intro hb hq
        rw [if_pos hb] at h
        cases h
        exact ⟨[], p, rfl, by simpa using hS, by simp, hq, rfl, hT⟩
      cases p with
      | nil =>
        obtain ⟨t', rr, rfl, h0⟩ := hT
        rw [(drop_get hd).1] at ht
        cases ht
        exact stop (by simp [opOf, h0]) (by simp)
      | cons q p =>
        obtain ⟨op, y⟩ := q
        obtain ⟨s, u, rr, rfl, s4, st, hop, u1, uy, hT'⟩ := hT
        rw [(drop_get hd).1] at ht
        cases ht
        have hb := bindB_pos hop
        have ho : opOf t = (op, bindB op) := by rw [binds_op t s4, st, hb.2.2]; rfl
        rw [ho] at stop
        simp only [ho] at h
        have o0 : (op == 0) = false := by
          simp only [Bool.and_eq_true, decide_eq_true_eq] at hop
          exact beq_eq_false_iff_ne.2 (by omega)
        by_cases hlt : bindB op < least
        · exact stop (by simp [hlt]) (fun q p' e => by cases e; exact hlt)
        · have hcn : (decide (bindB op < least) || op == 0) = false := by simp [hlt, o0]
          rw [if_neg (by rw [hcn]; simp), Option.bind_eq_some_iff] at h
          obtain ⟨w, h2, h⟩ := h
          obtain ⟨p1, p2, rfl, g1, g2, g3, g4, g5⟩ := i1 (bindB op + 1) { r with i := r.i + 1 } u p rr w (drop_get hd).2 u1 hT' hc (by omega) h2
          rw [uy] at g1
          have hA1 := hA _ _ rfl
          have hS' : SplitR x0 (A ++ (op, y) :: p1) (exTwo op x w.1) := .cut _ _ _ _ _ _ _ hS g1 hA1 (fun q hq => by have := g2 q hq; omega)
          obtain ⟨w1, w2⟩ := w
          dsimp only at g4 h
          subst g4
          have hd2 : r.l.drop (r.i + 1 + 1 + 2 * p1.length) = rr.drop (2 * p1.length) := by
            rw [← (drop_get (drop_get hd).2).2, List.drop_drop]
          obtain ⟨q1, q2, rfl, k1, k2, k3, k4, k5⟩ := i2 least x0 (A ++ (op, y) :: p1) (exTwo op x w1) { r with i := r.i + 1 + 1 + 2 * p1.length } p2 (rr.drop (2 * p1.length)) z hd2 g5 hc hl hS'
            (fun q p' e a ha => by
              have hq := g3 q p' e
              rcases List.mem_append.1 ha with ha | ha
              · have := hA1 a ha; dsimp only at this; omega
              · rcases List.mem_cons.1 ha with rfl | ha
                · dsimp only; omega
                · have := g2 a ha; omega) h
          refine ⟨(op, y) :: (p1 ++ q1), q2, by simp, by simpa using k1, fun q hq => ?_, k3, ?_, ?_⟩
          · rcases List.mem_cons.1 hq with rfl | hq
            · dsimp only; omega
            · rcases List.mem_append.1 hq with hq | hq
              · have := g2 q hq; omega
              · exact k2 q hq
          · rw [k4]
            simp only [List.length_cons, List.length_append, Rd.mk.injEq, true_and, and_true]
            omega
          · have : 2 * ((op, y) :: (p1 ++ q1)).length = 2 * p1.length + 2 * q1.length + 2 := by simp only [List.length_cons, List.length_append]; omega
            rw [this]
            simp only [List.drop_succ_cons]
            rw [← List.drop_drop]
            exact k5

end Go.Abs

/-! BindsL2 -/

namespace Go.Abs
set_option linter.unusedSimpArgs false
set_option linter.unusedVariables false

/-! ### The documents' way -/

def AtB (d : List Int) (al : Nat × Int) : Prop := (d = [] ∧ al.2 = 9) ∨ ∃ o1 op o2, d = o1 ++ op :: o2 ∧ o1.length = al.1 ∧ bindB op = al.2 ∧ (∀ o ∈ o1, bindB op ≤ bindB o) ∧ ∀ o ∈ o2, bindB op < bindB o
theorem AtB.go : ∀ (r : List Int) {d : List Int} {al : Nat × Int}, (∀ o ∈ r, bindB o ≤ 6) → AtB d al → AtB (d ++ r) (atB r d.length al)
  | [], d, al, _, h => by simpa [atB] using h
  | op :: r, d, al, h6, h => by
    have hop := h6 op (by simp)
    have := AtB.go r (d := d ++ [op]) (al := stepB d.length op al) (fun o ho => h6 o (by simp [ho])) (by
      unfold stepB
      split
      · rename_i hle
        refine .inr ⟨d, op, [], by simp, rfl, rfl, fun o ho => ?_, by simp⟩
        rcases h with ⟨rfl, _⟩ | ⟨o1, p, o2, rfl, _, g2, g3, g4⟩
        · cases ho
        · rcases List.mem_append.1 ho with ho | ho
          · have := g3 o ho; omega
          · rcases List.mem_cons.1 ho with rfl | ho
            · omega
            · have := g4 o ho; omega
      · rename_i hle
        rcases h with ⟨rfl, e⟩ | ⟨o1, p, o2, rfl, g1, g2, g3, g4⟩
        · omega
        · refine .inr ⟨o1, p, o2 ++ [op], by simp, g1, g2, g3, fun o ho => ?_⟩
          rcases List.mem_append.1 ho with ho | ho
          · exact g4 o ho
          · simp at ho; subst ho; omega)
    simpa [atB] using this

theorem atB_split {ops : List Int} (h : ops ≠ []) (h6 : ∀ o ∈ ops, bindB o ≤ 6) : ∃ o1 op o2, ops = o1 ++ op :: o2 ∧ o1.length = (atB ops 0 (0, 9)).1 ∧ (∀ o ∈ o1, bindB op ≤ bindB o) ∧ ∀ o ∈ o2, bindB op < bindB o := by
  have := AtB.go ops (d := []) (al := (0, 9)) h6 (.inl ⟨rfl, rfl⟩)
  rcases this with ⟨e, _⟩ | ⟨o1, op, o2, e, g1, _, g3, g4⟩
  · exact absurd (by simpa using e) h
  · exact ⟨o1, op, o2, by simpa using e, g1, g3, g4⟩

theorem splitB_R : ∀ (n : Nat) (x : Str) (xs : List Str) (ops : List Int), ops.length < n → xs.length = ops.length → (∀ o ∈ ops, bindB o ≤ 6) → SplitR (exName x) (ops.zip xs) (splitB n (x :: xs) ops) := by
  intro n
  induction n with
  | zero => intro x xs ops h; omega
  | succ n ih =>
    intro x xs ops hn hx h6
    by_cases h0 : ops = []
    · subst h0
      simp only [splitB, List.length_nil, ↓reduceIte, List.zip_nil_left]
      exact .nil _
    · obtain ⟨o1, op, o2, e, g1, g3, g4⟩ := atB_split h0 h6
      have hl : ¬ ops.length = 0 := fun f => h0 (List.eq_nil_of_length_eq_zero f)
      simp only [splitB, if_neg hl]
      rw [← g1]
      subst e
      simp only [List.length_append, List.length_cons] at hx hn
      have hxs : xs = xs.take o1.length ++ (xs.getD o1.length [] :: xs.drop (o1.length + 1)) := by
        have : o1.length < xs.length := by omega
        rw [List.getD_eq_getElem?_getD, List.getElem?_eq_getElem this]
        simp
      have l1 : (xs.take o1.length).length = o1.length := by rw [List.length_take]; omega
      have l2 : (xs.drop (o1.length + 1)).length = o2.length := by rw [List.length_drop]; omega
      generalize xs.take o1.length = x1 at hxs l1
      generalize xs.drop (o1.length + 1) = x2 at hxs l2
      generalize xs.getD o1.length [] = y at hxs
      subst hxs
      have e1 : (x :: (x1 ++ y :: x2)).take (o1.length + 1) = x :: x1 := by rw [← l1]; simp
      have e2 : (x :: (x1 ++ y :: x2)).drop (o1.length + 1) = y :: x2 := by rw [← l1]; simp
      have e3 : (o1 ++ op :: o2).take o1.length = o1 := by simp
      have e4 : (o1 ++ op :: o2).drop (o1.length + 1) = o2 := by simp
      have e5 : (o1 ++ op :: o2).getD o1.length 0 = op := by simp
      rw [e1, e2, e3, e4, e5, List.zip_append (by rw [l1]), List.zip_cons_cons]
      refine .cut _ _ _ _ _ _ _ (ih x x1 o1 (by omega) l1 (fun o ho => h6 o (by simp [ho]))) (ih y x2 o2 (by omega) l2 (fun o ho => h6 o (by simp [ho]))) (fun q hq => ?_) (fun q hq => ?_)
      · exact g3 q.1 (List.of_mem_zip (a := q.1) (b := q.2) hq).1
      · exact g4 q.1 (List.of_mem_zip (a := q.1) (b := q.2) hq).1

/-! ### The text -/

def tailB : List Str → List Int → Str
  | x :: xs, op :: ops => signR op ++ (x ++ tailB xs ops)
  | _, _ => []

theorem row_tail {names : List Str} {ops : List Int} (h : names.length = ops.length + 1) : ∀ i, i < names.length → rowB names ops (i + 1) ++ tailB (names.drop (i + 1)) (ops.drop i) = names.getD 0 [] ++ tailB (names.drop 1) ops
  | 0, _ => by simp [rowB]
  | i + 1, hi => by
    rw [← row_tail h i (by omega)]
    have h1 : names.drop (i + 1) = names.getD (i + 1) [] :: names.drop (i + 2) := by
      rw [List.getD_eq_getElem?_getD, List.getElem?_eq_getElem hi]
      simp
    have h2 : ops.drop i = ops.getD i 0 :: ops.drop (i + 1) := by
      have : i < ops.length := by omega
      rw [List.getD_eq_getElem?_getD, List.getElem?_eq_getElem this]
      simp
    rw [h1, h2]
    simp only [tailB, rowB, Nat.add_one_ne_zero, ↓reduceIte, Nat.add_sub_cancel, List.append_assoc]

theorem row_eq {x : Str} {xs : List Str} {ops : List Int} (h : xs.length = ops.length) : rowB (x :: xs) ops (x :: xs).length = x ++ tailB xs ops := by
  have := row_tail (names := x :: xs) (ops := ops) (by simp [h]) xs.length (by simp)
  simp only [List.drop_succ_cons, List.drop_length, List.drop_zero, List.getD_cons_zero] at this
  rw [← this]
  cases hh : ops.drop xs.length <;> simp [tailB]

theorem sign2_letter {c d : UInt8} (h : isL d = true) : sign2 [c, d] = false := by
  have a : d ≠ 61 := by rintro rfl; exact absurd h (by decide)
  have b : d ≠ 38 := by rintro rfl; exact absurd h (by decide)
  have e : d ≠ 124 := by rintro rfl; exact absurd h (by decide)
  simp [sign2, a, b, e]

theorem tokE_sign {op : Int} (h : (decide (5 ≤ op) && decide (op ≤ 17)) = true) {c : UInt8} (hc : isL c = true) (pos : Nat) (r : Str) : tokE pos (signR op ++ c :: r) = .inl ⟨4, signR op, 0, pos⟩ := by
  have s2 := fun a => sign2_letter (c := a) hc
  rcases signs h with rfl | rfl | rfl | rfl | rfl | rfl | rfl | rfl | rfl | rfl | rfl | rfl | rfl
  all_goals simp (decide := true) [signR, tokE, signL, s2]

def NoGo : Str → Prop
  | [] => True
  | c :: _ => isL c = false ∧ isD c = false
theorem tokE_name {c : UInt8} (hc : isL c = true) (pos : Nat) {r : Str} (hr : NoGo r) : tokE pos (c :: r) = .inl ⟨1, [c], 0, pos⟩ := by
  have h0 : runL r = 0 := by
    cases r with
    | nil => rfl
    | cons d r => simp only [NoGo] at hr; simp [runL, hr.1, hr.2]
  have h1 : runL (c :: r) = 1 := by simp [runL, hc, h0]
  simp [tokE, hc, h1, isWord]

theorem sign_nogo {op : Int} (h : (decide (5 ≤ op) && decide (op ≤ 17)) = true) (r : Str) : NoGo (signR op ++ r) := by
  rcases signs h with rfl | rfl | rfl | rfl | rfl | rfl | rfl | rfl | rfl | rfl | rfl | rfl | rfl <;> exact ⟨by decide, by decide⟩

theorem tail_lx : ∀ (xs : List Str) (ops : List Int) (pos : Nat), xs.length = ops.length → (∀ o ∈ ops, (decide (5 ≤ o) && decide (o ≤ 17)) = true) → (∀ x ∈ xs, ∃ c, x = [c] ∧ isL c = true) →
    NoGo (tailB xs ops) ∧ (tailB xs ops).length ≤ 3 * ops.length ∧ ∃ l, Lx pos (tailB xs ops) l ∧ l.length = 2 * ops.length ∧ ∀ n, TailT (ops.zip xs) (l ++ [tEnd n])
  | [], [], pos, _, _, _ => ⟨trivial, Nat.le_refl _, [], .nil _, rfl, fun n => ⟨tEnd n, [], rfl, rfl⟩⟩
  | x :: xs, op :: ops, pos, hl, ho, hx => by
    obtain ⟨c, rfl, hc⟩ := hx _ (List.mem_cons_self ..)
    have hop := ho _ (List.mem_cons_self ..)
    obtain ⟨g1, g2, l, g3, g4, g5⟩ := tail_lx xs ops (pos + (signR op).length + 1) (by simpa using hl) (fun o h => ho o (List.mem_cons_of_mem _ h)) (fun o h => hx o (List.mem_cons_of_mem _ h))
    have sl := signR_len hop
    refine ⟨sign_nogo hop _, by simp only [tailB, List.length_append, List.length_cons, List.length_nil]; omega, ⟨4, signR op, 0, (pos : Nat)⟩ :: ⟨1, [c], 0, ((pos + (signR op).length : Nat) : Int)⟩ :: l, ?_, by simp [g4]; omega, fun n => ?_⟩
    · simp only [tailB, List.cons_append, List.nil_append]
      refine .tok' (tokE_sign hop hc pos _) ?_
      simp only [List.drop_left]
      refine .tok' (tokE_name hc _ g1) ?_
      simpa using g3
    · simp only [List.zip_cons_cons, TailT]
      exact ⟨_, _, _, rfl, rfl, rfl, hop, rfl, rfl, g5 n⟩
  | [], _ :: _, _, h, _, _ => by simp at h
  | _ :: _, [], _, h, _, _ => by simp at h

/-- What the program makes of such a row. -/
theorem row_read {c : UInt8} {xs : List Str} {ops : List Int} (hl : xs.length = ops.length) (hm : ops.length ≤ 14) (ho : ∀ o ∈ ops, (decide (5 ≤ o) && decide (o ≤ 17)) = true) (hc : isL c = true) (hx : ∀ x ∈ xs, ∃ c, x = [c] ∧ isL c = true) {p : Ex × Int × Int}
    (h : exprM fuelM ([c] ++ tailB xs ops) = some p) : p = (splitB (ops.length + 1) ([c] :: xs) ops, 0, 0) := by
  obtain ⟨g1, g2, l, g3, g4, g5⟩ := tail_lx xs ops 1 hl ho hx
  have hlx : Lx 0 ([c] ++ tailB xs ops) (⟨1, [c], 0, ((0 : Nat) : Int)⟩ :: l) := .tok' (tokE_name hc 0 g1) (by simpa using g3)
  have hlex := lexAll_Lx hlx (by simp only [List.length_append, List.length_cons, List.length_nil]; omega) (by simp only [List.length_cons]; omega)
  unfold exprM at h
  rw [hlex] at h
  simp only [bne_self_eq_false, Bool.false_eq_true, ↓reduceIte] at h
  rw [Option.bind_eq_some_iff] at h
  obtain ⟨w, hw, h⟩ := h
  unfold Rd.whole at hw
  rw [Option.bind_eq_some_iff] at hw
  obtain ⟨t, ht, hw⟩ := hw
  rw [Option.bind_eq_some_iff] at hw
  obtain ⟨x, h2, hw⟩ := hw
  obtain ⟨p1, p2, e, k1, k2, k3, k4, k5⟩ := (two_both _).1 1 _ _ _ _ _ (by rfl) rfl (g5 _) rfl (by omega) h2
  have hp2 : p2 = [] := by
    cases p2 with
    | nil => rfl
    | cons q p2 =>
      have hq := k3 _ _ rfl
      have : q ∈ ops.zip xs := by rw [e]; simp
      have := (bindB_pos (ho q.1 (List.of_mem_zip (a := q.1) (b := q.2) this).1)).1
      omega
  subst hp2
  simp only [List.append_nil] at e
  subst e
  have hR := splitB_R (ops.length + 1) [c] xs ops (by omega) hl (fun o h => (bindB_pos (ho o h)).2.1)
  have hxe := k1.uniq _ hR
  have hd := k1.depth rfl
  have hz : (ops.zip xs).length ≤ 14 := by simp; omega
  obtain ⟨x1, x2⟩ := x
  dsimp only at hxe hd k4 hw
  have hg : x2.good = true := by rw [k4]; rfl
  rw [if_pos hg, Option.bind_eq_some_iff] at hw
  obtain ⟨d, h3, hw⟩ := hw
  have hdd : d = (x1.depth : Int) := by unfold depthO at h3; split at h3 <;> cases h3; rfl
  rw [if_neg (by simp only [decide_eq_true_eq]; omega)] at hw
  cases hw
  rw [Option.bind_eq_some_iff] at h
  obtain ⟨b, hb, h⟩ := h
  have hb' : b = false := by
    dsimp only at hb
    unfold Rd.notEnd at hb
    rw [if_pos hg, Option.bind_eq_some_iff] at hb
    obtain ⟨u, hu, hb⟩ := hb
    have hu := (peek_get hu).2.1
    obtain ⟨t', rr, e1, e0⟩ := k5
    have : x2.l.drop x2.i = t' :: rr := by
      rw [k4]
      dsimp only [rd0]
      rw [← e1]
      simp only [List.cons_append, Nat.zero_add, Nat.add_comm 1, List.drop_succ_cons]
    rw [(drop_get this).1] at hu
    cases hu
    cases hb
    simp [e0]
  subst hb'
  dsimp only at h
  rw [if_neg (by simp), hg] at h
  simp only [Bool.not_true, Bool.false_eq_true, ↓reduceIte, Option.some.injEq] at h
  rw [← h, hxe]

end Go.Abs

/-! LawBinds -/

namespace Go.Abs

set_option maxRecDepth 8000
set_option linter.unusedSimpArgs false
set_option linter.unusedVariables false
open Go.Proofs

def signOf (n : Int) : Int := 5 + modM n 13
def firstN (ns : List Int) : List Int := ns.take 14

theorem signOf_ok (n : Int) : (decide (5 ≤ signOf n) && decide (signOf n ≤ 17)) = true := by
  have := modM_lt n (k := 13) (by omega)
  simp only [Bool.and_eq_true, decide_eq_true_eq]; unfold signOf; omega

theorem operandsM_get : ∀ n, ∀ x ∈ operandsM n, n ≤ 26 → ∃ c, x = [c] ∧ isL c = true
  | 0, x, h, _ => by simp [operandsM] at h
  | n + 1, x, h, hn => by
    simp only [operandsM] at h
    rcases List.mem_append.1 h with h | h
    · exact operandsM_get n x h (by omega)
    · simp only [List.mem_singleton] at h
      refine ⟨_, h, ?_⟩
      have e : ((UInt8.ofNat (97 + n)).toNat : Int) = ((97 + n : Nat) : Int) := by
        have : (UInt8.ofNat (97 + n)).toNat = (97 + n) % 256 := by simp
        rw [this]; omega
      simp only [isL, e, Bool.and_eq_true, decide_eq_true_eq]
      omega

theorem binds_row (ops : List Int) (hl : ops.length ≤ 14) (ho : ∀ o ∈ ops, (decide (5 ≤ o) && decide (o ≤ 17)) = true) :
    RowOk (operandsM (ops.length + 1)) ops ∧ (rowB (operandsM (ops.length + 1)) ops (operandsM (ops.length + 1)).length).length ≤ 100 ∧
      exprM fuelM (rowB (operandsM (ops.length + 1)) ops (operandsM (ops.length + 1)).length) = some (splitB (ops.length + 1) (operandsM (ops.length + 1)) ops, 0, 0) ∧ (splitB (ops.length + 1) (operandsM (ops.length + 1)) ops).size < 100000 := by
  have hn := operandsM_len (ops.length + 1)
  have hg := fun x hx => operandsM_get (ops.length + 1) x hx (by omega)
  generalize operandsM (ops.length + 1) = names at hn hg
  cases names with
  | nil => simp at hn
  | cons x xs =>
    have hxs : xs.length = ops.length := by simpa using hn
    obtain ⟨c, rfl, hc⟩ := hg x (by simp)
    have hx : ∀ x ∈ xs, ∃ c, x = [c] ∧ isL c = true := fun y hy => hg y (List.mem_cons_of_mem _ hy)
    rw [row_eq hxs]
    obtain ⟨_, g2, _⟩ := tail_lx xs ops 0 hxs ho hx
    obtain ⟨p, hp, hsz⟩ := exprM_t ([c] ++ tailB xs ops)
    have := row_read hxs hl ho hc hx hp
    subst this
    refine ⟨⟨hn, by omega, fun y hy => ?_, ho⟩, by simp only [List.length_append, List.length_cons, List.length_nil]; omega, hp, hsz⟩
    obtain ⟨d, rfl, _⟩ := hg y hy
    simp

theorem ParseBinds_true (ns : List Int) : Fun Try.prog n_law4_ParseBinds [.slice .shared 1 (ns.map encInt)] S0 (.bool true) S0 := by
  have hl : (ns.take 14).length ≤ 14 := by rw [List.length_take]; omega
  have hmin : (if (14 : Int) < (ns.length : Int) then (14 : Int) else (ns.length : Int)) = ((ns.take 14).length : Int) := by rw [List.length_take]; split <;> omega
  have h0 : (0 : Int) ≤ ((ns.take 14).length : Int) := by omega
  have hmn : ((ns.take 14).length : Int) ≤ (ns.length : Int) := by rw [List.length_take]; omega
  have htk : ns.take (ns.take 14).length = ns.take 14 := by
    rw [List.length_take]
    by_cases h : ns.length ≤ 14
    · rw [Nat.min_eq_right h, List.take_length, List.take_of_length_le h]
    · rw [Nat.min_eq_left (by omega)]
  generalize ns.take 14 = ms at hl hmin hmn htk h0
  obtain ⟨k1, k2, k3, k4⟩ := binds_row (ms.map signOf) (by simpa using hl) (fun o ho => by obtain ⟨n, _, rfl⟩ := List.mem_map.1 ho; exact signOf_ok n)
  rw [List.length_map] at k1 k2 k3 k4
  have t1 := fun s => operands_s (m := ((ms.length + 1 : Nat) : Int)) (by simp; omega) s
  rw [Int.toNat_natCast] at t1
  have t2 := fun s => Row_s k1 s
  have t3 := fun s => Expr_s k3 (by omega) s
  have t4 := fun s => Split_s (ms.length + 1) (by simp) k1 s
  have t5 := fun s => EqExpr_s (x := splitB (ms.length + 1) (operandsM (ms.length + 1)) (ms.map signOf)) (y := splitB (ms.length + 1) (operandsM (ms.length + 1)) (ms.map signOf)) (by omega) s
  rw [Ex.beq_refl] at t5
  unfold S0
  refine Fun.go has_law4_ParseBinds rfl fun B Q hB hQ => ?_
  have hlt : 0 < 1 := Nat.zero_lt_one
  have hget : 0 < 1 := Nat.zero_lt_one
  have hpu : 0 < 1 := Nat.zero_lt_one
  have hinc : 0 < 1 := Nat.zero_lt_one
  repeat' (first
 | simp only [go_sem, hlt, hget, hpu, hinc, Int.reduceLE, ↓reduceIte, reduceCtorEq, Nat.reduceEqDiff, Nat.reduceLeDiff, Nat.reduceAdd, Nat.reduceMul, Nat.reduceSub, Nat.reduceLT, hmin, hmn, h0, htk, or_true, true_and, Int.le_refl, Int.toNat_natCast, ← List.map_take]
 | (with_reducible refine CU (parsed_0 _) ?_)
 | (with_reducible first | refine CB_ofT (by assumption) fun hc => ?_ | refine CB_ofF (by assumption) fun hc => ?_ | refine CB_split (fun hc => ?_) fun hc => ?_) <;> (try simp only [hc, bs, ↓reduceIte] at h) <;> (try simp only [hc])
 | ((with_reducible first | refine leafR hQ ?_ | refine leafN hQ ?_); (try cases h); simp only [resL, oneD, Option.some.injEq, exists_eq_left', go_sem, hlt, hget, hpu, hinc, Int.reduceLE, ↓reduceIte, reduceCtorEq, Nat.reduceEqDiff, Nat.reduceLeDiff, Nat.reduceAdd, Nat.reduceMul, Nat.reduceSub, Nat.reduceLT, hmin, hmn, h0, htk, or_true, true_and, Int.le_refl, Int.toNat_natCast, ← List.map_take]; repeat' (first | exact Ok.out | with_reducible refine And.intro ?_ ?_ | (simp; done)))
 | (cases h; replace h := hr; clear hr; (try simp only [bs, ↓reduceIte] at h))
 | (cases h; done))
  refine SemL.tokT 3 1 rfl ?_
  simp only [go_sem, hlt, hget, hpu, hinc, Int.reduceLE, ↓reduceIte, reduceCtorEq, Nat.reduceEqDiff, Nat.reduceLeDiff, Nat.reduceAdd, Nat.reduceMul, Nat.reduceSub, Nat.reduceLT]
  refine SemL.re _ _ 1 1 (by rw [hB]; exact Nat.le_of_ble_eq_true rfl) (by rw [hB]; exact Nat.le_of_ble_eq_true rfl) ?_ ?_ (SemL.ind (ι := List Int × Nat × List Int) (fun i => ms.drop i.2.1 = i.1 ∧ i.2.2 = (ms.take i.2.1).map signOf ∧ i.2.1 ≤ ms.length) (fun i => i.1.length)
    (fun i => [(2, .bool false), (3, .slice (.tok 0) 1 (i.2.2.map encInt)), (16, .slice .shared 1 (ms.map encInt)), (17, .int .i64 (ms.length : Int)), (18, .int .i64 (i.2.1 : Int))]) (fun i => ⟨[], [some i.2.1]⟩) ?_ (ms, 0, []) ⟨rfl, rfl, Nat.zero_le _⟩)
  · (simp only [go_sem, hlt, hget, hpu, hinc, Int.reduceLE, ↓reduceIte, reduceCtorEq, Nat.reduceEqDiff, Nat.reduceLeDiff, Nat.reduceAdd, Nat.reduceMul, Nat.reduceSub, Nat.reduceLT]; repeat' (first | exact Ok.out | with_reducible refine And.intro ?_ ?_))
  · (simp only [go_sem, hlt, hget, hpu, hinc, Int.reduceLE, ↓reduceIte, reduceCtorEq, Nat.reduceEqDiff, Nat.reduceLeDiff, Nat.reduceAdd, Nat.reduceMul, Nat.reduceSub, Nat.reduceLT]; repeat' (first | exact Ok.out | with_reducible refine And.intro ?_ ?_))
  rintro ⟨rest, k, out⟩ ⟨g1, g2, g3⟩ IH
  dsimp only at g1 g2 g3
  cases rest with
  | nil =>
    have hlt := drop_nil g1
    have hk : k = ms.length := by have := List.drop_eq_nil_iff.1 g1; omega
    subst hk
    rw [List.take_length] at g2
    subst g2
    simp only [go_sem, List.length_map] at t1 t2 t3 t4 t5
    have w1 : IntKind.wrap .i64 ((ms.length : Int) + 1) = ((ms.length + 1 : Nat) : Int) := by rw [wrap_ok] <;> omega
    repeat' (first
 | simp only [go_sem, hlt, hget, hpu, hinc, Int.reduceLE, ↓reduceIte, reduceCtorEq, Nat.reduceEqDiff, Nat.reduceLeDiff, Nat.reduceAdd, Nat.reduceMul, Nat.reduceSub, Nat.reduceLT, w1, List.length_map]
 | (with_reducible refine CU (t1 _) ?_)
 | (with_reducible first | refine CB_ofT (by assumption) fun hc => ?_ | refine CB_ofF (by assumption) fun hc => ?_ | refine CB_split (fun hc => ?_) fun hc => ?_) <;> (try simp only [hc, bs, ↓reduceIte] at h) <;> (try simp only [hc])
 | ((with_reducible first | refine leafR hQ ?_ | refine leafN hQ ?_); (try cases h); simp only [resL, oneD, Option.some.injEq, exists_eq_left', go_sem, hlt, hget, hpu, hinc, Int.reduceLE, ↓reduceIte, reduceCtorEq, Nat.reduceEqDiff, Nat.reduceLeDiff, Nat.reduceAdd, Nat.reduceMul, Nat.reduceSub, Nat.reduceLT, w1, List.length_map]; repeat' (first | exact Ok.out | with_reducible refine And.intro ?_ ?_ | (simp; done)))
 | (cases h; replace h := hr; clear hr; (try simp only [bs, ↓reduceIte] at h))
 | (cases h; done))
    refine CL.useW (t2 _) Ok.out ?_
    have z0 : ((0 : Int) == 0) = true := rfl
    repeat' (first
 | simp only [go_sem, hlt, hget, hpu, hinc, Int.reduceLE, ↓reduceIte, reduceCtorEq, Nat.reduceEqDiff, Nat.reduceLeDiff, Nat.reduceAdd, Nat.reduceMul, Nat.reduceSub, Nat.reduceLT, w1, List.length_map, encF, z0]
 | (with_reducible refine CU (t3 _) ?_)
 | (with_reducible first | refine CB_ofT (by assumption) fun hc => ?_ | refine CB_ofF (by assumption) fun hc => ?_ | refine CB_split (fun hc => ?_) fun hc => ?_) <;> (try simp only [hc, bs, ↓reduceIte] at h) <;> (try simp only [hc])
 | ((with_reducible first | refine leafR hQ ?_ | refine leafN hQ ?_); (try cases h); simp only [resL, oneD, Option.some.injEq, exists_eq_left', go_sem, hlt, hget, hpu, hinc, Int.reduceLE, ↓reduceIte, reduceCtorEq, Nat.reduceEqDiff, Nat.reduceLeDiff, Nat.reduceAdd, Nat.reduceMul, Nat.reduceSub, Nat.reduceLT, w1, List.length_map, encF, z0]; repeat' (first | exact Ok.out | with_reducible refine And.intro ?_ ?_ | (simp; done)))
 | (cases h; replace h := hr; clear hr; (try simp only [bs, ↓reduceIte] at h))
 | (cases h; done))
    refine CL.useW (t4 _) Ok.out ?_
    repeat' (first
 | simp only [go_sem, hlt, hget, hpu, hinc, Int.reduceLE, ↓reduceIte, reduceCtorEq, Nat.reduceEqDiff, Nat.reduceLeDiff, Nat.reduceAdd, Nat.reduceMul, Nat.reduceSub, Nat.reduceLT, w1, List.length_map, encF, z0]
 | (with_reducible refine CU (t5 _) ?_)
 | (with_reducible first | refine CB_ofT (by assumption) fun hc => ?_ | refine CB_ofF (by assumption) fun hc => ?_ | refine CB_split (fun hc => ?_) fun hc => ?_) <;> (try simp only [hc, bs, ↓reduceIte] at h) <;> (try simp only [hc])
 | ((with_reducible first | refine leafR hQ ?_ | refine leafN hQ ?_); (try cases h); simp only [resL, oneD, Option.some.injEq, exists_eq_left', go_sem, hlt, hget, hpu, hinc, Int.reduceLE, ↓reduceIte, reduceCtorEq, Nat.reduceEqDiff, Nat.reduceLeDiff, Nat.reduceAdd, Nat.reduceMul, Nat.reduceSub, Nat.reduceLT, w1, List.length_map, encF, z0]; repeat' (first | exact Ok.out | with_reducible refine And.intro ?_ ?_ | (simp; done)))
 | (cases h; replace h := hr; clear hr; (try simp only [bs, ↓reduceIte] at h))
 | (cases h; done))
  | cons n rest =>
    obtain ⟨hget, g4, hlt, g5⟩ := drop_cons g1
    have hm := fun s => Mod_s n (k := 13) (by omega) (by omega) s
    have hs := signOf_ok n
    simp only [Bool.and_eq_true, decide_eq_true_eq] at hs
    have w1 : IntKind.wrap .i64 (5 + modM n 13) = signOf n := wrap_ok (by unfold signOf at hs; omega) (by unfold signOf at hs; omega)
    have w3 : IntKind.wrap .i64 ((k : Int) + 1) = ((k + 1 : Nat) : Int) := by rw [wrap_ok] <;> omega
    have ol : out.length = k := by rw [g2]; simp; omega
    have hpu : (k + 1) * 9 ≤ maxStr := by unfold maxStr; omega
    have hnx : out ++ [signOf n] = (ms.take (k + 1)).map signOf := by rw [g2, List.take_add_one, hget]; simp
    repeat' (first
 | simp only [go_sem, hlt, hget, hpu, hinc, Int.reduceLE, ↓reduceIte, reduceCtorEq, Nat.reduceEqDiff, Nat.reduceLeDiff, Nat.reduceAdd, Nat.reduceMul, Nat.reduceSub, Nat.reduceLT, w1, w3, ol]
 | (with_reducible refine CU (hm _) ?_)
 | (with_reducible first | refine CB_ofT (by assumption) fun hc => ?_ | refine CB_ofF (by assumption) fun hc => ?_ | refine CB_split (fun hc => ?_) fun hc => ?_) <;> (try simp only [hc, bs, ↓reduceIte] at h) <;> (try simp only [hc])
 | ((with_reducible first | refine leafR hQ ?_ | refine leafN hQ ?_); (try cases h); simp only [resL, oneD, Option.some.injEq, exists_eq_left', go_sem, hlt, hget, hpu, hinc, Int.reduceLE, ↓reduceIte, reduceCtorEq, Nat.reduceEqDiff, Nat.reduceLeDiff, Nat.reduceAdd, Nat.reduceMul, Nat.reduceSub, Nat.reduceLT, w1, w3, ol]; repeat' (first | exact Ok.out | with_reducible refine And.intro ?_ ?_ | (simp; done)))
 | (cases h; replace h := hr; clear hr; (try simp only [bs, ↓reduceIte] at h))
 | (cases h; done))
    refine SemL.re _ _ 1 1 (by rw [hB]; exact Nat.le_of_ble_eq_true rfl) (by rw [hB]; exact Nat.le_of_ble_eq_true rfl) ?_ ?_ (IH (rest, k + 1, out ++ [signOf n]) ⟨g4, hnx, g5⟩ (Nat.lt_succ_self _))
    · (simp only [go_sem, hlt, hget, hpu, hinc, Int.reduceLE, ↓reduceIte, reduceCtorEq, Nat.reduceEqDiff, Nat.reduceLeDiff, Nat.reduceAdd, Nat.reduceMul, Nat.reduceSub, Nat.reduceLT, ol]; repeat' (first | exact Ok.out | with_reducible refine And.intro ?_ ?_))
    · (simp only [go_sem, hlt, hget, hpu, hinc, Int.reduceLE, ↓reduceIte, reduceCtorEq, Nat.reduceEqDiff, Nat.reduceLeDiff, Nat.reduceAdd, Nat.reduceMul, Nat.reduceSub, Nat.reduceLT, ol]; repeat' (first | exact Ok.out | with_reducible refine And.intro ?_ ?_))

end Go.Abs

/-! Glue2 -/

namespace Go.Abs

def M0 : Map := ⟨fun _ _ => none, fun _ => 0, fun _ => none⟩

/-- Of what was there nothing turns. -/
def Kept (w w' : World) : Prop := w.keptBut w' (fun _ => False) ∧ ∀ a : Addr, a.block < w.heap.size → w'.frozen? a = w.frozen? a

theorem Kept.frame {w w' : World} (h : Kept w w') (may : MemPlace → Prop) : w.keptBut w' may := World.keptBut_mono (fun _ f => f.elim) h.1

theorem Ext.toKept {M M' : Map} {s' : St} {w w' : World} (e : Ext M S0 w M' s' w') : Kept w w' := by
  have hh : ∀ b, b < w.heap.size → w'.heap[b]? = w.heap[b]? := fun b hb =>
    e.kept b hb (fun o ho => by simp [S0] at ho) (fun t c z hl => by obtain ⟨n, hn⟩ := hl; simp [S0] at hn)
  refine ⟨⟨e.os, e.output, fun i hi => ?_⟩, fun a ha => ?_⟩
  · rw [hh i hi]
    exact (World.keptBut_refl w (fun _ => False)).2.2 i hi
  · simp only [World.frozen?, hh _ ha]

theorem rel0 (G : Nat → Nat → Option Value) (w : World) (h : ∀ b o v, G b o = some v → w.cell? ⟨b, o, none⟩ = some v ∧ v.oneCell' = true) : Rel ⟨G, fun _ => 0, fun _ => none⟩ S0 w :=
  ⟨h, fun o ds e => by simp [S0] at e, fun o ho => by simp [S0] at ho, fun o o' ho => by simp [S0] at ho, fun t n e => by simp [S0] at e,
    fun t b c z o hl => by obtain ⟨n, hn⟩ := hl; simp [S0] at hn, fun t t' b c z c' z' hl => by obtain ⟨n, hn⟩ := hl; simp [S0] at hn⟩

/-- A law is called. -/
theorem law_calls {P : Program} {f : FuncId} {args : List D} {vargs : Array Value} {w : World} {G : Nat → Nat → Option Value} (h : ACalls P f args S0 fun d _ => d = .bool true)
    (hG : ∀ b o v, G b o = some v → w.cell? ⟨b, o, none⟩ = some v ∧ v.oneCell' = true) (hl : vargs.size = args.length)
    (ha : ∀ (i : Nat) (d : D) (v : Value), args[i]? = some d → vargs[i]? = some v → RD ⟨G, fun _ => 0, fun _ => none⟩ S0 d v) :
    Calls P f vargs w fun e w' => e = .returned (.bool true) ∧ Kept w w' := by
  refine (h _ w vargs (rel0 G w hG) hl ha).mono fun e w' hw => ?_
  obtain ⟨M', d, v, s', rfl, rfl, he, _, hv⟩ := hw
  rw [hv.bool_inv]
  exact ⟨rfl, he.toKept⟩

section
variable {P : Program} {H : Type} {enc : TypeId × Value → H}

/-- The row's closing condition, where nothing turns of what was there. -/
theorem post_of_kept {f : Func} {s : ChangeSpec} {apart fresh handsOn again : Bool} {W W' : World} {args : Array Value} {v : Value} {ds gs : List (DataW H)} {before pa pv : List MemPlace}
    (hW : DataW.Whole enc P f.params.toList s.vars apart W args.toList ds gs before)
    (hres : ∀ (b : Nat) (sp : Nat → Bool) (hd : Bool), DataW.TrodAll enc P W' b sp hd f.resultTypes.toList (v.resultList f.resultTypes.size) (s.fn H (ds ++ gs)).results [])
    (hargs : ∀ sp : Nat → Bool, (∀ p ∈ before, sp p.block = true) → DataW.TrodAll enc P W' 0 sp true f.params.toList args.toList (s.fn H (ds ++ gs)).args pa)
    (hvars : ∀ sp : Nat → Bool, (∀ p ∈ before, sp p.block = true) → DataW.TrodVars enc P W' sp s.vars (s.fn H (ds ++ gs)).vars pv)
    (hps : before = pa ++ pv) (hk : Kept W W')
    (hok : ∀ (j : Nat) (t : TypeId) (r : Value), f.resultTypes[j]? = some t → (v.resultList f.resultTypes.size)[j]? = some r → Value.okWide P W' .any 0 t r) :
    s.post enc P f apart fresh handsOn again W args v W' := by
  have hlt : ∀ p ∈ before, p.block < W.heap.size := fun p hp => hW.lt p hp
  have hold : ∀ p ∈ before, (fun b => decide (b < W.heap.size)) p.block = true := fun p hp => by simpa using hlt p hp
  refine ⟨ds, gs, before, [], pa, pv, hW, hres _ _ _, hargs _ hold, hvars _ hold, World.keptBut_mono (fun p hp => ⟨hp, ?_⟩) (hk.frame (· ∈ before)), fun _ => ?_⟩
  · rw [hps, List.mem_append] at hp
    exact Or.inr hp
  · obtain ⟨_, _, _, _, _, hz, hn⟩ := hW
    refine ⟨hok, _, _, ([] ++ pa) ++ pv, ⟨[] ++ pa, pv, ChangeShapes.trodAll_append (hargs _ (fun _ _ => rfl)) (hres _ _ _), hvars _ (fun _ _ => rfl), rfl, ?_, ?_⟩, ?_⟩
    · intro b off hp
      have hp' : MemPlace.cell b off ∈ before := by rw [hps]; simpa using hp
      rw [hk.2 _ (hlt _ hp')]
      exact hz b off hp'
    · intro ha
      have := hn ha
      rw [hps] at this
      simpa using this
    · intro p hp _
      rw [hps]
      simpa using hp
end
end Go.Abs

/-! Join -/

namespace Go.Abs
open Go.RowKit Go.ChangeShapes Go.WideShapes

/-- All that can be read. -/
def memG (w : World) (b o : Nat) : Option Value :=
  match w.cell? ⟨b, o, none⟩ with
  | some v => if v.oneCell' = true then some v else none
  | none => none
theorem memG_ok {w : World} (b o : Nat) (v : Value) (h : memG w b o = some v) : w.cell? ⟨b, o, none⟩ = some v ∧ v.oneCell' = true := by
  unfold memG at h
  split at h
  · split at h
    · cases h; exact ⟨‹_›, ‹_›⟩
    · cases h
  · cases h
/-- All of it is fixed. -/
def memM (w : World) : Map := ⟨memG w, fun _ => 0, fun _ => none⟩

theorem Kept.sameAt {w w' : World} (h : Kept w w') {p : MemPlace} (hp : p.block < w.heap.size) : w.sameAt w' p := by
  have hk := h.1.2.2 p.block hp
  cases p with
  | cell b off =>
    simp only [MemPlace.block] at hk hp
    simp only [World.sameAt, World.cell?]
    split at hk
    · rename_i c t fr c' t' fr' e e'
      rw [e, e']
      simp only [hk.2.2.2 off (fun f => f)]
    · rename_i es clock es' clock' e e'
      rw [e, e']
    · rw [hk]
  | map b =>
    simp only [MemPlace.block] at hk hp
    simp only [World.sameAt]
    split at hk
    · rename_i c t fr c' t' fr' e e'
      rw [e, e']
      obtain ⟨rfl, rfl, hs, hc⟩ := hk
      have : c' = c := by
        apply Array.ext_getElem?
        intro i
        exact hc i (fun f => f)
      rw [this]
    · rename_i es clock es' clock' e e'
      rcases hk with f | ⟨rfl, rfl⟩
      · exact f.elim
      · rw [e, e']
    · exact hk

section
variable {P : Program} {H : Type} {enc : TypeId × Value → H} {T : TypeId → Prop}

theorem args_again (K : Kids P T) (hz : ∀ {t e : TypeId}, T t → P.underlying t = some (.slice e) → 0 < P.cellsOf e) {W W' : World} (hk : Kept W W') {sp : Nat → Bool} :
    ∀ {ts : List TypeId} {vs : List Value} {ds : List (DataW H)} {ps : List MemPlace}, (∀ t ∈ ts, T t) → (∀ p ∈ ps, p.block < W.heap.size) → (∀ p ∈ ps, sp p.block = true) →
      DataW.TrodAll enc P W 0 (fun _ => true) true ts vs ds ps → DataW.TrodAll enc P W' 0 sp true ts vs ds ps
  | [], [], [], _, _, _, _, h => h
  | t :: ts, v :: vs, d :: ds, ps, hT, hlt, hs, ⟨p, q, ⟨n, h1⟩, h2, e⟩ => by
    subst e
    refine ⟨p, q, ⟨n, DataW.trod_stays K hz (fun f => by cases f) (hT t (List.mem_cons_self ..)) h1 (fun x hx => hk.sameAt (hlt x (List.mem_append_left _ hx))) (fun x hx => hs x (List.mem_append_left _ hx))⟩, ?_, rfl⟩
    exact args_again K hz hk (fun t ht => hT t (List.mem_cons_of_mem _ ht)) (fun x hx => hlt x (List.mem_append_right _ hx)) (fun x hx => hs x (List.mem_append_right _ hx)) h2
  | [], [], _ :: _, _, _, _, _, h => h.elim
  | [], _ :: _, _, _, _, _, _, h => h.elim
  | _ :: _, [], _, _, _, _, _, h => h.elim
  | _ :: _, _ :: _, [], _, _, _, _, h => h.elim

/-- The row's closing condition. -/
theorem law_post (K : Kids P T) (hz : ∀ {t e : TypeId}, T t → P.underlying t = some (.slice e) → 0 < P.cellsOf e) {f : Func} {s : ChangeSpec} {apart fresh handsOn again : Bool} {tb : TypeId} {W W' : World} {args : Array Value} {ds gs : List (DataW H)} {before : List MemPlace}
    (hT : ∀ t ∈ f.params.toList, T t) (hb : P.underlying tb = some .bool) (hr : f.resultTypes = #[tb]) (hvars : s.vars = []) (hW : DataW.Whole enc P f.params.toList s.vars apart W args.toList ds gs before)
    (hfn : s.fn H (ds ++ gs) = { results := [.lit (.bool true)], args := ds }) (hk : Kept W W') : s.post enc P f apart fresh handsOn again W args (.bool true) W' := by
  have hW' := hW
  have hlt : ∀ p ∈ before, p.block < W.heap.size := fun p hp => hW.lt p hp
  obtain ⟨p, q, hA, hV, rfl, hfz, hnd⟩ := hW
  rw [hvars] at hV
  obtain ⟨rfl, rfl⟩ := trodVars_none hV
  simp only [List.append_nil] at hlt hfn
  refine post_of_kept (pa := p) (pv := []) hW' (fun b sp hd => ?_) (fun sp hsp => ?_) (fun sp hsp => ?_) rfl hk (ok_one hr rfl (okWide_bool_mk hb _))
  · rw [List.append_nil, hfn, hr]
    exact trodAll_cons_mk (shut_bool hb _) trodAll_mk0
  · rw [List.append_nil, hfn]
    simp only [List.append_nil] at hsp
    exact args_again K hz hk hT hlt hsp hA
  · rw [List.append_nil, hfn, hvars]
    rfl

/-- A law is called with arguments that can be read. -/
theorem law_run {f : FuncId} {args : List D} {vargs : Array Value} {w : World} (h : ACalls P f args S0 fun d _ => d = .bool true) (hl : vargs.size = args.length)
    (ha : ∀ (i : Nat) (d : D) (v : Value), args[i]? = some d → vargs[i]? = some v → RD (memM w) S0 d v) : Calls P f vargs w fun e w' => e = .returned (.bool true) ∧ Kept w w' :=
  law_calls (G := memG w) h memG_ok hl ha
end

end Go.Abs

/-! Join2 -/

namespace Go.Abs
set_option linter.unusedSimpArgs false
set_option linter.unusedVariables false
open Go.RowKit Go.ChangeShapes Go.WideShapes

theorem RD_ints {W : World} {a : Addr} {len cap : Nat} {zs : List Int} (hl : len ≤ cap) (hz : len ≤ zs.length) (hc : ∀ i, i < zs.length → W.cell? (a.add i) = some (.int .i64 (zs.getD i 0))) :
    RD (memM W) S0 (.slice .shared 1 ((zs.take len).map encInt)) (.slice (some a) len cap) := by
  by_cases h0 : len = 0
  · subst h0
    exact .semp _ _ _
  · obtain ⟨b, off, rfl, hcell⟩ := Go.ints_at hc (by omega)
    have hlen : ((zs.take len).map encInt).length = len := by simp; omega
    have e : ((zs.take len).map encInt).length = len := hlen
    have key : ∀ (i : Nat) (row : List D) (j : Nat) (d : D), ((zs.take len).map encInt)[i]? = some row → row[j]? = some d → (memM W).G b (off + (i * 1 + j)) = some (.int .i64 (zs.getD i 0)) ∧ d = .int .i64 (zs.getD i 0) := by
      intro i row j d h1 h2
      rw [List.getElem?_map, Option.map_eq_some_iff] at h1
      obtain ⟨n, h1, rfl⟩ := h1
      rw [List.getElem?_take] at h1
      split at h1
      · rename_i hi
        have hd : zs.getD i 0 = n := by rw [List.getD_eq_getElem?_getD, h1]; rfl
        have hi2 : i < zs.length := (List.getElem?_eq_some_iff.1 h1).1
        cases j with
        | zero =>
          simp [encInt] at h2
          subst h2
          refine ⟨?_, by rw [hd]⟩
          have := hcell i hi2
          show memG W b (off + (i * 1 + 0)) = _
          unfold memG
          rw [show off + (i * 1 + 0) = off + i by omega, this]
          rfl
        | succ j => simp [encInt] at h2
      · cases h1
    have := RD.slice (M := memM W) (s := S0) .shared 1 ((zs.take len).map encInt) b off cap (by omega) (fun row hr => by obtain ⟨n, _, rfl⟩ := List.mem_map.1 hr; rfl)
      (fun i row j d h1 h2 => ⟨_, (key i row j d h1 h2).1⟩) (fun i row j d u h1 h2 hu => by
        obtain ⟨k1, k2⟩ := key i row j d h1 h2
        rw [k1] at hu
        cases hu
        rw [k2]
        exact .int _ _) trivial
    rw [hlen] at this
    exact this

end Go.Abs

/-! ParseBinds -/

namespace Go.Proofs.Ytecpopiacpckiaa.parseBinds
open Go.ChangeShapes Go.WideShapes Go.ChangeAt Go.RowKit Go.Abs
set_option linter.unusedVariables false

theorem own : ownKnob Try.prog.godebug = none := by kernel_rfl
theorem kids : Kids Try.prog (· < Try.prog.types.size) := kids_rows (by kernel_rfl) (by kernel_rfl)
theorem full : ∀ {t e : TypeId}, t < Try.prog.types.size → Try.prog.underlying t = some (.slice e) → 0 < Try.prog.cellsOf e := fun {t e} => slices_full_of Try.prog (by kernel_rfl) t e

theorem walk (w : World) (ns : List Int) (v : Value) (hv : RD (memM w) S0 (.slice .shared 1 (ns.map encInt)) v) : Calls Try.prog 9 #[v] w fun e w' => e = .returned (.bool true) ∧ Kept w w' := by
  refine law_run (args := [.slice .shared 1 (ns.map encInt)]) ((ParseBinds_true ns).mono fun _ _ h => h.1) rfl ?_
  intro i d v h1 h2
  match i, h1, h2 with
  | 0, h1, h2 => simp at h1 h2; subst h1 h2; exact hv

set_option maxRecDepth 100000 in
theorem lifted (os : Os) (started : os.Started) (H : Type) (enc : TypeId × Value → H) :
    ReturnsInHanded {} Try.checked os 9 .any (Rows.parseBindsSpec.pre6 enc Try.prog Try.f9 Rows.parseBindsRow.domain false) (Rows.parseBindsSpec.post enc Try.prog Try.f9 false true false false) := by
  refine returnsInHanded_of_change (C := Try.checked) own started (by kernel_rfl) Try.func9
    (ChangeSpec.witness6 (enc := enc) (C := Try.checked) false ⟨#[], #[.slice none 0 0], []⟩ 8 (by kernel_rfl) (by kernel_rfl) (by kernel_rfl) (by kernel_rfl)) ?_
  intro W base args ds gs before hval0 hW hcnd _
  have hval : ∀ (j : Nat) t v, Try.f9.params[j]? = some t → args[j]? = some v → Value.okWide Try.prog W .any base t v := hval0
  have hW' := hW
  obtain ⟨p, q, hA0, hV, rfl, hfz, hnd⟩ := hW
  have hA : DataW.TrodAll enc Try.prog W 0 (fun _ => true) true Try.f9.params.toList args.toList ds p := hA0
  rw [Try.params9] at hA hval
  obtain ⟨v0, d0, rfl, rfl, hd0⟩ := trodAll_one hA
  obtain ⟨rfl, rfl⟩ := trodVars_none hV
  have hgo : ∃ ns : List Int, RD (memM W) S0 (.slice .shared 1 (ns.map encInt)) v0 := by
    obtain ⟨a0, len0, cap0, rfl⟩ := Go.WideShapes.okWide_slice Try.underlying62 (hval 0 62 _ rfl rfl)
    obtain ⟨fuel, hf⟩ := hd0
    have hc : Try.prog.cellsOf 3 = 1 := by kernel_rfl
    rcases Go.ChangeShapes.open_ints Try.underlying62 Try.underlying3 hc hf with ⟨hcs, _⟩ | ⟨a, len, cap, zs, hcs, _, hle, _, hall, _, hcell, _⟩
    · simp [Value.cells] at hcs
      obtain ⟨rfl, rfl, rfl⟩ := hcs
      exact ⟨[], .snil _ _ _ rfl trivial⟩
    · simp [Value.cells] at hcs
      obtain ⟨rfl, rfl, rfl⟩ := hcs
      exact ⟨zs.take len0, RD_ints hle (by rw [hall]; split <;> omega) hcell⟩
  obtain ⟨ns, hv⟩ := hgo
  refine (walk W ns v0 hv).mono fun e W' ⟨he, hg⟩ => ?_
  subst he
  exact ⟨_, rfl, law_post kids full (by rw [Try.params9]; decide) Try.underlying4 (by kernel_rfl) rfl hW' rfl hg⟩

theorem over : Rows.parseBindsRow.holds Try.pinned (OpenSpec.ofChange Rows.parseBindsSpec) :=
  OpenClaim.holds_of_wide 9 Try.f9 rfl rfl rfl rfl rfl rfl rfl ⟨rfl, rfl, rfl, rfl, rfl⟩ rfl rfl rfl rfl rfl (by kernel_rfl) Try.func9 (by kernel_rfl)
    (of_decide_eq_true (by kernel_rfl)) (by unfold Func.isWrapper; first | (rw [if_pos (by decide +kernel)]; kernel_rfl) | (rw [if_neg (by decide +kernel)]; exact ⟨rfl, rfl⟩))
    (fun os started H enc _ => lifted os started H enc)

theorem proved : Rows.ParseBindsSaid :=
  over
#print axioms proved
end Go.Proofs.Ytecpopiacpckiaa.parseBinds
