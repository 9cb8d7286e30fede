/-
  What is proved here: part 3 of the road to the claim (Lex2, Lex3, Tree1, Tree2, MirParse, Prs7, Tot, Tot2, Tot3, Parsed2, RefLex1, RefLex2, RefLex3, Ref4, Lx, Lx2, Sim, Sim2, Sim3, Sim4, MirNum, Cut1).
  No conditions.
-/
import Derived.Test.YtecpopiacpckiaaPxC2
import Derived.KernelRfl

/-! Lex2 -/

namespace Go.Abs

set_option maxRecDepth 8000
set_option linter.unusedSimpArgs false
set_option linter.unusedVariables false
open Go.Proofs

theorem runL_pos {c : UInt8} {r : Str} (h : isL c = true) : 0 < runL (c :: r) := by simp [runL, h]
theorem runL_len : ∀ s : Str, runL s ≤ s.length
  | [] => Nat.le_refl _
  | c :: r => by simp only [runL]; split <;> simp only [List.length_cons] <;> have := runL_len r <;> omega
theorem runD_len : ∀ s : Str, runD s ≤ s.length
  | [] => Nat.le_refl _
  | c :: r => by simp only [runD]; split <;> simp only [List.length_cons] <;> have := runD_len r <;> omega
theorem lineL_len : ∀ s : Str, lineL s ≤ s.length
  | [] => Nat.le_refl _
  | c :: r => by simp only [lineL]; split <;> simp only [List.length_cons] <;> have := lineL_len r <;> omega
theorem signL_len : ∀ s : Str, signL s ≤ s.length
  | [] => Nat.le_refl _
  | [c] => by simp only [signL]; split <;> simp
  | c :: d :: r => by simp only [signL]; (repeat' split) <;> simp
theorem runD_all : ∀ (s : Str), ∀ c ∈ s.take (runD s), isD c = true
  | [], c, h => by simp [runD] at h
  | d :: r, c, h => by
    simp only [runD] at h
    split at h
    · rw [List.take_succ_cons] at h
      rcases List.mem_cons.1 h with rfl | h
      · assumption
      · exact runD_all r c h
    · simp at h

def encF (f : Int × Int) : List D := [.int .i64 f.1, .int .i64 f.2]

/-- At the label ahead of the next token. -/
def lexTM (text : Str) (out : List Tok) (pos : Nat) : Tm := [(0, .str text), (3, .ptr 0 0), (4, .slice (.tok 0) 4 (out.map encTok)), (5, .ptr 1 0), (6, .int .i64 (pos : Int))]
def lexST (out : List Tok) : St := ⟨[[.int .i64 0, .int .i64 0], [.junk, .junk, .junk, .junk]], [some out.length]⟩

theorem lineL_pos {c : UInt8} {r : Str} (h : ((c.toNat : Int) == 35) = true) : 0 < lineL (c :: r) := by
  have : ((c.toNat : Int) != 10) = true := by simp only [beq_iff_eq] at h; simp [h]
  simp [lineL, this]

/-- On to the next token. -/
def LexGo (text : Str) (B : Base) (Q : Exit → Tm → St → Prop) (p : List Tok × Int × Int) (N : Nat) : Prop :=
  ∀ (n pos : Nat) (rest : Str) (out : List Tok), text.drop pos = rest → lexF n pos rest out = p → rest.length < n → out.length ≤ 2000 → pos ≤ text.length → n < N →
    SemS Try.prog B 152 Q81 (.seq .skip Q7W) Q (lexTM text out pos) (lexST out)

theorem LexGo.to {text : Str} {B : Base} {Q : Exit → Tm → St → Prop} {p : List Tok × Int × Int} {N : Nat} (hB : B.s = S0) (IH : LexGo text B Q p N) {n pos : Nat} {rest : Str} {out : List Tok} {tm : Tm} {s : St}
    (h1 : text.drop pos = rest) (h : lexF n pos rest out = p) (h2 : rest.length < n) (h3 : out.length ≤ 2000) (h4 : pos ≤ text.length) (h5 : n < N)
    (ht : TmW tm 2 1 (lexTM text out pos)) (ho : WkR (s.cut 2 1).objs (lexST out).objs) (hk : (s.cut 2 1).toks = (lexST out).toks) :
    jumpA Try.prog B 152 Q81 Q (.goto 0) tm s := by
  refine jumpA_to (l := 0) (r := .seq .skip Q7W) rfl (SemS.re _ _ 2 1 (by rw [hB]; exact Nat.le_of_ble_eq_true rfl) (by rw [hB]; exact Nat.le_of_ble_eq_true rfl) ht ho ?_)
  have := IH n pos rest out h1 h h2 h3 h4 h5
  rw [hk]
  exact this

attribute [go_sem] lexTM lexST encF
theorem lex_nil {text : Str} (hl : text.length ≤ 100000) {B : Base} {Q : Exit → Tm → St → Prop} {p : List Tok × Int × Int} (hB : B.s = S0)
    (hQ : retF 0 0 [(2, none), (3, some (true, 2))] (.tuple [.slice .shared 4 (p.1.map encTok), .agg (encF p.2)]) ⟨[], []⟩ = Q)
    {n pos : Nat} {out : List Tok} (ho : out.length ≤ 2000) (hp : pos ≤ text.length) (IH : LexGo text B Q p (n + 1))
    (h1 : text.drop pos = []) (h : lexF (n + 1) pos [] out = p) : wpC Try.prog B 152 Q7W (jumpA Try.prog B 152 Q81 Q) (lexTM text out pos) (lexST out) := by
  have hlt : 0 < 1 := Nat.zero_lt_one
  have hget : 0 < 1 := Nat.zero_lt_one
  have hpu : 0 < 1 := Nat.zero_lt_one
  have hinc : 0 < 1 := Nat.zero_lt_one
  have hroom : (out.length + 1) * 41 ≤ maxStr := by simp only [maxStr]; omega
  have hge : decide ((pos : Int) ≥ (text.length : Int)) = true := by have := List.drop_eq_nil_iff.1 h1; simp; omega
  have : pos = text.length := by have := List.drop_eq_nil_iff.1 h1; omega
  subst this
  simp only [lexF] at h
  repeat' (first
 | simp only [go_sem, hlt, hget, hpu, hinc, Int.reduceLE, ↓reduceIte, reduceCtorEq, Nat.reduceEqDiff, Nat.reduceLeDiff, Nat.reduceAdd, Nat.reduceMul, Nat.reduceSub, Nat.reduceLT, hge, hroom]
 | (with_reducible first | refine CB_ofT (by assumption) fun hc => ?_ | refine CB_ofF (by assumption) fun hc => ?_ | refine CB_split (fun hc => ?_) fun hc => ?_) <;> (try simp only [hc, bs, ↓reduceIte] at h) <;> (try simp only [hc])
 | ((with_reducible first | refine leafR hQ ?_ | refine leafN hQ ?_); (try cases h); simp only [resL, oneD, Option.some.injEq, exists_eq_left', go_sem, hlt, hget, hpu, hinc, Int.reduceLE, ↓reduceIte, reduceCtorEq, Nat.reduceEqDiff, Nat.reduceLeDiff, Nat.reduceAdd, Nat.reduceMul, Nat.reduceSub, Nat.reduceLT, hge, hroom]; repeat' (first | exact Ok.out | with_reducible refine And.intro ?_ ?_ | (simp; done)))
 | (cases h; replace h := hr; clear hr; (try simp only [bs, ↓reduceIte] at h))
 | (cases h; done))

theorem lex_blank {text : Str} (hl : text.length ≤ 100000) {B : Base} {Q : Exit → Tm → St → Prop} {p : List Tok × Int × Int} (hB : B.s = S0)
    (hQ : retF 0 0 [(2, none), (3, some (true, 2))] (.tuple [.slice .shared 4 (p.1.map encTok), .agg (encF p.2)]) ⟨[], []⟩ = Q)
    {n pos : Nat} {out : List Tok} (ho : out.length ≤ 2000) (hp : pos ≤ text.length) (IH : LexGo text B Q p (n + 1))
    {c : UInt8} {r : Str} (h1 : text.drop pos = c :: r) (hb : isB c = true) (hn : (c :: r).length < n + 1) (h : lexF (n + 1) pos (c :: r) out = p) :
    wpC Try.prog B 152 Q7W (jumpA Try.prog B 152 Q81 Q) (lexTM text out pos) (lexST out) := by
  have hpu : 0 < 1 := Nat.zero_lt_one
  have hinc : 0 < 1 := Nat.zero_lt_one
  obtain ⟨hget, g2, g3, g4⟩ := drop_cons h1
  have hlt : pos < 4611686018427387904 := by omega
  have hge : decide ((pos : Int) ≥ (text.length : Int)) = false := by simp; omega
  simp only [lexF, hb, ↓reduceIte] at h
  have hn' : r.length < n := by simp only [List.length_cons] at hn; omega
  have e : ∀ x y : Int, (x == y) = false → (x == y) = true → False := fun x y a b => by rw [a] at b; cases b
  simp only [isB] at hb
  repeat' (first
 | simp only [go_sem, hlt, hget, hpu, hinc, Int.reduceLE, ↓reduceIte, reduceCtorEq, Nat.reduceEqDiff, Nat.reduceLeDiff, Nat.reduceAdd, Nat.reduceMul, Nat.reduceSub, Nat.reduceLT, hge]
 | (refine IH.to hB g2 h hn' ho g4 (Nat.lt_succ_self _) ?_ ?_ ?_ <;> ((try simp only [go_sem, hlt, hget, hpu, hinc, Int.reduceLE, ↓reduceIte, reduceCtorEq, Nat.reduceEqDiff, Nat.reduceLeDiff, Nat.reduceAdd, Nat.reduceMul, Nat.reduceSub, Nat.reduceLT]); repeat' (first | exact Ok.out | with_reducible refine And.intro ?_ ?_ | omega | (simp; done))); done)
 | (with_reducible first | refine CB_ofT (by assumption) fun hc => ?_ | refine CB_ofF (by assumption) fun hc => ?_ | refine CB_split (fun hc => ?_) fun hc => ?_) <;> (try simp only [hc, bs, ↓reduceIte] at h) <;> (try simp only [hc])
 | ((with_reducible first | refine leafR hQ ?_ | refine leafN hQ ?_); (try cases h); simp only [resL, oneD, Option.some.injEq, exists_eq_left', go_sem, hlt, hget, hpu, hinc, Int.reduceLE, ↓reduceIte, reduceCtorEq, Nat.reduceEqDiff, Nat.reduceLeDiff, Nat.reduceAdd, Nat.reduceMul, Nat.reduceSub, Nat.reduceLT, hge]; repeat' (first | exact Ok.out | with_reducible refine And.intro ?_ ?_ | (simp; done)))
 | (cases h; replace h := hr; clear hr; (try simp only [bs, ↓reduceIte] at h))
 | (cases h; done))
  all_goals (exfalso; simp_all; done)

theorem lex_remark {text : Str} (hl : text.length ≤ 100000) {B : Base} {Q : Exit → Tm → St → Prop} {p : List Tok × Int × Int} (hB : B.s = S0)
    (hQ : retF 0 0 [(2, none), (3, some (true, 2))] (.tuple [.slice .shared 4 (p.1.map encTok), .agg (encF p.2)]) ⟨[], []⟩ = Q)
    {n pos : Nat} {out : List Tok} (ho : out.length ≤ 2000) (hp : pos ≤ text.length) (IH : LexGo text B Q p (n + 1))
    {c : UInt8} {r : Str} (h1 : text.drop pos = c :: r) (hb : isB c = false) (hc : ((c.toNat : Int) == 35) = true) (hn : (c :: r).length < n + 1) (h : lexF (n + 1) pos (c :: r) out = p) :
    wpC Try.prog B 152 Q7W (jumpA Try.prog B 152 Q81 Q) (lexTM text out pos) (lexST out) := by
  have hpu : 0 < 1 := Nat.zero_lt_one
  have hinc : 0 < 1 := Nat.zero_lt_one
  have hget0 := (drop_cons h1).1
  have hget := hget0
  have g4 := (drop_cons h1).2.2.2
  have hlt : pos < 4611686018427387904 := by omega
  have hge : decide ((pos : Int) ≥ (text.length : Int)) = false := by simp; omega
  simp only [lexF, hb, Bool.false_eq_true, ↓reduceIte, hc] at h
  simp only [isB, Bool.or_eq_false_iff] at hb
  have hk := lineL_pos (r := r) hc
  have hk2 := lineL_len (c :: r)
  have hk3 : (c :: r).length = text.length - pos := by rw [← h1, List.length_drop]
  generalize hL : lineL (c :: r) = L at h hk hk2
  repeat' (first
 | simp only [go_sem, hlt, hget, hpu, hinc, Int.reduceLE, ↓reduceIte, reduceCtorEq, Nat.reduceEqDiff, Nat.reduceLeDiff, Nat.reduceAdd, Nat.reduceMul, Nat.reduceSub, Nat.reduceLT, hge, hb.1.1.1, hb.1.1.2, hb.1.2, hb.2, hc]
 | (with_reducible refine jumpA_go (l := 1) (by with_unfolding_all rfl) ?_)
 | (with_reducible first | refine CB_ofT (by assumption) fun hc => ?_ | refine CB_ofF (by assumption) fun hc => ?_ | refine CB_split (fun hc => ?_) fun hc => ?_) <;> (try simp only [hc, bs, ↓reduceIte] at h) <;> (try simp only [hc])
 | ((with_reducible first | refine leafR hQ ?_ | refine leafN hQ ?_); (try cases h); simp only [resL, oneD, Option.some.injEq, exists_eq_left', go_sem, hlt, hget, hpu, hinc, Int.reduceLE, ↓reduceIte, reduceCtorEq, Nat.reduceEqDiff, Nat.reduceLeDiff, Nat.reduceAdd, Nat.reduceMul, Nat.reduceSub, Nat.reduceLT, hge, hb.1.1.1, hb.1.1.2, hb.1.2, hb.2, hc]; repeat' (first | exact Ok.out | with_reducible refine And.intro ?_ ?_ | (simp; done)))
 | (cases h; replace h := hr; clear hr; (try simp only [bs, ↓reduceIte] at h))
 | (cases h; done))
  refine SemL.re _ _ 2 1 (by rw [hB]; exact Nat.le_of_ble_eq_true rfl) (by rw [hB]; exact Nat.le_of_ble_eq_true rfl) ?_ ?_ (SemL.ind (ι := Str × Nat) (fun i => text.drop i.2 = i.1 ∧ i.2 + lineL i.1 = pos + L) (fun i => i.1.length)
    (fun i => lexTM text out i.2) (fun i => lexST out) ?_ (c :: r, pos) ⟨h1, by dsimp only; omega⟩)
  · (simp only [go_sem, hlt, hget, hpu, hinc, Int.reduceLE, ↓reduceIte, reduceCtorEq, Nat.reduceEqDiff, Nat.reduceLeDiff, Nat.reduceAdd, Nat.reduceMul, Nat.reduceSub, Nat.reduceLT]; repeat' (first | exact Ok.out | with_reducible refine And.intro ?_ ?_))
  · (simp only [go_sem, hlt, hget, hpu, hinc, Int.reduceLE, ↓reduceIte, reduceCtorEq, Nat.reduceEqDiff, Nat.reduceLeDiff, Nat.reduceAdd, Nat.reduceMul, Nat.reduceSub, Nat.reduceLT]; repeat' (first | exact Ok.out | with_reducible refine And.intro ?_ ?_))
  rintro ⟨rest, k⟩ ⟨j1, j2⟩ IHl
  dsimp only at j1 j2
  have fin : text.drop (pos + L) = (c :: r).drop L := by rw [← h1, List.drop_drop]
  have hlen : ((c :: r).drop L).length < n := by rw [List.length_drop]; omega
  cases rest with
  | nil =>
    have hge := drop_nil j1
    simp only [lineL, Nat.add_zero] at j2
    subst j2
    repeat' (first
 | simp only [go_sem, hlt, hget, hpu, hinc, Int.reduceLE, ↓reduceIte, reduceCtorEq, Nat.reduceEqDiff, Nat.reduceLeDiff, Nat.reduceAdd, Nat.reduceMul, Nat.reduceSub, Nat.reduceLT, hge]
 | (refine IH.to hB fin h hlen ho (by omega) (Nat.lt_succ_self _) ?_ ?_ ?_ <;> ((try simp only [go_sem, hlt, hget, hpu, hinc, Int.reduceLE, ↓reduceIte, reduceCtorEq, Nat.reduceEqDiff, Nat.reduceLeDiff, Nat.reduceAdd, Nat.reduceMul, Nat.reduceSub, Nat.reduceLT]); repeat' (first | exact Ok.out | with_reducible refine And.intro ?_ ?_ | omega | (simp; done))); done)
 | (with_reducible first | refine CB_ofT (by assumption) fun hc => ?_ | refine CB_ofF (by assumption) fun hc => ?_ | refine CB_split (fun hc => ?_) fun hc => ?_) <;> (try simp only [hc, bs, ↓reduceIte] at h) <;> (try simp only [hc])
 | ((with_reducible first | refine leafR hQ ?_ | refine leafN hQ ?_); (try cases h); simp only [resL, oneD, Option.some.injEq, exists_eq_left', go_sem, hlt, hget, hpu, hinc, Int.reduceLE, ↓reduceIte, reduceCtorEq, Nat.reduceEqDiff, Nat.reduceLeDiff, Nat.reduceAdd, Nat.reduceMul, Nat.reduceSub, Nat.reduceLT, hge]; repeat' (first | exact Ok.out | with_reducible refine And.intro ?_ ?_ | (simp; done)))
 | (cases h; replace h := hr; clear hr; (try simp only [bs, ↓reduceIte] at h))
 | (cases h; done))
  | cons d rest =>
    obtain ⟨hget, g2, hge, g5⟩ := drop_cons j1
    have hlt : k < 4611686018427387904 := by omega
    cases hd : ((d.toNat : Int) != 10)
    · simp only [lineL, hd, Bool.false_eq_true, ↓reduceIte, Nat.add_zero] at j2
      subst j2
      repeat' (first
 | simp only [go_sem, hlt, hget, hpu, hinc, Int.reduceLE, ↓reduceIte, reduceCtorEq, Nat.reduceEqDiff, Nat.reduceLeDiff, Nat.reduceAdd, Nat.reduceMul, Nat.reduceSub, Nat.reduceLT, hge, hd]
 | (refine IH.to hB fin h hlen ho (by omega) (Nat.lt_succ_self _) ?_ ?_ ?_ <;> ((try simp only [go_sem, hlt, hget, hpu, hinc, Int.reduceLE, ↓reduceIte, reduceCtorEq, Nat.reduceEqDiff, Nat.reduceLeDiff, Nat.reduceAdd, Nat.reduceMul, Nat.reduceSub, Nat.reduceLT]); repeat' (first | exact Ok.out | with_reducible refine And.intro ?_ ?_ | omega | (simp; done))); done)
 | (with_reducible first | refine CB_ofT (by assumption) fun hc => ?_ | refine CB_ofF (by assumption) fun hc => ?_ | refine CB_split (fun hc => ?_) fun hc => ?_) <;> (try simp only [hc, bs, ↓reduceIte] at h) <;> (try simp only [hc])
 | ((with_reducible first | refine leafR hQ ?_ | refine leafN hQ ?_); (try cases h); simp only [resL, oneD, Option.some.injEq, exists_eq_left', go_sem, hlt, hget, hpu, hinc, Int.reduceLE, ↓reduceIte, reduceCtorEq, Nat.reduceEqDiff, Nat.reduceLeDiff, Nat.reduceAdd, Nat.reduceMul, Nat.reduceSub, Nat.reduceLT, hge, hd]; repeat' (first | exact Ok.out | with_reducible refine And.intro ?_ ?_ | (simp; done)))
 | (cases h; replace h := hr; clear hr; (try simp only [bs, ↓reduceIte] at h))
 | (cases h; done))
    · simp only [lineL, hd, ↓reduceIte] at j2
      repeat' (first
 | simp only [go_sem, hlt, hget, hpu, hinc, Int.reduceLE, ↓reduceIte, reduceCtorEq, Nat.reduceEqDiff, Nat.reduceLeDiff, Nat.reduceAdd, Nat.reduceMul, Nat.reduceSub, Nat.reduceLT, hge, hd]
 | (with_reducible first | refine CB_ofT (by assumption) fun hc => ?_ | refine CB_ofF (by assumption) fun hc => ?_ | refine CB_split (fun hc => ?_) fun hc => ?_) <;> (try simp only [hc, bs, ↓reduceIte] at h) <;> (try simp only [hc])
 | ((with_reducible first | refine leafR hQ ?_ | refine leafN hQ ?_); (try cases h); simp only [resL, oneD, Option.some.injEq, exists_eq_left', go_sem, hlt, hget, hpu, hinc, Int.reduceLE, ↓reduceIte, reduceCtorEq, Nat.reduceEqDiff, Nat.reduceLeDiff, Nat.reduceAdd, Nat.reduceMul, Nat.reduceSub, Nat.reduceLT, hge, hd]; repeat' (first | exact Ok.out | with_reducible refine And.intro ?_ ?_ | (simp; done)))
 | (cases h; replace h := hr; clear hr; (try simp only [bs, ↓reduceIte] at h))
 | (cases h; done))
      refine SemL.re _ _ 2 1 (by rw [hB]; exact Nat.le_of_ble_eq_true rfl) (by rw [hB]; exact Nat.le_of_ble_eq_true rfl) ?_ ?_ (IHl (rest, k + 1) ⟨g2, by dsimp only; omega⟩ (Nat.lt_succ_self _))
      · (simp only [go_sem, hlt, hget, hpu, hinc, Int.reduceLE, ↓reduceIte, reduceCtorEq, Nat.reduceEqDiff, Nat.reduceLeDiff, Nat.reduceAdd, Nat.reduceMul, Nat.reduceSub, Nat.reduceLT]; repeat' (first | exact Ok.out | with_reducible refine And.intro ?_ ?_))
      · (simp only [go_sem, hlt, hget, hpu, hinc, Int.reduceLE, ↓reduceIte, reduceCtorEq, Nat.reduceEqDiff, Nat.reduceLeDiff, Nat.reduceAdd, Nat.reduceMul, Nat.reduceSub, Nat.reduceLT]; repeat' (first | exact Ok.out | with_reducible refine And.intro ?_ ?_))

theorem lex_sign {text : Str} (hl : text.length ≤ 100000) {B : Base} {Q : Exit → Tm → St → Prop} {p : List Tok × Int × Int} (hB : B.s = S0)
    (hQ : retF 0 0 [(2, none), (3, some (true, 2))] (.tuple [.slice .shared 4 (p.1.map encTok), .agg (encF p.2)]) ⟨[], []⟩ = Q)
    {n pos : Nat} {out : List Tok} (ho : out.length ≤ 2000) (hp : pos ≤ text.length) (IH : LexGo text B Q p (n + 1))
    {c : UInt8} {r : Str} (h1 : text.drop pos = c :: r) (hb : isB c = false) (hc : ((c.toNat : Int) == 35) = false) (hL : isL c = false) (hD : isD c = false) (hn : (c :: r).length < n + 1) (h : lexF (n + 1) pos (c :: r) out = p) :
    wpC Try.prog B 152 Q7W (jumpA Try.prog B 152 Q81 Q) (lexTM text out pos) (lexST out) := by
  have hpu : 0 < 1 := Nat.zero_lt_one
  have hinc : 0 < 1 := Nat.zero_lt_one
  have hget := (drop_cons h1).1
  have g4 := (drop_cons h1).2.2.2
  have hlt : pos < 4611686018427387904 := by omega
  have hge : decide ((pos : Int) ≥ (text.length : Int)) = false := by simp; omega
  have hroom : (out.length + 1) * 41 ≤ maxStr := by simp only [maxStr]; omega
  have hsign := fun s => sign_s h1 (by omega) s
  have hk2 := signL_len (c :: r)
  have hk3 : (c :: r).length = text.length - pos := by rw [← h1, List.length_drop]
  simp only [lexF, hb, Bool.false_eq_true, ↓reduceIte, hc, tokE, hL, hD] at h
  simp only [isB, Bool.or_eq_false_iff] at hb
  generalize hK : signL (c :: r) = k at h hsign hk2
  have e1 : IntKind.wrap .i64 ((pos : Int) + (k : Int)) = ((pos + k : Nat) : Int) := by rw [wrap_ok] <;> omega
  have e2 : (0 : Int) ≤ (pos : Int) ∧ (pos : Int) ≤ ((pos + k : Nat) : Int) ∧ ((pos + k : Nat) : Int) ≤ (text.length : Int) := by omega
  have e3 : (text.take (pos + k)).drop pos = (c :: r).take k := by rw [slice_at, h1]
  by_cases hz : k = 0
  · have hgt : decide (((pos + k : Nat) : Int) > (pos : Int)) = false := by simp; omega
    simp only [hz, ↓reduceIte] at h
    repeat' (first
 | simp only [go_sem, hlt, hget, hpu, hinc, Int.reduceLE, ↓reduceIte, reduceCtorEq, Nat.reduceEqDiff, Nat.reduceLeDiff, Nat.reduceAdd, Nat.reduceMul, Nat.reduceSub, Nat.reduceLT, hge, hb.1.1.1, hb.1.1.2, hb.1.2, hb.2, hc, hL, hD, e1, e2, e3, hgt]
 | (with_reducible refine CU (letter_s _ _) ?_)
 | (with_reducible refine CU (digit_s _ _) ?_)
 | (with_reducible refine CU (hsign _) ?_)
 | (with_reducible refine jumpA_go (l := 4) (by with_unfolding_all rfl) ?_)
 | (with_reducible refine jumpA_go (l := 5) (by with_unfolding_all rfl) ?_)
 | (with_reducible first | refine CB_ofT (by assumption) fun hc => ?_ | refine CB_ofF (by assumption) fun hc => ?_ | refine CB_split (fun hc => ?_) fun hc => ?_) <;> (try simp only [hc, bs, ↓reduceIte] at h) <;> (try simp only [hc])
 | ((with_reducible first | refine leafR hQ ?_ | refine leafN hQ ?_); (try cases h); simp only [resL, oneD, Option.some.injEq, exists_eq_left', go_sem, hlt, hget, hpu, hinc, Int.reduceLE, ↓reduceIte, reduceCtorEq, Nat.reduceEqDiff, Nat.reduceLeDiff, Nat.reduceAdd, Nat.reduceMul, Nat.reduceSub, Nat.reduceLT, hge, hb.1.1.1, hb.1.1.2, hb.1.2, hb.2, hc, hL, hD, e1, e2, e3, hgt]; repeat' (first | exact Ok.out | with_reducible refine And.intro ?_ ?_ | (simp; done)))
 | (cases h; replace h := hr; clear hr; (try simp only [bs, ↓reduceIte] at h))
 | (cases h; done))
  · have hgt : decide (((pos + k : Nat) : Int) > (pos : Int)) = true := by simp; omega
    have hlen : ((c :: r).take k).length = k := by rw [List.length_take]; omega
    have fin : text.drop (pos + k) = (c :: r).drop k := by rw [← h1, List.drop_drop]
    have hlen2 : ((c :: r).drop k).length < n := by rw [List.length_drop]; omega
    simp only [hz, ↓reduceIte, hlen] at h
    by_cases ho2 : out.length = 2000
    · have ho3 : ((out.length : Int) == 2000) = true := by simp [ho2]
      simp only [ho2, ↓reduceIte] at h
      repeat' (first
 | simp only [go_sem, hlt, hget, hpu, hinc, Int.reduceLE, ↓reduceIte, reduceCtorEq, Nat.reduceEqDiff, Nat.reduceLeDiff, Nat.reduceAdd, Nat.reduceMul, Nat.reduceSub, Nat.reduceLT, hge, hb.1.1.1, hb.1.1.2, hb.1.2, hb.2, hc, hL, hD, e1, e2, e3, hgt, ho3]
 | (with_reducible refine CU (letter_s _ _) ?_)
 | (with_reducible refine CU (digit_s _ _) ?_)
 | (with_reducible refine CU (hsign _) ?_)
 | (with_reducible refine jumpA_go (l := 4) (by with_unfolding_all rfl) ?_)
 | (with_reducible refine jumpA_go (l := 5) (by with_unfolding_all rfl) ?_)
 | (with_reducible first | refine CB_ofT (by assumption) fun hc => ?_ | refine CB_ofF (by assumption) fun hc => ?_ | refine CB_split (fun hc => ?_) fun hc => ?_) <;> (try simp only [hc, bs, ↓reduceIte] at h) <;> (try simp only [hc])
 | ((with_reducible first | refine leafR hQ ?_ | refine leafN hQ ?_); (try cases h); simp only [resL, oneD, Option.some.injEq, exists_eq_left', go_sem, hlt, hget, hpu, hinc, Int.reduceLE, ↓reduceIte, reduceCtorEq, Nat.reduceEqDiff, Nat.reduceLeDiff, Nat.reduceAdd, Nat.reduceMul, Nat.reduceSub, Nat.reduceLT, hge, hb.1.1.1, hb.1.1.2, hb.1.2, hb.2, hc, hL, hD, e1, e2, e3, hgt, ho3]; repeat' (first | exact Ok.out | with_reducible refine And.intro ?_ ?_ | (simp; done)))
 | (cases h; replace h := hr; clear hr; (try simp only [bs, ↓reduceIte] at h))
 | (cases h; done))
    · have ho3 : ((out.length : Int) == 2000) = false := by simp; omega
      have ho4 : ∀ t : Tok, (out ++ [t]).length ≤ 2000 := by intro t; simp; omega
      simp only [ho2, ↓reduceIte] at h
      repeat' (first
 | simp only [go_sem, hlt, hget, hpu, hinc, Int.reduceLE, ↓reduceIte, reduceCtorEq, Nat.reduceEqDiff, Nat.reduceLeDiff, Nat.reduceAdd, Nat.reduceMul, Nat.reduceSub, Nat.reduceLT, hge, hb.1.1.1, hb.1.1.2, hb.1.2, hb.2, hc, hL, hD, e1, e2, e3, hgt, ho3, hroom]
 | (with_reducible refine CU (letter_s _ _) ?_)
 | (with_reducible refine CU (digit_s _ _) ?_)
 | (with_reducible refine CU (hsign _) ?_)
 | (with_reducible refine jumpA_go (l := 4) (by with_unfolding_all rfl) ?_)
 | (with_reducible refine jumpA_go (l := 5) (by with_unfolding_all rfl) ?_)
 | (refine IH.to hB fin h hlen2 (ho4 _) (by omega) (Nat.lt_succ_self _) ?_ ?_ ?_ <;> ((try simp only [go_sem, hlt, hget, hpu, hinc, Int.reduceLE, ↓reduceIte, reduceCtorEq, Nat.reduceEqDiff, Nat.reduceLeDiff, Nat.reduceAdd, Nat.reduceMul, Nat.reduceSub, Nat.reduceLT]); repeat' (first | exact Ok.out | with_reducible refine And.intro ?_ ?_ | omega | (simp; done))); done)
 | (with_reducible first | refine CB_ofT (by assumption) fun hc => ?_ | refine CB_ofF (by assumption) fun hc => ?_ | refine CB_split (fun hc => ?_) fun hc => ?_) <;> (try simp only [hc, bs, ↓reduceIte] at h) <;> (try simp only [hc])
 | ((with_reducible first | refine leafR hQ ?_ | refine leafN hQ ?_); (try cases h); simp only [resL, oneD, Option.some.injEq, exists_eq_left', go_sem, hlt, hget, hpu, hinc, Int.reduceLE, ↓reduceIte, reduceCtorEq, Nat.reduceEqDiff, Nat.reduceLeDiff, Nat.reduceAdd, Nat.reduceMul, Nat.reduceSub, Nat.reduceLT, hge, hb.1.1.1, hb.1.1.2, hb.1.2, hb.2, hc, hL, hD, e1, e2, e3, hgt, ho3, hroom]; repeat' (first | exact Ok.out | with_reducible refine And.intro ?_ ?_ | (simp; done)))
 | (cases h; replace h := hr; clear hr; (try simp only [bs, ↓reduceIte] at h))
 | (cases h; done))

theorem lex_name {text : Str} (hl : text.length ≤ 100000) {B : Base} {Q : Exit → Tm → St → Prop} {p : List Tok × Int × Int} (hB : B.s = S0)
    (hQ : retF 0 0 [(2, none), (3, some (true, 2))] (.tuple [.slice .shared 4 (p.1.map encTok), .agg (encF p.2)]) ⟨[], []⟩ = Q)
    {n pos : Nat} {out : List Tok} (ho : out.length ≤ 2000) (hp : pos ≤ text.length) (IH : LexGo text B Q p (n + 1))
    {c : UInt8} {r : Str} (h1 : text.drop pos = c :: r) (hb : isB c = false) (hc : ((c.toNat : Int) == 35) = false) (hL : isL c = true) (hn : (c :: r).length < n + 1) (h : lexF (n + 1) pos (c :: r) out = p) :
    wpC Try.prog B 152 Q7W (jumpA Try.prog B 152 Q81 Q) (lexTM text out pos) (lexST out) := by
  have hpu : 0 < 1 := Nat.zero_lt_one
  have hinc : 0 < 1 := Nat.zero_lt_one
  have hget := (drop_cons h1).1
  have g4 := (drop_cons h1).2.2.2
  have hlt : pos < 4611686018427387904 := by omega
  have hge : decide ((pos : Int) ≥ (text.length : Int)) = false := by simp; omega
  have hroom : (out.length + 1) * 41 ≤ maxStr := by simp only [maxStr]; omega
  have hrun := fun s => run_s (text := text) (pos := pos) (by omega) s
  rw [h1] at hrun
  have hk2 := runL_len (c :: r)
  have hk1 := runL_pos (r := r) hL
  have hk3 : (c :: r).length = text.length - pos := by rw [← h1, List.length_drop]
  simp only [lexF, hb, Bool.false_eq_true, ↓reduceIte, hc, tokE, hL] at h
  simp only [isB, Bool.or_eq_false_iff] at hb
  generalize hK : runL (c :: r) = k at h hrun hk2 hk1
  have hlen : ((c :: r).take k).length = k := by rw [List.length_take]; omega
  simp only [hlen] at h
  have e1 : IntKind.wrap .i64 (((pos + k : Nat) : Int) - (pos : Int)) = (k : Int) := by rw [wrap_ok] <;> omega
  have e2 : (0 : Int) ≤ (pos : Int) ∧ (pos : Int) ≤ ((pos + k : Nat) : Int) ∧ ((pos + k : Nat) : Int) ≤ (text.length : Int) := by omega
  have e3 : (text.take (pos + k)).drop pos = (c :: r).take k := by rw [slice_at, h1]
  by_cases hz : k > 8
  · have hgt : decide ((k : Int) > 8) = true := by simp; omega
    simp only [hz, ↓reduceIte] at h
    cases hw : isWord ((c :: r).take k)
    · repeat' (first
 | simp only [go_sem, hlt, hget, hpu, hinc, Int.reduceLE, ↓reduceIte, reduceCtorEq, Nat.reduceEqDiff, Nat.reduceLeDiff, Nat.reduceAdd, Nat.reduceMul, Nat.reduceSub, Nat.reduceLT, hge, hb.1.1.1, hb.1.1.2, hb.1.2, hb.2, hc, hL, e1, e2, e3, hgt, hw]
 | (with_reducible refine CU (letter_s _ _) ?_)
 | (with_reducible refine CU (hrun _) ?_)
 | (with_reducible refine CU (word_s _ _) ?_)
 | (with_reducible refine jumpA_go (l := 2) (by with_unfolding_all rfl) ?_)
 | (with_reducible refine jumpA_go (l := 4) (by with_unfolding_all rfl) ?_)
 | (with_reducible refine jumpA_go (l := 5) (by with_unfolding_all rfl) ?_)
 | (with_reducible first | refine CB_ofT (by assumption) fun hc => ?_ | refine CB_ofF (by assumption) fun hc => ?_ | refine CB_split (fun hc => ?_) fun hc => ?_) <;> (try simp only [hc, bs, ↓reduceIte] at h) <;> (try simp only [hc])
 | ((with_reducible first | refine leafR hQ ?_ | refine leafN hQ ?_); (try cases h); simp only [resL, oneD, Option.some.injEq, exists_eq_left', go_sem, hlt, hget, hpu, hinc, Int.reduceLE, ↓reduceIte, reduceCtorEq, Nat.reduceEqDiff, Nat.reduceLeDiff, Nat.reduceAdd, Nat.reduceMul, Nat.reduceSub, Nat.reduceLT, hge, hb.1.1.1, hb.1.1.2, hb.1.2, hb.2, hc, hL, e1, e2, e3, hgt, hw]; repeat' (first | exact Ok.out | with_reducible refine And.intro ?_ ?_ | (simp; done)))
 | (cases h; replace h := hr; clear hr; (try simp only [bs, ↓reduceIte] at h))
 | (cases h; done))
    · repeat' (first
 | simp only [go_sem, hlt, hget, hpu, hinc, Int.reduceLE, ↓reduceIte, reduceCtorEq, Nat.reduceEqDiff, Nat.reduceLeDiff, Nat.reduceAdd, Nat.reduceMul, Nat.reduceSub, Nat.reduceLT, hge, hb.1.1.1, hb.1.1.2, hb.1.2, hb.2, hc, hL, e1, e2, e3, hgt, hw]
 | (with_reducible refine CU (letter_s _ _) ?_)
 | (with_reducible refine CU (hrun _) ?_)
 | (with_reducible refine CU (word_s _ _) ?_)
 | (with_reducible refine jumpA_go (l := 2) (by with_unfolding_all rfl) ?_)
 | (with_reducible refine jumpA_go (l := 4) (by with_unfolding_all rfl) ?_)
 | (with_reducible refine jumpA_go (l := 5) (by with_unfolding_all rfl) ?_)
 | (with_reducible first | refine CB_ofT (by assumption) fun hc => ?_ | refine CB_ofF (by assumption) fun hc => ?_ | refine CB_split (fun hc => ?_) fun hc => ?_) <;> (try simp only [hc, bs, ↓reduceIte] at h) <;> (try simp only [hc])
 | ((with_reducible first | refine leafR hQ ?_ | refine leafN hQ ?_); (try cases h); simp only [resL, oneD, Option.some.injEq, exists_eq_left', go_sem, hlt, hget, hpu, hinc, Int.reduceLE, ↓reduceIte, reduceCtorEq, Nat.reduceEqDiff, Nat.reduceLeDiff, Nat.reduceAdd, Nat.reduceMul, Nat.reduceSub, Nat.reduceLT, hge, hb.1.1.1, hb.1.1.2, hb.1.2, hb.2, hc, hL, e1, e2, e3, hgt, hw]; repeat' (first | exact Ok.out | with_reducible refine And.intro ?_ ?_ | (simp; done)))
 | (cases h; replace h := hr; clear hr; (try simp only [bs, ↓reduceIte] at h))
 | (cases h; done))
  · have hgt : decide ((k : Int) > 8) = false := by simp; omega
    have fin : text.drop (pos + k) = (c :: r).drop k := by rw [← h1, List.drop_drop]
    have hlen2 : ((c :: r).drop k).length < n := by rw [List.length_drop]; omega
    simp only [hz, ↓reduceIte, hlen] at h
    by_cases ho2 : out.length = 2000
    · have ho3 : ((out.length : Int) == 2000) = true := by simp [ho2]
      simp only [ho2, ↓reduceIte] at h
      cases hw : isWord ((c :: r).take k)
      · repeat' (first
 | simp only [go_sem, hlt, hget, hpu, hinc, Int.reduceLE, ↓reduceIte, reduceCtorEq, Nat.reduceEqDiff, Nat.reduceLeDiff, Nat.reduceAdd, Nat.reduceMul, Nat.reduceSub, Nat.reduceLT, hge, hb.1.1.1, hb.1.1.2, hb.1.2, hb.2, hc, hL, e1, e2, e3, hgt, ho3, hw]
 | (with_reducible refine CU (letter_s _ _) ?_)
 | (with_reducible refine CU (hrun _) ?_)
 | (with_reducible refine CU (word_s _ _) ?_)
 | (with_reducible refine jumpA_go (l := 2) (by with_unfolding_all rfl) ?_)
 | (with_reducible refine jumpA_go (l := 4) (by with_unfolding_all rfl) ?_)
 | (with_reducible refine jumpA_go (l := 5) (by with_unfolding_all rfl) ?_)
 | (with_reducible first | refine CB_ofT (by assumption) fun hc => ?_ | refine CB_ofF (by assumption) fun hc => ?_ | refine CB_split (fun hc => ?_) fun hc => ?_) <;> (try simp only [hc, bs, ↓reduceIte] at h) <;> (try simp only [hc])
 | ((with_reducible first | refine leafR hQ ?_ | refine leafN hQ ?_); (try cases h); simp only [resL, oneD, Option.some.injEq, exists_eq_left', go_sem, hlt, hget, hpu, hinc, Int.reduceLE, ↓reduceIte, reduceCtorEq, Nat.reduceEqDiff, Nat.reduceLeDiff, Nat.reduceAdd, Nat.reduceMul, Nat.reduceSub, Nat.reduceLT, hge, hb.1.1.1, hb.1.1.2, hb.1.2, hb.2, hc, hL, e1, e2, e3, hgt, ho3, hw]; repeat' (first | exact Ok.out | with_reducible refine And.intro ?_ ?_ | (simp; done)))
 | (cases h; replace h := hr; clear hr; (try simp only [bs, ↓reduceIte] at h))
 | (cases h; done))
      · repeat' (first
 | simp only [go_sem, hlt, hget, hpu, hinc, Int.reduceLE, ↓reduceIte, reduceCtorEq, Nat.reduceEqDiff, Nat.reduceLeDiff, Nat.reduceAdd, Nat.reduceMul, Nat.reduceSub, Nat.reduceLT, hge, hb.1.1.1, hb.1.1.2, hb.1.2, hb.2, hc, hL, e1, e2, e3, hgt, ho3, hw]
 | (with_reducible refine CU (letter_s _ _) ?_)
 | (with_reducible refine CU (hrun _) ?_)
 | (with_reducible refine CU (word_s _ _) ?_)
 | (with_reducible refine jumpA_go (l := 2) (by with_unfolding_all rfl) ?_)
 | (with_reducible refine jumpA_go (l := 4) (by with_unfolding_all rfl) ?_)
 | (with_reducible refine jumpA_go (l := 5) (by with_unfolding_all rfl) ?_)
 | (with_reducible first | refine CB_ofT (by assumption) fun hc => ?_ | refine CB_ofF (by assumption) fun hc => ?_ | refine CB_split (fun hc => ?_) fun hc => ?_) <;> (try simp only [hc, bs, ↓reduceIte] at h) <;> (try simp only [hc])
 | ((with_reducible first | refine leafR hQ ?_ | refine leafN hQ ?_); (try cases h); simp only [resL, oneD, Option.some.injEq, exists_eq_left', go_sem, hlt, hget, hpu, hinc, Int.reduceLE, ↓reduceIte, reduceCtorEq, Nat.reduceEqDiff, Nat.reduceLeDiff, Nat.reduceAdd, Nat.reduceMul, Nat.reduceSub, Nat.reduceLT, hge, hb.1.1.1, hb.1.1.2, hb.1.2, hb.2, hc, hL, e1, e2, e3, hgt, ho3, hw]; repeat' (first | exact Ok.out | with_reducible refine And.intro ?_ ?_ | (simp; done)))
 | (cases h; replace h := hr; clear hr; (try simp only [bs, ↓reduceIte] at h))
 | (cases h; done))
    · have ho3 : ((out.length : Int) == 2000) = false := by simp; omega
      have ho4 : ∀ t : Tok, (out ++ [t]).length ≤ 2000 := by intro t; simp; omega
      simp only [ho2, ↓reduceIte] at h
      cases hw : isWord ((c :: r).take k)
      · simp only [hw, Bool.false_eq_true, ↓reduceIte] at h
        repeat' (first
 | simp only [go_sem, hlt, hget, hpu, hinc, Int.reduceLE, ↓reduceIte, reduceCtorEq, Nat.reduceEqDiff, Nat.reduceLeDiff, Nat.reduceAdd, Nat.reduceMul, Nat.reduceSub, Nat.reduceLT, hge, hb.1.1.1, hb.1.1.2, hb.1.2, hb.2, hc, hL, e1, e2, e3, hgt, ho3, hroom, hw]
 | (with_reducible refine CU (letter_s _ _) ?_)
 | (with_reducible refine CU (hrun _) ?_)
 | (with_reducible refine CU (word_s _ _) ?_)
 | (with_reducible refine jumpA_go (l := 2) (by with_unfolding_all rfl) ?_)
 | (with_reducible refine jumpA_go (l := 4) (by with_unfolding_all rfl) ?_)
 | (with_reducible refine jumpA_go (l := 5) (by with_unfolding_all rfl) ?_)
 | (refine IH.to hB fin h hlen2 (ho4 _) (by omega) (Nat.lt_succ_self _) ?_ ?_ ?_ <;> ((try simp only [go_sem, hlt, hget, hpu, hinc, Int.reduceLE, ↓reduceIte, reduceCtorEq, Nat.reduceEqDiff, Nat.reduceLeDiff, Nat.reduceAdd, Nat.reduceMul, Nat.reduceSub, Nat.reduceLT]); repeat' (first | exact Ok.out | with_reducible refine And.intro ?_ ?_ | omega | (simp; done))); done)
 | (with_reducible first | refine CB_ofT (by assumption) fun hc => ?_ | refine CB_ofF (by assumption) fun hc => ?_ | refine CB_split (fun hc => ?_) fun hc => ?_) <;> (try simp only [hc, bs, ↓reduceIte] at h) <;> (try simp only [hc])
 | ((with_reducible first | refine leafR hQ ?_ | refine leafN hQ ?_); (try cases h); simp only [resL, oneD, Option.some.injEq, exists_eq_left', go_sem, hlt, hget, hpu, hinc, Int.reduceLE, ↓reduceIte, reduceCtorEq, Nat.reduceEqDiff, Nat.reduceLeDiff, Nat.reduceAdd, Nat.reduceMul, Nat.reduceSub, Nat.reduceLT, hge, hb.1.1.1, hb.1.1.2, hb.1.2, hb.2, hc, hL, e1, e2, e3, hgt, ho3, hroom, hw]; repeat' (first | exact Ok.out | with_reducible refine And.intro ?_ ?_ | (simp; done)))
 | (cases h; replace h := hr; clear hr; (try simp only [bs, ↓reduceIte] at h))
 | (cases h; done))
      · simp only [hw, ↓reduceIte] at h
        repeat' (first
 | simp only [go_sem, hlt, hget, hpu, hinc, Int.reduceLE, ↓reduceIte, reduceCtorEq, Nat.reduceEqDiff, Nat.reduceLeDiff, Nat.reduceAdd, Nat.reduceMul, Nat.reduceSub, Nat.reduceLT, hge, hb.1.1.1, hb.1.1.2, hb.1.2, hb.2, hc, hL, e1, e2, e3, hgt, ho3, hroom, hw]
 | (with_reducible refine CU (letter_s _ _) ?_)
 | (with_reducible refine CU (hrun _) ?_)
 | (with_reducible refine CU (word_s _ _) ?_)
 | (with_reducible refine jumpA_go (l := 2) (by with_unfolding_all rfl) ?_)
 | (with_reducible refine jumpA_go (l := 4) (by with_unfolding_all rfl) ?_)
 | (with_reducible refine jumpA_go (l := 5) (by with_unfolding_all rfl) ?_)
 | (refine IH.to hB fin h hlen2 (ho4 _) (by omega) (Nat.lt_succ_self _) ?_ ?_ ?_ <;> ((try simp only [go_sem, hlt, hget, hpu, hinc, Int.reduceLE, ↓reduceIte, reduceCtorEq, Nat.reduceEqDiff, Nat.reduceLeDiff, Nat.reduceAdd, Nat.reduceMul, Nat.reduceSub, Nat.reduceLT]); repeat' (first | exact Ok.out | with_reducible refine And.intro ?_ ?_ | omega | (simp; done))); done)
 | (with_reducible first | refine CB_ofT (by assumption) fun hc => ?_ | refine CB_ofF (by assumption) fun hc => ?_ | refine CB_split (fun hc => ?_) fun hc => ?_) <;> (try simp only [hc, bs, ↓reduceIte] at h) <;> (try simp only [hc])
 | ((with_reducible first | refine leafR hQ ?_ | refine leafN hQ ?_); (try cases h); simp only [resL, oneD, Option.some.injEq, exists_eq_left', go_sem, hlt, hget, hpu, hinc, Int.reduceLE, ↓reduceIte, reduceCtorEq, Nat.reduceEqDiff, Nat.reduceLeDiff, Nat.reduceAdd, Nat.reduceMul, Nat.reduceSub, Nat.reduceLT, hge, hb.1.1.1, hb.1.1.2, hb.1.2, hb.2, hc, hL, e1, e2, e3, hgt, ho3, hroom, hw]; repeat' (first | exact Ok.out | with_reducible refine And.intro ?_ ?_ | (simp; done)))
 | (cases h; replace h := hr; clear hr; (try simp only [bs, ↓reduceIte] at h))
 | (cases h; done))

end Go.Abs

/-! Lex3 -/

namespace Go.Abs

set_option maxRecDepth 8000
set_option linter.unusedSimpArgs false
set_option linter.unusedVariables false
open Go.Proofs

theorem runD_pos {c : UInt8} {r : Str} (h : isD c = true) : 0 < runD (c :: r) := by simp [runD, h]

theorem lex_digits {text : Str} (hl : text.length ≤ 100000) {B : Base} {Q : Exit → Tm → St → Prop} {p : List Tok × Int × Int} (hB : B.s = S0)
    (hQ : retF 0 0 [(2, none), (3, some (true, 2))] (.tuple [.slice .shared 4 (p.1.map encTok), .agg (encF p.2)]) ⟨[], []⟩ = Q)
    {n pos : Nat} {out : List Tok} (ho : out.length ≤ 2000) (hp : pos ≤ text.length) (IH : LexGo text B Q p (n + 1))
    {c : UInt8} {r : Str} (h1 : text.drop pos = c :: r) (hb : isB c = false) (hc : ((c.toNat : Int) == 35) = false) (hL : isL c = false) (hD : isD c = true) (hn : (c :: r).length < n + 1) (h : lexF (n + 1) pos (c :: r) out = p) :
    wpC Try.prog B 152 Q7W (jumpA Try.prog B 152 Q81 Q) (lexTM text out pos) (lexST out) := by
  have hpu : 0 < 1 := Nat.zero_lt_one
  have hinc : 0 < 1 := Nat.zero_lt_one
  have hget := (drop_cons h1).1
  have g4 := (drop_cons h1).2.2.2
  have hlt : pos < 4611686018427387904 := by omega
  have hge : decide ((pos : Int) ≥ (text.length : Int)) = false := by simp; omega
  have hroom : (out.length + 1) * 41 ≤ maxStr := by simp only [maxStr]; omega
  have hk2 := runD_len (c :: r)
  have hk1 := runD_pos (r := r) hD
  have hk3 : (c :: r).length = text.length - pos := by rw [← h1, List.length_drop]
  have hall := runD_all (c :: r)
  simp only [lexF, hb, Bool.false_eq_true, ↓reduceIte, hc, tokE, hL, hD] at h
  simp only [isB, Bool.or_eq_false_iff] at hb
  generalize hK : runD (c :: r) = k at h hk2 hk1 hall
  have hlen : ((c :: r).take k).length = k := by rw [List.length_take]; omega
  have hnum := fun s => number_s hall (by rw [hlen]; omega) s
  simp only [hlen] at h
  have hfirst : ((c :: r).take k)[0]? = some c := by rw [List.getElem?_take_of_lt hk1]; rfl
  have e2 : (0 : Int) ≤ (pos : Int) ∧ (pos : Int) ≤ ((pos + k : Nat) : Int) ∧ ((pos + k : Nat) : Int) ≤ (text.length : Int) := by omega
  have e3 : (text.take (pos + k)).drop pos = (c :: r).take k := by rw [slice_at, h1]
  have fin : text.drop (pos + k) = (c :: r).drop k := by rw [← h1, List.drop_drop]
  have hlen2 : ((c :: r).drop k).length < n := by rw [List.length_drop]; omega
  have hgo : pos + k ≤ text.length := by omega
  repeat' (first
 | simp only [go_sem, hlt, hget, hpu, hinc, Int.reduceLE, ↓reduceIte, reduceCtorEq, Nat.reduceEqDiff, Nat.reduceLeDiff, Nat.reduceAdd, Nat.reduceMul, Nat.reduceSub, Nat.reduceLT, hge, hb.1.1.1, hb.1.1.2, hb.1.2, hb.2, hc, hL, hD]
 | (with_reducible refine CU (letter_s _ _) ?_)
 | (with_reducible refine CU (digit_s _ _) ?_)
 | (with_reducible refine jumpA_go (l := 3) (by with_unfolding_all rfl) ?_)
 | (with_reducible first | refine CB_ofT (by assumption) fun hc => ?_ | refine CB_ofF (by assumption) fun hc => ?_ | refine CB_split (fun hc => ?_) fun hc => ?_) <;> (try simp only [hc, bs, ↓reduceIte] at h) <;> (try simp only [hc])
 | ((with_reducible first | refine leafR hQ ?_ | refine leafN hQ ?_); (try cases h); simp only [resL, oneD, Option.some.injEq, exists_eq_left', go_sem, hlt, hget, hpu, hinc, Int.reduceLE, ↓reduceIte, reduceCtorEq, Nat.reduceEqDiff, Nat.reduceLeDiff, Nat.reduceAdd, Nat.reduceMul, Nat.reduceSub, Nat.reduceLT, hge, hb.1.1.1, hb.1.1.2, hb.1.2, hb.2, hc, hL, hD]; repeat' (first | exact Ok.out | with_reducible refine And.intro ?_ ?_ | (simp; done)))
 | (cases h; replace h := hr; clear hr; (try simp only [bs, ↓reduceIte] at h))
 | (cases h; done))
  refine SemL.re _ _ 2 1 (by rw [hB]; exact Nat.le_of_ble_eq_true rfl) (by rw [hB]; exact Nat.le_of_ble_eq_true rfl) ?_ ?_ (SemL.ind (ι := Str × Nat) (fun i => text.drop i.2 = i.1 ∧ i.2 + runD i.1 = pos + k) (fun i => i.1.length)
    (fun i => lexTM text out i.2) (fun i => ⟨[[.int .i64 0, .int .i64 0], [.int .i64 0, .str [], .int .i64 0, .int .i64 (pos : Int)]], [some out.length]⟩) ?_ (c :: r, pos) ⟨h1, by dsimp only; omega⟩)
  · (simp only [go_sem, hlt, hget, hpu, hinc, Int.reduceLE, ↓reduceIte, reduceCtorEq, Nat.reduceEqDiff, Nat.reduceLeDiff, Nat.reduceAdd, Nat.reduceMul, Nat.reduceSub, Nat.reduceLT]; repeat' (first | exact Ok.out | with_reducible refine And.intro ?_ ?_))
  · (simp only [go_sem, hlt, hget, hpu, hinc, Int.reduceLE, ↓reduceIte, reduceCtorEq, Nat.reduceEqDiff, Nat.reduceLeDiff, Nat.reduceAdd, Nat.reduceMul, Nat.reduceSub, Nat.reduceLT]; repeat' (first | exact Ok.out | with_reducible refine And.intro ?_ ?_))
  rintro ⟨rest, j⟩ ⟨j1, j2⟩ IHl
  dsimp only at j1 j2
  have step : ∀ d rest', rest = d :: rest' → isD d = true → wpC Try.prog B 152 Q6I (thenQ (SemL Try.prog B 152 Q6I
      (inBlockQ 3 (thenQ (wpC Try.prog B 152 Q7B (jumpA Try.prog B 152 Q81 Q)) (jumpA Try.prog B 152 Q81 Q))))
      (inBlockQ 3 (thenQ (wpC Try.prog B 152 Q7B (jumpA Try.prog B 152 Q81 Q)) (jumpA Try.prog B 152 Q81 Q))))
      (lexTM text out j) ⟨[[.int .i64 0, .int .i64 0], [.int .i64 0, .str [], .int .i64 0, .int .i64 (pos : Int)]], [some out.length]⟩ := by
    rintro d rest' rfl hd
    obtain ⟨hget, g2, hge, g5⟩ := drop_cons j1
    have hlt : j < 4611686018427387904 := by omega
    simp only [runD, hd, ↓reduceIte] at j2
    repeat' (first
 | simp only [go_sem, hlt, hget, hpu, hinc, Int.reduceLE, ↓reduceIte, reduceCtorEq, Nat.reduceEqDiff, Nat.reduceLeDiff, Nat.reduceAdd, Nat.reduceMul, Nat.reduceSub, Nat.reduceLT, hge, hd]
 | (with_reducible refine CU (digit_s _ _) ?_)
 | (with_reducible first | refine CB_ofT (by assumption) fun hc => ?_ | refine CB_ofF (by assumption) fun hc => ?_ | refine CB_split (fun hc => ?_) fun hc => ?_) <;> (try simp only [hc, bs, ↓reduceIte] at h) <;> (try simp only [hc])
 | ((with_reducible first | refine leafR hQ ?_ | refine leafN hQ ?_); (try cases h); simp only [resL, oneD, Option.some.injEq, exists_eq_left', go_sem, hlt, hget, hpu, hinc, Int.reduceLE, ↓reduceIte, reduceCtorEq, Nat.reduceEqDiff, Nat.reduceLeDiff, Nat.reduceAdd, Nat.reduceMul, Nat.reduceSub, Nat.reduceLT, hge, hd]; repeat' (first | exact Ok.out | with_reducible refine And.intro ?_ ?_ | (simp; done)))
 | (cases h; replace h := hr; clear hr; (try simp only [bs, ↓reduceIte] at h))
 | (cases h; done))
    refine SemL.re _ _ 2 1 (by rw [hB]; exact Nat.le_of_ble_eq_true rfl) (by rw [hB]; exact Nat.le_of_ble_eq_true rfl) ?_ ?_ (IHl (rest', j + 1) ⟨g2, by dsimp only; omega⟩ (Nat.lt_succ_self _))
    · (simp only [go_sem, hlt, hget, hpu, hinc, Int.reduceLE, ↓reduceIte, reduceCtorEq, Nat.reduceEqDiff, Nat.reduceLeDiff, Nat.reduceAdd, Nat.reduceMul, Nat.reduceSub, Nat.reduceLT]; repeat' (first | exact Ok.out | with_reducible refine And.intro ?_ ?_))
    · (simp only [go_sem, hlt, hget, hpu, hinc, Int.reduceLE, ↓reduceIte, reduceCtorEq, Nat.reduceEqDiff, Nat.reduceLeDiff, Nat.reduceAdd, Nat.reduceMul, Nat.reduceSub, Nat.reduceLT]; repeat' (first | exact Ok.out | with_reducible refine And.intro ?_ ?_))
  cases rest with
  | nil =>
    have hge := drop_nil j1
    simp only [runD, Nat.add_zero] at j2
    subst j2
    by_cases hz : k > 1 ∧ (c.toNat : Int) = 48
    · have z1 : decide ((k : Int) > 1) = true := by simp; omega
      have z2 : ((c.toNat : Int) == 48) = true := by simp [hz.2]
      rw [if_pos hz] at h
      dsimp only at h
      repeat' (first
 | simp only [go_sem, hlt, hget, hpu, hinc, Int.reduceLE, ↓reduceIte, reduceCtorEq, Nat.reduceEqDiff, Nat.reduceLeDiff, Nat.reduceAdd, Nat.reduceMul, Nat.reduceSub, Nat.reduceLT, hge, e2, e3, hlen, hfirst, z1, z2]
 | (with_reducible refine jumpA_go (l := 4) (by with_unfolding_all rfl) ?_)
 | (with_reducible refine jumpA_go (l := 5) (by with_unfolding_all rfl) ?_)
 | (with_reducible first | refine CB_ofT (by assumption) fun hc => ?_ | refine CB_ofF (by assumption) fun hc => ?_ | refine CB_split (fun hc => ?_) fun hc => ?_) <;> (try simp only [hc, bs, ↓reduceIte] at h) <;> (try simp only [hc])
 | ((with_reducible first | refine leafR hQ ?_ | refine leafN hQ ?_); (try cases h); simp only [resL, oneD, Option.some.injEq, exists_eq_left', go_sem, hlt, hget, hpu, hinc, Int.reduceLE, ↓reduceIte, reduceCtorEq, Nat.reduceEqDiff, Nat.reduceLeDiff, Nat.reduceAdd, Nat.reduceMul, Nat.reduceSub, Nat.reduceLT, hge, e2, e3, hlen, hfirst, z1, z2]; repeat' (first | exact Ok.out | with_reducible refine And.intro ?_ ?_ | (simp; done)))
 | (cases h; replace h := hr; clear hr; (try simp only [bs, ↓reduceIte] at h))
 | (cases h; done))
    · have hz' : decide ((k : Int) > 1) = false ∨ (decide ((k : Int) > 1) = true ∧ ((c.toNat : Int) == 48) = false) := by
        by_cases h1 : k > 1
        · right; exact ⟨by simp; omega, by simp; intro h2; exact hz ⟨h1, h2⟩⟩
        · left; simp; omega
      rw [if_neg hz] at h
      cases hw : worth 0 ((c :: r).take k) with
      | none =>
        have hwp : worthP ((c :: r).take k) = (0, false) := by simp only [worthP, hw]
        simp only [hwp] at hnum
        simp only [hw] at h
        rcases hz' with z1 | ⟨z1, z2⟩
        · repeat' (first
 | simp only [go_sem, hlt, hget, hpu, hinc, Int.reduceLE, ↓reduceIte, reduceCtorEq, Nat.reduceEqDiff, Nat.reduceLeDiff, Nat.reduceAdd, Nat.reduceMul, Nat.reduceSub, Nat.reduceLT, hge, e2, e3, hlen, hfirst, z1]
 | (with_reducible refine CU (hnum _) ?_)
 | (with_reducible refine jumpA_go (l := 4) (by with_unfolding_all rfl) ?_)
 | (with_reducible refine jumpA_go (l := 5) (by with_unfolding_all rfl) ?_)
 | (with_reducible first | refine CB_ofT (by assumption) fun hc => ?_ | refine CB_ofF (by assumption) fun hc => ?_ | refine CB_split (fun hc => ?_) fun hc => ?_) <;> (try simp only [hc, bs, ↓reduceIte] at h) <;> (try simp only [hc])
 | ((with_reducible first | refine leafR hQ ?_ | refine leafN hQ ?_); (try cases h); simp only [resL, oneD, Option.some.injEq, exists_eq_left', go_sem, hlt, hget, hpu, hinc, Int.reduceLE, ↓reduceIte, reduceCtorEq, Nat.reduceEqDiff, Nat.reduceLeDiff, Nat.reduceAdd, Nat.reduceMul, Nat.reduceSub, Nat.reduceLT, hge, e2, e3, hlen, hfirst, z1]; repeat' (first | exact Ok.out | with_reducible refine And.intro ?_ ?_ | (simp; done)))
 | (cases h; replace h := hr; clear hr; (try simp only [bs, ↓reduceIte] at h))
 | (cases h; done))
        · repeat' (first
 | simp only [go_sem, hlt, hget, hpu, hinc, Int.reduceLE, ↓reduceIte, reduceCtorEq, Nat.reduceEqDiff, Nat.reduceLeDiff, Nat.reduceAdd, Nat.reduceMul, Nat.reduceSub, Nat.reduceLT, hge, e2, e3, hlen, hfirst, z1, z2]
 | (with_reducible refine CU (hnum _) ?_)
 | (with_reducible refine jumpA_go (l := 4) (by with_unfolding_all rfl) ?_)
 | (with_reducible refine jumpA_go (l := 5) (by with_unfolding_all rfl) ?_)
 | (with_reducible first | refine CB_ofT (by assumption) fun hc => ?_ | refine CB_ofF (by assumption) fun hc => ?_ | refine CB_split (fun hc => ?_) fun hc => ?_) <;> (try simp only [hc, bs, ↓reduceIte] at h) <;> (try simp only [hc])
 | ((with_reducible first | refine leafR hQ ?_ | refine leafN hQ ?_); (try cases h); simp only [resL, oneD, Option.some.injEq, exists_eq_left', go_sem, hlt, hget, hpu, hinc, Int.reduceLE, ↓reduceIte, reduceCtorEq, Nat.reduceEqDiff, Nat.reduceLeDiff, Nat.reduceAdd, Nat.reduceMul, Nat.reduceSub, Nat.reduceLT, hge, e2, e3, hlen, hfirst, z1, z2]; repeat' (first | exact Ok.out | with_reducible refine And.intro ?_ ?_ | (simp; done)))
 | (cases h; replace h := hr; clear hr; (try simp only [bs, ↓reduceIte] at h))
 | (cases h; done))
      | some v =>
        have hwp : worthP ((c :: r).take k) = (v, true) := by simp only [worthP, hw]
        simp only [hwp] at hnum
        simp only [hw, hlen] at h
        by_cases ho2 : out.length = 2000
        · have ho3 : ((out.length : Int) == 2000) = true := by simp [ho2]
          simp only [ho2, ↓reduceIte] at h
          rcases hz' with z1 | ⟨z1, z2⟩
          · repeat' (first
 | simp only [go_sem, hlt, hget, hpu, hinc, Int.reduceLE, ↓reduceIte, reduceCtorEq, Nat.reduceEqDiff, Nat.reduceLeDiff, Nat.reduceAdd, Nat.reduceMul, Nat.reduceSub, Nat.reduceLT, hge, e2, e3, hlen, hfirst, z1, ho3]
 | (with_reducible refine CU (hnum _) ?_)
 | (with_reducible refine jumpA_go (l := 4) (by with_unfolding_all rfl) ?_)
 | (with_reducible refine jumpA_go (l := 5) (by with_unfolding_all rfl) ?_)
 | (with_reducible first | refine CB_ofT (by assumption) fun hc => ?_ | refine CB_ofF (by assumption) fun hc => ?_ | refine CB_split (fun hc => ?_) fun hc => ?_) <;> (try simp only [hc, bs, ↓reduceIte] at h) <;> (try simp only [hc])
 | ((with_reducible first | refine leafR hQ ?_ | refine leafN hQ ?_); (try cases h); simp only [resL, oneD, Option.some.injEq, exists_eq_left', go_sem, hlt, hget, hpu, hinc, Int.reduceLE, ↓reduceIte, reduceCtorEq, Nat.reduceEqDiff, Nat.reduceLeDiff, Nat.reduceAdd, Nat.reduceMul, Nat.reduceSub, Nat.reduceLT, hge, e2, e3, hlen, hfirst, z1, ho3]; repeat' (first | exact Ok.out | with_reducible refine And.intro ?_ ?_ | (simp; done)))
 | (cases h; replace h := hr; clear hr; (try simp only [bs, ↓reduceIte] at h))
 | (cases h; done))
          · repeat' (first
 | simp only [go_sem, hlt, hget, hpu, hinc, Int.reduceLE, ↓reduceIte, reduceCtorEq, Nat.reduceEqDiff, Nat.reduceLeDiff, Nat.reduceAdd, Nat.reduceMul, Nat.reduceSub, Nat.reduceLT, hge, e2, e3, hlen, hfirst, z1, z2, ho3]
 | (with_reducible refine CU (hnum _) ?_)
 | (with_reducible refine jumpA_go (l := 4) (by with_unfolding_all rfl) ?_)
 | (with_reducible refine jumpA_go (l := 5) (by with_unfolding_all rfl) ?_)
 | (with_reducible first | refine CB_ofT (by assumption) fun hc => ?_ | refine CB_ofF (by assumption) fun hc => ?_ | refine CB_split (fun hc => ?_) fun hc => ?_) <;> (try simp only [hc, bs, ↓reduceIte] at h) <;> (try simp only [hc])
 | ((with_reducible first | refine leafR hQ ?_ | refine leafN hQ ?_); (try cases h); simp only [resL, oneD, Option.some.injEq, exists_eq_left', go_sem, hlt, hget, hpu, hinc, Int.reduceLE, ↓reduceIte, reduceCtorEq, Nat.reduceEqDiff, Nat.reduceLeDiff, Nat.reduceAdd, Nat.reduceMul, Nat.reduceSub, Nat.reduceLT, hge, e2, e3, hlen, hfirst, z1, z2, ho3]; repeat' (first | exact Ok.out | with_reducible refine And.intro ?_ ?_ | (simp; done)))
 | (cases h; replace h := hr; clear hr; (try simp only [bs, ↓reduceIte] at h))
 | (cases h; done))
        · have ho3 : ((out.length : Int) == 2000) = false := by simp; omega
          have ho4 : ∀ t : Tok, (out ++ [t]).length ≤ 2000 := by intro t; simp; omega
          simp only [ho2, ↓reduceIte] at h
          rcases hz' with z1 | ⟨z1, z2⟩
          · repeat' (first
 | simp only [go_sem, hlt, hget, hpu, hinc, Int.reduceLE, ↓reduceIte, reduceCtorEq, Nat.reduceEqDiff, Nat.reduceLeDiff, Nat.reduceAdd, Nat.reduceMul, Nat.reduceSub, Nat.reduceLT, hge, e2, e3, hlen, hfirst, z1, ho3, hroom]
 | (with_reducible refine CU (hnum _) ?_)
 | (with_reducible refine jumpA_go (l := 4) (by with_unfolding_all rfl) ?_)
 | (with_reducible refine jumpA_go (l := 5) (by with_unfolding_all rfl) ?_)
 | (refine IH.to hB fin h hlen2 (ho4 _) hgo (Nat.lt_succ_self _) ?_ ?_ ?_ <;> ((try simp only [go_sem, hlt, hget, hpu, hinc, Int.reduceLE, ↓reduceIte, reduceCtorEq, Nat.reduceEqDiff, Nat.reduceLeDiff, Nat.reduceAdd, Nat.reduceMul, Nat.reduceSub, Nat.reduceLT]); repeat' (first | exact Ok.out | with_reducible refine And.intro ?_ ?_ | omega | (simp; done))); done)
 | (with_reducible first | refine CB_ofT (by assumption) fun hc => ?_ | refine CB_ofF (by assumption) fun hc => ?_ | refine CB_split (fun hc => ?_) fun hc => ?_) <;> (try simp only [hc, bs, ↓reduceIte] at h) <;> (try simp only [hc])
 | ((with_reducible first | refine leafR hQ ?_ | refine leafN hQ ?_); (try cases h); simp only [resL, oneD, Option.some.injEq, exists_eq_left', go_sem, hlt, hget, hpu, hinc, Int.reduceLE, ↓reduceIte, reduceCtorEq, Nat.reduceEqDiff, Nat.reduceLeDiff, Nat.reduceAdd, Nat.reduceMul, Nat.reduceSub, Nat.reduceLT, hge, e2, e3, hlen, hfirst, z1, ho3, hroom]; repeat' (first | exact Ok.out | with_reducible refine And.intro ?_ ?_ | (simp; done)))
 | (cases h; replace h := hr; clear hr; (try simp only [bs, ↓reduceIte] at h))
 | (cases h; done))
          · repeat' (first
 | simp only [go_sem, hlt, hget, hpu, hinc, Int.reduceLE, ↓reduceIte, reduceCtorEq, Nat.reduceEqDiff, Nat.reduceLeDiff, Nat.reduceAdd, Nat.reduceMul, Nat.reduceSub, Nat.reduceLT, hge, e2, e3, hlen, hfirst, z1, z2, ho3, hroom]
 | (with_reducible refine CU (hnum _) ?_)
 | (with_reducible refine jumpA_go (l := 4) (by with_unfolding_all rfl) ?_)
 | (with_reducible refine jumpA_go (l := 5) (by with_unfolding_all rfl) ?_)
 | (refine IH.to hB fin h hlen2 (ho4 _) hgo (Nat.lt_succ_self _) ?_ ?_ ?_ <;> ((try simp only [go_sem, hlt, hget, hpu, hinc, Int.reduceLE, ↓reduceIte, reduceCtorEq, Nat.reduceEqDiff, Nat.reduceLeDiff, Nat.reduceAdd, Nat.reduceMul, Nat.reduceSub, Nat.reduceLT]); repeat' (first | exact Ok.out | with_reducible refine And.intro ?_ ?_ | omega | (simp; done))); done)
 | (with_reducible first | refine CB_ofT (by assumption) fun hc => ?_ | refine CB_ofF (by assumption) fun hc => ?_ | refine CB_split (fun hc => ?_) fun hc => ?_) <;> (try simp only [hc, bs, ↓reduceIte] at h) <;> (try simp only [hc])
 | ((with_reducible first | refine leafR hQ ?_ | refine leafN hQ ?_); (try cases h); simp only [resL, oneD, Option.some.injEq, exists_eq_left', go_sem, hlt, hget, hpu, hinc, Int.reduceLE, ↓reduceIte, reduceCtorEq, Nat.reduceEqDiff, Nat.reduceLeDiff, Nat.reduceAdd, Nat.reduceMul, Nat.reduceSub, Nat.reduceLT, hge, e2, e3, hlen, hfirst, z1, z2, ho3, hroom]; repeat' (first | exact Ok.out | with_reducible refine And.intro ?_ ?_ | (simp; done)))
 | (cases h; replace h := hr; clear hr; (try simp only [bs, ↓reduceIte] at h))
 | (cases h; done))
  | cons d rest =>
    obtain ⟨hget, g2, hge, g5⟩ := drop_cons j1
    have hlt : j < 4611686018427387904 := by omega
    cases hd : isD d
    · simp only [runD, hd, Bool.false_eq_true, ↓reduceIte, Nat.add_zero] at j2
      subst j2
      by_cases hz : k > 1 ∧ (c.toNat : Int) = 48
      · have z1 : decide ((k : Int) > 1) = true := by simp; omega
        have z2 : ((c.toNat : Int) == 48) = true := by simp [hz.2]
        rw [if_pos hz] at h
        dsimp only at h
        repeat' (first
 | simp only [go_sem, hlt, hget, hpu, hinc, Int.reduceLE, ↓reduceIte, reduceCtorEq, Nat.reduceEqDiff, Nat.reduceLeDiff, Nat.reduceAdd, Nat.reduceMul, Nat.reduceSub, Nat.reduceLT, hge, hd, e2, e3, hlen, hfirst, z1, z2]
 | (with_reducible refine CU (digit_s _ _) ?_)
 | (with_reducible refine jumpA_go (l := 4) (by with_unfolding_all rfl) ?_)
 | (with_reducible refine jumpA_go (l := 5) (by with_unfolding_all rfl) ?_)
 | (with_reducible first | refine CB_ofT (by assumption) fun hc => ?_ | refine CB_ofF (by assumption) fun hc => ?_ | refine CB_split (fun hc => ?_) fun hc => ?_) <;> (try simp only [hc, bs, ↓reduceIte] at h) <;> (try simp only [hc])
 | ((with_reducible first | refine leafR hQ ?_ | refine leafN hQ ?_); (try cases h); simp only [resL, oneD, Option.some.injEq, exists_eq_left', go_sem, hlt, hget, hpu, hinc, Int.reduceLE, ↓reduceIte, reduceCtorEq, Nat.reduceEqDiff, Nat.reduceLeDiff, Nat.reduceAdd, Nat.reduceMul, Nat.reduceSub, Nat.reduceLT, hge, hd, e2, e3, hlen, hfirst, z1, z2]; repeat' (first | exact Ok.out | with_reducible refine And.intro ?_ ?_ | (simp; done)))
 | (cases h; replace h := hr; clear hr; (try simp only [bs, ↓reduceIte] at h))
 | (cases h; done))
      · have hz' : decide ((k : Int) > 1) = false ∨ (decide ((k : Int) > 1) = true ∧ ((c.toNat : Int) == 48) = false) := by
          by_cases h1 : k > 1
          · right; exact ⟨by simp; omega, by simp; intro h2; exact hz ⟨h1, h2⟩⟩
          · left; simp; omega
        rw [if_neg hz] at h
        cases hw : worth 0 ((c :: r).take k) with
        | none =>
          have hwp : worthP ((c :: r).take k) = (0, false) := by simp only [worthP, hw]
          simp only [hwp] at hnum
          simp only [hw] at h
          rcases hz' with z1 | ⟨z1, z2⟩
          · repeat' (first
 | simp only [go_sem, hlt, hget, hpu, hinc, Int.reduceLE, ↓reduceIte, reduceCtorEq, Nat.reduceEqDiff, Nat.reduceLeDiff, Nat.reduceAdd, Nat.reduceMul, Nat.reduceSub, Nat.reduceLT, hge, hd, e2, e3, hlen, hfirst, z1]
 | (with_reducible refine CU (digit_s _ _) ?_)
 | (with_reducible refine CU (hnum _) ?_)
 | (with_reducible refine jumpA_go (l := 4) (by with_unfolding_all rfl) ?_)
 | (with_reducible refine jumpA_go (l := 5) (by with_unfolding_all rfl) ?_)
 | (with_reducible first | refine CB_ofT (by assumption) fun hc => ?_ | refine CB_ofF (by assumption) fun hc => ?_ | refine CB_split (fun hc => ?_) fun hc => ?_) <;> (try simp only [hc, bs, ↓reduceIte] at h) <;> (try simp only [hc])
 | ((with_reducible first | refine leafR hQ ?_ | refine leafN hQ ?_); (try cases h); simp only [resL, oneD, Option.some.injEq, exists_eq_left', go_sem, hlt, hget, hpu, hinc, Int.reduceLE, ↓reduceIte, reduceCtorEq, Nat.reduceEqDiff, Nat.reduceLeDiff, Nat.reduceAdd, Nat.reduceMul, Nat.reduceSub, Nat.reduceLT, hge, hd, e2, e3, hlen, hfirst, z1]; repeat' (first | exact Ok.out | with_reducible refine And.intro ?_ ?_ | (simp; done)))
 | (cases h; replace h := hr; clear hr; (try simp only [bs, ↓reduceIte] at h))
 | (cases h; done))
          · repeat' (first
 | simp only [go_sem, hlt, hget, hpu, hinc, Int.reduceLE, ↓reduceIte, reduceCtorEq, Nat.reduceEqDiff, Nat.reduceLeDiff, Nat.reduceAdd, Nat.reduceMul, Nat.reduceSub, Nat.reduceLT, hge, hd, e2, e3, hlen, hfirst, z1, z2]
 | (with_reducible refine CU (digit_s _ _) ?_)
 | (with_reducible refine CU (hnum _) ?_)
 | (with_reducible refine jumpA_go (l := 4) (by with_unfolding_all rfl) ?_)
 | (with_reducible refine jumpA_go (l := 5) (by with_unfolding_all rfl) ?_)
 | (with_reducible first | refine CB_ofT (by assumption) fun hc => ?_ | refine CB_ofF (by assumption) fun hc => ?_ | refine CB_split (fun hc => ?_) fun hc => ?_) <;> (try simp only [hc, bs, ↓reduceIte] at h) <;> (try simp only [hc])
 | ((with_reducible first | refine leafR hQ ?_ | refine leafN hQ ?_); (try cases h); simp only [resL, oneD, Option.some.injEq, exists_eq_left', go_sem, hlt, hget, hpu, hinc, Int.reduceLE, ↓reduceIte, reduceCtorEq, Nat.reduceEqDiff, Nat.reduceLeDiff, Nat.reduceAdd, Nat.reduceMul, Nat.reduceSub, Nat.reduceLT, hge, hd, e2, e3, hlen, hfirst, z1, z2]; repeat' (first | exact Ok.out | with_reducible refine And.intro ?_ ?_ | (simp; done)))
 | (cases h; replace h := hr; clear hr; (try simp only [bs, ↓reduceIte] at h))
 | (cases h; done))
        | some v =>
          have hwp : worthP ((c :: r).take k) = (v, true) := by simp only [worthP, hw]
          simp only [hwp] at hnum
          simp only [hw, hlen] at h
          by_cases ho2 : out.length = 2000
          · have ho3 : ((out.length : Int) == 2000) = true := by simp [ho2]
            simp only [ho2, ↓reduceIte] at h
            rcases hz' with z1 | ⟨z1, z2⟩
            · repeat' (first
 | simp only [go_sem, hlt, hget, hpu, hinc, Int.reduceLE, ↓reduceIte, reduceCtorEq, Nat.reduceEqDiff, Nat.reduceLeDiff, Nat.reduceAdd, Nat.reduceMul, Nat.reduceSub, Nat.reduceLT, hge, hd, e2, e3, hlen, hfirst, z1, ho3]
 | (with_reducible refine CU (digit_s _ _) ?_)
 | (with_reducible refine CU (hnum _) ?_)
 | (with_reducible refine jumpA_go (l := 4) (by with_unfolding_all rfl) ?_)
 | (with_reducible refine jumpA_go (l := 5) (by with_unfolding_all rfl) ?_)
 | (with_reducible first | refine CB_ofT (by assumption) fun hc => ?_ | refine CB_ofF (by assumption) fun hc => ?_ | refine CB_split (fun hc => ?_) fun hc => ?_) <;> (try simp only [hc, bs, ↓reduceIte] at h) <;> (try simp only [hc])
 | ((with_reducible first | refine leafR hQ ?_ | refine leafN hQ ?_); (try cases h); simp only [resL, oneD, Option.some.injEq, exists_eq_left', go_sem, hlt, hget, hpu, hinc, Int.reduceLE, ↓reduceIte, reduceCtorEq, Nat.reduceEqDiff, Nat.reduceLeDiff, Nat.reduceAdd, Nat.reduceMul, Nat.reduceSub, Nat.reduceLT, hge, hd, e2, e3, hlen, hfirst, z1, ho3]; repeat' (first | exact Ok.out | with_reducible refine And.intro ?_ ?_ | (simp; done)))
 | (cases h; replace h := hr; clear hr; (try simp only [bs, ↓reduceIte] at h))
 | (cases h; done))
            · repeat' (first
 | simp only [go_sem, hlt, hget, hpu, hinc, Int.reduceLE, ↓reduceIte, reduceCtorEq, Nat.reduceEqDiff, Nat.reduceLeDiff, Nat.reduceAdd, Nat.reduceMul, Nat.reduceSub, Nat.reduceLT, hge, hd, e2, e3, hlen, hfirst, z1, z2, ho3]
 | (with_reducible refine CU (digit_s _ _) ?_)
 | (with_reducible refine CU (hnum _) ?_)
 | (with_reducible refine jumpA_go (l := 4) (by with_unfolding_all rfl) ?_)
 | (with_reducible refine jumpA_go (l := 5) (by with_unfolding_all rfl) ?_)
 | (with_reducible first | refine CB_ofT (by assumption) fun hc => ?_ | refine CB_ofF (by assumption) fun hc => ?_ | refine CB_split (fun hc => ?_) fun hc => ?_) <;> (try simp only [hc, bs, ↓reduceIte] at h) <;> (try simp only [hc])
 | ((with_reducible first | refine leafR hQ ?_ | refine leafN hQ ?_); (try cases h); simp only [resL, oneD, Option.some.injEq, exists_eq_left', go_sem, hlt, hget, hpu, hinc, Int.reduceLE, ↓reduceIte, reduceCtorEq, Nat.reduceEqDiff, Nat.reduceLeDiff, Nat.reduceAdd, Nat.reduceMul, Nat.reduceSub, Nat.reduceLT, hge, hd, e2, e3, hlen, hfirst, z1, z2, ho3]; repeat' (first | exact Ok.out | with_reducible refine And.intro ?_ ?_ | (simp; done)))
 | (cases h; replace h := hr; clear hr; (try simp only [bs, ↓reduceIte] at h))
 | (cases h; done))
          · have ho3 : ((out.length : Int) == 2000) = false := by simp; omega
            have ho4 : ∀ t : Tok, (out ++ [t]).length ≤ 2000 := by intro t; simp; omega
            simp only [ho2, ↓reduceIte] at h
            rcases hz' with z1 | ⟨z1, z2⟩
            · repeat' (first
 | simp only [go_sem, hlt, hget, hpu, hinc, Int.reduceLE, ↓reduceIte, reduceCtorEq, Nat.reduceEqDiff, Nat.reduceLeDiff, Nat.reduceAdd, Nat.reduceMul, Nat.reduceSub, Nat.reduceLT, hge, hd, e2, e3, hlen, hfirst, z1, ho3, hroom]
 | (with_reducible refine CU (digit_s _ _) ?_)
 | (with_reducible refine CU (hnum _) ?_)
 | (with_reducible refine jumpA_go (l := 4) (by with_unfolding_all rfl) ?_)
 | (with_reducible refine jumpA_go (l := 5) (by with_unfolding_all rfl) ?_)
 | (refine IH.to hB fin h hlen2 (ho4 _) hgo (Nat.lt_succ_self _) ?_ ?_ ?_ <;> ((try simp only [go_sem, hlt, hget, hpu, hinc, Int.reduceLE, ↓reduceIte, reduceCtorEq, Nat.reduceEqDiff, Nat.reduceLeDiff, Nat.reduceAdd, Nat.reduceMul, Nat.reduceSub, Nat.reduceLT]); repeat' (first | exact Ok.out | with_reducible refine And.intro ?_ ?_ | omega | (simp; done))); done)
 | (with_reducible first | refine CB_ofT (by assumption) fun hc => ?_ | refine CB_ofF (by assumption) fun hc => ?_ | refine CB_split (fun hc => ?_) fun hc => ?_) <;> (try simp only [hc, bs, ↓reduceIte] at h) <;> (try simp only [hc])
 | ((with_reducible first | refine leafR hQ ?_ | refine leafN hQ ?_); (try cases h); simp only [resL, oneD, Option.some.injEq, exists_eq_left', go_sem, hlt, hget, hpu, hinc, Int.reduceLE, ↓reduceIte, reduceCtorEq, Nat.reduceEqDiff, Nat.reduceLeDiff, Nat.reduceAdd, Nat.reduceMul, Nat.reduceSub, Nat.reduceLT, hge, hd, e2, e3, hlen, hfirst, z1, ho3, hroom]; repeat' (first | exact Ok.out | with_reducible refine And.intro ?_ ?_ | (simp; done)))
 | (cases h; replace h := hr; clear hr; (try simp only [bs, ↓reduceIte] at h))
 | (cases h; done))
            · repeat' (first
 | simp only [go_sem, hlt, hget, hpu, hinc, Int.reduceLE, ↓reduceIte, reduceCtorEq, Nat.reduceEqDiff, Nat.reduceLeDiff, Nat.reduceAdd, Nat.reduceMul, Nat.reduceSub, Nat.reduceLT, hge, hd, e2, e3, hlen, hfirst, z1, z2, ho3, hroom]
 | (with_reducible refine CU (digit_s _ _) ?_)
 | (with_reducible refine CU (hnum _) ?_)
 | (with_reducible refine jumpA_go (l := 4) (by with_unfolding_all rfl) ?_)
 | (with_reducible refine jumpA_go (l := 5) (by with_unfolding_all rfl) ?_)
 | (refine IH.to hB fin h hlen2 (ho4 _) hgo (Nat.lt_succ_self _) ?_ ?_ ?_ <;> ((try simp only [go_sem, hlt, hget, hpu, hinc, Int.reduceLE, ↓reduceIte, reduceCtorEq, Nat.reduceEqDiff, Nat.reduceLeDiff, Nat.reduceAdd, Nat.reduceMul, Nat.reduceSub, Nat.reduceLT]); repeat' (first | exact Ok.out | with_reducible refine And.intro ?_ ?_ | omega | (simp; done))); done)
 | (with_reducible first | refine CB_ofT (by assumption) fun hc => ?_ | refine CB_ofF (by assumption) fun hc => ?_ | refine CB_split (fun hc => ?_) fun hc => ?_) <;> (try simp only [hc, bs, ↓reduceIte] at h) <;> (try simp only [hc])
 | ((with_reducible first | refine leafR hQ ?_ | refine leafN hQ ?_); (try cases h); simp only [resL, oneD, Option.some.injEq, exists_eq_left', go_sem, hlt, hget, hpu, hinc, Int.reduceLE, ↓reduceIte, reduceCtorEq, Nat.reduceEqDiff, Nat.reduceLeDiff, Nat.reduceAdd, Nat.reduceMul, Nat.reduceSub, Nat.reduceLT, hge, hd, e2, e3, hlen, hfirst, z1, z2, ho3, hroom]; repeat' (first | exact Ok.out | with_reducible refine And.intro ?_ ?_ | (simp; done)))
 | (cases h; replace h := hr; clear hr; (try simp only [bs, ↓reduceIte] at h))
 | (cases h; done))
    · exact step d rest rfl hd


theorem lex_all {text : Str} (hl : text.length ≤ 100000) {B : Base} {Q : Exit → Tm → St → Prop} {p : List Tok × Int × Int} (hB : B.s = S0)
    (hQ : retF 0 0 [(2, none), (3, some (true, 2))] (.tuple [.slice .shared 4 (p.1.map encTok), .agg (encF p.2)]) ⟨[], []⟩ = Q)
    {n pos : Nat} {out : List Tok} (ho : out.length ≤ 2000) (hp : pos ≤ text.length) (IH : LexGo text B Q p (n + 1)) {rest : Str} (h1 : text.drop pos = rest) (h : lexF (n + 1) pos rest out = p) (hn : rest.length < n + 1) :
    wpC Try.prog B 152 Q7W (jumpA Try.prog B 152 Q81 Q) (lexTM text out pos) (lexST out) := by
  cases rest with
  | nil => exact lex_nil hl hB hQ ho hp IH h1 h
  | cons c r =>
    cases hb : isB c
    · cases hc : ((c.toNat : Int) == 35)
      · cases hL : isL c
        · cases hD : isD c
          · exact lex_sign hl hB hQ ho hp IH h1 hb hc hL hD hn h
          · exact lex_digits hl hB hQ ho hp IH h1 hb hc hL hD hn h
        · exact lex_name hl hB hQ ho hp IH h1 hb hc hL hn h
      · exact lex_remark hl hB hQ ho hp IH h1 hb hc hn h
    · exact lex_blank hl hB hQ ho hp IH h1 hb hn h

theorem lex_go {text : Str} (hl : text.length ≤ 100000) {B : Base} {Q : Exit → Tm → St → Prop} {p : List Tok × Int × Int} (hB : B.s = S0)
    (hQ : retF 0 0 [(2, none), (3, some (true, 2))] (.tuple [.slice .shared 4 (p.1.map encTok), .agg (encF p.2)]) ⟨[], []⟩ = Q) : ∀ N, LexGo text B Q p N := by
  intro N
  induction N with
  | zero => intro n pos rest out _ _ _ _ _ h; exact absurd h (Nat.not_lt_zero _)
  | succ N ih =>
    intro n pos rest out h1 h h2 h3 h4 h5
    cases n with
    | zero => omega
    | succ n =>
      refine SemS.onceW ?_
      show wpC Try.prog B 152 Q7W (jumpA Try.prog B 152 Q81 Q) (lexTM text out pos) (lexST out)
      exact lex_all hl hB hQ h3 h4 (fun n' pos' rest' out' a b c d e f => ih n' pos' rest' out' a b c d e (by omega)) h1 h h2

theorem all_s (text : Str) (hl : text.length < 4611686018427387904) (s : St) :
    Fun Try.prog n_lex_All [.str text] s (.tuple [.slice .shared 4 ((lexAll text).1.map encTok), .agg (encF (lexAll text).2)]) s := by
  refine Fun.pure ?_ rfl (by simp [D.ok, D.oks, okrTok, Tag.ok, encF]) s
  generalize h : lexAll text = p
  unfold lexAll at h
  unfold S0
  refine Fun.go has_lex_All rfl fun B Q hB hQ => ?_
  have hlt : 0 < 1 := Nat.zero_lt_one
  have hget : 0 < 1 := Nat.zero_lt_one
  have hpu : 0 < 1 := Nat.zero_lt_one
  have hinc : 0 < 1 := Nat.zero_lt_one
  repeat' (first
 | simp only [go_sem, hlt, hget, hpu, hinc, Int.reduceLE, ↓reduceIte, reduceCtorEq, Nat.reduceEqDiff, Nat.reduceLeDiff, Nat.reduceAdd, Nat.reduceMul, Nat.reduceSub, Nat.reduceLT]
 | (with_reducible first | refine CB_ofT (by assumption) fun hc => ?_ | refine CB_ofF (by assumption) fun hc => ?_ | refine CB_split (fun hc => ?_) fun hc => ?_) <;> (try simp only [hc, bs, ↓reduceIte] at h) <;> (try simp only [hc])
 | ((with_reducible first | refine leafR hQ ?_ | refine leafN hQ ?_); (try cases h); simp only [resL, oneD, Option.some.injEq, exists_eq_left', go_sem, hlt, hget, hpu, hinc, Int.reduceLE, ↓reduceIte, reduceCtorEq, Nat.reduceEqDiff, Nat.reduceLeDiff, Nat.reduceAdd, Nat.reduceMul, Nat.reduceSub, Nat.reduceLT]; repeat' (first | exact Ok.out | with_reducible refine And.intro ?_ ?_ | (simp; done)))
 | (cases h; replace h := hr; clear hr; (try simp only [bs, ↓reduceIte] at h))
 | (cases h; done))
  refine SemS.once (Sem.seqW ?_)
  simp only [go_sem, hlt, hget, hpu, hinc, Int.reduceLE, ↓reduceIte, reduceCtorEq, Nat.reduceEqDiff, Nat.reduceLeDiff, Nat.reduceAdd, Nat.reduceMul, Nat.reduceSub, Nat.reduceLT]
  refine Sem.seqW ?_
  simp only [go_sem, hlt, hget, hpu, hinc, Int.reduceLE, ↓reduceIte, reduceCtorEq, Nat.reduceEqDiff, Nat.reduceLeDiff, Nat.reduceAdd, Nat.reduceMul, Nat.reduceSub, Nat.reduceLT]
  refine Sem.seqW ?_
  simp only [go_sem, hlt, hget, hpu, hinc, Int.reduceLE, ↓reduceIte, reduceCtorEq, Nat.reduceEqDiff, Nat.reduceLeDiff, Nat.reduceAdd, Nat.reduceMul, Nat.reduceSub, Nat.reduceLT]
  refine Sem.seqW ?_
  by_cases hz : text.length > 100000
  · have hgt : decide ((text.length : Int) > 100000) = true := by simp; omega
    rw [if_pos hz] at h
    repeat' (first
 | simp only [go_sem, hlt, hget, hpu, hinc, Int.reduceLE, ↓reduceIte, reduceCtorEq, Nat.reduceEqDiff, Nat.reduceLeDiff, Nat.reduceAdd, Nat.reduceMul, Nat.reduceSub, Nat.reduceLT, hgt]
 | (with_reducible first | refine CB_ofT (by assumption) fun hc => ?_ | refine CB_ofF (by assumption) fun hc => ?_ | refine CB_split (fun hc => ?_) fun hc => ?_) <;> (try simp only [hc, bs, ↓reduceIte] at h) <;> (try simp only [hc])
 | ((with_reducible first | refine leafR hQ ?_ | refine leafN hQ ?_); (try cases h); simp only [resL, oneD, Option.some.injEq, exists_eq_left', go_sem, hlt, hget, hpu, hinc, Int.reduceLE, ↓reduceIte, reduceCtorEq, Nat.reduceEqDiff, Nat.reduceLeDiff, Nat.reduceAdd, Nat.reduceMul, Nat.reduceSub, Nat.reduceLT, hgt]; repeat' (first | exact Ok.out | with_reducible refine And.intro ?_ ?_ | (simp; done)))
 | (cases h; replace h := hr; clear hr; (try simp only [bs, ↓reduceIte] at h))
 | (cases h; done))
  · have hgt : decide ((text.length : Int) > 100000) = false := by simp; omega
    rw [if_neg hz] at h
    have hl' : text.length ≤ 100000 := by omega
    have hQ' : retF 0 0 [(2, none), (3, some (true, 2))] (.tuple [.slice .shared 4 (p.1.map encTok), .agg (encF p.2)]) ⟨[], []⟩ = Q := hQ
    repeat' (first
 | simp only [go_sem, hlt, hget, hpu, hinc, Int.reduceLE, ↓reduceIte, reduceCtorEq, Nat.reduceEqDiff, Nat.reduceLeDiff, Nat.reduceAdd, Nat.reduceMul, Nat.reduceSub, Nat.reduceLT, hgt]
 | (with_reducible first | refine CB_ofT (by assumption) fun hc => ?_ | refine CB_ofF (by assumption) fun hc => ?_ | refine CB_split (fun hc => ?_) fun hc => ?_) <;> (try simp only [hc, bs, ↓reduceIte] at h) <;> (try simp only [hc])
 | ((with_reducible first | refine leafR hQ ?_ | refine leafN hQ ?_); (try cases h); simp only [resL, oneD, Option.some.injEq, exists_eq_left', go_sem, hlt, hget, hpu, hinc, Int.reduceLE, ↓reduceIte, reduceCtorEq, Nat.reduceEqDiff, Nat.reduceLeDiff, Nat.reduceAdd, Nat.reduceMul, Nat.reduceSub, Nat.reduceLT, hgt]; repeat' (first | exact Ok.out | with_reducible refine And.intro ?_ ?_ | (simp; done)))
 | (cases h; replace h := hr; clear hr; (try simp only [bs, ↓reduceIte] at h))
 | (cases h; done))
    refine Sem.seqW ?_
    simp only [go_sem, hlt, hget, hpu, hinc, Int.reduceLE, ↓reduceIte, reduceCtorEq, Nat.reduceEqDiff, Nat.reduceLeDiff, Nat.reduceAdd, Nat.reduceMul, Nat.reduceSub, Nat.reduceLT]
    refine Sem.tokT 4 4 rfl ?_
    simp only [go_sem, hlt, hget, hpu, hinc, Int.reduceLE, ↓reduceIte, reduceCtorEq, Nat.reduceEqDiff, Nat.reduceLeDiff, Nat.reduceAdd, Nat.reduceMul, Nat.reduceSub, Nat.reduceLT]
    refine Sem.re _ _ 2 1 (by rw [hB]; exact Nat.le_of_ble_eq_true rfl) (by rw [hB]; exact Nat.le_of_ble_eq_true rfl) ?_ ?_ (wpC_sound (lex_all hl' hB hQ' (out := []) (pos := 0) (by simp) (Nat.zero_le _) (lex_go hl' hB hQ' _) rfl h (by simp)))
    · (simp only [go_sem, hlt, hget, hpu, hinc, Int.reduceLE, ↓reduceIte, reduceCtorEq, Nat.reduceEqDiff, Nat.reduceLeDiff, Nat.reduceAdd, Nat.reduceMul, Nat.reduceSub, Nat.reduceLT]; repeat' (first | exact Ok.out | with_reducible refine And.intro ?_ ?_))
    · (simp only [go_sem, hlt, hget, hpu, hinc, Int.reduceLE, ↓reduceIte, reduceCtorEq, Nat.reduceEqDiff, Nat.reduceLeDiff, Nat.reduceAdd, Nat.reduceMul, Nat.reduceSub, Nat.reduceLT]; repeat' (first | exact Ok.out | with_reducible refine And.intro ?_ ?_))

end Go.Abs

/-! Tree1 -/

namespace Go.Abs

set_option maxRecDepth 8000
set_option linter.unusedSimpArgs false
set_option linter.unusedVariables false
open Go.Proofs

theorem app_emptyN {size bytes z : Nat} {g : Tag} {rows : List (List D)} {s : St} (h : rows.length * (bytes + 1) ≤ maxStr) (hr : rows ≠ []) :
    appD size bytes (.slice .full z []) (.slice g size rows) s = some (.slice (.tok s.toks.length) size rows, ⟨s.objs, s.toks ++ [some rows.length]⟩) := by
  cases rows with
  | nil => exact absurd rfl hr
  | cons r l => simp only [appD]; simp at h ⊢; exact h

theorem clone_str {l : List Str} (hl : l.length < 1073741824) (g : Tag) (s : St) : Fun Try.prog n_slices_Clone_string [.slice g 1 (l.map encStr)] s (.slice .shared 1 (l.map encStr)) s := by
  refine ACalls.weak (.cons (Wk.shared _ _ _) .nil) (Fun.pure ?_ (by simp [D.oks, D.ok, Tag.ok, okrStr]) (by simp [D.ok, Tag.ok, okrStr]) s)
  unfold S0
  refine Fun.go has_slices_Clone_string rfl fun B Q hB hQ => ?_
  have hlt : 0 < 1 := Nat.zero_lt_one
  have hget : 0 < 1 := Nat.zero_lt_one
  have hpu : 0 < 1 := Nat.zero_lt_one
  have hinc : 0 < 1 := Nat.zero_lt_one
  cases l with
  | nil =>
    repeat' (first
 | simp only [go_sem, hlt, hget, hpu, hinc, Int.reduceLE, ↓reduceIte, reduceCtorEq, Nat.reduceEqDiff, Nat.reduceLeDiff, Nat.reduceAdd, Nat.reduceMul, Nat.reduceSub, Nat.reduceLT]
 | (with_reducible first | refine CB_ofT (by assumption) fun hc => ?_ | refine CB_ofF (by assumption) fun hc => ?_ | refine CB_split (fun hc => ?_) fun hc => ?_) <;> (try simp only [hc, bs, ↓reduceIte] at h) <;> (try simp only [hc])
 | ((with_reducible first | refine leafR hQ ?_ | refine leafN hQ ?_); (try cases h); simp only [resL, oneD, Option.some.injEq, exists_eq_left', go_sem, hlt, hget, hpu, hinc, Int.reduceLE, ↓reduceIte, reduceCtorEq, Nat.reduceEqDiff, Nat.reduceLeDiff, Nat.reduceAdd, Nat.reduceMul, Nat.reduceSub, Nat.reduceLT]; repeat' (first | exact Ok.out | with_reducible refine And.intro ?_ ?_ | (simp; done)))
 | (cases h; replace h := hr; clear hr; (try simp only [bs, ↓reduceIte] at h))
 | (cases h; done))
    refine NJ_split (fun _ => ?_) ?_
    · repeat' (first
 | simp only [go_sem, hlt, hget, hpu, hinc, Int.reduceLE, ↓reduceIte, reduceCtorEq, Nat.reduceEqDiff, Nat.reduceLeDiff, Nat.reduceAdd, Nat.reduceMul, Nat.reduceSub, Nat.reduceLT, appD, true_or, Nat.zero_le]
 | (with_reducible first | refine CB_ofT (by assumption) fun hc => ?_ | refine CB_ofF (by assumption) fun hc => ?_ | refine CB_split (fun hc => ?_) fun hc => ?_) <;> (try simp only [hc, bs, ↓reduceIte] at h) <;> (try simp only [hc])
 | ((with_reducible first | refine leafR hQ ?_ | refine leafN hQ ?_); (try cases h); simp only [resL, oneD, Option.some.injEq, exists_eq_left', go_sem, hlt, hget, hpu, hinc, Int.reduceLE, ↓reduceIte, reduceCtorEq, Nat.reduceEqDiff, Nat.reduceLeDiff, Nat.reduceAdd, Nat.reduceMul, Nat.reduceSub, Nat.reduceLT, appD, true_or, Nat.zero_le]; repeat' (first | exact Ok.out | with_reducible refine And.intro ?_ ?_ | (simp; done)))
 | (cases h; replace h := hr; clear hr; (try simp only [bs, ↓reduceIte] at h))
 | (cases h; done))
    · repeat' (first
 | simp only [go_sem, hlt, hget, hpu, hinc, Int.reduceLE, ↓reduceIte, reduceCtorEq, Nat.reduceEqDiff, Nat.reduceLeDiff, Nat.reduceAdd, Nat.reduceMul, Nat.reduceSub, Nat.reduceLT, appD, true_or, Nat.zero_le]
 | (with_reducible first | refine CB_ofT (by assumption) fun hc => ?_ | refine CB_ofF (by assumption) fun hc => ?_ | refine CB_split (fun hc => ?_) fun hc => ?_) <;> (try simp only [hc, bs, ↓reduceIte] at h) <;> (try simp only [hc])
 | ((with_reducible first | refine leafR hQ ?_ | refine leafN hQ ?_); (try cases h); simp only [resL, oneD, Option.some.injEq, exists_eq_left', go_sem, hlt, hget, hpu, hinc, Int.reduceLE, ↓reduceIte, reduceCtorEq, Nat.reduceEqDiff, Nat.reduceLeDiff, Nat.reduceAdd, Nat.reduceMul, Nat.reduceSub, Nat.reduceLT, appD, true_or, Nat.zero_le]; repeat' (first | exact Ok.out | with_reducible refine And.intro ?_ ?_ | (simp; done)))
 | (cases h; replace h := hr; clear hr; (try simp only [bs, ↓reduceIte] at h))
 | (cases h; done))
  | cons x l =>
    have e : ((x :: l).map encStr).length * (16 + 1) ≤ maxStr := by simp only [List.length_map, maxStr]; omega
    have e2 := fun s => app_emptyN (size := 1) (z := 1) (g := .shared) (s := s) e (by simp)
    simp only [List.map_cons, encStr] at e2
    repeat' (first
 | simp only [go_sem, hlt, hget, hpu, hinc, Int.reduceLE, ↓reduceIte, reduceCtorEq, Nat.reduceEqDiff, Nat.reduceLeDiff, Nat.reduceAdd, Nat.reduceMul, Nat.reduceSub, Nat.reduceLT, e2]
 | (with_reducible first | refine CB_ofT (by assumption) fun hc => ?_ | refine CB_ofF (by assumption) fun hc => ?_ | refine CB_split (fun hc => ?_) fun hc => ?_) <;> (try simp only [hc, bs, ↓reduceIte] at h) <;> (try simp only [hc])
 | ((with_reducible first | refine leafR hQ ?_ | refine leafN hQ ?_); (try cases h); simp only [resL, oneD, Option.some.injEq, exists_eq_left', go_sem, hlt, hget, hpu, hinc, Int.reduceLE, ↓reduceIte, reduceCtorEq, Nat.reduceEqDiff, Nat.reduceLeDiff, Nat.reduceAdd, Nat.reduceMul, Nat.reduceSub, Nat.reduceLT, e2]; repeat' (first | exact Ok.out | with_reducible refine And.intro ?_ ?_ | (simp; done)))
 | (cases h; replace h := hr; clear hr; (try simp only [bs, ↓reduceIte] at h))
 | (cases h; done))

theorem clone_pm {l : List Pm} (hl : l.length < 1073741824) (g : Tag) (s : St) : Fun Try.prog n_slices_Clone_api_Param [.slice g 2 (l.map encPm)] s (.slice .shared 2 (l.map encPm)) s := by
  refine ACalls.weak (.cons (Wk.shared _ _ _) .nil) (Fun.pure ?_ (by simp [D.oks, D.ok, Tag.ok, okrPm]) (by simp [D.ok, Tag.ok, okrPm]) s)
  unfold S0
  refine Fun.go has_slices_Clone_api_Param rfl fun B Q hB hQ => ?_
  have hlt : 0 < 1 := Nat.zero_lt_one
  have hget : 0 < 1 := Nat.zero_lt_one
  have hpu : 0 < 1 := Nat.zero_lt_one
  have hinc : 0 < 1 := Nat.zero_lt_one
  cases l with
  | nil =>
    repeat' (first
 | simp only [go_sem, hlt, hget, hpu, hinc, Int.reduceLE, ↓reduceIte, reduceCtorEq, Nat.reduceEqDiff, Nat.reduceLeDiff, Nat.reduceAdd, Nat.reduceMul, Nat.reduceSub, Nat.reduceLT]
 | (with_reducible first | refine CB_ofT (by assumption) fun hc => ?_ | refine CB_ofF (by assumption) fun hc => ?_ | refine CB_split (fun hc => ?_) fun hc => ?_) <;> (try simp only [hc, bs, ↓reduceIte] at h) <;> (try simp only [hc])
 | ((with_reducible first | refine leafR hQ ?_ | refine leafN hQ ?_); (try cases h); simp only [resL, oneD, Option.some.injEq, exists_eq_left', go_sem, hlt, hget, hpu, hinc, Int.reduceLE, ↓reduceIte, reduceCtorEq, Nat.reduceEqDiff, Nat.reduceLeDiff, Nat.reduceAdd, Nat.reduceMul, Nat.reduceSub, Nat.reduceLT]; repeat' (first | exact Ok.out | with_reducible refine And.intro ?_ ?_ | (simp; done)))
 | (cases h; replace h := hr; clear hr; (try simp only [bs, ↓reduceIte] at h))
 | (cases h; done))
    refine NJ_split (fun _ => ?_) ?_
    · repeat' (first
 | simp only [go_sem, hlt, hget, hpu, hinc, Int.reduceLE, ↓reduceIte, reduceCtorEq, Nat.reduceEqDiff, Nat.reduceLeDiff, Nat.reduceAdd, Nat.reduceMul, Nat.reduceSub, Nat.reduceLT, appD, true_or, Nat.zero_le]
 | (with_reducible first | refine CB_ofT (by assumption) fun hc => ?_ | refine CB_ofF (by assumption) fun hc => ?_ | refine CB_split (fun hc => ?_) fun hc => ?_) <;> (try simp only [hc, bs, ↓reduceIte] at h) <;> (try simp only [hc])
 | ((with_reducible first | refine leafR hQ ?_ | refine leafN hQ ?_); (try cases h); simp only [resL, oneD, Option.some.injEq, exists_eq_left', go_sem, hlt, hget, hpu, hinc, Int.reduceLE, ↓reduceIte, reduceCtorEq, Nat.reduceEqDiff, Nat.reduceLeDiff, Nat.reduceAdd, Nat.reduceMul, Nat.reduceSub, Nat.reduceLT, appD, true_or, Nat.zero_le]; repeat' (first | exact Ok.out | with_reducible refine And.intro ?_ ?_ | (simp; done)))
 | (cases h; replace h := hr; clear hr; (try simp only [bs, ↓reduceIte] at h))
 | (cases h; done))
    · repeat' (first
 | simp only [go_sem, hlt, hget, hpu, hinc, Int.reduceLE, ↓reduceIte, reduceCtorEq, Nat.reduceEqDiff, Nat.reduceLeDiff, Nat.reduceAdd, Nat.reduceMul, Nat.reduceSub, Nat.reduceLT, appD, true_or, Nat.zero_le]
 | (with_reducible first | refine CB_ofT (by assumption) fun hc => ?_ | refine CB_ofF (by assumption) fun hc => ?_ | refine CB_split (fun hc => ?_) fun hc => ?_) <;> (try simp only [hc, bs, ↓reduceIte] at h) <;> (try simp only [hc])
 | ((with_reducible first | refine leafR hQ ?_ | refine leafN hQ ?_); (try cases h); simp only [resL, oneD, Option.some.injEq, exists_eq_left', go_sem, hlt, hget, hpu, hinc, Int.reduceLE, ↓reduceIte, reduceCtorEq, Nat.reduceEqDiff, Nat.reduceLeDiff, Nat.reduceAdd, Nat.reduceMul, Nat.reduceSub, Nat.reduceLT, appD, true_or, Nat.zero_le]; repeat' (first | exact Ok.out | with_reducible refine And.intro ?_ ?_ | (simp; done)))
 | (cases h; replace h := hr; clear hr; (try simp only [bs, ↓reduceIte] at h))
 | (cases h; done))
  | cons x l =>
    have e : ((x :: l).map encPm).length * (24 + 1) ≤ maxStr := by simp only [List.length_map, maxStr]; omega
    have e2 := fun s => app_emptyN (size := 2) (z := 2) (g := .shared) (s := s) e (by simp)
    simp only [List.map_cons, encStr] at e2
    repeat' (first
 | simp only [go_sem, hlt, hget, hpu, hinc, Int.reduceLE, ↓reduceIte, reduceCtorEq, Nat.reduceEqDiff, Nat.reduceLeDiff, Nat.reduceAdd, Nat.reduceMul, Nat.reduceSub, Nat.reduceLT, e2]
 | (with_reducible first | refine CB_ofT (by assumption) fun hc => ?_ | refine CB_ofF (by assumption) fun hc => ?_ | refine CB_split (fun hc => ?_) fun hc => ?_) <;> (try simp only [hc, bs, ↓reduceIte] at h) <;> (try simp only [hc])
 | ((with_reducible first | refine leafR hQ ?_ | refine leafN hQ ?_); (try cases h); simp only [resL, oneD, Option.some.injEq, exists_eq_left', go_sem, hlt, hget, hpu, hinc, Int.reduceLE, ↓reduceIte, reduceCtorEq, Nat.reduceEqDiff, Nat.reduceLeDiff, Nat.reduceAdd, Nat.reduceMul, Nat.reduceSub, Nat.reduceLT, e2]; repeat' (first | exact Ok.out | with_reducible refine And.intro ?_ ?_ | (simp; done)))
 | (cases h; replace h := hr; clear hr; (try simp only [bs, ↓reduceIte] at h))
 | (cases h; done))


theorem expr_n : ∀ n, n < 1073741824 → ∀ x : Ex, x.size ≤ n → Fun Try.prog n_tree_expr [.agg (encEx x)] S0 (.agg (encEx x)) S0 := by
  intro n
  induction n with
  | zero => rintro _ ⟨op, m, name, kids⟩ h; simp only [Ex.size] at h; omega
  | succ n ihn =>
  rintro hn ⟨op, m, name, kids⟩ hx
  have hk : ∀ y ∈ kids, ∀ s, Fun Try.prog n_tree_expr [.agg (encEx y)] s (.agg (encEx y)) s := fun y hy s =>
    (ihn (by omega) y (by simp only [Ex.size] at hx; have := Ex.sizes_mem hy; omega)).pure (by simp [D.oks, D.ok, okEx]) (by simp [D.ok, okEx]) s
  have hlen : kids.length < 1073741824 := by simp only [Ex.size] at hx; have := Ex.sizes_len kids; omega
  unfold S0
  refine Fun.go has_tree_expr rfl fun B Q hB hQ => ?_
  have hlt : 0 < 1 := Nat.zero_lt_one
  have hget : 0 < 1 := Nat.zero_lt_one
  have hpu : 0 < 1 := Nat.zero_lt_one
  have hinc : 0 < 1 := Nat.zero_lt_one
  repeat' (first
 | simp only [go_sem, hlt, hget, hpu, hinc, Int.reduceLE, ↓reduceIte, reduceCtorEq, Nat.reduceEqDiff, Nat.reduceLeDiff, Nat.reduceAdd, Nat.reduceMul, Nat.reduceSub, Nat.reduceLT]
 | (with_reducible first | refine CB_ofT (by assumption) fun hc => ?_ | refine CB_ofF (by assumption) fun hc => ?_ | refine CB_split (fun hc => ?_) fun hc => ?_) <;> (try simp only [hc, bs, ↓reduceIte] at h) <;> (try simp only [hc])
 | ((with_reducible first | refine leafR hQ ?_ | refine leafN hQ ?_); (try cases h); simp only [resL, oneD, Option.some.injEq, exists_eq_left', go_sem, hlt, hget, hpu, hinc, Int.reduceLE, ↓reduceIte, reduceCtorEq, Nat.reduceEqDiff, Nat.reduceLeDiff, Nat.reduceAdd, Nat.reduceMul, Nat.reduceSub, Nat.reduceLT]; repeat' (first | exact Ok.out | with_reducible refine And.intro ?_ ?_ | (simp; done)))
 | (cases h; replace h := hr; clear hr; (try simp only [bs, ↓reduceIte] at h))
 | (cases h; done))
  refine SemL.tokO 0 3 4 rfl rfl ?_
  simp only [go_sem, hlt, hget, hpu, hinc, Int.reduceLE, ↓reduceIte, reduceCtorEq, Nat.reduceEqDiff, Nat.reduceLeDiff, Nat.reduceAdd, Nat.reduceMul, Nat.reduceSub, Nat.reduceLT]
  refine SemL.re _ _ 2 1 (by rw [hB]; exact Nat.le_of_ble_eq_true rfl) (by rw [hB]; exact Nat.le_of_ble_eq_true rfl) ?_ ?_ (SemL.ind (ι := List Ex × Nat × List Ex) (fun i => kids.drop i.2.1 = i.1 ∧ i.2.1 = i.2.2.length ∧ i.2.2 ++ i.1 = kids) (fun i => i.1.length)
    (fun i => [(1, .ptr 0 0), (2, .ptr 1 0), (9, .slice .shared 4 (kids.map encEx)), (10, .int .i64 (kids.length : Int)), (11, .int .i64 (i.2.1 : Int))])
    (fun i => ⟨[[.int .i64 op, .int .i64 m, .str name, .slice (.tok 0) 4 (i.2.2.map encEx)], encEx ex0], [some i.2.1]⟩) ?_ (kids, 0, []) ⟨rfl, rfl, rfl⟩)
  · (simp only [go_sem, hlt, hget, hpu, hinc, Int.reduceLE, ↓reduceIte, reduceCtorEq, Nat.reduceEqDiff, Nat.reduceLeDiff, Nat.reduceAdd, Nat.reduceMul, Nat.reduceSub, Nat.reduceLT]; repeat' (first | exact Ok.out | with_reducible refine And.intro ?_ ?_))
  · (simp only [go_sem, hlt, hget, hpu, hinc, Int.reduceLE, ↓reduceIte, reduceCtorEq, Nat.reduceEqDiff, Nat.reduceLeDiff, Nat.reduceAdd, Nat.reduceMul, Nat.reduceSub, Nat.reduceLT]; repeat' (first | exact Ok.out | with_reducible refine And.intro ?_ ?_))
  rintro ⟨rest, k, acc⟩ ⟨h1, h2, h3⟩ IH
  dsimp only at h1 h2 h3
  subst h2
  cases rest with
  | nil =>
    have hlt := drop_nil h1
    rw [List.append_nil] at h3
    subst h3
    repeat' (first
 | simp only [go_sem, hlt, hget, hpu, hinc, Int.reduceLE, ↓reduceIte, reduceCtorEq, Nat.reduceEqDiff, Nat.reduceLeDiff, Nat.reduceAdd, Nat.reduceMul, Nat.reduceSub, Nat.reduceLT]
 | (with_reducible first | refine CB_ofT (by assumption) fun hc => ?_ | refine CB_ofF (by assumption) fun hc => ?_ | refine CB_split (fun hc => ?_) fun hc => ?_) <;> (try simp only [hc, bs, ↓reduceIte] at h) <;> (try simp only [hc])
 | ((with_reducible first | refine leafR hQ ?_ | refine leafN hQ ?_); (try cases h); simp only [resL, oneD, Option.some.injEq, exists_eq_left', go_sem, hlt, hget, hpu, hinc, Int.reduceLE, ↓reduceIte, reduceCtorEq, Nat.reduceEqDiff, Nat.reduceLeDiff, Nat.reduceAdd, Nat.reduceMul, Nat.reduceSub, Nat.reduceLT]; repeat' (first | exact Ok.out | with_reducible refine And.intro ?_ ?_ | (simp; done)))
 | (cases h; replace h := hr; clear hr; (try simp only [bs, ↓reduceIte] at h))
 | (cases h; done))
  | cons y rest =>
    obtain ⟨hget, g2, hlt, g4⟩ := drop_cons h1
    have hpu : acc.length < 4611686018427387904 := by omega
    have hroom : (acc.length + 1) * 57 ≤ maxStr := by simp only [maxStr]; omega
    have hy := hk y (List.mem_of_getElem? hget)
    repeat' (first
 | simp only [go_sem, hlt, hget, hpu, hinc, Int.reduceLE, ↓reduceIte, reduceCtorEq, Nat.reduceEqDiff, Nat.reduceLeDiff, Nat.reduceAdd, Nat.reduceMul, Nat.reduceSub, Nat.reduceLT, hroom]
 | (with_reducible refine CU (hy _) ?_)
 | (with_reducible first | refine CB_ofT (by assumption) fun hc => ?_ | refine CB_ofF (by assumption) fun hc => ?_ | refine CB_split (fun hc => ?_) fun hc => ?_) <;> (try simp only [hc, bs, ↓reduceIte] at h) <;> (try simp only [hc])
 | ((with_reducible first | refine leafR hQ ?_ | refine leafN hQ ?_); (try cases h); simp only [resL, oneD, Option.some.injEq, exists_eq_left', go_sem, hlt, hget, hpu, hinc, Int.reduceLE, ↓reduceIte, reduceCtorEq, Nat.reduceEqDiff, Nat.reduceLeDiff, Nat.reduceAdd, Nat.reduceMul, Nat.reduceSub, Nat.reduceLT, hroom]; repeat' (first | exact Ok.out | with_reducible refine And.intro ?_ ?_ | (simp; done)))
 | (cases h; replace h := hr; clear hr; (try simp only [bs, ↓reduceIte] at h))
 | (cases h; done))
    refine SemL.re _ _ 2 1 (by rw [hB]; exact Nat.le_of_ble_eq_true rfl) (by rw [hB]; exact Nat.le_of_ble_eq_true rfl) ?_ ?_ (IH (rest, acc.length + 1, acc ++ [y]) ⟨g2, by simp, by simp only [List.append_assoc, List.cons_append, List.nil_append]; exact h3⟩ (Nat.lt_succ_self _))
    · (simp only [go_sem, hlt, hget, hpu, hinc, Int.reduceLE, ↓reduceIte, reduceCtorEq, Nat.reduceEqDiff, Nat.reduceLeDiff, Nat.reduceAdd, Nat.reduceMul, Nat.reduceSub, Nat.reduceLT]; repeat' (first | exact Ok.out | with_reducible refine And.intro ?_ ?_))
    · (simp only [go_sem, hlt, hget, hpu, hinc, Int.reduceLE, ↓reduceIte, reduceCtorEq, Nat.reduceEqDiff, Nat.reduceLeDiff, Nat.reduceAdd, Nat.reduceMul, Nat.reduceSub, Nat.reduceLT]; repeat' (first | exact Ok.out | with_reducible refine And.intro ?_ ?_))

theorem expr_s {x : Ex} (h : x.size < 1073741824) (s : St) : Fun Try.prog n_tree_expr [.agg (encEx x)] s (.agg (encEx x)) s :=
  (expr_n x.size h x (Nat.le_refl _)).pure (by simp [D.oks, D.ok, okEx]) (by simp [D.ok, okEx]) s

end Go.Abs

/-! Tree2 -/

namespace Go.Abs

set_option maxRecDepth 8000
set_option linter.unusedSimpArgs false
set_option linter.unusedVariables false
open Go.Proofs

abbrev C_cop (b : Bool) (N : Nat) : Prop := ∀ l : List Sm, Sm.sizes l < N → ∀ n : Nat, n + Sm.sizes l < 1073741824 → ∀ s : St,
  Fun Try.prog n_tree_copied [.slice .shared 13 (l.map encSm), .int .i64 (n : Int), .bool b] s (.tuple [.slice .shared 13 ((Sm.nums b n l).1.map encSm), .int .i64 ((Sm.nums b n l).2 : Int)]) s

theorem cop_true {N : Nat} (ih : C_cop true N) (l : List Sm) (hl : Sm.sizes l < N + 1) (n : Nat) (hn : n + Sm.sizes l < 1073741824) :
  Fun Try.prog n_tree_copied [.slice .shared 13 (l.map encSm), .int .i64 (n : Int), .bool true] S0 (.tuple [.slice .shared 13 ((Sm.nums true n l).1.map encSm), .int .i64 ((Sm.nums true n l).2 : Int)]) S0 := by
  unfold S0
  refine Fun.go has_tree_copied rfl fun B Q hB hQ => ?_
  have hlt : 0 < 1 := Nat.zero_lt_one
  have hget : 0 < 1 := Nat.zero_lt_one
  have hpu : 0 < 1 := Nat.zero_lt_one
  have hinc : 0 < 1 := Nat.zero_lt_one
  repeat' (first
 | simp only [go_sem, hlt, hget, hpu, hinc, Int.reduceLE, ↓reduceIte, reduceCtorEq, Nat.reduceEqDiff, Nat.reduceLeDiff, Nat.reduceAdd, Nat.reduceMul, Nat.reduceSub, Nat.reduceLT]
 | (with_reducible first | refine CB_ofT (by assumption) fun hc => ?_ | refine CB_ofF (by assumption) fun hc => ?_ | refine CB_split (fun hc => ?_) fun hc => ?_) <;> (try simp only [hc, bs, ↓reduceIte] at h) <;> (try simp only [hc])
 | ((with_reducible first | refine leafR hQ ?_ | refine leafN hQ ?_); (try cases h); simp only [resL, oneD, Option.some.injEq, exists_eq_left', go_sem, hlt, hget, hpu, hinc, Int.reduceLE, ↓reduceIte, reduceCtorEq, Nat.reduceEqDiff, Nat.reduceLeDiff, Nat.reduceAdd, Nat.reduceMul, Nat.reduceSub, Nat.reduceLT]; repeat' (first | exact Ok.out | with_reducible refine And.intro ?_ ?_ | (simp; done)))
 | (cases h; replace h := hr; clear hr; (try simp only [bs, ↓reduceIte] at h))
 | (cases h; done))
  have hlen : l.length < 1073741824 := by have := Sm.sizes_len l; omega
  refine SemL.tokT 8 13 rfl ?_
  simp only [go_sem, hlt, hget, hpu, hinc, Int.reduceLE, ↓reduceIte, reduceCtorEq, Nat.reduceEqDiff, Nat.reduceLeDiff, Nat.reduceAdd, Nat.reduceMul, Nat.reduceSub, Nat.reduceLT]
  refine SemL.re _ _ 0 1 (by rw [hB]; exact Nat.le_of_ble_eq_true rfl) (by rw [hB]; exact Nat.le_of_ble_eq_true rfl) ?_ ?_ (SemL.ind (ι := List Sm × Nat × List Sm × Nat) (fun i => l.drop i.2.1 = i.1 ∧ i.2.1 = i.2.2.1.length ∧ Sm.nums true n l = (i.2.2.1 ++ (Sm.nums true i.2.2.2 i.1).1, (Sm.nums true i.2.2.2 i.1).2) ∧ i.2.2.2 + Sm.sizes i.1 ≤ n + Sm.sizes l) (fun i => i.1.length)
    (fun i => [(1, .int .i64 (i.2.2.2 : Int)), (2, .bool true), (8, .slice (.tok 0) 13 (i.2.2.1.map encSm)), (14, .slice .shared 13 (l.map encSm)), (15, .int .i64 (l.length : Int)), (16, .int .i64 (i.2.1 : Int))])
    (fun i => ⟨[], [some i.2.1]⟩) ?_ (l, 0, [], n) ⟨rfl, rfl, rfl, Nat.le_refl _⟩)
  · (simp only [go_sem, hlt, hget, hpu, hinc, Int.reduceLE, ↓reduceIte, reduceCtorEq, Nat.reduceEqDiff, Nat.reduceLeDiff, Nat.reduceAdd, Nat.reduceMul, Nat.reduceSub, Nat.reduceLT]; repeat' (first | exact Ok.out | with_reducible refine And.intro ?_ ?_))
  · (simp only [go_sem, hlt, hget, hpu, hinc, Int.reduceLE, ↓reduceIte, reduceCtorEq, Nat.reduceEqDiff, Nat.reduceLeDiff, Nat.reduceAdd, Nat.reduceMul, Nat.reduceSub, Nat.reduceLT]; repeat' (first | exact Ok.out | with_reducible refine And.intro ?_ ?_))
  rintro ⟨rest, k, acc, m⟩ ⟨h1, h2, h3, h4⟩ IH
  dsimp only at h1 h2 h3 h4
  subst h2
  cases rest with
  | nil =>
    have hlt := drop_nil h1
    simp only [Sm.nums, List.append_nil] at h3
    rw [h3] at hQ
    repeat' (first
 | simp only [go_sem, hlt, hget, hpu, hinc, Int.reduceLE, ↓reduceIte, reduceCtorEq, Nat.reduceEqDiff, Nat.reduceLeDiff, Nat.reduceAdd, Nat.reduceMul, Nat.reduceSub, Nat.reduceLT]
 | (with_reducible first | refine CB_ofT (by assumption) fun hc => ?_ | refine CB_ofF (by assumption) fun hc => ?_ | refine CB_split (fun hc => ?_) fun hc => ?_) <;> (try simp only [hc, bs, ↓reduceIte] at h) <;> (try simp only [hc])
 | ((with_reducible first | refine leafR hQ ?_ | refine leafN hQ ?_); (try cases h); simp only [resL, oneD, Option.some.injEq, exists_eq_left', go_sem, hlt, hget, hpu, hinc, Int.reduceLE, ↓reduceIte, reduceCtorEq, Nat.reduceEqDiff, Nat.reduceLeDiff, Nat.reduceAdd, Nat.reduceMul, Nat.reduceSub, Nat.reduceLT]; repeat' (first | exact Ok.out | with_reducible refine And.intro ?_ ?_ | (simp; done)))
 | (cases h; replace h := hr; clear hr; (try simp only [bs, ↓reduceIte] at h))
 | (cases h; done))
  | cons y rest =>
    obtain ⟨hget, g2, hlt, g4⟩ := drop_cons h1
    simp only [Sm.sizes] at h4 hl
    have hm : m < 4611686018427387904 := by omega
    have hk : acc.length < 4611686018427387904 := by omega
    have hsz : y.size ≤ N := by have := Sm.sizes_mem (List.mem_of_getElem? hget); omega
    obtain ⟨id, kind, labels, name, proc, x, has, args, thn, els⟩ := y
    simp only [Sm.size] at hsz h4
    have hroom : (acc.length + 1) * 209 ≤ maxStr := by simp only [maxStr]; omega
    have hx := fun s => expr_s (x := x) (by omega) s
    simp only [encEx_eq] at hx
    have hcl := fun g s => clone_str (l := labels) (by omega) g s
    have hal := Ar.sizes_len args
    repeat' (first
 | simp only [go_sem, hlt, hget, hpu, hinc, Int.reduceLE, ↓reduceIte, reduceCtorEq, Nat.reduceEqDiff, Nat.reduceLeDiff, Nat.reduceAdd, Nat.reduceMul, Nat.reduceSub, Nat.reduceLT, wrap_inc hm]
 | (with_reducible refine CU (hcl _ _) ?_)
 | (with_reducible refine CU (hx _) ?_)
 | (with_reducible first | refine CB_ofT (by assumption) fun hc => ?_ | refine CB_ofF (by assumption) fun hc => ?_ | refine CB_split (fun hc => ?_) fun hc => ?_) <;> (try simp only [hc, bs, ↓reduceIte] at h) <;> (try simp only [hc])
 | ((with_reducible first | refine leafR hQ ?_ | refine leafN hQ ?_); (try cases h); simp only [resL, oneD, Option.some.injEq, exists_eq_left', go_sem, hlt, hget, hpu, hinc, Int.reduceLE, ↓reduceIte, reduceCtorEq, Nat.reduceEqDiff, Nat.reduceLeDiff, Nat.reduceAdd, Nat.reduceMul, Nat.reduceSub, Nat.reduceLT, wrap_inc hm]; repeat' (first | exact Ok.out | with_reducible refine And.intro ?_ ?_ | (simp; done)))
 | (cases h; replace h := hr; clear hr; (try simp only [bs, ↓reduceIte] at h))
 | (cases h; done))
    refine SemL.tokO 1 10 6 rfl rfl ?_
    simp only [go_sem, hlt, hget, hpu, hinc, Int.reduceLE, ↓reduceIte, reduceCtorEq, Nat.reduceEqDiff, Nat.reduceLeDiff, Nat.reduceAdd, Nat.reduceMul, Nat.reduceSub, Nat.reduceLT]
    refine SemL.re _ _ 2 2 (by rw [hB]; exact Nat.le_of_ble_eq_true rfl) (by rw [hB]; exact Nat.le_of_ble_eq_true rfl) ?_ ?_ (SemL.ind (ι := List Ar × Nat × List Ar) (fun i => args.drop i.2.1 = i.1 ∧ i.2.1 = i.2.2.length ∧ i.2.2 ++ i.1 = args) (fun i => i.1.length)
      (fun i => [(1, .int .i64 ((m + 1 : Nat) : Int)), (2, .bool true), (8, .slice (.tok 0) 13 (acc.map encSm)), (10, .ptr 0 0), (11, .ptr 1 0), (14, .slice .shared 13 (l.map encSm)), (15, .int .i64 (l.length : Int)), (16, .int .i64 (acc.length : Int)),
        (36, .slice .shared 6 (args.map encAr)), (37, .int .i64 (args.length : Int)), (38, .int .i64 (i.2.1 : Int))])
      (fun i => ⟨[encSm ⟨id, kind, labels, name, proc, x, has, args, thn, els⟩, [.int .i64 ((m + 1 : Nat) : Int), .int .i64 kind, .slice .shared 1 (labels.map encStr), .str name, .str proc, .int .i64 x.op, .int .i64 x.n, .str x.name, .slice .shared 4 (x.kids.map encEx), .bool has, .slice (.tok 1) 6 (i.2.2.map encAr), .slice .shared 13 (thn.map encSm), .slice .shared 13 (els.map encSm)]], [some acc.length, some i.2.1]⟩) ?_ (args, 0, []) ⟨rfl, rfl, rfl⟩)
    · (simp only [go_sem, hlt, hget, hpu, hinc, Int.reduceLE, ↓reduceIte, reduceCtorEq, Nat.reduceEqDiff, Nat.reduceLeDiff, Nat.reduceAdd, Nat.reduceMul, Nat.reduceSub, Nat.reduceLT]; repeat' (first | exact Ok.out | with_reducible refine And.intro ?_ ?_))
    · (simp only [go_sem, hlt, hget, hpu, hinc, Int.reduceLE, ↓reduceIte, reduceCtorEq, Nat.reduceEqDiff, Nat.reduceLeDiff, Nat.reduceAdd, Nat.reduceMul, Nat.reduceSub, Nat.reduceLT]; repeat' (first | exact Ok.out | with_reducible refine And.intro ?_ ?_))
    rintro ⟨resta, ka, acca⟩ ⟨j1, j2, j3⟩ IHa
    dsimp only at j1 j2 j3
    subst j2
    cases resta with
    | nil =>
      have hlt := drop_nil j1
      rw [List.append_nil] at j3
      subst j3
      have b1 := Sm.nums_le true (m + 1) thn
      have b2 := Sm.nums_le true (Sm.nums true (m + 1) thn).2 els
      have c1 := ih thn (by omega) (m + 1) (by omega)
      have c2 := ih els (by omega) (Sm.nums true (m + 1) thn).2 (by omega)
      repeat' (first
 | simp only [go_sem, hlt, hget, hpu, hinc, Int.reduceLE, ↓reduceIte, reduceCtorEq, Nat.reduceEqDiff, Nat.reduceLeDiff, Nat.reduceAdd, Nat.reduceMul, Nat.reduceSub, Nat.reduceLT, hroom]
 | (with_reducible refine CU (c1 _) ?_)
 | (with_reducible refine CU (c2 _) ?_)
 | (with_reducible first | refine CB_ofT (by assumption) fun hc => ?_ | refine CB_ofF (by assumption) fun hc => ?_ | refine CB_split (fun hc => ?_) fun hc => ?_) <;> (try simp only [hc, bs, ↓reduceIte] at h) <;> (try simp only [hc])
 | ((with_reducible first | refine leafR hQ ?_ | refine leafN hQ ?_); (try cases h); simp only [resL, oneD, Option.some.injEq, exists_eq_left', go_sem, hlt, hget, hpu, hinc, Int.reduceLE, ↓reduceIte, reduceCtorEq, Nat.reduceEqDiff, Nat.reduceLeDiff, Nat.reduceAdd, Nat.reduceMul, Nat.reduceSub, Nat.reduceLT, hroom]; repeat' (first | exact Ok.out | with_reducible refine And.intro ?_ ?_ | (simp; done)))
 | (cases h; replace h := hr; clear hr; (try simp only [bs, ↓reduceIte] at h))
 | (cases h; done))
      refine SemL.re _ _ 0 1 (by rw [hB]; exact Nat.le_of_ble_eq_true rfl) (by rw [hB]; exact Nat.le_of_ble_eq_true rfl) ?_ ?_ (IH (rest, acc.length + 1, acc ++ [(Sm.num true m ⟨id, kind, labels, name, proc, x, has, acca, thn, els⟩).1], (Sm.num true m ⟨id, kind, labels, name, proc, x, has, acca, thn, els⟩).2) ⟨g2, by simp, by rw [h3]; simp [Sm.nums], by simp only [Sm.num]; omega⟩ (Nat.lt_succ_self _))
      · (simp only [go_sem, hlt, hget, hpu, hinc, Int.reduceLE, ↓reduceIte, reduceCtorEq, Nat.reduceEqDiff, Nat.reduceLeDiff, Nat.reduceAdd, Nat.reduceMul, Nat.reduceSub, Nat.reduceLT, wrap_inc hk, Sm.num]; repeat' (first | exact Ok.out | with_reducible refine And.intro ?_ ?_))
      · (simp only [go_sem, hlt, hget, hpu, hinc, Int.reduceLE, ↓reduceIte, reduceCtorEq, Nat.reduceEqDiff, Nat.reduceLeDiff, Nat.reduceAdd, Nat.reduceMul, Nat.reduceSub, Nat.reduceLT, wrap_inc hk, Sm.num]; repeat' (first | exact Ok.out | with_reducible refine And.intro ?_ ?_))
    | cons a resta =>
      obtain ⟨hget, g2, hlt, g4⟩ := drop_cons j1
      have ha : a.x.size < 1073741824 := by have := Ar.sizes_mem (List.mem_of_getElem? hget); omega
      have hka : acca.length < 4611686018427387904 := by omega
      have hrooma : (acca.length + 1) * 81 ≤ maxStr := by simp only [maxStr]; omega
      have hxa := fun s => expr_s ha s
      simp only [encEx_eq] at hxa
      obtain ⟨aref, aname, ax⟩ := a
      repeat' (first
 | simp only [go_sem, hlt, hget, hpu, hinc, Int.reduceLE, ↓reduceIte, reduceCtorEq, Nat.reduceEqDiff, Nat.reduceLeDiff, Nat.reduceAdd, Nat.reduceMul, Nat.reduceSub, Nat.reduceLT, hrooma]
 | (with_reducible refine CU (hxa _) ?_)
 | (with_reducible first | refine CB_ofT (by assumption) fun hc => ?_ | refine CB_ofF (by assumption) fun hc => ?_ | refine CB_split (fun hc => ?_) fun hc => ?_) <;> (try simp only [hc, bs, ↓reduceIte] at h) <;> (try simp only [hc])
 | ((with_reducible first | refine leafR hQ ?_ | refine leafN hQ ?_); (try cases h); simp only [resL, oneD, Option.some.injEq, exists_eq_left', go_sem, hlt, hget, hpu, hinc, Int.reduceLE, ↓reduceIte, reduceCtorEq, Nat.reduceEqDiff, Nat.reduceLeDiff, Nat.reduceAdd, Nat.reduceMul, Nat.reduceSub, Nat.reduceLT, hrooma]; repeat' (first | exact Ok.out | with_reducible refine And.intro ?_ ?_ | (simp; done)))
 | (cases h; replace h := hr; clear hr; (try simp only [bs, ↓reduceIte] at h))
 | (cases h; done))
      refine SemL.re _ _ 2 2 (by rw [hB]; exact Nat.le_of_ble_eq_true rfl) (by rw [hB]; exact Nat.le_of_ble_eq_true rfl) ?_ ?_ (IHa (resta, acca.length + 1, acca ++ [⟨aref, aname, ax⟩]) ⟨g2, by simp, by simp only [List.append_assoc, List.cons_append, List.nil_append]; exact j3⟩ (Nat.lt_succ_self _))
      · (simp only [go_sem, hlt, hget, hpu, hinc, Int.reduceLE, ↓reduceIte, reduceCtorEq, Nat.reduceEqDiff, Nat.reduceLeDiff, Nat.reduceAdd, Nat.reduceMul, Nat.reduceSub, Nat.reduceLT, wrap_inc hka]; repeat' (first | exact Ok.out | with_reducible refine And.intro ?_ ?_))
      · (simp only [go_sem, hlt, hget, hpu, hinc, Int.reduceLE, ↓reduceIte, reduceCtorEq, Nat.reduceEqDiff, Nat.reduceLeDiff, Nat.reduceAdd, Nat.reduceMul, Nat.reduceSub, Nat.reduceLT, wrap_inc hka]; repeat' (first | exact Ok.out | with_reducible refine And.intro ?_ ?_))

theorem cop_all : ∀ N, C_cop true N := by
  intro N
  induction N with
  | zero => intro l hl; exact absurd hl (Nat.not_lt_zero _)
  | succ N ih =>
    intro l hl n hn s
    exact (cop_true ih l hl n hn).pure (by simp [D.oks, D.ok, Tag.ok, okrSm]) (by simp [D.oks, D.ok, Tag.ok, okrSm]) s

theorem cop_s {l : List Sm} {n : Nat} (h : n + Sm.sizes l < 1073741824) (s : St) :
    Fun Try.prog n_tree_copied [.slice .shared 13 (l.map encSm), .int .i64 (n : Int), .bool true] s (.tuple [.slice .shared 13 ((Sm.nums true n l).1.map encSm), .int .i64 ((Sm.nums true n l).2 : Int)]) s :=
  cop_all _ l (Nat.lt_succ_self _) n h s

theorem Number_0 {p : Pg} (hp : p.size < 1073741824) : Fun Try.prog n_tree_Number [.agg (encPg p)] S0 (.agg (encPg p.number)) S0 := by
  obtain ⟨globals, procs⟩ := p
  simp only [Pg.size] at hp
  have hlen : procs.length < 1073741824 := by have := Pc.sizes_len procs; omega
  have hcg := fun g s => clone_str (l := globals) (by omega) g s
  unfold S0
  refine Fun.go has_tree_Number rfl fun B Q hB hQ => ?_
  have hlt : 0 < 1 := Nat.zero_lt_one
  have hget : 0 < 1 := Nat.zero_lt_one
  have hpu : 0 < 1 := Nat.zero_lt_one
  have hinc : 0 < 1 := Nat.zero_lt_one
  repeat' (first
 | simp only [go_sem, hlt, hget, hpu, hinc, Int.reduceLE, ↓reduceIte, reduceCtorEq, Nat.reduceEqDiff, Nat.reduceLeDiff, Nat.reduceAdd, Nat.reduceMul, Nat.reduceSub, Nat.reduceLT]
 | (with_reducible refine CU (hcg _ _) ?_)
 | (with_reducible first | refine CB_ofT (by assumption) fun hc => ?_ | refine CB_ofF (by assumption) fun hc => ?_ | refine CB_split (fun hc => ?_) fun hc => ?_) <;> (try simp only [hc, bs, ↓reduceIte] at h) <;> (try simp only [hc])
 | ((with_reducible first | refine leafR hQ ?_ | refine leafN hQ ?_); (try cases h); simp only [resL, oneD, Option.some.injEq, exists_eq_left', go_sem, hlt, hget, hpu, hinc, Int.reduceLE, ↓reduceIte, reduceCtorEq, Nat.reduceEqDiff, Nat.reduceLeDiff, Nat.reduceAdd, Nat.reduceMul, Nat.reduceSub, Nat.reduceLT]; repeat' (first | exact Ok.out | with_reducible refine And.intro ?_ ?_ | (simp; done)))
 | (cases h; replace h := hr; clear hr; (try simp only [bs, ↓reduceIte] at h))
 | (cases h; done))
  refine SemL.tokO 2 1 5 rfl rfl ?_
  simp only [go_sem, hlt, hget, hpu, hinc, Int.reduceLE, ↓reduceIte, reduceCtorEq, Nat.reduceEqDiff, Nat.reduceLeDiff, Nat.reduceAdd, Nat.reduceMul, Nat.reduceSub, Nat.reduceLT]
  refine SemL.re _ _ 3 1 (by rw [hB]; exact Nat.le_of_ble_eq_true rfl) (by rw [hB]; exact Nat.le_of_ble_eq_true rfl) ?_ ?_ (SemL.ind (ι := List Pc × Nat × List Pc × Nat) (fun i => procs.drop i.2.1 = i.1 ∧ i.2.1 = i.2.2.1.length ∧ Pc.nums 0 procs = i.2.2.1 ++ Pc.nums i.2.2.2 i.1 ∧ i.2.2.2 + Pc.sizes i.1 ≤ Pc.sizes procs) (fun i => i.1.length)
    (fun i => [(2, .ptr 1 0), (3, .int .i64 (i.2.2.2 : Int)), (4, .ptr 2 0), (13, .slice .shared 5 (procs.map encPc)), (14, .int .i64 (procs.length : Int)), (15, .int .i64 (i.2.1 : Int))])
    (fun i => ⟨[encPg ⟨globals, procs⟩, encPg pg0, [.slice .shared 1 (globals.map encStr), .slice (.tok 0) 5 (i.2.2.1.map encPc)]], [some i.2.1]⟩) ?_ (procs, 0, [], 0) ⟨rfl, rfl, rfl, by dsimp only; omega⟩)
  · (simp only [go_sem, hlt, hget, hpu, hinc, Int.reduceLE, ↓reduceIte, reduceCtorEq, Nat.reduceEqDiff, Nat.reduceLeDiff, Nat.reduceAdd, Nat.reduceMul, Nat.reduceSub, Nat.reduceLT]; repeat' (first | exact Ok.out | with_reducible refine And.intro ?_ ?_))
  · (simp only [go_sem, hlt, hget, hpu, hinc, Int.reduceLE, ↓reduceIte, reduceCtorEq, Nat.reduceEqDiff, Nat.reduceLeDiff, Nat.reduceAdd, Nat.reduceMul, Nat.reduceSub, Nat.reduceLT]; repeat' (first | exact Ok.out | with_reducible refine And.intro ?_ ?_))
  rintro ⟨rest, k, acc, m⟩ ⟨h1, h2, h3, h4⟩ IH
  dsimp only at h1 h2 h3 h4
  subst h2
  cases rest with
  | nil =>
    have hlt := drop_nil h1
    simp only [Pc.nums, List.append_nil] at h3
    subst h3
    repeat' (first
 | simp only [go_sem, hlt, hget, hpu, hinc, Int.reduceLE, ↓reduceIte, reduceCtorEq, Nat.reduceEqDiff, Nat.reduceLeDiff, Nat.reduceAdd, Nat.reduceMul, Nat.reduceSub, Nat.reduceLT, Pg.number]
 | (with_reducible first | refine CB_ofT (by assumption) fun hc => ?_ | refine CB_ofF (by assumption) fun hc => ?_ | refine CB_split (fun hc => ?_) fun hc => ?_) <;> (try simp only [hc, bs, ↓reduceIte] at h) <;> (try simp only [hc])
 | ((with_reducible first | refine leafR hQ ?_ | refine leafN hQ ?_); (try cases h); simp only [resL, oneD, Option.some.injEq, exists_eq_left', go_sem, hlt, hget, hpu, hinc, Int.reduceLE, ↓reduceIte, reduceCtorEq, Nat.reduceEqDiff, Nat.reduceLeDiff, Nat.reduceAdd, Nat.reduceMul, Nat.reduceSub, Nat.reduceLT, Pg.number]; repeat' (first | exact Ok.out | with_reducible refine And.intro ?_ ?_ | (simp; done)))
 | (cases h; replace h := hr; clear hr; (try simp only [bs, ↓reduceIte] at h))
 | (cases h; done))
  | cons y rest =>
    obtain ⟨hget, g2, hlt, g4⟩ := drop_cons h1
    simp only [Pc.sizes] at h4
    have hsz := Pc.sizes_mem (List.mem_of_getElem? hget)
    obtain ⟨name, params, vars, body, fin⟩ := y
    simp only [Pc.size] at hsz h4
    have hk : acc.length < 4611686018427387904 := by omega
    have hroom : (acc.length + 1) * 113 ≤ maxStr := by simp only [maxStr]; omega
    have c1 := fun g s => clone_pm (l := params) (by omega) g s
    have c2 := fun g s => clone_str (l := vars) (by omega) g s
    have c3 := fun g s => clone_str (l := fin) (by omega) g s
    have c4 := fun s => cop_s (l := body) (n := m) (by omega) s
    have b1 := Sm.nums_le true m body
    repeat' (first
 | simp only [go_sem, hlt, hget, hpu, hinc, Int.reduceLE, ↓reduceIte, reduceCtorEq, Nat.reduceEqDiff, Nat.reduceLeDiff, Nat.reduceAdd, Nat.reduceMul, Nat.reduceSub, Nat.reduceLT, hroom]
 | (with_reducible refine CU (c1 _ _) ?_)
 | (with_reducible refine CU (c2 _ _) ?_)
 | (with_reducible refine CU (c3 _ _) ?_)
 | (with_reducible refine CU (c4 _) ?_)
 | (with_reducible first | refine CB_ofT (by assumption) fun hc => ?_ | refine CB_ofF (by assumption) fun hc => ?_ | refine CB_split (fun hc => ?_) fun hc => ?_) <;> (try simp only [hc, bs, ↓reduceIte] at h) <;> (try simp only [hc])
 | ((with_reducible first | refine leafR hQ ?_ | refine leafN hQ ?_); (try cases h); simp only [resL, oneD, Option.some.injEq, exists_eq_left', go_sem, hlt, hget, hpu, hinc, Int.reduceLE, ↓reduceIte, reduceCtorEq, Nat.reduceEqDiff, Nat.reduceLeDiff, Nat.reduceAdd, Nat.reduceMul, Nat.reduceSub, Nat.reduceLT, hroom]; repeat' (first | exact Ok.out | with_reducible refine And.intro ?_ ?_ | (simp; done)))
 | (cases h; replace h := hr; clear hr; (try simp only [bs, ↓reduceIte] at h))
 | (cases h; done))
    refine SemL.re _ _ 3 1 (by rw [hB]; exact Nat.le_of_ble_eq_true rfl) (by rw [hB]; exact Nat.le_of_ble_eq_true rfl) ?_ ?_ (IH (rest, acc.length + 1, acc ++ [⟨name, params, vars, (Sm.nums true m body).1, fin⟩], (Sm.nums true m body).2) ⟨g2, by simp, by rw [h3]; simp [Pc.nums], by dsimp only; omega⟩ (Nat.lt_succ_self _))
    · (simp only [go_sem, hlt, hget, hpu, hinc, Int.reduceLE, ↓reduceIte, reduceCtorEq, Nat.reduceEqDiff, Nat.reduceLeDiff, Nat.reduceAdd, Nat.reduceMul, Nat.reduceSub, Nat.reduceLT, wrap_inc hk]; repeat' (first | exact Ok.out | with_reducible refine And.intro ?_ ?_))
    · (simp only [go_sem, hlt, hget, hpu, hinc, Int.reduceLE, ↓reduceIte, reduceCtorEq, Nat.reduceEqDiff, Nat.reduceLeDiff, Nat.reduceAdd, Nat.reduceMul, Nat.reduceSub, Nat.reduceLT, wrap_inc hk]; repeat' (first | exact Ok.out | with_reducible refine And.intro ?_ ?_))

theorem Number_s {p q : Pg} (h : p.numberO = some q) (s : St) : Fun Try.prog n_tree_Number [.agg (encPg p)] s (.agg (encPg q)) s := by
  unfold Pg.numberO at h
  split at h
  · cases h; exact (Number_0 ‹_›).pure (by simp [D.oks, D.ok, okPg]) (by simp [D.ok, okPg]) s
  · cases h

end Go.Abs

/-! MirParse -/

namespace Go.Abs

def rd0 (l : List Tok) : Rd := ⟨l, 0, 0, 0, 0⟩

def parseM (m : Nat) (text : Str) : Option (Pg × Int × Int) :=
  if (lexAll text).2.1 != 0 then some (pg0, (lexAll text).2)
  else (Rd.program m (rd0 (lexAll text).1)).bind fun p => if p.2.code != 0 then some (pg0, p.2.code, p.2.fat) else (p.1.numberO).bind fun q => some (q, 0, 0)

def exprM (m : Nat) (text : Str) : Option (Ex × Int × Int) :=
  if (lexAll text).2.1 != 0 then some (ex0, (lexAll text).2)
  else (Rd.whole m (rd0 (lexAll text).1)).bind fun x => x.2.notEnd.bind fun b =>
    if b then (x.2.bad 3).bind fun r => if !r.good then some (ex0, r.code, r.fat) else some (x.1, 0, 0)
    else if !x.2.good then some (ex0, x.2.code, x.2.fat) else some (x.1, 0, 0)

end Go.Abs

/-! Prs7 -/

namespace Go.Abs

set_option maxRecDepth 8000
set_option linter.unusedSimpArgs false
set_option linter.unusedVariables false
open Go.Proofs

theorem program_s {m : Nat} {r : Rd} {p : Pg × Rd} (h : Rd.program m r = some p) {s : St} {o : Nat} (ho : s.objs[o]? = some (encRd r)) :
    Fun Try.prog n_parse_reader_program [.ptr o 0] s (.agg (encPg p.1)) ⟨s.objs.set o (encRd p.2), s.toks⟩ := by
  refine Fun.meth ?_ rfl (okRd r) (okRd p.2) (by simp [D.ok, okPg]) ho
  unfold Rd.program at h
  refine Fun.go has_parse_reader_program rfl fun B Q hB hQ => ?_
  have hlt : 0 < 1 := Nat.zero_lt_one
  have hget : 0 < 1 := Nat.zero_lt_one
  have hpu : 0 < 1 := Nat.zero_lt_one
  have hinc : 0 < 1 := Nat.zero_lt_one
  repeat' (first
 | simp only [go_sem, hlt, hget, hpu, hinc, Int.reduceLE, ↓reduceIte, reduceCtorEq, Nat.reduceEqDiff, Nat.reduceLeDiff, Nat.reduceAdd, Nat.reduceMul, Nat.reduceSub, Nat.reduceLT]
 | (with_reducible first | refine CB_ofT (by assumption) fun hc => ?_ | refine CB_ofF (by assumption) fun hc => ?_ | refine CB_split (fun hc => ?_) fun hc => ?_) <;> (try simp only [hc, bs, ↓reduceIte] at h) <;> (try simp only [hc])
 | ((with_reducible first | refine leafR hQ ?_ | refine leafN hQ ?_); (try cases h); simp only [resL, oneD, Option.some.injEq, exists_eq_left', go_sem, hlt, hget, hpu, hinc, Int.reduceLE, ↓reduceIte, reduceCtorEq, Nat.reduceEqDiff, Nat.reduceLeDiff, Nat.reduceAdd, Nat.reduceMul, Nat.reduceSub, Nat.reduceLT]; repeat' (first | exact Ok.out | with_reducible refine And.intro ?_ ?_ | (simp; done)))
 | (cases h; replace h := hr; clear hr; (try simp only [bs, ↓reduceIte] at h))
 | (cases h; done))
  rw [Option.bind_eq_some_iff] at h
  obtain ⟨q, h, hr⟩ := h
  refine SemL.tokO 2 0 1 rfl rfl ?_
  simp only [go_sem, hlt, hget, hpu, hinc, Int.reduceLE, ↓reduceIte, reduceCtorEq, Nat.reduceEqDiff, Nat.reduceLeDiff, Nat.reduceAdd, Nat.reduceMul, Nat.reduceSub, Nat.reduceLT]
  refine SemL.re _ _ 3 1 (by rw [hB]; exact Nat.le_of_ble_eq_true rfl) (by rw [hB]; exact Nat.le_of_ble_eq_true rfl) ?_ ?_ (SemL.ind (ι := Nat × List Str × Rd × Nat) (fun i => Rd.globals m i.1 i.2.1 i.2.2.1 = some q ∧ i.2.2.2 = i.2.1.length) (fun i => i.1)
    (fun i => [(0, .ptr 0 0), (2, .ptr 1 0), (3, .ptr 2 0)]) (fun i => ⟨[encRd i.2.2.1, [.slice .full 0 [], .slice .full 0 []], [.slice (.tok 0) 1 (i.2.1.map encStr), .slice .full 0 []]], [some i.2.2.2]⟩) ?_ (m, [], r, 0) ⟨h, rfl⟩)
  · (simp only [go_sem, hlt, hget, hpu, hinc, Int.reduceLE, ↓reduceIte, reduceCtorEq, Nat.reduceEqDiff, Nat.reduceLeDiff, Nat.reduceAdd, Nat.reduceMul, Nat.reduceSub, Nat.reduceLT]; repeat' (first | exact Ok.out | with_reducible refine And.intro ?_ ?_))
  · (simp only [go_sem, hlt, hget, hpu, hinc, Int.reduceLE, ↓reduceIte, reduceCtorEq, Nat.reduceEqDiff, Nat.reduceLeDiff, Nat.reduceAdd, Nat.reduceMul, Nat.reduceSub, Nat.reduceLT]; repeat' (first | exact Ok.out | with_reducible refine And.intro ?_ ?_))
  rintro ⟨n, l, r, k⟩ ⟨h, hk⟩ IH
  dsimp only at hk; subst hk
  cases n with
  | zero => simp only [Rd.globals] at h; cases h
  | succ n =>
    simp only [Rd.globals] at h
    repeat' (first
 | simp only [go_sem, hlt, hget, hpu, hinc, Int.reduceLE, ↓reduceIte, reduceCtorEq, Nat.reduceEqDiff, Nat.reduceLeDiff, Nat.reduceAdd, Nat.reduceMul, Nat.reduceSub, Nat.reduceLT]
 | (rw [Option.bind_eq_some_iff] at h; obtain ⟨_, h1, h⟩ := h; first | (with_reducible refine CU (take_s h1 (by with_unfolding_all rfl)) ?_) | (with_reducible refine CU (names_s h1 (by with_unfolding_all rfl) (by with_unfolding_all rfl)) ?_))
 | (with_reducible first | refine CB_ofT (by assumption) fun hc => ?_ | refine CB_ofF (by assumption) fun hc => ?_ | refine CB_split (fun hc => ?_) fun hc => ?_) <;> (try simp only [hc, bs, ↓reduceIte] at h) <;> (try simp only [hc])
 | ((with_reducible first | refine leafR hQ ?_ | refine leafN hQ ?_); (try cases h); simp only [resL, oneD, Option.some.injEq, exists_eq_left', go_sem, hlt, hget, hpu, hinc, Int.reduceLE, ↓reduceIte, reduceCtorEq, Nat.reduceEqDiff, Nat.reduceLeDiff, Nat.reduceAdd, Nat.reduceMul, Nat.reduceSub, Nat.reduceLT]; repeat' (first | exact Ok.out | with_reducible refine And.intro ?_ ?_ | (simp; done)))
 | (cases h; replace h := hr; clear hr; (try simp only [bs, ↓reduceIte] at h))
 | (cases h; done))
    · refine SemL.re _ _ 3 1 (by rw [hB]; exact Nat.le_of_ble_eq_true rfl) (by rw [hB]; exact Nat.le_of_ble_eq_true rfl) ?_ ?_ (IH (n, _, _, _) ⟨h, rfl⟩ (Nat.lt_succ_self _))
      · (simp only [go_sem, hlt, hget, hpu, hinc, Int.reduceLE, ↓reduceIte, reduceCtorEq, Nat.reduceEqDiff, Nat.reduceLeDiff, Nat.reduceAdd, Nat.reduceMul, Nat.reduceSub, Nat.reduceLT]; repeat' (first | exact Ok.out | with_reducible refine And.intro ?_ ?_))
      · (simp only [go_sem, hlt, hget, hpu, hinc, Int.reduceLE, ↓reduceIte, reduceCtorEq, Nat.reduceEqDiff, Nat.reduceLeDiff, Nat.reduceAdd, Nat.reduceMul, Nat.reduceSub, Nat.reduceLT]; repeat' (first | exact Ok.out | with_reducible refine And.intro ?_ ?_))
    · refine SemL.re _ _ 3 0 (by rw [hB]; exact Nat.le_of_ble_eq_true rfl) (by rw [hB]; exact Nat.le_of_ble_eq_true rfl) ?_ ?_ (program_tail hB hQ _ h)
      · (simp only [go_sem, hlt, hget, hpu, hinc, Int.reduceLE, ↓reduceIte, reduceCtorEq, Nat.reduceEqDiff, Nat.reduceLeDiff, Nat.reduceAdd, Nat.reduceMul, Nat.reduceSub, Nat.reduceLT]; repeat' (first | exact Ok.out | with_reducible refine And.intro ?_ ?_))
      · (simp only [go_sem, hlt, hget, hpu, hinc, Int.reduceLE, ↓reduceIte, reduceCtorEq, Nat.reduceEqDiff, Nat.reduceLeDiff, Nat.reduceAdd, Nat.reduceMul, Nat.reduceSub, Nat.reduceLT]; repeat' (first | exact Ok.out | with_reducible refine And.intro ?_ ?_))

theorem Parse_s {m : Nat} {text : Str} {p : Pg × Int × Int} (h : parseM m text = some p) (hl : text.length < 4611686018427387904) (s : St) :
    Fun Try.prog n_parse_Parse [.str text] s (.tuple [.agg (encPg p.1), .agg (encF p.2)]) s := by
  refine Fun.pure ?_ rfl (by simp [D.ok, D.oks, okPg, encF]) s
  unfold parseM at h
  have hlex := all_s text hl
  generalize lexAll text = t at h hlex
  unfold S0
  refine Fun.go has_parse_Parse rfl fun B Q hB hQ => ?_
  have hlt : 0 < 1 := Nat.zero_lt_one
  have hget : 0 < 1 := Nat.zero_lt_one
  have hpu : 0 < 1 := Nat.zero_lt_one
  have hinc : 0 < 1 := Nat.zero_lt_one
  repeat' (first
 | simp only [go_sem, hlt, hget, hpu, hinc, Int.reduceLE, ↓reduceIte, reduceCtorEq, Nat.reduceEqDiff, Nat.reduceLeDiff, Nat.reduceAdd, Nat.reduceMul, Nat.reduceSub, Nat.reduceLT, rd0]
 | (rw [Option.bind_eq_some_iff] at h; obtain ⟨_, h1, h⟩ := h; first | (with_reducible refine CU (program_s h1 (by with_unfolding_all rfl)) ?_) | (with_reducible refine CU (Number_s h1 _) ?_))
 | (with_reducible refine CU (hlex _) ?_)
 | (with_reducible first | refine CB_ofT (by assumption) fun hc => ?_ | refine CB_ofF (by assumption) fun hc => ?_ | refine CB_split (fun hc => ?_) fun hc => ?_) <;> (try simp only [hc, bs, ↓reduceIte] at h) <;> (try simp only [hc])
 | ((with_reducible first | refine leafR hQ ?_ | refine leafN hQ ?_); (try cases h); simp only [resL, oneD, Option.some.injEq, exists_eq_left', go_sem, hlt, hget, hpu, hinc, Int.reduceLE, ↓reduceIte, reduceCtorEq, Nat.reduceEqDiff, Nat.reduceLeDiff, Nat.reduceAdd, Nat.reduceMul, Nat.reduceSub, Nat.reduceLT, rd0]; repeat' (first | exact Ok.out | with_reducible refine And.intro ?_ ?_ | (simp; done)))
 | (cases h; replace h := hr; clear hr; (try simp only [bs, ↓reduceIte] at h))
 | (cases h; done))

theorem Expr_s {m : Nat} {text : Str} {p : Ex × Int × Int} (h : exprM m text = some p) (hl : text.length < 4611686018427387904) (s : St) :
    Fun Try.prog n_parse_Expr [.str text] s (.tuple [.agg (encEx p.1), .agg (encF p.2)]) s := by
  refine Fun.pure ?_ rfl (by simp [D.ok, D.oks, okEx, encF]) s
  unfold exprM Rd.notEnd at h
  have hlex := all_s text hl
  generalize lexAll text = t at h hlex
  unfold S0
  refine Fun.go has_parse_Expr rfl fun B Q hB hQ => ?_
  have hlt : 0 < 1 := Nat.zero_lt_one
  have hget : 0 < 1 := Nat.zero_lt_one
  have hpu : 0 < 1 := Nat.zero_lt_one
  have hinc : 0 < 1 := Nat.zero_lt_one
  repeat' (first
 | simp only [go_sem, hlt, hget, hpu, hinc, Int.reduceLE, ↓reduceIte, reduceCtorEq, Nat.reduceEqDiff, Nat.reduceLeDiff, Nat.reduceAdd, Nat.reduceMul, Nat.reduceSub, Nat.reduceLT, rd0]
 | (rw [Option.bind_eq_some_iff] at h; obtain ⟨_, h1, h⟩ := h; first | (with_reducible refine CU (whole_s h1 (by with_unfolding_all rfl)) ?_) | (with_reducible refine CU (peek_s h1 (by with_unfolding_all rfl)) ?_) | (with_reducible refine CU (bad_s h1 (by with_unfolding_all rfl)) ?_))
 | (with_reducible refine CU (hlex _) ?_)
 | (with_reducible refine CU (good_s (by with_unfolding_all rfl)) ?_)
 | (with_reducible first | refine CB_ofT (by assumption) fun hc => ?_ | refine CB_ofF (by assumption) fun hc => ?_ | refine CB_split (fun hc => ?_) fun hc => ?_) <;> (try simp only [hc, bs, ↓reduceIte] at h) <;> (try simp only [hc])
 | ((with_reducible first | refine leafR hQ ?_ | refine leafN hQ ?_); (try cases h); simp only [resL, oneD, Option.some.injEq, exists_eq_left', go_sem, hlt, hget, hpu, hinc, Int.reduceLE, ↓reduceIte, reduceCtorEq, Nat.reduceEqDiff, Nat.reduceLeDiff, Nat.reduceAdd, Nat.reduceMul, Nat.reduceSub, Nat.reduceLT, rd0]; repeat' (first | exact Ok.out | with_reducible refine And.intro ?_ ?_ | (simp; done)))
 | (cases h; replace h := hr; clear hr; (try simp only [bs, ↓reduceIte] at h))
 | (cases h; done))

end Go.Abs

/-! Tot -/

namespace Go.Abs
set_option linter.unusedSimpArgs false
set_option linter.unusedVariables false

/-- There is a result, and this holds of it. -/
def Tt {α : Type} (o : Option α) (Q : α → Prop) : Prop := ∃ a, o = some a ∧ Q a
theorem Tt.bind {α β : Type} {o : Option α} {f : α → Option β} {Q : α → Prop} {R : β → Prop} (h : Tt o Q) (k : ∀ a, Q a → Tt (f a) R) : Tt (o.bind f) R := by
  obtain ⟨a, rfl, hq⟩ := h
  exact k a hq
theorem Tt.mono {α : Type} {o : Option α} {Q R : α → Prop} (h : Tt o Q) (k : ∀ a, Q a → R a) : Tt o R := by
  obtain ⟨a, e, hq⟩ := h
  exact ⟨a, e, k a hq⟩
theorem Tt.some {α : Type} {a : α} {Q : α → Prop} (h : Q a) : Tt (some a) Q := ⟨a, rfl, h⟩
theorem Tt.ite {α : Type} {c : Prop} [Decidable c] {a b : Option α} {Q : α → Prop} (h1 : c → Tt a Q) (h2 : ¬ c → Tt b Q) : Tt (if c then a else b) Q := by
  by_cases h : c
  · rw [if_pos h]; exact h1 h
  · rw [if_neg h]; exact h2 h

structure Rd.Ok (r : Rd) : Prop where
  k : ∀ t ∈ r.l, 0 ≤ t.kind ∧ t.kind ≤ 4
  lt : r.i < r.l.length
  len : r.l.length ≤ 2001
  last : ∀ t, r.l[r.l.length - 1]? = some t → t.kind = 0
  n1 : r.n ≤ 201

/-- From one reader to a later one. -/
structure Rd.To (r r' : Rd) : Prop where
  ok : r'.Ok
  l : r'.l = r.l
  i : r.i ≤ r'.i
  g : r'.good = true → r.good = true
  s : r.good = false → r' = r
structure Rd.ToE (r r' : Rd) : Prop where
  to : r.To r'
  n : r'.n = r.n

theorem Rd.To.refl {r : Rd} (h : r.Ok) : r.To r := ⟨h, rfl, Nat.le_refl _, id, fun _ => rfl⟩
theorem Rd.To.trans {a b c : Rd} (h : a.To b) (k : b.To c) : a.To c :=
  ⟨k.ok, k.l.trans h.l, Nat.le_trans h.i k.i, fun g => h.g (k.g g), fun g => by have := h.s g; subst this; exact k.s g⟩
theorem Rd.ToE.refl {r : Rd} (h : r.Ok) : r.ToE r := ⟨.refl h, rfl⟩
theorem Rd.ToE.trans {a b c : Rd} (h : a.ToE b) (k : b.ToE c) : a.ToE c := ⟨h.to.trans k.to, k.n.trans h.n⟩

theorem peek_t {r : Rd} (h : r.Ok) : Tt r.peek fun t => r.l[r.i]? = some t ∧ 0 ≤ t.kind ∧ t.kind ≤ 4 ∧ (t.kind ≠ 0 → r.i + 1 < r.l.length) := by
  have hlt := h.lt
  have hget : r.l[r.i]? = some r.l[r.i] := List.getElem?_eq_getElem hlt
  have hk := h.k _ (List.getElem_mem hlt)
  refine ⟨r.l[r.i], ?_, hget, hk.1, hk.2, fun hz => ?_⟩
  · have : r.i < 4611686018427387904 := by have := h.len; omega
    simp only [Rd.peek, getO, this, ↓reduceIte, hget, Option.bind_some, hk.1, hk.2, decide_true, Bool.and_self]
  · rcases Nat.lt_or_ge (r.i + 1) r.l.length with h1 | h1
    · exact h1
    · have : r.i = r.l.length - 1 := by omega
      have := h.last r.l[r.i] (by rw [← this]; exact hget)
      exact absurd this hz

theorem Rd.Ok.on {r : Rd} (h : r.Ok) (hi : r.i + 1 < r.l.length) : ({ r with i := r.i + 1 } : Rd).Ok := ⟨h.k, hi, h.len, h.last, h.n1⟩
theorem Rd.ToE.on {r : Rd} (h : r.Ok) (hg : r.good = true) (hi : r.i + 1 < r.l.length) : r.ToE { r with i := r.i + 1 } :=
  ⟨⟨h.on hi, rfl, Nat.le_succ _, fun _ => hg, fun h' => by rw [hg] at h'; cases h'⟩, rfl⟩
theorem Rd.Ok.fault {r : Rd} (h : r.Ok) (c f : Int) : ({ r with code := c, fat := f } : Rd).Ok ∨ c = 0 := by
  by_cases hc : c = 0
  · exact .inr hc
  · exact .inl ⟨h.k, h.lt, h.len, h.last, h.n1⟩

theorem bad_t {r : Rd} (h : r.Ok) {c : Int} (hc : c ≠ 0) : Tt (r.bad c) fun r' => r.ToE r' ∧ r'.good = false ∧ r'.i = r.i := by
  unfold Rd.bad
  refine Tt.ite (fun hg => ?_) (fun hg => ?_)
  · refine (peek_t h).bind fun t ht => Tt.some ?_
    have hf : ({ r with code := c, fat := t.pos } : Rd).good = false := by simp [Rd.good, hc]
    refine ⟨⟨⟨?_, rfl, Nat.le_refl _, fun h' => (by rw [hf] at h'; cases h'), fun h' => (by rw [hg] at h'; cases h')⟩, rfl⟩, hf, rfl⟩
    rcases h.fault c t.pos with h1 | h1
    · exact h1
    · exact absurd h1 hc
  · have : r.good = false := by simpa using hg
    exact Tt.some ⟨.refl h, this, rfl⟩

theorem is_t {r : Rd} (h : r.Ok) (s : Str) : Tt (r.is s) fun b => b = true → r.i + 1 < r.l.length := by
  unfold Rd.is
  refine (peek_t h).bind fun t ht => Tt.some fun hb => ht.2.2.2 ?_
  simp only [Bool.and_eq_true, Bool.or_eq_true, beq_iff_eq] at hb
  omega

theorem take_t {r : Rd} (h : r.Ok) (s : Str) : Tt (r.take s) fun p => r.ToE p.2 ∧ (p.1 = true → p.2.i = r.i + 1 ∧ r.good = true ∧ p.2.good = true) ∧ (p.1 = false → p.2 = r) := by
  unfold Rd.take
  refine Tt.ite (fun hg => ?_) (fun hg => ?_)
  · exact Tt.some ⟨.refl h, by simp, by simp⟩
  · have hg' : r.good = true := by simpa using hg
    refine (is_t h s).bind fun b hb => Tt.ite (fun hc => Tt.some ⟨.refl h, by simp, by simp⟩) (fun hc => Tt.some ?_)
    have hbt : b = true := by simpa using hc
    exact ⟨.on h hg' (hb hbt), fun _ => ⟨rfl, hg', hg'⟩, by simp⟩

theorem want_t {r : Rd} (h : r.Ok) (s : Str) : Tt (r.want s) fun r' => r.ToE r' ∧ (r'.good = true → r'.i = r.i + 1) := by
  unfold Rd.want
  refine (take_t h s).bind fun p hp => Tt.ite (fun hc => ?_) (fun hc => ?_)
  · have : p.1 = false := by simpa using hc
    have e := hp.2.2 this
    rw [e]
    exact (bad_t h (by decide)).mono fun r' hr => ⟨hr.1, fun hg => by rw [hr.2.1] at hg; cases hg⟩
  · have : p.1 = true := by simpa using hc
    exact Tt.some ⟨hp.1, fun _ => (hp.2.1 this).1⟩

theorem name_t {r : Rd} (h : r.Ok) (room : Bool) : Tt (r.name room) fun p => r.ToE p.2 ∧ (p.2.good = true → p.2.i = r.i + 1) := by
  unfold Rd.name
  refine (peek_t h).bind fun t ht => Tt.ite (fun hc => ?_) (fun hc => Tt.ite (fun hc2 => ?_) (fun hc2 => ?_))
  · exact (bad_t h (by decide)).bind fun r' hr => Tt.some ⟨hr.1, fun hg => by rw [hr.2.1] at hg; cases hg⟩
  · exact (bad_t h (by decide)).bind fun r' hr => Tt.some ⟨hr.1, fun hg => by rw [hr.2.1] at hg; cases hg⟩
  · simp only [Bool.or_eq_true, Bool.not_eq_true', bne_iff_ne, ne_eq, not_or, Decidable.not_not] at hc
    have hg : r.good = true := by simpa using hc.1
    exact Tt.some ⟨.on h hg (ht.2.2.2 (by omega)), fun _ => rfl⟩

/-! ### Expressions -/

def ExT (r : Rd) (p : Ex × Rd) : Prop := r.ToE p.2 ∧ (p.2.good = true → p.1.size + 3 + 4 * r.i ≤ 4 * p.2.i)

theorem ex0_size : ex0.size = 1 := rfl

theorem expr_t : ∀ n : Nat,
    (∀ r : Rd, r.Ok → 3 * (r.l.length - r.i) + 1 ≤ n → Tt (Rd.one n r) (ExT r)) ∧
    (∀ (r : Rd) (k : Int), r.Ok → 3 * (r.l.length - r.i) + 2 ≤ n → Tt (Rd.two n k r) (ExT r)) ∧
    (∀ (r : Rd) (k : Int) (x : Ex), r.Ok → 3 * (r.l.length - r.i) + 1 ≤ n → Tt (Rd.twoL n k x r) fun p => r.ToE p.2 ∧ (p.2.good = true → p.1.size + 4 * r.i ≤ x.size + 4 * p.2.i)) := by
  intro n
  induction n with
  | zero => exact ⟨fun r _ h => by omega, fun r k _ h => by omega, fun r k x _ h => by omega⟩
  | succ n ih =>
  obtain ⟨ih1, ih2, ih3⟩ := ih
  refine ⟨fun r h hn => ?_, fun r k h hn => ?_, fun r k x h hn => ?_⟩
  · have hlt := h.lt
    simp only [Rd.one]
    refine (peek_t h).bind fun t ht => Tt.ite (fun hg => ?_) (fun hg => ?_)
    · have hg : r.good = false := by simpa using hg
      exact Tt.some ⟨.refl h, fun h' => by simp only [hg] at h'; cases h'⟩
    have hg : r.good = true := by simpa using hg
    refine Tt.ite (fun hk => ?_) (fun hk => Tt.ite (fun hk2 => ?_) (fun hk2 => ?_))
    · simp only [beq_iff_eq] at hk
      refine Tt.some ⟨.on h hg (ht.2.2.2 (by omega)), fun _ => ?_⟩
      simp only [Ex.size, Ex.sizes]; omega
    · simp only [beq_iff_eq] at hk2
      refine Tt.some ⟨.on h hg (ht.2.2.2 (by omega)), fun _ => ?_⟩
      simp only [Ex.size, Ex.sizes]; omega
    refine (take_t h _).bind fun p hp => Tt.ite (fun hc => ?_) (fun hc => ?_)
    · obtain ⟨e1, e2, e3⟩ := hp.2.1 hc
      have hl := hp.1.to.l
      have hi := hp.1.to.ok.lt
      refine (ih2 p.2 1 hp.1.to.ok (by rw [hl, e1]; rw [hl, e1] at hi; omega)).bind fun x hx => ?_
      refine (want_t hx.1.to.ok _).bind fun r2 hr2 => Tt.some ⟨hp.1.trans (hx.1.trans hr2.1), fun hgo => ?_⟩
      have := hx.2 (hr2.1.to.g hgo)
      have := hr2.2 hgo
      dsimp only
      omega
    · have hpf : p.1 = false := by simpa using hc
      rw [hp.2.2 hpf]
      refine (take_t h _).bind fun p hp => Tt.ite (fun hc => ?_) (fun hc => ?_)
      · obtain ⟨e1, e2, e3⟩ := hp.2.1 hc
        have hl := hp.1.to.l
        have hi := hp.1.to.ok.lt
        refine (ih1 p.2 hp.1.to.ok (by rw [hl, e1]; rw [hl, e1] at hi; omega)).bind fun x hx => Tt.some ⟨hp.1.trans hx.1, fun hgo => ?_⟩
        have := hx.2 hgo
        simp only [Ex.size, Ex.sizes]
        omega
      · have hpf : p.1 = false := by simpa using hc
        rw [hp.2.2 hpf]
        refine (take_t h _).bind fun p hp => Tt.ite (fun hc => ?_) (fun hc => ?_)
        · obtain ⟨e1, e2, e3⟩ := hp.2.1 hc
          have hl := hp.1.to.l
          have hi := hp.1.to.ok.lt
          refine (ih1 p.2 hp.1.to.ok (by rw [hl, e1]; rw [hl, e1] at hi; omega)).bind fun x hx => Tt.some ⟨hp.1.trans hx.1, fun hgo => ?_⟩
          have := hx.2 hgo
          simp only [Ex.size, Ex.sizes]
          omega
        · have hpf : p.1 = false := by simpa using hc
          rw [hp.2.2 hpf]
          exact (bad_t h (by decide)).bind fun r' hr => Tt.some ⟨hr.1, fun hg => by simp only [hr.2.1] at hg; cases hg⟩
  · simp only [Rd.two]
    refine (ih1 r h (by omega)).bind fun x hx => ?_
    have hl := hx.1.to.l
    have hi := hx.1.to.i
    refine (ih3 x.2 k x.1 hx.1.to.ok (by rw [hl]; omega)).mono fun p hp => ⟨hx.1.trans hp.1, fun hg => ?_⟩
    have h1 := hp.2 hg
    have h2 := hx.2 (hp.1.to.g hg)
    omega
  · have hlt := h.lt
    simp only [Rd.twoL]
    refine Tt.ite (fun hg => ?_) (fun hg => Tt.some ⟨.refl h, fun _ => Nat.le_refl _⟩)
    refine (peek_t h).bind fun t ht => Tt.ite (fun hc => Tt.some ⟨.refl h, fun _ => Nat.le_refl _⟩) (fun hc => ?_)
    have hk : t.kind ≠ 0 := fun e => hc (by
      have : opOf t = (0, 0) := by simp [opOf, e]
      simp [this])
    have hon := Rd.ToE.on h hg (ht.2.2.2 hk)
    have hi := hon.to.ok.lt
    refine (ih2 _ _ hon.to.ok (by dsimp only at hi ⊢; omega)).bind fun y hy => ?_
    have hl2 := hy.1.to.l
    have hi2 := hy.1.to.i
    have hi3 := hy.1.to.ok.lt
    dsimp only at hl2 hi2
    refine (ih3 y.2 k _ hy.1.to.ok (by rw [hl2] at hi3 ⊢; omega)).mono fun p hp => ⟨hon.trans (hy.1.trans hp.1), fun hgo => ?_⟩
    have h1 := hp.2 hgo
    have h2 := hy.2 (hp.1.to.g hgo)
    simp only [Ex.size, Ex.sizes] at h1
    dsimp only at h2
    omega

/-- Fuel that is enough for a whole expression. -/
theorem whole_t {n : Nat} {r : Rd} (h : r.Ok) (hn : 6006 ≤ n) : Tt (Rd.whole n r) (ExT r) := by
  have hlen := h.len
  unfold Rd.whole
  refine (peek_t h).bind fun t ht => ((expr_t n).2.1 r 1 h (by omega)).bind fun x hx => Tt.ite (fun hg => ?_) (fun hg => Tt.some ?_)
  · have hs := hx.2 hg
    have hi := hx.1.to.ok.lt
    have hl := hx.1.to.ok.len
    have hsz : x.1.size < 4611686018427387904 := by omega
    simp only [depthO, hsz, ↓reduceIte, Option.bind_some]
    refine Tt.ite (fun hd => Tt.some ?_) (fun hd => Tt.some hx)
    have hf : ({ x.2 with code := 4, fat := t.pos } : Rd).good = false := rfl
    refine ⟨⟨⟨?_, hx.1.to.l, hx.1.to.i, fun h' => (by rw [hf] at h'; cases h'), fun h' => ?_⟩, hx.1.n⟩, fun h' => by rw [hf] at h'; cases h'⟩
    · rcases hx.1.to.ok.fault 4 t.pos with h1 | h1
      · exact h1
      · cases h1
    · have := hx.1.to.s h'
      rw [this] at hg
      rw [hg] at h'
      cases h'
  · exact hx

end Go.Abs

/-! Tot2 -/

namespace Go.Abs
set_option linter.unusedSimpArgs false
set_option linter.unusedVariables false

theorem push_t {α : Type} {k : Nat} {l : List α} {x : α} (h : l.length ≤ 5000) (hk : k ≤ 1000) : Tt (push k l x) fun l' => l' = l ++ [x] := by
  have : (l.length + 1) * k ≤ maxStr := by
    have h1 : (l.length + 1) * k ≤ 5001 * 1000 := Nat.mul_le_mul (by omega) hk
    simp only [maxStr]; omega
  simp only [push, this, ↓reduceIte]
  exact Tt.some rfl

theorem names_t : ∀ (n : Nat) (l : List Str) (most : Int) (r : Rd), r.Ok → l.length ≤ r.i → r.l.length - r.i ≤ n + 1 → 0 < n →
    Tt (Rd.names n l most r) fun p => r.ToE p.2 ∧ p.1.length ≤ p.2.i + 1 ∧ (p.2.good = true → p.1.length + r.i ≤ l.length + p.2.i) ∧ (p.2.good = true → p.1.length ≤ p.2.i) := by
  intro n
  induction n with
  | zero => intro l most r _ _ _ h; omega
  | succ n ih =>
    intro l most r h hl hn _
    have hlt := h.lt
    have hlen := h.len
    simp only [Rd.names]
    refine Tt.ite (fun hg => ?_) (fun hg => Tt.some ⟨.refl h, Nat.le_succ_of_le hl, fun _ => Nat.le_refl _, fun _ => hl⟩)
    refine (name_t h _).bind fun p hp => (push_t (by omega) (by decide)).bind fun l' hl' => ?_
    subst hl'
    refine (take_t hp.1.to.ok _).bind fun q hq => Tt.ite (fun hc => ?_) (fun hc => ?_)
    · have hqf : q.1 = false := by simpa using hc
      rw [hq.2.2 hqf]
      refine (want_t hp.1.to.ok _).bind fun r' hr' => Tt.some ⟨hp.1.trans hr'.1, ?_, fun hgo => ?_, fun hgo => ?_⟩
      · have := hp.1.to.i; have := hr'.1.to.i; simp; omega
      · have := hp.2 (hr'.1.to.g hgo); have := hr'.2 hgo; simp; omega
      · have := hp.2 (hr'.1.to.g hgo); have := hr'.2 hgo; simp; omega
    · have hqt : q.1 = true := by simpa using hc
      obtain ⟨e1, e2, e3⟩ := hq.2.1 hqt
      have hp2 := hp.2 e2
      have hl1 := hp.1.to.l
      have hl2 := hq.1.to.l
      have hi := hq.1.to.ok.lt
      rw [hl2, hl1] at hi
      refine (ih (l ++ [p.1]) most q.2 hq.1.to.ok (by simp; omega) (by rw [hl2, hl1]; omega) (by omega)).mono fun x hx => ⟨hp.1.trans (hq.1.trans hx.1), hx.2.1, fun hgo => ?_, hx.2.2.2⟩
      have := hx.2.2.1 hgo
      simp at this
      omega

theorem ahead_t {r : Rd} (h : r.Ok) (s : Str) : Tt (r.ahead s) fun b => b = true → r.i + 2 < r.l.length ∧ r.good = true := by
  have hlen := h.len
  unfold Rd.ahead
  refine Tt.ite (fun hg => ?_) (fun hg => Tt.some (by simp))
  refine (peek_t h).bind fun t ht => Tt.ite (fun hk => ?_) (fun hk => Tt.some (by simp))
  have h1 := ht.2.2.2 (by simp only [beq_iff_eq] at hk; omega)
  have hget : r.l[r.i + 1]? = some r.l[r.i + 1] := List.getElem?_eq_getElem h1
  have hi : r.i + 1 < 4611686018427387904 := by omega
  simp only [getO, hi, ↓reduceIte, hget, Option.bind_some]
  refine Tt.some fun hb => ⟨?_, hg⟩
  rcases Nat.lt_or_ge (r.i + 2) r.l.length with h2 | h2
  · exact h2
  · have : r.i + 1 = r.l.length - 1 := by omega
    have := h.last r.l[r.i + 1] (by rw [← this]; exact hget)
    simp [this] at hb

theorem labels_t : ∀ (n : Nat) (l : List Str) (r : Rd), r.Ok → l.length ≤ r.i → r.l.length - r.i ≤ n + 1 → 0 < n →
    Tt (Rd.labels n l r) fun p => r.ToE p.2 ∧ p.2.good = r.good ∧ p.1.length * 2 + r.i ≤ l.length * 2 + p.2.i := by
  intro n
  induction n with
  | zero => intro l r _ _ _ h; omega
  | succ n ih =>
    intro l r h hl hn _
    have hlt := h.lt
    have hlen := h.len
    simp only [Rd.labels]
    refine (ahead_t h _).bind fun b hb => Tt.ite (fun hc => ?_) (fun hc => Tt.some ⟨.refl h, rfl, Nat.le_refl _⟩)
    obtain ⟨h2, hg⟩ := hb hc
    refine (peek_t h).bind fun t ht => (push_t (by omega) (by decide)).bind fun l' hl' => ?_
    subst hl'
    have hok : ({ r with i := r.i + 2 } : Rd).Ok := ⟨h.k, h2, h.len, h.last, h.n1⟩
    have hto : r.ToE { r with i := r.i + 2 } := ⟨⟨hok, rfl, by dsimp only; omega, fun _ => hg, fun h' => by rw [hg] at h'; cases h'⟩, rfl⟩
    refine (ih (l ++ [t.text]) { r with i := r.i + 2 } hok (by simp; omega) (by dsimp only; omega) (by omega)).mono fun p hp => ⟨hto.trans hp.1, hp.2.1, ?_⟩
    have := hp.2.2
    simp at this ⊢
    omega

theorem begins_t {r : Rd} (h : r.Ok) : Tt r.begins fun b => b = true → r.i + 1 < r.l.length := by
  unfold Rd.begins
  refine (peek_t h).bind fun t ht => Tt.some fun hb => ht.2.2.2 fun hk => ?_
  simp [hk] at hb

theorem other_t {r : Rd} (h : r.Ok) (s : Str) : Tt (r.other s) fun b => b = true → r.good = true := by
  unfold Rd.other
  exact Tt.ite (fun hg => (is_t h s).bind fun b hb => Tt.some fun _ => hg) (fun hg => Tt.some (by simp))

theorem Ar.sizes_app (l : List Ar) (a : Ar) : Ar.sizes (l ++ [a]) = Ar.sizes l + (1 + a.x.size) := by
  induction l with
  | nil => simp [Ar.sizes]
  | cons b l ih => simp only [List.cons_append, Ar.sizes, ih]; omega
theorem Sm.sizes_app (l : List Sm) (a : Sm) : Sm.sizes (l ++ [a]) = Sm.sizes l + (1 + a.size) := by
  induction l with
  | nil => simp [Sm.sizes]
  | cons b l ih => simp only [List.cons_append, Sm.sizes, ih]; omega
theorem Pc.sizes_app (l : List Pc) (a : Pc) : Pc.sizes (l ++ [a]) = Pc.sizes l + (1 + a.size) := by
  induction l with
  | nil => simp [Pc.sizes]
  | cons b l ih => simp only [List.cons_append, Pc.sizes, ih]; omega

theorem callL_t {m : Nat} (hm : 6006 ≤ m) : ∀ (n : Nat) (l : List Ar) (r : Rd), r.Ok → l.length ≤ r.i → r.l.length - r.i ≤ n + 1 → 0 < n →
    Tt (Rd.callL m n l r) fun p => r.ToE p.2 ∧ (p.2.good = true → Ar.sizes p.1 + 8 * r.i ≤ Ar.sizes l + 8 * p.2.i) := by
  intro n
  induction n with
  | zero => intro l r _ _ _ h; omega
  | succ n ih =>
    intro l r h hl hn _
    have hlt := h.lt
    have hlen := h.len
    simp only [Rd.callL]
    refine Tt.ite (fun hg => ?_) (fun hg => Tt.some ⟨.refl h, fun _ => Nat.le_refl _⟩)
    have rest : ∀ (a : Ar) (r1 : Rd), r.ToE r1 → (r1.good = true → a.x.size + 1 + 8 * r.i ≤ 8 * r1.i ∧ r.i < r1.i) →
        Tt ((push 81 l a).bind fun l => (r1.take [44]).bind fun c => if !c.1 then some (l, c.2) else Rd.callL m n l c.2) fun p => r.ToE p.2 ∧ (p.2.good = true → Ar.sizes p.1 + 8 * r.i ≤ Ar.sizes l + 8 * p.2.i) := by
      intro a r1 h1 hs
      refine (push_t (by omega) (by decide)).bind fun l' hl' => ?_
      subst hl'
      refine (take_t h1.to.ok _).bind fun q hq => Tt.ite (fun hc => ?_) (fun hc => ?_)
      · have hqf : q.1 = false := by simpa using hc
        rw [hq.2.2 hqf]
        refine Tt.some ⟨h1, fun hgo => ?_⟩
        have := hs hgo
        rw [Ar.sizes_app]
        dsimp only
        omega
      · have hqt : q.1 = true := by simpa using hc
        obtain ⟨e1, e2, e3⟩ := hq.2.1 hqt
        have h2 := hs e2
        have hl1 := h1.to.l
        have hl2 := hq.1.to.l
        have hi := hq.1.to.ok.lt
        rw [hl2, hl1] at hi
        refine (ih (l ++ [a]) q.2 hq.1.to.ok (by simp; omega) (by rw [hl2, hl1]; omega) (by omega)).mono fun x hx => ⟨h1.trans (hq.1.trans hx.1), fun hgo => ?_⟩
        have := hx.2 hgo
        rw [Ar.sizes_app] at this
        omega
    refine (take_t h _).bind fun p hp => Tt.ite (fun hc => ?_) (fun hc => ?_)
    · obtain ⟨e1, e2, e3⟩ := hp.2.1 hc
      refine (name_t hp.1.to.ok _).bind fun x hx => rest _ _ (hp.1.trans hx.1) fun hgo => ?_
      have := hx.2 hgo
      simp only [ex0_size]
      omega
    · have hpf : p.1 = false := by simpa using hc
      rw [hp.2.2 hpf]
      refine (whole_t h hm).bind fun x hx => rest _ _ hx.1 fun hgo => ?_
      have := hx.2 hgo
      dsimp only
      omega

def StT (r : Rd) (p : Sm × Rd) : Prop := r.ToE p.2 ∧ (p.2.good = true → p.1.size + 1 + 8 * r.i ≤ 8 * p.2.i)

theorem sm_size0 (id kind : Int) (labels : List Str) (name proc : Str) (x : Ex) (has : Bool) (args : List Ar) (thn els : List Sm) :
    Sm.size ⟨id, kind, labels, name, proc, x, has, args, thn, els⟩ = 1 + labels.length + x.size + Ar.sizes args + Sm.sizes thn + Sm.sizes els := by simp only [Sm.size]

theorem call_t {m : Nat} (hm : 6006 ≤ m) {name proc : Str} {r : Rd} (h : r.Ok) : Tt (Rd.call m name proc r) (StT r) := by
  unfold Rd.call
  refine (want_t h _).bind fun r1 h1 => (other_t h1.1.to.ok _).bind fun b hb => Tt.ite (fun hc => ?_) (fun hc => ?_)
  · have hlen := h1.1.to.ok.len
    refine (callL_t hm m [] r1 h1.1.to.ok (Nat.zero_le _) (by omega) (by omega)).bind fun q hq => (want_t hq.1.to.ok _).bind fun r2 h2 => (want_t h2.1.to.ok _).bind fun r3 h3 => Tt.some ⟨h1.1.trans (hq.1.trans (h2.1.trans h3.1)), fun hgo => ?_⟩
    have g2 := h3.1.to.g hgo
    have gq := h2.1.to.g g2
    have g1 := hq.1.to.g gq
    have a1 := h1.2 g1
    have a2 := h2.2 g2
    have a3 := h3.2 hgo
    have a4 := hq.2 gq
    simp only [sm_size0, ex0_size, Ar.sizes, Sm.sizes, List.length_nil] at a4 ⊢
    omega
  · refine (want_t h1.1.to.ok _).bind fun r2 h2 => (want_t h2.1.to.ok _).bind fun r3 h3 => Tt.some ⟨h1.1.trans (h2.1.trans h3.1), fun hgo => ?_⟩
    have g2 := h3.1.to.g hgo
    have a1 := h1.2 (h2.1.to.g g2)
    have a2 := h2.2 g2
    have a3 := h3.2 hgo
    simp only [sm_size0, ex0_size, Ar.sizes, Sm.sizes, List.length_nil]
    omega

theorem named_t {m : Nat} (hm : 6006 ≤ m) {r : Rd} (h : r.Ok) : Tt (Rd.named m r) (StT r) := by
  unfold Rd.named
  refine (name_t h _).bind fun x hx => (is_t hx.1.to.ok _).bind fun b hb => Tt.ite (fun hc => ?_) (fun hc => ?_)
  · refine (call_t hm hx.1.to.ok).mono fun p hp => ⟨hx.1.trans hp.1, fun hgo => ?_⟩
    have := hp.2 hgo
    have := hx.1.to.i
    omega
  · refine (want_t hx.1.to.ok _).bind fun r1 h1 => (ahead_t h1.1.to.ok _).bind fun b2 hb2 => Tt.ite (fun hc => ?_) (fun hc => ?_)
    · refine (name_t h1.1.to.ok _).bind fun y hy => (call_t hm hy.1.to.ok).mono fun p hp => ⟨hx.1.trans (h1.1.trans (hy.1.trans hp.1)), fun hgo => ?_⟩
      have := hp.2 hgo
      have := hx.1.to.i
      have := h1.1.to.i
      have := hy.1.to.i
      omega
    · refine (whole_t h1.1.to.ok hm).bind fun y hy => (want_t hy.1.to.ok _).bind fun r2 h2 => Tt.some ⟨hx.1.trans (h1.1.trans (hy.1.trans h2.1)), fun hgo => ?_⟩
      have gy := h2.1.to.g hgo
      have a1 := h2.2 hgo
      have a2 := hy.2 gy
      have a3 := h1.1.to.i
      have a4 := hx.1.to.i
      simp only [sm_size0, Ar.sizes, Sm.sizes, List.length_nil]
      omega

/-- A statement without its semicolon, its word gone past. -/
theorem plain_t {m : Nat} (hm : 6006 ≤ m) (word : Str) {r : Rd} (h : r.Ok) : Tt (Rd.plain m word r) fun p => r.ToE p.2 ∧ (p.2.good = true → p.1.size + 8 * r.i ≤ 2 + 8 * p.2.i) := by
  unfold Rd.plain
  have z : ∀ (k : Int) (nm : Str) (b : Bool), Sm.size ⟨0, k, [], nm, [], ex0, b, [], [], []⟩ = 2 := fun k nm b => by simp only [sm_size0, ex0_size, Ar.sizes, Sm.sizes, List.length_nil]
  refine Tt.ite (fun _ => Tt.some ⟨.refl h, fun _ => by rw [z]; dsimp only; omega⟩) (fun _ => Tt.ite (fun _ => Tt.some ⟨.refl h, fun _ => by rw [z]; dsimp only; omega⟩) (fun _ => Tt.ite (fun _ => ?_) (fun _ => Tt.ite (fun _ => ?_) (fun _ => Tt.ite (fun _ => ?_) (fun _ => Tt.ite (fun _ => ?_) (fun _ => ?_))))))
  · refine (is_t h _).bind fun b hb => Tt.ite (fun hc => ?_) (fun hc => Tt.some ⟨.refl h, fun _ => by rw [z]; dsimp only; omega⟩)
    refine (whole_t h hm).bind fun x hx => Tt.some ⟨hx.1, fun hgo => ?_⟩
    have := hx.2 hgo
    simp only [sm_size0, Ar.sizes, Sm.sizes, List.length_nil]
    omega
  · refine (name_t h _).bind fun x hx => Tt.some ⟨hx.1, fun hgo => ?_⟩
    have := hx.1.to.i
    rw [z]; dsimp only; omega
  · refine (name_t h _).bind fun x hx => Tt.some ⟨hx.1, fun hgo => ?_⟩
    have := hx.1.to.i
    rw [z]; dsimp only; omega
  · refine (whole_t h hm).bind fun x hx => Tt.some ⟨hx.1, fun hgo => ?_⟩
    have := hx.2 hgo
    simp only [sm_size0, Ar.sizes, Sm.sizes, List.length_nil]
    omega
  · exact Tt.some ⟨.refl h, fun _ => by simp only [sm0, sm_size0, ex0_size, Ar.sizes, Sm.sizes, List.length_nil]; omega⟩

theorem head_t {m : Nat} (hm : 6006 ≤ m) {r : Rd} (h : r.Ok) : Tt (Rd.head m r) fun p => r.ToE p.2 ∧ (p.2.good = true → p.1.size + 4 * r.i ≤ 4 * p.2.i) := by
  unfold Rd.head
  refine (want_t h _).bind fun r1 h1 => (whole_t h1.1.to.ok hm).bind fun x hx => (want_t hx.1.to.ok _).bind fun r2 h2 => Tt.some ⟨h1.1.trans (hx.1.trans h2.1), fun hgo => ?_⟩
  have gx := h2.1.to.g hgo
  have := hx.2 gx
  have := h2.2 hgo
  have := h1.1.to.i
  dsimp only
  omega

end Go.Abs

/-! Tot3 -/

namespace Go.Abs
set_option linter.unusedSimpArgs false
set_option linter.unusedVariables false

theorem incI_t {n : Int} (h1 : -1000000 < n) (h2 : n < 1000000) : incI n = some (n + 1) := by
  simp only [incI]; rw [if_pos (by omega)]
theorem inc_t {n : Nat} (h : n ≤ 201) : inc n = some (n + 1) := by
  simp only [inc]; rw [if_pos (by omega)]

/-- What statements leave. -/
structure StQ (r r' : Rd) : Prop where
  to : r.To r'
  n : r'.good = true → r'.n ≤ 200

theorem Rd.ToE.q {r r' : Rd} (h : r.ToE r') (hn : r.good = true → r.n ≤ 200) : StQ r r' := ⟨h.to, fun g => by rw [h.n]; exact hn (h.to.g g)⟩
theorem StQ.trans {a b c : Rd} (h : StQ a b) (k : StQ b c) : StQ a c := ⟨h.to.trans k.to, k.n⟩

def RowsT (r : Rd) (p : (List Sm × List Str) × Rd) : Prop := StQ r p.2 ∧ (p.2.good = true → Sm.sizes p.1.1 + p.1.2.length + 8 * r.i ≤ 8 * p.2.i)

theorem stmts_t {m : Nat} (hm : 6006 ≤ m) : ∀ n : Nat,
    (∀ (r : Rd) (nest : Int), r.Ok → r.n ≤ 200 → r.good = true → -100000 < nest → nest < 100000 - n → 5 * (r.l.length - r.i) + 1 ≤ n → Tt (Rd.stmt m n nest r) fun p => StQ r p.2 ∧ (p.2.good = true → p.1.size + 1 + 8 * r.i ≤ 8 * p.2.i)) ∧
    (∀ (r : Rd) (nest : Int) (body : Bool) (out : List Sm), r.Ok → (r.good = true → r.n ≤ 200) → out.length ≤ r.i → -100000 < nest → nest < 100000 - n → 5 * (r.l.length - r.i) + 2 ≤ n →
      Tt (Rd.rowsL m n nest body out r) fun p => StQ r p.2 ∧ (p.2.good = true → Sm.sizes p.1.1 + p.1.2.length + 8 * r.i ≤ Sm.sizes out + 8 * p.2.i)) ∧
    (∀ (r : Rd) (nest : Int) (body : Bool), r.Ok → (r.good = true → r.n ≤ 200) → -100000 < nest → nest < 100000 - n → 5 * (r.l.length - r.i) + 3 ≤ n → Tt (Rd.rows m n nest body r) (RowsT r)) ∧
    (∀ (r : Rd) (nest : Int), r.Ok → (r.good = true → r.n ≤ 200) → -100000 < nest → nest < 100000 - n → 5 * (r.l.length - r.i) + 4 ≤ n → Tt (Rd.block m n nest r) fun p => StQ r p.2 ∧ (p.2.good = true → Sm.sizes p.1 + 8 * r.i ≤ 8 * p.2.i)) ∧
    (∀ (r : Rd) (nest : Int), r.Ok → (r.good = true → r.n ≤ 200) → -100000 < nest → nest < 100000 - n → 5 * (r.l.length - r.i) + 5 ≤ n → Tt (Rd.choice m n nest r) fun p => StQ r p.2 ∧ (p.2.good = true → p.1.size + 8 * r.i ≤ 2 + 8 * p.2.i)) := by
  intro n
  induction n with
  | zero => exact ⟨fun r k _ _ _ _ _ h => by omega, fun r k b o _ _ _ _ _ h => by omega, fun r k b _ _ _ _ h => by omega, fun r k _ _ _ _ h => by omega, fun r k _ _ _ _ h => by omega⟩
  | succ n ih =>
  obtain ⟨ih1, ih2, ih3, ih4, ih5⟩ := ih
  refine ⟨fun r nest h h200 hg hk1 hk2 hn => ?_, fun r nest body out h h200 hout hk1 hk2 hn => ?_, fun r nest body h h200 hk1 hk2 hn => ?_, fun r nest h h200 hk1 hk2 hn => ?_, fun r nest h h200 hk1 hk2 hn => ?_⟩
  · have hlt := h.lt
    simp only [Rd.stmt]
    refine (begins_t h).bind fun b hb => Tt.ite (fun hc => ?_) (fun hc => ?_)
    · exact (bad_t h (by decide)).bind fun r' hr => Tt.some ⟨hr.1.q fun _ => h200, fun hg => by rw [hr.2.1] at hg; cases hg⟩
    have hi1 := hb (by simpa using hc)
    rw [inc_t h.n1, Option.bind_some]
    have hok : ({ r with n := r.n + 1 } : Rd).Ok := ⟨h.k, h.lt, h.len, h.last, by dsimp only; omega⟩
    have hto : r.To { r with n := r.n + 1 } := ⟨hok, rfl, Nat.le_refl _, fun h' => h', fun h' => by rw [hg] at h'; cases h'⟩
    refine Tt.ite (fun hc2 => ?_) (fun hc2 => ?_)
    · exact (bad_t hok (by decide)).bind fun r' hr => Tt.some ⟨⟨hto.trans hr.1.to, fun hg => by rw [hr.2.1] at hg; cases hg⟩, fun hg => by rw [hr.2.1] at hg; cases hg⟩
    have hk : r.n + 1 ≤ 200 := by
      simp only [Bool.or_eq_true, decide_eq_true_eq, not_or] at hc2
      omega
    refine (peek_t hok).bind fun t ht => Tt.ite (fun hc3 => ?_) (fun hc3 => ?_)
    · refine (named_t hm hok).mono fun p hp => ⟨⟨hto.trans hp.1.to, fun _ => by rw [hp.1.n]; exact hk⟩, fun hgo => ?_⟩
      have := hp.2 hgo
      dsimp only at this
      omega
    have hok2 : ({ r with n := r.n + 1, i := r.i + 1 } : Rd).Ok := ⟨h.k, hi1, h.len, h.last, by dsimp only; omega⟩
    have hto2 : r.To { r with n := r.n + 1, i := r.i + 1 } := ⟨hok2, rfl, Nat.le_succ _, fun h' => h', fun h' => by rw [hg] at h'; cases h'⟩
    refine Tt.ite (fun hc4 => ?_) (fun hc4 => Tt.ite (fun hc5 => ?_) (fun hc5 => ?_))
    · refine (ih5 _ nest hok2 (fun _ => hk) hk1 (by omega) (by dsimp only; omega)).mono fun p hp => ⟨⟨hto2.trans hp.1.to, hp.1.n⟩, fun hgo => ?_⟩
      have := hp.2 hgo
      dsimp only at this
      omega
    · refine (head_t hm hok2).bind fun x hx => ?_
      have hl := hx.1.to.l
      have hi := hx.1.to.i
      have hl3 := hx.1.to.ok.lt
      dsimp only at hl hi
      refine (ih4 x.2 nest hx.1.to.ok (fun _ => by rw [hx.1.n]; exact hk) hk1 (by omega) (by rw [hl] at hl3 ⊢; omega)).bind fun b hb => Tt.some ⟨⟨hto2.trans (hx.1.to.trans hb.1.to), hb.1.n⟩, fun hgo => ?_⟩
      have a1 := hb.2 hgo
      have a2 := hx.2 (hb.1.to.g hgo)
      simp only [sm_size0, Ar.sizes, Sm.sizes, List.length_nil]
      dsimp only at a2
      omega
    · refine (plain_t hm _ hok2).bind fun s hs => (want_t hs.1.to.ok _).bind fun r2 h2 => Tt.some ⟨⟨hto2.trans (hs.1.to.trans h2.1.to), fun _ => by rw [h2.1.n, hs.1.n]; exact hk⟩, fun hgo => ?_⟩
      have a1 := h2.2 hgo
      have a2 := hs.2 (h2.1.to.g hgo)
      dsimp only at a2 ⊢
      omega
  · have hlt := h.lt
    have hlen := h.len
    simp only [Rd.rowsL]
    refine Tt.ite (fun hg => ?_) (fun hg => Tt.some ⟨⟨.refl h, h200⟩, fun hg' => absurd hg' hg⟩)
    refine (labels_t m [] r h (Nat.zero_le _) (by omega) (by omega)).bind fun l hl => ?_
    have hl1 := hl.1.to.l
    have hl2 := hl.1.to.i
    have hl3 := hl.2.2
    have hl4 := hl.1.to.ok.lt
    have hlg : l.2.good = true := by rw [hl.2.1]; exact hg
    have hln : l.2.n ≤ 200 := by rw [hl.1.n]; exact h200 hg
    simp only [List.length_nil, Nat.zero_mul, Nat.zero_add] at hl3
    rw [hl1] at hl4
    refine (is_t hl.1.to.ok _).bind fun b hb => Tt.ite (fun hc => ?_) (fun hc => ?_)
    · have hbt : b = true := by simp only [Bool.and_eq_true] at hc; exact hc.1
      have hon := Rd.ToE.on hl.1.to.ok hlg (hb hbt)
      refine Tt.some ⟨(hl.1.trans hon).q h200, fun hgo => ?_⟩
      dsimp only
      omega
    · refine (ih1 l.2 nest hl.1.to.ok hln hlg hk1 (by omega) (by rw [hl1]; omega)).bind fun s hs => (push_t (by omega) (by decide)).bind fun out' ho' => ?_
      subst ho'
      have hq : StQ r s.2 := (hl.1.q h200).trans hs.1
      cases hgs : s.2.good with
      | false =>
        cases n with
        | zero => omega
        | succ n =>
          have e : Rd.rowsL m (n + 1) nest body (out ++ [{ s.1 with labels := l.1 }]) s.2 = some (([], []), s.2) := by
            simp only [Rd.rowsL, hgs, Bool.false_eq_true, ↓reduceIte]
          rw [e]
          exact Tt.some ⟨hq, fun hg' => by rw [hgs] at hg'; cases hg'⟩
      | true =>
        have a1 := hs.2 hgs
        have hs1 := hs.1.to.l
        have hs2 := hs.1.to.ok.lt
        rw [hs1, hl1] at hs2
        refine (ih2 s.2 nest body _ hs.1.to.ok hs.1.n (by simp; omega) hk1 (by omega) (by rw [hs1, hl1]; omega)).mono fun p hp => ⟨hq.trans hp.1, fun hgo => ?_⟩
        have a2 := hp.2 hgo
        rw [Sm.sizes_app] at a2
        have a3 : Sm.size ⟨s.1.id, s.1.kind, l.1, s.1.name, s.1.proc, s.1.x, s.1.has, s.1.args, s.1.thn, s.1.els⟩ ≤ s.1.size + l.1.length := by
          obtain ⟨s1, s2⟩ := s
          cases s1
          simp only [Sm.size]
          omega
        omega
  · simp only [Rd.rows]
    refine (ih2 r nest body [] h h200 (Nat.zero_le _) hk1 (by omega) (by omega)).mono fun p hp => ⟨hp.1, fun hgo => ?_⟩
    have := hp.2 hgo
    simp only [Sm.sizes] at this
    omega
  · have hlt := h.lt
    simp only [Rd.block]
    refine (want_t h _).bind fun r1 h1 => ?_
    have hl := h1.1.to.l
    have hi := h1.1.to.i
    have hl2 := h1.1.to.ok.lt
    rw [hl] at hl2
    rw [incI_t (by omega) (by omega), Option.bind_some]
    refine (ih3 r1 (nest + 1) false h1.1.to.ok (h1.1.q h200).n (by omega) (by omega) (by rw [hl]; omega)).bind fun p hp => Tt.some ⟨(h1.1.q h200).trans hp.1, fun hgo => ?_⟩
    have := hp.2 hgo
    dsimp only
    omega
  · have hlt := h.lt
    simp only [Rd.choice]
    refine (head_t hm h).bind fun x hx => ?_
    have hl := hx.1.to.l
    have hi := hx.1.to.i
    have hl2 := hx.1.to.ok.lt
    rw [hl] at hl2
    refine (ih4 x.2 nest hx.1.to.ok (hx.1.q h200).n hk1 (by omega) (by rw [hl]; omega)).bind fun t ht => (take_t ht.1.to.ok _).bind fun q hq => Tt.ite (fun hc => ?_) (fun hc => ?_)
    · have hlt1 := ht.1.to.l
      have hit1 := ht.1.to.i
      have hq1 := hq.1.to.l
      have hq2 := hq.1.to.i
      have hq3 := hq.1.to.ok.lt
      rw [hq1, hlt1, hl] at hq3
      refine (ih4 q.2 nest hq.1.to.ok (hq.1.q ht.1.n).n hk1 (by omega) (by rw [hq1, hlt1, hl]; omega)).bind fun e he => Tt.some ⟨(hx.1.q h200).trans (ht.1.trans ((hq.1.q ht.1.n).trans he.1)), fun hgo => ?_⟩
      have g1 := he.1.to.g hgo
      have g2 := hq.1.to.g g1
      have g3 := ht.1.to.g g2
      have a1 := he.2 hgo
      have a2 := ht.2 g2
      have a3 := hx.2 g3
      simp only [sm_size0, Ar.sizes, List.length_nil]
      omega
    · have hqf : q.1 = false := by simpa using hc
      rw [hq.2.2 hqf]
      refine Tt.some ⟨(hx.1.q h200).trans ht.1, fun hgo => ?_⟩
      have a2 := ht.2 hgo
      have a3 := hx.2 (ht.1.to.g hgo)
      simp only [sm_size0, Ar.sizes, Sm.sizes, List.length_nil]
      omega

theorem rows_t {m n : Nat} (hm : 6006 ≤ m) {r : Rd} {body : Bool} (h : r.Ok) (h200 : r.good = true → r.n ≤ 200) (hn : 10010 ≤ n) (hn2 : n ≤ 90000) : Tt (Rd.rows m n 1 body r) (RowsT r) := by
  have := h.len
  exact (stmts_t hm n).2.2.1 r 1 body h h200 (by omega) (by omega) (by omega)

theorem params_t : ∀ (n : Nat) (l : List Pm) (r : Rd), r.Ok → l.length ≤ r.i → r.l.length - r.i ≤ n + 1 → 0 < n →
    Tt (Rd.params n l r) fun p => r.ToE p.2 ∧ (p.2.good = true → p.1.length + r.i ≤ l.length + p.2.i) := by
  intro n
  induction n with
  | zero => intro l r _ _ _ h; omega
  | succ n ih =>
    intro l r h hl hn _
    have hlt := h.lt
    have hlen := h.len
    simp only [Rd.params]
    refine Tt.ite (fun hg => ?_) (fun hg => Tt.some ⟨.refl h, fun _ => Nat.le_refl _⟩)
    refine (take_t h _).bind fun q hq => (name_t hq.1.to.ok _).bind fun x hx => (push_t (by omega) (by decide)).bind fun l' hl' => ?_
    subst hl'
    have hqi := hq.1.to.i
    refine (take_t hx.1.to.ok _).bind fun c hc => Tt.ite (fun hcc => ?_) (fun hcc => ?_)
    · have hcf : c.1 = false := by simpa using hcc
      rw [hc.2.2 hcf]
      refine Tt.some ⟨hq.1.trans hx.1, fun hgo => ?_⟩
      have := hx.2 hgo
      simp; omega
    · have hct : c.1 = true := by simpa using hcc
      obtain ⟨e1, e2, e3⟩ := hc.2.1 hct
      have h2 := hx.2 e2
      have l1 := hq.1.to.l
      have l2 := hx.1.to.l
      have l3 := hc.1.to.l
      have hi := hc.1.to.ok.lt
      rw [l3, l2, l1] at hi
      refine (ih _ c.2 hc.1.to.ok (by simp; omega) (by rw [l3, l2, l1]; omega) (by omega)).mono fun p hp => ⟨hq.1.trans (hx.1.trans (hc.1.trans hp.1)), fun hgo => ?_⟩
      have := hp.2 hgo
      simp at this
      omega

theorem vars_t {m : Nat} (hm : 6006 ≤ m) : ∀ (n : Nat) (l : List Str) (r : Rd), r.Ok → l.length ≤ r.i → r.l.length - r.i + 1 ≤ n →
    Tt (Rd.vars m n l r) fun p => r.ToE p.2 ∧ (p.2.good = true → p.1.length + r.i ≤ l.length + p.2.i) := by
  intro n
  induction n with
  | zero => intro l r _ _ h; omega
  | succ n ih =>
    intro l r h hl hn
    have hlt := h.lt
    have hlen := h.len
    simp only [Rd.vars]
    refine (take_t h _).bind fun q hq => Tt.ite (fun hc => ?_) (fun hc => ?_)
    · obtain ⟨e1, e2, e3⟩ := hq.2.1 hc
      have l1 := hq.1.to.l
      have hi := hq.1.to.ok.lt
      rw [l1] at hi
      refine (names_t m l 16 q.2 hq.1.to.ok (by omega) (by rw [l1]; omega) (by omega)).bind fun x hx => ?_
      have l2 := hx.1.to.l
      have i2 := hx.1.to.i
      have hi2 := hx.1.to.ok.lt
      rw [l2, l1] at hi2
      cases hgx : x.2.good with
      | false =>
        cases n with
        | zero => omega
        | succ n =>
          have e : Rd.vars m (n + 1) x.1 x.2 = some (x.1, x.2) := by
            simp only [Rd.vars, Rd.take, hgx, Bool.not_false, ↓reduceIte, Option.bind_some, Bool.false_eq_true]
          rw [e]
          exact Tt.some ⟨hq.1.trans hx.1, fun hg' => by rw [hgx] at hg'; cases hg'⟩
      | true =>
        refine (ih x.1 x.2 hx.1.to.ok (hx.2.2.2 hgx) (by rw [l2, l1]; omega)).mono fun p hp => ⟨hq.1.trans (hx.1.trans hp.1), fun hgo => ?_⟩
        have a1 := hp.2 hgo
        have a2 := hx.2.2.1 hgx
        omega
    · have hqf : q.1 = false := by simpa using hc
      rw [hq.2.2 hqf]
      exact Tt.some ⟨.refl h, fun _ => Nat.le_refl _⟩

theorem procB_t {m : Nat} (hm : 10010 ≤ m) (hm2 : m ≤ 90000) {name : Str} {ps : List Pm} {r : Rd} (h : r.Ok) (h200 : r.good = true → r.n ≤ 200) :
    Tt (Rd.procB m name ps r) fun p => StQ r p.2 ∧ (p.2.good = true → p.1.size + 8 * r.i ≤ 1 + ps.length + 8 * p.2.i) := by
  have hlen := h.len
  unfold Rd.procB
  refine (vars_t (by omega) m [] r h (Nat.zero_le _) (by omega)).bind fun v hv => (rows_t (by omega) hv.1.to.ok (hv.1.q h200).n hm hm2).bind fun b hb => Tt.some ⟨(hv.1.q h200).trans hb.1, fun hgo => ?_⟩
  have a1 := hb.2 hgo
  have a2 := hv.2 (hb.1.to.g hgo)
  have a3 := hv.1.to.i
  simp only [Pc.size, List.length_nil] at a2 ⊢
  omega

theorem proc_t {m : Nat} (hm : 10010 ≤ m) (hm2 : m ≤ 90000) {r : Rd} (h : r.Ok) (h200 : r.good = true → r.n ≤ 200) :
    Tt (Rd.proc m r) fun p => StQ r p.2 ∧ (p.2.good = true → p.1.size + 1 + 8 * r.i ≤ 8 * p.2.i) := by
  have hlen := h.len
  unfold Rd.proc
  refine (name_t h _).bind fun x hx => (want_t hx.1.to.ok _).bind fun r1 h1 => (other_t h1.1.to.ok _).bind fun b hb => Tt.ite (fun hc => ?_) (fun hc => ?_)
  · have l1 := h1.1.to.ok.len
    refine (params_t m [] r1 h1.1.to.ok (Nat.zero_le _) (by omega) (by omega)).bind fun q hq => (want_t hq.1.to.ok _).bind fun r2 h2 => (want_t h2.1.to.ok _).bind fun r3 h3 => ?_
    have q3 : StQ r r3 := (hx.1.q h200).trans ((h1.1.q (hx.1.q h200).n).trans ((hq.1.q (h1.1.q (hx.1.q h200).n).n).trans ((h2.1.q (hq.1.q (h1.1.q (hx.1.q h200).n).n).n).trans (h3.1.q (h2.1.q (hq.1.q (h1.1.q (hx.1.q h200).n).n).n).n))))
    refine (procB_t hm hm2 h3.1.to.ok q3.n).mono fun p hp => ⟨q3.trans hp.1, fun hgo => ?_⟩
    have g3 := hp.1.to.g hgo
    have g2 := h3.1.to.g g3
    have gq := h2.1.to.g g2
    have g1 := hq.1.to.g gq
    have gx := h1.1.to.g g1
    have a0 := hx.2 gx
    have a1 := h1.2 g1
    have a2 := hq.2 gq
    have a3 := h2.2 g2
    have a4 := h3.2 g3
    have a5 := hp.2 hgo
    simp only [List.length_nil] at a2
    omega
  · refine (want_t h1.1.to.ok _).bind fun r2 h2 => (want_t h2.1.to.ok _).bind fun r3 h3 => ?_
    have q3 : StQ r r3 := (hx.1.q h200).trans ((h1.1.q (hx.1.q h200).n).trans ((h2.1.q (h1.1.q (hx.1.q h200).n).n).trans (h3.1.q (h2.1.q (h1.1.q (hx.1.q h200).n).n).n)))
    refine (procB_t hm hm2 h3.1.to.ok q3.n).mono fun p hp => ⟨q3.trans hp.1, fun hgo => ?_⟩
    have g3 := hp.1.to.g hgo
    have g2 := h3.1.to.g g3
    have g1 := h2.1.to.g g2
    have gx := h1.1.to.g g1
    have a0 := hx.2 gx
    have a1 := h1.2 g1
    have a3 := h2.2 g2
    have a4 := h3.2 g3
    have a5 := hp.2 hgo
    simp only [List.length_nil] at a5
    omega

theorem globals_t {m : Nat} (hm : 6006 ≤ m) : ∀ (n : Nat) (l : List Str) (r : Rd), r.Ok → l.length ≤ r.i → r.l.length - r.i + 1 ≤ n →
    Tt (Rd.globals m n l r) fun p => r.ToE p.2 ∧ (p.2.good = true → p.1.length + r.i ≤ l.length + p.2.i) := by
  intro n
  induction n with
  | zero => intro l r _ _ h; omega
  | succ n ih =>
    intro l r h hl hn
    have hlt := h.lt
    have hlen := h.len
    simp only [Rd.globals]
    refine (take_t h _).bind fun q hq => Tt.ite (fun hc => ?_) (fun hc => ?_)
    · obtain ⟨e1, e2, e3⟩ := hq.2.1 hc
      have l1 := hq.1.to.l
      have hi := hq.1.to.ok.lt
      rw [l1] at hi
      refine (names_t m l 16 q.2 hq.1.to.ok (by omega) (by rw [l1]; omega) (by omega)).bind fun x hx => ?_
      have l2 := hx.1.to.l
      have i2 := hx.1.to.i
      have hi2 := hx.1.to.ok.lt
      rw [l2, l1] at hi2
      cases hgx : x.2.good with
      | false =>
        cases n with
        | zero => omega
        | succ n =>
          have e : Rd.globals m (n + 1) x.1 x.2 = some (x.1, x.2) := by
            simp only [Rd.globals, Rd.take, hgx, Bool.not_false, ↓reduceIte, Option.bind_some, Bool.false_eq_true]
          rw [e]
          exact Tt.some ⟨hq.1.trans hx.1, fun hg' => by rw [hgx] at hg'; cases hg'⟩
      | true =>
        refine (ih x.1 x.2 hx.1.to.ok (hx.2.2.2 hgx) (by rw [l2, l1]; omega)).mono fun p hp => ⟨hq.1.trans (hx.1.trans hp.1), fun hgo => ?_⟩
        have a1 := hp.2 hgo
        have a2 := hx.2.2.1 hgx
        omega
    · have hqf : q.1 = false := by simpa using hc
      rw [hq.2.2 hqf]
      exact Tt.some ⟨.refl h, fun _ => Nat.le_refl _⟩

theorem isProc_t {r : Rd} (h : r.Ok) : Tt r.isProc fun b => b = true → r.good = true ∧ r.i + 1 < r.l.length := by
  unfold Rd.isProc
  exact Tt.ite (fun hg => (is_t h _).mono fun b hb hbt => ⟨hg, hb hbt⟩) (fun hg => Tt.some (by simp))
theorem notEnd_t {r : Rd} (h : r.Ok) : Tt r.notEnd fun b => b = true → r.good = true := by
  unfold Rd.notEnd
  exact Tt.ite (fun hg => (peek_t h).bind fun t _ => Tt.some fun _ => hg) (fun hg => Tt.some (by simp))

theorem procs_t {m : Nat} (hm : 10010 ≤ m) (hm2 : m ≤ 90000) : ∀ (n : Nat) (l : List Pc) (r : Rd), r.Ok → (r.good = true → r.n ≤ 200) → l.length ≤ r.i → r.l.length - r.i + 1 ≤ n →
    Tt (Rd.procs m n l r) fun p => StQ r p.2 ∧ (p.2.good = true → Pc.sizes p.1 + 8 * r.i ≤ Pc.sizes l + 8 * p.2.i) := by
  intro n
  induction n with
  | zero => intro l r _ _ _ h; omega
  | succ n ih =>
    intro l r h h200 hl hn
    have hlt := h.lt
    have hlen := h.len
    simp only [Rd.procs]
    have tail : ∀ r1 : Rd, r1.Ok → (r1.good = true → r1.n ≤ 200) → ∀ l1 : List Pc, Tt (r1.notEnd.bind fun b => if b then (r1.bad 3).bind fun r => some (l1, r) else some (l1, r1)) fun p => StQ r1 p.2 ∧ (p.2.good = true → Pc.sizes p.1 + 8 * r1.i ≤ Pc.sizes l1 + 8 * p.2.i) := by
      intro r1 hr1 hr2 l1
      refine (notEnd_t hr1).bind fun b hb => Tt.ite (fun hc => ?_) (fun hc => Tt.some ⟨(Rd.ToE.refl hr1).q hr2, fun _ => Nat.le_refl _⟩)
      exact (bad_t hr1 (by decide)).bind fun r' hr => Tt.some ⟨hr.1.q hr2, fun hg => by rw [hr.2.1] at hg; cases hg⟩
    refine (isProc_t h).bind fun b hb => Tt.ite (fun hc => ?_) (fun hc => tail r h h200 l)
    obtain ⟨hg, hi1⟩ := hb hc
    refine Tt.ite (fun hc2 => ?_) (fun hc2 => ?_)
    · exact (bad_t h (by decide)).bind fun r' hr => Tt.some ⟨hr.1.q h200, fun hg => by rw [hr.2.1] at hg; cases hg⟩
    have hon := Rd.ToE.on h hg hi1
    refine (proc_t hm hm2 hon.to.ok (hon.q h200).n).bind fun x hx => (push_t (by omega) (by decide)).bind fun l' hl' => ?_
    subst hl'
    have hq := (hon.q h200).trans hx.1
    have l2 := hx.1.to.l
    have i2 := hx.1.to.i
    have hi2 := hx.1.to.ok.lt
    dsimp only at l2 i2
    rw [l2] at hi2
    cases hgx : x.2.good with
    | false =>
      cases n with
      | zero => omega
      | succ n =>
        have e : Rd.procs m (n + 1) (l ++ [x.1]) x.2 = some (l ++ [x.1], x.2) := by
          simp only [Rd.procs, Rd.isProc, Rd.notEnd, hgx, ↓reduceIte, Option.bind_some, Bool.false_eq_true]
        rw [e]
        exact Tt.some ⟨hq, fun hg' => by rw [hgx] at hg'; cases hg'⟩
    | true =>
      have a0 := hx.2 hgx
      dsimp only at a0
      refine (ih (l ++ [x.1]) x.2 hx.1.to.ok hx.1.n (by simp; omega) (by rw [l2]; omega)).mono fun p hp => ⟨hq.trans hp.1, fun hgo => ?_⟩
      have a1 := hp.2 hgo
      rw [Pc.sizes_app] at a1
      omega

theorem program_t {m : Nat} (hm : 10010 ≤ m) (hm2 : m ≤ 90000) {r : Rd} (h : r.Ok) (h0 : r.i = 0) (hn : r.n = 0) : Tt (Rd.program m r) fun p => StQ r p.2 ∧ (p.2.good = true → p.1.size ≤ 1 + 9 * p.2.i) := by
  have hlen := h.len
  unfold Rd.program
  have h200 : r.good = true → r.n ≤ 200 := fun _ => by omega
  refine (globals_t (by omega) m [] r h (Nat.zero_le _) (by omega)).bind fun g hg => ?_
  have l1 := hg.1.to.l
  refine (procs_t hm hm2 m [] g.2 hg.1.to.ok (hg.1.q h200).n (Nat.zero_le _) (by rw [l1]; omega)).bind fun q hq => Tt.some ⟨(hg.1.q h200).trans hq.1, fun hgo => ?_⟩
  have a1 := hq.2 hgo
  have a2 := hg.2 (hq.1.to.g hgo)
  have a3 := hq.1.to.i
  simp only [Pg.size, Pc.sizes, List.length_nil] at a1 a2 ⊢
  omega

/-! ### The lexer's tokens -/

def TokOk (t : Tok) : Prop := 1 ≤ t.kind ∧ t.kind ≤ 4

theorem tokE_ok {pos : Nat} {s : Str} {t : Tok} (h : tokE pos s = .inl t) : TokOk t := by
  cases s with
  | nil => simp only [tokE] at h; cases h
  | cons c r =>
    simp only [tokE] at h
    split at h
    · split at h
      · cases h
      · cases h; simp only [TokOk]; split <;> omega
    · split at h
      · split at h
        · cases h
        · split at h
          · cases h; simp [TokOk]
          · cases h
      · split at h
        · cases h
        · cases h; simp [TokOk]

theorem lexF_ok : ∀ (n pos : Nat) (s : Str) (out : List Tok), s.length < n → out.length ≤ 2000 → (∀ t ∈ out, TokOk t) →
    (lexF n pos s out).2.1 = 0 → ∃ l e, (lexF n pos s out).1 = l ++ [e] ∧ e.kind = 0 ∧ l.length ≤ 2000 ∧ ∀ t ∈ l, TokOk t := by
  intro n
  induction n with
  | zero => intro pos s out h; omega
  | succ n ih =>
    intro pos s out hn ho hok h
    cases s with
    | nil => exact ⟨out, ⟨0, [], 0, pos⟩, by simp [lexF], rfl, ho, hok⟩
    | cons c r =>
      simp only [List.length_cons] at hn
      simp only [lexF] at h ⊢
      split
      · rename_i hb
        rw [if_pos hb] at h
        exact ih _ _ _ (by omega) ho hok h
      · rename_i hb
        rw [if_neg hb] at h
        split
        · rename_i hc
          rw [if_pos hc] at h
          have hpos : 0 < lineL (c :: r) := by
            have : ((c.toNat : Int) != 10) = true := by simp only [beq_iff_eq] at hc; simp [hc]
            simp [lineL, this]
          exact ih _ _ _ (by rw [List.length_drop, List.length_cons]; omega) ho hok h
        · rename_i hc
          rw [if_neg hc] at h
          cases ht : tokE pos (c :: r) with
          | inr e =>
            simp only [ht] at h
            exfalso
            have : e = 2 ∨ e = 4 := by
              simp only [tokE] at ht
              repeat' split at ht
              all_goals first | (cases ht; simp; done) | cases ht
            omega
          | inl t =>
            simp only [ht] at h ⊢
            split
            · rename_i h2
              rw [if_pos h2] at h
              cases h
            · rename_i h2
              rw [if_neg h2] at h
              have hpos : 0 < t.text.length := by
                have : ∀ s : Str, t.text = s → 0 < s.length → 0 < t.text.length := fun s e h => by rw [e]; exact h
                simp only [tokE] at ht
                cases hL : isL c
                · simp only [hL, Bool.false_eq_true, ↓reduceIte] at ht
                  cases hD : isD c
                  · simp only [hD, Bool.false_eq_true, ↓reduceIte] at ht
                    split at ht
                    · cases ht
                    · cases ht; simp only [List.length_take, List.length_cons]; omega
                  · have k0 : 0 < runD (c :: r) := by simp [runD, hD]
                    simp only [hD, ↓reduceIte] at ht
                    split at ht
                    · cases ht
                    · split at ht
                      · cases ht; simp only [List.length_take, List.length_cons]; omega
                      · cases ht
                · have k0 : 0 < runL (c :: r) := by simp [runL, hL]
                  simp only [hL, ↓reduceIte] at ht
                  split at ht
                  · cases ht
                  · cases ht; simp only [List.length_take, List.length_cons]; omega
              refine ih _ _ _ (by rw [List.length_drop, List.length_cons]; omega) (by simp; omega) ?_ h
              intro t' ht'
              rcases List.mem_append.1 ht' with h3 | h3
              · exact hok t' h3
              · simp at h3; subst h3; exact tokE_ok ht

theorem lexAll_ok {text : Str} (h : (lexAll text).2.1 = 0) : (rd0 (lexAll text).1).Ok := by
  unfold lexAll at h ⊢
  split at h
  · cases h
  · rename_i hl
    rw [if_neg hl]
    obtain ⟨l, e, h1, h2, h3, h4⟩ := lexF_ok _ 0 text [] (Nat.lt_succ_self _) (Nat.zero_le _) (by simp) h
    rw [h1]
    refine ⟨fun t ht => ?_, by simp [rd0], by simp [rd0]; omega, fun t ht => ?_, by simp [rd0]⟩
    · simp only [rd0] at ht
      rcases List.mem_append.1 ht with h5 | h5
      · have := h4 t h5; simp only [TokOk] at this; omega
      · simp at h5; subst h5; omega
    · simp only [rd0, List.length_append, List.length_singleton, Nat.add_sub_cancel] at ht
      rw [List.getElem?_append_right (Nat.le_refl _)] at ht
      simp at ht
      subst ht
      exact h2

/-! ### Texts -/

def fuelM : Nat := 20000

mutual
theorem Sm.num_size (b : Bool) (n : Nat) : ∀ s : Sm, (Sm.num b n s).1.size = s.size
  | ⟨id, kind, labels, name, proc, x, has, args, thn, els⟩ => by
    simp only [Sm.num, Sm.size, Sm.nums_size b _ thn, Sm.nums_size b _ els]
theorem Sm.nums_size (b : Bool) (n : Nat) : ∀ l : List Sm, Sm.sizes (Sm.nums b n l).1 = Sm.sizes l
  | [] => rfl
  | s :: l => by simp only [Sm.nums, Sm.sizes, Sm.num_size b _ s, Sm.nums_size b _ l]
end
theorem Pc.nums_size : ∀ (n : Nat) (l : List Pc), Pc.sizes (Pc.nums n l) = Pc.sizes l
  | n, [] => rfl
  | n, f :: l => by simp only [Pc.nums, Pc.sizes, Pc.size, Sm.nums_size, Pc.nums_size _ l]
theorem Pg.number_size (p : Pg) : p.number.size = p.size := by simp only [Pg.number, Pg.size, Pc.nums_size]

theorem parseM_t (text : Str) : Tt (parseM fuelM text) fun p => p.1.size < 100000 := by
  unfold parseM
  refine Tt.ite (fun hz => Tt.some (by simp [pg0, Pg.size, Pc.sizes])) (fun hz => ?_)
  have h0 : (lexAll text).2.1 = 0 := by simpa using hz
  have hok := lexAll_ok h0
  refine (program_t (by decide) (by decide) hok rfl rfl).bind fun p hp => Tt.ite (fun _ => Tt.some (by simp [pg0, Pg.size, Pc.sizes])) (fun hc => ?_)
  have hg : p.2.good = true := by simpa [Rd.good] using hc
  have hs := hp.2 hg
  have hi := hp.1.to.ok.lt
  have hl := hp.1.to.ok.len
  have : p.1.size < 1073741824 := by omega
  simp only [Pg.numberO, this, ↓reduceIte, Option.bind_some]
  refine Tt.some ?_
  rw [Pg.number_size]
  omega

end Go.Abs

/-! Parsed2 -/

namespace Go.Abs

set_option maxRecDepth 8000
set_option linter.unusedSimpArgs false
set_option linter.unusedVariables false
open Go.Proofs

theorem parse_source : parseM fuelM source = some (some0, 0, 0) := by kernel_rfl
theorem expr_one : exprM fuelM [49, 32, 43, 32, 97] = some (exTwo 8 (exNum 1) (exName [97]), 0, 0) := by kernel_rfl
theorem source_len : source.length < 4611686018427387904 := by simp [source]
theorem one_len : ([49, 32, 43, 32, 97] : Str).length < 4611686018427387904 := by decide
theorem some0_ble : Nat.ble (some0.size + 1) 1000 = true := by kernel_rfl
theorem some0_size : some0.size < 1073741824 := Nat.lt_of_lt_of_le (Nat.le_of_ble_eq_true some0_ble) (Nat.le_of_ble_eq_true rfl)

theorem parsed_0 (s : St) : Fun Try.prog n_law4_parsed [] s (.bool true) s := by
  refine Fun.pure ?_ rfl rfl s
  have h1 := fun s => Parse_s parse_source source_len s
  have h2 := fun s => Expr_s expr_one one_len s
  have h3 := fun s => Eq_s (b := some0) some0_size s
  rw [Pg.beq_refl] at h3
  have z0 : ((0 : Int) == 0) = true := rfl
  have z8 : ((8 : Int) == 8) = true := rfl
  have z2 : ((2 : Int) == 2) = true := rfl
  unfold S0
  refine Fun.go has_law4_parsed rfl fun B Q hB hQ => ?_
  have hlt : 0 < 1 := Nat.zero_lt_one
  have hget : 0 < 1 := Nat.zero_lt_one
  have hpu : 0 < 1 := Nat.zero_lt_one
  have hinc : 0 < 1 := Nat.zero_lt_one
  repeat' (first
 | simp only [go_sem, hlt, hget, hpu, hinc, Int.reduceLE, ↓reduceIte, reduceCtorEq, Nat.reduceEqDiff, Nat.reduceLeDiff, Nat.reduceAdd, Nat.reduceMul, Nat.reduceSub, Nat.reduceLT, z0, z8, z2, exTwo, Int.cast_ofNat_Int]
 | (with_reducible refine CU (Source_s _) ?_)
 | (with_reducible refine CU (Some_s _) ?_)
 | (with_reducible refine CU (h1 _) ?_)
 | (with_reducible refine CU (h2 _) ?_)
 | (with_reducible refine CU (h3 _) ?_)
 | (with_reducible first | refine CB_ofT (by assumption) fun hc => ?_ | refine CB_ofF (by assumption) fun hc => ?_ | refine CB_split (fun hc => ?_) fun hc => ?_) <;> (try simp only [hc, bs, ↓reduceIte] at h) <;> (try simp only [hc])
 | ((with_reducible first | refine leafR hQ ?_ | refine leafN hQ ?_); (try cases h); simp only [resL, oneD, Option.some.injEq, exists_eq_left', go_sem, hlt, hget, hpu, hinc, Int.reduceLE, ↓reduceIte, reduceCtorEq, Nat.reduceEqDiff, Nat.reduceLeDiff, Nat.reduceAdd, Nat.reduceMul, Nat.reduceSub, Nat.reduceLT, z0, z8, z2, exTwo, Int.cast_ofNat_Int]; repeat' (first | exact Ok.out | with_reducible refine And.intro ?_ ?_ | (simp; done)))
 | (cases h; replace h := hr; clear hr; (try simp only [bs, ↓reduceIte] at h))
 | (cases h; done))

end Go.Abs

/-! RefLex1 -/

namespace Go.Abs

set_option maxRecDepth 8000
set_option linter.unusedSimpArgs false
set_option linter.unusedVariables false
open Go.Proofs

def isWordR (s : Str) : Bool :=
  [103, 108, 111, 98, 97, 108] == s || [112, 114, 111, 99] == s || [118, 97, 114] == s || [114, 101, 102] == s || [105, 102] == s || [101, 108, 115, 101] == s || [119, 104, 105, 108, 101] == s || [98, 114, 101, 97, 107] == s || [99, 111, 110, 116, 105, 110, 117, 101] == s || [114, 101, 116, 117, 114, 110] == s || [103, 111, 116, 111] == s || [114, 101, 97, 100] == s || [112, 114, 105, 110, 116] == s
end Go.Abs

/-! RefLex2 -/

namespace Go.Abs

set_option maxRecDepth 8000
set_option linter.unusedSimpArgs false
set_option linter.unusedVariables false
open Go.Proofs

/-- What digits say. -/
def valD : Int → Str → Int
  | n, [] => n
  | n, c :: r => valD (n * 10 + ((c.toNat : Int) - 48)) r

def tok0 : Tok := ⟨0, [], 0, 0⟩
def tokR (x : Tok ⊕ Int) : Tok × Int :=
  match x with
  | .inl t => (t, 0)
  | .inr e => (tok0, e)

end Go.Abs

/-! RefLex3 -/

namespace Go.Abs

set_option maxRecDepth 8000
set_option linter.unusedSimpArgs false
set_option linter.unusedVariables false
open Go.Proofs

end Go.Abs

/-! Ref4 -/

namespace Go.Abs

set_option maxRecDepth 8000
set_option linter.unusedSimpArgs false
set_option linter.unusedVariables false
open Go.Proofs

/-- A text, no longer than some more than a text may be. -/
def cutM (s : Str) : Str := s.take (min s.length 100100)

theorem Cut_s (text : Str) (s : St) : Fun Try.prog n_ref3_Cut [.str text] s (.str (cutM text)) s := by
  refine Fun.pure ?_ rfl rfl s
  have e : (if (100100 : Int) < (text.length : Int) then (100100 : Int) else (text.length : Int)) = ((min text.length 100100 : Nat) : Int) := by split <;> omega
  have e1 : (0 : Int) ≤ ((min text.length 100100 : Nat) : Int) ∧ ((min text.length 100100 : Nat) : Int) ≤ (text.length : Int) := by omega
  unfold S0
  refine Fun.go has_ref3_Cut rfl fun B Q hB hQ => ?_
  have hlt : 0 < 1 := Nat.zero_lt_one
  have hget : 0 < 1 := Nat.zero_lt_one
  have hpu : 0 < 1 := Nat.zero_lt_one
  have hinc : 0 < 1 := Nat.zero_lt_one
  repeat' (first
 | simp only [go_sem, hlt, hget, hpu, hinc, Int.reduceLE, ↓reduceIte, reduceCtorEq, Nat.reduceEqDiff, Nat.reduceLeDiff, Nat.reduceAdd, Nat.reduceMul, Nat.reduceSub, Nat.reduceLT, e, e1, cutM, Bool.false_eq_true]
 | (with_reducible first | refine CB_ofT (by assumption) fun hc => ?_ | refine CB_ofF (by assumption) fun hc => ?_ | refine CB_split (fun hc => ?_) fun hc => ?_) <;> (try simp only [hc, bs, ↓reduceIte] at h) <;> (try simp only [hc])
 | ((with_reducible first | refine leafR hQ ?_ | refine leafN hQ ?_); (try cases h); simp only [resL, oneD, Option.some.injEq, exists_eq_left', go_sem, hlt, hget, hpu, hinc, Int.reduceLE, ↓reduceIte, reduceCtorEq, Nat.reduceEqDiff, Nat.reduceLeDiff, Nat.reduceAdd, Nat.reduceMul, Nat.reduceSub, Nat.reduceLT, e, e1, cutM, Bool.false_eq_true]; repeat' (first | exact Ok.out | with_reducible refine And.intro ?_ ?_ | (simp; done)))
 | (cases h; replace h := hr; clear hr; (try simp only [bs, ↓reduceIte] at h))
 | (cases h; done))

theorem cutM_len (text : Str) : (cutM text).length < 4611686018427387904 := by
  simp only [cutM, List.length_take]; omega

end Go.Abs

/-! Lx -/

namespace Go.Abs
set_option linter.unusedSimpArgs false
set_option linter.unusedVariables false

def isR (c : UInt8) : Bool := (c.toNat : Int) == 35

/-- A text, from a place on, is these tokens. -/
inductive Lx : Nat → Str → List Tok → Prop where
  | nil (pos : Nat) : Lx pos [] []
  | blank (pos : Nat) (c : UInt8) (r : Str) (l : List Tok) (h : isB c = true) (k : Lx (pos + 1) r l) : Lx pos (c :: r) l
  | rem (pos : Nat) (c : UInt8) (r : Str) (l : List Tok) (h : isB c = false) (h2 : isR c = true) (k : Lx (pos + lineL (c :: r)) ((c :: r).drop (lineL (c :: r))) l) : Lx pos (c :: r) l
  | tok (pos : Nat) (c : UInt8) (r : Str) (t : Tok) (l : List Tok) (h : isB c = false) (h2 : isR c = false) (ht : tokE pos (c :: r) = .inl t) (k : Lx (pos + t.text.length) ((c :: r).drop t.text.length) l) : Lx pos (c :: r) (t :: l)

theorem runL_le : ∀ s : Str, runL s ≤ s.length
  | [] => Nat.le_refl _
  | c :: r => by simp only [runL, List.length_cons]; split; have := runL_le r; omega; omega
theorem runD_le : ∀ s : Str, runD s ≤ s.length
  | [] => Nat.le_refl _
  | c :: r => by simp only [runD, List.length_cons]; split; have := runD_le r; omega; omega
theorem lineL_le : ∀ s : Str, lineL s ≤ s.length
  | [] => Nat.le_refl _
  | c :: r => by simp only [lineL, List.length_cons]; split; have := lineL_le r; omega; omega
theorem signL_le : ∀ s : Str, signL s ≤ s.length
  | [] => Nat.le_refl _
  | [c] => by simp only [signL]; split <;> simp
  | c :: d :: r => by simp only [signL, List.length_cons]; split; omega; split; omega; omega

/-- What a token is of its text. -/
theorem tokE_text {pos : Nat} {s : Str} {t : Tok} (h : tokE pos s = .inl t) : t.pos = pos ∧ 0 < t.text.length ∧ ∃ rest, s = t.text ++ rest := by
  cases s with
  | nil => simp only [tokE] at h; cases h
  | cons c r =>
    simp only [tokE] at h
    cases hL : isL c
    · simp only [hL, Bool.false_eq_true, ↓reduceIte] at h
      cases hD : isD c
      · simp only [hD, Bool.false_eq_true, ↓reduceIte] at h
        split at h
        · cases h
        · cases h
          have := signL_le (c :: r)
          exact ⟨rfl, by simp only [List.length_take]; simp only [List.length_cons] at this ⊢; omega, (c :: r).drop (signL (c :: r)), by simp⟩
      · have k0 : 0 < runD (c :: r) := by simp [runD, hD]
        simp only [hD, ↓reduceIte] at h
        split at h
        · cases h
        · split at h
          · cases h
            exact ⟨rfl, by simp only [List.length_take, List.length_cons]; omega, (c :: r).drop (runD (c :: r)), by simp⟩
          · cases h
    · have k0 : 0 < runL (c :: r) := by simp [runL, hL]
      simp only [hL, ↓reduceIte] at h
      split at h
      · cases h
      · cases h
        exact ⟨rfl, by simp only [List.length_take, List.length_cons]; omega, (c :: r).drop (runL (c :: r)), by simp⟩

theorem tokE_er {pos : Nat} {s : Str} {e : Int} (h : tokE pos s = .inr e) : e = 2 ∨ e = 4 := by
  cases s with
  | nil => simp only [tokE] at h; cases h; exact .inl rfl
  | cons c r =>
    simp only [tokE] at h
    repeat' split at h
    all_goals first | (cases h; simp; done) | cases h

theorem tokE_ln {pos : Nat} {s : Str} {t : Tok} (h : tokE pos s = .inl t) : t.text.length ≤ s.length := by
  obtain ⟨_, _, rest, e⟩ := tokE_text h
  rw [e]; simp

/-- What the lexer makes of such a text. -/
theorem lexF_Lx {pos : Nat} {s : Str} {l : List Tok} (h : Lx pos s l) : ∀ (n : Nat) (out : List Tok), s.length < n → out.length + l.length ≤ 2000 → lexF n pos s out = (out ++ l ++ [⟨0, [], 0, (pos + s.length : Nat)⟩], 0, 0) := by
  induction h with
  | nil pos =>
    intro n out hn ho
    cases n with
    | zero => omega
    | succ n => simp [lexF]
  | blank pos c r l h k ih =>
    intro n out hn ho
    cases n with
    | zero => omega
    | succ n =>
      simp only [List.length_cons] at hn
      simp only [lexF, h, ↓reduceIte]
      rw [ih n out (by omega) ho]
      simp only [List.length_cons]
      have : pos + 1 + r.length = pos + (r.length + 1) := by omega
      rw [this]
  | rem pos c r l h h2 k ih =>
    intro n out hn ho
    cases n with
    | zero => omega
    | succ n =>
      have h3 : ((c.toNat : Int) == 35) = true := h2
      simp only [lexF, h, h3, Bool.false_eq_true, ↓reduceIte]
      have hp : 0 < lineL (c :: r) := by
        have : ((c.toNat : Int) != 10) = true := by simp only [beq_iff_eq] at h3; simp [h3]
        simp [lineL, this]
      have hle := lineL_le (c :: r)
      rw [ih n out (by rw [List.length_drop]; omega) ho]
      have : pos + lineL (c :: r) + ((c :: r).drop (lineL (c :: r))).length = pos + (c :: r).length := by rw [List.length_drop]; omega
      rw [this]
  | tok pos c r t l h h2 ht k ih =>
    intro n out hn ho
    cases n with
    | zero => omega
    | succ n =>
      have h3 : ((c.toNat : Int) == 35) = false := h2
      simp only [List.length_cons] at ho
      have hne : ¬ out.length = 2000 := by omega
      simp only [lexF, h, h3, Bool.false_eq_true, ↓reduceIte, ht, if_neg hne]
      obtain ⟨_, hp, _⟩ := tokE_text ht
      have hle := tokE_ln ht
      rw [ih n _ (by rw [List.length_drop]; omega) (by simp; omega)]
      have : pos + t.text.length + ((c :: r).drop t.text.length).length = pos + (c :: r).length := by rw [List.length_drop]; omega
      rw [this]
      simp

/-- A text of which the lexer makes tokens is one. -/
theorem Lx_of : ∀ (n pos : Nat) (s : Str) (out : List Tok), s.length < n → (lexF n pos s out).2.1 = 0 → out.length ≤ 2000 → ∃ l, Lx pos s l ∧ out.length + l.length ≤ 2000 := by
  intro n
  induction n with
  | zero => intro pos s out hn; omega
  | succ n ih =>
    intro pos s out hn h ho
    cases s with
    | nil => exact ⟨[], .nil _, by simpa using ho⟩
    | cons c r =>
      simp only [List.length_cons] at hn
      simp only [lexF] at h
      cases hb : isB c
      · simp only [hb, Bool.false_eq_true, ↓reduceIte] at h
        cases h3 : ((c.toNat : Int) == 35)
        · simp only [h3, Bool.false_eq_true, ↓reduceIte] at h
          cases ht : tokE pos (c :: r) with
          | inr e => simp only [ht] at h; have := tokE_er ht; omega
          | inl t =>
            simp only [ht] at h
            split at h
            · cases h
            · rename_i h2
              obtain ⟨_, hp, _⟩ := tokE_text ht
              obtain ⟨l, hl, hlen⟩ := ih _ _ _ (by rw [List.length_drop, List.length_cons]; omega) h (by simp; omega)
              refine ⟨t :: l, .tok _ _ _ _ _ hb h3 ht hl, ?_⟩
              simp only [List.length_append, List.length_cons, List.length_nil] at hlen ⊢
              omega
        · simp only [h3, ↓reduceIte] at h
          have hp : 0 < lineL (c :: r) := by
            have : ((c.toNat : Int) != 10) = true := by simp only [beq_iff_eq] at h3; simp [h3]
            simp [lineL, this]
          obtain ⟨l, hl, hlen⟩ := ih _ _ _ (by rw [List.length_drop, List.length_cons]; omega) h ho
          exact ⟨l, .rem _ _ _ _ hb h3 hl, hlen⟩
      · simp only [hb, ↓reduceIte] at h
        obtain ⟨l, hl, hlen⟩ := ih _ _ _ (by omega) h ho
        exact ⟨l, .blank _ _ _ _ hb hl, hlen⟩

def tEnd (n : Nat) : Tok := ⟨0, [], 0, (n : Nat)⟩

theorem lexAll_Lx {s : Str} {l : List Tok} (h : Lx 0 s l) (hs : s.length ≤ 100000) (hl : l.length ≤ 2000) : lexAll s = (l ++ [tEnd s.length], 0, 0) := by
  unfold lexAll
  rw [if_neg (by omega), lexF_Lx h _ _ (Nat.lt_succ_self _) (by simpa using hl)]
  simp [tEnd]
theorem Lx_lexAll {s : Str} (h : (lexAll s).2.1 = 0) : ∃ l, Lx 0 s l ∧ s.length ≤ 100000 ∧ l.length ≤ 2000 ∧ lexAll s = (l ++ [tEnd s.length], 0, 0) := by
  unfold lexAll at h
  split at h
  · cases h
  · rename_i hs
    obtain ⟨l, hl, hlen⟩ := Lx_of _ _ _ _ (Nat.lt_succ_self _) h (Nat.zero_le _)
    have hlen : l.length ≤ 2000 := by simpa using hlen
    exact ⟨l, hl, by omega, hlen, lexAll_Lx hl (by omega) hlen⟩

/-- Where the tokens stand. -/
theorem Lx.pos {pos : Nat} {s : Str} {l : List Tok} (h : Lx pos s l) : (∀ t ∈ l, (pos : Int) ≤ t.pos ∧ t.pos < ((pos + s.length : Nat) : Int)) ∧ l.Pairwise (fun a b => a.pos < b.pos) := by
  induction h with
  | nil pos => exact ⟨by simp, .nil⟩
  | blank pos c r l h k ih =>
    refine ⟨fun t ht => ?_, ih.2⟩
    have := ih.1 t ht
    simp only [List.length_cons]; omega
  | rem pos c r l h h2 k ih =>
    refine ⟨fun t ht => ?_, ih.2⟩
    have := ih.1 t ht
    rw [List.length_drop] at this
    have hle := lineL_le (c :: r)
    omega
  | tok pos c r t l h h2 ht k ih =>
    obtain ⟨e, hp, _⟩ := tokE_text ht
    have hle := tokE_ln ht
    refine ⟨fun u hu => ?_, List.pairwise_cons.2 ⟨fun u hu => ?_, ih.2⟩⟩
    · rcases List.mem_cons.1 hu with rfl | hu
      · rw [e]; simp only [List.length_cons] at hle ⊢; omega
      · have := ih.1 u hu
        rw [List.length_drop] at this
        omega
    · have := ih.1 u hu
      rw [e]; omega

end Go.Abs

/-! Lx2 -/

namespace Go.Abs
set_option linter.unusedSimpArgs false
set_option linter.unusedVariables false

/-- Nothing that stands ahead goes on with that byte. -/
def stopC (c : UInt8) : Bool := !(isL c) && !(isD c) && !(c == 61) && !(c == 38) && !(c == 124)
def Stop : Str → Prop
  | [] => True
  | c :: _ => stopC c = true

theorem runL_take : ∀ (s : Str) (k : Nat), runL (s.take k) = min k (runL s)
  | [], k => by simp [runL]
  | c :: s, 0 => by simp [runL]
  | c :: s, k + 1 => by
    simp only [List.take_succ_cons, runL, runL_take s k]
    split
    · omega
    · omega
theorem runD_take : ∀ (s : Str) (k : Nat), runD (s.take k) = min k (runD s)
  | [], k => by simp [runD]
  | c :: s, 0 => by simp [runD]
  | c :: s, k + 1 => by
    simp only [List.take_succ_cons, runD, runD_take s k]
    split
    · omega
    · omega
theorem lineL_take : ∀ (s : Str) (k : Nat), lineL (s.take k) = min k (lineL s)
  | [], k => by simp [lineL]
  | c :: s, 0 => by simp [lineL]
  | c :: s, k + 1 => by
    simp only [List.take_succ_cons, lineL, lineL_take s k]
    split
    · omega
    · omega
theorem signL_take {s : Str} {k : Nat} (h : signL s ≤ k) (h0 : signL s ≠ 0) : signL (s.take k) = signL s := by
  match s, k, h, h0 with
  | [], k, h, h0 => exact absurd rfl h0
  | [c], 0, h, h0 => omega
  | [c], k + 1, h, h0 => simp
  | c :: d :: s, 0, h, h0 => omega
  | c :: d :: s, 1, h, h0 =>
    simp only [signL] at h h0 ⊢
    simp only [List.take_succ_cons, List.take_zero, signL]
    split at h
    · omega
    · rename_i h2
      rw [if_neg h2]
  | c :: d :: s, k + 2, h, h0 => simp only [List.take_succ_cons, signL]

/-- A token whose text is cut behind it. -/
theorem tokE_take {pos : Nat} {s : Str} {t : Tok} {k : Nat} (h : tokE pos s = .inl t) (hk : t.text.length ≤ k) : tokE pos (s.take k) = .inl t := by
  cases s with
  | nil => simp only [tokE] at h; cases h
  | cons c r =>
    have h1 := runL_take (c :: r) k
    have h2 := runD_take (c :: r) k
    have l1 := runL_le (c :: r)
    have l2 := runD_le (c :: r)
    have l3 := signL_le (c :: r)
    have hk0 : ∃ j, k = j + 1 := by
      obtain ⟨_, hp, _⟩ := tokE_text h
      exact ⟨k - 1, by omega⟩
    obtain ⟨j, rfl⟩ := hk0
    rw [List.take_succ_cons] at h1 h2 ⊢
    simp only [tokE] at h ⊢
    have tt : ∀ m, m ≤ j + 1 → (c :: r.take j).take m = (c :: r).take m := by
      intro m hm
      rw [← List.take_succ_cons, List.take_take]
      congr 1
      omega
    cases hL : isL c
    · simp only [hL, Bool.false_eq_true, ↓reduceIte] at h ⊢
      cases hD : isD c
      · simp only [hD, Bool.false_eq_true, ↓reduceIte] at h ⊢
        split at h
        · cases h
        · rename_i h0
          have hle : signL (c :: r) ≤ j + 1 := by cases h; simp only [List.length_take] at hk; omega
          have h3 := signL_take hle h0
          rw [List.take_succ_cons] at h3
          rw [h3, if_neg h0, tt _ hle]
          exact h
      · simp only [hD, ↓reduceIte] at h ⊢
        have hle : runD (c :: r) ≤ j + 1 := by
          split at h
          · cases h
          · split at h
            · cases h; simp only [List.length_take] at hk; omega
            · cases h
        have e : min (j + 1) (runD (c :: r)) = runD (c :: r) := by omega
        rw [h2, e, tt _ hle]
        exact h
    · simp only [hL, ↓reduceIte] at h ⊢
      have hle : runL (c :: r) ≤ j + 1 := by
        split at h
        · cases h
        · cases h; simp only [List.length_take] at hk; omega
      have e : min (j + 1) (runL (c :: r)) = runL (c :: r) := by omega
      rw [h1, e, tt _ hle]
      exact h

/-- A token by itself, wherever it stands, with something behind it. -/
def TGood (t : Tok) : Prop := 0 < t.text.length ∧ ∀ (p : Nat) (b : Str), Stop b → tokE p (t.text ++ b) = .inl { t with pos := (p : Nat) }
/-- The first byte of a token. -/
theorem tokE_first {pos : Nat} {s : Str} {t : Tok} (h : tokE pos s = .inl t) : ∃ c r, s = c :: r ∧ isB c = false ∧ isR c = false := by
  cases s with
  | nil => simp only [tokE] at h; cases h
  | cons c r =>
    refine ⟨c, r, rfl, ?_⟩
    simp only [tokE] at h
    cases hL : isL c
    · cases hD : isD c
      · simp only [hL, hD, Bool.false_eq_true, ↓reduceIte] at h
        have hs : signL (c :: r) ≠ 0 := by
          intro h0; rw [if_pos h0] at h; cases h
        have hc : ∀ n : Int, (c.toNat : Int) = n → n = 32 ∨ n = 9 ∨ n = 10 ∨ n = 13 ∨ n = 35 → False := by
          intro n hn hh
          have hcs : c = 32 ∨ c = 9 ∨ c = 10 ∨ c = 13 ∨ c = 35 := by
            have : ∀ k : UInt8, (c.toNat : Int) = (k.toNat : Int) → c = k := by
              intro k hk
              have : c.toNat = k.toNat := by omega
              exact UInt8.toNat_inj.1 this
            rcases hh with h | h | h | h | h
            · exact .inl (this 32 (by rw [hn, h]; rfl))
            · exact .inr (.inl (this 9 (by rw [hn, h]; rfl)))
            · exact .inr (.inr (.inl (this 10 (by rw [hn, h]; rfl))))
            · exact .inr (.inr (.inr (.inl (this 13 (by rw [hn, h]; rfl)))))
            · exact .inr (.inr (.inr (.inr (this 35 (by rw [hn, h]; rfl)))))
          apply hs
          cases r with
          | nil => rcases hcs with rfl | rfl | rfl | rfl | rfl <;> decide
          | cons d r =>
            have h1 : sign2 [c, d] = false := by
              cases hx : sign2 [c, d]
              · rfl
              · simp only [sign2, Bool.or_eq_true, beq_iff_eq, List.cons.injEq, and_true] at hx
                rcases hcs with rfl | rfl | rfl | rfl | rfl <;> simp at hx
            have h2 : sign1 c = false := by rcases hcs with rfl | rfl | rfl | rfl | rfl <;> decide
            simp only [signL, h1, h2, Bool.false_eq_true, ↓reduceIte]
        refine ⟨?_, ?_⟩
        · cases hb : isB c
          · rfl
          · simp only [isB, Bool.or_eq_true, beq_iff_eq] at hb
            exact (hc _ rfl (by omega)).elim
        · cases hb : isR c
          · rfl
          · simp only [isR, beq_iff_eq] at hb
            exact (hc _ rfl (by omega)).elim
      · simp only [isD, Bool.and_eq_true, decide_eq_true_eq] at hD
        refine ⟨?_, ?_⟩
        · simp only [isB, Bool.or_eq_false_iff, beq_eq_false_iff_ne, ne_eq]; omega
        · simp only [isR, beq_eq_false_iff_ne, ne_eq]; omega
    · simp only [isL, Bool.and_eq_true, decide_eq_true_eq] at hL
      refine ⟨?_, ?_⟩
      · simp only [isB, Bool.or_eq_false_iff, beq_eq_false_iff_ne, ne_eq]; omega
      · simp only [isR, beq_eq_false_iff_ne, ne_eq]; omega

theorem Lx.tok' {pos : Nat} {s : Str} {t : Tok} {l : List Tok} (ht : tokE pos s = .inl t) (k : Lx (pos + t.text.length) (s.drop t.text.length) l) : Lx pos s (t :: l) := by
  obtain ⟨c, r, rfl, h1, h2⟩ := tokE_first ht
  exact .tok _ _ _ _ _ h1 h2 ht k
/-- A text cut ahead of a token. -/
theorem Lx.cut {pos : Nat} {s : Str} {l : List Tok} (h : Lx pos s l) : ∀ {l1 : List Tok} {t : Tok} {l2 : List Tok} {k : Nat}, l = l1 ++ t :: l2 → t.pos = ((pos + k : Nat) : Int) → Lx pos (s.take k) l1 := by
  induction h with
  | nil pos => intro l1 t l2 k e; simp at e
  | blank pos c r l h k ih =>
    intro l1 t l2 j e hp
    have := k.pos.1 t (by rw [e]; simp)
    obtain ⟨i, rfl⟩ : ∃ i, j = i + 1 := ⟨j - 1, by omega⟩
    rw [List.take_succ_cons]
    exact .blank _ _ _ _ h (ih e (by rw [hp]; congr 1; omega))
  | rem pos c r l h h2 k ih =>
    intro l1 t l2 j e hp
    have := k.pos.1 t (by rw [e]; simp)
    have hl : lineL (c :: r) ≤ j := by omega
    have hle := lineL_le (c :: r)
    have hp0 : 0 < lineL (c :: r) := by
      have : ((c.toNat : Int) != 10) = true := by simp only [isR, beq_iff_eq] at h2; simp [h2]
      simp [lineL, this]
    have e1 : lineL ((c :: r).take j) = lineL (c :: r) := by rw [lineL_take]; omega
    obtain ⟨i, rfl⟩ : ∃ i, j = i + 1 := ⟨j - 1, by omega⟩
    have e3 : ((c :: r).take (i + 1)).drop (lineL (c :: r)) = ((c :: r).drop (lineL (c :: r))).take (i + 1 - lineL (c :: r)) := List.drop_take ..
    rw [List.take_succ_cons] at e1 e3 ⊢
    refine .rem _ _ _ _ h h2 ?_
    rw [e1, e3]
    exact ih e (by rw [hp]; congr 1; omega)
  | tok pos c r u l h h2 ht k ih =>
    intro l1 t l2 j e hp
    obtain ⟨eu, hup, _⟩ := tokE_text ht
    cases l1 with
    | nil =>
      simp only [List.nil_append, List.cons.injEq] at e
      rw [← e.1, eu] at hp
      have : j = 0 := by omega
      subst this
      exact .nil _
    | cons v l1 =>
      simp only [List.cons_append, List.cons.injEq] at e
      obtain ⟨rfl, e⟩ := e
      have := k.pos.1 t (by rw [e]; simp)
      have hle := tokE_ln ht
      refine Lx.tok' (tokE_take ht (by omega)) ?_
      have e3 : ((c :: r).take j).drop u.text.length = ((c :: r).drop u.text.length).take (j - u.text.length) := List.drop_take ..
      rw [e3]
      exact ih e (by rw [hp]; congr 1; omega)

end Go.Abs

/-! Sim -/

namespace Go.Abs
set_option linter.unusedSimpArgs false
set_option linter.unusedVariables false

/-- Two tokens that a reader does not tell from each other. -/
structure TEq (t t' : Tok) : Prop where
  k : t'.kind = t.kind
  x : t'.text = t.text
  n : t'.n = t.n

/-- A token at which the first row ends, or a body; one at which the second row goes on otherwise. -/
def Quiet (t : Tok) : Prop := t.kind = 0 ∨ t.kind = 4 ∧ t.text = [125]
def Quiet' (t : Tok) : Prop := t.kind = 0 ∨ t.kind = 3 ∧ t.text = [112, 114, 111, 99]

/-- Two rows that agree below a place, or everywhere. -/
structure Env (l l' : List Tok) (N : Nat) (A : Prop) : Prop where
  low : ∀ (i : Nat) (t : Tok), l[i]? = some t → (A ∨ i < N) → ∃ t', l'[i]? = some t' ∧ TEq t t'
  at' : ¬ A → ∃ t t', l[N]? = some t ∧ l'[N]? = some t' ∧ Quiet t ∧ Quiet' t'

section
variable {l l' : List Tok} {N : Nat} {A : Prop}

structure Rel2 (l l' : List Tok) (r r' : Rd) : Prop where
  el : r.l = l
  el' : r'.l = l'
  ei : r'.i = r.i
  en : r'.n = r.n
  ec : r'.code = r.code
  ef : r.code = 0 ∨ ∃ (j : Nat) (t t' : Tok), l[j]? = some t ∧ l'[j]? = some t' ∧ r.fat = t.pos ∧ r'.fat = t'.pos

def Cnd (N : Nat) (A : Prop) (r : Rd) : Prop := A ∨ r.good = true ∧ r.i ≤ N
def SR (l l' : List Tok) (N : Nat) (A : Prop) (r r' : Rd) : Prop := Cnd N A r → Rel2 l l' r r'

def Sim {α : Type} (l l' : List Tok) (N : Nat) (A : Prop) (r : Rd) (o o' : Option (α × Rd)) : Prop :=
  ∀ p, o = some p → r.i ≤ p.2.i ∧ (p.2.good = true → r.good = true) ∧ (Cnd N A p.2 → ∃ q', o' = some (p.1, q') ∧ Rel2 l l' p.2 q')

theorem Cnd.back {r q : Rd} (h : Cnd N A q) (hi : r.i ≤ q.i) (hg : q.good = true → r.good = true) : Cnd N A r := by
  rcases h with h | h
  · exact .inl h
  · exact .inr ⟨hg h.1, Nat.le_trans hi h.2⟩

theorem Sim.bind {α β : Type} {r : Rd} {o o' : Option (α × Rd)} {f f' : α × Rd → Option (β × Rd)} (h : Sim l l' N A r o o') (k : ∀ a q q', SR l l' N A q q' → Sim l l' N A q (f (a, q)) (f' (a, q'))) :
    Sim l l' N A r (o.bind f) (o'.bind f') := by
  intro p hp
  rw [Option.bind_eq_some_iff] at hp
  obtain ⟨⟨a, q⟩, h1, h2⟩ := hp
  obtain ⟨m1, m2, m3⟩ := h _ h1
  dsimp only at m1 m2 m3
  by_cases hc : Cnd N A q
  · obtain ⟨q', e, rel⟩ := m3 hc
    obtain ⟨n1, n2, n3⟩ := k a q q' (fun _ => rel) _ h2
    refine ⟨Nat.le_trans m1 n1, fun g => m2 (n2 g), fun c => ?_⟩
    obtain ⟨s', e2, rel2⟩ := n3 c
    exact ⟨s', by rw [e]; exact e2, rel2⟩
  · obtain ⟨n1, n2, n3⟩ := k a q q (fun c => absurd c hc) _ h2
    exact ⟨Nat.le_trans m1 n1, fun g => m2 (n2 g), fun c => absurd (c.back n1 n2) hc⟩

/-- The same for a reader alone. -/
def SimR (l l' : List Tok) (N : Nat) (A : Prop) (r : Rd) (o o' : Option Rd) : Prop :=
  ∀ p, o = some p → r.i ≤ p.i ∧ (p.good = true → r.good = true) ∧ (Cnd N A p → ∃ q', o' = some q' ∧ Rel2 l l' p q')

theorem SimR.bind {β : Type} {r : Rd} {o o' : Option Rd} {f : Rd → Option (β × Rd)} (h : SimR l l' N A r o o') (k : ∀ q q', SR l l' N A q q' → Sim l l' N A q (f q) (f q')) :
    Sim l l' N A r (o.bind f) (o'.bind f) := by
  intro p hp
  rw [Option.bind_eq_some_iff] at hp
  obtain ⟨q, h1, h2⟩ := hp
  obtain ⟨m1, m2, m3⟩ := h _ h1
  by_cases hc : Cnd N A q
  · obtain ⟨q', e, rel⟩ := m3 hc
    obtain ⟨n1, n2, n3⟩ := k q q' (fun _ => rel) _ h2
    refine ⟨Nat.le_trans m1 n1, fun g => m2 (n2 g), fun c => ?_⟩
    obtain ⟨s', e2, rel2⟩ := n3 c
    exact ⟨s', by rw [e]; exact e2, rel2⟩
  · obtain ⟨n1, n2, n3⟩ := k q q (fun c => absurd c hc) _ h2
    exact ⟨Nat.le_trans m1 n1, fun g => m2 (n2 g), fun c => absurd (c.back n1 n2) hc⟩

theorem Sim.bindR {α : Type} {r : Rd} {o o' : Option (α × Rd)} {f : α × Rd → Option Rd} (h : Sim l l' N A r o o') (k : ∀ a q q', SR l l' N A q q' → SimR l l' N A q (f (a, q)) (f (a, q'))) :
    SimR l l' N A r (o.bind f) (o'.bind f) := by
  intro p hp
  rw [Option.bind_eq_some_iff] at hp
  obtain ⟨⟨a, q⟩, h1, h2⟩ := hp
  obtain ⟨m1, m2, m3⟩ := h _ h1
  dsimp only at m1 m2 m3
  by_cases hc : Cnd N A q
  · obtain ⟨q', e, rel⟩ := m3 hc
    obtain ⟨n1, n2, n3⟩ := k a q q' (fun _ => rel) _ h2
    refine ⟨Nat.le_trans m1 n1, fun g => m2 (n2 g), fun c => ?_⟩
    obtain ⟨s', e2, rel2⟩ := n3 c
    exact ⟨s', by rw [e]; exact e2, rel2⟩
  · obtain ⟨n1, n2, n3⟩ := k a q q (fun c => absurd c hc) _ h2
    exact ⟨Nat.le_trans m1 n1, fun g => m2 (n2 g), fun c => absurd (c.back n1 n2) hc⟩

theorem Sim.ret {α : Type} {r r' : Rd} (a : α) (h : SR l l' N A r r') : Sim l l' N A r (some (a, r)) (some (a, r')) := by
  intro p hp
  cases hp
  exact ⟨Nat.le_refl _, id, fun c => ⟨r', rfl, h c⟩⟩
theorem Sim.non {α : Type} {r : Rd} {o' : Option (α × Rd)} : Sim l l' N A r none o' := fun p hp => by cases hp
/-- What is asked on the way, and answered alike. -/
theorem Sim.ask {α β : Type} {r : Rd} {o o' : Option α} {f f' : α → Option (β × Rd)} (h : ∀ a, o = some a → Cnd N A r → o' = some a) (k : ∀ a, o = some a → Sim l l' N A r (f a) (f' a)) : Sim l l' N A r (o.bind f) (o'.bind f') := by
  intro p hp
  rw [Option.bind_eq_some_iff] at hp
  obtain ⟨a, h1, h2⟩ := hp
  obtain ⟨n1, n2, n3⟩ := k a h1 _ h2
  refine ⟨n1, n2, fun c => ?_⟩
  rw [h a h1 (c.back n1 n2)]
  exact n3 c
theorem Sim.same {α β : Type} {r : Rd} {o : Option α} {f f' : α → Option (β × Rd)} (k : ∀ a, o = some a → Sim l l' N A r (f a) (f' a)) : Sim l l' N A r (o.bind f) (o.bind f') := Sim.ask (fun a h _ => h) k
theorem Sim.ite {α : Type} {r : Rd} {c : Prop} [Decidable c] {a b a' b' : Option (α × Rd)} (h1 : c → Sim l l' N A r a a') (h2 : ¬ c → Sim l l' N A r b b') : Sim l l' N A r (if c then a else b) (if c then a' else b') := by
  by_cases h : c
  · rw [if_pos h, if_pos h]; exact h1 h
  · rw [if_neg h, if_neg h]; exact h2 h
theorem SimR.ret {r r' : Rd} (h : SR l l' N A r r') : SimR l l' N A r (some r) (some r') := by
  intro p hp
  cases hp
  exact ⟨Nat.le_refl _, id, fun c => ⟨r', rfl, h c⟩⟩
theorem SimR.eite {r : Rd} {c : Prop} [Decidable c] {a b a' b' : Option Rd} (h1 : c → SimR l l' N A r a a') (h2 : ¬ c → SimR l l' N A r b b') : SimR l l' N A r (if c then a else b) (if c then a' else b') := by
  by_cases h : c
  · rw [if_pos h, if_pos h]; exact h1 h
  · rw [if_neg h, if_neg h]; exact h2 h
/-- Where both say whether all went well. -/
theorem Sim.iteG {α : Type} {r r' : Rd} (hr : SR l l' N A r r') {a b a' b' : Option (α × Rd)} (h1 : r.good = true → Sim l l' N A r a a') (h2 : r.good = false → Sim l l' N A r b b') :
    Sim l l' N A r (if r.good = true then a else b) (if r'.good = true then a' else b') := by
  by_cases hc : Cnd N A r
  · have e : r'.good = r.good := by simp only [Rd.good, (hr hc).ec]
    rw [e]
    cases h : r.good
    · exact h2 h
    · exact h1 h
  · intro p hp
    have key : r.i ≤ p.2.i ∧ (p.2.good = true → r.good = true) := by
      cases h : r.good
      · rw [h] at hp; have := h2 h p hp; exact ⟨this.1, fun g => by rw [← h]; exact this.2.1 g⟩
      · rw [h] at hp; exact ⟨(h1 h p hp).1, fun _ => rfl⟩
    exact ⟨key.1, key.2, fun c => absurd (c.back key.1 key.2) hc⟩

/-! ### The basic methods -/

theorem SR.goods {r r' : Rd} (h : SR l l' N A r r') (hc : Cnd N A r) : r'.good = r.good := by simp only [Rd.good, (h hc).ec]
theorem SR.set {r r' : Rd} (h : SR l l' N A r r') (j : Nat) (hj : r.i ≤ j) : SR l l' N A { r with i := j } { r' with i := j } := by
  intro hc
  have := h (hc.back (r := r) hj id)
  exact ⟨this.el, this.el', rfl, this.en, this.ec, this.ef⟩
theorem Sim.on {α : Type} {r r' : Rd} (a : α) (h : SR l l' N A r r') (j j' : Nat) (hj : r.i ≤ j) (e : Cnd N A r → j' = j) : Sim l l' N A r (some (a, { r with i := j })) (some (a, { r' with i := j' })) := by
  intro p hp
  cases hp
  refine ⟨hj, id, fun c => ?_⟩
  have hc : Cnd N A r := c.back hj id
  rw [e hc]
  exact ⟨_, rfl, h.set j hj c⟩

theorem getO_eq {l : List Tok} {i : Nat} {t : Tok} (h : i < 4611686018427387904) (e : l[i]? = some t) : getO l i = some t := by simp [getO, h, e]

/-- What stands next, below the place. -/
theorem peek_low (E : Env l l' N A) {r r' : Rd} (h : SR l l' N A r r') (hc : Cnd N A r) (hi : A ∨ r.i < N) {t : Tok} (ht : r.peek = some t) : ∃ t', r'.peek = some t' ∧ TEq t t' := by
  obtain ⟨h1, h2, h3, h4⟩ := peek_get ht
  have R := h hc
  rw [R.el] at h2
  obtain ⟨t', e, te⟩ := E.low _ _ h2 hi
  refine ⟨t', ?_, te⟩
  simp only [Rd.peek, R.ei, R.el', getO_eq h1 e, Option.bind_some, te.k, h3, h4, decide_true, Bool.and_self, ↓reduceIte]

/-- What stands at the place. -/
theorem peek_at (E : Env l l' N A) {r r' : Rd} (h : SR l l' N A r r') (hc : Cnd N A r) (hA : ¬ A) (hi : r.i = N) {t : Tok} (ht : r.peek = some t) : Quiet t ∧ ∃ t', r'.peek = some t' ∧ Quiet' t' := by
  obtain ⟨h1, h2, h3, h4⟩ := peek_get ht
  have R := h hc
  obtain ⟨u, u', e1, e2, q1, q2⟩ := E.at' hA
  rw [R.el, hi, e1] at h2
  cases h2
  refine ⟨q1, u', ?_, q2⟩
  have hk : 0 ≤ u'.kind ∧ u'.kind ≤ 4 := by rcases q2 with q | q <;> omega
  rw [hi] at h1
  simp only [Rd.peek, R.ei, R.el', hi, getO_eq h1 e2, Option.bind_some, hk.1, hk.2, decide_true, Bool.and_self, ↓reduceIte]

theorem Cnd.cases {r : Rd} (hc : Cnd N A r) : (A ∨ r.i < N) ∨ (¬ A ∧ r.i = N) := by
  by_cases hA : A
  · exact .inl (.inl hA)
  · rcases hc with h | h
    · exact absurd h hA
    · rcases Nat.lt_or_eq_of_le h.2 with h | h
      · exact .inl (.inr h)
      · exact .inr ⟨hA, h⟩

theorem is_sim (E : Env l l' N A) {r r' : Rd} (h : SR l l' N A r r') {s : Str} (h1 : s ≠ [125]) (h2 : s ≠ [112, 114, 111, 99]) {b : Bool} (hb : r.is s = some b) (hc : Cnd N A r) : r'.is s = some b := by
  unfold Rd.is at hb ⊢
  rw [Option.bind_eq_some_iff] at hb
  obtain ⟨t, ht, hb⟩ := hb
  cases hb
  rcases hc.cases with hi | ⟨hA, hi⟩
  · obtain ⟨t', e, te⟩ := peek_low E h hc hi ht
    rw [e, Option.bind_some, te.k, te.x]
  · obtain ⟨q, t', e, q'⟩ := peek_at E h hc hA hi ht
    rw [e, Option.bind_some]
    have a1 : ((t.kind == 3 || t.kind == 4) && t.text == s) = false := by
      rcases q with q | ⟨_, q⟩
      · simp [q]
      · have : (t.text == s) = false := by rw [q]; simpa using fun e => h1 e.symm
        simp [this]
    have a2 : ((t'.kind == 3 || t'.kind == 4) && t'.text == s) = false := by
      rcases q' with q | ⟨_, q⟩
      · simp [q]
      · have : (t'.text == s) = false := by rw [q]; simpa using fun e => h2 e.symm
        simp [this]
    rw [a1, a2]

/-- Any sign or word but those two: where it is taken it stands below the place. -/
theorem take_sim (E : Env l l' N A) {r r' : Rd} (h : SR l l' N A r r') {s : Str} (h1 : s ≠ [125]) (h2 : s ≠ [112, 114, 111, 99]) : Sim l l' N A r (r.take s) (r'.take s) := by
  unfold Rd.take
  by_cases hc : Cnd N A r
  · rw [h.goods hc]
    refine Sim.ite (fun _ => Sim.ret _ h) (fun _ => ?_)
    refine Sim.ask (fun b hb hc => is_sim E h h1 h2 hb hc) fun b _ => Sim.ite (fun _ => Sim.ret _ h) fun _ => Sim.on _ h _ _ (Nat.le_succ _) fun hc => by rw [(h hc).ei]
  · intro p hp
    have key : r.i ≤ p.2.i ∧ (p.2.good = true → r.good = true) := by
      split at hp
      · cases hp; exact ⟨Nat.le_refl _, id⟩
      · rw [Option.bind_eq_some_iff] at hp
        obtain ⟨b, _, hp⟩ := hp
        split at hp
        · cases hp; exact ⟨Nat.le_refl _, id⟩
        · cases hp; exact ⟨Nat.le_succ _, id⟩
    exact ⟨key.1, key.2, fun c => absurd (c.back key.1 key.2) hc⟩

theorem bad_sim (E : Env l l' N A) {r r' : Rd} (h : SR l l' N A r r') {c : Int} (hc0 : c ≠ 0) : SimR l l' N A r (r.bad c) (r'.bad c) := by
  intro p hp
  unfold Rd.bad at hp
  cases hg : r.good
  · simp only [hg, Bool.false_eq_true, ↓reduceIte] at hp
    cases hp
    refine ⟨Nat.le_refl _, fun g => (by rw [hg] at g; cases g), fun hc => ?_⟩
    refine ⟨r', ?_, h hc⟩
    simp only [Rd.bad, h.goods hc, hg, Bool.false_eq_true, ↓reduceIte]
  · simp only [hg, ↓reduceIte] at hp
    rw [Option.bind_eq_some_iff] at hp
    obtain ⟨t, ht, hp⟩ := hp
    cases hp
    have hf : ({ r with code := c, fat := t.pos } : Rd).good = false := by simp [Rd.good, hc0]
    refine ⟨Nat.le_refl _, fun g => rfl, fun hc => ?_⟩
    rcases hc with hA | ⟨g, _⟩
    · have hcr : Cnd N A r := .inl hA
      obtain ⟨t', e, te⟩ := peek_low E h hcr (.inl hA) ht
      have R := h hcr
      refine ⟨{ r' with code := c, fat := t'.pos }, ?_, ⟨R.el, R.el', R.ei, R.en, rfl, .inr ⟨r.i, t, t', ?_, ?_, rfl, rfl⟩⟩⟩
      · simp only [Rd.bad, h.goods hcr, hg, ↓reduceIte, e, Option.bind_some]
      · have := (peek_get ht).2.1; rw [R.el] at this; exact this
      · have := (peek_get e).2.1; rw [R.el', R.ei] at this; exact this
    · rw [hf] at g; cases g

theorem want_sim (E : Env l l' N A) {r r' : Rd} (h : SR l l' N A r r') {s : Str} (h1 : s ≠ [125]) (h2 : s ≠ [112, 114, 111, 99]) : SimR l l' N A r (r.want s) (r'.want s) := by
  unfold Rd.want
  exact (take_sim E h h1 h2).bindR fun a q q' hq => SimR.eite (fun _ => bad_sim E hq (by decide)) fun _ => SimR.ret hq
end

end Go.Abs

/-! Sim2 -/

namespace Go.Abs
set_option linter.unusedSimpArgs false
set_option linter.unusedVariables false

section
variable {l l' : List Tok} {N : Nat} {A : Prop}

/-- What stands next on both sides. -/
def Next (N : Nat) (A : Prop) (r : Rd) (t t' : Tok) : Prop := TEq t t' ∨ (¬ A ∧ r.i = N ∧ Quiet t ∧ Quiet' t')

structure Near (N : Nat) (A : Prop) (r r' : Rd) : Prop where
  g : r'.good = r.good
  i : r'.i = r.i
  n : r'.n = r.n
  pk : ∀ t, r.peek = some t → ∃ t', r'.peek = some t' ∧ Next N A r t t'
  pk2 : ∀ t, r.peek = some t → t.kind = 1 → ∀ u, getO r.l (r.i + 1) = some u → ∃ u', getO r'.l (r'.i + 1) = some u' ∧ (TEq u u' ∨ Quiet u ∧ Quiet' u')

theorem TEq.refl (t : Tok) : TEq t t := ⟨rfl, rfl, rfl⟩
theorem Near.refl (r : Rd) : Near N A r r := ⟨rfl, rfl, rfl, fun t h => ⟨t, h, .inl (TEq.refl t)⟩, fun t _ _ u h => ⟨u, h, .inl (TEq.refl u)⟩⟩

theorem near_of (E : Env l l' N A) {r r' : Rd} (h : SR l l' N A r r') (hc : Cnd N A r) : Near N A r r' := by
  refine ⟨h.goods hc, (h hc).ei, (h hc).en, fun t ht => ?_, fun t ht hk u hu => ?_⟩
  · rcases hc.cases with hi | ⟨hA, hi⟩
    · obtain ⟨t', e, te⟩ := peek_low E h hc hi ht
      exact ⟨t', e, .inl te⟩
    · obtain ⟨q, t', e, q'⟩ := peek_at E h hc hA hi ht
      exact ⟨t', e, .inr ⟨hA, hi, q, q'⟩⟩
  · have R := h hc
    have hlow : A ∨ r.i < N := by
      rcases hc.cases with hi | ⟨hA, hi⟩
      · exact hi
      · obtain ⟨q, _⟩ := peek_at E h hc hA hi ht
        rcases q with q | q
        · omega
        · omega
    obtain ⟨h1, h2⟩ := getO_some hu
    rw [R.el] at h2
    rw [R.el', R.ei]
    by_cases hA : A
    · obtain ⟨u', e, te⟩ := E.low _ _ h2 (.inl hA)
      exact ⟨u', getO_eq h1 e, .inl te⟩
    · rcases Nat.lt_or_ge (r.i + 1) N with hj | hj
      · obtain ⟨u', e, te⟩ := E.low _ _ h2 (.inr hj)
        exact ⟨u', getO_eq h1 e, .inl te⟩
      · have e1 : r.i + 1 = N := by rcases hlow with f | f; exact absurd f hA; omega
        obtain ⟨v, v', f1, f2, q1, q2⟩ := E.at' hA
        rw [e1] at h2 h1
        rw [f1] at h2
        cases h2
        rw [e1]
        exact ⟨v', getO_eq h1 f2, .inr ⟨q1, q2⟩⟩

theorem Sim.wl {α : Type} (E : Env l l' N A) {r r' : Rd} (h : SR l l' N A r r') {F G : Rd → Option (α × Rd)} (k : ∀ r'', SR l l' N A r r'' → Near N A r r'' → Sim l l' N A r (F r) (G r'')) : Sim l l' N A r (F r) (G r') := by
  by_cases hc : Cnd N A r
  · exact k r' h (near_of E h hc)
  · intro p hp
    obtain ⟨a, b, _⟩ := k r (fun c => absurd c hc) (Near.refl r) p hp
    exact ⟨a, b, fun c => absurd (c.back a b) hc⟩

theorem Sim.void {α : Type} {r : Rd} {o o' o'' : Option (α × Rd)} (h : Sim l l' N A r o o'') (k : ∀ p, o = some p → ¬ Cnd N A p.2) : Sim l l' N A r o o' := by
  intro p hp
  obtain ⟨a, b, _⟩ := h p hp
  exact ⟨a, b, fun c => absurd c (k p hp)⟩

theorem Sim.askP {α : Type} {r r' : Rd} (nr : Near N A r r') {f f' : Tok → Option (α × Rd)} (k : ∀ t t', r.peek = some t → r'.peek = some t' → Next N A r t t' → Sim l l' N A r (f t) (f' t')) :
    Sim l l' N A r (r.peek.bind f) (r'.peek.bind f') := by
  intro p hp
  rw [Option.bind_eq_some_iff] at hp
  obtain ⟨t, ht, hp⟩ := hp
  obtain ⟨t', ht', q⟩ := nr.pk t ht
  have := k t t' ht ht' q p hp
  rw [ht', Option.bind_some]
  exact this

theorem Quiet.k1 {t : Tok} (h : Quiet t) : (t.kind == 1) = false := by rcases h with h | ⟨h, _⟩ <;> simp [h]
theorem Quiet.k2 {t : Tok} (h : Quiet t) : (t.kind == 2) = false := by rcases h with h | ⟨h, _⟩ <;> simp [h]
theorem Quiet'.k1 {t : Tok} (h : Quiet' t) : (t.kind == 1) = false := by rcases h with h | ⟨h, _⟩ <;> simp [h]
theorem Quiet'.k2 {t : Tok} (h : Quiet' t) : (t.kind == 2) = false := by rcases h with h | ⟨h, _⟩ <;> simp [h]
theorem Quiet.op {t : Tok} (h : Quiet t) : opOf t = (0, 0) := by
  rcases h with h | ⟨h, e⟩
  · simp [opOf, h]
  · simp only [opOf, h, e]; decide
theorem Quiet'.op {t : Tok} (h : Quiet' t) : opOf t = (0, 0) := by rcases h with h | ⟨h, _⟩ <;> simp [opOf, h]
theorem TEq.op {t t' : Tok} (h : TEq t t') : opOf t' = opOf t := by simp only [opOf, h.k, h.x]

theorem bad_ret {α : Type} (E : Env l l' N A) {r r' : Rd} (h : SR l l' N A r r') {c : Int} (hc : c ≠ 0) (a : α) : Sim l l' N A r ((r.bad c).bind fun r => some (a, r)) ((r'.bad c).bind fun r => some (a, r)) :=
  (bad_sim E h hc).bind fun q q' hq => Sim.ret _ hq

theorem name_sim (E : Env l l' N A) {r r' : Rd} (h : SR l l' N A r r') (room : Bool) : Sim l l' N A r (r.name room) (r'.name room) := by
  refine Sim.wl E h (F := fun r => r.name room) (G := fun r => r.name room) fun r' h nr => ?_
  unfold Rd.name
  refine Sim.askP nr fun t t' ht ht' q => ?_
  rw [nr.g]
  rcases q with te | ⟨_, _, q, q'⟩
  · rw [te.k, te.x, nr.i]
    exact Sim.ite (fun _ => bad_ret E h (by decide) _) fun _ => Sim.ite (fun _ => bad_ret E h (by decide) _) fun _ => Sim.on _ h _ _ (Nat.le_succ _) fun _ => rfl
  · have e1 : (t.kind != 1) = true := by have := q.k1; simpa using this
    have e2 : (t'.kind != 1) = true := by have := q'.k1; simpa using this
    rw [e1, e2, Bool.or_true, if_pos rfl, if_pos rfl]
    exact bad_ret E h (by decide) _

theorem expr_sim (E : Env l l' N A) : ∀ n : Nat, (∀ r r' : Rd, SR l l' N A r r' → Sim l l' N A r (Rd.one n r) (Rd.one n r')) ∧ (∀ (r r' : Rd) (k : Int), SR l l' N A r r' → Sim l l' N A r (Rd.two n k r) (Rd.two n k r')) ∧
    (∀ (r r' : Rd) (k : Int) (x : Ex), SR l l' N A r r' → Sim l l' N A r (Rd.twoL n k x r) (Rd.twoL n k x r')) := by
  intro n
  induction n with
  | zero => exact ⟨fun r r' _ => by simp only [Rd.one]; exact Sim.non, fun r r' k _ => by simp only [Rd.two]; exact Sim.non, fun r r' k x _ => by simp only [Rd.twoL]; exact Sim.non⟩
  | succ n ih =>
    obtain ⟨ih1, ih2, ih3⟩ := ih
    refine ⟨fun r r' h => ?_, fun r r' k h => ?_, fun r r' k x h => ?_⟩
    · refine Sim.wl E h (F := Rd.one (n + 1)) (G := Rd.one (n + 1)) fun r' h nr => ?_
      simp only [Rd.one]
      refine Sim.askP nr fun t t' ht ht' q => ?_
      rw [nr.g, nr.i]
      refine Sim.ite (fun _ => Sim.ret _ h) fun _ => ?_
      have tail : Sim l l' N A r ((r.take [40]).bind fun p =>
        if p.1 then (Rd.two n 1 p.2).bind fun x => (x.2.want [41]).bind fun r => some (x.1, r)
        else (p.2.take [45]).bind fun p =>
          if p.1 then (Rd.one n p.2).bind fun x => some ((⟨3, 0, [], [x.1]⟩ : Ex), x.2)
          else (p.2.take [33]).bind fun p =>
            if p.1 then (Rd.one n p.2).bind fun x => some (⟨4, 0, [], [x.1]⟩, x.2)
            else (p.2.bad 3).bind fun r => some (ex0, r)) ((r'.take [40]).bind fun p =>
        if p.1 then (Rd.two n 1 p.2).bind fun x => (x.2.want [41]).bind fun r => some (x.1, r)
        else (p.2.take [45]).bind fun p =>
          if p.1 then (Rd.one n p.2).bind fun x => some ((⟨3, 0, [], [x.1]⟩ : Ex), x.2)
          else (p.2.take [33]).bind fun p =>
            if p.1 then (Rd.one n p.2).bind fun x => some (⟨4, 0, [], [x.1]⟩, x.2)
            else (p.2.bad 3).bind fun r => some (ex0, r)) := by
        refine (take_sim E h (by decide) (by decide)).bind fun a q q' hq => Sim.ite (fun _ => ?_) fun _ => ?_
        · refine (ih2 _ _ _ hq).bind fun x s s' hs => ?_
          exact (want_sim E hs (by decide) (by decide)).bind fun u u' hu => Sim.ret _ hu
        refine (take_sim E hq (by decide) (by decide)).bind fun a q q' hq => Sim.ite (fun _ => ?_) fun _ => ?_
        · exact (ih1 _ _ hq).bind fun x s s' hs => Sim.ret _ hs
        refine (take_sim E hq (by decide) (by decide)).bind fun a q q' hq => Sim.ite (fun _ => ?_) fun _ => ?_
        · exact (ih1 _ _ hq).bind fun x s s' hs => Sim.ret _ hs
        · exact bad_ret E hq (by decide) _
      rcases q with te | ⟨_, _, q, q'⟩
      · rw [te.k, te.x, te.n]
        exact Sim.ite (fun _ => Sim.on _ h _ _ (Nat.le_succ _) fun _ => rfl) fun _ => Sim.ite (fun _ => Sim.on _ h _ _ (Nat.le_succ _) fun _ => rfl) fun _ => tail
      · simp only [q.k1, q.k2, q'.k1, q'.k2, Bool.false_eq_true, ↓reduceIte]
        exact tail
    · simp only [Rd.two]
      exact (ih1 _ _ h).bind fun x s s' hs => ih3 _ _ _ _ hs
    · refine Sim.wl E h (F := Rd.twoL (n + 1) k x) (G := Rd.twoL (n + 1) k x) fun r' h nr => ?_
      simp only [Rd.twoL]
      rw [nr.g, nr.i]
      refine Sim.ite (fun _ => ?_) fun _ => Sim.ret _ h
      refine Sim.askP nr fun t t' ht ht' q => ?_
      rcases q with te | ⟨_, _, q, q'⟩
      · rw [te.op]
        refine Sim.ite (fun _ => Sim.ret _ h) fun _ => ?_
        intro p hp
        have hs : SR l l' N A { r with i := r.i + 1 } { r' with i := r.i + 1 } := h.set _ (Nat.le_succ _)
        obtain ⟨a, b, c⟩ := (Sim.bind (f := fun y => Rd.twoL n k ⟨(opOf t).1, 0, [], [x, y.1]⟩ y.2) (f' := fun y => Rd.twoL n k ⟨(opOf t).1, 0, [], [x, y.1]⟩ y.2) (ih2 _ _ ((opOf t).2 + 1) hs) fun y q q' hq => ih3 _ _ k _ hq) p hp
        exact ⟨Nat.le_trans (Nat.le_succ _) a, b, c⟩
      · rw [q.op, q'.op]
        have e : (decide ((0 : Int) < k) || (0 : Int) == 0) = true := by simp
        simp only [e, ↓reduceIte]
        exact Sim.ret _ h

theorem whole_sim (E : Env l l' N A) {n : Nat} {r r' : Rd} (h : SR l l' N A r r') : Sim l l' N A r (Rd.whole n r) (Rd.whole n r') := by
  refine Sim.wl E h (F := Rd.whole n) (G := Rd.whole n) fun r' h nr => ?_
  unfold Rd.whole
  refine Sim.askP nr fun t t' ht ht' q => ?_
  refine ((expr_sim E n).2.1 _ _ _ h).bind fun x s s' hs => ?_
  refine Sim.iteG hs (fun hg => Sim.same fun d _ => Sim.ite (fun _ => ?_) fun _ => Sim.ret _ hs) fun _ => Sim.ret _ hs
  intro p hp
  cases hp
  have hf : ({ s with code := 4, fat := t.pos } : Rd).good = false := rfl
  refine ⟨Nat.le_refl _, fun _ => hg, fun hc => ?_⟩
  rcases hc with hA | ⟨g, _⟩
  · have R := hs (.inl hA)
    have R0 := h (.inl hA)
    refine ⟨_, rfl, R.el, R.el', R.ei, R.en, rfl, .inr ⟨r.i, t, t', ?_, ?_, rfl, rfl⟩⟩
    · have := (peek_get ht).2.1; rw [R0.el] at this; exact this
    · have := (peek_get ht').2.1; rw [R0.el', R0.ei] at this; exact this
  · rw [hf] at g; cases g

theorem names_sim (E : Env l l' N A) {most : Int} : ∀ (n : Nat) (L : List Str) (r r' : Rd), SR l l' N A r r' → Sim l l' N A r (Rd.names n L most r) (Rd.names n L most r') := by
  intro n
  induction n with
  | zero => intro L r r' _; simp only [Rd.names]; exact Sim.non
  | succ n ih =>
    intro L r r' h
    simp only [Rd.names]
    refine Sim.iteG h (fun _ => ?_) fun _ => Sim.ret _ h
    exact (name_sim E h _).bind fun a q q' hq => Sim.same fun L' _ => (take_sim E hq (by decide) (by decide)).bind fun b s s' hs =>
      Sim.ite (fun _ => (want_sim E hs (by decide) (by decide)).bind fun u u' hu => Sim.ret _ hu) fun _ => ih _ _ _ hs

theorem ahead_sim (E : Env l l' N A) {r r' : Rd} {s : Str} (nr : Near N A r r') (h1 : s ≠ [125]) {b : Bool} (hb : r.ahead s = some b) : r'.ahead s = some b := by
  unfold Rd.ahead at hb ⊢
  rw [nr.g]
  cases hg : r.good
  · simp only [hg, Bool.false_eq_true, ↓reduceIte] at hb ⊢; exact hb
  · simp only [hg, ↓reduceIte] at hb ⊢
    rw [Option.bind_eq_some_iff] at hb
    obtain ⟨t, ht, hb⟩ := hb
    obtain ⟨t', ht', q⟩ := nr.pk t ht
    rw [ht', Option.bind_some]
    rcases q with te | ⟨_, _, q, q'⟩
    · rw [te.k]
      cases hk : t.kind == 1
      · simp only [hk, Bool.false_eq_true, ↓reduceIte] at hb ⊢; exact hb
      · simp only [hk, ↓reduceIte] at hb ⊢
        rw [Option.bind_eq_some_iff] at hb
        obtain ⟨u, hu, hb⟩ := hb
        obtain ⟨u', hu', qu⟩ := nr.pk2 t ht (by simpa using hk) u hu
        rw [hu', Option.bind_some]
        rcases qu with te | ⟨q, q'⟩
        · rw [te.k, te.x]; exact hb
        · cases hb
          have a1 : (u.kind == 4 && u.text == s) = false := by
            rcases q with q | ⟨_, q⟩
            · simp [q]
            · have : (u.text == s) = false := by rw [q]; simpa using fun e => h1 e.symm
              simp [this]
          have a2 : (u'.kind == 4 && u'.text == s) = false := by rcases q' with q | ⟨q, _⟩ <;> simp [q]
          rw [a1, a2]
    · rw [q.k1] at hb
      rw [q'.k1]
      simpa using hb

theorem labels_sim (E : Env l l' N A) : ∀ (n : Nat) (L : List Str) (r r' : Rd), SR l l' N A r r' → Sim l l' N A r (Rd.labels n L r) (Rd.labels n L r') := by
  intro n
  induction n with
  | zero => intro L r r' _; simp only [Rd.labels]; exact Sim.non
  | succ n ih =>
    intro L r r' h
    refine Sim.wl E h (F := Rd.labels (n + 1) L) (G := Rd.labels (n + 1) L) fun r' h nr => ?_
    simp only [Rd.labels]
    refine Sim.ask (fun b hb _ => ahead_sim E nr (by decide) hb) fun b hb => Sim.ite (fun hbt => ?_) fun _ => Sim.ret _ h
    refine Sim.askP nr fun t t' ht ht' q => ?_
    have hx : t'.text = t.text := by
      rcases q with te | ⟨_, _, q, _⟩
      · exact te.x
      · exfalso
        subst hbt
        unfold Rd.ahead at hb
        split at hb
        · rw [ht, Option.bind_some, q.k1] at hb
          simp at hb
        · cases hb
    rw [hx, nr.i]
    refine Sim.same fun L' _ => ?_
    intro p hp
    obtain ⟨a, b, c⟩ := ih L' _ _ (h.set (r.i + 2) (by omega)) p hp
    exact ⟨Nat.le_trans (by dsimp only; omega) a, b, c⟩
end

end Go.Abs

/-! Sim3 -/

namespace Go.Abs
set_option linter.unusedSimpArgs false
set_option linter.unusedVariables false

section
variable {l l' : List Tok} {N : Nat} {A : Prop}

theorem callL_sim (E : Env l l' N A) {m : Nat} : ∀ (n : Nat) (L : List Ar) (r r' : Rd), SR l l' N A r r' → Sim l l' N A r (Rd.callL m n L r) (Rd.callL m n L r') := by
  intro n
  induction n with
  | zero => intro L r r' _; simp only [Rd.callL]; exact Sim.non
  | succ n ih =>
    intro L r r' h
    simp only [Rd.callL]
    refine Sim.iteG h (fun _ => ?_) fun _ => Sim.ret _ h
    refine (take_sim E h (by decide) (by decide)).bind fun a q q' hq => Sim.ite (fun _ => ?_) fun _ => ?_
    · refine (name_sim E hq _).bind fun b s s' hs => Sim.same fun L' _ => ?_
      exact (take_sim E hs (by decide) (by decide)).bind fun c u u' hu => Sim.ite (fun _ => Sim.ret _ hu) fun _ => ih _ _ _ hu
    · refine (whole_sim E hq).bind fun b s s' hs => Sim.same fun L' _ => ?_
      exact (take_sim E hs (by decide) (by decide)).bind fun c u u' hu => Sim.ite (fun _ => Sim.ret _ hu) fun _ => ih _ _ _ hu

theorem other_sim (E : Env l l' N A) {r r' : Rd} (h : SR l l' N A r r') {s : Str} (h1 : s ≠ [125]) (h2 : s ≠ [112, 114, 111, 99]) {b : Bool} (hb : r.other s = some b) (hc : Cnd N A r) : r'.other s = some b := by
  unfold Rd.other at hb ⊢
  rw [h.goods hc]
  cases hg : r.good
  · simp only [hg, Bool.false_eq_true, ↓reduceIte] at hb ⊢; exact hb
  · simp only [hg, ↓reduceIte] at hb ⊢
    rw [Option.bind_eq_some_iff] at hb
    obtain ⟨c, h3, hb⟩ := hb
    rw [is_sim E h h1 h2 h3 hc]
    exact hb

theorem call_sim (E : Env l l' N A) {m : Nat} {name proc : Str} {r r' : Rd} (h : SR l l' N A r r') : Sim l l' N A r (Rd.call m name proc r) (Rd.call m name proc r') := by
  unfold Rd.call
  refine (want_sim E h (by decide) (by decide)).bind fun q q' hq => ?_
  refine Sim.ask (fun b hb hc => other_sim E hq (by decide) (by decide) hb hc) fun b _ => Sim.ite (fun _ => ?_) fun _ => ?_
  · refine (callL_sim E _ _ _ _ hq).bind fun a s s' hs => ?_
    exact (want_sim E hs (by decide) (by decide)).bind fun u u' hu => (want_sim E hu (by decide) (by decide)).bind fun v v' hv => Sim.ret _ hv
  · exact (want_sim E hq (by decide) (by decide)).bind fun u u' hu => (want_sim E hu (by decide) (by decide)).bind fun v v' hv => Sim.ret _ hv

theorem Sim.aheadB {α : Type} (E : Env l l' N A) {r r' : Rd} (h : SR l l' N A r r') {s : Str} (h1 : s ≠ [125]) {f f' : Bool → Option (α × Rd)} (k : ∀ b, Sim l l' N A r (f b) (f' b)) : Sim l l' N A r ((r.ahead s).bind f) ((r'.ahead s).bind f') :=
  Sim.ask (fun b hb hc => ahead_sim E (near_of E h hc) h1 hb) fun b _ => k b

theorem named_sim (E : Env l l' N A) {m : Nat} {r r' : Rd} (h : SR l l' N A r r') : Sim l l' N A r (Rd.named m r) (Rd.named m r') := by
  unfold Rd.named
  refine (name_sim E h _).bind fun a q q' hq => ?_
  refine Sim.ask (fun b hb hc => is_sim E hq (by decide) (by decide) hb hc) fun b _ => Sim.ite (fun _ => call_sim E hq) fun _ => ?_
  refine (want_sim E hq (by decide) (by decide)).bind fun u u' hu => ?_
  refine Sim.aheadB E hu (by decide) fun b => Sim.ite (fun _ => ?_) fun _ => ?_
  · exact (name_sim E hu _).bind fun c s s' hs => call_sim E hs
  · exact (whole_sim E hu).bind fun c s s' hs => (want_sim E hs (by decide) (by decide)).bind fun v v' hv => Sim.ret _ hv

theorem plain_sim (E : Env l l' N A) {m : Nat} {word : Str} {r r' : Rd} (h : SR l l' N A r r') : Sim l l' N A r (Rd.plain m word r) (Rd.plain m word r') := by
  unfold Rd.plain
  refine Sim.ite (fun _ => Sim.ret _ h) fun _ => Sim.ite (fun _ => Sim.ret _ h) fun _ => Sim.ite (fun _ => ?_) fun _ => ?_
  · refine Sim.ask (fun b hb hc => is_sim E h (by decide) (by decide) hb hc) fun b _ => Sim.ite (fun _ => ?_) fun _ => Sim.ret _ h
    exact (whole_sim E h).bind fun a s s' hs => Sim.ret _ hs
  refine Sim.ite (fun _ => (name_sim E h _).bind fun a s s' hs => Sim.ret _ hs) fun _ => Sim.ite (fun _ => (name_sim E h _).bind fun a s s' hs => Sim.ret _ hs) fun _ => Sim.ite (fun _ => ?_) fun _ => Sim.ret _ h
  exact (whole_sim E h).bind fun a s s' hs => Sim.ret _ hs

theorem head_sim (E : Env l l' N A) {m : Nat} {r r' : Rd} (h : SR l l' N A r r') : Sim l l' N A r (Rd.head m r) (Rd.head m r') := by
  unfold Rd.head
  refine (want_sim E h (by decide) (by decide)).bind fun q q' hq => ?_
  exact (whole_sim E hq).bind fun a s s' hs => (want_sim E hs (by decide) (by decide)).bind fun v v' hv => Sim.ret _ hv

theorem begins_sim {r r' : Rd} (nr : Near N A r r') {b : Bool} (hb : r.begins = some b) : r'.begins = some b := by
  unfold Rd.begins at hb ⊢
  rw [Option.bind_eq_some_iff] at hb
  obtain ⟨t, ht, hb⟩ := hb
  obtain ⟨t', ht', q⟩ := nr.pk t ht
  rw [ht', Option.bind_some]
  rcases q with te | ⟨_, _, q, q'⟩
  · rw [te.k, te.x]; exact hb
  · cases hb
    have e1 : (t.kind != 3) = true := by rcases q with q | ⟨q, _⟩ <;> simp [q]
    simp only [q.k1, q'.k1, e1, Bool.false_eq_true, ↓reduceIte]
    rcases q' with q | ⟨q, e⟩
    · simp [q]
    · rw [q, e]; rfl

theorem SR.setn {r r' : Rd} (h : SR l l' N A r r') (k : Nat) : SR l l' N A { r with n := k } { r' with n := k } := by
  intro hc
  have := h (hc.back (r := r) (Nat.le_refl _) id)
  exact ⟨this.el, this.el', this.ei, rfl, this.ec, this.ef⟩
/-- The same, from a state in which only the count or the place is another one. -/
theorem Sim.from {α : Type} {r s : Rd} {o o' : Option (α × Rd)} (h : Sim l l' N A s o o') (hi : r.i ≤ s.i) (hg : s.good = true → r.good = true) : Sim l l' N A r o o' := by
  intro p hp
  obtain ⟨a, b, c⟩ := h p hp
  exact ⟨Nat.le_trans hi a, fun g => hg (b g), c⟩

/-- At the place no statement begins. -/
theorem stmt_quiet {m n : Nat} {nest : Int} {r : Rd} {t : Tok} (ht : r.peek = some t) (q : Quiet t) {p : Sm × Rd} (hp : Rd.stmt m n nest r = some p) : p.2.good = false := by
  cases n with
  | zero => simp only [Rd.stmt] at hp; cases hp
  | succ n =>
    have e1 : (t.kind != 3) = true := by rcases q with q | ⟨q, _⟩ <;> simp [q]
    simp only [Rd.stmt, Rd.begins, ht, Option.bind_some, q.k1, e1, Bool.false_eq_true, ↓reduceIte, Bool.not_false] at hp
    rw [Option.bind_eq_some_iff] at hp
    obtain ⟨r1, h1, hp⟩ := hp
    cases hp
    unfold Rd.bad at h1
    split at h1
    · rw [ht, Option.bind_some] at h1
      cases h1; rfl
    · rename_i hg
      cases h1
      simpa using hg

theorem rowsL_bad {m n : Nat} {nest : Int} {body : Bool} {out : List Sm} {r : Rd} (hg : r.good = false) {p : (List Sm × List Str) × Rd} (hp : Rd.rowsL m n nest body out r = some p) : p.2.good = false := by
  cases n with
  | zero => simp only [Rd.rowsL] at hp; cases hp
  | succ n =>
    simp only [Rd.rowsL, hg, Bool.false_eq_true, ↓reduceIte] at hp
    cases hp
    exact hg

theorem stmts_sim (E : Env l l' N A) {m : Nat} : ∀ n : Nat,
    (∀ (nest : Int) (body : Bool) (r r' : Rd), SR l l' N A r r' → Sim l l' N A r (Rd.rows m n nest body r) (Rd.rows m n nest body r')) ∧
    (∀ (nest : Int) (body : Bool) (out : List Sm) (r r' : Rd), SR l l' N A r r' → Sim l l' N A r (Rd.rowsL m n nest body out r) (Rd.rowsL m n nest body out r')) ∧
    (∀ (nest : Int) (r r' : Rd), SR l l' N A r r' → Sim l l' N A r (Rd.stmt m n nest r) (Rd.stmt m n nest r')) ∧
    (∀ (nest : Int) (r r' : Rd), SR l l' N A r r' → Sim l l' N A r (Rd.block m n nest r) (Rd.block m n nest r')) ∧
    (∀ (nest : Int) (r r' : Rd), SR l l' N A r r' → Sim l l' N A r (Rd.choice m n nest r) (Rd.choice m n nest r')) := by
  intro n
  induction n with
  | zero =>
    refine ⟨fun _ _ r r' _ => ?_, fun _ _ _ r r' _ => ?_, fun _ r r' _ => ?_, fun _ r r' _ => ?_, fun _ r r' _ => ?_⟩
    · simp only [Rd.rows]; exact Sim.non
    · simp only [Rd.rowsL]; exact Sim.non
    · simp only [Rd.stmt]; exact Sim.non
    · simp only [Rd.block]; exact Sim.non
    · simp only [Rd.choice]; exact Sim.non
  | succ n ih =>
    obtain ⟨i1, i2, i3, i4, i5⟩ := ih
    refine ⟨fun nest body r r' h => ?_, fun nest body out r r' h => ?_, fun nest r r' h => ?_, fun nest r r' h => ?_, fun nest r r' h => ?_⟩
    · simp only [Rd.rows]
      exact i2 _ _ _ _ _ h
    · simp only [Rd.rowsL]
      refine Sim.iteG h (fun hg => ?_) fun _ => Sim.ret _ h
      refine (labels_sim E m [] _ _ h).bind fun ls q q' hq => ?_
      have go : ∀ (q' : Rd) (b : Bool), SR l l' N A q q' → q'.i = q.i → Sim l l' N A q (if b && (body || (ls.length : Int) == 0) then some ((out, ls), { q with i := q.i + 1 }) else (Rd.stmt m n nest q).bind fun s => (push 209 out { s.1 with labels := ls }).bind fun out => Rd.rowsL m n nest body out s.2)
          (if b && (body || (ls.length : Int) == 0) then some ((out, ls), { q' with i := q'.i + 1 }) else (Rd.stmt m n nest q').bind fun s => (push 209 out { s.1 with labels := ls }).bind fun out => Rd.rowsL m n nest body out s.2) := by
        intro q' b hq hi
        refine Sim.ite (fun _ => Sim.on _ hq _ _ (Nat.le_succ _) fun _ => by rw [hi]) fun _ => ?_
        exact (i3 _ _ _ hq).bind fun s u u' hu => Sim.same fun out' _ => i2 _ _ _ _ _ hu
      have := Sim.wl E hq (F := fun q => (q.is [125]).bind fun b => if b && (body || (ls.length : Int) == 0) then some ((out, ls), { q with i := q.i + 1 }) else (Rd.stmt m n nest q).bind fun s => (push 209 out { s.1 with labels := ls }).bind fun out => Rd.rowsL m n nest body out s.2)
        (G := fun q => (q.is [125]).bind fun b => if b && (body || (ls.length : Int) == 0) then some ((out, ls), { q with i := q.i + 1 }) else (Rd.stmt m n nest q).bind fun s => (push 209 out { s.1 with labels := ls }).bind fun out => Rd.rowsL m n nest body out s.2) fun q' hq nr => by
          unfold Rd.is
          rw [Option.bind_assoc, Option.bind_assoc]
          refine Sim.askP nr fun t t' ht ht' x => ?_
          rw [Option.bind_some, Option.bind_some]
          rcases x with te | ⟨hA, hN, x, x'⟩
          · rw [te.k, te.x]
            exact go q' _ hq nr.i
          · refine Sim.void (go q' _ hq nr.i) fun p hp hc => ?_
            rcases hc with hc | ⟨hg2, hi2⟩
            · exact hA hc
            · split at hp
              · cases hp
                dsimp only at hi2
                omega
              · rw [Option.bind_eq_some_iff] at hp
                obtain ⟨s, h1, hp⟩ := hp
                rw [Option.bind_eq_some_iff] at hp
                obtain ⟨out', _, hp⟩ := hp
                have := rowsL_bad (stmt_quiet ht x h1) hp
                rw [this] at hg2; cases hg2
      exact this
    · refine Sim.wl E h (F := Rd.stmt m (n + 1) nest) (G := Rd.stmt m (n + 1) nest) fun r' h nr => ?_
      simp only [Rd.stmt]
      refine Sim.ask (fun b hb _ => begins_sim nr hb) fun b hb => Sim.ite (fun _ => bad_ret E h (by decide) _) fun hnb => ?_
      rw [nr.n]
      refine Sim.same fun k _ => ?_
      have hk := h.setn k
      refine Sim.ite (fun _ => (bad_ret E hk (by decide) _).from (Nat.le_refl _) id) fun _ => ?_
      have nk : Near N A { r with n := k } { r' with n := k } := ⟨nr.g, nr.i, rfl, nr.pk, nr.pk2⟩
      have hki : SR l l' N A { r with n := k, i := r.i + 1 } { r' with n := k, i := r'.i + 1 } := by
        have := hk.set (r.i + 1) (Nat.le_succ _)
        dsimp only at this
        rw [nr.i]
        exact this
      refine Sim.from (s := { r with n := k }) ?_ (Nat.le_refl _) id
      refine Sim.askP nk fun t t' ht ht' q => ?_
      have part : ∀ t : Tok, Sim l l' N A { r with n := k } (if t.kind == 1 then Rd.named m { r with n := k }
          else if t.text == [105, 102] then Rd.choice m n nest { r with n := k, i := r.i + 1 }
          else if t.text == [119, 104, 105, 108, 101] then (Rd.head m { r with n := k, i := r.i + 1 }).bind fun x => (Rd.block m n nest x.2).bind fun b => some (⟨0, 6, [], [], [], x.1, false, [], b.1, []⟩, b.2)
          else (Rd.plain m t.text { r with n := k, i := r.i + 1 }).bind fun s => (s.2.want [59]).bind fun r => some (s.1, r))
          (if t.kind == 1 then Rd.named m { r' with n := k }
          else if t.text == [105, 102] then Rd.choice m n nest { r' with n := k, i := r'.i + 1 }
          else if t.text == [119, 104, 105, 108, 101] then (Rd.head m { r' with n := k, i := r'.i + 1 }).bind fun x => (Rd.block m n nest x.2).bind fun b => some (⟨0, 6, [], [], [], x.1, false, [], b.1, []⟩, b.2)
          else (Rd.plain m t.text { r' with n := k, i := r'.i + 1 }).bind fun s => (s.2.want [59]).bind fun r => some (s.1, r)) := by
        intro t
        refine Sim.ite (fun _ => named_sim E hk) fun _ => Sim.from (s := { r with n := k, i := r.i + 1 }) ?_ (Nat.le_succ _) id
        refine Sim.ite (fun _ => i5 _ _ _ hki) fun _ => Sim.ite (fun _ => ?_) fun _ => ?_
        · exact (head_sim E hki).bind fun a s s' hs => (i4 _ _ _ hs).bind fun b u u' hu => Sim.ret _ hu
        · exact (plain_sim E hki).bind fun a s s' hs => (want_sim E hs (by decide) (by decide)).bind fun u u' hu => Sim.ret _ hu
      rcases q with te | ⟨hA, hN, q, q'⟩
      · rw [te.k, te.x]
        exact part t
      · exfalso
        have ht : r.peek = some t := ht
        have e1 : (t.kind != 3) = true := by rcases q with q | ⟨q, _⟩ <;> simp [q]
        simp only [Rd.begins, ht, Option.bind_some, q.k1, e1, Bool.false_eq_true, ↓reduceIte] at hb
        cases hb
        simp at hnb
    · simp only [Rd.block]
      refine (want_sim E h (by decide) (by decide)).bind fun q q' hq => Sim.same fun k _ => ?_
      exact (i1 _ _ _ _ hq).bind fun a s s' hs => Sim.ret _ hs
    · simp only [Rd.choice]
      refine (head_sim E h).bind fun a q q' hq => (i4 _ _ _ hq).bind fun b s s' hs => ?_
      refine (take_sim E hs (by decide) (by decide)).bind fun c u u' hu => Sim.ite (fun _ => ?_) fun _ => Sim.ret _ hu
      exact (i4 _ _ _ hu).bind fun d v v' hv => Sim.ret _ hv
end

end Go.Abs

/-! Sim4 -/

namespace Go.Abs
set_option linter.unusedSimpArgs false
set_option linter.unusedVariables false

section
variable {l l' : List Tok} {N : Nat} {A : Prop}

theorem params_sim (E : Env l l' N A) : ∀ (n : Nat) (L : List Pm) (r r' : Rd), SR l l' N A r r' → Sim l l' N A r (Rd.params n L r) (Rd.params n L r') := by
  intro n
  induction n with
  | zero => intro L r r' _; simp only [Rd.params]; exact Sim.non
  | succ n ih =>
    intro L r r' h
    simp only [Rd.params]
    refine Sim.iteG h (fun _ => ?_) fun _ => Sim.ret _ h
    refine (take_sim E h (by decide) (by decide)).bind fun a q q' hq => (name_sim E hq _).bind fun b s s' hs => Sim.same fun L' _ => ?_
    exact (take_sim E hs (by decide) (by decide)).bind fun c u u' hu => Sim.ite (fun _ => Sim.ret _ hu) fun _ => ih _ _ _ hu

theorem vars_sim (E : Env l l' N A) {m : Nat} : ∀ (n : Nat) (L : List Str) (r r' : Rd), SR l l' N A r r' → Sim l l' N A r (Rd.vars m n L r) (Rd.vars m n L r') := by
  intro n
  induction n with
  | zero => intro L r r' _; simp only [Rd.vars]; exact Sim.non
  | succ n ih =>
    intro L r r' h
    simp only [Rd.vars]
    refine (take_sim E h (by decide) (by decide)).bind fun a q q' hq => Sim.ite (fun _ => ?_) fun _ => Sim.ret _ hq
    exact (names_sim E _ _ _ _ hq).bind fun b s s' hs => ih _ _ _ hs

theorem globals_sim (E : Env l l' N A) {m : Nat} : ∀ (n : Nat) (L : List Str) (r r' : Rd), SR l l' N A r r' → Sim l l' N A r (Rd.globals m n L r) (Rd.globals m n L r') := by
  intro n
  induction n with
  | zero => intro L r r' _; simp only [Rd.globals]; exact Sim.non
  | succ n ih =>
    intro L r r' h
    simp only [Rd.globals]
    refine (take_sim E h (by decide) (by decide)).bind fun a q q' hq => Sim.ite (fun _ => ?_) fun _ => Sim.ret _ hq
    exact (names_sim E _ _ _ _ hq).bind fun b s s' hs => ih _ _ _ hs

theorem procB_sim (E : Env l l' N A) {m : Nat} {name : Str} {ps : List Pm} {r r' : Rd} (h : SR l l' N A r r') : Sim l l' N A r (Rd.procB m name ps r) (Rd.procB m name ps r') := by
  unfold Rd.procB
  exact (vars_sim E _ _ _ _ h).bind fun a q q' hq => ((stmts_sim E _).1 _ _ _ _ hq).bind fun b s s' hs => Sim.ret _ hs

theorem proc_sim (E : Env l l' N A) {m : Nat} {r r' : Rd} (h : SR l l' N A r r') : Sim l l' N A r (Rd.proc m r) (Rd.proc m r') := by
  unfold Rd.proc
  refine (name_sim E h _).bind fun a q q' hq => (want_sim E hq (by decide) (by decide)).bind fun u u' hu => ?_
  refine Sim.ask (fun b hb hc => other_sim E hu (by decide) (by decide) hb hc) fun b _ => Sim.ite (fun _ => ?_) fun _ => ?_
  · refine (params_sim E _ _ _ _ hu).bind fun c s s' hs => (want_sim E hs (by decide) (by decide)).bind fun v v' hv => ?_
    exact (want_sim E hv (by decide) (by decide)).bind fun w w' hw => procB_sim E hw
  · exact (want_sim E hu (by decide) (by decide)).bind fun v v' hv => (want_sim E hv (by decide) (by decide)).bind fun w w' hw => procB_sim E hw

/-! ### Everywhere alike -/

theorem isProc_all (E : Env l l' N True) {r r' : Rd} (h : SR l l' N True r r') {b : Bool} (hb : r.isProc = some b) : r'.isProc = some b := by
  have hc : Cnd N True r := .inl trivial
  unfold Rd.isProc Rd.is at hb ⊢
  rw [h.goods hc]
  cases hg : r.good
  · simp only [hg, Bool.false_eq_true, ↓reduceIte] at hb ⊢; exact hb
  · simp only [hg, ↓reduceIte] at hb ⊢
    rw [Option.bind_eq_some_iff] at hb
    obtain ⟨t, ht, hb⟩ := hb
    obtain ⟨t', e, te⟩ := peek_low E h hc (.inl trivial) ht
    rw [e, Option.bind_some, te.k, te.x]
    exact hb
theorem notEnd_all (E : Env l l' N True) {r r' : Rd} (h : SR l l' N True r r') {b : Bool} (hb : r.notEnd = some b) : r'.notEnd = some b := by
  have hc : Cnd N True r := .inl trivial
  unfold Rd.notEnd at hb ⊢
  rw [h.goods hc]
  cases hg : r.good
  · simp only [hg, Bool.false_eq_true, ↓reduceIte] at hb ⊢; exact hb
  · simp only [hg, ↓reduceIte] at hb ⊢
    rw [Option.bind_eq_some_iff] at hb
    obtain ⟨t, ht, hb⟩ := hb
    obtain ⟨t', e, te⟩ := peek_low E h hc (.inl trivial) ht
    rw [e, Option.bind_some, te.k]
    exact hb

theorem procs_all (E : Env l l' N True) {m : Nat} : ∀ (n : Nat) (L : List Pc) (r r' : Rd), SR l l' N True r r' → Sim l l' N True r (Rd.procs m n L r) (Rd.procs m n L r') := by
  intro n
  induction n with
  | zero => intro L r r' _; simp only [Rd.procs]; exact Sim.non
  | succ n ih =>
    intro L r r' h
    simp only [Rd.procs]
    refine Sim.ask (fun b hb _ => isProc_all E h hb) fun b _ => Sim.ite (fun _ => Sim.ite (fun _ => bad_ret E h (by decide) _) fun _ => ?_) fun _ => ?_
    · have R := h (.inl trivial)
      rw [R.ei]
      refine Sim.from (s := { r with i := r.i + 1 }) ?_ (Nat.le_succ _) id
      exact (proc_sim E (h.set _ (Nat.le_succ _))).bind fun a q q' hq => Sim.same fun L' _ => ih _ _ _ hq
    · exact Sim.ask (fun b hb _ => notEnd_all E h hb) fun b _ => Sim.ite (fun _ => bad_ret E h (by decide) _) fun _ => Sim.ret _ h

theorem program_all (E : Env l l' N True) {m : Nat} {r r' : Rd} (h : SR l l' N True r r') : Sim l l' N True r (Rd.program m r) (Rd.program m r') := by
  unfold Rd.program
  exact (globals_sim E _ _ _ _ h).bind fun a q q' hq => (procs_all E _ _ _ _ hq).bind fun b s s' hs => Sim.ret _ hs
end

end Go.Abs

/-! MirNum -/

namespace Go.Abs
set_option linter.unusedSimpArgs false
set_option linter.unusedVariables false

/-- If it answers, then so. -/
def Pt {α : Type} (o : Option α) (Q : α → Prop) : Prop := ∀ a, o = some a → Q a
theorem Pt.bind {α β : Type} {o : Option α} {f : α → Option β} {Q : α → Prop} {R : β → Prop} (h : Pt o Q) (k : ∀ a, Q a → Pt (f a) R) : Pt (o.bind f) R := by
  intro b hb
  rw [Option.bind_eq_some_iff] at hb
  obtain ⟨a, h1, h2⟩ := hb
  exact k a (h a h1) b h2
theorem Pt.any {α β : Type} {o : Option α} {f : α → Option β} {R : β → Prop} (k : ∀ a, Pt (f a) R) : Pt (o.bind f) R := by
  intro b hb
  rw [Option.bind_eq_some_iff] at hb
  obtain ⟨a, h1, h2⟩ := hb
  exact k a b h2
theorem Pt.some {α : Type} {a : α} {Q : α → Prop} (h : Q a) : Pt (some a) Q := fun b hb => by cases hb; exact h
theorem Pt.none {α : Type} {Q : α → Prop} : Pt (none : Option α) Q := fun b hb => by cases hb
theorem Pt.ite {α : Type} {c : Prop} [Decidable c] {a b : Option α} {Q : α → Prop} (h1 : c → Pt a Q) (h2 : ¬ c → Pt b Q) : Pt (if c then a else b) Q := by
  by_cases h : c
  · rw [if_pos h]; exact h1 h
  · rw [if_neg h]; exact h2 h
theorem Pt.mono {α : Type} {o : Option α} {Q R : α → Prop} (h : Pt o Q) (k : ∀ a, Q a → R a) : Pt o R := fun a ha => k a (h a ha)

structure Keep (a b : Rd) : Prop where
  l : b.l = a.l
  n : b.n = a.n
  g : b.good = true → a.good = true
theorem Keep.refl (r : Rd) : Keep r r := ⟨rfl, rfl, id⟩
theorem Keep.i {a b : Rd} (h : Keep a b) (k : Nat) : Keep a { b with i := k } := ⟨h.l, h.n, h.g⟩
theorem Keep.f {a b : Rd} (h : Keep a b) (hg : b.good = true) (c f : Int) : Keep a { b with code := c, fat := f } := ⟨h.l, h.n, fun _ => h.g hg⟩
theorem bad_k {r0 r : Rd} (h : Keep r0 r) (c : Int) : Pt (r.bad c) (Keep r0) := by
  unfold Rd.bad
  exact Pt.ite (fun hg => Pt.any fun t => Pt.some (h.f hg _ _)) (fun _ => Pt.some h)
theorem take_k {r0 r : Rd} (h : Keep r0 r) (s : Str) : Pt (r.take s) (fun p => Keep r0 p.2) := by
  unfold Rd.take
  exact Pt.ite (fun hg => Pt.some h) (fun _ => Pt.any fun b => Pt.ite (fun _ => Pt.some h) (fun _ => Pt.some (h.i _)))
theorem want_k {r0 r : Rd} (h : Keep r0 r) (s : Str) : Pt (r.want s) (Keep r0) := by
  unfold Rd.want
  exact (take_k h s).bind fun p hp => Pt.ite (fun _ => bad_k hp _) (fun _ => Pt.some hp)
theorem name_k {r0 r : Rd} (h : Keep r0 r) (room : Bool) : Pt (r.name room) (fun p => Keep r0 p.2) := by
  unfold Rd.name
  exact Pt.any fun t => Pt.ite (fun _ => (bad_k h _).bind fun r hr => Pt.some hr) (fun _ => Pt.ite (fun _ => (bad_k h _).bind fun r hr => Pt.some hr) (fun _ => Pt.some (h.i _)))

theorem expr_k {r0 : Rd} : ∀ n : Nat, (∀ r : Rd, Keep r0 r → Pt (Rd.one n r) (fun p => Keep r0 p.2)) ∧ (∀ (r : Rd) (k : Int), Keep r0 r → Pt (Rd.two n k r) (fun p => Keep r0 p.2)) ∧
    (∀ (r : Rd) (k : Int) (x : Ex), Keep r0 r → Pt (Rd.twoL n k x r) (fun p => Keep r0 p.2)) := by
  intro n
  induction n with
  | zero => exact ⟨fun r _ => by simp only [Rd.one]; exact Pt.none, fun r k _ => by simp only [Rd.two]; exact Pt.none, fun r k x _ => by simp only [Rd.twoL]; exact Pt.none⟩
  | succ n ih =>
    obtain ⟨ih1, ih2, ih3⟩ := ih
    refine ⟨fun r h => ?_, fun r k h => ?_, fun r k x h => ?_⟩
    · simp only [Rd.one]
      refine Pt.any fun t => Pt.ite (fun _ => Pt.some h) fun _ => Pt.ite (fun _ => Pt.some (h.i _)) fun _ => Pt.ite (fun _ => Pt.some (h.i _)) fun _ => ?_
      refine (take_k h _).bind fun p hp => Pt.ite (fun _ => (ih2 _ _ hp).bind fun x hx => (want_k hx _).bind fun r hr => Pt.some hr) fun _ => ?_
      refine (take_k hp _).bind fun p hp => Pt.ite (fun _ => (ih1 _ hp).bind fun x hx => Pt.some hx) fun _ => ?_
      refine (take_k hp _).bind fun p hp => Pt.ite (fun _ => (ih1 _ hp).bind fun x hx => Pt.some hx) fun _ => ?_
      exact (bad_k hp _).bind fun r hr => Pt.some hr
    · simp only [Rd.two]
      exact (ih1 _ h).bind fun x hx => ih3 _ _ _ hx
    · simp only [Rd.twoL]
      exact Pt.ite (fun _ => Pt.any fun t => Pt.ite (fun _ => Pt.some h) fun _ => (ih2 _ _ (h.i _)).bind fun y hy => ih3 _ _ _ hy) (fun _ => Pt.some h)

theorem whole_k {n : Nat} {r0 r : Rd} (h : Keep r0 r) : Pt (Rd.whole n r) (fun p => Keep r0 p.2) := by
  unfold Rd.whole
  exact Pt.any fun t => ((expr_k n).2.1 _ _ h).bind fun x hx => Pt.ite (fun hg => Pt.any fun d => Pt.ite (fun _ => Pt.some (hx.f hg _ _)) fun _ => Pt.some hx) fun _ => Pt.some hx

theorem names_k {most : Int} {r0 : Rd} : ∀ (n : Nat) (l : List Str) (r : Rd), Keep r0 r → Pt (Rd.names n l most r) (fun p => Keep r0 p.2) := by
  intro n
  induction n with
  | zero => intro l r _; simp only [Rd.names]; exact Pt.none
  | succ n ih =>
    intro l r h
    simp only [Rd.names]
    exact Pt.ite (fun _ => (name_k h _).bind fun p hp => Pt.any fun l => (take_k hp _).bind fun q hq => Pt.ite (fun _ => (want_k hq _).bind fun r hr => Pt.some hr) fun _ => ih _ _ hq) fun _ => Pt.some h

theorem labels_k {r0 : Rd} : ∀ (n : Nat) (l : List Str) (r : Rd), Keep r0 r → Pt (Rd.labels n l r) (fun p => Keep r0 p.2) := by
  intro n
  induction n with
  | zero => intro l r _; simp only [Rd.labels]; exact Pt.none
  | succ n ih =>
    intro l r h
    simp only [Rd.labels]
    exact Pt.any fun b => Pt.ite (fun _ => Pt.any fun t => Pt.any fun l => ih _ _ (h.i _)) fun _ => Pt.some h

theorem callL_k {m : Nat} {r0 : Rd} : ∀ (n : Nat) (l : List Ar) (r : Rd), Keep r0 r → Pt (Rd.callL m n l r) (fun p => Keep r0 p.2) := by
  intro n
  induction n with
  | zero => intro l r _; simp only [Rd.callL]; exact Pt.none
  | succ n ih =>
    intro l r h
    simp only [Rd.callL]
    refine Pt.ite (fun _ => (take_k h _).bind fun p hp => Pt.ite (fun _ => ?_) fun _ => ?_) fun _ => Pt.some h
    · exact (name_k hp _).bind fun x hx => Pt.any fun l => (take_k hx _).bind fun c hc => Pt.ite (fun _ => Pt.some hc) fun _ => ih _ _ hc
    · exact (whole_k hp).bind fun x hx => Pt.any fun l => (take_k hx _).bind fun c hc => Pt.ite (fun _ => Pt.some hc) fun _ => ih _ _ hc

/-- A statement in which none stands. -/
def SmK (r0 : Rd) (p : Sm × Rd) : Prop := Keep r0 p.2 ∧ p.1.thn = [] ∧ p.1.els = []

theorem call_k {m : Nat} {name proc : Str} {r0 r : Rd} (h : Keep r0 r) : Pt (Rd.call m name proc r) (SmK r0) := by
  unfold Rd.call
  refine (want_k h _).bind fun r hr => Pt.any fun b => Pt.ite (fun _ => ?_) fun _ => ?_
  · exact (callL_k _ _ _ hr).bind fun q hq => (want_k hq _).bind fun r hr => (want_k hr _).bind fun r hr => Pt.some ⟨hr, rfl, rfl⟩
  · exact (want_k hr _).bind fun r hr => (want_k hr _).bind fun r hr => Pt.some ⟨hr, rfl, rfl⟩

theorem named_k {m : Nat} {r0 r : Rd} (h : Keep r0 r) : Pt (Rd.named m r) (SmK r0) := by
  unfold Rd.named
  refine (name_k h _).bind fun x hx => Pt.any fun b => Pt.ite (fun _ => call_k hx) fun _ => (want_k hx _).bind fun r hr => Pt.any fun b => Pt.ite (fun _ => ?_) fun _ => ?_
  · exact (name_k hr _).bind fun y hy => call_k hy
  · exact (whole_k hr).bind fun y hy => (want_k hy _).bind fun r hr => Pt.some ⟨hr, rfl, rfl⟩

theorem plain_k {m : Nat} {word : Str} {r0 r : Rd} (h : Keep r0 r) : Pt (Rd.plain m word r) (SmK r0) := by
  unfold Rd.plain
  refine Pt.ite (fun _ => Pt.some ⟨h, rfl, rfl⟩) fun _ => Pt.ite (fun _ => Pt.some ⟨h, rfl, rfl⟩) fun _ => Pt.ite (fun _ => Pt.any fun b => Pt.ite (fun _ => (whole_k h).bind fun x hx => Pt.some ⟨hx, rfl, rfl⟩) fun _ => Pt.some ⟨h, rfl, rfl⟩) fun _ => ?_
  refine Pt.ite (fun _ => (name_k h _).bind fun x hx => Pt.some ⟨hx, rfl, rfl⟩) fun _ => Pt.ite (fun _ => (name_k h _).bind fun x hx => Pt.some ⟨hx, rfl, rfl⟩) fun _ => Pt.ite (fun _ => (whole_k h).bind fun x hx => Pt.some ⟨hx, rfl, rfl⟩) fun _ => Pt.some ⟨h, rfl, rfl⟩

theorem head_k {m : Nat} {r0 r : Rd} (h : Keep r0 r) : Pt (Rd.head m r) (fun p => Keep r0 p.2) := by
  unfold Rd.head
  exact (want_k h _).bind fun r hr => (whole_k hr).bind fun x hx => (want_k hx _).bind fun r hr => Pt.some hr

/-! ### Numbering -/

theorem Sm.nums_app (b : Bool) (s : Sm) : ∀ (l : List Sm) (n : Nat), Sm.nums b n (l ++ [s]) = ((Sm.nums b n l).1 ++ [(Sm.num b (Sm.nums b n l).2 s).1], (Sm.num b (Sm.nums b n l).2 s).2)
  | [], n => by simp only [List.nil_append, Sm.nums]
  | x :: l, n => by simp only [List.cons_append, Sm.nums, Sm.nums_app b s l]
theorem Sm.num_labels (b : Bool) (n : Nat) (l : List Str) : ∀ s : Sm, Sm.num b n { s with labels := l } = ({ (Sm.num b n s).1 with labels := l }, (Sm.num b n s).2)
  | ⟨_, _, _, _, _, _, _, _, _, _⟩ => by simp only [Sm.num]
theorem Sm.num_flat (b : Bool) (n : Nat) : ∀ s : Sm, s.thn = [] → s.els = [] → (Sm.num b n s).2 = n + 1
  | ⟨_, _, _, _, _, _, _, _, _, _⟩, h1, h2 => by dsimp only at h1 h2; subst h1; subst h2; simp only [Sm.num, Sm.nums]

/-- From a reader to a later one, with so many statements between. -/
structure Num (r : Rd) (k : Nat) (r' : Rd) : Prop where
  l : r'.l = r.l
  g : r'.good = true → r.good = true
  n : r'.good = true → k = r'.n
  le : r'.good = true → r.n ≤ 200 → r'.n ≤ 200

theorem bad_b (r : Rd) {c : Int} (hc : c ≠ 0) : Pt (r.bad c) (fun r' => r'.l = r.l ∧ r'.good = false) := by
  unfold Rd.bad
  refine Pt.ite (fun hg => Pt.any fun t => Pt.some ⟨rfl, ?_⟩) (fun hg => Pt.some ⟨rfl, by simpa using hg⟩)
  simpa using hc
theorem Num.bad {r r' : Rd} {k : Nat} (h : r'.l = r.l ∧ r'.good = false) : Num r k r' := by
  have e : ¬ r'.good = true := by rw [h.2]; decide
  exact ⟨h.1, fun g => (e g).elim, fun g => (e g).elim, fun g => (e g).elim⟩
theorem Num.keep {r a b : Rd} {k : Nat} (h : Num r k a) (e : Keep a b) : Num r k b :=
  ⟨e.l.trans h.l, fun g => h.g (e.g g), fun g => (h.n (e.g g)).trans e.n.symm, fun g hn => by rw [e.n]; exact h.le (e.g g) hn⟩
theorem Num.trans {r a b : Rd} {k j : Nat} (h : Num r k a) (e : Num a j b) : Num r j b :=
  ⟨e.l.trans h.l, fun g => h.g (e.g g), e.n, fun g hn => e.le g (h.le (e.g g) hn)⟩
theorem Num.refl (r : Rd) : Num r r.n r := ⟨rfl, id, fun _ => rfl, fun _ h => h⟩

theorem stmts_n {m : Nat} : ∀ n : Nat,
    (∀ (nest : Int) (body : Bool) (r : Rd), Pt (Rd.rows m n nest body r) fun p => Num r (Sm.nums true r.n p.1.1).2 p.2) ∧
    (∀ (nest : Int) (body : Bool) (out : List Sm) (r0 r : Rd), Num r0 (Sm.nums true r0.n out).2 r → Pt (Rd.rowsL m n nest body out r) fun p => Num r0 (Sm.nums true r0.n p.1.1).2 p.2) ∧
    (∀ (nest : Int) (r : Rd), Pt (Rd.stmt m n nest r) fun p => Num r (Sm.num true r.n p.1).2 p.2) ∧
    (∀ (nest : Int) (r : Rd), Pt (Rd.block m n nest r) fun p => Num r (Sm.nums true r.n p.1).2 p.2) ∧
    (∀ (nest : Int) (r : Rd), Pt (Rd.choice m n nest r) fun p => Num r (Sm.nums true (Sm.nums true r.n p.1.thn).2 p.1.els).2 p.2) := by
  intro n
  induction n with
  | zero =>
    refine ⟨fun _ _ r => ?_, fun _ _ _ _ r _ => ?_, fun _ r => ?_, fun _ r => ?_, fun _ r => ?_⟩
    · simp only [Rd.rows]; exact Pt.none
    · simp only [Rd.rowsL]; exact Pt.none
    · simp only [Rd.stmt]; exact Pt.none
    · simp only [Rd.block]; exact Pt.none
    · simp only [Rd.choice]; exact Pt.none
  | succ n ih =>
    obtain ⟨i1, i2, i3, i4, i5⟩ := ih
    refine ⟨fun nest body r => ?_, fun nest body out r0 r h => ?_, fun nest r => ?_, fun nest r => ?_, fun nest r => ?_⟩
    · simp only [Rd.rows]
      exact i2 _ _ _ _ _ ⟨rfl, id, fun _ => rfl, fun _ h => h⟩
    · simp only [Rd.rowsL]
      refine Pt.ite (fun hg => ?_) (fun hg => ?_)
      · refine (labels_k m [] r (Keep.refl r)).bind fun l hl => Pt.any fun b => Pt.ite (fun _ => Pt.some (h.keep (hl.i _))) fun _ => ?_
        refine (i3 nest l.2).bind fun s hs => ?_
        refine Pt.bind (Q := fun l' => l' = out ++ [{ s.1 with labels := l.1 }]) (fun a ha => (push_some ha).2) fun l' e => ?_
        subst e
        refine i2 _ _ _ _ _ ?_
        rw [Sm.nums_app, Sm.num_labels]
        have h2 := h.keep hl
        refine ⟨hs.l.trans h2.l, fun g => h2.g (hs.g g), fun g => ?_, fun g hn => hs.le g (h2.le (hs.g g) hn)⟩
        rw [h2.n (hs.g g)]
        exact hs.n g
      · have hg : r.good = false := by simpa using hg
        exact Pt.some (Num.bad ⟨h.l, hg⟩)
    · simp only [Rd.stmt]
      refine Pt.any fun b => Pt.ite (fun _ => (bad_b r (by decide)).bind fun r' hr => Pt.some (Num.bad hr)) fun _ => ?_
      refine Pt.bind (Q := fun k => k = r.n + 1) (fun a ha => (inc_some ha).2) fun k e => ?_
      subst e
      refine Pt.ite (fun _ => (bad_b _ (by decide)).bind fun r' hr => Pt.some (Num.bad hr)) fun hl => ?_
      have hk : r.n + 1 ≤ 200 := by
        simp only [Bool.or_eq_true, decide_eq_true_eq, not_or] at hl
        omega
      have h0 : ∀ j, Num r (r.n + 1) { r with i := j, n := r.n + 1 } := fun j => ⟨rfl, id, fun _ => rfl, fun _ _ => hk⟩
      refine Pt.any fun t => Pt.ite (fun _ => ?_) fun _ => Pt.ite (fun _ => ?_) fun _ => Pt.ite (fun _ => ?_) fun _ => ?_
      · refine (named_k (Keep.refl _)).mono fun p hp => ?_
        rw [Sm.num_flat true _ _ hp.2.1 hp.2.2]
        exact (h0 r.i).keep hp.1
      · refine (i5 nest _).mono fun p hp => ?_
        obtain ⟨⟨_, _, _, _, _, _, _, _, _, _⟩, r'⟩ := p
        simp only [Sm.num]
        exact (h0 _).trans hp
      · refine (head_k (Keep.refl _)).bind fun x hx => (i4 nest x.2).bind fun b hb => Pt.some ?_
        simp only [Sm.num, Sm.nums]
        have e := hx.n
        dsimp only at e
        rw [← e]
        exact ((h0 _).keep hx).trans hb
      · refine (plain_k (Keep.refl _)).bind fun s hs => (want_k hs.1 _).bind fun r' hr => Pt.some ?_
        rw [Sm.num_flat true _ _ hs.2.1 hs.2.2]
        exact (h0 _).keep hr
    · simp only [Rd.block]
      refine (want_k (Keep.refl r) _).bind fun r1 hr => Pt.any fun k => (i1 k false r1).bind fun p hp => Pt.some ?_
      rw [← hr.n]
      exact ((Num.refl r).keep hr).trans hp
    · simp only [Rd.choice]
      refine (head_k (Keep.refl r)).bind fun x hx => (i4 nest x.2).bind fun t ht => (take_k (Keep.refl t.2) _).bind fun q hq => Pt.ite (fun _ => ?_) fun _ => ?_
      · refine (i4 nest q.2).bind fun e he => Pt.some ?_
        dsimp only
        have h1 := (((Num.refl r).keep hx).trans ht).keep hq
        have h2 := h1.trans he
        refine ⟨h2.l, h2.g, fun g => ?_, h2.le⟩
        have e1 := he.n g
        have e2 := h1.n (he.g g)
        rw [hx.n] at e2
        rw [e2]
        exact e1
      · refine Pt.some ?_
        dsimp only [Sm.nums]
        rw [← hx.n]
        exact (((Num.refl r).keep hx).trans ht).keep hq

end Go.Abs

/-! Cut1 -/

namespace Go.Abs
set_option linter.unusedSimpArgs false
set_option linter.unusedVariables false

/-! ### The last token read -/

/-- The token behind which a body ends. -/
def Brace (r : Rd) : Prop := ∃ t, r.l[r.i - 1]? = some t ∧ (t.kind == 3 || t.kind == 4) = true ∧ t.text = [125] ∧ 0 < r.i

theorem rowsL_last {m : Nat} : ∀ (n : Nat) (nest : Int) (body : Bool) (out : List Sm) (r : Rd) (p : (List Sm × List Str) × Rd), Rd.rowsL m n nest body out r = some p → p.2.good = true → Brace p.2 := by
  intro n
  induction n with
  | zero => intro nest body out r p h; simp only [Rd.rowsL] at h; cases h
  | succ n ih =>
    intro nest body out r p h hg
    simp only [Rd.rowsL] at h
    split at h
    · rw [Option.bind_eq_some_iff] at h
      obtain ⟨l, h1, h⟩ := h
      rw [Option.bind_eq_some_iff] at h
      obtain ⟨b, h2, h⟩ := h
      split at h
      · rename_i hb
        cases h
        unfold Rd.is at h2
        rw [Option.bind_eq_some_iff] at h2
        obtain ⟨t, ht, h2⟩ := h2
        cases h2
        simp only [Bool.and_eq_true, beq_iff_eq] at hb
        have := (peek_get ht).2.1
        exact ⟨t, by simpa using this, hb.1.1, hb.1.2, Nat.succ_pos _⟩
      · rw [Option.bind_eq_some_iff] at h
        obtain ⟨s, h3, h⟩ := h
        rw [Option.bind_eq_some_iff] at h
        obtain ⟨o, h4, h⟩ := h
        exact ih _ _ _ _ _ h hg
    · rename_i hr
      cases h
      exact absurd hg hr

theorem procB_last {m : Nat} {name : Str} {ps : List Pm} {r : Rd} {p : Pc × Rd} (h : Rd.procB m name ps r = some p) (hg : p.2.good = true) : Brace p.2 := by
  unfold Rd.procB at h
  rw [Option.bind_eq_some_iff] at h
  obtain ⟨v, h1, h⟩ := h
  rw [Option.bind_eq_some_iff] at h
  obtain ⟨b, h2, h⟩ := h
  cases h
  cases m with
  | zero => simp only [Rd.rows] at h2; cases h2
  | succ m =>
    simp only [Rd.rows] at h2
    exact rowsL_last _ _ _ _ _ _ h2 hg

/-- A procedure but for what stands in it. -/
def Rd.pre (m : Nat) (r : Rd) : Option ((Str × List Pm) × Rd) :=
  (r.name true).bind fun x => (x.2.want [40]).bind fun r => (r.other [41]).bind fun b =>
    if b then (Rd.params m [] r).bind fun q => (q.2.want [41]).bind fun r => (r.want [123]).bind fun r => some ((x.1, q.1), r)
    else (r.want [41]).bind fun r => (r.want [123]).bind fun r => some ((x.1, []), r)

theorem proc_pre (m : Nat) (r : Rd) : Rd.proc m r = (Rd.pre m r).bind fun y => Rd.procB m y.1.1 y.1.2 y.2 := by
  unfold Rd.proc Rd.pre
  simp only [Option.bind_assoc]
  congr 1; funext x; congr 1; funext r; congr 1; funext b
  cases b
  · simp only [Bool.false_eq_true, ↓reduceIte, Option.bind_assoc, Option.bind_some]
  · simp only [↓reduceIte, Option.bind_assoc, Option.bind_some]

theorem proc_last {m : Nat} {r : Rd} {p : Pc × Rd} (h : Rd.proc m r = some p) (hg : p.2.good = true) : Brace p.2 := by
  rw [proc_pre, Option.bind_eq_some_iff] at h
  obtain ⟨y, _, h⟩ := h
  exact procB_last h hg

theorem procs_bad {m n : Nat} {l : List Pc} {r : Rd} (hg : r.good = false) {p : List Pc × Rd} (h : Rd.procs m n l r = some p) : p = (l, r) := by
  cases n with
  | zero => simp only [Rd.procs] at h; cases h
  | succ n =>
    simp only [Rd.procs, Rd.isProc, Rd.notEnd, hg, Bool.false_eq_true, ↓reduceIte, Option.bind_some, Option.some.injEq] at h
    exact h.symm

theorem procs_last {m : Nat} : ∀ (n : Nat) (l : List Pc) (r : Rd) (p : List Pc × Rd), Rd.procs m n l r = some p → p.2.good = true → p.1 ≠ l → Brace p.2 ∧ ∃ t, p.2.peek = some t ∧ t.kind = 0 := by
  intro n
  induction n with
  | zero => intro l r p h; simp only [Rd.procs] at h; cases h
  | succ n ih =>
    intro l r p h hg hne
    simp only [Rd.procs] at h
    rw [Option.bind_eq_some_iff] at h
    obtain ⟨b, h1, h⟩ := h
    split at h
    · split at h
      · rw [Option.bind_eq_some_iff] at h
        obtain ⟨r', h2, h⟩ := h
        cases h
        exact absurd rfl hne
      · rw [Option.bind_eq_some_iff] at h
        obtain ⟨x, h2, h⟩ := h
        rw [Option.bind_eq_some_iff] at h
        obtain ⟨l', h3, h⟩ := h
        by_cases he : p.1 = l'
        · have hx : x.2.good = true := by
            cases hxg : x.2.good
            · have := procs_bad hxg h
              rw [this] at hg
              rw [hxg] at hg; cases hg
            · rfl
          cases n with
          | zero => simp only [Rd.procs] at h; cases h
          | succ n =>
            simp only [Rd.procs, Rd.isProc, Rd.notEnd, hx, ↓reduceIte] at h
            rw [Option.bind_eq_some_iff] at h
            obtain ⟨b2, h4, h⟩ := h
            split at h
            · split at h
              · rw [Option.bind_eq_some_iff] at h
                obtain ⟨r2, h5, h⟩ := h
                have := (bad_b x.2 (by decide) _ h5).2
                cases h
                rw [this] at hg; cases hg
              · rw [Option.bind_eq_some_iff] at h
                obtain ⟨y, h5, h⟩ := h
                rw [Option.bind_eq_some_iff] at h
                obtain ⟨l2, h6, h⟩ := h
                have h7 := (push_some h6).2
                by_cases he2 : p.1 = l2
                · exfalso
                  rw [he, h7] at he2
                  have := congrArg List.length he2
                  simp at this
                · have h := ih
                  exfalso
                  exact he2.elim (by
                    have hlen : ∀ (n : Nat) (l : List Pc) (r : Rd) (p : List Pc × Rd), Rd.procs m n l r = some p → l.length ≤ p.1.length := by
                      intro n
                      induction n with
                      | zero => intro l r p h; simp only [Rd.procs] at h; cases h
                      | succ n ih2 =>
                        intro l r p h
                        simp only [Rd.procs] at h
                        rw [Option.bind_eq_some_iff] at h
                        obtain ⟨b, _, h⟩ := h
                        split at h
                        · split at h
                          · rw [Option.bind_eq_some_iff] at h
                            obtain ⟨_, _, h⟩ := h
                            cases h; exact Nat.le_refl _
                          · rw [Option.bind_eq_some_iff] at h
                            obtain ⟨_, _, h⟩ := h
                            rw [Option.bind_eq_some_iff] at h
                            obtain ⟨l3, h8, h⟩ := h
                            have := ih2 _ _ _ h
                            rw [(push_some h8).2] at this
                            simp at this; omega
                        · rw [Option.bind_eq_some_iff] at h
                          obtain ⟨b, _, h⟩ := h
                          split at h
                          · rw [Option.bind_eq_some_iff] at h
                            obtain ⟨_, _, h⟩ := h
                            cases h; exact Nat.le_refl _
                          · cases h; exact Nat.le_refl _
                    have := hlen _ _ _ _ ‹Rd.procs m n l2 y.2 = some p›
                    rw [h7, he] at this
                    simp at this; omega)
            · rw [Option.bind_assoc, Option.bind_eq_some_iff] at h
              obtain ⟨t, ht, h⟩ := h
              rw [Option.bind_some] at h
              split at h
              · rw [Option.bind_eq_some_iff] at h
                obtain ⟨r2, h5, h⟩ := h
                have := (bad_b x.2 (by decide) _ h5).2
                cases h
                rw [this] at hg; cases hg
              · rename_i hk
                cases h
                exact ⟨proc_last h2 hx, t, ht, by simpa using hk⟩
        · exact ih _ _ _ h hg he
    · rw [Option.bind_eq_some_iff] at h
      obtain ⟨b2, h2, h⟩ := h
      split at h
      · rw [Option.bind_eq_some_iff] at h
        obtain ⟨r', h3, h⟩ := h
        cases h
        exact absurd rfl hne
      · cases h
        exact absurd rfl hne

end Go.Abs
