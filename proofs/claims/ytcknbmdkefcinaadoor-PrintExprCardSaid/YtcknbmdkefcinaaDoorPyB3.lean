/-
  What is proved here: part 3 of the road to the claim (TMay1, TMay2, TMay3, TMay4, MayEq, Pr1, Bld, Pr2, Pr3, Own, MayEq2, Pr4, PrMay, Fits1, Fits2, Pr5, Pr6, Pr7, Pr8, Some, LawPr1, Glue2, Join, Join2).
  No conditions.
-/
import Derived.Test.YtcknbmdkefcinaaDoorPyB2
import Derived.RowKit3
import Derived.WalkKit
import Derived.ProofKit
import Derived.OpenShut
import Derived.ShutString
import Derived.ChangeMaps5
import Derived.ChangeStays

set_option linter.unusedSimpArgs false
set_option linter.unusedVariables false

/-! TMay1 -/

namespace Go.Abs

set_option maxRecDepth 8000
set_option linter.unusedSimpArgs false
set_option linter.unusedVariables false
open Go.Proofs

theorem nameT_all {r : Str} : nameT r = true ↔ runL r = r.length := by
  induction r with
  | nil => simp [nameT, runL]
  | cons c r ih =>
    simp only [nameT, runL]
    cases h1 : isL c <;> cases h2 : isD c <;> simp [ih]

theorem Name_s (t : Str) (hl : t.length < 4611686018427387904) (s : St) : Fun Tryd.prog n_lex_Name [.str t] s (.bool (isName t)) s := by
  refine Fun.pure ?_ rfl rfl s
  have hr := fun s => run_s (pos := 0) hl s
  simp only [List.drop_zero, Nat.zero_add] at hr
  unfold S0
  cases t with
  | nil =>
    have z : decide (((0 : Nat) : Int) < 1) = true := rfl
    have z' : decide ((0 : Int) < 1) = true := rfl
    have e : isName [] = false := rfl
    rw [e]
    refine Fun.go has_lex_Name rfl fun B Q hB hQ => ?_
    have hlt : 0 < 1 := Nat.zero_lt_one
    have hget : 0 < 1 := Nat.zero_lt_one
    have hpu : 0 < 1 := Nat.zero_lt_one
    have hinc : 0 < 1 := Nat.zero_lt_one
    repeat' (first
 | simp only [go_sem, hlt, hget, hpu, hinc, Int.reduceLE, ↓reduceIte, reduceCtorEq, Nat.reduceEqDiff, Nat.reduceLeDiff, Nat.reduceAdd, Nat.reduceMul, Nat.reduceSub, Nat.reduceLT, z, z']
 | (with_reducible first | refine CB_ofT (by assumption) fun hc => ?_ | refine CB_ofF (by assumption) fun hc => ?_ | refine CB_split (fun hc => ?_) fun hc => ?_) <;> (try simp only [hc, bs, ↓reduceIte] at h) <;> (try simp only [hc])
 | ((with_reducible first | refine leafR hQ ?_ | refine leafN hQ ?_); (try cases h); simp only [resL, oneD, Option.some.injEq, exists_eq_left', go_sem, hlt, hget, hpu, hinc, Int.reduceLE, ↓reduceIte, reduceCtorEq, Nat.reduceEqDiff, Nat.reduceLeDiff, Nat.reduceAdd, Nat.reduceMul, Nat.reduceSub, Nat.reduceLT, z, z']; repeat' (first | exact Ok.out | with_reducible refine And.intro ?_ ?_ | (simp; done)))
 | (cases h; replace h := hr; clear hr; (try simp only [bs, ↓reduceIte] at h))
 | (cases h; done))
  | cons c r =>
    have l1 : decide (((r.length + 1 : Nat) : Int) < 1) = false := by simp; omega
    generalize h : isName (c :: r) = p
    simp only [isName] at h
    cases hL : isL c
    · simp only [hL, Bool.not_false, Bool.or_true, ↓reduceIte] at h
      subst h
      by_cases c8 : decide (((r.length + 1 : Nat) : Int) > 8) = true
      · refine Fun.go has_lex_Name rfl fun B Q hB hQ => ?_
        have hlt : 0 < 1 := Nat.zero_lt_one
        have hget : 0 < 1 := Nat.zero_lt_one
        have hpu : 0 < 1 := Nat.zero_lt_one
        have hinc : 0 < 1 := Nat.zero_lt_one
        repeat' (first
 | simp only [go_sem, hlt, hget, hpu, hinc, Int.reduceLE, ↓reduceIte, reduceCtorEq, Nat.reduceEqDiff, Nat.reduceLeDiff, Nat.reduceAdd, Nat.reduceMul, Nat.reduceSub, Nat.reduceLT, l1, c8]
 | (with_reducible first | refine CB_ofT (by assumption) fun hc => ?_ | refine CB_ofF (by assumption) fun hc => ?_ | refine CB_split (fun hc => ?_) fun hc => ?_) <;> (try simp only [hc, bs, ↓reduceIte] at h) <;> (try simp only [hc])
 | ((with_reducible first | refine leafR hQ ?_ | refine leafN hQ ?_); (try cases h); simp only [resL, oneD, Option.some.injEq, exists_eq_left', go_sem, hlt, hget, hpu, hinc, Int.reduceLE, ↓reduceIte, reduceCtorEq, Nat.reduceEqDiff, Nat.reduceLeDiff, Nat.reduceAdd, Nat.reduceMul, Nat.reduceSub, Nat.reduceLT, l1, c8]; repeat' (first | exact Ok.out | with_reducible refine And.intro ?_ ?_ | (simp; done)))
 | (cases h; replace h := hr; clear hr; (try simp only [bs, ↓reduceIte] at h))
 | (cases h; done))
      · have c8 : decide (((r.length + 1 : Nat) : Int) > 8) = false := by simpa using c8
        refine Fun.go has_lex_Name rfl fun B Q hB hQ => ?_
        have hlt : 0 < 1 := Nat.zero_lt_one
        have hget : 0 < 1 := Nat.zero_lt_one
        have hpu : 0 < 1 := Nat.zero_lt_one
        have hinc : 0 < 1 := Nat.zero_lt_one
        repeat' (first
 | simp only [go_sem, hlt, hget, hpu, hinc, Int.reduceLE, ↓reduceIte, reduceCtorEq, Nat.reduceEqDiff, Nat.reduceLeDiff, Nat.reduceAdd, Nat.reduceMul, Nat.reduceSub, Nat.reduceLT, l1, c8, hL]
 | (with_reducible refine CU (letter_s _ _) ?_)
 | (with_reducible first | refine CB_ofT (by assumption) fun hc => ?_ | refine CB_ofF (by assumption) fun hc => ?_ | refine CB_split (fun hc => ?_) fun hc => ?_) <;> (try simp only [hc, bs, ↓reduceIte] at h) <;> (try simp only [hc])
 | ((with_reducible first | refine leafR hQ ?_ | refine leafN hQ ?_); (try cases h); simp only [resL, oneD, Option.some.injEq, exists_eq_left', go_sem, hlt, hget, hpu, hinc, Int.reduceLE, ↓reduceIte, reduceCtorEq, Nat.reduceEqDiff, Nat.reduceLeDiff, Nat.reduceAdd, Nat.reduceMul, Nat.reduceSub, Nat.reduceLT, l1, c8, hL]; repeat' (first | exact Ok.out | with_reducible refine And.intro ?_ ?_ | (simp; done)))
 | (cases h; replace h := hr; clear hr; (try simp only [bs, ↓reduceIte] at h))
 | (cases h; done))
    · simp only [hL, Bool.not_true, Bool.or_false] at h
      by_cases c8 : decide (((r.length + 1 : Nat) : Int) > 8) = true
      · simp only [c8, ↓reduceIte] at h
        subst h
        refine Fun.go has_lex_Name rfl fun B Q hB hQ => ?_
        have hlt : 0 < 1 := Nat.zero_lt_one
        have hget : 0 < 1 := Nat.zero_lt_one
        have hpu : 0 < 1 := Nat.zero_lt_one
        have hinc : 0 < 1 := Nat.zero_lt_one
        repeat' (first
 | simp only [go_sem, hlt, hget, hpu, hinc, Int.reduceLE, ↓reduceIte, reduceCtorEq, Nat.reduceEqDiff, Nat.reduceLeDiff, Nat.reduceAdd, Nat.reduceMul, Nat.reduceSub, Nat.reduceLT, l1, c8]
 | (with_reducible first | refine CB_ofT (by assumption) fun hc => ?_ | refine CB_ofF (by assumption) fun hc => ?_ | refine CB_split (fun hc => ?_) fun hc => ?_) <;> (try simp only [hc, bs, ↓reduceIte] at h) <;> (try simp only [hc])
 | ((with_reducible first | refine leafR hQ ?_ | refine leafN hQ ?_); (try cases h); simp only [resL, oneD, Option.some.injEq, exists_eq_left', go_sem, hlt, hget, hpu, hinc, Int.reduceLE, ↓reduceIte, reduceCtorEq, Nat.reduceEqDiff, Nat.reduceLeDiff, Nat.reduceAdd, Nat.reduceMul, Nat.reduceSub, Nat.reduceLT, l1, c8]; repeat' (first | exact Ok.out | with_reducible refine And.intro ?_ ?_ | (simp; done)))
 | (cases h; replace h := hr; clear hr; (try simp only [bs, ↓reduceIte] at h))
 | (cases h; done))
      · have c8 : decide (((r.length + 1 : Nat) : Int) > 8) = false := by simpa using c8
        simp only [c8, Bool.false_eq_true, ↓reduceIte] at h
        have hrun : runL (c :: r) = runL r + 1 := by simp [runL, hL]
        cases hn : nameT r
        · simp only [hn, Bool.false_eq_true, ↓reduceIte] at h
          have : runL r ≠ r.length := fun e => by rw [nameT_all.2 e] at hn; cases hn
          have e : (((runL (c :: r) : Nat) : Int) == ((r.length + 1 : Nat) : Int)) = false := by rw [hrun]; simp; omega
          subst h
          refine Fun.go has_lex_Name rfl fun B Q hB hQ => ?_
          have hlt : 0 < 1 := Nat.zero_lt_one
          have hget : 0 < 1 := Nat.zero_lt_one
          have hpu : 0 < 1 := Nat.zero_lt_one
          have hinc : 0 < 1 := Nat.zero_lt_one
          repeat' (first
 | simp only [go_sem, hlt, hget, hpu, hinc, Int.reduceLE, ↓reduceIte, reduceCtorEq, Nat.reduceEqDiff, Nat.reduceLeDiff, Nat.reduceAdd, Nat.reduceMul, Nat.reduceSub, Nat.reduceLT, l1, c8, hL, e]
 | (with_reducible refine CU (letter_s _ _) ?_)
 | (with_reducible refine CU (hr _) ?_)
 | (with_reducible first | refine CB_ofT (by assumption) fun hc => ?_ | refine CB_ofF (by assumption) fun hc => ?_ | refine CB_split (fun hc => ?_) fun hc => ?_) <;> (try simp only [hc, bs, ↓reduceIte] at h) <;> (try simp only [hc])
 | ((with_reducible first | refine leafR hQ ?_ | refine leafN hQ ?_); (try cases h); simp only [resL, oneD, Option.some.injEq, exists_eq_left', go_sem, hlt, hget, hpu, hinc, Int.reduceLE, ↓reduceIte, reduceCtorEq, Nat.reduceEqDiff, Nat.reduceLeDiff, Nat.reduceAdd, Nat.reduceMul, Nat.reduceSub, Nat.reduceLT, l1, c8, hL, e]; repeat' (first | exact Ok.out | with_reducible refine And.intro ?_ ?_ | (simp; done)))
 | (cases h; replace h := hr; clear hr; (try simp only [bs, ↓reduceIte] at h))
 | (cases h; done))
        · simp only [hn, ↓reduceIte] at h
          have := nameT_all.1 hn
          have e : (((runL (c :: r) : Nat) : Int) == ((r.length + 1 : Nat) : Int)) = true := by rw [hrun]; simp; omega
          subst h
          refine Fun.go has_lex_Name rfl fun B Q hB hQ => ?_
          have hlt : 0 < 1 := Nat.zero_lt_one
          have hget : 0 < 1 := Nat.zero_lt_one
          have hpu : 0 < 1 := Nat.zero_lt_one
          have hinc : 0 < 1 := Nat.zero_lt_one
          repeat' (first
 | simp only [go_sem, hlt, hget, hpu, hinc, Int.reduceLE, ↓reduceIte, reduceCtorEq, Nat.reduceEqDiff, Nat.reduceLeDiff, Nat.reduceAdd, Nat.reduceMul, Nat.reduceSub, Nat.reduceLT, l1, c8, hL, e]
 | (with_reducible refine CU (letter_s _ _) ?_)
 | (with_reducible refine CU (hr _) ?_)
 | (with_reducible refine CU (word_s _ _) ?_)
 | (with_reducible first | refine CB_ofT (by assumption) fun hc => ?_ | refine CB_ofF (by assumption) fun hc => ?_ | refine CB_split (fun hc => ?_) fun hc => ?_) <;> (try simp only [hc, bs, ↓reduceIte] at h) <;> (try simp only [hc])
 | ((with_reducible first | refine leafR hQ ?_ | refine leafN hQ ?_); (try cases h); simp only [resL, oneD, Option.some.injEq, exists_eq_left', go_sem, hlt, hget, hpu, hinc, Int.reduceLE, ↓reduceIte, reduceCtorEq, Nat.reduceEqDiff, Nat.reduceLeDiff, Nat.reduceAdd, Nat.reduceMul, Nat.reduceSub, Nat.reduceLT, l1, c8, hL, e]; repeat' (first | exact Ok.out | with_reducible refine And.intro ?_ ?_ | (simp; done)))
 | (cases h; replace h := hr; clear hr; (try simp only [bs, ↓reduceIte] at h))
 | (cases h; done))

theorem tkids_s (op : Int) (s : St) : Fun Tryd.prog n_tree_kids [.int .i64 op] s (.int .i64 (arityI op)) s := by
  refine Fun.pure ?_ rfl rfl s
  unfold S0
  generalize h : arityI op = p
  unfold arityI at h
  refine Fun.go has_tree_kids rfl fun B Q hB hQ => ?_
  have hlt : 0 < 1 := Nat.zero_lt_one
  have hget : 0 < 1 := Nat.zero_lt_one
  have hpu : 0 < 1 := Nat.zero_lt_one
  have hinc : 0 < 1 := Nat.zero_lt_one
  repeat' (first
 | simp only [go_sem, hlt, hget, hpu, hinc, Int.reduceLE, ↓reduceIte, reduceCtorEq, Nat.reduceEqDiff, Nat.reduceLeDiff, Nat.reduceAdd, Nat.reduceMul, Nat.reduceSub, Nat.reduceLT]
 | (with_reducible first | refine CB_ofT (by assumption) fun hc => ?_ | refine CB_ofF (by assumption) fun hc => ?_ | refine CB_split (fun hc => ?_) fun hc => ?_) <;> (try simp only [hc, bs, ↓reduceIte] at h) <;> (try simp only [hc])
 | ((with_reducible first | refine leafR hQ ?_ | refine leafN hQ ?_); (try cases h); simp only [resL, oneD, Option.some.injEq, exists_eq_left', go_sem, hlt, hget, hpu, hinc, Int.reduceLE, ↓reduceIte, reduceCtorEq, Nat.reduceEqDiff, Nat.reduceLeDiff, Nat.reduceAdd, Nat.reduceMul, Nat.reduceSub, Nat.reduceLT]; repeat' (first | exact Ok.out | with_reducible refine And.intro ?_ ?_ | (simp; done)))
 | (cases h; replace h := hr; clear hr; (try simp only [bs, ↓reduceIte] at h))
 | (cases h; done))

theorem tnames_s {l : List Str} (hl : l.length < 4611686018427387904) (hs : ∀ t ∈ l, t.length < 4611686018427387904) (s : St) : Fun Tryd.prog n_tree_names [.slice .shared 1 (l.map encStr)] s (.bool (mayNames l)) s := by
  refine Fun.pure ?_ (by simp [D.oks, D.ok, okrStr, Tag.ok]) rfl s
  unfold S0
  generalize h : mayNames l = p
  refine Fun.go has_tree_names rfl fun B Q hB hQ => ?_
  have hlt : 0 < 1 := Nat.zero_lt_one
  have hget : 0 < 1 := Nat.zero_lt_one
  have hpu : 0 < 1 := Nat.zero_lt_one
  have hinc : 0 < 1 := Nat.zero_lt_one
  repeat' (first
 | simp only [go_sem, hlt, hget, hpu, hinc, Int.reduceLE, ↓reduceIte, reduceCtorEq, Nat.reduceEqDiff, Nat.reduceLeDiff, Nat.reduceAdd, Nat.reduceMul, Nat.reduceSub, Nat.reduceLT]
 | (with_reducible first | refine CB_ofT (by assumption) fun hc => ?_ | refine CB_ofF (by assumption) fun hc => ?_ | refine CB_split (fun hc => ?_) fun hc => ?_) <;> (try simp only [hc, bs, ↓reduceIte] at h) <;> (try simp only [hc])
 | ((with_reducible first | refine leafR hQ ?_ | refine leafN hQ ?_); (try cases h); simp only [resL, oneD, Option.some.injEq, exists_eq_left', go_sem, hlt, hget, hpu, hinc, Int.reduceLE, ↓reduceIte, reduceCtorEq, Nat.reduceEqDiff, Nat.reduceLeDiff, Nat.reduceAdd, Nat.reduceMul, Nat.reduceSub, Nat.reduceLT]; repeat' (first | exact Ok.out | with_reducible refine And.intro ?_ ?_ | (simp; done)))
 | (cases h; replace h := hr; clear hr; (try simp only [bs, ↓reduceIte] at h))
 | (cases h; done))
  refine SemL.re _ _ 0 0 (by rw [hB]; exact Nat.le_of_ble_eq_true rfl) (by rw [hB]; exact Nat.le_of_ble_eq_true rfl) ?_ ?_ (SemL.ind (ι := List Str × Nat) (fun i => l.drop i.2 = i.1 ∧ mayNames i.1 = p) (fun i => i.1.length)
    (fun i => [(5, .slice .shared 1 (l.map encStr)), (6, .int .i64 (l.length : Int)), (7, .int .i64 (i.2 : Int))]) (fun i => ⟨[], []⟩) ?_ (l, 0) ⟨rfl, h⟩)
  · (simp only [go_sem, hlt, hget, hpu, hinc, Int.reduceLE, ↓reduceIte, reduceCtorEq, Nat.reduceEqDiff, Nat.reduceLeDiff, Nat.reduceAdd, Nat.reduceMul, Nat.reduceSub, Nat.reduceLT]; repeat' (first | exact Ok.out | with_reducible refine And.intro ?_ ?_))
  · (simp only [go_sem, hlt, hget, hpu, hinc, Int.reduceLE, ↓reduceIte, reduceCtorEq, Nat.reduceEqDiff, Nat.reduceLeDiff, Nat.reduceAdd, Nat.reduceMul, Nat.reduceSub, Nat.reduceLT]; repeat' (first | exact Ok.out | with_reducible refine And.intro ?_ ?_))
  rintro ⟨rest, k⟩ ⟨h1, h⟩ IH
  dsimp only at h1 h
  cases rest with
  | nil =>
    have hlt := drop_nil h1
    simp only [mayNames] at h
    repeat' (first
 | simp only [go_sem, hlt, hget, hpu, hinc, Int.reduceLE, ↓reduceIte, reduceCtorEq, Nat.reduceEqDiff, Nat.reduceLeDiff, Nat.reduceAdd, Nat.reduceMul, Nat.reduceSub, Nat.reduceLT]
 | (with_reducible first | refine CB_ofT (by assumption) fun hc => ?_ | refine CB_ofF (by assumption) fun hc => ?_ | refine CB_split (fun hc => ?_) fun hc => ?_) <;> (try simp only [hc, bs, ↓reduceIte] at h) <;> (try simp only [hc])
 | ((with_reducible first | refine leafR hQ ?_ | refine leafN hQ ?_); (try cases h); simp only [resL, oneD, Option.some.injEq, exists_eq_left', go_sem, hlt, hget, hpu, hinc, Int.reduceLE, ↓reduceIte, reduceCtorEq, Nat.reduceEqDiff, Nat.reduceLeDiff, Nat.reduceAdd, Nat.reduceMul, Nat.reduceSub, Nat.reduceLT]; repeat' (first | exact Ok.out | with_reducible refine And.intro ?_ ?_ | (simp; done)))
 | (cases h; replace h := hr; clear hr; (try simp only [bs, ↓reduceIte] at h))
 | (cases h; done))
  | cons t rest =>
    obtain ⟨hget, g2, hlt, g4⟩ := drop_cons h1
    have hpu : k < 4611686018427387904 := by omega
    have hn := Name_s t (hs t (List.mem_of_getElem? hget))
    simp only [mayNames] at h
    repeat' (first
 | simp only [go_sem, hlt, hget, hpu, hinc, Int.reduceLE, ↓reduceIte, reduceCtorEq, Nat.reduceEqDiff, Nat.reduceLeDiff, Nat.reduceAdd, Nat.reduceMul, Nat.reduceSub, Nat.reduceLT]
 | (with_reducible refine CU (hn _) ?_)
 | (with_reducible first | refine CB_ofT (by assumption) fun hc => ?_ | refine CB_ofF (by assumption) fun hc => ?_ | refine CB_split (fun hc => ?_) fun hc => ?_) <;> (try simp only [hc, bs, ↓reduceIte] at h) <;> (try simp only [hc])
 | ((with_reducible first | refine leafR hQ ?_ | refine leafN hQ ?_); (try cases h); simp only [resL, oneD, Option.some.injEq, exists_eq_left', go_sem, hlt, hget, hpu, hinc, Int.reduceLE, ↓reduceIte, reduceCtorEq, Nat.reduceEqDiff, Nat.reduceLeDiff, Nat.reduceAdd, Nat.reduceMul, Nat.reduceSub, Nat.reduceLT]; repeat' (first | exact Ok.out | with_reducible refine And.intro ?_ ?_ | (simp; done)))
 | (cases h; replace h := hr; clear hr; (try simp only [bs, ↓reduceIte] at h))
 | (cases h; done))
    refine SemL.re _ _ 0 0 (by rw [hB]; exact Nat.le_of_ble_eq_true rfl) (by rw [hB]; exact Nat.le_of_ble_eq_true rfl) ?_ ?_ (IH (rest, k + 1) ⟨g2, h⟩ (Nat.lt_succ_self _))
    · (simp only [go_sem, hlt, hget, hpu, hinc, Int.reduceLE, ↓reduceIte, reduceCtorEq, Nat.reduceEqDiff, Nat.reduceLeDiff, Nat.reduceAdd, Nat.reduceMul, Nat.reduceSub, Nat.reduceLT]; repeat' (first | exact Ok.out | with_reducible refine And.intro ?_ ?_))
    · (simp only [go_sem, hlt, hget, hpu, hinc, Int.reduceLE, ↓reduceIte, reduceCtorEq, Nat.reduceEqDiff, Nat.reduceLeDiff, Nat.reduceAdd, Nat.reduceMul, Nat.reduceSub, Nat.reduceLT]; repeat' (first | exact Ok.out | with_reducible refine And.intro ?_ ?_))

mutual
/-- May it be one, with so many at most in one another? -/
def Ex.dp (left : Int) : Ex → Bool
  | ⟨op, n, name, kids⟩ =>
    if decide (left < 1) || (kids.length : Int) != arityI op then false
    else if op == 1 then decide (n ≥ 0) && name == []
    else if op == 2 then n == 0 && isName name
    else if n != 0 || !(name == []) then false
    else Ex.dps (left - 1) kids
def Ex.dps (left : Int) : List Ex → Bool
  | [] => true
  | x :: l => if !(Ex.dp left x) then false else Ex.dps left l
end

theorem tdeep_n : ∀ (m : Nat) (x : Ex), x.size ≤ m → x.size < 4611686018427387904 → x.texts → ∀ left : Int, 0 ≤ left → left ≤ 100 → ∀ s : St, Fun Tryd.prog n_tree_deep [.agg (encEx x), .int .i64 left] s (.bool (x.dp left)) s := by
  intro m
  induction m with
  | zero => rintro ⟨op, v, name, kids⟩ h; simp only [Ex.size] at h; omega
  | succ m ih =>
    rintro ⟨op, v, name, kids⟩ h hx ht left h0 h100 s
    refine Fun.pure ?_ (by simp [D.oks, D.ok, okEx]) rfl s
    have hlen : kids.length < 4611686018427387904 := by simp only [Ex.size] at hx; have := Ex.sizes_len kids; omega
    have hn := Name_s name ht.1
    generalize hp : Ex.dp left ⟨op, v, name, kids⟩ = p
    simp only [Ex.dp] at hp
    unfold S0
    by_cases hl1 : left < 1
    · have d1 : decide (left < 1) = true := by simpa using hl1
      simp only [d1, Bool.true_or, ↓reduceIte] at hp
      subst hp
      refine Fun.go has_tree_deep rfl fun B Q hB hQ => ?_
      have hlt : 0 < 1 := Nat.zero_lt_one
      have hget : 0 < 1 := Nat.zero_lt_one
      have hpu : 0 < 1 := Nat.zero_lt_one
      have hinc : 0 < 1 := Nat.zero_lt_one
      repeat' (first
 | simp only [go_sem, hlt, hget, hpu, hinc, Int.reduceLE, ↓reduceIte, reduceCtorEq, Nat.reduceEqDiff, Nat.reduceLeDiff, Nat.reduceAdd, Nat.reduceMul, Nat.reduceSub, Nat.reduceLT, d1]
 | (with_reducible refine CU (tkids_s _ _) ?_)
 | (with_reducible refine CU (hn _) ?_)
 | (with_reducible first | refine CB_ofT (by assumption) fun hc => ?_ | refine CB_ofF (by assumption) fun hc => ?_ | refine CB_split (fun hc => ?_) fun hc => ?_) <;> (try simp only [hc, bs, ↓reduceIte] at h) <;> (try simp only [hc])
 | ((with_reducible first | refine leafR hQ ?_ | refine leafN hQ ?_); (try cases h); simp only [resL, oneD, Option.some.injEq, exists_eq_left', go_sem, hlt, hget, hpu, hinc, Int.reduceLE, ↓reduceIte, reduceCtorEq, Nat.reduceEqDiff, Nat.reduceLeDiff, Nat.reduceAdd, Nat.reduceMul, Nat.reduceSub, Nat.reduceLT, d1]; repeat' (first | exact Ok.out | with_reducible refine And.intro ?_ ?_ | (simp; done)))
 | (cases h; replace h := hr; clear hr; (try simp only [bs, ↓reduceIte] at h))
 | (cases h; done))
    · have d1 : decide (left < 1) = false := by simpa using hl1
      have w1 : IntKind.wrap .i64 (left - 1) = left - 1 := wrap_ok (by omega) (by omega)
      have hk : ∀ y ∈ kids, ∀ s, Fun Tryd.prog n_tree_deep [.agg (encEx y), .int .i64 (left - 1)] s (.bool (y.dp (left - 1))) s := fun y hy s =>
        ih y (by simp only [Ex.size] at h; have := Ex.sizes_mem hy; omega) (by simp only [Ex.size] at hx; have := Ex.sizes_mem hy; omega) (Ex.texts_mem ht hy) (left - 1) (by omega) (by omega) s
      simp only [d1, Bool.false_or] at hp
      have h := hp
      clear hp
      refine Fun.go has_tree_deep rfl fun B Q hB hQ => ?_
      have hlt : 0 < 1 := Nat.zero_lt_one
      have hget : 0 < 1 := Nat.zero_lt_one
      have hpu : 0 < 1 := Nat.zero_lt_one
      have hinc : 0 < 1 := Nat.zero_lt_one
      repeat' (first
 | simp only [go_sem, hlt, hget, hpu, hinc, Int.reduceLE, ↓reduceIte, reduceCtorEq, Nat.reduceEqDiff, Nat.reduceLeDiff, Nat.reduceAdd, Nat.reduceMul, Nat.reduceSub, Nat.reduceLT, d1]
 | (with_reducible refine CU (tkids_s _ _) ?_)
 | (with_reducible refine CU (hn _) ?_)
 | (with_reducible first | refine CB_ofT (by assumption) fun hc => ?_ | refine CB_ofF (by assumption) fun hc => ?_ | refine CB_split (fun hc => ?_) fun hc => ?_) <;> (try simp only [hc, bs, ↓reduceIte] at h) <;> (try simp only [hc])
 | ((with_reducible first | refine leafR hQ ?_ | refine leafN hQ ?_); (try cases h); simp only [resL, oneD, Option.some.injEq, exists_eq_left', go_sem, hlt, hget, hpu, hinc, Int.reduceLE, ↓reduceIte, reduceCtorEq, Nat.reduceEqDiff, Nat.reduceLeDiff, Nat.reduceAdd, Nat.reduceMul, Nat.reduceSub, Nat.reduceLT, d1]; repeat' (first | exact Ok.out | with_reducible refine And.intro ?_ ?_ | (simp; done)))
 | (cases h; replace h := hr; clear hr; (try simp only [bs, ↓reduceIte] at h))
 | (cases h; done))
      all_goals
        refine SemL.re _ _ 1 0 (by rw [hB]; exact Nat.le_of_ble_eq_true rfl) (by rw [hB]; exact Nat.le_of_ble_eq_true rfl) ?_ ?_ (SemL.ind (ι := List Ex × Nat) (fun i => kids.drop i.2 = i.1 ∧ Ex.dps (left - 1) i.1 = p) (fun i => i.1.length)
          (fun i => [(1, .int .i64 left), (49, .slice .shared 4 (kids.map encEx)), (50, .int .i64 (kids.length : Int)), (51, .int .i64 (i.2 : Int))]) (fun i => ⟨[encEx ⟨op, v, name, kids⟩], []⟩) ?_ (kids, 0) ⟨rfl, h⟩)
        · (simp only [go_sem, hlt, hget, hpu, hinc, Int.reduceLE, ↓reduceIte, reduceCtorEq, Nat.reduceEqDiff, Nat.reduceLeDiff, Nat.reduceAdd, Nat.reduceMul, Nat.reduceSub, Nat.reduceLT]; repeat' (first | exact Ok.out | with_reducible refine And.intro ?_ ?_))
        · (simp only [go_sem, hlt, hget, hpu, hinc, Int.reduceLE, ↓reduceIte, reduceCtorEq, Nat.reduceEqDiff, Nat.reduceLeDiff, Nat.reduceAdd, Nat.reduceMul, Nat.reduceSub, Nat.reduceLT]; repeat' (first | exact Ok.out | with_reducible refine And.intro ?_ ?_))
        rintro ⟨rest, k⟩ ⟨h1, h⟩ IH
        dsimp only at h1 h
        cases rest with
        | nil =>
          have hlt := drop_nil h1
          simp only [Ex.dps] at h
          repeat' (first
 | simp only [go_sem, hlt, hget, hpu, hinc, Int.reduceLE, ↓reduceIte, reduceCtorEq, Nat.reduceEqDiff, Nat.reduceLeDiff, Nat.reduceAdd, Nat.reduceMul, Nat.reduceSub, Nat.reduceLT]
 | (with_reducible first | refine CB_ofT (by assumption) fun hc => ?_ | refine CB_ofF (by assumption) fun hc => ?_ | refine CB_split (fun hc => ?_) fun hc => ?_) <;> (try simp only [hc, bs, ↓reduceIte] at h) <;> (try simp only [hc])
 | ((with_reducible first | refine leafR hQ ?_ | refine leafN hQ ?_); (try cases h); simp only [resL, oneD, Option.some.injEq, exists_eq_left', go_sem, hlt, hget, hpu, hinc, Int.reduceLE, ↓reduceIte, reduceCtorEq, Nat.reduceEqDiff, Nat.reduceLeDiff, Nat.reduceAdd, Nat.reduceMul, Nat.reduceSub, Nat.reduceLT]; repeat' (first | exact Ok.out | with_reducible refine And.intro ?_ ?_ | (simp; done)))
 | (cases h; replace h := hr; clear hr; (try simp only [bs, ↓reduceIte] at h))
 | (cases h; done))
        | cons y rest =>
          obtain ⟨hget, g2, hlt, g4⟩ := drop_cons h1
          have hy := hk y (List.mem_of_getElem? hget)
          have hpu : k < 4611686018427387904 := by omega
          simp only [Ex.dps] at h
          repeat' (first
 | simp only [go_sem, hlt, hget, hpu, hinc, Int.reduceLE, ↓reduceIte, reduceCtorEq, Nat.reduceEqDiff, Nat.reduceLeDiff, Nat.reduceAdd, Nat.reduceMul, Nat.reduceSub, Nat.reduceLT, w1]
 | (with_reducible refine CU (hy _) ?_)
 | (with_reducible first | refine CB_ofT (by assumption) fun hc => ?_ | refine CB_ofF (by assumption) fun hc => ?_ | refine CB_split (fun hc => ?_) fun hc => ?_) <;> (try simp only [hc, bs, ↓reduceIte] at h) <;> (try simp only [hc])
 | ((with_reducible first | refine leafR hQ ?_ | refine leafN hQ ?_); (try cases h); simp only [resL, oneD, Option.some.injEq, exists_eq_left', go_sem, hlt, hget, hpu, hinc, Int.reduceLE, ↓reduceIte, reduceCtorEq, Nat.reduceEqDiff, Nat.reduceLeDiff, Nat.reduceAdd, Nat.reduceMul, Nat.reduceSub, Nat.reduceLT, w1]; repeat' (first | exact Ok.out | with_reducible refine And.intro ?_ ?_ | (simp; done)))
 | (cases h; replace h := hr; clear hr; (try simp only [bs, ↓reduceIte] at h))
 | (cases h; done))
          refine SemL.re _ _ 1 0 (by rw [hB]; exact Nat.le_of_ble_eq_true rfl) (by rw [hB]; exact Nat.le_of_ble_eq_true rfl) ?_ ?_ (IH (rest, k + 1) ⟨g2, h⟩ (Nat.lt_succ_self _))
          · (simp only [go_sem, hlt, hget, hpu, hinc, Int.reduceLE, ↓reduceIte, reduceCtorEq, Nat.reduceEqDiff, Nat.reduceLeDiff, Nat.reduceAdd, Nat.reduceMul, Nat.reduceSub, Nat.reduceLT]; repeat' (first | exact Ok.out | with_reducible refine And.intro ?_ ?_))
          · (simp only [go_sem, hlt, hget, hpu, hinc, Int.reduceLE, ↓reduceIte, reduceCtorEq, Nat.reduceEqDiff, Nat.reduceLeDiff, Nat.reduceAdd, Nat.reduceMul, Nat.reduceSub, Nat.reduceLT]; repeat' (first | exact Ok.out | with_reducible refine And.intro ?_ ?_))

end Go.Abs

/-! TMay2 -/

namespace Go.Abs

set_option maxRecDepth 8000
set_option linter.unusedSimpArgs false
set_option linter.unusedVariables false
open Go.Proofs

theorem tMayExpr_s {x : Ex} (hx : x.size < 4611686018427387904) (ht : x.texts) (s : St) : Fun Tryd.prog n_tree_MayExpr [.agg (encEx x)] s (.bool (x.dp 20)) s := by
  refine Fun.pure ?_ (by simp [D.oks, D.ok, okEx]) rfl s
  have hd := fun s => tdeep_n _ x (Nat.le_refl _) hx ht 20 (by omega) (by omega) s
  unfold S0
  refine Fun.go has_tree_MayExpr rfl fun B Q hB hQ => ?_
  have hlt : 0 < 1 := Nat.zero_lt_one
  have hget : 0 < 1 := Nat.zero_lt_one
  have hpu : 0 < 1 := Nat.zero_lt_one
  have hinc : 0 < 1 := Nat.zero_lt_one
  repeat' (first
 | simp only [go_sem, hlt, hget, hpu, hinc, Int.reduceLE, ↓reduceIte, reduceCtorEq, Nat.reduceEqDiff, Nat.reduceLeDiff, Nat.reduceAdd, Nat.reduceMul, Nat.reduceSub, Nat.reduceLT]
 | (with_reducible refine CU (hd _) ?_)
 | (with_reducible first | refine CB_ofT (by assumption) fun hc => ?_ | refine CB_ofF (by assumption) fun hc => ?_ | refine CB_split (fun hc => ?_) fun hc => ?_) <;> (try simp only [hc, bs, ↓reduceIte] at h) <;> (try simp only [hc])
 | ((with_reducible first | refine leafR hQ ?_ | refine leafN hQ ?_); (try cases h); simp only [resL, oneD, Option.some.injEq, exists_eq_left', go_sem, hlt, hget, hpu, hinc, Int.reduceLE, ↓reduceIte, reduceCtorEq, Nat.reduceEqDiff, Nat.reduceLeDiff, Nat.reduceAdd, Nat.reduceMul, Nat.reduceSub, Nat.reduceLT]; repeat' (first | exact Ok.out | with_reducible refine And.intro ?_ ?_ | (simp; done)))
 | (cases h; replace h := hr; clear hr; (try simp only [bs, ↓reduceIte] at h))
 | (cases h; done))

theorem tnone_s (x : Ex) (s : St) : Fun Tryd.prog n_tree_none [.agg (encEx x)] s (.bool x.none) s := by
  refine Fun.pure ?_ (by simp [D.oks, D.ok, okEx]) rfl s
  unfold S0
  generalize h : Ex.none x = p
  unfold Ex.none at h
  refine Fun.go has_tree_none rfl fun B Q hB hQ => ?_
  have hlt : 0 < 1 := Nat.zero_lt_one
  have hget : 0 < 1 := Nat.zero_lt_one
  have hpu : 0 < 1 := Nat.zero_lt_one
  have hinc : 0 < 1 := Nat.zero_lt_one
  repeat' (first
 | simp only [go_sem, hlt, hget, hpu, hinc, Int.reduceLE, ↓reduceIte, reduceCtorEq, Nat.reduceEqDiff, Nat.reduceLeDiff, Nat.reduceAdd, Nat.reduceMul, Nat.reduceSub, Nat.reduceLT]
 | (with_reducible first | refine CB_ofT (by assumption) fun hc => ?_ | refine CB_ofF (by assumption) fun hc => ?_ | refine CB_split (fun hc => ?_) fun hc => ?_) <;> (try simp only [hc, bs, ↓reduceIte] at h) <;> (try simp only [hc])
 | ((with_reducible first | refine leafR hQ ?_ | refine leafN hQ ?_); (try cases h); simp only [resL, oneD, Option.some.injEq, exists_eq_left', go_sem, hlt, hget, hpu, hinc, Int.reduceLE, ↓reduceIte, reduceCtorEq, Nat.reduceEqDiff, Nat.reduceLeDiff, Nat.reduceAdd, Nat.reduceMul, Nat.reduceSub, Nat.reduceLT]; repeat' (first | exact Ok.out | with_reducible refine And.intro ?_ ?_ | (simp; done)))
 | (cases h; replace h := hr; clear hr; (try simp only [bs, ↓reduceIte] at h))
 | (cases h; done))

def namedM (t : Str) (is : Bool) : Bool := (is && isName t) || (!is && t == [])
theorem tnamed_s (t : Str) (is : Bool) (hl : t.length < 4611686018427387904) (s : St) : Fun Tryd.prog n_tree_named [.str t, .bool is] s (.bool (namedM t is)) s := by
  refine Fun.pure ?_ rfl rfl s
  have hn := Name_s t hl
  unfold S0
  generalize h : namedM t is = p
  unfold namedM at h
  refine Fun.go has_tree_named rfl fun B Q hB hQ => ?_
  have hlt : 0 < 1 := Nat.zero_lt_one
  have hget : 0 < 1 := Nat.zero_lt_one
  have hpu : 0 < 1 := Nat.zero_lt_one
  have hinc : 0 < 1 := Nat.zero_lt_one
  repeat' (first
 | simp only [go_sem, hlt, hget, hpu, hinc, Int.reduceLE, ↓reduceIte, reduceCtorEq, Nat.reduceEqDiff, Nat.reduceLeDiff, Nat.reduceAdd, Nat.reduceMul, Nat.reduceSub, Nat.reduceLT]
 | (with_reducible refine CU (hn _) ?_)
 | (with_reducible first | refine CB_ofT (by assumption) fun hc => ?_ | refine CB_ofF (by assumption) fun hc => ?_ | refine CB_split (fun hc => ?_) fun hc => ?_) <;> (try simp only [hc, bs, ↓reduceIte] at h) <;> (try simp only [hc])
 | ((with_reducible first | refine leafR hQ ?_ | refine leafN hQ ?_); (try cases h); simp only [resL, oneD, Option.some.injEq, exists_eq_left', go_sem, hlt, hget, hpu, hinc, Int.reduceLE, ↓reduceIte, reduceCtorEq, Nat.reduceEqDiff, Nat.reduceLeDiff, Nat.reduceAdd, Nat.reduceMul, Nat.reduceSub, Nat.reduceLT]; repeat' (first | exact Ok.out | with_reducible refine And.intro ?_ ?_ | (simp; done)))
 | (cases h; replace h := hr; clear hr; (try simp only [bs, ↓reduceIte] at h))
 | (cases h; done))

def worthM (x : Ex) (is : Bool) : Bool := (is && x.dp 20) || (!is && x.none)
theorem worth_s {x : Ex} (is : Bool) (hx : x.size < 4611686018427387904) (ht : x.texts) (s : St) : Fun Tryd.prog n_tree_worth [.agg (encEx x), .bool is] s (.bool (worthM x is)) s := by
  refine Fun.pure ?_ (by simp [D.oks, D.ok, okEx]) rfl s
  have hm := tMayExpr_s hx ht
  unfold S0
  generalize h : worthM x is = p
  unfold worthM at h
  refine Fun.go has_tree_worth rfl fun B Q hB hQ => ?_
  have hlt : 0 < 1 := Nat.zero_lt_one
  have hget : 0 < 1 := Nat.zero_lt_one
  have hpu : 0 < 1 := Nat.zero_lt_one
  have hinc : 0 < 1 := Nat.zero_lt_one
  repeat' (first
 | simp only [go_sem, hlt, hget, hpu, hinc, Int.reduceLE, ↓reduceIte, reduceCtorEq, Nat.reduceEqDiff, Nat.reduceLeDiff, Nat.reduceAdd, Nat.reduceMul, Nat.reduceSub, Nat.reduceLT]
 | (with_reducible refine CU (hm _) ?_)
 | (with_reducible refine CU (tnone_s _ _) ?_)
 | (with_reducible first | refine CB_ofT (by assumption) fun hc => ?_ | refine CB_ofF (by assumption) fun hc => ?_ | refine CB_split (fun hc => ?_) fun hc => ?_) <;> (try simp only [hc, bs, ↓reduceIte] at h) <;> (try simp only [hc])
 | ((with_reducible first | refine leafR hQ ?_ | refine leafN hQ ?_); (try cases h); simp only [resL, oneD, Option.some.injEq, exists_eq_left', go_sem, hlt, hget, hpu, hinc, Int.reduceLE, ↓reduceIte, reduceCtorEq, Nat.reduceEqDiff, Nat.reduceLeDiff, Nat.reduceAdd, Nat.reduceMul, Nat.reduceSub, Nat.reduceLT]; repeat' (first | exact Ok.out | with_reducible refine And.intro ?_ ?_ | (simp; done)))
 | (cases h; replace h := hr; clear hr; (try simp only [bs, ↓reduceIte] at h))
 | (cases h; done))

def handedM : List Ar → Bool
  | [] => true
  | a :: l => if !(namedM a.name a.ref) || !(worthM a.x !a.ref) then false else handedM l

theorem handed_s {l : List Ar} (hl : l.length < 4611686018427387904) (hs : ∀ a ∈ l, a.x.size < 4611686018427387904 ∧ a.x.texts ∧ a.name.length < 4611686018427387904) (s : St) :
    Fun Tryd.prog n_tree_handed [.slice .shared 6 (l.map encAr)] s (.bool (handedM l)) s := by
  refine Fun.pure ?_ (by simp [D.oks, D.ok, okrAr, Tag.ok]) rfl s
  unfold S0
  generalize h : handedM l = p
  refine Fun.go has_tree_handed rfl fun B Q hB hQ => ?_
  have hlt : 0 < 1 := Nat.zero_lt_one
  have hget : 0 < 1 := Nat.zero_lt_one
  have hpu : 0 < 1 := Nat.zero_lt_one
  have hinc : 0 < 1 := Nat.zero_lt_one
  repeat' (first
 | simp only [go_sem, hlt, hget, hpu, hinc, Int.reduceLE, ↓reduceIte, reduceCtorEq, Nat.reduceEqDiff, Nat.reduceLeDiff, Nat.reduceAdd, Nat.reduceMul, Nat.reduceSub, Nat.reduceLT]
 | (with_reducible first | refine CB_ofT (by assumption) fun hc => ?_ | refine CB_ofF (by assumption) fun hc => ?_ | refine CB_split (fun hc => ?_) fun hc => ?_) <;> (try simp only [hc, bs, ↓reduceIte] at h) <;> (try simp only [hc])
 | ((with_reducible first | refine leafR hQ ?_ | refine leafN hQ ?_); (try cases h); simp only [resL, oneD, Option.some.injEq, exists_eq_left', go_sem, hlt, hget, hpu, hinc, Int.reduceLE, ↓reduceIte, reduceCtorEq, Nat.reduceEqDiff, Nat.reduceLeDiff, Nat.reduceAdd, Nat.reduceMul, Nat.reduceSub, Nat.reduceLT]; repeat' (first | exact Ok.out | with_reducible refine And.intro ?_ ?_ | (simp; done)))
 | (cases h; replace h := hr; clear hr; (try simp only [bs, ↓reduceIte] at h))
 | (cases h; done))
  refine SemL.re _ _ 0 0 (by rw [hB]; exact Nat.le_of_ble_eq_true rfl) (by rw [hB]; exact Nat.le_of_ble_eq_true rfl) ?_ ?_ (SemL.ind (ι := List Ar × Nat) (fun i => l.drop i.2 = i.1 ∧ handedM i.1 = p) (fun i => i.1.length)
    (fun i => [(5, .slice .shared 6 (l.map encAr)), (6, .int .i64 (l.length : Int)), (7, .int .i64 (i.2 : Int))]) (fun i => ⟨[], []⟩) ?_ (l, 0) ⟨rfl, h⟩)
  · (simp only [go_sem, hlt, hget, hpu, hinc, Int.reduceLE, ↓reduceIte, reduceCtorEq, Nat.reduceEqDiff, Nat.reduceLeDiff, Nat.reduceAdd, Nat.reduceMul, Nat.reduceSub, Nat.reduceLT]; repeat' (first | exact Ok.out | with_reducible refine And.intro ?_ ?_))
  · (simp only [go_sem, hlt, hget, hpu, hinc, Int.reduceLE, ↓reduceIte, reduceCtorEq, Nat.reduceEqDiff, Nat.reduceLeDiff, Nat.reduceAdd, Nat.reduceMul, Nat.reduceSub, Nat.reduceLT]; repeat' (first | exact Ok.out | with_reducible refine And.intro ?_ ?_))
  rintro ⟨rest, k⟩ ⟨h1, h⟩ IH
  dsimp only at h1 h
  cases rest with
  | nil =>
    have hlt := drop_nil h1
    simp only [handedM] at h
    repeat' (first
 | simp only [go_sem, hlt, hget, hpu, hinc, Int.reduceLE, ↓reduceIte, reduceCtorEq, Nat.reduceEqDiff, Nat.reduceLeDiff, Nat.reduceAdd, Nat.reduceMul, Nat.reduceSub, Nat.reduceLT]
 | (with_reducible first | refine CB_ofT (by assumption) fun hc => ?_ | refine CB_ofF (by assumption) fun hc => ?_ | refine CB_split (fun hc => ?_) fun hc => ?_) <;> (try simp only [hc, bs, ↓reduceIte] at h) <;> (try simp only [hc])
 | ((with_reducible first | refine leafR hQ ?_ | refine leafN hQ ?_); (try cases h); simp only [resL, oneD, Option.some.injEq, exists_eq_left', go_sem, hlt, hget, hpu, hinc, Int.reduceLE, ↓reduceIte, reduceCtorEq, Nat.reduceEqDiff, Nat.reduceLeDiff, Nat.reduceAdd, Nat.reduceMul, Nat.reduceSub, Nat.reduceLT]; repeat' (first | exact Ok.out | with_reducible refine And.intro ?_ ?_ | (simp; done)))
 | (cases h; replace h := hr; clear hr; (try simp only [bs, ↓reduceIte] at h))
 | (cases h; done))
  | cons a rest =>
    obtain ⟨hget, g2, hlt, g4⟩ := drop_cons h1
    have hpu : k < 4611686018427387904 := by omega
    obtain ⟨a1, a2, a3⟩ := hs a (List.mem_of_getElem? hget)
    have hn := fun b s => tnamed_s a.name b a3 s
    have hw := fun b s => worth_s b a1 a2 s
    simp only [handedM] at h
    repeat' (first
 | simp only [go_sem, hlt, hget, hpu, hinc, Int.reduceLE, ↓reduceIte, reduceCtorEq, Nat.reduceEqDiff, Nat.reduceLeDiff, Nat.reduceAdd, Nat.reduceMul, Nat.reduceSub, Nat.reduceLT]
 | (with_reducible refine CU (hn _ _) ?_)
 | (with_reducible refine CU (hw _ _) ?_)
 | (with_reducible first | refine CB_ofT (by assumption) fun hc => ?_ | refine CB_ofF (by assumption) fun hc => ?_ | refine CB_split (fun hc => ?_) fun hc => ?_) <;> (try simp only [hc, bs, ↓reduceIte] at h) <;> (try simp only [hc])
 | ((with_reducible first | refine leafR hQ ?_ | refine leafN hQ ?_); (try cases h); simp only [resL, oneD, Option.some.injEq, exists_eq_left', go_sem, hlt, hget, hpu, hinc, Int.reduceLE, ↓reduceIte, reduceCtorEq, Nat.reduceEqDiff, Nat.reduceLeDiff, Nat.reduceAdd, Nat.reduceMul, Nat.reduceSub, Nat.reduceLT]; repeat' (first | exact Ok.out | with_reducible refine And.intro ?_ ?_ | (simp; done)))
 | (cases h; replace h := hr; clear hr; (try simp only [bs, ↓reduceIte] at h))
 | (cases h; done))
    refine SemL.re _ _ 0 0 (by rw [hB]; exact Nat.le_of_ble_eq_true rfl) (by rw [hB]; exact Nat.le_of_ble_eq_true rfl) ?_ ?_ (IH (rest, k + 1) ⟨g2, h⟩ (Nat.lt_succ_self _))
    · (simp only [go_sem, hlt, hget, hpu, hinc, Int.reduceLE, ↓reduceIte, reduceCtorEq, Nat.reduceEqDiff, Nat.reduceLeDiff, Nat.reduceAdd, Nat.reduceMul, Nat.reduceSub, Nat.reduceLT]; repeat' (first | exact Ok.out | with_reducible refine And.intro ?_ ?_))
    · (simp only [go_sem, hlt, hget, hpu, hinc, Int.reduceLE, ↓reduceIte, reduceCtorEq, Nat.reduceEqDiff, Nat.reduceLeDiff, Nat.reduceAdd, Nat.reduceMul, Nat.reduceSub, Nat.reduceLT]; repeat' (first | exact Ok.out | with_reducible refine And.intro ?_ ?_))

/-- Has a name, a procedure, an expression, a value although it may not, statements in it, others. -/
def Sm.flags (s : Sm) : Option (Bool × Bool × Bool × Bool × Bool × Bool) :=
  if s.kind == 1 then some (true, false, true, s.has, false, false)
  else if s.kind == 2 || s.kind == 10 then some (true, false, false, s.has, false, false)
  else if s.kind == 3 then some (false, false, true, s.has, false, false)
  else if s.kind == 4 then some (!(s.name == []), true, false, s.has, false, false)
  else if s.kind == 5 then some (false, false, true, s.has, true, true)
  else if s.kind == 6 then some (false, false, true, s.has, true, false)
  else if s.kind == 9 then some (false, false, s.has, false, false, false)
  else if s.kind == 7 || s.kind == 8 then some (false, false, false, s.has, false, false)
  else none
def Sm.tail2 (s : Sm) (nm pr x : Bool) : Bool := if !(namedM s.name nm) || !(namedM s.proc pr) || !(worthM s.x x) then false else handedM s.args
def Sm.tail1 (s : Sm) (f : Bool × Bool × Bool × Bool × Bool × Bool) : Bool :=
  if f.2.2.2.1 || (!f.2.2.2.2.1 && decide ((s.thn.length : Int) > 0)) || (!f.2.2.2.2.2 && decide ((s.els.length : Int) > 0)) || (!(s.kind == 4) && decide ((s.args.length : Int) > 0)) then false
  else s.tail2 f.1 f.2.1 f.2.2.1
def Sm.fields (s : Sm) : Bool := match s.flags with
  | none => false
  | some f => s.tail1 f

section
variable {v : Sm} {B : Base} {Q : Exit → Tm → St → Prop} {p : Bool}

theorem fields_2 {nm pr x : Bool} (hf : v.Fine) (hB : B.s = ⟨[], []⟩) (hQ : retF 0 0 [(2, none)] (.bool p) ⟨[], []⟩ = Q) (h : v.tail2 nm pr x = p) :
    Sem Tryd.prog B 93 QU5 Q [(1, .ptr 0 0), (3, .bool nm), (4, .bool pr), (5, .bool x)] ⟨[encSm v], []⟩ := by
  have h1 := fun b s => tnamed_s v.name b hf.name s
  have h2 := fun b s => tnamed_s v.proc b hf.proc s
  have h3 := fun b s => worth_s b hf.x hf.xt s
  have h4 := fun s => handed_s hf.argl hf.arg s
  unfold Sm.tail2 at h
  have hlt : 0 < 1 := Nat.zero_lt_one
  have hget : 0 < 1 := Nat.zero_lt_one
  have hpu : 0 < 1 := Nat.zero_lt_one
  have hinc : 0 < 1 := Nat.zero_lt_one
  refine wpC_sound ?_
  repeat' (first
 | simp only [go_sem, hlt, hget, hpu, hinc, Int.reduceLE, ↓reduceIte, reduceCtorEq, Nat.reduceEqDiff, Nat.reduceLeDiff, Nat.reduceAdd, Nat.reduceMul, Nat.reduceSub, Nat.reduceLT]
 | (with_reducible refine CU (h1 _ _) ?_)
 | (with_reducible refine CU (h2 _ _) ?_)
 | (with_reducible refine CU (h3 _ _) ?_)
 | (with_reducible refine CU (h4 _) ?_)
 | (with_reducible first | refine CB_ofT (by assumption) fun hc => ?_ | refine CB_ofF (by assumption) fun hc => ?_ | refine CB_split (fun hc => ?_) fun hc => ?_) <;> (try simp only [hc, bs, ↓reduceIte] at h) <;> (try simp only [hc])
 | ((with_reducible first | refine leafR hQ ?_ | refine leafN hQ ?_); (try cases h); simp only [resL, oneD, Option.some.injEq, exists_eq_left', go_sem, hlt, hget, hpu, hinc, Int.reduceLE, ↓reduceIte, reduceCtorEq, Nat.reduceEqDiff, Nat.reduceLeDiff, Nat.reduceAdd, Nat.reduceMul, Nat.reduceSub, Nat.reduceLT]; repeat' (first | exact Ok.out | with_reducible refine And.intro ?_ ?_ | (simp; done)))
 | (cases h; replace h := hr; clear hr; (try simp only [bs, ↓reduceIte] at h))
 | (cases h; done))

theorem fields_1 {nm pr x has th ot ar : Bool} (hf : v.Fine) (hB : B.s = ⟨[], []⟩) (hQ : retF 0 0 [(2, none)] (.bool p) ⟨[], []⟩ = Q) (e : (v.kind == 4) = ar) (h : v.tail1 (nm, pr, x, has, th, ot) = p) :
    Sem Tryd.prog B 93 QU6 Q [(1, .ptr 0 0), (3, .bool nm), (4, .bool pr), (5, .bool x), (6, .bool has), (7, .bool th), (8, .bool ot), (9, .bool ar)] ⟨[encSm v], []⟩ := by
  simp only [Sm.tail1, e] at h
  have hlt : 0 < 1 := Nat.zero_lt_one
  have hget : 0 < 1 := Nat.zero_lt_one
  have hpu : 0 < 1 := Nat.zero_lt_one
  have hinc : 0 < 1 := Nat.zero_lt_one
  refine Sem.seqW ?_
  repeat' (first
 | simp only [go_sem, hlt, hget, hpu, hinc, Int.reduceLE, ↓reduceIte, reduceCtorEq, Nat.reduceEqDiff, Nat.reduceLeDiff, Nat.reduceAdd, Nat.reduceMul, Nat.reduceSub, Nat.reduceLT]
 | (with_reducible first | refine CB_ofT (by assumption) fun hc => ?_ | refine CB_ofF (by assumption) fun hc => ?_ | refine CB_split (fun hc => ?_) fun hc => ?_) <;> (try simp only [hc, bs, ↓reduceIte] at h) <;> (try simp only [hc])
 | ((with_reducible first | refine leafR hQ ?_ | refine leafN hQ ?_); (try cases h); simp only [resL, oneD, Option.some.injEq, exists_eq_left', go_sem, hlt, hget, hpu, hinc, Int.reduceLE, ↓reduceIte, reduceCtorEq, Nat.reduceEqDiff, Nat.reduceLeDiff, Nat.reduceAdd, Nat.reduceMul, Nat.reduceSub, Nat.reduceLT]; repeat' (first | exact Ok.out | with_reducible refine And.intro ?_ ?_ | (simp; done)))
 | (cases h; replace h := hr; clear hr; (try simp only [bs, ↓reduceIte] at h))
 | (cases h; done))
  all_goals
    refine Sem.re _ _ 1 0 (by rw [hB]; exact Nat.le_of_ble_eq_true rfl) (by rw [hB]; exact Nat.le_of_ble_eq_true rfl) ?_ ?_ (fields_2 hf hB hQ h)
    · (simp only [go_sem, hlt, hget, hpu, hinc, Int.reduceLE, ↓reduceIte, reduceCtorEq, Nat.reduceEqDiff, Nat.reduceLeDiff, Nat.reduceAdd, Nat.reduceMul, Nat.reduceSub, Nat.reduceLT]; repeat' (first | exact Ok.out | with_reducible refine And.intro ?_ ?_))
    · (simp only [go_sem, hlt, hget, hpu, hinc, Int.reduceLE, ↓reduceIte, reduceCtorEq, Nat.reduceEqDiff, Nat.reduceLeDiff, Nat.reduceAdd, Nat.reduceMul, Nat.reduceSub, Nat.reduceLT]; repeat' (first | exact Ok.out | with_reducible refine And.intro ?_ ?_))

theorem fields_0 {ar : Bool} (hf : v.Fine) (hB : B.s = ⟨[], []⟩) (hQ : retF 0 0 [(2, none)] (.bool p) ⟨[], []⟩ = Q) (e : (v.kind == 4) = ar) (h : v.fields = p) :
    Sem Tryd.prog B 93 QU7 Q [(1, .ptr 0 0), (3, .bool false), (4, .bool false), (5, .bool false), (6, .bool v.has), (7, .bool false), (8, .bool false), (9, .bool ar)] ⟨[encSm v], []⟩ := by
  simp only [Sm.fields, Sm.flags] at h
  have hlt : 0 < 1 := Nat.zero_lt_one
  have hget : 0 < 1 := Nat.zero_lt_one
  have hpu : 0 < 1 := Nat.zero_lt_one
  have hinc : 0 < 1 := Nat.zero_lt_one
  refine Sem.seqW ?_
  repeat' (first
 | simp only [go_sem, hlt, hget, hpu, hinc, Int.reduceLE, ↓reduceIte, reduceCtorEq, Nat.reduceEqDiff, Nat.reduceLeDiff, Nat.reduceAdd, Nat.reduceMul, Nat.reduceSub, Nat.reduceLT]
 | (with_reducible first | refine CB_ofT (by assumption) fun hc => ?_ | refine CB_ofF (by assumption) fun hc => ?_ | refine CB_split (fun hc => ?_) fun hc => ?_) <;> (try simp only [hc, bs, ↓reduceIte] at h) <;> (try simp only [hc])
 | ((with_reducible first | refine leafR hQ ?_ | refine leafN hQ ?_); (try cases h); simp only [resL, oneD, Option.some.injEq, exists_eq_left', go_sem, hlt, hget, hpu, hinc, Int.reduceLE, ↓reduceIte, reduceCtorEq, Nat.reduceEqDiff, Nat.reduceLeDiff, Nat.reduceAdd, Nat.reduceMul, Nat.reduceSub, Nat.reduceLT]; repeat' (first | exact Ok.out | with_reducible refine And.intro ?_ ?_ | (simp; done)))
 | (cases h; replace h := hr; clear hr; (try simp only [bs, ↓reduceIte] at h))
 | (cases h; done))
  all_goals
    refine Sem.re _ _ 1 0 (by rw [hB]; exact Nat.le_of_ble_eq_true rfl) (by rw [hB]; exact Nat.le_of_ble_eq_true rfl) ?_ ?_ (fields_1 hf hB hQ e h)
    · (simp only [go_sem, hlt, hget, hpu, hinc, Int.reduceLE, ↓reduceIte, reduceCtorEq, Nat.reduceEqDiff, Nat.reduceLeDiff, Nat.reduceAdd, Nat.reduceMul, Nat.reduceSub, Nat.reduceLT]; repeat' (first | exact Ok.out | with_reducible refine And.intro ?_ ?_))
    · (simp only [go_sem, hlt, hget, hpu, hinc, Int.reduceLE, ↓reduceIte, reduceCtorEq, Nat.reduceEqDiff, Nat.reduceLeDiff, Nat.reduceAdd, Nat.reduceMul, Nat.reduceSub, Nat.reduceLT]; repeat' (first | exact Ok.out | with_reducible refine And.intro ?_ ?_))
end

theorem fields_s {v : Sm} (hf : v.Fine) (s : St) : Fun Tryd.prog n_tree_fields [.agg (encSm v)] s (.bool v.fields) s := by
  refine Fun.pure ?_ (by simp [D.oks, D.ok, okSm]) rfl s
  unfold S0
  refine Fun.goS has_tree_fields rfl fun B Q hB hQ => ?_
  have hlt : 0 < 1 := Nat.zero_lt_one
  have hget : 0 < 1 := Nat.zero_lt_one
  have hpu : 0 < 1 := Nat.zero_lt_one
  have hinc : 0 < 1 := Nat.zero_lt_one
  refine Sem.seq (b := QU9) (wpC_sound ?_)
  repeat' (first
 | simp only [go_sem, hlt, hget, hpu, hinc, Int.reduceLE, ↓reduceIte, reduceCtorEq, Nat.reduceEqDiff, Nat.reduceLeDiff, Nat.reduceAdd, Nat.reduceMul, Nat.reduceSub, Nat.reduceLT]
 | (with_reducible first | refine CB_ofT (by assumption) fun hc => ?_ | refine CB_ofF (by assumption) fun hc => ?_ | refine CB_split (fun hc => ?_) fun hc => ?_) <;> (try simp only [hc, bs, ↓reduceIte] at h) <;> (try simp only [hc])
 | ((with_reducible first | refine leafR hQ ?_ | refine leafN hQ ?_); (try cases h); simp only [resL, oneD, Option.some.injEq, exists_eq_left', go_sem, hlt, hget, hpu, hinc, Int.reduceLE, ↓reduceIte, reduceCtorEq, Nat.reduceEqDiff, Nat.reduceLeDiff, Nat.reduceAdd, Nat.reduceMul, Nat.reduceSub, Nat.reduceLT]; repeat' (first | exact Ok.out | with_reducible refine And.intro ?_ ?_ | (simp; done)))
 | (cases h; replace h := hr; clear hr; (try simp only [bs, ↓reduceIte] at h))
 | (cases h; done))
  refine Sem.seq (b := QU8) (wpC_sound ?_)
  repeat' (first
 | simp only [go_sem, hlt, hget, hpu, hinc, Int.reduceLE, ↓reduceIte, reduceCtorEq, Nat.reduceEqDiff, Nat.reduceLeDiff, Nat.reduceAdd, Nat.reduceMul, Nat.reduceSub, Nat.reduceLT]
 | (with_reducible first | refine CB_ofT (by assumption) fun hc => ?_ | refine CB_ofF (by assumption) fun hc => ?_ | refine CB_split (fun hc => ?_) fun hc => ?_) <;> (try simp only [hc, bs, ↓reduceIte] at h) <;> (try simp only [hc])
 | ((with_reducible first | refine leafR hQ ?_ | refine leafN hQ ?_); (try cases h); simp only [resL, oneD, Option.some.injEq, exists_eq_left', go_sem, hlt, hget, hpu, hinc, Int.reduceLE, ↓reduceIte, reduceCtorEq, Nat.reduceEqDiff, Nat.reduceLeDiff, Nat.reduceAdd, Nat.reduceMul, Nat.reduceSub, Nat.reduceLT]; repeat' (first | exact Ok.out | with_reducible refine And.intro ?_ ?_ | (simp; done)))
 | (cases h; replace h := hr; clear hr; (try simp only [bs, ↓reduceIte] at h))
 | (cases h; done))
  refine Sem.seq (b := QU7) (wpC_sound ?_)
  repeat' (first
 | simp only [go_sem, hlt, hget, hpu, hinc, Int.reduceLE, ↓reduceIte, reduceCtorEq, Nat.reduceEqDiff, Nat.reduceLeDiff, Nat.reduceAdd, Nat.reduceMul, Nat.reduceSub, Nat.reduceLT]
 | (with_reducible first | refine CB_ofT (by assumption) fun hc => ?_ | refine CB_ofF (by assumption) fun hc => ?_ | refine CB_split (fun hc => ?_) fun hc => ?_) <;> (try simp only [hc, bs, ↓reduceIte] at h) <;> (try simp only [hc])
 | ((with_reducible first | refine leafR hQ ?_ | refine leafN hQ ?_); (try cases h); simp only [resL, oneD, Option.some.injEq, exists_eq_left', go_sem, hlt, hget, hpu, hinc, Int.reduceLE, ↓reduceIte, reduceCtorEq, Nat.reduceEqDiff, Nat.reduceLeDiff, Nat.reduceAdd, Nat.reduceMul, Nat.reduceSub, Nat.reduceLT]; repeat' (first | exact Ok.out | with_reducible refine And.intro ?_ ?_ | (simp; done)))
 | (cases h; replace h := hr; clear hr; (try simp only [bs, ↓reduceIte] at h))
 | (cases h; done))
  refine Sem.re _ _ 1 0 (by rw [hB]; exact Nat.le_of_ble_eq_true rfl) (by rw [hB]; exact Nat.le_of_ble_eq_true rfl) ?_ ?_ (fields_0 hf hB hQ rfl rfl)
  · (simp only [go_sem, hlt, hget, hpu, hinc, Int.reduceLE, ↓reduceIte, reduceCtorEq, Nat.reduceEqDiff, Nat.reduceLeDiff, Nat.reduceAdd, Nat.reduceMul, Nat.reduceSub, Nat.reduceLT]; repeat' (first | exact Ok.out | with_reducible refine And.intro ?_ ?_))
  · (simp only [go_sem, hlt, hget, hpu, hinc, Int.reduceLE, ↓reduceIte, reduceCtorEq, Nat.reduceEqDiff, Nat.reduceLeDiff, Nat.reduceAdd, Nat.reduceMul, Nat.reduceSub, Nat.reduceLT]; repeat' (first | exact Ok.out | with_reducible refine And.intro ?_ ?_))

end Go.Abs

/-! TMay3 -/

namespace Go.Abs

set_option maxRecDepth 8000
set_option linter.unusedSimpArgs false
set_option linter.unusedVariables false
open Go.Proofs

def gate (nest : Int) (len n : Nat) (r : Bool × Nat) : Bool × Nat := if decide (nest > 12) && decide ((len : Int) > 0) then (false, n) else r

mutual
/-- May a statement stand so deep, numbered on? How many there are then. -/
def Sm.mayR (nest : Int) (n : Nat) : Sm → Bool × Nat
  | ⟨id, kind, labels, name, proc, x, has, args, thn, els⟩ =>
    if decide (((n + 1 : Nat) : Int) > 200) || id != ((n + 1 : Nat) : Int) || !(mayNames labels) || !(Sm.fields ⟨id, kind, labels, name, proc, x, has, args, thn, els⟩) then (false, n + 1)
    else if !(gate (nest + 1) thn.length (n + 1) (Sm.mayL (nest + 1) (n + 1) thn)).1 then (false, (gate (nest + 1) thn.length (n + 1) (Sm.mayL (nest + 1) (n + 1) thn)).2)
    else gate (nest + 1) els.length (gate (nest + 1) thn.length (n + 1) (Sm.mayL (nest + 1) (n + 1) thn)).2 (Sm.mayL (nest + 1) (gate (nest + 1) thn.length (n + 1) (Sm.mayL (nest + 1) (n + 1) thn)).2 els)
def Sm.mayL (nest : Int) (n : Nat) : List Sm → Bool × Nat
  | [] => (true, n)
  | s :: l => if !(Sm.mayR nest n s).1 then (false, (Sm.mayR nest n s).2) else Sm.mayL nest (Sm.mayR nest n s).2 l
end
def Sm.mayG (nest : Int) (n : Nat) (l : List Sm) : Bool × Nat := gate nest l.length n (Sm.mayL nest n l)

theorem mayR_eq (nest : Int) (n : Nat) (s : Sm) : Sm.mayR nest n s =
    if decide (((n + 1 : Nat) : Int) > 200) || s.id != ((n + 1 : Nat) : Int) || !(mayNames s.labels) || !(s.fields) then (false, n + 1)
    else if !(Sm.mayG (nest + 1) (n + 1) s.thn).1 then (false, (Sm.mayG (nest + 1) (n + 1) s.thn).2)
    else Sm.mayG (nest + 1) (Sm.mayG (nest + 1) (n + 1) s.thn).2 s.els := by
  cases s; simp only [Sm.mayR, Sm.mayG]; rfl

mutual
/-- The texts of a statement, with what is in it, are texts. -/
def Sm.FineD : Sm → Prop
  | ⟨id, kind, labels, name, proc, x, has, args, thn, els⟩ => Sm.Fine ⟨id, kind, labels, name, proc, x, has, args, thn, els⟩ ∧ Sm.FineDs thn ∧ Sm.FineDs els
def Sm.FineDs : List Sm → Prop
  | [] => True
  | s :: l => s.FineD ∧ Sm.FineDs l
end
theorem FineD_eq (s : Sm) : s.FineD ↔ s.Fine ∧ Sm.FineDs s.thn ∧ Sm.FineDs s.els := by cases s; simp only [Sm.FineD]
theorem FineDs_mem {s : Sm} : ∀ {l : List Sm}, Sm.FineDs l → s ∈ l → s.FineD
  | y :: l, h, m => by
    simp only [Sm.FineDs] at h
    rcases List.mem_cons.1 m with rfl | m
    · exact h.1
    · exact FineDs_mem h.2 m

mutual
theorem mayR_le (nest : Int) (n : Nat) : ∀ s : Sm, n ≤ 201 → (Sm.mayR nest n s).2 ≤ 202 ∧ ((Sm.mayR nest n s).1 = true → (Sm.mayR nest n s).2 ≤ 200)
  | ⟨id, kind, labels, name, proc, x, has, args, thn, els⟩, hn => by
    simp only [Sm.mayR]
    split
    · exact ⟨by dsimp only; omega, fun h => by cases h⟩
    rename_i hc
    simp only [Bool.or_eq_true, decide_eq_true_eq, not_or] at hc
    have hn2 : n + 1 ≤ 200 := by omega
    have g1 : ∀ (nest : Int) (l : List Sm) (m : Nat), m ≤ 200 → (Sm.mayL nest m l).2 ≤ 202 ∧ ((Sm.mayL nest m l).1 = true → (Sm.mayL nest m l).2 ≤ 200) →
        (gate nest l.length m (Sm.mayL nest m l)).2 ≤ 202 ∧ ((gate nest l.length m (Sm.mayL nest m l)).1 = true → (gate nest l.length m (Sm.mayL nest m l)).2 ≤ 200) := by
      intro nest l m hm h
      unfold gate
      split
      · exact ⟨by dsimp only; omega, fun h => by cases h⟩
      · exact h
    have h1 := g1 (nest + 1) thn (n + 1) hn2 (mayL_le (nest + 1) (n + 1) thn hn2)
    split
    · exact ⟨h1.1, fun h => by cases h⟩
    rename_i hc2
    have h2 := h1.2 (by simpa using hc2)
    exact g1 (nest + 1) els _ h2 (mayL_le (nest + 1) _ els h2)
theorem mayL_le (nest : Int) (n : Nat) : ∀ l : List Sm, n ≤ 200 → (Sm.mayL nest n l).2 ≤ 202 ∧ ((Sm.mayL nest n l).1 = true → (Sm.mayL nest n l).2 ≤ 200)
  | [], hn => by simp only [Sm.mayL]; exact ⟨by omega, fun _ => hn⟩
  | s :: l, hn => by
    simp only [Sm.mayL]
    have h1 := mayR_le nest n s (by omega)
    split
    · exact ⟨h1.1, fun h => by cases h⟩
    rename_i hc
    exact mayL_le nest _ l (h1.2 (by simpa using hc))
end
theorem mayG_le {nest : Int} {n : Nat} {l : List Sm} (hn : n ≤ 200) : (Sm.mayG nest n l).2 ≤ 202 ∧ ((Sm.mayG nest n l).1 = true → (Sm.mayG nest n l).2 ≤ 200) := by
  unfold Sm.mayG gate
  split
  · exact ⟨by dsimp only; omega, fun h => by cases h⟩
  · exact mayL_le nest n l hn

theorem trows_n : ∀ (m : Nat) (l : List Sm), Sm.sizes l ≤ m → Sm.sizes l < 4611686018427387000 → Sm.FineDs l → ∀ (nest : Int) (n : Nat), 0 ≤ nest → nest ≤ 13 → n ≤ 200 →
    Fun Tryd.prog n_tree_looker_rows [.ptr 0 0, .slice .shared 13 (l.map encSm), .int .i64 nest] ⟨[[.int .i64 n]], []⟩ (.bool (Sm.mayG nest n l).1) ⟨[[.int .i64 (Sm.mayG nest n l).2]], []⟩ := by
  intro m
  induction m with
  | zero =>
    intro l h hs hf nest n h0 h13 hn
    cases l with
    | nil =>
      have d1 : decide ((0 : Int) > 0) = false := rfl
      have e : Sm.mayG nest n [] = (true, n) := by simp [Sm.mayG, gate, Sm.mayL]
      have z : decide ((0 : Int) < 0) = false := rfl
      rw [e]
      refine Fun.go has_tree_looker_rows rfl fun B Q hB hQ => ?_
      have hlt : 0 < 1 := Nat.zero_lt_one
      have hget : 0 < 1 := Nat.zero_lt_one
      have hpu : 0 < 1 := Nat.zero_lt_one
      have hinc : 0 < 1 := Nat.zero_lt_one
      repeat' (first
 | simp only [go_sem, hlt, hget, hpu, hinc, Int.reduceLE, ↓reduceIte, reduceCtorEq, Nat.reduceEqDiff, Nat.reduceLeDiff, Nat.reduceAdd, Nat.reduceMul, Nat.reduceSub, Nat.reduceLT, d1, z]
 | (with_reducible refine SemL.onceW ?_)
 | (with_reducible first | refine CB_ofT (by assumption) fun hc => ?_ | refine CB_ofF (by assumption) fun hc => ?_ | refine CB_split (fun hc => ?_) fun hc => ?_) <;> (try simp only [hc, bs, ↓reduceIte] at h) <;> (try simp only [hc])
 | ((with_reducible first | refine leafR hQ ?_ | refine leafN hQ ?_); (try cases h); simp only [resL, oneD, Option.some.injEq, exists_eq_left', go_sem, hlt, hget, hpu, hinc, Int.reduceLE, ↓reduceIte, reduceCtorEq, Nat.reduceEqDiff, Nat.reduceLeDiff, Nat.reduceAdd, Nat.reduceMul, Nat.reduceSub, Nat.reduceLT, d1, z]; repeat' (first | exact Ok.out | with_reducible refine And.intro ?_ ?_ | (simp; done)))
 | (cases h; replace h := hr; clear hr; (try simp only [bs, ↓reduceIte] at h))
 | (cases h; done))
    | cons s l => simp only [Sm.sizes] at h; omega
  | succ m ih =>
    intro l h hs hf nest n h0 h13 hn
    generalize hR : Sm.mayG nest n l = R
    have hlen := Sm.sizes_len l
    unfold Sm.mayG gate at hR
    have h := hR
    refine Fun.go has_tree_looker_rows rfl fun B Q hB hQ => ?_
    have hlt : 0 < 1 := Nat.zero_lt_one
    have hget : 0 < 1 := Nat.zero_lt_one
    have hpu : 0 < 1 := Nat.zero_lt_one
    have hinc : 0 < 1 := Nat.zero_lt_one
    repeat' (first
 | simp only [go_sem, hlt, hget, hpu, hinc, Int.reduceLE, ↓reduceIte, reduceCtorEq, Nat.reduceEqDiff, Nat.reduceLeDiff, Nat.reduceAdd, Nat.reduceMul, Nat.reduceSub, Nat.reduceLT]
 | (with_reducible first | refine CB_ofT (by assumption) fun hc => ?_ | refine CB_ofF (by assumption) fun hc => ?_ | refine CB_split (fun hc => ?_) fun hc => ?_) <;> (try simp only [hc, bs, ↓reduceIte] at h) <;> (try simp only [hc])
 | ((with_reducible first | refine leafR hQ ?_ | refine leafN hQ ?_); (try cases h); simp only [resL, oneD, Option.some.injEq, exists_eq_left', go_sem, hlt, hget, hpu, hinc, Int.reduceLE, ↓reduceIte, reduceCtorEq, Nat.reduceEqDiff, Nat.reduceLeDiff, Nat.reduceAdd, Nat.reduceMul, Nat.reduceSub, Nat.reduceLT]; repeat' (first | exact Ok.out | with_reducible refine And.intro ?_ ?_ | (simp; done)))
 | (cases h; replace h := hr; clear hr; (try simp only [bs, ↓reduceIte] at h))
 | (cases h; done))
    all_goals
      have hnest : l ≠ [] → nest ≤ 12 := by
        intro hne
        have : l.length ≠ 0 := by simpa using hne
        simp_all <;> omega
      refine SemL.re _ _ 1 0 (by rw [hB]; exact Nat.le_of_ble_eq_true rfl) (by rw [hB]; exact Nat.le_of_ble_eq_true rfl) ?_ ?_ (SemL.ind (ι := List Sm × Nat × Nat) (fun i => l.drop i.2.1 = i.1 ∧ Sm.mayL nest i.2.2 i.1 = R ∧ i.2.2 ≤ 200) (fun i => i.1.length)
        (fun i => [(0, .ptr 0 0), (2, .int .i64 nest), (16, .slice .shared 13 (l.map encSm)), (17, .int .i64 (l.length : Int)), (18, .int .i64 (i.2.1 : Int))]) (fun i => ⟨[[.int .i64 (i.2.2 : Int)]], []⟩) ?_ (l, 0, n) ⟨rfl, h, hn⟩)
      · (simp only [go_sem, hlt, hget, hpu, hinc, Int.reduceLE, ↓reduceIte, reduceCtorEq, Nat.reduceEqDiff, Nat.reduceLeDiff, Nat.reduceAdd, Nat.reduceMul, Nat.reduceSub, Nat.reduceLT]; repeat' (first | exact Ok.out | with_reducible refine And.intro ?_ ?_))
      · (simp only [go_sem, hlt, hget, hpu, hinc, Int.reduceLE, ↓reduceIte, reduceCtorEq, Nat.reduceEqDiff, Nat.reduceLeDiff, Nat.reduceAdd, Nat.reduceMul, Nat.reduceSub, Nat.reduceLT]; repeat' (first | exact Ok.out | with_reducible refine And.intro ?_ ?_))
      rintro ⟨rest, k, j⟩ ⟨h1, h, hj⟩ IH
      dsimp only at h1 h hj
      cases rest with
      | nil =>
        have hlt := drop_nil h1
        simp only [Sm.mayL] at h
        repeat' (first
 | simp only [go_sem, hlt, hget, hpu, hinc, Int.reduceLE, ↓reduceIte, reduceCtorEq, Nat.reduceEqDiff, Nat.reduceLeDiff, Nat.reduceAdd, Nat.reduceMul, Nat.reduceSub, Nat.reduceLT]
 | (with_reducible first | refine CB_ofT (by assumption) fun hc => ?_ | refine CB_ofF (by assumption) fun hc => ?_ | refine CB_split (fun hc => ?_) fun hc => ?_) <;> (try simp only [hc, bs, ↓reduceIte] at h) <;> (try simp only [hc])
 | ((with_reducible first | refine leafR hQ ?_ | refine leafN hQ ?_); (try cases h); simp only [resL, oneD, Option.some.injEq, exists_eq_left', go_sem, hlt, hget, hpu, hinc, Int.reduceLE, ↓reduceIte, reduceCtorEq, Nat.reduceEqDiff, Nat.reduceLeDiff, Nat.reduceAdd, Nat.reduceMul, Nat.reduceSub, Nat.reduceLT]; repeat' (first | exact Ok.out | with_reducible refine And.intro ?_ ?_ | (simp; done)))
 | (cases h; replace h := hr; clear hr; (try simp only [bs, ↓reduceIte] at h))
 | (cases h; done))
      | cons s rest =>
        obtain ⟨hget, g2, hlt, g4⟩ := drop_cons h1
        have hpu : k < 4611686018427387904 := by omega
        have hmem := List.mem_of_getElem? hget
        have hsz := Sm.sizes_mem hmem
        have hn12 := hnest (by rintro rfl; simp at hmem)
        obtain ⟨hfs, hft, hfe⟩ := (FineD_eq s).1 (FineDs_mem hf hmem)
        have hsz2 : Sm.sizes s.thn < s.size ∧ Sm.sizes s.els < s.size := by cases s; simp only [Sm.size]; omega
        have w1 : IntKind.wrap .i64 ((j : Int) + 1) = ((j + 1 : Nat) : Int) := by rw [wrap_ok] <;> omega
        have w2 : IntKind.wrap .i64 (nest + 1) = nest + 1 := wrap_ok (by omega) (by omega)
        have c1 := fun s => tnames_s hfs.labl hfs.lab s
        have c2 := fun s => fields_s hfs s
        simp only [Sm.mayL, mayR_eq] at h
        by_cases hj2 : j + 1 ≤ 200
        · have r1 := mayG_le (nest := nest + 1) (l := s.thn) hj2
          have c3 := fun s' ho => (ih s.thn (by omega) (by omega) hft (nest + 1) (j + 1) (by omega) (by omega) hj2).meth (s := s') (o := 0) (by simp [D.oks, D.ok, okrSm, Tag.ok]) rfl rfl rfl ho
          by_cases hr1 : (Sm.mayG (nest + 1) (j + 1) s.thn).1 = true
          · have c4 := fun s' ho => (ih s.els (by omega) (by omega) hfe (nest + 1) _ (by omega) (by omega) (r1.2 hr1)).meth (s := s') (o := 0) (by simp [D.oks, D.ok, okrSm, Tag.ok]) rfl rfl rfl ho
            have r2 := mayG_le (nest := nest + 1) (l := s.els) (r1.2 hr1)
            simp only [hr1] at c3
            simp only [hr1, Bool.not_true, Bool.false_eq_true, ↓reduceIte] at h
            repeat' (first
 | simp only [go_sem, hlt, hget, hpu, hinc, Int.reduceLE, ↓reduceIte, reduceCtorEq, Nat.reduceEqDiff, Nat.reduceLeDiff, Nat.reduceAdd, Nat.reduceMul, Nat.reduceSub, Nat.reduceLT, w1, w2, hr1]
 | (with_reducible refine CU (c1 _) ?_)
 | (with_reducible refine CU (c2 _) ?_)
 | (with_reducible refine CU (c3 _ rfl) ?_)
 | (with_reducible refine CU (c4 _ rfl) ?_)
 | (with_reducible first | refine CB_ofT (by assumption) fun hc => ?_ | refine CB_ofF (by assumption) fun hc => ?_ | refine CB_split (fun hc => ?_) fun hc => ?_) <;> (try simp only [hc, bs, ↓reduceIte] at h) <;> (try simp only [hc])
 | ((with_reducible first | refine leafR hQ ?_ | refine leafN hQ ?_); (try cases h); simp only [resL, oneD, Option.some.injEq, exists_eq_left', go_sem, hlt, hget, hpu, hinc, Int.reduceLE, ↓reduceIte, reduceCtorEq, Nat.reduceEqDiff, Nat.reduceLeDiff, Nat.reduceAdd, Nat.reduceMul, Nat.reduceSub, Nat.reduceLT, w1, w2, hr1]; repeat' (first | exact Ok.out | with_reducible refine And.intro ?_ ?_ | (simp; done)))
 | (cases h; replace h := hr; clear hr; (try simp only [bs, ↓reduceIte] at h))
 | (cases h; done))
            refine SemL.re _ _ 1 0 (by rw [hB]; exact Nat.le_of_ble_eq_true rfl) (by rw [hB]; exact Nat.le_of_ble_eq_true rfl) ?_ ?_ (IH (rest, k + 1, (Sm.mayG (nest + 1) (Sm.mayG (nest + 1) (j + 1) s.thn).2 s.els).2) ⟨g2, h, r2.2 (by assumption)⟩ (Nat.lt_succ_self _))
            · (simp only [go_sem, hlt, hget, hpu, hinc, Int.reduceLE, ↓reduceIte, reduceCtorEq, Nat.reduceEqDiff, Nat.reduceLeDiff, Nat.reduceAdd, Nat.reduceMul, Nat.reduceSub, Nat.reduceLT]; repeat' (first | exact Ok.out | with_reducible refine And.intro ?_ ?_))
            · (simp only [go_sem, hlt, hget, hpu, hinc, Int.reduceLE, ↓reduceIte, reduceCtorEq, Nat.reduceEqDiff, Nat.reduceLeDiff, Nat.reduceAdd, Nat.reduceMul, Nat.reduceSub, Nat.reduceLT]; repeat' (first | exact Ok.out | with_reducible refine And.intro ?_ ?_))
          · have hr1 : (Sm.mayG (nest + 1) (j + 1) s.thn).1 = false := by simpa using hr1
            simp only [hr1] at c3
            simp only [hr1, Bool.not_false, ↓reduceIte] at h
            repeat' (first
 | simp only [go_sem, hlt, hget, hpu, hinc, Int.reduceLE, ↓reduceIte, reduceCtorEq, Nat.reduceEqDiff, Nat.reduceLeDiff, Nat.reduceAdd, Nat.reduceMul, Nat.reduceSub, Nat.reduceLT, w1, w2, hr1]
 | (with_reducible refine CU (c1 _) ?_)
 | (with_reducible refine CU (c2 _) ?_)
 | (with_reducible refine CU (c3 _ rfl) ?_)
 | (with_reducible first | refine CB_ofT (by assumption) fun hc => ?_ | refine CB_ofF (by assumption) fun hc => ?_ | refine CB_split (fun hc => ?_) fun hc => ?_) <;> (try simp only [hc, bs, ↓reduceIte] at h) <;> (try simp only [hc])
 | ((with_reducible first | refine leafR hQ ?_ | refine leafN hQ ?_); (try cases h); simp only [resL, oneD, Option.some.injEq, exists_eq_left', go_sem, hlt, hget, hpu, hinc, Int.reduceLE, ↓reduceIte, reduceCtorEq, Nat.reduceEqDiff, Nat.reduceLeDiff, Nat.reduceAdd, Nat.reduceMul, Nat.reduceSub, Nat.reduceLT, w1, w2, hr1]; repeat' (first | exact Ok.out | with_reducible refine And.intro ?_ ?_ | (simp; done)))
 | (cases h; replace h := hr; clear hr; (try simp only [bs, ↓reduceIte] at h))
 | (cases h; done))
        · have d1 : decide (((j + 1 : Nat) : Int) > 200) = true := by simp; omega
          simp only [d1, Bool.true_or, Bool.not_false, ↓reduceIte] at h
          repeat' (first
 | simp only [go_sem, hlt, hget, hpu, hinc, Int.reduceLE, ↓reduceIte, reduceCtorEq, Nat.reduceEqDiff, Nat.reduceLeDiff, Nat.reduceAdd, Nat.reduceMul, Nat.reduceSub, Nat.reduceLT, w1, w2, d1]
 | (with_reducible refine CU (c1 _) ?_)
 | (with_reducible refine CU (c2 _) ?_)
 | (with_reducible first | refine CB_ofT (by assumption) fun hc => ?_ | refine CB_ofF (by assumption) fun hc => ?_ | refine CB_split (fun hc => ?_) fun hc => ?_) <;> (try simp only [hc, bs, ↓reduceIte] at h) <;> (try simp only [hc])
 | ((with_reducible first | refine leafR hQ ?_ | refine leafN hQ ?_); (try cases h); simp only [resL, oneD, Option.some.injEq, exists_eq_left', go_sem, hlt, hget, hpu, hinc, Int.reduceLE, ↓reduceIte, reduceCtorEq, Nat.reduceEqDiff, Nat.reduceLeDiff, Nat.reduceAdd, Nat.reduceMul, Nat.reduceSub, Nat.reduceLT, w1, w2, d1]; repeat' (first | exact Ok.out | with_reducible refine And.intro ?_ ?_ | (simp; done)))
 | (cases h; replace h := hr; clear hr; (try simp only [bs, ↓reduceIte] at h))
 | (cases h; done))

end Go.Abs

/-! TMay4 -/

namespace Go.Abs

set_option maxRecDepth 8000
set_option linter.unusedSimpArgs false
set_option linter.unusedVariables false
open Go.Proofs

def Pc.mayL (n : Nat) : List Pc → Bool
  | [] => true
  | f :: l =>
    if decide ((f.params.length : Int) > 8) || decide ((f.vars.length : Int) > 16) || !(isName f.name) || !(mayNames f.vars) || !(mayNames f.fin) then false
    else if !(Pm.mays f.params) then false
    else if !(Sm.mayG 1 n f.body).1 then false
    else Pc.mayL (Sm.mayG 1 n f.body).2 l
/-- May a program be, as the program asks it? -/
def Pg.mayP (p : Pg) : Bool :=
  if decide ((p.globals.length : Int) > 16) || decide ((p.procs.length : Int) > 16) || !(mayNames p.globals) then false
  else Pc.mayL 0 p.procs

/-- What a program's texts and lists are. -/
structure Pg.FineP (p : Pg) : Prop where
  sz : p.size < 4611686018427387000
  glob : ∀ t ∈ p.globals, t.length < 4611686018427387904
  heads : ∀ f ∈ p.procs, f.name.length < 4611686018427387904 ∧ (∀ t ∈ f.vars, t.length < 4611686018427387904) ∧ (∀ t ∈ f.fin, t.length < 4611686018427387904) ∧ ∀ a ∈ f.params, a.name.length < 4611686018427387904
  body : ∀ f ∈ p.procs, Sm.FineDs f.body

theorem tMay_s {p : Pg} (hf : p.FineP) (s : St) : Fun Tryd.prog n_tree_May [.agg (encPg p)] s (.bool p.mayP) s := by
  refine Fun.pure ?_ (by simp only [D.oks, D.ok, okPg]; rfl) rfl s
  obtain ⟨hsz, hgl, hheads, hbody⟩ := hf
  have hps : Pc.sizes p.procs < 4611686018427387000 := by simp only [Pg.size] at hsz; omega
  have hglen : p.globals.length < 4611686018427387904 := by simp only [Pg.size] at hsz; omega
  have hplen : p.procs.length < 4611686018427387904 := by have := Pc.sizes_len p.procs; omega
  have hg := fun s => tnames_s hglen hgl s
  unfold S0
  generalize h : p.mayP = R
  unfold Pg.mayP at h
  refine Fun.go has_tree_May rfl fun B Q hB hQ => ?_
  have hlt : 0 < 1 := Nat.zero_lt_one
  have hget : 0 < 1 := Nat.zero_lt_one
  have hpu : 0 < 1 := Nat.zero_lt_one
  have hinc : 0 < 1 := Nat.zero_lt_one
  repeat' (first
 | simp only [go_sem, hlt, hget, hpu, hinc, Int.reduceLE, ↓reduceIte, reduceCtorEq, Nat.reduceEqDiff, Nat.reduceLeDiff, Nat.reduceAdd, Nat.reduceMul, Nat.reduceSub, Nat.reduceLT]
 | (with_reducible refine CU (hg _) ?_)
 | (with_reducible first | refine CB_ofT (by assumption) fun hc => ?_ | refine CB_ofF (by assumption) fun hc => ?_ | refine CB_split (fun hc => ?_) fun hc => ?_) <;> (try simp only [hc, bs, ↓reduceIte] at h) <;> (try simp only [hc])
 | ((with_reducible first | refine leafR hQ ?_ | refine leafN hQ ?_); (try cases h); simp only [resL, oneD, Option.some.injEq, exists_eq_left', go_sem, hlt, hget, hpu, hinc, Int.reduceLE, ↓reduceIte, reduceCtorEq, Nat.reduceEqDiff, Nat.reduceLeDiff, Nat.reduceAdd, Nat.reduceMul, Nat.reduceSub, Nat.reduceLT]; repeat' (first | exact Ok.out | with_reducible refine And.intro ?_ ?_ | (simp; done)))
 | (cases h; replace h := hr; clear hr; (try simp only [bs, ↓reduceIte] at h))
 | (cases h; done))
  refine SemL.re _ _ 2 0 (by rw [hB]; exact Nat.le_of_ble_eq_true rfl) (by rw [hB]; exact Nat.le_of_ble_eq_true rfl) ?_ ?_ (SemL.ind (ι := List Pc × Nat × Nat) (fun i => p.procs.drop i.2.1 = i.1 ∧ Pc.mayL i.2.2 i.1 = R ∧ i.2.2 ≤ 200) (fun i => i.1.length)
    (fun i => [(1, .ptr 0 0), (3, .ptr 1 0), (27, .slice .shared 5 (p.procs.map encPc)), (28, .int .i64 (p.procs.length : Int)), (29, .int .i64 (i.2.1 : Int))]) (fun i => ⟨[encPg p, [.int .i64 (i.2.2 : Int)]], []⟩) ?_ (p.procs, 0, 0) ⟨rfl, h, Nat.zero_le _⟩)
  · (simp only [go_sem, hlt, hget, hpu, hinc, Int.reduceLE, ↓reduceIte, reduceCtorEq, Nat.reduceEqDiff, Nat.reduceLeDiff, Nat.reduceAdd, Nat.reduceMul, Nat.reduceSub, Nat.reduceLT]; repeat' (first | exact Ok.out | with_reducible refine And.intro ?_ ?_))
  · (simp only [go_sem, hlt, hget, hpu, hinc, Int.reduceLE, ↓reduceIte, reduceCtorEq, Nat.reduceEqDiff, Nat.reduceLeDiff, Nat.reduceAdd, Nat.reduceMul, Nat.reduceSub, Nat.reduceLT]; repeat' (first | exact Ok.out | with_reducible refine And.intro ?_ ?_))
  rintro ⟨rest, k, n⟩ ⟨h1, h, hn⟩ IH
  dsimp only at h1 h hn
  cases rest with
  | nil =>
    have hlt := drop_nil h1
    simp only [Pc.mayL] at h
    repeat' (first
 | simp only [go_sem, hlt, hget, hpu, hinc, Int.reduceLE, ↓reduceIte, reduceCtorEq, Nat.reduceEqDiff, Nat.reduceLeDiff, Nat.reduceAdd, Nat.reduceMul, Nat.reduceSub, Nat.reduceLT]
 | (with_reducible first | refine CB_ofT (by assumption) fun hc => ?_ | refine CB_ofF (by assumption) fun hc => ?_ | refine CB_split (fun hc => ?_) fun hc => ?_) <;> (try simp only [hc, bs, ↓reduceIte] at h) <;> (try simp only [hc])
 | ((with_reducible first | refine leafR hQ ?_ | refine leafN hQ ?_); (try cases h); simp only [resL, oneD, Option.some.injEq, exists_eq_left', go_sem, hlt, hget, hpu, hinc, Int.reduceLE, ↓reduceIte, reduceCtorEq, Nat.reduceEqDiff, Nat.reduceLeDiff, Nat.reduceAdd, Nat.reduceMul, Nat.reduceSub, Nat.reduceLT]; repeat' (first | exact Ok.out | with_reducible refine And.intro ?_ ?_ | (simp; done)))
 | (cases h; replace h := hr; clear hr; (try simp only [bs, ↓reduceIte] at h))
 | (cases h; done))
  | cons f rest =>
    obtain ⟨hget, g2, hlt, g4⟩ := drop_cons h1
    have hk2 : k < 4611686018427387904 := by omega
    have hmem := List.mem_of_getElem? hget
    have hfm := Pc.sizes_mem hmem
    simp only [Pc.size] at hfm
    obtain ⟨hfn, hfv, hff, hfp⟩ := hheads f hmem
    have hnm := Name_s f.name hfn
    have hv := fun s => tnames_s (by omega) hfv s
    have he := fun s => tnames_s (by omega) hff s
    have hb := fun s' o ho => (trows_n _ f.body (Nat.le_refl _) (by omega) (hbody f hmem) 1 n (by omega) (by omega) hn).meth (s := s') (o := o) (by simp [D.oks, D.ok, okrSm, Tag.ok]) rfl rfl rfl ho
    have hle := mayG_le (nest := 1) (l := f.body) hn
    simp only [Pc.mayL] at h
    repeat' (first
 | simp only [go_sem, hlt, hget, hpu, hinc, Int.reduceLE, ↓reduceIte, reduceCtorEq, Nat.reduceEqDiff, Nat.reduceLeDiff, Nat.reduceAdd, Nat.reduceMul, Nat.reduceSub, Nat.reduceLT]
 | (with_reducible refine CU (hnm _) ?_)
 | (with_reducible refine CU (hv _) ?_)
 | (with_reducible refine CU (he _) ?_)
 | (with_reducible first | refine CB_ofT (by assumption) fun hc => ?_ | refine CB_ofF (by assumption) fun hc => ?_ | refine CB_split (fun hc => ?_) fun hc => ?_) <;> (try simp only [hc, bs, ↓reduceIte] at h) <;> (try simp only [hc])
 | ((with_reducible first | refine leafR hQ ?_ | refine leafN hQ ?_); (try cases h); simp only [resL, oneD, Option.some.injEq, exists_eq_left', go_sem, hlt, hget, hpu, hinc, Int.reduceLE, ↓reduceIte, reduceCtorEq, Nat.reduceEqDiff, Nat.reduceLeDiff, Nat.reduceAdd, Nat.reduceMul, Nat.reduceSub, Nat.reduceLT]; repeat' (first | exact Ok.out | with_reducible refine And.intro ?_ ?_ | (simp; done)))
 | (cases h; replace h := hr; clear hr; (try simp only [bs, ↓reduceIte] at h))
 | (cases h; done))
    refine SemL.re _ _ 3 0 (by rw [hB]; exact Nat.le_of_ble_eq_true rfl) (by rw [hB]; exact Nat.le_of_ble_eq_true rfl) ?_ ?_ (SemL.ind (ι := List Pm × Nat) (fun i => f.params.drop i.2 = i.1 ∧ (if !(Pm.mays i.1) then false else if !(Sm.mayG 1 n f.body).1 then false else Pc.mayL (Sm.mayG 1 n f.body).2 rest) = R) (fun i => i.1.length)
      (fun i => [(1, .ptr 0 0), (3, .ptr 1 0), (5, .ptr 2 0), (27, .slice .shared 5 (p.procs.map encPc)), (28, .int .i64 (p.procs.length : Int)), (29, .int .i64 (k : Int)), (62, .slice .shared 2 (f.params.map encPm)), (63, .int .i64 (f.params.length : Int)), (64, .int .i64 (i.2 : Int))]) (fun i => ⟨[encPg p, [.int .i64 (n : Int)], encPc f], []⟩) ?_ (f.params, 0) ⟨rfl, h⟩)
    · (simp only [go_sem, hlt, hget, hpu, hinc, Int.reduceLE, ↓reduceIte, reduceCtorEq, Nat.reduceEqDiff, Nat.reduceLeDiff, Nat.reduceAdd, Nat.reduceMul, Nat.reduceSub, Nat.reduceLT]; repeat' (first | exact Ok.out | with_reducible refine And.intro ?_ ?_))
    · (simp only [go_sem, hlt, hget, hpu, hinc, Int.reduceLE, ↓reduceIte, reduceCtorEq, Nat.reduceEqDiff, Nat.reduceLeDiff, Nat.reduceAdd, Nat.reduceMul, Nat.reduceSub, Nat.reduceLT]; repeat' (first | exact Ok.out | with_reducible refine And.intro ?_ ?_))
    rintro ⟨prest, j⟩ ⟨j1, h⟩ IH2
    dsimp only at j1 h
    cases prest with
    | nil =>
      have hlt := drop_nil j1
      simp only [Pm.mays, Bool.not_true, Bool.false_eq_true, ↓reduceIte] at h
      repeat' (first
 | simp only [go_sem, hlt, hget, hpu, hinc, Int.reduceLE, ↓reduceIte, reduceCtorEq, Nat.reduceEqDiff, Nat.reduceLeDiff, Nat.reduceAdd, Nat.reduceMul, Nat.reduceSub, Nat.reduceLT]
 | (with_reducible refine CU (hb _ _ rfl) ?_)
 | (with_reducible first | refine CB_ofT (by assumption) fun hc => ?_ | refine CB_ofF (by assumption) fun hc => ?_ | refine CB_split (fun hc => ?_) fun hc => ?_) <;> (try simp only [hc, bs, ↓reduceIte] at h) <;> (try simp only [hc])
 | ((with_reducible first | refine leafR hQ ?_ | refine leafN hQ ?_); (try cases h); simp only [resL, oneD, Option.some.injEq, exists_eq_left', go_sem, hlt, hget, hpu, hinc, Int.reduceLE, ↓reduceIte, reduceCtorEq, Nat.reduceEqDiff, Nat.reduceLeDiff, Nat.reduceAdd, Nat.reduceMul, Nat.reduceSub, Nat.reduceLT]; repeat' (first | exact Ok.out | with_reducible refine And.intro ?_ ?_ | (simp; done)))
 | (cases h; replace h := hr; clear hr; (try simp only [bs, ↓reduceIte] at h))
 | (cases h; done))
      refine SemL.re _ _ 2 0 (by rw [hB]; exact Nat.le_of_ble_eq_true rfl) (by rw [hB]; exact Nat.le_of_ble_eq_true rfl) ?_ ?_ (IH (rest, k + 1, (Sm.mayG 1 n f.body).2) ⟨g2, h, hle.2 (by assumption)⟩ (Nat.lt_succ_self _))
      · (simp only [go_sem, hlt, hget, hpu, hinc, Int.reduceLE, ↓reduceIte, reduceCtorEq, Nat.reduceEqDiff, Nat.reduceLeDiff, Nat.reduceAdd, Nat.reduceMul, Nat.reduceSub, Nat.reduceLT, wrap_inc hk2]; repeat' (first | exact Ok.out | with_reducible refine And.intro ?_ ?_))
      · (simp only [go_sem, hlt, hget, hpu, hinc, Int.reduceLE, ↓reduceIte, reduceCtorEq, Nat.reduceEqDiff, Nat.reduceLeDiff, Nat.reduceAdd, Nat.reduceMul, Nat.reduceSub, Nat.reduceLT, wrap_inc hk2]; repeat' (first | exact Ok.out | with_reducible refine And.intro ?_ ?_))
    | cons a prest =>
      obtain ⟨hget, b2, hlt, b4⟩ := drop_cons j1
      have hj2 : j < 4611686018427387904 := by omega
      have ha := Name_s a.name (hfp a (List.mem_of_getElem? hget))
      simp only [Pm.mays] at h
      repeat' (first
 | simp only [go_sem, hlt, hget, hpu, hinc, Int.reduceLE, ↓reduceIte, reduceCtorEq, Nat.reduceEqDiff, Nat.reduceLeDiff, Nat.reduceAdd, Nat.reduceMul, Nat.reduceSub, Nat.reduceLT]
 | (with_reducible refine CU (ha _) ?_)
 | (with_reducible first | refine CB_ofT (by assumption) fun hc => ?_ | refine CB_ofF (by assumption) fun hc => ?_ | refine CB_split (fun hc => ?_) fun hc => ?_) <;> (try simp only [hc, bs, ↓reduceIte] at h) <;> (try simp only [hc])
 | ((with_reducible first | refine leafR hQ ?_ | refine leafN hQ ?_); (try cases h); simp only [resL, oneD, Option.some.injEq, exists_eq_left', go_sem, hlt, hget, hpu, hinc, Int.reduceLE, ↓reduceIte, reduceCtorEq, Nat.reduceEqDiff, Nat.reduceLeDiff, Nat.reduceAdd, Nat.reduceMul, Nat.reduceSub, Nat.reduceLT]; repeat' (first | exact Ok.out | with_reducible refine And.intro ?_ ?_ | (simp; done)))
 | (cases h; replace h := hr; clear hr; (try simp only [bs, ↓reduceIte] at h))
 | (cases h; done))
      refine SemL.re _ _ 3 0 (by rw [hB]; exact Nat.le_of_ble_eq_true rfl) (by rw [hB]; exact Nat.le_of_ble_eq_true rfl) ?_ ?_ (IH2 (prest, j + 1) ⟨b2, h⟩ (Nat.lt_succ_self _))
      · (simp only [go_sem, hlt, hget, hpu, hinc, Int.reduceLE, ↓reduceIte, reduceCtorEq, Nat.reduceEqDiff, Nat.reduceLeDiff, Nat.reduceAdd, Nat.reduceMul, Nat.reduceSub, Nat.reduceLT, wrap_inc hj2]; repeat' (first | exact Ok.out | with_reducible refine And.intro ?_ ?_))
      · (simp only [go_sem, hlt, hget, hpu, hinc, Int.reduceLE, ↓reduceIte, reduceCtorEq, Nat.reduceEqDiff, Nat.reduceLeDiff, Nat.reduceAdd, Nat.reduceMul, Nat.reduceSub, Nat.reduceLT, wrap_inc hj2]; repeat' (first | exact Ok.out | with_reducible refine And.intro ?_ ?_))

end Go.Abs

/-! MayEq -/

namespace Go.Abs
set_option linter.unusedSimpArgs false
set_option linter.unusedVariables false

theorem isName_ne {t : Str} (h : isName t = true) : t ≠ [] := by rintro rfl; cases h

theorem form_iff (op n : Int) (name : Str) (kids : List Ex) : Ex.form ⟨op, n, name, kids⟩ = true ↔
    arityI op = (kids.length : Int) ∧ (op = 1 ∨ n = 0) ∧ 0 ≤ n ∧ (op = 2 ↔ name ≠ []) ∧ (name = [] ∨ isName name = true) ∧ Ex.forms kids = true := by
  simp only [Ex.form]
  split
  · rename_i h
    simp only [Bool.or_eq_true, Bool.and_eq_true, bne_iff_ne, ne_eq, decide_eq_true_eq, Bool.not_eq_true'] at h
    refine ⟨fun h => (Bool.false_ne_true h).elim, fun ⟨h1, h2, h3, h4, h5, _⟩ => ?_⟩
    exfalso
    rcases h with (((h | h) | h) | h) | h
    · exact h h1
    · rcases h2 with h2 | h2
      · exact h.1 h2
      · exact h.2 h2
    · omega
    · by_cases h2 : op = 2 <;> cases name <;> simp_all
    · rcases h5 with h5 | h5
      · subst h5; simp at h
      · rw [h5] at h; simp at h
  · rename_i h
    simp only [Bool.or_eq_true, Bool.and_eq_true, bne_iff_ne, ne_eq, decide_eq_true_eq, Bool.not_eq_true', not_or, not_and, Decidable.not_not, Bool.not_eq_false] at h
    obtain ⟨⟨⟨⟨h1, h2⟩, h3⟩, h4⟩, h5⟩ := h
    refine ⟨fun h => ⟨h1, ?_, by omega, ?_, ?_, h⟩, fun h => h.2.2.2.2.2⟩
    · by_cases h : op = 1
      · exact .inl h
      · exact .inr (h2 h)
    · by_cases h2 : op = 2 <;> cases name <;> simp_all
    · cases name with
      | nil => exact .inl rfl
      | cons c r => exact .inr (h5 rfl)

theorem dp_iff (op n : Int) (name : Str) (kids : List Ex) (k : Int) : Ex.dp k ⟨op, n, name, kids⟩ = true ↔
    1 ≤ k ∧ (kids.length : Int) = arityI op ∧ (if op = 1 then 0 ≤ n ∧ name = [] else if op = 2 then n = 0 ∧ isName name = true else n = 0 ∧ name = [] ∧ Ex.dps (k - 1) kids = true) := by
  simp only [Ex.dp]
  split
  · rename_i h
    simp only [Bool.or_eq_true, decide_eq_true_eq, bne_iff_ne, ne_eq] at h
    refine ⟨fun h => (Bool.false_ne_true h).elim, fun ⟨h1, h2, _⟩ => ?_⟩
    rcases h with h | h
    · omega
    · exact (h h2).elim
  rename_i h
  simp only [Bool.or_eq_true, decide_eq_true_eq, bne_iff_ne, ne_eq, not_or, Decidable.not_not] at h
  have h1 : 1 ≤ k := by omega
  simp only [h1, h.2, true_and]
  by_cases o1 : op = 1
  · subst o1
    cases name <;> simp
  · have o1' : ¬ (op == 1) = true := by simpa using o1
    rw [if_neg o1', if_neg o1]
    by_cases o2 : op = 2
    · subst o2; simp
    · have o2' : ¬ (op == 2) = true := by simpa using o2
      rw [if_neg o2', if_neg o2]
      by_cases hn : n = 0
      · subst hn
        cases name <;> simp
      · simp [hn]

mutual
theorem dp_eq : ∀ (x : Ex) (k : Int), 0 ≤ k → (x.dp k = true ↔ (x.depth : Int) ≤ k ∧ x.form = true)
  | ⟨op, n, name, kids⟩, k, hk => by
    rw [dp_iff, form_iff]
    have hd : Ex.depth ⟨op, n, name, kids⟩ = Ex.depths kids + 1 := by simp only [Ex.depth]
    rw [hd]
    by_cases h1 : 1 ≤ k
    · have ih := dps_eq kids (k - 1) (by omega)
      by_cases o1 : op = 1
      · subst o1
        have ha : arityI 1 = 0 := rfl
        rw [ha, if_pos rfl]
        constructor
        · rintro ⟨_, h2, h3, h4⟩
          have : kids = [] := List.eq_nil_of_length_eq_zero (by omega)
          subst this; subst h4
          simp [Ex.depths, Ex.forms, h3]; omega
        · rintro ⟨h2, h3, _, h4, h5, _⟩
          refine ⟨h1, h3.symm, h4, ?_⟩
          cases name
          · rfl
          · simp at h5
      · rw [if_neg o1]
        by_cases o2 : op = 2
        · subst o2
          have ha : arityI 2 = 0 := rfl
          rw [ha, if_pos rfl]
          constructor
          · rintro ⟨_, h2, h3, h4⟩
            have : kids = [] := List.eq_nil_of_length_eq_zero (by omega)
            subst this; subst h3
            have := isName_ne h4
            simp [Ex.depths, Ex.forms, h4, this]; omega
          · rintro ⟨h2, h3, h4, _, h5, h6, _⟩
            refine ⟨h1, h3.symm, h4.resolve_left o1, ?_⟩
            exact h6.resolve_left (h5.1 rfl)
        · rw [if_neg o2, ih]
          constructor
          · rintro ⟨_, h2, h3, h4, h5, h6⟩
            subst h3; subst h4
            exact ⟨by omega, h2.symm, .inr rfl, Int.le_refl _, by simp [o2], .inl rfl, h6⟩
          · rintro ⟨h2, h3, h4, _, h5, h6, h7⟩
            refine ⟨h1, h3.symm, h4.resolve_left o1, ?_, by omega, h7⟩
            exact Decidable.byContradiction fun h => o2 (h5.2 h)
    · constructor
      · rintro ⟨h, _⟩; exact (h1 h).elim
      · rintro ⟨h, _⟩; omega
theorem dps_eq : ∀ (l : List Ex) (k : Int), 0 ≤ k → (Ex.dps k l = true ↔ (Ex.depths l : Int) ≤ k ∧ Ex.forms l = true)
  | [], k, hk => by simp [Ex.dps, Ex.depths, Ex.forms, hk]
  | x :: l, k, hk => by
    have h1 := dp_eq x k hk
    have h2 := dps_eq l k hk
    have hd : Ex.depths (x :: l) = max x.depth (Ex.depths l) := by simp only [Ex.depths]
    rw [hd]
    simp only [Ex.dps, Ex.forms]
    cases hx : Ex.dp k x
    · simp only [Bool.not_false, ↓reduceIte, Bool.false_eq_true, false_iff, not_and]
      intro h3
      have : ¬ ((x.depth : Int) ≤ k ∧ x.form = true) := by rw [← h1, hx]; simp
      have hf : x.form = false := by
        cases hf : x.form
        · rfl
        · exact (this ⟨by omega, hf⟩).elim
      simp [hf]
    · have := h1.1 hx
      simp only [Bool.not_true, Bool.false_eq_true, ↓reduceIte, this.2, h2]
      have h3 := this.1
      refine and_congr_left fun _ => ?_
      omega
end

theorem dp_may (x : Ex) : x.dp 20 = x.may := by
  rw [Bool.eq_iff_iff, dp_eq x 20 (by omega)]
  unfold Ex.may
  simp only [Bool.and_eq_true, decide_eq_true_eq]
  refine and_congr_left fun _ => ?_
  omega

theorem worth_may (x : Ex) (b : Bool) : worthM x b = if b then x.may else x.none := by
  unfold worthM
  rw [dp_may]
  cases b <;> simp
theorem named_may (t : Str) (b : Bool) : namedM t b = if b then isName t else t == [] := by
  unfold namedM
  cases b <;> simp

theorem handed_mays : ∀ l : List Ar, handedM l = Ar.mays l
  | [] => rfl
  | a :: l => by
    simp only [handedM, Ar.mays, Ar.may, worth_may, named_may, handed_mays l]
    grind


theorem len0 {α : Type} (l : List α) : ((l.length : Int) == 0) = !(decide ((l.length : Int) > 0)) := by
  cases l with
  | nil => rfl
  | cons a l =>
    have h1 : (((a :: l).length : Int) == 0) = false := by simp only [List.length_cons, beq_eq_false_iff_ne]; omega
    have h2 : decide (((a :: l).length : Int) > 0) = true := by simp only [List.length_cons, decide_eq_true_eq]; omega
    rw [h1, h2]; rfl

theorem one_fields (s : Sm) : s.one = (mayNames s.labels && s.fields) := by
  have hk : s.kind = 1 ∨ s.kind = 2 ∨ s.kind = 3 ∨ s.kind = 4 ∨ s.kind = 5 ∨ s.kind = 6 ∨ s.kind = 7 ∨ s.kind = 8 ∨ s.kind = 9 ∨ s.kind = 10 ∨ s.kind < 1 ∨ s.kind > 10 := by omega
  unfold Sm.one Sm.fields Sm.flags Sm.hasX Sm.hasName Sm.isCall
  have p1 : isName [] = false := rfl
  rcases hk with h | h | h | h | h | h | h | h | h | h | h | h
  all_goals
    simp only [h, len0, handed_mays, worth_may, named_may, Sm.tail1, Sm.tail2]
    grind

end Go.Abs

/-! Pr1 -/

namespace Go.Abs

set_option maxRecDepth 8000
set_option linter.unusedSimpArgs false
set_option linter.unusedVariables false
open Go.Proofs

mutual
/-- The text, in brackets if it binds less. -/
def prE (least : Int) : Ex → Str
  | ⟨op, n, name, kids⟩ => prK least op n name kids
def prK (least op n : Int) (name : Str) : List Ex → Str
  | [] => if op = 2 then name else digF 20 n.toNat
  | [a] => if op = 3 then [45] ++ prE 7 a else [33] ++ prE 7 a
  | a :: b :: _ => if bindB op < least then [40] ++ (prE (bindB op) a ++ [32] ++ signR op ++ [32] ++ prE (bindB op + 1) b) ++ [41] else prE (bindB op) a ++ [32] ++ signR op ++ [32] ++ prE (bindB op + 1) b
end

theorem pr_num (least n : Int) : prE least ⟨1, n, [], []⟩ = digF 20 n.toNat := by simp only [prE, prK, Int.reduceEq, ↓reduceIte]
theorem pr_name (least : Int) (t : Str) : prE least ⟨2, 0, t, []⟩ = t := by simp only [prE, prK, ↓reduceIte]
theorem pr_neg (least : Int) (a : Ex) : prE least ⟨3, 0, [], [a]⟩ = [45] ++ prE 7 a := by simp only [prE, prK, ↓reduceIte]
theorem pr_no (least : Int) (a : Ex) : prE least ⟨4, 0, [], [a]⟩ = [33] ++ prE 7 a := by simp only [prE, prK, Int.reduceEq, ↓reduceIte]
/-- The text of two, without brackets. -/
def prT (op : Int) (a b : Ex) : Str := prE (bindB op) a ++ [32] ++ signR op ++ [32] ++ prE (bindB op + 1) b
theorem pr_two (least op : Int) (a b : Ex) : prE least ⟨op, 0, [], [a, b]⟩ = if bindB op < least then [40] ++ prT op a b ++ [41] else prT op a b := by simp only [prE, prK, prT]

theorem prE_len {x : Ex} (h : FormI x) : ∀ least, (prE least x).length ≤ 25 * x.nodes := by
  induction h with
  | num n => intro least; rw [pr_num]; simp only [Ex.nodes, Ex.nodess]; have := digF_len 20 n.toNat; omega
  | name t h => intro least; rw [pr_name]; simp only [Ex.nodes, Ex.nodess]; have := isName_len h; omega
  | neg y _ ih => intro least; rw [pr_neg]; simp only [Ex.nodes, Ex.nodess, List.length_append, List.length_cons, List.length_nil]; have := ih 7; omega
  | no y _ ih => intro least; rw [pr_no]; simp only [Ex.nodes, Ex.nodess, List.length_append, List.length_cons, List.length_nil]; have := ih 7; omega
  | two op a b ho _ _ iha ihb =>
    intro least; rw [pr_two]
    have := signR_len' ho; have := iha (bindB op); have := ihb (bindB op + 1)
    split <;> simp only [prT, Ex.nodes, Ex.nodess, List.length_append, List.length_cons, List.length_nil] <;> omega

theorem digF_dec : ∀ (f n : Nat), n < 10 ^ f → 0 < f → digF f n = Lib.decDigits n
  | 0, _, _, h => by omega
  | f + 1, n, h, _ => by
    rw [Lib.decDigits, digF]
    by_cases c : n < 10
    · simp only [c, ↓reduceIte, ↓reduceDIte]
    · simp only [c, ↓reduceIte, ↓reduceDIte]
      rw [digF_dec f (n / 10) (by rw [Nat.pow_succ] at h; omega) (by
        cases f with
        | zero => simp at h; omega
        | succ f => omega)]
theorem itoa_dig {n : Int} (h0 : 0 ≤ n) (h1 : n ≤ 9223372036854775807) : Lib.itoa n = digF 20 n.toNat := by
  obtain ⟨k, hk⟩ : ∃ k : Nat, n = (k : Int) := ⟨n.toNat, by omega⟩
  subst hk
  rw [Int.toNat_natCast, Lib.itoa_nonneg, digF_dec 20 k (by omega) (by omega)]

theorem psign_s {op : Int} (h : (decide (5 ≤ op) && decide (op ≤ 17)) = true) (s : St) : Fun Tryd.prog n_print_sign [.int .i64 op] s (.tuple [.str (signR op), .int .i64 (bindB op)]) s := by
  refine Fun.pure ?_ rfl rfl s
  unfold S0
  have b5 : bindB 5 = 6 := by decide
  have b6 : bindB 6 = 6 := by decide
  have b7 : bindB 7 = 6 := by decide
  have b8 : bindB 8 = 5 := by decide
  have b9 : bindB 9 = 5 := by decide
  have b10 : bindB 10 = 4 := by decide
  have b11 : bindB 11 = 4 := by decide
  have b12 : bindB 12 = 4 := by decide
  have b13 : bindB 13 = 4 := by decide
  have b14 : bindB 14 = 3 := by decide
  have b15 : bindB 15 = 3 := by decide
  have b16 : bindB 16 = 2 := by decide
  have b17 : bindB 17 = 1 := by decide
  rcases signs h with rfl | rfl | rfl | rfl | rfl | rfl | rfl | rfl | rfl | rfl | rfl | rfl | rfl
  all_goals
    refine Fun.go has_print_sign rfl fun B Q hB hQ => ?_
    have hlt : 0 < 1 := Nat.zero_lt_one
    have hget : 0 < 1 := Nat.zero_lt_one
    have hpu : 0 < 1 := Nat.zero_lt_one
    have hinc : 0 < 1 := Nat.zero_lt_one
    repeat' (first
 | simp only [go_sem, hlt, hget, hpu, hinc, Int.reduceLE, ↓reduceIte, reduceCtorEq, Nat.reduceEqDiff, Nat.reduceLeDiff, Nat.reduceAdd, Nat.reduceMul, Nat.reduceSub, Nat.reduceLT, signR, Int.reduceEq, Int.reduceBEq, b5, b6, b7, b8, b9, b10, b11, b12, b13, b14, b15, b16, b17]
 | (with_reducible first | refine CB_ofT (by assumption) fun hc => ?_ | refine CB_ofF (by assumption) fun hc => ?_ | refine CB_split (fun hc => ?_) fun hc => ?_) <;> (try simp only [hc, bs, ↓reduceIte] at h) <;> (try simp only [hc])
 | ((with_reducible first | refine leafR hQ ?_ | refine leafN hQ ?_); (try cases h); simp only [resL, oneD, Option.some.injEq, exists_eq_left', go_sem, hlt, hget, hpu, hinc, Int.reduceLE, ↓reduceIte, reduceCtorEq, Nat.reduceEqDiff, Nat.reduceLeDiff, Nat.reduceAdd, Nat.reduceMul, Nat.reduceSub, Nat.reduceLT, signR, Int.reduceEq, Int.reduceBEq, b5, b6, b7, b8, b9, b10, b11, b12, b13, b14, b15, b16, b17]; repeat' (first | exact Ok.out | with_reducible refine And.intro ?_ ?_ | (simp; done)))
 | (cases h; replace h := hr; clear hr; (try simp only [bs, ↓reduceIte] at h))
 | (cases h; done))

theorem pexpr_s {x : Ex} (h : FormI x) : x.nodes ≤ 1000000 → ∀ {least : Int}, ∀ s : St, Fun Tryd.prog n_print_expr [.agg (encEx x), .int .i64 least] s (.str (prE least x)) s := by
  induction h with
  | num n h0 h1 =>
    intro _ least s
    refine Fun.pure ?_ (by simp [D.oks, D.ok, okEx]) rfl s
    have hf := fun s => FormatInt_s (n := n) (by omega) h1 s
    rw [itoa_dig h0 h1] at hf
    have b1 : ((1 : Int) == 1) = true := rfl
    rw [pr_num]
    unfold S0
    refine Fun.go has_print_expr rfl fun B Q hB hQ => ?_
    have hlt : 0 < 1 := Nat.zero_lt_one
    have hget : 0 < 1 := Nat.zero_lt_one
    have hpu : 0 < 1 := Nat.zero_lt_one
    have hinc : 0 < 1 := Nat.zero_lt_one
    repeat' (first
 | simp only [go_sem, hlt, hget, hpu, hinc, Int.reduceLE, ↓reduceIte, reduceCtorEq, Nat.reduceEqDiff, Nat.reduceLeDiff, Nat.reduceAdd, Nat.reduceMul, Nat.reduceSub, Nat.reduceLT, b1]
 | (with_reducible refine CU (hf _) ?_)
 | (with_reducible first | refine CB_ofT (by assumption) fun hc => ?_ | refine CB_ofF (by assumption) fun hc => ?_ | refine CB_split (fun hc => ?_) fun hc => ?_) <;> (try simp only [hc, bs, ↓reduceIte] at h) <;> (try simp only [hc])
 | ((with_reducible first | refine leafR hQ ?_ | refine leafN hQ ?_); (try cases h); simp only [resL, oneD, Option.some.injEq, exists_eq_left', go_sem, hlt, hget, hpu, hinc, Int.reduceLE, ↓reduceIte, reduceCtorEq, Nat.reduceEqDiff, Nat.reduceLeDiff, Nat.reduceAdd, Nat.reduceMul, Nat.reduceSub, Nat.reduceLT, b1]; repeat' (first | exact Ok.out | with_reducible refine And.intro ?_ ?_ | (simp; done)))
 | (cases h; replace h := hr; clear hr; (try simp only [bs, ↓reduceIte] at h))
 | (cases h; done))
  | name t h =>
    intro _ least s
    refine Fun.pure ?_ (by simp [D.oks, D.ok, okEx]) rfl s
    have b1 : ((2 : Int) == 1) = false := rfl
    have b2 : ((2 : Int) == 2) = true := rfl
    rw [pr_name]
    unfold S0
    refine Fun.go has_print_expr rfl fun B Q hB hQ => ?_
    have hlt : 0 < 1 := Nat.zero_lt_one
    have hget : 0 < 1 := Nat.zero_lt_one
    have hpu : 0 < 1 := Nat.zero_lt_one
    have hinc : 0 < 1 := Nat.zero_lt_one
    repeat' (first
 | simp only [go_sem, hlt, hget, hpu, hinc, Int.reduceLE, ↓reduceIte, reduceCtorEq, Nat.reduceEqDiff, Nat.reduceLeDiff, Nat.reduceAdd, Nat.reduceMul, Nat.reduceSub, Nat.reduceLT, b1, b2]
 | (with_reducible first | refine CB_ofT (by assumption) fun hc => ?_ | refine CB_ofF (by assumption) fun hc => ?_ | refine CB_split (fun hc => ?_) fun hc => ?_) <;> (try simp only [hc, bs, ↓reduceIte] at h) <;> (try simp only [hc])
 | ((with_reducible first | refine leafR hQ ?_ | refine leafN hQ ?_); (try cases h); simp only [resL, oneD, Option.some.injEq, exists_eq_left', go_sem, hlt, hget, hpu, hinc, Int.reduceLE, ↓reduceIte, reduceCtorEq, Nat.reduceEqDiff, Nat.reduceLeDiff, Nat.reduceAdd, Nat.reduceMul, Nat.reduceSub, Nat.reduceLT, b1, b2]; repeat' (first | exact Ok.out | with_reducible refine And.intro ?_ ?_ | (simp; done)))
 | (cases h; replace h := hr; clear hr; (try simp only [bs, ↓reduceIte] at h))
 | (cases h; done))
  | neg y hy ih =>
    intro hn least s
    refine Fun.pure ?_ (by simp [D.oks, D.ok, okEx]) rfl s
    simp only [Ex.nodes, Ex.nodess] at hn
    have i1 := ih (by omega) (least := 7)
    have l1 := prE_len hy 7
    have m1 : (1 : Nat) + (prE 7 y).length ≤ maxStr := by unfold maxStr; omega
    have b1 : ((3 : Int) == 1) = false := rfl
    have b2 : ((3 : Int) == 2) = false := rfl
    have b3 : ((3 : Int) == 3) = true := rfl
    rw [pr_neg]
    unfold S0
    refine Fun.go has_print_expr rfl fun B Q hB hQ => ?_
    have hlt : 0 < 1 := Nat.zero_lt_one
    have hget : 0 < 1 := Nat.zero_lt_one
    have hpu : 0 < 1 := Nat.zero_lt_one
    have hinc : 0 < 1 := Nat.zero_lt_one
    repeat' (first
 | simp only [go_sem, hlt, hget, hpu, hinc, Int.reduceLE, ↓reduceIte, reduceCtorEq, Nat.reduceEqDiff, Nat.reduceLeDiff, Nat.reduceAdd, Nat.reduceMul, Nat.reduceSub, Nat.reduceLT, b1, b2, b3, m1]
 | (with_reducible refine CU (i1 _) ?_)
 | (with_reducible first | refine CB_ofT (by assumption) fun hc => ?_ | refine CB_ofF (by assumption) fun hc => ?_ | refine CB_split (fun hc => ?_) fun hc => ?_) <;> (try simp only [hc, bs, ↓reduceIte] at h) <;> (try simp only [hc])
 | ((with_reducible first | refine leafR hQ ?_ | refine leafN hQ ?_); (try cases h); simp only [resL, oneD, Option.some.injEq, exists_eq_left', go_sem, hlt, hget, hpu, hinc, Int.reduceLE, ↓reduceIte, reduceCtorEq, Nat.reduceEqDiff, Nat.reduceLeDiff, Nat.reduceAdd, Nat.reduceMul, Nat.reduceSub, Nat.reduceLT, b1, b2, b3, m1]; repeat' (first | exact Ok.out | with_reducible refine And.intro ?_ ?_ | (simp; done)))
 | (cases h; replace h := hr; clear hr; (try simp only [bs, ↓reduceIte] at h))
 | (cases h; done))
  | no y hy ih =>
    intro hn least s
    refine Fun.pure ?_ (by simp [D.oks, D.ok, okEx]) rfl s
    simp only [Ex.nodes, Ex.nodess] at hn
    have i1 := ih (by omega) (least := 7)
    have l1 := prE_len hy 7
    have m1 : (1 : Nat) + (prE 7 y).length ≤ maxStr := by unfold maxStr; omega
    have b1 : ((4 : Int) == 1) = false := rfl
    have b2 : ((4 : Int) == 2) = false := rfl
    have b3 : ((4 : Int) == 3) = false := rfl
    have b4 : ((4 : Int) == 4) = true := rfl
    rw [pr_no]
    unfold S0
    refine Fun.go has_print_expr rfl fun B Q hB hQ => ?_
    have hlt : 0 < 1 := Nat.zero_lt_one
    have hget : 0 < 1 := Nat.zero_lt_one
    have hpu : 0 < 1 := Nat.zero_lt_one
    have hinc : 0 < 1 := Nat.zero_lt_one
    repeat' (first
 | simp only [go_sem, hlt, hget, hpu, hinc, Int.reduceLE, ↓reduceIte, reduceCtorEq, Nat.reduceEqDiff, Nat.reduceLeDiff, Nat.reduceAdd, Nat.reduceMul, Nat.reduceSub, Nat.reduceLT, b1, b2, b3, b4, m1]
 | (with_reducible refine CU (i1 _) ?_)
 | (with_reducible first | refine CB_ofT (by assumption) fun hc => ?_ | refine CB_ofF (by assumption) fun hc => ?_ | refine CB_split (fun hc => ?_) fun hc => ?_) <;> (try simp only [hc, bs, ↓reduceIte] at h) <;> (try simp only [hc])
 | ((with_reducible first | refine leafR hQ ?_ | refine leafN hQ ?_); (try cases h); simp only [resL, oneD, Option.some.injEq, exists_eq_left', go_sem, hlt, hget, hpu, hinc, Int.reduceLE, ↓reduceIte, reduceCtorEq, Nat.reduceEqDiff, Nat.reduceLeDiff, Nat.reduceAdd, Nat.reduceMul, Nat.reduceSub, Nat.reduceLT, b1, b2, b3, b4, m1]; repeat' (first | exact Ok.out | with_reducible refine And.intro ?_ ?_ | (simp; done)))
 | (cases h; replace h := hr; clear hr; (try simp only [bs, ↓reduceIte] at h))
 | (cases h; done))
  | two op a b ho ha hb iha ihb =>
    intro hn least s
    refine Fun.pure ?_ (by simp [D.oks, D.ok, okEx]) rfl s
    simp only [Ex.nodes, Ex.nodess] at hn
    have i1 := iha (by omega) (least := bindB op)
    have i2 := ihb (by omega) (least := bindB op + 1)
    have l1 := prE_len ha (bindB op)
    have l2 := prE_len hb (bindB op + 1)
    have l3 := signR_len' ho
    obtain ⟨p1, p2, _⟩ := bindB_pos ho
    have hw : IntKind.wrap .i64 (bindB op + 1) = bindB op + 1 := by rw [wrap_ok] <;> omega
    have m1 : (prE (bindB op) a).length + 1 ≤ maxStr := by unfold maxStr; omega
    have m2 : (prE (bindB op) a).length + 1 + (signR op).length ≤ maxStr := by unfold maxStr; omega
    have m3 : (prE (bindB op) a).length + 1 + (signR op).length + 1 ≤ maxStr := by unfold maxStr; omega
    have m4 : (prE (bindB op) a).length + 1 + (signR op).length + 1 + (prE (bindB op + 1) b).length ≤ maxStr := by unfold maxStr; omega
    have m5 : (1 : Nat) + ((prE (bindB op) a).length + 1 + (signR op).length + 1 + (prE (bindB op + 1) b).length) ≤ maxStr := by unfold maxStr; omega
    have m6 : (prE (bindB op) a).length + 1 + (signR op).length + 1 + (prE (bindB op + 1) b).length + 1 + 1 ≤ maxStr := by unfold maxStr; omega
    have b1 : (op == 1) = false := by simp only [Bool.and_eq_true, decide_eq_true_eq] at ho; exact beq_eq_false_iff_ne.2 (by omega)
    have b2 : (op == 2) = false := by simp only [Bool.and_eq_true, decide_eq_true_eq] at ho; exact beq_eq_false_iff_ne.2 (by omega)
    have b3 : (op == 3) = false := by simp only [Bool.and_eq_true, decide_eq_true_eq] at ho; exact beq_eq_false_iff_ne.2 (by omega)
    have b4 : (op == 4) = false := by simp only [Bool.and_eq_true, decide_eq_true_eq] at ho; exact beq_eq_false_iff_ne.2 (by omega)
    rw [pr_two]
    by_cases c : bindB op < least
    · have c1 : decide (bindB op < least) = true := decide_eq_true c
      rw [if_pos c]
      unfold prT
      unfold S0
      refine Fun.go has_print_expr rfl fun B Q hB hQ => ?_
      have hlt : 0 < 1 := Nat.zero_lt_one
      have hget : 0 < 1 := Nat.zero_lt_one
      have hpu : 0 < 1 := Nat.zero_lt_one
      have hinc : 0 < 1 := Nat.zero_lt_one
      repeat' (first
 | simp only [go_sem, hlt, hget, hpu, hinc, Int.reduceLE, ↓reduceIte, reduceCtorEq, Nat.reduceEqDiff, Nat.reduceLeDiff, Nat.reduceAdd, Nat.reduceMul, Nat.reduceSub, Nat.reduceLT, b1, b2, b3, b4, c1, hw, m1, m2, m3, m4, m5, m6, Int.toNat_one, List.getElem?_cons_succ, List.getElem?_cons_zero]
 | (with_reducible refine CU (i1 _) ?_)
 | (with_reducible refine CU (i2 _) ?_)
 | (with_reducible refine CU (psign_s ho _) ?_)
 | (with_reducible first | refine CB_ofT (by assumption) fun hc => ?_ | refine CB_ofF (by assumption) fun hc => ?_ | refine CB_split (fun hc => ?_) fun hc => ?_) <;> (try simp only [hc, bs, ↓reduceIte] at h) <;> (try simp only [hc])
 | ((with_reducible first | refine leafR hQ ?_ | refine leafN hQ ?_); (try cases h); simp only [resL, oneD, Option.some.injEq, exists_eq_left', go_sem, hlt, hget, hpu, hinc, Int.reduceLE, ↓reduceIte, reduceCtorEq, Nat.reduceEqDiff, Nat.reduceLeDiff, Nat.reduceAdd, Nat.reduceMul, Nat.reduceSub, Nat.reduceLT, b1, b2, b3, b4, c1, hw, m1, m2, m3, m4, m5, m6, Int.toNat_one, List.getElem?_cons_succ, List.getElem?_cons_zero]; repeat' (first | exact Ok.out | with_reducible refine And.intro ?_ ?_ | (simp; done)))
 | (cases h; replace h := hr; clear hr; (try simp only [bs, ↓reduceIte] at h))
 | (cases h; done))
    · have c1 : decide (bindB op < least) = false := decide_eq_false c
      rw [if_neg c]
      unfold prT
      unfold S0
      refine Fun.go has_print_expr rfl fun B Q hB hQ => ?_
      have hlt : 0 < 1 := Nat.zero_lt_one
      have hget : 0 < 1 := Nat.zero_lt_one
      have hpu : 0 < 1 := Nat.zero_lt_one
      have hinc : 0 < 1 := Nat.zero_lt_one
      repeat' (first
 | simp only [go_sem, hlt, hget, hpu, hinc, Int.reduceLE, ↓reduceIte, reduceCtorEq, Nat.reduceEqDiff, Nat.reduceLeDiff, Nat.reduceAdd, Nat.reduceMul, Nat.reduceSub, Nat.reduceLT, b1, b2, b3, b4, c1, hw, m1, m2, m3, m4, m5, m6, Int.toNat_one, List.getElem?_cons_succ, List.getElem?_cons_zero]
 | (with_reducible refine CU (i1 _) ?_)
 | (with_reducible refine CU (i2 _) ?_)
 | (with_reducible refine CU (psign_s ho _) ?_)
 | (with_reducible first | refine CB_ofT (by assumption) fun hc => ?_ | refine CB_ofF (by assumption) fun hc => ?_ | refine CB_split (fun hc => ?_) fun hc => ?_) <;> (try simp only [hc, bs, ↓reduceIte] at h) <;> (try simp only [hc])
 | ((with_reducible first | refine leafR hQ ?_ | refine leafN hQ ?_); (try cases h); simp only [resL, oneD, Option.some.injEq, exists_eq_left', go_sem, hlt, hget, hpu, hinc, Int.reduceLE, ↓reduceIte, reduceCtorEq, Nat.reduceEqDiff, Nat.reduceLeDiff, Nat.reduceAdd, Nat.reduceMul, Nat.reduceSub, Nat.reduceLT, b1, b2, b3, b4, c1, hw, m1, m2, m3, m4, m5, m6, Int.toNat_one, List.getElem?_cons_succ, List.getElem?_cons_zero]; repeat' (first | exact Ok.out | with_reducible refine And.intro ?_ ?_ | (simp; done)))
 | (cases h; replace h := hr; clear hr; (try simp only [bs, ↓reduceIte] at h))
 | (cases h; done))

/-- print.Expr. -/
def printE (x : Ex) : Str := if x.may then prE 0 x else []
theorem nodes_size : ∀ (m : Nat) (x : Ex), x.size ≤ m → x.nodes ≤ x.size := by
  intro m
  induction m with
  | zero => rintro ⟨op, v, name, kids⟩ h; simp only [Ex.size] at h; omega
  | succ m ih =>
    rintro ⟨op, n, name, kids⟩ h
    simp only [Ex.size, Ex.nodes] at h ⊢
    have : ∀ l : List Ex, Ex.sizes l ≤ m + 1 → Ex.nodess l ≤ Ex.sizes l := by
      intro l
      induction l with
      | nil => intro _; simp [Ex.nodess]
      | cons a l ihl =>
        intro hl
        simp only [Ex.sizes, Ex.nodess] at hl ⊢
        have := ih a (by omega)
        have := ihl (by omega)
        omega
    have := this kids (by omega)
    omega
theorem may_formI {x : Ex} (h : x.may = true) (hr : x.rng) : FormI x := by
  simp only [Ex.may, Bool.and_eq_true] at h
  exact FormI.of x.size x (Nat.le_refl _) h.2 hr
theorem pExpr_s {x : Ex} (hr : x.rng) (hn : x.nodes ≤ 1000000) (ht : x.texts) (hs : x.size < 1000000000) (s : St) : Fun Tryd.prog n_print_Expr [.agg (encEx x)] s (.str (printE x)) s := by
  refine Fun.pure ?_ (by simp [D.oks, D.ok, okEx]) rfl s
  have hm := tMayExpr_s (x := x) (by omega) ht
  unfold S0
  unfold printE
  refine Fun.go has_print_Expr rfl fun B Q hB hQ => ?_
  have hlt : 0 < 1 := Nat.zero_lt_one
  have hget : 0 < 1 := Nat.zero_lt_one
  have hpu : 0 < 1 := Nat.zero_lt_one
  have hinc : 0 < 1 := Nat.zero_lt_one
  cases c : x.may with
  | true =>
    have he := pexpr_s (may_formI c hr) hn (least := 0)
    repeat' (first
 | simp only [go_sem, hlt, hget, hpu, hinc, Int.reduceLE, ↓reduceIte, reduceCtorEq, Nat.reduceEqDiff, Nat.reduceLeDiff, Nat.reduceAdd, Nat.reduceMul, Nat.reduceSub, Nat.reduceLT, c, dp_may, ↓reduceIte]
 | (with_reducible refine CU (hm _) ?_)
 | (with_reducible refine CU (he _) ?_)
 | (with_reducible first | refine CB_ofT (by assumption) fun hc => ?_ | refine CB_ofF (by assumption) fun hc => ?_ | refine CB_split (fun hc => ?_) fun hc => ?_) <;> (try simp only [hc, bs, ↓reduceIte] at h) <;> (try simp only [hc])
 | ((with_reducible first | refine leafR hQ ?_ | refine leafN hQ ?_); (try cases h); simp only [resL, oneD, Option.some.injEq, exists_eq_left', go_sem, hlt, hget, hpu, hinc, Int.reduceLE, ↓reduceIte, reduceCtorEq, Nat.reduceEqDiff, Nat.reduceLeDiff, Nat.reduceAdd, Nat.reduceMul, Nat.reduceSub, Nat.reduceLT, c, dp_may, ↓reduceIte]; repeat' (first | exact Ok.out | with_reducible refine And.intro ?_ ?_ | (simp; done)))
 | (cases h; replace h := hr; clear hr; (try simp only [bs, ↓reduceIte] at h))
 | (cases h; done))
  | false =>
    repeat' (first
 | simp only [go_sem, hlt, hget, hpu, hinc, Int.reduceLE, ↓reduceIte, reduceCtorEq, Nat.reduceEqDiff, Nat.reduceLeDiff, Nat.reduceAdd, Nat.reduceMul, Nat.reduceSub, Nat.reduceLT, c, dp_may, ↓reduceIte]
 | (with_reducible refine CU (hm _) ?_)
 | (with_reducible first | refine CB_ofT (by assumption) fun hc => ?_ | refine CB_ofF (by assumption) fun hc => ?_ | refine CB_split (fun hc => ?_) fun hc => ?_) <;> (try simp only [hc, bs, ↓reduceIte] at h) <;> (try simp only [hc])
 | ((with_reducible first | refine leafR hQ ?_ | refine leafN hQ ?_); (try cases h); simp only [resL, oneD, Option.some.injEq, exists_eq_left', go_sem, hlt, hget, hpu, hinc, Int.reduceLE, ↓reduceIte, reduceCtorEq, Nat.reduceEqDiff, Nat.reduceLeDiff, Nat.reduceAdd, Nat.reduceMul, Nat.reduceSub, Nat.reduceLT, c, dp_may, ↓reduceIte]; repeat' (first | exact Ok.out | with_reducible refine And.intro ?_ ?_ | (simp; done)))
 | (cases h; replace h := hr; clear hr; (try simp only [bs, ↓reduceIte] at h))
 | (cases h; done))

end Go.Abs

/-! Bld -/

namespace Go.Abs

set_option maxRecDepth 8000
set_option linter.unusedSimpArgs false
set_option linter.unusedVariables false
open Go.Proofs

def tWriter : TypeId := 68
theorem writer_lies : liesAt Tryd.prog Tryd.prog.depth tWriter (2 / Tryd.prog.cellsOf tWriter) 0 66 1 = true := by kernel_rfl

/-- A builder's object. -/
def bobj (o t : Nat) (l : Str) : List D := [.selfp tWriter o, .slice (.tok t true) 1 (encBy l)]
def bst (l : Str) : St := ⟨[bobj 0 0 l], [some l.length]⟩

theorem encBy_app (a b : Str) : encBy (a ++ b) = encBy a ++ encBy b := by simp [encBy]
theorem encBy_len (a : Str) : (encBy a).length = a.length := by simp [encBy]
theorem okrBy (n m : Nat) (l : Str) : D.okr n m (encBy l) = true := by
  simp [encBy, okr_eq, oks_eq, D.ok]
theorem renrBy (os ts : List Nat) (l : Str) : D.renr os ts (encBy l) = encBy l := renr_ok00 _ _ _ (okrBy 0 0 l)
theorem fgrBy (n m : Nat) (l : Str) : D.fgr n m (encBy l) = encBy l := fgr_ok n m _ (okrBy 0 0 l)

theorem appB_by {l m : Str} {t : Nat} {y : Bool} {g : Tag} {s : St} (h1 : l.length + m.length ≤ 549755813888) (h2 : s.toks[t]? = some (some l.length)) :
    appB (.slice (.tok t y) 1 (encBy l)) (.slice g 1 (encBy m)) s = some (.slice (.tok t y) 1 (encBy (l ++ m)), ⟨s.objs, s.toks.set t (some (l ++ m).length)⟩) := by
  have h3 : ((encBy l).length + (encBy m).length) * 2 ≤ maxStr := by simp only [encBy_len, maxStr]; omega
  cases m with
  | nil =>
    have : s.toks.set t (some l.length) = s.toks := by
      apply List.ext_getElem?
      intro i
      rw [List.getElem?_set]
      split
      · rename_i hi; subst hi; rw [h2, if_pos (List.getElem?_eq_some_iff.1 h2).1]
      · rfl
    simp only [encBy_len] at h3
    simp [appB, encBy, this]
    simpa [encBy] using h3
  | cons c m =>
    have e : encBy (c :: m) = [.int .u8 c.toNat] :: encBy m := rfl
    rw [e] at h3
    simp only [appB, e]
    rw [if_pos ⟨.inr trivial, .inr trivial, h3⟩]
    have h4 : s.toks[t]? = some (some (encBy l).length) := by rw [encBy_len]; exact h2
    simp only [h4, and_self, ↓reduceIte, encBy_app, e, List.length_append, List.length_cons, encBy_len]

theorem appB_str {l m : Str} {t : Nat} {y : Bool} {g : Tag} {s : St} (h1 : l.length + m.length ≤ 549755813888) (h2 : s.toks[t]? = some (some l.length)) :
    appB (.slice (.tok t y) 1 (encBy l)) (.slice g 1 (m.map fun c => [.int .u8 c.toNat])) s = some (.slice (.tok t y) 1 (encBy (l ++ m)), ⟨s.objs, s.toks.set t (some (l ++ m).length)⟩) := appB_by h1 h2
theorem appB_one {l : Str} {c : UInt8} {t : Nat} {y : Bool} {g : Tag} {s : St} (h1 : l.length + 1 ≤ 549755813888) (h2 : s.toks[t]? = some (some l.length)) :
    appB (.slice (.tok t y) 1 (encBy l)) (.slice g 1 [[.int .u8 c.toNat]]) s = some (.slice (.tok t y) 1 (encBy (l ++ [c])), ⟨s.objs, s.toks.set t (some (l ++ [c]).length)⟩) := appB_by (m := [c]) h1 h2
@[go_sem] theorem fgs_bobj {n m o t : Nat} {l : Str} (ho : o < n) (ht : t < m) : D.fgs n m (bobj o t l) = bobj o t l := by
  simp [bobj, D.fgs, D.fg, Tag.fg, ho, ht, fgrBy]
attribute [go_sem] fgrBy
/-- The methods in any state. -/
theorem Fun.bld {P : Program} {f : Nat} {args : List D} {l l' : Str} {d : D} (h : Fun P f (.ptr 0 0 :: args) (bst l) d (bst l')) (ha : D.oks 0 0 args = true) (hd : D.ok 0 0 d = true)
    {s : St} {o t : Nat} (ho : s.objs[o]? = some (bobj o t l)) (ht : s.toks[t]? = some (some l.length)) : Fun P f (.ptr o 0 :: args) s d ⟨s.objs.set o (bobj o t l'), s.toks.set t (some l'.length)⟩ := by
  refine ACalls.frame [o] [t] h (by simp) (by simp) (by simpa using (List.getElem?_eq_some_iff.1 ho).1) (by simpa using (List.getElem?_eq_some_iff.1 ht).1) rfl (fun i o' ds e1 e2 => ?_) rfl (fun i t' e1 => ?_)
    (by simp [D.rens, D.ren, rens_ok00 _ _ _ ha]) (by simp [D.oks, D.ok, oks_mono (Nat.zero_le 1) (Nat.zero_le 1) _ ha]) ?_
  · cases i with
    | zero =>
      simp [bst] at e1 e2; subst e1; subst e2
      exact ⟨by simp [bobj, D.rens, D.ren, Tag.ren, renrBy, ho], by simp [bobj, D.oks, D.ok, Tag.ok, okrBy]⟩
    | succ i => simp at e1
  · cases i with
    | zero => simp at e1; subst e1; simp [bst, ht]
    | succ i => simp at e1
  · rintro _ _ ⟨rfl, rfl⟩
    refine ⟨by simp [D.back, ren_ok00 _ _ _ hd], ?_⟩
    simp [St.back, plug, bst, allNums, D.rens, D.ren, Tag.ren, renrBy, bobj]

theorem WriteString_0 (l m : Str) (h : l.length + m.length ≤ 549755813888) : Fun Tryd.prog n_strings_Builder_WriteString [.ptr 0 0, .str m] (bst l) (.tuple [.int .i64 m.length, .val .nilIface]) (bst (l ++ m)) := by
  have hc := copyCheck_s (T := tWriter) (s := bst l) (o := 0) (r := [.slice (.tok 0 true) 1 (encBy l)]) rfl rfl writer_lies
  have ha := appB_str (l := l) (m := m) (t := 0) (y := true) (g := .shared) (s := bst l) h rfl
  simp only [bst, bobj] at hc ha
  unfold bst bobj
  refine Fun.go has_strings_Builder_WriteString rfl fun B Q hB hQ => ?_
  have hlt : 0 < 1 := Nat.zero_lt_one
  have hget : 0 < 1 := Nat.zero_lt_one
  have hpu : 0 < 1 := Nat.zero_lt_one
  have hinc : 0 < 1 := Nat.zero_lt_one
  repeat' (first
 | simp only [go_sem, hlt, hget, hpu, hinc, Int.reduceLE, ↓reduceIte, reduceCtorEq, Nat.reduceEqDiff, Nat.reduceLeDiff, Nat.reduceAdd, Nat.reduceMul, Nat.reduceSub, Nat.reduceLT, ha]
 | (with_reducible refine CU (hc) ?_)
 | (with_reducible first | refine CB_ofT (by assumption) fun hc => ?_ | refine CB_ofF (by assumption) fun hc => ?_ | refine CB_split (fun hc => ?_) fun hc => ?_) <;> (try simp only [hc, bs, ↓reduceIte] at h) <;> (try simp only [hc])
 | ((with_reducible first | refine leafR hQ ?_ | refine leafN hQ ?_); (try cases h); simp only [resL, oneD, Option.some.injEq, exists_eq_left', go_sem, hlt, hget, hpu, hinc, Int.reduceLE, ↓reduceIte, reduceCtorEq, Nat.reduceEqDiff, Nat.reduceLeDiff, Nat.reduceAdd, Nat.reduceMul, Nat.reduceSub, Nat.reduceLT, ha]; repeat' (first | exact Ok.out | with_reducible refine And.intro ?_ ?_ | (simp; done)))
 | (cases h; replace h := hr; clear hr; (try simp only [bs, ↓reduceIte] at h))
 | (cases h; done))

theorem WriteByte_0 (l : Str) (c : UInt8) (h : l.length + 1 ≤ 549755813888) : Fun Tryd.prog n_strings_Builder_WriteByte [.ptr 0 0, .int .u8 c.toNat] (bst l) (.val .nilIface) (bst (l ++ [c])) := by
  have hc := copyCheck_s (T := tWriter) (s := bst l) (o := 0) (r := [.slice (.tok 0 true) 1 (encBy l)]) rfl rfl writer_lies
  have ha := appB_one (l := l) (c := c) (t := 0) (y := true) (g := .full) (s := bst l) h rfl
  simp only [bst, bobj] at hc ha
  unfold bst bobj
  refine Fun.go has_strings_Builder_WriteByte rfl fun B Q hB hQ => ?_
  have hlt : 0 < 1 := Nat.zero_lt_one
  have hget : 0 < 1 := Nat.zero_lt_one
  have hpu : 0 < 1 := Nat.zero_lt_one
  have hinc : 0 < 1 := Nat.zero_lt_one
  repeat' (first
 | simp only [go_sem, hlt, hget, hpu, hinc, Int.reduceLE, ↓reduceIte, reduceCtorEq, Nat.reduceEqDiff, Nat.reduceLeDiff, Nat.reduceAdd, Nat.reduceMul, Nat.reduceSub, Nat.reduceLT, ha]
 | (with_reducible refine CU (hc) ?_)
 | (with_reducible first | refine CB_ofT (by assumption) fun hc => ?_ | refine CB_ofF (by assumption) fun hc => ?_ | refine CB_split (fun hc => ?_) fun hc => ?_) <;> (try simp only [hc, bs, ↓reduceIte] at h) <;> (try simp only [hc])
 | ((with_reducible first | refine leafR hQ ?_ | refine leafN hQ ?_); (try cases h); simp only [resL, oneD, Option.some.injEq, exists_eq_left', go_sem, hlt, hget, hpu, hinc, Int.reduceLE, ↓reduceIte, reduceCtorEq, Nat.reduceEqDiff, Nat.reduceLeDiff, Nat.reduceAdd, Nat.reduceMul, Nat.reduceSub, Nat.reduceLT, ha]; repeat' (first | exact Ok.out | with_reducible refine And.intro ?_ ?_ | (simp; done)))
 | (cases h; replace h := hr; clear hr; (try simp only [bs, ↓reduceIte] at h))
 | (cases h; done))

theorem WriteString_s {l : Str} {k : Nat} (m : Str) (hk : k = l.length) (h : k + m.length ≤ 549755813888) {s : St} {o t : Nat} (ho : s.objs[o]? = some (bobj o t l)) (ht : s.toks[t]? = some (some k)) :
    Fun Tryd.prog n_strings_Builder_WriteString [.ptr o 0, .str m] s (.tuple [.int .i64 m.length, .val .nilIface]) ⟨s.objs.set o (bobj o t (l ++ m)), s.toks.set t (some (k + m.length))⟩ := by
  subst hk
  have := (WriteString_0 l m h).bld rfl rfl ho ht
  rw [List.length_append] at this
  exact this
theorem WriteByte_s {l : Str} {k : Nat} (c : UInt8) (hk : k = l.length) (h : k + 1 ≤ 549755813888) {s : St} {o t : Nat} (ho : s.objs[o]? = some (bobj o t l)) (ht : s.toks[t]? = some (some k)) :
    Fun Tryd.prog n_strings_Builder_WriteByte [.ptr o 0, .int .u8 c.toNat] s (.val .nilIface) ⟨s.objs.set o (bobj o t (l ++ [c])), s.toks.set t (some (k + 1))⟩ := by
  subst hk
  have := (WriteByte_0 l c h).bld rfl rfl ho ht
  rw [List.length_append] at this
  exact this

/-- A line. -/
def lineS (n : Nat) (m : Str) : Str := List.replicate n 32 ++ m ++ [10]
theorem lineS_len (n : Nat) (m : Str) : (lineS n m).length = n + m.length + 1 := by simp [lineS]; omega

theorem line_0 (m : Str) (n : Nat) (l : Str) (h : l.length + n + m.length + 1 ≤ 549755813888) : Fun Tryd.prog n_print_writer_line [.ptr 0 0, .int .i64 n, .str m] (bst l) (.tuple []) (bst (l ++ lineS n m)) := by
  have z0 : decide ((0 : Int) > 0) = false := rfl
  unfold bst
  refine Fun.go has_print_writer_line rfl fun B Q hB hQ => ?_
  have hlt : 0 < 1 := Nat.zero_lt_one
  have hget : 0 < 1 := Nat.zero_lt_one
  have hpu : 0 < 1 := Nat.zero_lt_one
  have hinc : 0 < 1 := Nat.zero_lt_one
  repeat' (first
 | simp only [go_sem, hlt, hget, hpu, hinc, Int.reduceLE, ↓reduceIte, reduceCtorEq, Nat.reduceEqDiff, Nat.reduceLeDiff, Nat.reduceAdd, Nat.reduceMul, Nat.reduceSub, Nat.reduceLT]
 | (with_reducible first | refine CB_ofT (by assumption) fun hc => ?_ | refine CB_ofF (by assumption) fun hc => ?_ | refine CB_split (fun hc => ?_) fun hc => ?_) <;> (try simp only [hc, bs, ↓reduceIte] at h) <;> (try simp only [hc])
 | ((with_reducible first | refine leafR hQ ?_ | refine leafN hQ ?_); (try cases h); simp only [resL, oneD, Option.some.injEq, exists_eq_left', go_sem, hlt, hget, hpu, hinc, Int.reduceLE, ↓reduceIte, reduceCtorEq, Nat.reduceEqDiff, Nat.reduceLeDiff, Nat.reduceAdd, Nat.reduceMul, Nat.reduceSub, Nat.reduceLT]; repeat' (first | exact Ok.out | with_reducible refine And.intro ?_ ?_ | (simp; done)))
 | (cases h; replace h := hr; clear hr; (try simp only [bs, ↓reduceIte] at h))
 | (cases h; done))
  refine SemL.re _ _ 1 1 (by rw [hB]; exact Nat.le_of_ble_eq_true rfl) (by rw [hB]; exact Nat.le_of_ble_eq_true rfl) ?_ ?_ (SemL.ind (ι := Nat × Str × Nat) (fun i => i.2.1 ++ lineS i.1 m = l ++ lineS n m ∧ i.2.2 = i.2.1.length ∧ i.2.2 + i.1 + m.length + 1 ≤ 549755813888) (fun i => i.1)
    (fun i => [(0, .ptr 0 0), (1, .int .i64 (i.1 : Int)), (2, .str m)]) (fun i => ⟨[bobj 0 0 i.2.1], [some i.2.2]⟩) ?_ (n, l, l.length) ⟨rfl, rfl, h⟩)
  · (simp only [go_sem, hlt, hget, hpu, hinc, Int.reduceLE, ↓reduceIte, reduceCtorEq, Nat.reduceEqDiff, Nat.reduceLeDiff, Nat.reduceAdd, Nat.reduceMul, Nat.reduceSub, Nat.reduceLT]; repeat' (first | exact Ok.out | with_reducible refine And.intro ?_ ?_))
  · (simp only [go_sem, hlt, hget, hpu, hinc, Int.reduceLE, ↓reduceIte, reduceCtorEq, Nat.reduceEqDiff, Nat.reduceLeDiff, Nat.reduceAdd, Nat.reduceMul, Nat.reduceSub, Nat.reduceLT]; repeat' (first | exact Ok.out | with_reducible refine And.intro ?_ ?_))
  rintro ⟨k, acc, j⟩ ⟨h1, h2, h3⟩ IH
  dsimp only at h1 h2 h3
  cases k with
  | zero =>
    have e1 := fun (s : St) a b => WriteString_s (l := acc) m h2 (by omega) (s := s) (o := 0) (t := 0) a b
    have e2 := fun (s : St) a b => WriteByte_s (l := acc ++ m) (k := j + m.length) 10 (by simp; omega) (by omega) (s := s) (o := 0) (t := 0) a b
    simp only [show ((UInt8.toNat 10 : Nat) : Int) = 10 from rfl] at e2
    have e : acc ++ m ++ [10] = l ++ lineS n m := by rw [← h1]; simp [lineS]
    have e' : j + m.length + 1 = (l ++ lineS n m).length := by rw [← e]; simp; omega
    rw [← e', ← e] at hQ
    repeat' (first
 | simp only [go_sem, hlt, hget, hpu, hinc, Int.reduceLE, ↓reduceIte, reduceCtorEq, Nat.reduceEqDiff, Nat.reduceLeDiff, Nat.reduceAdd, Nat.reduceMul, Nat.reduceSub, Nat.reduceLT, z0]
 | (with_reducible refine CU (e1 _ rfl rfl) ?_)
 | (with_reducible refine CU (e2 _ rfl rfl) ?_)
 | (with_reducible first | refine CB_ofT (by assumption) fun hc => ?_ | refine CB_ofF (by assumption) fun hc => ?_ | refine CB_split (fun hc => ?_) fun hc => ?_) <;> (try simp only [hc, bs, ↓reduceIte] at h) <;> (try simp only [hc])
 | ((with_reducible first | refine leafR hQ ?_ | refine leafN hQ ?_); (try cases h); simp only [resL, oneD, Option.some.injEq, exists_eq_left', go_sem, hlt, hget, hpu, hinc, Int.reduceLE, ↓reduceIte, reduceCtorEq, Nat.reduceEqDiff, Nat.reduceLeDiff, Nat.reduceAdd, Nat.reduceMul, Nat.reduceSub, Nat.reduceLT, z0]; repeat' (first | exact Ok.out | with_reducible refine And.intro ?_ ?_ | (simp; done)))
 | (cases h; replace h := hr; clear hr; (try simp only [bs, ↓reduceIte] at h))
 | (cases h; done))
  | succ k =>
    have hlt : decide (((k + 1 : Nat) : Int) > 0) = true := by simp
    have e2 := fun (s : St) a b => WriteByte_s (l := acc) 32 h2 (by omega) (s := s) (o := 0) (t := 0) a b
    simp only [show ((UInt8.toNat 32 : Nat) : Int) = 32 from rfl] at e2
    have hw : IntKind.wrap .i64 (((k + 1 : Nat) : Int) - 1) = (k : Int) := by rw [wrap_ok] <;> omega
    repeat' (first
 | simp only [go_sem, hlt, hget, hpu, hinc, Int.reduceLE, ↓reduceIte, reduceCtorEq, Nat.reduceEqDiff, Nat.reduceLeDiff, Nat.reduceAdd, Nat.reduceMul, Nat.reduceSub, Nat.reduceLT, hw]
 | (with_reducible refine CU (e2 _ rfl rfl) ?_)
 | (with_reducible first | refine CB_ofT (by assumption) fun hc => ?_ | refine CB_ofF (by assumption) fun hc => ?_ | refine CB_split (fun hc => ?_) fun hc => ?_) <;> (try simp only [hc, bs, ↓reduceIte] at h) <;> (try simp only [hc])
 | ((with_reducible first | refine leafR hQ ?_ | refine leafN hQ ?_); (try cases h); simp only [resL, oneD, Option.some.injEq, exists_eq_left', go_sem, hlt, hget, hpu, hinc, Int.reduceLE, ↓reduceIte, reduceCtorEq, Nat.reduceEqDiff, Nat.reduceLeDiff, Nat.reduceAdd, Nat.reduceMul, Nat.reduceSub, Nat.reduceLT, hw]; repeat' (first | exact Ok.out | with_reducible refine And.intro ?_ ?_ | (simp; done)))
 | (cases h; replace h := hr; clear hr; (try simp only [bs, ↓reduceIte] at h))
 | (cases h; done))
    refine SemL.re _ _ 1 1 (by rw [hB]; exact Nat.le_of_ble_eq_true rfl) (by rw [hB]; exact Nat.le_of_ble_eq_true rfl) ?_ ?_ (IH (k, acc ++ [32], j + 1) ⟨by rw [← h1]; simp [lineS, List.replicate_succ], by simp [h2], by dsimp only; omega⟩ (Nat.lt_succ_self _))
    · (simp only [go_sem, hlt, hget, hpu, hinc, Int.reduceLE, ↓reduceIte, reduceCtorEq, Nat.reduceEqDiff, Nat.reduceLeDiff, Nat.reduceAdd, Nat.reduceMul, Nat.reduceSub, Nat.reduceLT]; repeat' (first | exact Ok.out | with_reducible refine And.intro ?_ ?_))
    · (simp only [go_sem, hlt, hget, hpu, hinc, Int.reduceLE, ↓reduceIte, reduceCtorEq, Nat.reduceEqDiff, Nat.reduceLeDiff, Nat.reduceAdd, Nat.reduceMul, Nat.reduceSub, Nat.reduceLT]; repeat' (first | exact Ok.out | with_reducible refine And.intro ?_ ?_))

end Go.Abs

/-! Pr2 -/

namespace Go.Abs

set_option maxRecDepth 8000
set_option linter.unusedSimpArgs false
set_option linter.unusedVariables false
open Go.Proofs

def marksS : List Str → Str
  | [] => []
  | s :: l => s ++ [58, 32] ++ marksS l
theorem marksS_len : ∀ {l : List Str}, (∀ t ∈ l, t.length ≤ 8) → (marksS l).length ≤ 10 * l.length
  | [], _ => Nat.le_refl _
  | s :: l, h => by
    have := h s (List.mem_cons_self ..)
    have := marksS_len fun t m => h t (List.mem_cons_of_mem _ m)
    simp only [marksS, List.length_append, List.length_cons, List.length_nil]; omega

theorem pref_s (b : Bool) (s : St) : Fun Tryd.prog n_print_ref [.bool b] s (.str (if b then [114, 101, 102, 32] else [])) s := by
  refine Fun.pure ?_ rfl rfl s
  unfold S0
  cases b
  · refine Fun.go has_print_ref rfl fun B Q hB hQ => ?_
    have hlt : 0 < 1 := Nat.zero_lt_one
    have hget : 0 < 1 := Nat.zero_lt_one
    have hpu : 0 < 1 := Nat.zero_lt_one
    have hinc : 0 < 1 := Nat.zero_lt_one
    repeat' (first
 | simp only [go_sem, hlt, hget, hpu, hinc, Int.reduceLE, ↓reduceIte, reduceCtorEq, Nat.reduceEqDiff, Nat.reduceLeDiff, Nat.reduceAdd, Nat.reduceMul, Nat.reduceSub, Nat.reduceLT]
 | (with_reducible first | refine CB_ofT (by assumption) fun hc => ?_ | refine CB_ofF (by assumption) fun hc => ?_ | refine CB_split (fun hc => ?_) fun hc => ?_) <;> (try simp only [hc, bs, ↓reduceIte] at h) <;> (try simp only [hc])
 | ((with_reducible first | refine leafR hQ ?_ | refine leafN hQ ?_); (try cases h); simp only [resL, oneD, Option.some.injEq, exists_eq_left', go_sem, hlt, hget, hpu, hinc, Int.reduceLE, ↓reduceIte, reduceCtorEq, Nat.reduceEqDiff, Nat.reduceLeDiff, Nat.reduceAdd, Nat.reduceMul, Nat.reduceSub, Nat.reduceLT]; repeat' (first | exact Ok.out | with_reducible refine And.intro ?_ ?_ | (simp; done)))
 | (cases h; replace h := hr; clear hr; (try simp only [bs, ↓reduceIte] at h))
 | (cases h; done))
  · refine Fun.go has_print_ref rfl fun B Q hB hQ => ?_
    have hlt : 0 < 1 := Nat.zero_lt_one
    have hget : 0 < 1 := Nat.zero_lt_one
    have hpu : 0 < 1 := Nat.zero_lt_one
    have hinc : 0 < 1 := Nat.zero_lt_one
    repeat' (first
 | simp only [go_sem, hlt, hget, hpu, hinc, Int.reduceLE, ↓reduceIte, reduceCtorEq, Nat.reduceEqDiff, Nat.reduceLeDiff, Nat.reduceAdd, Nat.reduceMul, Nat.reduceSub, Nat.reduceLT]
 | (with_reducible first | refine CB_ofT (by assumption) fun hc => ?_ | refine CB_ofF (by assumption) fun hc => ?_ | refine CB_split (fun hc => ?_) fun hc => ?_) <;> (try simp only [hc, bs, ↓reduceIte] at h) <;> (try simp only [hc])
 | ((with_reducible first | refine leafR hQ ?_ | refine leafN hQ ?_); (try cases h); simp only [resL, oneD, Option.some.injEq, exists_eq_left', go_sem, hlt, hget, hpu, hinc, Int.reduceLE, ↓reduceIte, reduceCtorEq, Nat.reduceEqDiff, Nat.reduceLeDiff, Nat.reduceAdd, Nat.reduceMul, Nat.reduceSub, Nat.reduceLT]; repeat' (first | exact Ok.out | with_reducible refine And.intro ?_ ?_ | (simp; done)))
 | (cases h; replace h := hr; clear hr; (try simp only [bs, ↓reduceIte] at h))
 | (cases h; done))

theorem pmarks_s {l : List Str} (hn : l.length ≤ 10000000) (h : ∀ t ∈ l, t.length ≤ 8) (s : St) : Fun Tryd.prog n_print_marks [.slice .shared 1 (l.map encStr)] s (.str (marksS l)) s := by
  refine Fun.pure ?_ (by simp [D.oks, D.ok, okrStr, Tag.ok]) rfl s
  unfold S0
  generalize hR : marksS l = R
  have hlen := marksS_len h
  rw [hR] at hlen
  refine Fun.go has_print_marks rfl fun B Q hB hQ => ?_
  have hlt : 0 < 1 := Nat.zero_lt_one
  have hget : 0 < 1 := Nat.zero_lt_one
  have hpu : 0 < 1 := Nat.zero_lt_one
  have hinc : 0 < 1 := Nat.zero_lt_one
  repeat' (first
 | simp only [go_sem, hlt, hget, hpu, hinc, Int.reduceLE, ↓reduceIte, reduceCtorEq, Nat.reduceEqDiff, Nat.reduceLeDiff, Nat.reduceAdd, Nat.reduceMul, Nat.reduceSub, Nat.reduceLT]
 | (with_reducible first | refine CB_ofT (by assumption) fun hc => ?_ | refine CB_ofF (by assumption) fun hc => ?_ | refine CB_split (fun hc => ?_) fun hc => ?_) <;> (try simp only [hc, bs, ↓reduceIte] at h) <;> (try simp only [hc])
 | ((with_reducible first | refine leafR hQ ?_ | refine leafN hQ ?_); (try cases h); simp only [resL, oneD, Option.some.injEq, exists_eq_left', go_sem, hlt, hget, hpu, hinc, Int.reduceLE, ↓reduceIte, reduceCtorEq, Nat.reduceEqDiff, Nat.reduceLeDiff, Nat.reduceAdd, Nat.reduceMul, Nat.reduceSub, Nat.reduceLT]; repeat' (first | exact Ok.out | with_reducible refine And.intro ?_ ?_ | (simp; done)))
 | (cases h; replace h := hr; clear hr; (try simp only [bs, ↓reduceIte] at h))
 | (cases h; done))
  refine SemL.re _ _ 1 0 (by rw [hB]; exact Nat.le_of_ble_eq_true rfl) (by rw [hB]; exact Nat.le_of_ble_eq_true rfl) ?_ ?_ (SemL.ind (ι := List Str × Nat × Str) (fun i => l.drop i.2.1 = i.1 ∧ i.2.2 ++ marksS i.1 = R) (fun i => i.1.length)
    (fun i => [(3, .str i.2.2), (6, .slice .shared 1 (l.map encStr)), (7, .int .i64 (l.length : Int)), (8, .int .i64 (i.2.1 : Int))]) (fun i => ⟨[], []⟩) ?_ (l, 0, []) ⟨rfl, hR⟩)
  · (simp only [go_sem, hlt, hget, hpu, hinc, Int.reduceLE, ↓reduceIte, reduceCtorEq, Nat.reduceEqDiff, Nat.reduceLeDiff, Nat.reduceAdd, Nat.reduceMul, Nat.reduceSub, Nat.reduceLT]; repeat' (first | exact Ok.out | with_reducible refine And.intro ?_ ?_))
  · (simp only [go_sem, hlt, hget, hpu, hinc, Int.reduceLE, ↓reduceIte, reduceCtorEq, Nat.reduceEqDiff, Nat.reduceLeDiff, Nat.reduceAdd, Nat.reduceMul, Nat.reduceSub, Nat.reduceLT]; repeat' (first | exact Ok.out | with_reducible refine And.intro ?_ ?_))
  rintro ⟨rest, k, acc⟩ ⟨h1, h2⟩ IH
  dsimp only at h1 h2
  cases rest with
  | nil =>
    have hlt := drop_nil h1
    simp only [marksS, List.append_nil] at h2
    repeat' (first
 | simp only [go_sem, hlt, hget, hpu, hinc, Int.reduceLE, ↓reduceIte, reduceCtorEq, Nat.reduceEqDiff, Nat.reduceLeDiff, Nat.reduceAdd, Nat.reduceMul, Nat.reduceSub, Nat.reduceLT, h2]
 | (with_reducible first | refine CB_ofT (by assumption) fun hc => ?_ | refine CB_ofF (by assumption) fun hc => ?_ | refine CB_split (fun hc => ?_) fun hc => ?_) <;> (try simp only [hc, bs, ↓reduceIte] at h) <;> (try simp only [hc])
 | ((with_reducible first | refine leafR hQ ?_ | refine leafN hQ ?_); (try cases h); simp only [resL, oneD, Option.some.injEq, exists_eq_left', go_sem, hlt, hget, hpu, hinc, Int.reduceLE, ↓reduceIte, reduceCtorEq, Nat.reduceEqDiff, Nat.reduceLeDiff, Nat.reduceAdd, Nat.reduceMul, Nat.reduceSub, Nat.reduceLT, h2]; repeat' (first | exact Ok.out | with_reducible refine And.intro ?_ ?_ | (simp; done)))
 | (cases h; replace h := hr; clear hr; (try simp only [bs, ↓reduceIte] at h))
 | (cases h; done))
  | cons t rest =>
    obtain ⟨hget, g2, hlt, g4⟩ := drop_cons h1
    have hpu : k < 4611686018427387904 := by omega
    have w1 : IntKind.wrap .i64 ((k : Int) + 1) = ((k + 1 : Nat) : Int) := by rw [wrap_ok] <;> omega
    have hal : acc.length + t.length + 2 ≤ R.length := by rw [← h2]; simp only [marksS, List.length_append, List.length_cons, List.length_nil]; omega
    have m1 : t.length + 1 + 1 ≤ maxStr := by unfold maxStr; omega
    have m2 : acc.length + (t.length + 1 + 1) ≤ maxStr := by unfold maxStr; omega
    repeat' (first
 | simp only [go_sem, hlt, hget, hpu, hinc, Int.reduceLE, ↓reduceIte, reduceCtorEq, Nat.reduceEqDiff, Nat.reduceLeDiff, Nat.reduceAdd, Nat.reduceMul, Nat.reduceSub, Nat.reduceLT, w1, m1, m2]
 | (with_reducible first | refine CB_ofT (by assumption) fun hc => ?_ | refine CB_ofF (by assumption) fun hc => ?_ | refine CB_split (fun hc => ?_) fun hc => ?_) <;> (try simp only [hc, bs, ↓reduceIte] at h) <;> (try simp only [hc])
 | ((with_reducible first | refine leafR hQ ?_ | refine leafN hQ ?_); (try cases h); simp only [resL, oneD, Option.some.injEq, exists_eq_left', go_sem, hlt, hget, hpu, hinc, Int.reduceLE, ↓reduceIte, reduceCtorEq, Nat.reduceEqDiff, Nat.reduceLeDiff, Nat.reduceAdd, Nat.reduceMul, Nat.reduceSub, Nat.reduceLT, w1, m1, m2]; repeat' (first | exact Ok.out | with_reducible refine And.intro ?_ ?_ | (simp; done)))
 | (cases h; replace h := hr; clear hr; (try simp only [bs, ↓reduceIte] at h))
 | (cases h; done))
    refine SemL.re _ _ 1 0 (by rw [hB]; exact Nat.le_of_ble_eq_true rfl) (by rw [hB]; exact Nat.le_of_ble_eq_true rfl) ?_ ?_ (IH (rest, k + 1, acc ++ (t ++ [58, 32])) ⟨g2, by rw [← h2]; simp [marksS]⟩ (by simp))
    · (simp only [go_sem, hlt, hget, hpu, hinc, Int.reduceLE, ↓reduceIte, reduceCtorEq, Nat.reduceEqDiff, Nat.reduceLeDiff, Nat.reduceAdd, Nat.reduceMul, Nat.reduceSub, Nat.reduceLT]; repeat' (first | exact Ok.out | with_reducible refine And.intro ?_ ?_))
    · (simp only [go_sem, hlt, hget, hpu, hinc, Int.reduceLE, ↓reduceIte, reduceCtorEq, Nat.reduceEqDiff, Nat.reduceLeDiff, Nat.reduceAdd, Nat.reduceMul, Nat.reduceSub, Nat.reduceLT]; repeat' (first | exact Ok.out | with_reducible refine And.intro ?_ ?_))

/-! ### Plain statements -/

def argS (a : Ar) : Str := if a.ref then [114, 101, 102, 32] ++ a.name else prE 0 a.x
def callS (name proc : Str) (args : List Ar) : Str := (if name = [] then [] else name ++ [32, 61, 32]) ++ (proc ++ [40] ++ Lib.join (args.map argS) [44, 32] ++ [41])
def plainS (kind : Int) (name proc : Str) (x : Ex) (has : Bool) (args : List Ar) : Str :=
  if kind = 1 then name ++ [32, 61, 32] ++ prE 0 x else if kind = 2 then [114, 101, 97, 100, 32] ++ name else if kind = 3 then [112, 114, 105, 110, 116, 32] ++ prE 0 x else if kind = 7 then [98, 114, 101, 97, 107] else if kind = 8 then [99, 111, 110, 116, 105, 110, 117, 101]
  else if kind = 10 then [103, 111, 116, 111, 32] ++ name else if kind = 9 then (if has then [114, 101, 116, 117, 114, 110, 32] ++ prE 0 x else [114, 101, 116, 117, 114, 110]) else callS name proc args

/-- What is written of a statement that may be. -/
structure Sm.PrO (s : Sm) : Prop where
  x : s.hasX = true → FormI s.x
  lab : ∀ t ∈ s.labels, t.length ≤ 8
  name : s.name.length ≤ 8
  proc : s.proc.length ≤ 8
  args : ∀ a ∈ s.args, a.name.length ≤ 8 ∧ (a.ref = false → FormI a.x)
  kind : 1 ≤ s.kind ∧ s.kind ≤ 10
  els : s.kind = 6 → s.els = []

theorem join_len (sep : Str) : ∀ l : List Str, (Lib.join l sep).length ≤ (l.map (·.length)).sum + sep.length * l.length
  | [] => by simp [Lib.join]
  | [a] => by simp [Lib.join, List.intercalate]
  | a :: b :: l => by
    have := join_len sep (b :: l)
    simp only [Lib.join, List.intercalate_cons_cons, List.length_append, List.map_cons, List.sum_cons, List.length_cons, Nat.mul_add] at this ⊢
    omega

theorem argsS_len : ∀ {l : List Ar}, (∀ a ∈ l, a.name.length ≤ 8 ∧ (a.ref = false → FormI a.x)) → ((l.map argS).map (·.length)).sum ≤ 25 * Ar.sizes l
  | [], _ => by simp
  | a :: l, h => by
    have h1 := h a (List.mem_cons_self ..)
    have := argsS_len fun t m => h t (List.mem_cons_of_mem _ m)
    have h2 : (argS a).length ≤ 25 * (1 + a.x.size) := by
      unfold argS
      split
      · simp only [List.length_append, List.length_cons, List.length_nil]; omega
      · rename_i c
        have := prE_len (h1.2 (by simpa using c)) 0
        have := nodes_size a.x.size a.x (Nat.le_refl _)
        omega
    simp only [List.map_cons, List.sum_cons, Ar.sizes] at this ⊢
    omega

theorem args_len {l : List Ar} (h : ∀ a ∈ l, a.name.length ≤ 8 ∧ (a.ref = false → FormI a.x)) : (Lib.join (l.map argS) [44, 32]).length ≤ 27 * Ar.sizes l := by
  have h1 := join_len [44, 32] (l.map argS)
  have h2 := argsS_len h
  have h3 := Ar.sizes_len l
  simp only [List.length_map, List.length_cons, List.length_nil] at h1 h3
  omega

theorem pplain_s {s : Sm} (h : s.PrO) (hs : s.size ≤ 1000000) (st : St) : Fun Tryd.prog n_print_plain [.agg (encSm s)] st (.str (plainS s.kind s.name s.proc s.x s.has s.args)) st := by
  refine Fun.pure ?_ (by simp [D.oks, D.ok, okSm]) rfl st
  obtain ⟨id, kind, labels, name, proc, x, has, args, thn, els⟩ := s
  obtain ⟨hx, _, hname, hproc, hargs, _, _⟩ := h
  dsimp only at hx hname hproc hargs ⊢
  simp only [Sm.size] at hs
  have hns := nodes_size x.size x (Nat.le_refl _)
  have hxn : x.nodes ≤ 1000000 := by omega
  unfold S0
  unfold plainS
  simp only [← beq_iff_eq (α := Int)]
  have hal := args_len hargs
  have k1 : (kind == 1) = true → FormI x := fun k => hx (by simp [Sm.hasX, k])
  have k3 : (kind == 3) = true → FormI x := fun k => hx (by simp [Sm.hasX, k])
  have k9 : (kind == 9) = true → has = true → FormI x := fun k h => hx (by simp [Sm.hasX, k, h])
  cases c1 : kind == 1 with
  | true =>
    have e1 := fun s => pexpr_s (k1 c1) hxn (least := 0) s
    simp only [encEx_eq] at e1
    have := prE_len (k1 c1) 0
    have m1 : name.length + 1 + 1 + 1 ≤ maxStr := by unfold maxStr; omega
    have m2 : name.length + 1 + 1 + 1 + (prE 0 x).length ≤ maxStr := by unfold maxStr; omega
    refine Fun.go has_print_plain rfl fun B Q hB hQ => ?_
    have hlt : 0 < 1 := Nat.zero_lt_one
    have hget : 0 < 1 := Nat.zero_lt_one
    have hpu : 0 < 1 := Nat.zero_lt_one
    have hinc : 0 < 1 := Nat.zero_lt_one
    repeat' (first
 | simp only [go_sem, hlt, hget, hpu, hinc, Int.reduceLE, ↓reduceIte, reduceCtorEq, Nat.reduceEqDiff, Nat.reduceLeDiff, Nat.reduceAdd, Nat.reduceMul, Nat.reduceSub, Nat.reduceLT, c1, m1, m2]
 | (with_reducible refine CU (e1 _) ?_)
 | (with_reducible first | refine CB_ofT (by assumption) fun hc => ?_ | refine CB_ofF (by assumption) fun hc => ?_ | refine CB_split (fun hc => ?_) fun hc => ?_) <;> (try simp only [hc, bs, ↓reduceIte] at h) <;> (try simp only [hc])
 | ((with_reducible first | refine leafR hQ ?_ | refine leafN hQ ?_); (try cases h); simp only [resL, oneD, Option.some.injEq, exists_eq_left', go_sem, hlt, hget, hpu, hinc, Int.reduceLE, ↓reduceIte, reduceCtorEq, Nat.reduceEqDiff, Nat.reduceLeDiff, Nat.reduceAdd, Nat.reduceMul, Nat.reduceSub, Nat.reduceLT, c1, m1, m2]; repeat' (first | exact Ok.out | with_reducible refine And.intro ?_ ?_ | (simp; done)))
 | (cases h; replace h := hr; clear hr; (try simp only [bs, ↓reduceIte] at h))
 | (cases h; done))
  | false =>
  cases c2 : kind == 2 with
  | true =>
    have m1 : (5 : Nat) + name.length ≤ maxStr := by unfold maxStr; omega
    refine Fun.go has_print_plain rfl fun B Q hB hQ => ?_
    have hlt : 0 < 1 := Nat.zero_lt_one
    have hget : 0 < 1 := Nat.zero_lt_one
    have hpu : 0 < 1 := Nat.zero_lt_one
    have hinc : 0 < 1 := Nat.zero_lt_one
    repeat' (first
 | simp only [go_sem, hlt, hget, hpu, hinc, Int.reduceLE, ↓reduceIte, reduceCtorEq, Nat.reduceEqDiff, Nat.reduceLeDiff, Nat.reduceAdd, Nat.reduceMul, Nat.reduceSub, Nat.reduceLT, c1, c2, m1]
 | (with_reducible first | refine CB_ofT (by assumption) fun hc => ?_ | refine CB_ofF (by assumption) fun hc => ?_ | refine CB_split (fun hc => ?_) fun hc => ?_) <;> (try simp only [hc, bs, ↓reduceIte] at h) <;> (try simp only [hc])
 | ((with_reducible first | refine leafR hQ ?_ | refine leafN hQ ?_); (try cases h); simp only [resL, oneD, Option.some.injEq, exists_eq_left', go_sem, hlt, hget, hpu, hinc, Int.reduceLE, ↓reduceIte, reduceCtorEq, Nat.reduceEqDiff, Nat.reduceLeDiff, Nat.reduceAdd, Nat.reduceMul, Nat.reduceSub, Nat.reduceLT, c1, c2, m1]; repeat' (first | exact Ok.out | with_reducible refine And.intro ?_ ?_ | (simp; done)))
 | (cases h; replace h := hr; clear hr; (try simp only [bs, ↓reduceIte] at h))
 | (cases h; done))
  | false =>
  cases c3 : kind == 3 with
  | true =>
    have e1 := fun s => pexpr_s (k3 c3) hxn (least := 0) s
    simp only [encEx_eq] at e1
    have := prE_len (k3 c3) 0
    have m1 : (6 : Nat) + (prE 0 x).length ≤ maxStr := by unfold maxStr; omega
    refine Fun.go has_print_plain rfl fun B Q hB hQ => ?_
    have hlt : 0 < 1 := Nat.zero_lt_one
    have hget : 0 < 1 := Nat.zero_lt_one
    have hpu : 0 < 1 := Nat.zero_lt_one
    have hinc : 0 < 1 := Nat.zero_lt_one
    repeat' (first
 | simp only [go_sem, hlt, hget, hpu, hinc, Int.reduceLE, ↓reduceIte, reduceCtorEq, Nat.reduceEqDiff, Nat.reduceLeDiff, Nat.reduceAdd, Nat.reduceMul, Nat.reduceSub, Nat.reduceLT, c1, c2, c3, m1]
 | (with_reducible refine CU (e1 _) ?_)
 | (with_reducible first | refine CB_ofT (by assumption) fun hc => ?_ | refine CB_ofF (by assumption) fun hc => ?_ | refine CB_split (fun hc => ?_) fun hc => ?_) <;> (try simp only [hc, bs, ↓reduceIte] at h) <;> (try simp only [hc])
 | ((with_reducible first | refine leafR hQ ?_ | refine leafN hQ ?_); (try cases h); simp only [resL, oneD, Option.some.injEq, exists_eq_left', go_sem, hlt, hget, hpu, hinc, Int.reduceLE, ↓reduceIte, reduceCtorEq, Nat.reduceEqDiff, Nat.reduceLeDiff, Nat.reduceAdd, Nat.reduceMul, Nat.reduceSub, Nat.reduceLT, c1, c2, c3, m1]; repeat' (first | exact Ok.out | with_reducible refine And.intro ?_ ?_ | (simp; done)))
 | (cases h; replace h := hr; clear hr; (try simp only [bs, ↓reduceIte] at h))
 | (cases h; done))
  | false =>
  cases c7 : kind == 7 with
  | true =>
    refine Fun.go has_print_plain rfl fun B Q hB hQ => ?_
    have hlt : 0 < 1 := Nat.zero_lt_one
    have hget : 0 < 1 := Nat.zero_lt_one
    have hpu : 0 < 1 := Nat.zero_lt_one
    have hinc : 0 < 1 := Nat.zero_lt_one
    repeat' (first
 | simp only [go_sem, hlt, hget, hpu, hinc, Int.reduceLE, ↓reduceIte, reduceCtorEq, Nat.reduceEqDiff, Nat.reduceLeDiff, Nat.reduceAdd, Nat.reduceMul, Nat.reduceSub, Nat.reduceLT, c1, c2, c3, c7]
 | (with_reducible first | refine CB_ofT (by assumption) fun hc => ?_ | refine CB_ofF (by assumption) fun hc => ?_ | refine CB_split (fun hc => ?_) fun hc => ?_) <;> (try simp only [hc, bs, ↓reduceIte] at h) <;> (try simp only [hc])
 | ((with_reducible first | refine leafR hQ ?_ | refine leafN hQ ?_); (try cases h); simp only [resL, oneD, Option.some.injEq, exists_eq_left', go_sem, hlt, hget, hpu, hinc, Int.reduceLE, ↓reduceIte, reduceCtorEq, Nat.reduceEqDiff, Nat.reduceLeDiff, Nat.reduceAdd, Nat.reduceMul, Nat.reduceSub, Nat.reduceLT, c1, c2, c3, c7]; repeat' (first | exact Ok.out | with_reducible refine And.intro ?_ ?_ | (simp; done)))
 | (cases h; replace h := hr; clear hr; (try simp only [bs, ↓reduceIte] at h))
 | (cases h; done))
  | false =>
  cases c8 : kind == 8 with
  | true =>
    refine Fun.go has_print_plain rfl fun B Q hB hQ => ?_
    have hlt : 0 < 1 := Nat.zero_lt_one
    have hget : 0 < 1 := Nat.zero_lt_one
    have hpu : 0 < 1 := Nat.zero_lt_one
    have hinc : 0 < 1 := Nat.zero_lt_one
    repeat' (first
 | simp only [go_sem, hlt, hget, hpu, hinc, Int.reduceLE, ↓reduceIte, reduceCtorEq, Nat.reduceEqDiff, Nat.reduceLeDiff, Nat.reduceAdd, Nat.reduceMul, Nat.reduceSub, Nat.reduceLT, c1, c2, c3, c7, c8]
 | (with_reducible first | refine CB_ofT (by assumption) fun hc => ?_ | refine CB_ofF (by assumption) fun hc => ?_ | refine CB_split (fun hc => ?_) fun hc => ?_) <;> (try simp only [hc, bs, ↓reduceIte] at h) <;> (try simp only [hc])
 | ((with_reducible first | refine leafR hQ ?_ | refine leafN hQ ?_); (try cases h); simp only [resL, oneD, Option.some.injEq, exists_eq_left', go_sem, hlt, hget, hpu, hinc, Int.reduceLE, ↓reduceIte, reduceCtorEq, Nat.reduceEqDiff, Nat.reduceLeDiff, Nat.reduceAdd, Nat.reduceMul, Nat.reduceSub, Nat.reduceLT, c1, c2, c3, c7, c8]; repeat' (first | exact Ok.out | with_reducible refine And.intro ?_ ?_ | (simp; done)))
 | (cases h; replace h := hr; clear hr; (try simp only [bs, ↓reduceIte] at h))
 | (cases h; done))
  | false =>
  cases c10 : kind == 10 with
  | true =>
    have m1 : (5 : Nat) + name.length ≤ maxStr := by unfold maxStr; omega
    refine Fun.go has_print_plain rfl fun B Q hB hQ => ?_
    have hlt : 0 < 1 := Nat.zero_lt_one
    have hget : 0 < 1 := Nat.zero_lt_one
    have hpu : 0 < 1 := Nat.zero_lt_one
    have hinc : 0 < 1 := Nat.zero_lt_one
    repeat' (first
 | simp only [go_sem, hlt, hget, hpu, hinc, Int.reduceLE, ↓reduceIte, reduceCtorEq, Nat.reduceEqDiff, Nat.reduceLeDiff, Nat.reduceAdd, Nat.reduceMul, Nat.reduceSub, Nat.reduceLT, c1, c2, c3, c7, c8, c10, m1]
 | (with_reducible first | refine CB_ofT (by assumption) fun hc => ?_ | refine CB_ofF (by assumption) fun hc => ?_ | refine CB_split (fun hc => ?_) fun hc => ?_) <;> (try simp only [hc, bs, ↓reduceIte] at h) <;> (try simp only [hc])
 | ((with_reducible first | refine leafR hQ ?_ | refine leafN hQ ?_); (try cases h); simp only [resL, oneD, Option.some.injEq, exists_eq_left', go_sem, hlt, hget, hpu, hinc, Int.reduceLE, ↓reduceIte, reduceCtorEq, Nat.reduceEqDiff, Nat.reduceLeDiff, Nat.reduceAdd, Nat.reduceMul, Nat.reduceSub, Nat.reduceLT, c1, c2, c3, c7, c8, c10, m1]; repeat' (first | exact Ok.out | with_reducible refine And.intro ?_ ?_ | (simp; done)))
 | (cases h; replace h := hr; clear hr; (try simp only [bs, ↓reduceIte] at h))
 | (cases h; done))
  | false =>
  cases c9 : kind == 9 with
  | true =>
    cases hh : has with
    | true =>
      have e1 := fun s => pexpr_s (k9 c9 hh) hxn (least := 0) s
      simp only [encEx_eq] at e1
      have := prE_len (k9 c9 hh) 0
      have m1 : (7 : Nat) + (prE 0 x).length ≤ maxStr := by unfold maxStr; omega
      refine Fun.go has_print_plain rfl fun B Q hB hQ => ?_
      have hlt : 0 < 1 := Nat.zero_lt_one
      have hget : 0 < 1 := Nat.zero_lt_one
      have hpu : 0 < 1 := Nat.zero_lt_one
      have hinc : 0 < 1 := Nat.zero_lt_one
      repeat' (first
 | simp only [go_sem, hlt, hget, hpu, hinc, Int.reduceLE, ↓reduceIte, reduceCtorEq, Nat.reduceEqDiff, Nat.reduceLeDiff, Nat.reduceAdd, Nat.reduceMul, Nat.reduceSub, Nat.reduceLT, c1, c2, c3, c7, c8, c10, c9, m1]
 | (with_reducible refine CU (e1 _) ?_)
 | (with_reducible first | refine CB_ofT (by assumption) fun hc => ?_ | refine CB_ofF (by assumption) fun hc => ?_ | refine CB_split (fun hc => ?_) fun hc => ?_) <;> (try simp only [hc, bs, ↓reduceIte] at h) <;> (try simp only [hc])
 | ((with_reducible first | refine leafR hQ ?_ | refine leafN hQ ?_); (try cases h); simp only [resL, oneD, Option.some.injEq, exists_eq_left', go_sem, hlt, hget, hpu, hinc, Int.reduceLE, ↓reduceIte, reduceCtorEq, Nat.reduceEqDiff, Nat.reduceLeDiff, Nat.reduceAdd, Nat.reduceMul, Nat.reduceSub, Nat.reduceLT, c1, c2, c3, c7, c8, c10, c9, m1]; repeat' (first | exact Ok.out | with_reducible refine And.intro ?_ ?_ | (simp; done)))
 | (cases h; replace h := hr; clear hr; (try simp only [bs, ↓reduceIte] at h))
 | (cases h; done))
    | false =>
      refine Fun.go has_print_plain rfl fun B Q hB hQ => ?_
      have hlt : 0 < 1 := Nat.zero_lt_one
      have hget : 0 < 1 := Nat.zero_lt_one
      have hpu : 0 < 1 := Nat.zero_lt_one
      have hinc : 0 < 1 := Nat.zero_lt_one
      repeat' (first
 | simp only [go_sem, hlt, hget, hpu, hinc, Int.reduceLE, ↓reduceIte, reduceCtorEq, Nat.reduceEqDiff, Nat.reduceLeDiff, Nat.reduceAdd, Nat.reduceMul, Nat.reduceSub, Nat.reduceLT, c1, c2, c3, c7, c8, c10, c9]
 | (with_reducible first | refine CB_ofT (by assumption) fun hc => ?_ | refine CB_ofF (by assumption) fun hc => ?_ | refine CB_split (fun hc => ?_) fun hc => ?_) <;> (try simp only [hc, bs, ↓reduceIte] at h) <;> (try simp only [hc])
 | ((with_reducible first | refine leafR hQ ?_ | refine leafN hQ ?_); (try cases h); simp only [resL, oneD, Option.some.injEq, exists_eq_left', go_sem, hlt, hget, hpu, hinc, Int.reduceLE, ↓reduceIte, reduceCtorEq, Nat.reduceEqDiff, Nat.reduceLeDiff, Nat.reduceAdd, Nat.reduceMul, Nat.reduceSub, Nat.reduceLT, c1, c2, c3, c7, c8, c10, c9]; repeat' (first | exact Ok.out | with_reducible refine And.intro ?_ ?_ | (simp; done)))
 | (cases h; replace h := hr; clear hr; (try simp only [bs, ↓reduceIte] at h))
 | (cases h; done))
  | false =>
    have hjl : (args.map argS).length ≤ 140737488355328 := by simp; have := Ar.sizes_len args; omega
    have hjm : (Lib.join (args.map argS) [44, 32]).length ≤ 140737488355328 := by omega
    have ej := fun s => Join_s (l := args.map argS) (sep := [44, 32]) hjl hjm (.tok 0) s
    have asz := Ar.sizes_len args
    have m1 : proc.length + 1 ≤ maxStr := by unfold maxStr; omega
    have m2 : proc.length + 1 + (Lib.join (args.map argS) [44, 32]).length ≤ maxStr := by unfold maxStr; omega
    have m3 : proc.length + 1 + (Lib.join (args.map argS) [44, 32]).length + 1 ≤ maxStr := by unfold maxStr; omega
    have m4 : name.length + 1 + 1 + 1 ≤ maxStr := by unfold maxStr; omega
    have m5 : name.length + 1 + 1 + 1 + (proc.length + 1 + (Lib.join (args.map argS) [44, 32]).length + 1) ≤ maxStr := by unfold maxStr; omega
    refine Fun.go has_print_plain rfl fun B Q hB hQ => ?_
    have hlt : 0 < 1 := Nat.zero_lt_one
    have hget : 0 < 1 := Nat.zero_lt_one
    have hpu : 0 < 1 := Nat.zero_lt_one
    have hinc : 0 < 1 := Nat.zero_lt_one
    repeat' (first
 | simp only [go_sem, hlt, hget, hpu, hinc, Int.reduceLE, ↓reduceIte, reduceCtorEq, Nat.reduceEqDiff, Nat.reduceLeDiff, Nat.reduceAdd, Nat.reduceMul, Nat.reduceSub, Nat.reduceLT, c1, c2, c3, c7, c8, c10, c9]
 | (with_reducible first | refine CB_ofT (by assumption) fun hc => ?_ | refine CB_ofF (by assumption) fun hc => ?_ | refine CB_split (fun hc => ?_) fun hc => ?_) <;> (try simp only [hc, bs, ↓reduceIte] at h) <;> (try simp only [hc])
 | ((with_reducible first | refine leafR hQ ?_ | refine leafN hQ ?_); (try cases h); simp only [resL, oneD, Option.some.injEq, exists_eq_left', go_sem, hlt, hget, hpu, hinc, Int.reduceLE, ↓reduceIte, reduceCtorEq, Nat.reduceEqDiff, Nat.reduceLeDiff, Nat.reduceAdd, Nat.reduceMul, Nat.reduceSub, Nat.reduceLT, c1, c2, c3, c7, c8, c10, c9]; repeat' (first | exact Ok.out | with_reducible refine And.intro ?_ ?_ | (simp; done)))
 | (cases h; replace h := hr; clear hr; (try simp only [bs, ↓reduceIte] at h))
 | (cases h; done))
    refine SemL.tokT 3 1 rfl ?_
    simp only [go_sem, hlt, hget, hpu, hinc, Int.reduceLE, ↓reduceIte, reduceCtorEq, Nat.reduceEqDiff, Nat.reduceLeDiff, Nat.reduceAdd, Nat.reduceMul, Nat.reduceSub, Nat.reduceLT]
    refine SemL.re _ _ 1 1 (by rw [hB]; exact Nat.le_of_ble_eq_true rfl) (by rw [hB]; exact Nat.le_of_ble_eq_true rfl) ?_ ?_ (SemL.ind (ι := List Ar × Nat × List Str) (fun i => args.drop i.2.1 = i.1 ∧ i.2.2 ++ i.1.map argS = args.map argS ∧ i.2.2.length = i.2.1) (fun i => i.1.length)
      (fun i => [(1, .ptr 0 0), (3, .slice (.tok 0) 1 (i.2.2.map encStr)), (47, .slice .shared 6 (args.map encAr)), (48, .int .i64 (args.length : Int)), (49, .int .i64 (i.2.1 : Int))]) (fun i => ⟨[encSm ⟨id, kind, labels, name, proc, x, has, args, thn, els⟩], [some i.2.1]⟩) ?_ (args, 0, []) ⟨rfl, rfl, rfl⟩)
    · (simp only [go_sem, hlt, hget, hpu, hinc, Int.reduceLE, ↓reduceIte, reduceCtorEq, Nat.reduceEqDiff, Nat.reduceLeDiff, Nat.reduceAdd, Nat.reduceMul, Nat.reduceSub, Nat.reduceLT]; repeat' (first | exact Ok.out | with_reducible refine And.intro ?_ ?_))
    · (simp only [go_sem, hlt, hget, hpu, hinc, Int.reduceLE, ↓reduceIte, reduceCtorEq, Nat.reduceEqDiff, Nat.reduceLeDiff, Nat.reduceAdd, Nat.reduceMul, Nat.reduceSub, Nat.reduceLT]; repeat' (first | exact Ok.out | with_reducible refine And.intro ?_ ?_))
    rintro ⟨rest, k, acc⟩ ⟨h1, h2, h3⟩ IH
    dsimp only at h1 h2 h3
    cases rest with
    | nil =>
      have hlt := drop_nil h1
      simp only [List.map_nil, List.append_nil] at h2
      subst h2
      cases cn : name == [] with
      | true =>
        have ec : callS name proc args = proc ++ [40] ++ Lib.join (args.map argS) [44, 32] ++ [41] := by rw [callS, if_pos (by simpa using cn), List.nil_append]
        repeat' (first
 | simp only [go_sem, hlt, hget, hpu, hinc, Int.reduceLE, ↓reduceIte, reduceCtorEq, Nat.reduceEqDiff, Nat.reduceLeDiff, Nat.reduceAdd, Nat.reduceMul, Nat.reduceSub, Nat.reduceLT, m1, m2, m3, cn, ec]
 | (with_reducible refine CU (ej _) ?_)
 | (with_reducible first | refine CB_ofT (by assumption) fun hc => ?_ | refine CB_ofF (by assumption) fun hc => ?_ | refine CB_split (fun hc => ?_) fun hc => ?_) <;> (try simp only [hc, bs, ↓reduceIte] at h) <;> (try simp only [hc])
 | ((with_reducible first | refine leafR hQ ?_ | refine leafN hQ ?_); (try cases h); simp only [resL, oneD, Option.some.injEq, exists_eq_left', go_sem, hlt, hget, hpu, hinc, Int.reduceLE, ↓reduceIte, reduceCtorEq, Nat.reduceEqDiff, Nat.reduceLeDiff, Nat.reduceAdd, Nat.reduceMul, Nat.reduceSub, Nat.reduceLT, m1, m2, m3, cn, ec]; repeat' (first | exact Ok.out | with_reducible refine And.intro ?_ ?_ | (simp; done)))
 | (cases h; replace h := hr; clear hr; (try simp only [bs, ↓reduceIte] at h))
 | (cases h; done))
      | false =>
        have ec : callS name proc args = name ++ [32, 61, 32] ++ (proc ++ [40] ++ Lib.join (args.map argS) [44, 32] ++ [41]) := by rw [callS, if_neg (by simpa using cn)]
        repeat' (first
 | simp only [go_sem, hlt, hget, hpu, hinc, Int.reduceLE, ↓reduceIte, reduceCtorEq, Nat.reduceEqDiff, Nat.reduceLeDiff, Nat.reduceAdd, Nat.reduceMul, Nat.reduceSub, Nat.reduceLT, m1, m2, m3, m4, m5, cn, ec]
 | (with_reducible refine CU (ej _) ?_)
 | (with_reducible first | refine CB_ofT (by assumption) fun hc => ?_ | refine CB_ofF (by assumption) fun hc => ?_ | refine CB_split (fun hc => ?_) fun hc => ?_) <;> (try simp only [hc, bs, ↓reduceIte] at h) <;> (try simp only [hc])
 | ((with_reducible first | refine leafR hQ ?_ | refine leafN hQ ?_); (try cases h); simp only [resL, oneD, Option.some.injEq, exists_eq_left', go_sem, hlt, hget, hpu, hinc, Int.reduceLE, ↓reduceIte, reduceCtorEq, Nat.reduceEqDiff, Nat.reduceLeDiff, Nat.reduceAdd, Nat.reduceMul, Nat.reduceSub, Nat.reduceLT, m1, m2, m3, m4, m5, cn, ec]; repeat' (first | exact Ok.out | with_reducible refine And.intro ?_ ?_ | (simp; done)))
 | (cases h; replace h := hr; clear hr; (try simp only [bs, ↓reduceIte] at h))
 | (cases h; done))
    | cons a rest =>
      obtain ⟨hget, g2, hlt, g4⟩ := drop_cons h1
      have hmem := List.mem_of_getElem? hget
      obtain ⟨ha1, ha2⟩ := hargs a hmem
      have hsz := Ar.sizes_mem hmem
      have han := nodes_size a.x.size a.x (Nat.le_refl _)
      have hk : k < 4611686018427387904 := by omega
      have w1 : IntKind.wrap .i64 ((k : Int) + 1) = ((k + 1 : Nat) : Int) := by rw [wrap_ok] <;> omega
      have hpu : (k + 1) * 17 ≤ maxStr := by unfold maxStr; omega
      cases hr : a.ref with
      | true =>
        have m1 : (4 : Nat) + a.name.length ≤ maxStr := by unfold maxStr; omega
        have ea : argS a = [114, 101, 102, 32] ++ a.name := by simp only [argS, hr, ↓reduceIte]
        repeat' (first
 | simp only [go_sem, hlt, hget, hpu, hinc, Int.reduceLE, ↓reduceIte, reduceCtorEq, Nat.reduceEqDiff, Nat.reduceLeDiff, Nat.reduceAdd, Nat.reduceMul, Nat.reduceSub, Nat.reduceLT, hr, m1, w1, h3]
 | (with_reducible refine CU (pref_s _ _) ?_)
 | (with_reducible first | refine CB_ofT (by assumption) fun hc => ?_ | refine CB_ofF (by assumption) fun hc => ?_ | refine CB_split (fun hc => ?_) fun hc => ?_) <;> (try simp only [hc, bs, ↓reduceIte] at h) <;> (try simp only [hc])
 | ((with_reducible first | refine leafR hQ ?_ | refine leafN hQ ?_); (try cases h); simp only [resL, oneD, Option.some.injEq, exists_eq_left', go_sem, hlt, hget, hpu, hinc, Int.reduceLE, ↓reduceIte, reduceCtorEq, Nat.reduceEqDiff, Nat.reduceLeDiff, Nat.reduceAdd, Nat.reduceMul, Nat.reduceSub, Nat.reduceLT, hr, m1, w1, h3]; repeat' (first | exact Ok.out | with_reducible refine And.intro ?_ ?_ | (simp; done)))
 | (cases h; replace h := hr; clear hr; (try simp only [bs, ↓reduceIte] at h))
 | (cases h; done))
        refine SemL.re _ _ 1 1 (by rw [hB]; exact Nat.le_of_ble_eq_true rfl) (by rw [hB]; exact Nat.le_of_ble_eq_true rfl) ?_ ?_ (IH (rest, k + 1, acc ++ [argS a]) ⟨g2, by rw [← h2]; simp, by simp [h3]⟩ (by simp))
        · (simp only [go_sem, hlt, hget, hpu, hinc, Int.reduceLE, ↓reduceIte, reduceCtorEq, Nat.reduceEqDiff, Nat.reduceLeDiff, Nat.reduceAdd, Nat.reduceMul, Nat.reduceSub, Nat.reduceLT, ea, List.cons_append, List.nil_append]; repeat' (first | exact Ok.out | with_reducible refine And.intro ?_ ?_))
        · (simp only [go_sem, hlt, hget, hpu, hinc, Int.reduceLE, ↓reduceIte, reduceCtorEq, Nat.reduceEqDiff, Nat.reduceLeDiff, Nat.reduceAdd, Nat.reduceMul, Nat.reduceSub, Nat.reduceLT, ea, List.cons_append, List.nil_append]; repeat' (first | exact Ok.out | with_reducible refine And.intro ?_ ?_))
      | false =>
        have e1 := fun s => pexpr_s (ha2 hr) (by omega) (least := 0) s
        have ea : argS a = prE 0 a.x := by simp only [argS, hr, Bool.false_eq_true, ↓reduceIte]
        repeat' (first
 | simp only [go_sem, hlt, hget, hpu, hinc, Int.reduceLE, ↓reduceIte, reduceCtorEq, Nat.reduceEqDiff, Nat.reduceLeDiff, Nat.reduceAdd, Nat.reduceMul, Nat.reduceSub, Nat.reduceLT, hr, w1, h3]
 | (with_reducible refine CU (e1 _) ?_)
 | (with_reducible first | refine CB_ofT (by assumption) fun hc => ?_ | refine CB_ofF (by assumption) fun hc => ?_ | refine CB_split (fun hc => ?_) fun hc => ?_) <;> (try simp only [hc, bs, ↓reduceIte] at h) <;> (try simp only [hc])
 | ((with_reducible first | refine leafR hQ ?_ | refine leafN hQ ?_); (try cases h); simp only [resL, oneD, Option.some.injEq, exists_eq_left', go_sem, hlt, hget, hpu, hinc, Int.reduceLE, ↓reduceIte, reduceCtorEq, Nat.reduceEqDiff, Nat.reduceLeDiff, Nat.reduceAdd, Nat.reduceMul, Nat.reduceSub, Nat.reduceLT, hr, w1, h3]; repeat' (first | exact Ok.out | with_reducible refine And.intro ?_ ?_ | (simp; done)))
 | (cases h; replace h := hr; clear hr; (try simp only [bs, ↓reduceIte] at h))
 | (cases h; done))
        refine SemL.re _ _ 1 1 (by rw [hB]; exact Nat.le_of_ble_eq_true rfl) (by rw [hB]; exact Nat.le_of_ble_eq_true rfl) ?_ ?_ (IH (rest, k + 1, acc ++ [argS a]) ⟨g2, by rw [← h2]; simp, by simp [h3]⟩ (by simp))
        · (simp only [go_sem, hlt, hget, hpu, hinc, Int.reduceLE, ↓reduceIte, reduceCtorEq, Nat.reduceEqDiff, Nat.reduceLeDiff, Nat.reduceAdd, Nat.reduceMul, Nat.reduceSub, Nat.reduceLT, ea, List.cons_append, List.nil_append]; repeat' (first | exact Ok.out | with_reducible refine And.intro ?_ ?_))
        · (simp only [go_sem, hlt, hget, hpu, hinc, Int.reduceLE, ↓reduceIte, reduceCtorEq, Nat.reduceEqDiff, Nat.reduceLeDiff, Nat.reduceAdd, Nat.reduceMul, Nat.reduceSub, Nat.reduceLT, ea, List.cons_append, List.nil_append]; repeat' (first | exact Ok.out | with_reducible refine And.intro ?_ ?_))

end Go.Abs

/-! Pr3 -/

namespace Go.Abs

set_option maxRecDepth 8000
set_option linter.unusedSimpArgs false
set_option linter.unusedVariables false
open Go.Proofs

mutual
/-- A statement's lines. -/
def rowS (inn : Nat) : Sm → Str
  | ⟨id, kind, labels, name, proc, x, has, args, thn, els⟩ =>
    if kind = 6 then lineS inn (marksS labels ++ [119, 104, 105, 108, 101, 32, 40] ++ prE 0 x ++ [41, 32, 123]) ++ rowsS (inn + 1) thn ++ lineS inn [125]
    else if kind = 5 then lineS inn (marksS labels ++ [105, 102, 32, 40] ++ prE 0 x ++ [41, 32, 123]) ++ rowsS (inn + 1) thn ++ (if els.length = 0 then [] else lineS inn [125, 32, 101, 108, 115, 101, 32, 123] ++ rowsS (inn + 1) els) ++ lineS inn [125]
    else lineS inn (marksS labels ++ plainS kind name proc x has args ++ [59])
def rowsS (inn : Nat) : List Sm → Str
  | [] => []
  | s :: l => rowS inn s ++ rowsS inn l
end
theorem rowS_eq (inn : Nat) (s : Sm) : rowS inn s = if s.kind = 6 then lineS inn (marksS s.labels ++ [119, 104, 105, 108, 101, 32, 40] ++ prE 0 s.x ++ [41, 32, 123]) ++ rowsS (inn + 1) s.thn ++ lineS inn [125]
    else if s.kind = 5 then lineS inn (marksS s.labels ++ [105, 102, 32, 40] ++ prE 0 s.x ++ [41, 32, 123]) ++ rowsS (inn + 1) s.thn ++ (if s.els.length = 0 then [] else lineS inn [125, 32, 101, 108, 115, 101, 32, 123] ++ rowsS (inn + 1) s.els) ++ lineS inn [125]
    else lineS inn (marksS s.labels ++ plainS s.kind s.name s.proc s.x s.has s.args ++ [59]) := by
  cases s; simp only [rowS]

mutual
/-- It can be written, so far in. -/
def Sm.PrR (inn : Nat) : Sm → Prop
  | ⟨id, kind, labels, name, proc, x, has, args, thn, els⟩ => Sm.PrO ⟨id, kind, labels, name, proc, x, has, args, thn, els⟩ ∧ inn ≤ 12 ∧ Sm.PrRs (inn + 1) thn ∧ Sm.PrRs (inn + 1) els
def Sm.PrRs (inn : Nat) : List Sm → Prop
  | [] => True
  | s :: l => s.PrR inn ∧ Sm.PrRs inn l
end
theorem PrR_eq (inn : Nat) (s : Sm) : s.PrR inn ↔ s.PrO ∧ inn ≤ 12 ∧ Sm.PrRs (inn + 1) s.thn ∧ Sm.PrRs (inn + 1) s.els := by cases s; simp only [Sm.PrR]
theorem PrRs_mem {inn : Nat} {s : Sm} : ∀ {l : List Sm}, Sm.PrRs inn l → s ∈ l → s.PrR inn
  | y :: l, h, m => by
    simp only [Sm.PrRs] at h
    rcases List.mem_cons.1 m with rfl | m
    · exact h.1
    · exact PrRs_mem h.2 m

theorem plainS_len {s : Sm} (h : s.PrO) : (plainS s.kind s.name s.proc s.x s.has s.args).length ≤ 25 * s.x.size + 27 * Ar.sizes s.args + 30 := by
  obtain ⟨hx, _, hname, hproc, hargs, _, _⟩ := h
  have hal := args_len hargs
  have hns := nodes_size s.x.size s.x (Nat.le_refl _)
  unfold plainS
  split
  · rename_i k
    have := prE_len (hx (by simp [Sm.hasX, k])) 0
    simp only [List.length_append, List.length_cons, List.length_nil]; omega
  split
  · simp only [List.length_append, List.length_cons, List.length_nil]; omega
  split
  · rename_i k
    have := prE_len (hx (by simp [Sm.hasX, k])) 0
    simp only [List.length_append, List.length_cons, List.length_nil]; omega
  split
  · simp only [List.length_append, List.length_cons, List.length_nil]; omega
  split
  · simp only [List.length_append, List.length_cons, List.length_nil]; omega
  split
  · simp only [List.length_append, List.length_cons, List.length_nil]; omega
  split
  · rename_i k
    split
    · rename_i kh
      have := prE_len (hx (by simp [Sm.hasX, k, kh])) 0
      simp only [List.length_append, List.length_cons, List.length_nil]; omega
    · simp only [List.length_append, List.length_cons, List.length_nil]; omega
  · unfold callS
    split <;> simp only [List.length_append, List.length_cons, List.length_nil] <;> omega

mutual
theorem rowS_len : ∀ {inn : Nat} (s : Sm), s.PrR inn → (rowS inn s).length ≤ 200 * s.size
  | inn, ⟨id, kind, labels, name, proc, x, has, args, thn, els⟩, h => by
    obtain ⟨ho, hi, ht, he⟩ := (PrR_eq _ _).1 h
    have h1 := rowsS_len thn ht
    have h2 := rowsS_len els he
    have h3 := marksS_len ho.lab
    have h4 := plainS_len ho
    have h6 := nodes_size x.size x (Nat.le_refl _)
    dsimp only at h3 h4
    simp only [rowS, Sm.size]
    split
    · rename_i k
      have h5 := prE_len (ho.x (by simp [Sm.hasX, k])) 0
      dsimp only at h5
      simp only [List.length_append, List.length_cons, List.length_nil, lineS_len]; omega
    split
    · rename_i k
      have h5 := prE_len (ho.x (by simp [Sm.hasX, k])) 0
      dsimp only at h5
      split <;> simp only [List.length_append, List.length_cons, List.length_nil, lineS_len] <;> omega
    · simp only [List.length_append, List.length_cons, List.length_nil, lineS_len]; omega
theorem rowsS_len : ∀ {inn : Nat} (l : List Sm), Sm.PrRs inn l → (rowsS inn l).length ≤ 200 * Sm.sizes l
  | _, [], _ => by simp [rowsS, Sm.sizes]
  | inn, s :: l, h => by
    simp only [Sm.PrRs] at h
    have h1 := rowS_len s h.1
    have h2 := rowsS_len l h.2
    simp only [rowsS, Sm.sizes, List.length_append]; omega
end

/-! ### The walk -/

def slen (l : Str) : Nat := l.length
theorem Fun.bldz {P : Program} {f : Nat} {args : List D} {l l' : Str} {d : D} (h : Fun P f (.ptr 0 0 :: args) ⟨[bobj 0 0 l], [some (slen l)]⟩ d ⟨[bobj 0 0 l'], [some (slen l')]⟩) (ha : D.oks 0 0 args = true) (hd : D.ok 0 0 d = true)
    {s : St} {o t : Nat} (ho : s.objs[o]? = some (bobj o t l)) (ht : s.toks[t]? = some (some (slen l))) : Fun P f (.ptr o 0 :: args) s d ⟨s.objs.set o (bobj o t l'), s.toks.set t (some (slen l'))⟩ := Fun.bld h ha hd ho ht
theorem line_z {l : Str} (n : Nat) (m : Str) (h : l.length + n + m.length + 1 ≤ 549755813888) {s : St} {o t : Nat} (ho : s.objs[o]? = some (bobj o t l)) (ht : s.toks[t]? = some (some (slen l))) :
    Fun Tryd.prog n_print_writer_line [.ptr o 0, .int .i64 n, .str m] s (.tuple []) ⟨s.objs.set o (bobj o t (l ++ lineS n m)), s.toks.set t (some (slen (l ++ lineS n m)))⟩ := (line_0 m n l h).bld rfl rfl ho ht

theorem prows_n : ∀ (m : Nat) (l : List Sm), Sm.sizes l ≤ m → Sm.sizes l ≤ 1000000 → ∀ (inn : Nat), Sm.PrRs inn l → ∀ acc : Str, acc.length + 200 * Sm.sizes l ≤ 540000000000 →
    Fun Tryd.prog n_print_writer_rows [.ptr 0 0, .slice .shared 13 (l.map encSm), .int .i64 inn] ⟨[bobj 0 0 acc], [some (slen acc)]⟩ (.tuple []) ⟨[bobj 0 0 (acc ++ rowsS inn l)], [some (slen (acc ++ rowsS inn l))]⟩ := by
  intro m
  induction m with
  | zero =>
    intro l h hs inn hp acc hb
    cases l with
    | nil =>
      have z : decide ((0 : Int) < 0) = false := rfl
      simp only [rowsS, List.append_nil]
      refine Fun.go has_print_writer_rows rfl fun B Q hB hQ => ?_
      have hlt : 0 < 1 := Nat.zero_lt_one
      have hget : 0 < 1 := Nat.zero_lt_one
      have hpu : 0 < 1 := Nat.zero_lt_one
      have hinc : 0 < 1 := Nat.zero_lt_one
      repeat' (first
 | simp only [go_sem, hlt, hget, hpu, hinc, Int.reduceLE, ↓reduceIte, reduceCtorEq, Nat.reduceEqDiff, Nat.reduceLeDiff, Nat.reduceAdd, Nat.reduceMul, Nat.reduceSub, Nat.reduceLT, z]
 | (with_reducible refine SemL.onceW ?_)
 | (with_reducible first | refine CB_ofT (by assumption) fun hc => ?_ | refine CB_ofF (by assumption) fun hc => ?_ | refine CB_split (fun hc => ?_) fun hc => ?_) <;> (try simp only [hc, bs, ↓reduceIte] at h) <;> (try simp only [hc])
 | ((with_reducible first | refine leafR hQ ?_ | refine leafN hQ ?_); (try cases h); simp only [resL, oneD, Option.some.injEq, exists_eq_left', go_sem, hlt, hget, hpu, hinc, Int.reduceLE, ↓reduceIte, reduceCtorEq, Nat.reduceEqDiff, Nat.reduceLeDiff, Nat.reduceAdd, Nat.reduceMul, Nat.reduceSub, Nat.reduceLT, z]; repeat' (first | exact Ok.out | with_reducible refine And.intro ?_ ?_ | (simp; done)))
 | (cases h; replace h := hr; clear hr; (try simp only [bs, ↓reduceIte] at h))
 | (cases h; done))
    | cons s l => simp only [Sm.sizes] at h; omega
  | succ m ih =>
    intro l h hs inn hp acc0 hb
    generalize hR : acc0 ++ rowsS inn l = R
    have hlen := Sm.sizes_len l
    refine Fun.go has_print_writer_rows rfl fun B Q hB hQ => ?_
    have hlt : 0 < 1 := Nat.zero_lt_one
    have hget : 0 < 1 := Nat.zero_lt_one
    have hpu : 0 < 1 := Nat.zero_lt_one
    have hinc : 0 < 1 := Nat.zero_lt_one
    repeat' (first
 | simp only [go_sem, hlt, hget, hpu, hinc, Int.reduceLE, ↓reduceIte, reduceCtorEq, Nat.reduceEqDiff, Nat.reduceLeDiff, Nat.reduceAdd, Nat.reduceMul, Nat.reduceSub, Nat.reduceLT]
 | (with_reducible first | refine CB_ofT (by assumption) fun hc => ?_ | refine CB_ofF (by assumption) fun hc => ?_ | refine CB_split (fun hc => ?_) fun hc => ?_) <;> (try simp only [hc, bs, ↓reduceIte] at h) <;> (try simp only [hc])
 | ((with_reducible first | refine leafR hQ ?_ | refine leafN hQ ?_); (try cases h); simp only [resL, oneD, Option.some.injEq, exists_eq_left', go_sem, hlt, hget, hpu, hinc, Int.reduceLE, ↓reduceIte, reduceCtorEq, Nat.reduceEqDiff, Nat.reduceLeDiff, Nat.reduceAdd, Nat.reduceMul, Nat.reduceSub, Nat.reduceLT]; repeat' (first | exact Ok.out | with_reducible refine And.intro ?_ ?_ | (simp; done)))
 | (cases h; replace h := hr; clear hr; (try simp only [bs, ↓reduceIte] at h))
 | (cases h; done))
    refine SemL.re _ _ 1 1 (by rw [hB]; exact Nat.le_of_ble_eq_true rfl) (by rw [hB]; exact Nat.le_of_ble_eq_true rfl) ?_ ?_ (SemL.ind (ι := List Sm × Nat × Str) (fun i => l.drop i.2.1 = i.1 ∧ i.2.2 ++ rowsS inn i.1 = R ∧ i.2.2.length + 200 * Sm.sizes i.1 ≤ 540000000000) (fun i => i.1.length)
      (fun i => [(0, .ptr 0 0), (2, .int .i64 (inn : Int)), (9, .slice .shared 13 (l.map encSm)), (10, .int .i64 (l.length : Int)), (11, .int .i64 (i.2.1 : Int))]) (fun i => ⟨[bobj 0 0 i.2.2], [some (slen i.2.2)]⟩) ?_ (l, 0, acc0) ⟨rfl, hR, hb⟩)
    · (simp only [go_sem, hlt, hget, hpu, hinc, Int.reduceLE, ↓reduceIte, reduceCtorEq, Nat.reduceEqDiff, Nat.reduceLeDiff, Nat.reduceAdd, Nat.reduceMul, Nat.reduceSub, Nat.reduceLT]; repeat' (first | exact Ok.out | with_reducible refine And.intro ?_ ?_))
    · (simp only [go_sem, hlt, hget, hpu, hinc, Int.reduceLE, ↓reduceIte, reduceCtorEq, Nat.reduceEqDiff, Nat.reduceLeDiff, Nat.reduceAdd, Nat.reduceMul, Nat.reduceSub, Nat.reduceLT]; repeat' (first | exact Ok.out | with_reducible refine And.intro ?_ ?_))
    rintro ⟨rest, k, acc⟩ ⟨h1, h2, h3⟩ IH
    dsimp only at h1 h2 h3
    cases rest with
    | nil =>
      have hlt := drop_nil h1
      simp only [rowsS, List.append_nil] at h2
      repeat' (first
 | simp only [go_sem, hlt, hget, hpu, hinc, Int.reduceLE, ↓reduceIte, reduceCtorEq, Nat.reduceEqDiff, Nat.reduceLeDiff, Nat.reduceAdd, Nat.reduceMul, Nat.reduceSub, Nat.reduceLT, h2]
 | (with_reducible first | refine CB_ofT (by assumption) fun hc => ?_ | refine CB_ofF (by assumption) fun hc => ?_ | refine CB_split (fun hc => ?_) fun hc => ?_) <;> (try simp only [hc, bs, ↓reduceIte] at h) <;> (try simp only [hc])
 | ((with_reducible first | refine leafR hQ ?_ | refine leafN hQ ?_); (try cases h); simp only [resL, oneD, Option.some.injEq, exists_eq_left', go_sem, hlt, hget, hpu, hinc, Int.reduceLE, ↓reduceIte, reduceCtorEq, Nat.reduceEqDiff, Nat.reduceLeDiff, Nat.reduceAdd, Nat.reduceMul, Nat.reduceSub, Nat.reduceLT, h2]; repeat' (first | exact Ok.out | with_reducible refine And.intro ?_ ?_ | (simp; done)))
 | (cases h; replace h := hr; clear hr; (try simp only [bs, ↓reduceIte] at h))
 | (cases h; done))
    | cons s rest =>
      obtain ⟨hget, g2, hlt, g4⟩ := drop_cons h1
      have hmem := List.mem_of_getElem? hget
      have hsz := Sm.sizes_mem hmem
      have hPR := PrRs_mem hp hmem
      obtain ⟨ho, hin, hpt, hpe⟩ := (PrR_eq _ _).1 hPR
      have hk : k < 4611686018427387904 := by omega
      have hsz2 : s.labels.length + s.x.size + Ar.sizes s.args + Sm.sizes s.thn + Sm.sizes s.els + 1 ≤ s.size := by cases s; simp only [Sm.size]; omega
      have w1 : IntKind.wrap .i64 ((k : Int) + 1) = ((k + 1 : Nat) : Int) := by rw [wrap_ok] <;> omega
      have w2 : IntKind.wrap .i64 ((inn : Int) + 1) = ((inn + 1 : Nat) : Int) := by rw [wrap_ok] <;> omega
      simp only [Sm.sizes] at h3
      have lm := marksS_len ho.lab
      have lp := plainS_len ho
      have lt := rowsS_len s.thn hpt
      have le := rowsS_len s.els hpe
      have ln := nodes_size s.x.size s.x (Nat.le_refl _)
      have em := fun st => pmarks_s (by omega) ho.lab st
      have hrow := rowS_eq inn s
      have lr := rowS_len s hPR
      simp only [rowsS] at h2
      cases c6 : s.kind == 6 with
      | true =>
        have hx : FormI s.x := ho.x (by simp [Sm.hasX, c6])
        have lx := prE_len hx 0
        have ee := fun st => pexpr_s hx (by omega) (least := 0) st
        have b1 : (marksS s.labels).length + 1 + 1 + 1 + 1 + 1 + 1 + 1 ≤ maxStr := by unfold maxStr; omega
        have b2 : (marksS s.labels).length + 1 + 1 + 1 + 1 + 1 + 1 + 1 + (prE 0 s.x).length ≤ maxStr := by unfold maxStr; omega
        have b3 : (marksS s.labels).length + 1 + 1 + 1 + 1 + 1 + 1 + 1 + (prE 0 s.x).length + 1 + 1 + 1 ≤ maxStr := by unfold maxStr; omega
        have e1 := fun st a b => line_z (l := acc) inn (marksS s.labels ++ [119, 104, 105, 108, 101, 32, 40] ++ prE 0 s.x ++ [41, 32, 123]) (by simp only [List.length_append, List.length_cons, List.length_nil]; omega) (s := st) (o := 0) (t := 0) a b
        have e2 := fun st a b => (ih s.thn (by omega) (by omega) (inn + 1) hpt (acc ++ lineS inn (marksS s.labels ++ [119, 104, 105, 108, 101, 32, 40] ++ prE 0 s.x ++ [41, 32, 123])) (by simp only [List.length_append, List.length_cons, List.length_nil, lineS_len]; omega)).bldz (by simp [D.oks, D.ok, okrSm, Tag.ok]) rfl (s := st) (o := 0) (t := 0) a b
        have e3 := fun st a b => line_z (l := acc ++ lineS inn (marksS s.labels ++ [119, 104, 105, 108, 101, 32, 40] ++ prE 0 s.x ++ [41, 32, 123]) ++ rowsS (inn + 1) s.thn) inn [125] (by simp only [List.length_append, List.length_cons, List.length_nil, lineS_len]; omega) (s := st) (o := 0) (t := 0) a b
        rw [if_pos (by simpa using c6)] at hrow
        repeat' (first
 | simp only [go_sem, hlt, hget, hpu, hinc, Int.reduceLE, ↓reduceIte, reduceCtorEq, Nat.reduceEqDiff, Nat.reduceLeDiff, Nat.reduceAdd, Nat.reduceMul, Nat.reduceSub, Nat.reduceLT, c6, b1, b2, b3, w1, w2]
 | (with_reducible refine CU (em _) ?_)
 | (with_reducible refine CU (ee _) ?_)
 | (with_reducible refine CU (e1 _ (by with_unfolding_all rfl) (by with_unfolding_all rfl)) ?_)
 | (with_reducible refine CU (e2 _ (by with_unfolding_all rfl) (by with_unfolding_all rfl)) ?_)
 | (with_reducible refine CU (e3 _ (by with_unfolding_all rfl) (by with_unfolding_all rfl)) ?_)
 | (with_reducible first | refine CB_ofT (by assumption) fun hc => ?_ | refine CB_ofF (by assumption) fun hc => ?_ | refine CB_split (fun hc => ?_) fun hc => ?_) <;> (try simp only [hc, bs, ↓reduceIte] at h) <;> (try simp only [hc])
 | ((with_reducible first | refine leafR hQ ?_ | refine leafN hQ ?_); (try cases h); simp only [resL, oneD, Option.some.injEq, exists_eq_left', go_sem, hlt, hget, hpu, hinc, Int.reduceLE, ↓reduceIte, reduceCtorEq, Nat.reduceEqDiff, Nat.reduceLeDiff, Nat.reduceAdd, Nat.reduceMul, Nat.reduceSub, Nat.reduceLT, c6, b1, b2, b3, w1, w2]; repeat' (first | exact Ok.out | with_reducible refine And.intro ?_ ?_ | (simp; done)))
 | (cases h; replace h := hr; clear hr; (try simp only [bs, ↓reduceIte] at h))
 | (cases h; done))
        refine SemL.re _ _ 1 1 (by rw [hB]; exact Nat.le_of_ble_eq_true rfl) (by rw [hB]; exact Nat.le_of_ble_eq_true rfl) ?_ ?_ (IH (rest, k + 1, acc ++ lineS inn (marksS s.labels ++ [119, 104, 105, 108, 101, 32, 40] ++ prE 0 s.x ++ [41, 32, 123]) ++ rowsS (inn + 1) s.thn ++ lineS inn [125]) ⟨g2, by rw [← h2, hrow]; simp only [List.append_assoc], by rw [hrow] at lr; simp only [List.length_append] at lr ⊢; omega⟩ (by simp))
        · (simp only [go_sem, hlt, hget, hpu, hinc, Int.reduceLE, ↓reduceIte, reduceCtorEq, Nat.reduceEqDiff, Nat.reduceLeDiff, Nat.reduceAdd, Nat.reduceMul, Nat.reduceSub, Nat.reduceLT]; repeat' (first | exact Ok.out | with_reducible refine And.intro ?_ ?_))
        · (simp only [go_sem, hlt, hget, hpu, hinc, Int.reduceLE, ↓reduceIte, reduceCtorEq, Nat.reduceEqDiff, Nat.reduceLeDiff, Nat.reduceAdd, Nat.reduceMul, Nat.reduceSub, Nat.reduceLT]; repeat' (first | exact Ok.out | with_reducible refine And.intro ?_ ?_))
      | false =>
      cases c5 : s.kind == 5 with
      | true =>
        have hx : FormI s.x := ho.x (by simp [Sm.hasX, c5])
        have lx := prE_len hx 0
        have ee := fun st => pexpr_s hx (by omega) (least := 0) st
        have b1 : (marksS s.labels).length + 1 + 1 + 1 + 1 ≤ maxStr := by unfold maxStr; omega
        have b2 : (marksS s.labels).length + 1 + 1 + 1 + 1 + (prE 0 s.x).length ≤ maxStr := by unfold maxStr; omega
        have b3 : (marksS s.labels).length + 1 + 1 + 1 + 1 + (prE 0 s.x).length + 1 + 1 + 1 ≤ maxStr := by unfold maxStr; omega
        have e1 := fun st a b => line_z (l := acc) inn (marksS s.labels ++ [105, 102, 32, 40] ++ prE 0 s.x ++ [41, 32, 123]) (by simp only [List.length_append, List.length_cons, List.length_nil]; omega) (s := st) (o := 0) (t := 0) a b
        have e2 := fun st a b => (ih s.thn (by omega) (by omega) (inn + 1) hpt (acc ++ lineS inn (marksS s.labels ++ [105, 102, 32, 40] ++ prE 0 s.x ++ [41, 32, 123])) (by simp only [List.length_append, List.length_cons, List.length_nil, lineS_len]; omega)).bldz (by simp [D.oks, D.ok, okrSm, Tag.ok]) rfl (s := st) (o := 0) (t := 0) a b
        rw [if_neg (by simpa using c6), if_pos (by simpa using c5)] at hrow
        cases ce : decide ((s.els.length : Int) > 0) with
        | true =>
          have ce' : s.els.length ≠ 0 := by have := of_decide_eq_true ce; omega
          rw [if_neg ce'] at hrow
          have e3 := fun st a b => line_z (l := acc ++ lineS inn (marksS s.labels ++ [105, 102, 32, 40] ++ prE 0 s.x ++ [41, 32, 123]) ++ rowsS (inn + 1) s.thn) inn [125, 32, 101, 108, 115, 101, 32, 123] (by simp only [List.length_append, List.length_cons, List.length_nil, lineS_len]; omega) (s := st) (o := 0) (t := 0) a b
          have e4 := fun st a b => (ih s.els (by omega) (by omega) (inn + 1) hpe (acc ++ lineS inn (marksS s.labels ++ [105, 102, 32, 40] ++ prE 0 s.x ++ [41, 32, 123]) ++ rowsS (inn + 1) s.thn ++ lineS inn [125, 32, 101, 108, 115, 101, 32, 123]) (by simp only [List.length_append, List.length_cons, List.length_nil, lineS_len]; omega)).bldz (by simp [D.oks, D.ok, okrSm, Tag.ok]) rfl (s := st) (o := 0) (t := 0) a b
          have e5 := fun st a b => line_z (l := acc ++ lineS inn (marksS s.labels ++ [105, 102, 32, 40] ++ prE 0 s.x ++ [41, 32, 123]) ++ rowsS (inn + 1) s.thn ++ lineS inn [125, 32, 101, 108, 115, 101, 32, 123] ++ rowsS (inn + 1) s.els) inn [125] (by simp only [List.length_append, List.length_cons, List.length_nil, lineS_len]; omega) (s := st) (o := 0) (t := 0) a b
          repeat' (first
 | simp only [go_sem, hlt, hget, hpu, hinc, Int.reduceLE, ↓reduceIte, reduceCtorEq, Nat.reduceEqDiff, Nat.reduceLeDiff, Nat.reduceAdd, Nat.reduceMul, Nat.reduceSub, Nat.reduceLT, c6, c5, ce, b1, b2, b3, w1, w2]
 | (with_reducible refine CU (em _) ?_)
 | (with_reducible refine CU (ee _) ?_)
 | (with_reducible refine CU (e1 _ (by with_unfolding_all rfl) (by with_unfolding_all rfl)) ?_)
 | (with_reducible refine CU (e2 _ (by with_unfolding_all rfl) (by with_unfolding_all rfl)) ?_)
 | (with_reducible refine CU (e3 _ (by with_unfolding_all rfl) (by with_unfolding_all rfl)) ?_)
 | (with_reducible refine CU (e4 _ (by with_unfolding_all rfl) (by with_unfolding_all rfl)) ?_)
 | (with_reducible refine CU (e5 _ (by with_unfolding_all rfl) (by with_unfolding_all rfl)) ?_)
 | (with_reducible first | refine CB_ofT (by assumption) fun hc => ?_ | refine CB_ofF (by assumption) fun hc => ?_ | refine CB_split (fun hc => ?_) fun hc => ?_) <;> (try simp only [hc, bs, ↓reduceIte] at h) <;> (try simp only [hc])
 | ((with_reducible first | refine leafR hQ ?_ | refine leafN hQ ?_); (try cases h); simp only [resL, oneD, Option.some.injEq, exists_eq_left', go_sem, hlt, hget, hpu, hinc, Int.reduceLE, ↓reduceIte, reduceCtorEq, Nat.reduceEqDiff, Nat.reduceLeDiff, Nat.reduceAdd, Nat.reduceMul, Nat.reduceSub, Nat.reduceLT, c6, c5, ce, b1, b2, b3, w1, w2]; repeat' (first | exact Ok.out | with_reducible refine And.intro ?_ ?_ | (simp; done)))
 | (cases h; replace h := hr; clear hr; (try simp only [bs, ↓reduceIte] at h))
 | (cases h; done))
          refine SemL.re _ _ 1 1 (by rw [hB]; exact Nat.le_of_ble_eq_true rfl) (by rw [hB]; exact Nat.le_of_ble_eq_true rfl) ?_ ?_ (IH (rest, k + 1, acc ++ lineS inn (marksS s.labels ++ [105, 102, 32, 40] ++ prE 0 s.x ++ [41, 32, 123]) ++ rowsS (inn + 1) s.thn ++ lineS inn [125, 32, 101, 108, 115, 101, 32, 123] ++ rowsS (inn + 1) s.els ++ lineS inn [125]) ⟨g2, by rw [← h2, hrow]; simp only [List.append_assoc], by rw [hrow] at lr; simp only [List.length_append] at lr ⊢; omega⟩ (by simp))
          · (simp only [go_sem, hlt, hget, hpu, hinc, Int.reduceLE, ↓reduceIte, reduceCtorEq, Nat.reduceEqDiff, Nat.reduceLeDiff, Nat.reduceAdd, Nat.reduceMul, Nat.reduceSub, Nat.reduceLT]; repeat' (first | exact Ok.out | with_reducible refine And.intro ?_ ?_))
          · (simp only [go_sem, hlt, hget, hpu, hinc, Int.reduceLE, ↓reduceIte, reduceCtorEq, Nat.reduceEqDiff, Nat.reduceLeDiff, Nat.reduceAdd, Nat.reduceMul, Nat.reduceSub, Nat.reduceLT]; repeat' (first | exact Ok.out | with_reducible refine And.intro ?_ ?_))
        | false =>
          have ce' : s.els.length = 0 := by have := of_decide_eq_false ce; omega
          rw [if_pos ce'] at hrow
          have e3 := fun st a b => line_z (l := acc ++ lineS inn (marksS s.labels ++ [105, 102, 32, 40] ++ prE 0 s.x ++ [41, 32, 123]) ++ rowsS (inn + 1) s.thn) inn [125] (by simp only [List.length_append, List.length_cons, List.length_nil, lineS_len]; omega) (s := st) (o := 0) (t := 0) a b
          repeat' (first
 | simp only [go_sem, hlt, hget, hpu, hinc, Int.reduceLE, ↓reduceIte, reduceCtorEq, Nat.reduceEqDiff, Nat.reduceLeDiff, Nat.reduceAdd, Nat.reduceMul, Nat.reduceSub, Nat.reduceLT, c6, c5, ce, b1, b2, b3, w1, w2]
 | (with_reducible refine CU (em _) ?_)
 | (with_reducible refine CU (ee _) ?_)
 | (with_reducible refine CU (e1 _ (by with_unfolding_all rfl) (by with_unfolding_all rfl)) ?_)
 | (with_reducible refine CU (e2 _ (by with_unfolding_all rfl) (by with_unfolding_all rfl)) ?_)
 | (with_reducible refine CU (e3 _ (by with_unfolding_all rfl) (by with_unfolding_all rfl)) ?_)
 | (with_reducible first | refine CB_ofT (by assumption) fun hc => ?_ | refine CB_ofF (by assumption) fun hc => ?_ | refine CB_split (fun hc => ?_) fun hc => ?_) <;> (try simp only [hc, bs, ↓reduceIte] at h) <;> (try simp only [hc])
 | ((with_reducible first | refine leafR hQ ?_ | refine leafN hQ ?_); (try cases h); simp only [resL, oneD, Option.some.injEq, exists_eq_left', go_sem, hlt, hget, hpu, hinc, Int.reduceLE, ↓reduceIte, reduceCtorEq, Nat.reduceEqDiff, Nat.reduceLeDiff, Nat.reduceAdd, Nat.reduceMul, Nat.reduceSub, Nat.reduceLT, c6, c5, ce, b1, b2, b3, w1, w2]; repeat' (first | exact Ok.out | with_reducible refine And.intro ?_ ?_ | (simp; done)))
 | (cases h; replace h := hr; clear hr; (try simp only [bs, ↓reduceIte] at h))
 | (cases h; done))
          refine SemL.re _ _ 1 1 (by rw [hB]; exact Nat.le_of_ble_eq_true rfl) (by rw [hB]; exact Nat.le_of_ble_eq_true rfl) ?_ ?_ (IH (rest, k + 1, acc ++ lineS inn (marksS s.labels ++ [105, 102, 32, 40] ++ prE 0 s.x ++ [41, 32, 123]) ++ rowsS (inn + 1) s.thn ++ lineS inn [125]) ⟨g2, by rw [← h2, hrow]; simp only [List.append_assoc, List.nil_append], by rw [hrow] at lr; simp only [List.length_append] at lr ⊢; omega⟩ (by simp))
          · (simp only [go_sem, hlt, hget, hpu, hinc, Int.reduceLE, ↓reduceIte, reduceCtorEq, Nat.reduceEqDiff, Nat.reduceLeDiff, Nat.reduceAdd, Nat.reduceMul, Nat.reduceSub, Nat.reduceLT]; repeat' (first | exact Ok.out | with_reducible refine And.intro ?_ ?_))
          · (simp only [go_sem, hlt, hget, hpu, hinc, Int.reduceLE, ↓reduceIte, reduceCtorEq, Nat.reduceEqDiff, Nat.reduceLeDiff, Nat.reduceAdd, Nat.reduceMul, Nat.reduceSub, Nat.reduceLT]; repeat' (first | exact Ok.out | with_reducible refine And.intro ?_ ?_))
      | false =>
        have ep := fun st => pplain_s ho (by omega) st
        have b1 : (marksS s.labels).length + (plainS s.kind s.name s.proc s.x s.has s.args).length ≤ maxStr := by unfold maxStr; omega
        have b2 : (marksS s.labels).length + (plainS s.kind s.name s.proc s.x s.has s.args).length + 1 ≤ maxStr := by unfold maxStr; omega
        have e1 := fun st a b => line_z (l := acc) inn (marksS s.labels ++ plainS s.kind s.name s.proc s.x s.has s.args ++ [59]) (by simp only [List.length_append, List.length_cons, List.length_nil]; omega) (s := st) (o := 0) (t := 0) a b
        rw [if_neg (by simpa using c6), if_neg (by simpa using c5)] at hrow
        repeat' (first
 | simp only [go_sem, hlt, hget, hpu, hinc, Int.reduceLE, ↓reduceIte, reduceCtorEq, Nat.reduceEqDiff, Nat.reduceLeDiff, Nat.reduceAdd, Nat.reduceMul, Nat.reduceSub, Nat.reduceLT, c6, c5, b1, b2, w1, w2]
 | (with_reducible refine CU (em _) ?_)
 | (with_reducible refine CU (ep _) ?_)
 | (with_reducible refine CU (e1 _ (by with_unfolding_all rfl) (by with_unfolding_all rfl)) ?_)
 | (with_reducible first | refine CB_ofT (by assumption) fun hc => ?_ | refine CB_ofF (by assumption) fun hc => ?_ | refine CB_split (fun hc => ?_) fun hc => ?_) <;> (try simp only [hc, bs, ↓reduceIte] at h) <;> (try simp only [hc])
 | ((with_reducible first | refine leafR hQ ?_ | refine leafN hQ ?_); (try cases h); simp only [resL, oneD, Option.some.injEq, exists_eq_left', go_sem, hlt, hget, hpu, hinc, Int.reduceLE, ↓reduceIte, reduceCtorEq, Nat.reduceEqDiff, Nat.reduceLeDiff, Nat.reduceAdd, Nat.reduceMul, Nat.reduceSub, Nat.reduceLT, c6, c5, b1, b2, w1, w2]; repeat' (first | exact Ok.out | with_reducible refine And.intro ?_ ?_ | (simp; done)))
 | (cases h; replace h := hr; clear hr; (try simp only [bs, ↓reduceIte] at h))
 | (cases h; done))
        refine SemL.re _ _ 1 1 (by rw [hB]; exact Nat.le_of_ble_eq_true rfl) (by rw [hB]; exact Nat.le_of_ble_eq_true rfl) ?_ ?_ (IH (rest, k + 1, acc ++ lineS inn (marksS s.labels ++ plainS s.kind s.name s.proc s.x s.has s.args ++ [59])) ⟨g2, by rw [← h2, hrow]; simp only [List.append_assoc], by rw [hrow] at lr; simp only [List.length_append] at lr ⊢; omega⟩ (by simp))
        · (simp only [go_sem, hlt, hget, hpu, hinc, Int.reduceLE, ↓reduceIte, reduceCtorEq, Nat.reduceEqDiff, Nat.reduceLeDiff, Nat.reduceAdd, Nat.reduceMul, Nat.reduceSub, Nat.reduceLT]; repeat' (first | exact Ok.out | with_reducible refine And.intro ?_ ?_))
        · (simp only [go_sem, hlt, hget, hpu, hinc, Int.reduceLE, ↓reduceIte, reduceCtorEq, Nat.reduceEqDiff, Nat.reduceLeDiff, Nat.reduceAdd, Nat.reduceMul, Nat.reduceSub, Nat.reduceLT]; repeat' (first | exact Ok.out | with_reducible refine And.intro ?_ ?_))

end Go.Abs

/-! Own -/

namespace Go.Abs

theorem Rel.ownO {M : Map} {s : St} {w : World} (r : Rel M s w) (o i z' : Nat) (y : Bool) {cs : List D} (hc : s.objs[o]? = some cs) (hi : cs[i]? = some (.val (.slice none 0 0))) :
    Rel (M.setT s.toks.length none) ⟨s.objs.set o (cs.set i (.slice (.tok s.toks.length y) z' [])), s.toks ++ [some 0]⟩ w ∧ Le M s (M.setT s.toks.length none) ⟨s.objs.set o (cs.set i (.slice (.tok s.toks.length y) z' [])), s.toks ++ [some 0]⟩ ∧
    Ext M s w (M.setT s.toks.length none) ⟨s.objs.set o (cs.set i (.slice (.tok s.toks.length y) z' [])), s.toks ++ [some 0]⟩ w := by
  obtain ⟨r', le⟩ := r.blank
  have le' : Le M s (M.setT s.toks.length none) ⟨s.objs.set o (cs.set i (.slice (.tok s.toks.length y) z' [])), s.toks ++ [some 0]⟩ := ⟨le.G, by simp, le.loc, le.t, le.tk⟩
  have le2 : Le (M.setT s.toks.length none) { s with toks := s.toks ++ [some 0] } (M.setT s.toks.length none) ⟨s.objs.set o (cs.set i (.slice (.tok s.toks.length y) z' [])), s.toks ++ [some 0]⟩ :=
    ⟨fun _ _ _ h => h, by simp, fun _ _ => rfl, Nat.le_refl _, fun t n' _ e => ⟨n', e, Nat.le_refl _, fun _ => rfl⟩⟩
  refine ⟨⟨r'.comm, fun o' ds e => ?_, fun o ho => r'.objG o (by simpa using ho), fun o o' ho ho' => r'.inj o o' (by simpa using ho) (by simpa using ho'), r'.tok,
      fun t b c z o hv e ho => r'.tokObj t b c z o hv e (by simpa using ho), r'.tokInj⟩, le', ?_⟩
  · simp only [List.getElem?_set] at e
    split at e
    · rename_i ho
      subst ho
      split at e
      · cases e
        obtain ⟨vs, T, g1, g2, g3, g4⟩ := r.obj o cs hc
        refine ⟨vs, T, g1, by simpa using g2, g3, fun j d v e1 e2 => ?_⟩
        rw [List.getElem?_set] at e1
        split at e1
        · rename_i hj
          subst hj
          split at e1
          · cases e1
            exact ((g4 i _ v hi e2).ownB (z' := z') (y := y)).mono le2
          · cases e1
        · exact (g4 j d v e1 e2).mono le'
      · cases e
    · obtain ⟨vs, T, g1, g2, g3, g4⟩ := r'.obj o' ds e
      exact ⟨vs, T, g1, g2, g3, fun i d v e1 e2 => (g4 i d v e1 e2).mono le2⟩
  · refine (ext_blank (Ext.refl M s w) le).trans ⟨le2, fun _ _ _ _ => rfl, fun o h1 h2 => ?_, fun t b c z hl e => .inl ⟨hl, c, z, e⟩, fun _ _ h => (h rfl).elim, Nat.le_refl _, rfl, rfl, rfl⟩
    simp at h2
    exact absurd h2 (Nat.not_lt.2 h1)

theorem SemL.tokB {P : Program} {B : Base} {nt : Nat} {a : AC} {Q : Exit → Tm → St → Prop} {tm : Tm} {s : St} (o i z' : Nat) (y : Bool) {cs : List D} (hc : s.objs[o]? = some cs) (hi : cs[i]? = some (.val (.slice none 0 0)))
    (h : SemL P B nt a Q tm ⟨s.objs.set o (cs.set i (.slice (.tok s.toks.length y) z' [])), s.toks ++ [some 0]⟩) : SemL P B nt a Q tm s := by
  intro c hcc act w hh
  obtain ⟨M, e, r, ht, h1, h2⟩ := hh
  obtain ⟨r2, le', ee⟩ := r.ownO o i z' y hc hi
  exact h c hcc act w ⟨_, e.trans ee, r2, fun k => (ht k).mono le', h1, h2⟩

theorem ACalls.tokB {P : Program} {f : FuncId} {args : List D} {s : St} {Q : D → St → Prop} (o i z' : Nat) (y : Bool) {cs : List D} (hc : s.objs[o]? = some cs) (hi : cs[i]? = some (.val (.slice none 0 0)))
    (h : ACalls P f args ⟨s.objs.set o (cs.set i (.slice (.tok s.toks.length y) z' [])), s.toks ++ [some 0]⟩ Q) : ACalls P f args s Q := by
  intro M w vargs r hd hl ha
  obtain ⟨r2, le', ee⟩ := r.ownO o i z' y hc hi
  refine (h _ w vargs r2 (hd.ext ee) hl fun i d v e1 e2 => (ha i d v e1 e2).mono le').mono fun e w' ⟨M', d, v, s', h1, h2, h3, h4⟩ => ⟨M', d, v, s', h1, h2, ee.trans h3, h4⟩

end Go.Abs

/-! MayEq2 -/

namespace Go.Abs
set_option linter.unusedSimpArgs false
set_option linter.unusedVariables false

theorem itmays_app : ∀ (a b : List It) (n : Nat), It.mays n (a ++ b) = (It.mays n a && It.mays (n + a.length) b)
  | [], b, n => by simp [It.mays]
  | i :: a, b, n => by
    simp only [List.cons_append, It.mays, itmays_app a b (n + 1), List.length_cons]
    have : n + 1 + a.length = n + (a.length + 1) := by omega
    rw [this]
    split <;> simp

theorem itmays_one (n : Nat) (i : It) : It.mays n [i] = true ↔ i.s.id = ((n + 1 : Nat) : Int) ∧ i.deep ≤ 12 ∧ i.s.one = true := by
  simp only [It.mays]
  split
  · rename_i h
    simp only [Bool.or_eq_true, bne_iff_ne, ne_eq, decide_eq_true_eq, Bool.not_eq_true'] at h
    refine ⟨fun h => (Bool.false_ne_true h).elim, fun ⟨h1, h2, h3⟩ => ?_⟩
    rcases h with (h | h) | h
    · exact (h h1).elim
    · omega
    · rw [h] at h3; cases h3
  · rename_i h
    simp only [Bool.or_eq_true, bne_iff_ne, ne_eq, decide_eq_true_eq, Bool.not_eq_true', not_or, Decidable.not_not, Bool.not_eq_false] at h
    exact ⟨fun _ => ⟨h.1.1, by omega, h.2⟩, fun _ => rfl⟩

mutual
theorem flatS_pre (deep inn : Int) (els : Bool) : ∀ (s : Sm) (out : List It), ∃ new, flatS deep inn els out s = out ++ (⟨s, deep, inn, els⟩ :: new)
  | ⟨id, kind, labels, name, proc, x, has, args, thn, e⟩, out => by
    simp only [flatS]
    split
    · obtain ⟨n1, h1⟩ := flatL_pre (deep + 1) id false thn (out ++ [⟨⟨id, kind, labels, name, proc, x, has, args, thn, e⟩, deep, inn, els⟩])
      obtain ⟨n2, h2⟩ := flatL_pre (deep + 1) id true e (flatL (deep + 1) id false (out ++ [⟨⟨id, kind, labels, name, proc, x, has, args, thn, e⟩, deep, inn, els⟩]) thn)
      rw [h2, h1]
      exact ⟨n1 ++ n2, by simp⟩
    · exact ⟨[], rfl⟩
theorem flatL_pre (deep inn : Int) (els : Bool) : ∀ (l : List Sm) (out : List It), ∃ new, flatL deep inn els out l = out ++ new
  | [], out => ⟨[], by simp [flatL]⟩
  | s :: l, out => by
    simp only [flatL]
    split
    · obtain ⟨n1, h1⟩ := flatS_pre deep inn els s out
      obtain ⟨n2, h2⟩ := flatL_pre deep inn els l (flatS deep inn els out s)
      rw [h2, h1]
      exact ⟨⟨s, deep, inn, els⟩ :: n1 ++ n2, by simp⟩
    · exact ⟨[], by simp⟩
end

theorem mayR_true {nest : Int} {n : Nat} {s : Sm} (h : (Sm.mayR nest n s).1 = true) :
    n + 1 ≤ 200 ∧ s.id = ((n + 1 : Nat) : Int) ∧ s.one = true ∧ (Sm.mayG (nest + 1) (n + 1) s.thn).1 = true ∧ (Sm.mayG (nest + 1) (Sm.mayG (nest + 1) (n + 1) s.thn).2 s.els).1 = true ∧
    (Sm.mayR nest n s).2 = (Sm.mayG (nest + 1) (Sm.mayG (nest + 1) (n + 1) s.thn).2 s.els).2 := by
  rw [mayR_eq] at h ⊢
  split at h
  · cases h
  rename_i h1
  simp only [Bool.or_eq_true, bne_iff_ne, ne_eq, decide_eq_true_eq, Bool.not_eq_true', not_or, Decidable.not_not, Bool.not_eq_false] at h1
  split at h
  · cases h
  rename_i h2
  have h2' : (Sm.mayG (nest + 1) (n + 1) s.thn).1 = true := by simpa using h2
  refine ⟨by omega, h1.1.1.2, ?_, h2', h, ?_⟩
  · rw [one_fields, h1.1.2, h1.2]; rfl
  · rw [if_neg (by simp only [Bool.or_eq_true, bne_iff_ne, ne_eq, decide_eq_true_eq, Bool.not_eq_true', not_or, Decidable.not_not, Bool.not_eq_false]; exact h1), if_neg h2]

theorem mayG_true {nest : Int} {n : Nat} {l : List Sm} (h : (Sm.mayG nest n l).1 = true) : (l = [] ∨ nest ≤ 12) ∧ Sm.mayG nest n l = Sm.mayL nest n l := by
  unfold Sm.mayG gate at *
  split at h
  · cases h
  · rename_i hc
    rw [if_neg hc]
    refine ⟨?_, rfl⟩
    simp only [Bool.and_eq_true, decide_eq_true_eq, not_and] at hc
    cases l with
    | nil => exact .inl rfl
    | cons s l => right; simp only [List.length_cons] at hc; omega

mutual
/-- What the program lets pass the documents let pass, too. -/
theorem mayR_flat : ∀ (s : Sm) (nest inn : Int) (els : Bool) (n : Nat) (out : List It), nest ≤ 12 → out.length ≤ n → n ≤ 200 → (Sm.mayR nest n s).1 = true →
    ∃ new, flatS nest inn els out s = out ++ new ∧ It.mays n new = true ∧ n + new.length = (Sm.mayR nest n s).2 ∧ (Sm.mayR nest n s).2 ≤ 200
  | ⟨id, kind, labels, name, proc, x, has, args, thn, e⟩, nest, inn, els, n, out, h12, ho, hn, h => by
    obtain ⟨h1, h2, h3, h4, h5, h6⟩ := mayR_true h
    dsimp only at h2 h4 h5 h6
    rw [h6]
    obtain ⟨g1, e1⟩ := mayG_true h4
    rw [e1] at h4 h5 ⊢
    obtain ⟨g2, e2⟩ := mayG_true h5
    rw [e2] at h5 ⊢
    have hit : It.mays n [(⟨⟨id, kind, labels, name, proc, x, has, args, thn, e⟩, nest, inn, els⟩ : It)] = true := (itmays_one _ _).2 ⟨h2, h12, h3⟩
    obtain ⟨n1, k1, k2, k3, k4⟩ := mayL_flat thn (nest + 1) id false (n + 1) (out ++ [⟨⟨id, kind, labels, name, proc, x, has, args, thn, e⟩, nest, inn, els⟩]) g1 (by simp; omega) h1 h4
    obtain ⟨n2, j1, j2, j3, j4⟩ := mayL_flat e (nest + 1) id true _ (out ++ [⟨⟨id, kind, labels, name, proc, x, has, args, thn, e⟩, nest, inn, els⟩] ++ n1) g2 (by simp; omega) k4 h5
    simp only [flatS]
    rw [if_pos (by simpa using h12), k1, j1]
    refine ⟨⟨⟨id, kind, labels, name, proc, x, has, args, thn, e⟩, nest, inn, els⟩ :: (n1 ++ n2), by simp, ?_, ?_, j4⟩
    · have : (⟨⟨id, kind, labels, name, proc, x, has, args, thn, e⟩, nest, inn, els⟩ : It) :: (n1 ++ n2) = [⟨⟨id, kind, labels, name, proc, x, has, args, thn, e⟩, nest, inn, els⟩] ++ n1 ++ n2 := by simp
      rw [this, itmays_app, itmays_app, hit, Bool.true_and]
      have e3 : n + ([(⟨⟨id, kind, labels, name, proc, x, has, args, thn, e⟩, nest, inn, els⟩ : It)] ++ n1).length = (Sm.mayL (nest + 1) (n + 1) thn).2 := by simp; omega
      rw [e3, j2]
      have e4 : n + [(⟨⟨id, kind, labels, name, proc, x, has, args, thn, e⟩, nest, inn, els⟩ : It)].length = n + 1 := rfl
      rw [e4, k2]; rfl
    · simp only [List.length_cons, List.length_append]; omega
theorem mayL_flat : ∀ (l : List Sm) (nest inn : Int) (els : Bool) (n : Nat) (out : List It), (l = [] ∨ nest ≤ 12) → out.length ≤ n → n ≤ 200 → (Sm.mayL nest n l).1 = true →
    ∃ new, flatL nest inn els out l = out ++ new ∧ It.mays n new = true ∧ n + new.length = (Sm.mayL nest n l).2 ∧ (Sm.mayL nest n l).2 ≤ 200
  | [], nest, inn, els, n, out, h12, ho, hn, h => ⟨[], by simp [flatL], rfl, by simp [Sm.mayL], by simpa [Sm.mayL] using hn⟩
  | s :: l, nest, inn, els, n, out, h12, ho, hn, h => by
    have h12' : nest ≤ 12 := h12.resolve_left (by simp)
    simp only [Sm.mayL] at h ⊢
    split at h
    · cases h
    rename_i hc
    rw [if_neg hc]
    obtain ⟨n1, k1, k2, k3, k4⟩ := mayR_flat s nest inn els n out h12' ho hn (by simpa using hc)
    obtain ⟨n2, j1, j2, j3, j4⟩ := mayL_flat l nest inn els _ (out ++ n1) (.inr h12') (by simp; omega) k4 h
    simp only [flatL]
    rw [if_pos (by simp only [decide_eq_true_eq]; omega), k1, j1]
    refine ⟨n1 ++ n2, by simp, ?_, by simp; omega, j4⟩
    rw [itmays_app, k2, k3, j2]; rfl
end

mutual
/-- What the documents let pass the program lets pass, too. -/
theorem flat_mayR : ∀ (s : Sm) (nest inn : Int) (els : Bool) (n : Nat) (out new : List It), flatS nest inn els out s = out ++ new → It.mays n new = true → out.length ≤ n → n + new.length ≤ 200 →
    Sm.mayR nest n s = (true, n + new.length) ∧ nest ≤ 12
  | ⟨id, kind, labels, name, proc, x, has, args, thn, e⟩, nest, inn, els, n, out, new, hfl, hm, ho, hn => by
    obtain ⟨n0, h0⟩ := flatS_pre nest inn els ⟨id, kind, labels, name, proc, x, has, args, thn, e⟩ out
    have e0 : new = ⟨⟨id, kind, labels, name, proc, x, has, args, thn, e⟩, nest, inn, els⟩ :: n0 := List.append_cancel_left (hfl.symm.trans h0)
    subst e0
    have hcons : (⟨⟨id, kind, labels, name, proc, x, has, args, thn, e⟩, nest, inn, els⟩ : It) :: n0 = [⟨⟨id, kind, labels, name, proc, x, has, args, thn, e⟩, nest, inn, els⟩] ++ n0 := rfl
    rw [hcons, itmays_app, Bool.and_eq_true] at hm
    obtain ⟨hm1, hm2⟩ := hm
    obtain ⟨c1, c2, c3⟩ := (itmays_one _ _).1 hm1
    dsimp only at c1 c2 c3
    simp only [List.length_cons] at hn ⊢
    have hfl' : flatL (nest + 1) id true (flatL (nest + 1) id false (out ++ [⟨⟨id, kind, labels, name, proc, x, has, args, thn, e⟩, nest, inn, els⟩]) thn) e = out ++ ([⟨⟨id, kind, labels, name, proc, x, has, args, thn, e⟩, nest, inn, els⟩] ++ n0) := by
      simp only [flatS] at hfl
      rw [if_pos (by simpa using c2)] at hfl
      exact hfl
    obtain ⟨n1, g1⟩ := flatL_pre (nest + 1) id false thn (out ++ [⟨⟨id, kind, labels, name, proc, x, has, args, thn, e⟩, nest, inn, els⟩])
    obtain ⟨n2, g2⟩ := flatL_pre (nest + 1) id true e (flatL (nest + 1) id false (out ++ [⟨⟨id, kind, labels, name, proc, x, has, args, thn, e⟩, nest, inn, els⟩]) thn)
    have en : n0 = n1 ++ n2 := by
      rw [g2, g1] at hfl'
      simp only [List.append_assoc, List.append_cancel_left_eq] at hfl'
      exact hfl'.symm
    subst en
    have hm2' : It.mays (n + 1) (n1 ++ n2) = true := hm2
    rw [itmays_app, Bool.and_eq_true] at hm2'
    simp only [List.length_append] at hn ⊢
    obtain ⟨r1, r2⟩ := flat_mayL thn (nest + 1) id false (n + 1) _ n1 g1 hm2'.1 (by simp; omega) (by omega)
    obtain ⟨q1, q2⟩ := flat_mayL e (nest + 1) id true (n + 1 + n1.length) _ n2 g2 hm2'.2 (by rw [g1]; simp; omega) (by omega)
    refine ⟨?_, c2⟩
    have gg : ∀ {l : List Sm} {m : Nat} {r : Bool × Nat}, Sm.mayL (nest + 1) m l = r → (l = [] ∨ nest + 1 ≤ 12) → Sm.mayG (nest + 1) m l = r := by
      intro l m r h1 h2
      unfold Sm.mayG gate
      rw [if_neg]
      · exact h1
      · simp only [Bool.and_eq_true, decide_eq_true_eq, not_and]
        rcases h2 with h2 | h2
        · subst h2; simp
        · omega
    have t1 := gg r1 r2
    have t2 := gg q1 q2
    rw [mayR_eq]
    dsimp only
    rw [t1]
    dsimp only
    rw [t2]
    rw [one_fields, Bool.and_eq_true] at c3
    rw [if_neg]
    · simp; omega
    · simp only [Bool.or_eq_true, bne_iff_ne, ne_eq, decide_eq_true_eq, Bool.not_eq_true', not_or, Decidable.not_not, Bool.not_eq_false]
      exact ⟨⟨⟨by omega, c1⟩, c3.1⟩, c3.2⟩
theorem flat_mayL : ∀ (l : List Sm) (nest inn : Int) (els : Bool) (n : Nat) (out new : List It), flatL nest inn els out l = out ++ new → It.mays n new = true → out.length ≤ n → n + new.length ≤ 200 →
    Sm.mayL nest n l = (true, n + new.length) ∧ (l = [] ∨ nest ≤ 12)
  | [], nest, inn, els, n, out, new, hfl, hm, ho, hn => by
    simp only [flatL] at hfl
    have : new = [] := by simpa using hfl
    subst this
    exact ⟨by simp [Sm.mayL], .inl rfl⟩
  | s :: l, nest, inn, els, n, out, new, hfl, hm, ho, hn => by
    simp only [flatL] at hfl
    rw [if_pos (by simp only [decide_eq_true_eq]; omega)] at hfl
    obtain ⟨n1, g1⟩ := flatS_pre nest inn els s out
    obtain ⟨n2, g2⟩ := flatL_pre nest inn els l (flatS nest inn els out s)
    have en : new = (⟨s, nest, inn, els⟩ :: n1) ++ n2 := by
      rw [g2, g1, List.append_assoc, List.append_cancel_left_eq] at hfl
      exact hfl.symm
    subst en
    rw [itmays_app, Bool.and_eq_true] at hm
    rw [List.length_append] at hn ⊢
    obtain ⟨r1, r2⟩ := flat_mayR s nest inn els n out _ g1 hm.1 ho (by omega)
    obtain ⟨q1, q2⟩ := flat_mayL l nest inn els (n + (⟨s, nest, inn, els⟩ :: n1 : List It).length) _ n2 g2 hm.2 (by rw [g1, List.length_append]; omega) (by omega)
    refine ⟨?_, .inr r2⟩
    simp only [Sm.mayL, r1, Bool.not_true, Bool.false_eq_true, ↓reduceIte, q1]
    congr 1; omega
end

theorem procs_all : ∀ (l : List Pc) (out : List It), out.length ≤ 200 → (Pc.mayL out.length l = true ↔ Pc.heads l = true ∧ ∃ new, allM out l = out ++ new ∧ (out ++ new).length ≤ 200 ∧ It.mays out.length new = true)
  | [], out, ho => by simp [Pc.mayL, Pc.heads, allM, It.mays]; exact ho
  | f :: l, out, ho => by
    have hpre : ∀ (l : List Pc) (out : List It), ∃ new, allM out l = out ++ new := by
      intro l
      induction l with
      | nil => intro out; exact ⟨[], by simp [allM]⟩
      | cons f l ih =>
        intro out
        simp only [allM]
        split
        · exact ⟨_, rfl⟩
        · obtain ⟨n1, h1⟩ := ih (out ++ f.flat)
          exact ⟨f.flat ++ n1, by rw [h1, List.append_assoc]⟩
    simp only [Pc.mayL, Pc.heads]
    have hcond : (decide ((f.params.length : Int) > 8) || decide ((f.vars.length : Int) > 16) || !(isName f.name) || !(mayNames f.vars) || !(mayNames f.fin)) = (!(isName f.name) || decide ((f.params.length : Int) > 8) || decide ((f.vars.length : Int) > 16) || !(mayNames f.vars) || !(mayNames f.fin)) := by
      cases isName f.name <;> simp
    rw [hcond]
    split
    · simp
    split
    · simp
    have hg : Sm.mayG 1 out.length f.body = Sm.mayL 1 out.length f.body := by unfold Sm.mayG gate; rw [if_neg (by simp)]
    rw [hg]
    constructor
    · intro h
      split at h
      · cases h
      rename_i hc
      obtain ⟨n1, k1, k2, k3, k4⟩ := mayL_flat f.body 1 0 false out.length [] (.inr (by omega)) (by simp) ho (by simpa using hc)
      have hfl : f.flat = n1 := by unfold Pc.flat; rw [k1]; rfl
      rw [← k3, ← List.length_append] at h
      obtain ⟨hh, n2, j1, j2, j3⟩ := (procs_all l (out ++ n1) (by rw [List.length_append]; omega)).1 h
      refine ⟨hh, n1 ++ n2, ?_, by simpa using j2, ?_⟩
      · simp only [allM, hfl]
        rw [if_neg (by simp only [List.length_append, decide_eq_true_eq]; omega), j1, List.append_assoc]
      · rw [itmays_app, k2, ← List.length_append, j3]; rfl
    · rintro ⟨hh, new, j1, j2, j3⟩
      simp only [allM] at j1
      split at j1
      · rename_i hc
        have : new = f.flat := (List.append_cancel_left j1).symm
        subst this
        simp only [decide_eq_true_eq] at hc
        omega
      rename_i hc
      simp only [decide_eq_true_eq] at hc
      obtain ⟨n2, g2⟩ := hpre l (out ++ f.flat)
      have en : new = f.flat ++ n2 := by
        rw [g2, List.append_assoc] at j1
        exact (List.append_cancel_left j1).symm
      subst en
      rw [itmays_app, Bool.and_eq_true] at j3
      rw [List.length_append, List.length_append] at j2
      obtain ⟨r1, _⟩ := flat_mayL f.body 1 0 false out.length [] f.flat (by unfold Pc.flat; rfl) j3.1 (by simp) (by omega)
      rw [r1]
      simp only [Bool.not_true, Bool.false_eq_true, ↓reduceIte]
      rw [← List.length_append]
      exact (procs_all l (out ++ f.flat) (by rw [List.length_append]; omega)).2 ⟨hh, n2, g2, by simp; omega, by rw [List.length_append]; exact j3.2⟩

theorem mayP_eq (p : Pg) : p.mayP = p.may := by
  have h := procs_all p.procs [] (by simp)
  unfold Pg.mayP Pg.may
  split
  · rfl
  · have e : Pc.mayL 0 p.procs = (if !(Pc.heads p.procs) then false else if decide ((p.all.length : Int) > 200) then false else It.mays 0 p.all) := by
      rw [Bool.eq_iff_iff]
      have h' : Pc.mayL 0 p.procs = true ↔ _ := h
      rw [h']
      have ha : p.all = allM [] p.procs := rfl
      constructor
      · rintro ⟨h1, new, h2, h3, h4⟩
        rw [ha, h2, h1]
        simp only [List.nil_append] at h3 ⊢
        simp only [Bool.not_true, Bool.false_eq_true, ↓reduceIte]
        rw [if_neg (by simp only [decide_eq_true_eq]; omega)]
        exact h4
      · intro h1
        cases hh : Pc.heads p.procs
        · rw [hh] at h1; simp at h1
        · rw [hh] at h1
          simp only [Bool.not_true, Bool.false_eq_true, ↓reduceIte] at h1
          split at h1
          · cases h1
          · rename_i hc
            simp only [decide_eq_true_eq] at hc
            exact ⟨rfl, p.all, by rw [ha]; rfl, by simp; omega, h1⟩
    exact e

end Go.Abs

/-! Pr4 -/

namespace Go.Abs

set_option maxRecDepth 8000
set_option linter.unusedSimpArgs false
set_option linter.unusedVariables false
open Go.Proofs

def paramS (a : Pm) : Str := (if a.ref then [114, 101, 102, 32] else []) ++ a.name
def procS (f : Pc) : Str :=
  lineS 0 ([112, 114, 111, 99, 32] ++ f.name ++ [40] ++ Lib.join (f.params.map paramS) [44, 32] ++ [41, 32, 123]) ++ (if f.vars.length = 0 then [] else lineS 1 ([118, 97, 114, 32] ++ Lib.join f.vars [44, 32] ++ [59])) ++ rowsS 1 f.body ++ lineS 0 (marksS f.fin ++ [125])
def procsS : List Pc → Str
  | [] => []
  | f :: l => procS f ++ procsS l
def globsS (l : List Str) : Str := if l.length = 0 then [] else lineS 0 ([103, 108, 111, 98, 97, 108, 32] ++ Lib.join l [44, 32] ++ [59])
def textS (p : Pg) : Str := globsS p.globals ++ procsS p.procs

/-- What is written of a procedure, of a program that may be. -/
structure Pc.PrP (f : Pc) : Prop where
  name : f.name.length ≤ 8
  params : ∀ a ∈ f.params, a.name.length ≤ 8
  vars : ∀ t ∈ f.vars, t.length ≤ 8
  fin : ∀ t ∈ f.fin, t.length ≤ 8
  body : Sm.PrRs 1 f.body
structure Pg.PrG (p : Pg) : Prop where
  globals : ∀ t ∈ p.globals, t.length ≤ 8
  procs : ∀ f ∈ p.procs, f.PrP

theorem short_len (sep : Str) {l : List Str} {n : Nat} (h : ∀ t ∈ l, t.length ≤ n) : (Lib.join l sep).length ≤ (n + sep.length) * l.length := by
  have h1 := join_len sep l
  have h2 : (l.map (·.length)).sum ≤ n * l.length := by
    clear h1
    induction l with
    | nil => simp
    | cons a l ih =>
      have := h a (List.mem_cons_self ..)
      have := ih fun t m => h t (List.mem_cons_of_mem _ m)
      simp only [List.map_cons, List.sum_cons, List.length_cons, Nat.mul_add, Nat.mul_one]; omega
  rw [Nat.add_mul]; omega
theorem params_len {l : List Pm} (h : ∀ a ∈ l, a.name.length ≤ 8) : (Lib.join (l.map paramS) [44, 32]).length ≤ 14 * l.length := by
  have := short_len [44, 32] (l := l.map paramS) (n := 12) (by
    intro t m
    obtain ⟨a, ha, rfl⟩ := List.mem_map.1 m
    have := h a ha
    unfold paramS
    split <;> simp only [List.length_append, List.length_cons, List.length_nil] <;> omega)
  simpa using this

theorem globsS_len {l : List Str} (h : ∀ t ∈ l, t.length ≤ 8) : (globsS l).length ≤ 10 * l.length + 9 := by
  have := short_len [44, 32] h
  unfold globsS
  split
  · simp
  · simp only [List.length_append, List.length_cons, List.length_nil, lineS_len] at this ⊢; omega

theorem procS_len {f : Pc} (h : f.PrP) : (procS f).length ≤ 200 * f.size := by
  have h1 := params_len h.params
  have h2 := short_len [44, 32] h.vars
  have h3 := marksS_len h.fin
  have h4 := rowsS_len f.body h.body
  have h5 := h.name
  unfold procS Pc.size
  simp only [List.length_cons, List.length_nil] at h2
  split <;> simp only [List.length_append, List.length_cons, List.length_nil, lineS_len] <;> omega
theorem procsS_len : ∀ {l : List Pc}, (∀ f ∈ l, f.PrP) → (procsS l).length ≤ 200 * Pc.sizes l
  | [], _ => by simp [procsS]
  | f :: l, h => by
    have h1 := procS_len (h f (List.mem_cons_self ..))
    have h2 := procsS_len fun t m => h t (List.mem_cons_of_mem _ m)
    simp only [procsS, Pc.sizes, List.length_append]; omega

/-! ### The walk -/

/-- A row of lines. -/
theorem prows_z {l : List Sm} (hs : Sm.sizes l ≤ 1000000) {inn : Nat} (hp : Sm.PrRs inn l) {acc : Str} (hb : acc.length + 200 * Sm.sizes l ≤ 540000000000) {s : St} {o t : Nat} (ho : s.objs[o]? = some (bobj o t acc)) (ht : s.toks[t]? = some (some (slen acc))) :
    Fun Tryd.prog n_print_writer_rows [.ptr o 0, .slice .shared 13 (l.map encSm), .int .i64 inn] s (.tuple []) ⟨s.objs.set o (bobj o t (acc ++ rowsS inn l)), s.toks.set t (some (slen (acc ++ rowsS inn l)))⟩ :=
  (prows_n _ l (Nat.le_refl _) hs inn hp acc hb).bldz (by simp [D.oks, D.ok, okrSm, Tag.ok]) rfl ho ht

/-- The first line of a writer. -/
theorem line_first (n : Nat) (m : Str) (h : n + m.length + 1 ≤ 549755813888) {s : St} {o : Nat} (ho : s.objs[o]? = some [.selfp tWriter o, .val (.slice none 0 0)]) :
    Fun Tryd.prog n_print_writer_line [.ptr o 0, .int .i64 n, .str m] s (.tuple []) ⟨s.objs.set o (bobj o s.toks.length (lineS n m)), s.toks ++ [some (slen (lineS n m))]⟩ := by
  have hlt := (List.getElem?_eq_some_iff.1 ho).1
  have := line_z (l := []) n m (by simpa using h) (s := ⟨s.objs.set o (bobj o s.toks.length []), s.toks ++ [some 0]⟩) (o := o) (t := s.toks.length) (by simp [hlt]) (by simp [slen])
  refine ACalls.tokB o 1 1 true ho rfl ?_
  refine ACalls.mono this fun d s' ⟨e1, e2⟩ => ⟨e1, ?_⟩
  rw [e2]
  simp

set_option maxHeartbeats 1600000 in
/-- What the loop over the procedures does. -/
theorem pText_loop {p : Pg} (hg : p.PrG) (hps : Pc.sizes p.procs ≤ 1000000) (hpl : p.procs.length ≤ Pc.sizes p.procs) {B : Base} {Q : Exit → Tm → St → Prop} (hB : B.s = { objs := [], toks := [] }) {R : Str} (hRn : R.length ≤ 540000000000)
    (hQ : retF { objs := [], toks := [] : St }.objs.length { objs := [], toks := [] : St }.toks.length [(2, none)] (D.str R) { objs := [], toks := [] } = Q) :
    ∀ i : List Pc × Nat × Str, (p.procs.drop i.2.1 = i.1 ∧ i.2.2 ++ procsS i.1 = R ∧ i.2.2.length + 200 * Pc.sizes i.1 ≤ 530000000000) →
    SemL Tryd.prog B 85 Q1X (inBlockQ 0 (thenQ (wpC Tryd.prog B 85 Q22 Q) Q))
      [(3, .ptr 1 0), (26, .slice .shared 5 (p.procs.map encPc)), (27, .int .i64 (p.procs.length : Int)), (28, .int .i64 (i.2.1 : Int))] ⟨[encPg p, bobj 1 0 i.2.2], [some (slen i.2.2)]⟩ := by
  have hlt : 0 < 1 := Nat.zero_lt_one
  have hget : 0 < 1 := Nat.zero_lt_one
  have hpu : 0 < 1 := Nat.zero_lt_one
  have hinc : 0 < 1 := Nat.zero_lt_one
  refine SemL.ind (ι := List Pc × Nat × Str) (fun i => p.procs.drop i.2.1 = i.1 ∧ i.2.2 ++ procsS i.1 = R ∧ i.2.2.length + 200 * Pc.sizes i.1 ≤ 530000000000) (fun i => i.1.length) (fun i => [(3, .ptr 1 0), (26, .slice .shared 5 (p.procs.map encPc)), (27, .int .i64 (p.procs.length : Int)), (28, .int .i64 (i.2.1 : Int))]) (fun i => ⟨[encPg p, bobj 1 0 i.2.2], [some (slen i.2.2)]⟩) ?_
  rintro ⟨rest, k, acc⟩ ⟨h1, h2, h3⟩ IH
  dsimp only at h1 h2 h3
  cases rest with
  | nil =>
    have hlt := drop_nil h1
    simp only [procsS, List.append_nil] at h2
    subst h2
    have es := fun st a b => String_s (s := st) (o := 1) (t := 0) (c0 := .selfp tWriter 1) acc a b (by omega)
    repeat' (first
 | simp only [go_sem, hlt, hget, hpu, hinc, Int.reduceLE, ↓reduceIte, reduceCtorEq, Nat.reduceEqDiff, Nat.reduceLeDiff, Nat.reduceAdd, Nat.reduceMul, Nat.reduceSub, Nat.reduceLT, bobj, slen]
 | (with_reducible refine CU (es _ (by with_unfolding_all rfl) (by with_unfolding_all rfl)) ?_)
 | (with_reducible first | refine CB_ofT (by assumption) fun hc => ?_ | refine CB_ofF (by assumption) fun hc => ?_ | refine CB_split (fun hc => ?_) fun hc => ?_) <;> (try simp only [hc, bs, ↓reduceIte] at h) <;> (try simp only [hc])
 | ((with_reducible first | refine leafR hQ ?_ | refine leafN hQ ?_); (try cases h); simp only [resL, oneD, Option.some.injEq, exists_eq_left', go_sem, hlt, hget, hpu, hinc, Int.reduceLE, ↓reduceIte, reduceCtorEq, Nat.reduceEqDiff, Nat.reduceLeDiff, Nat.reduceAdd, Nat.reduceMul, Nat.reduceSub, Nat.reduceLT, bobj, slen]; repeat' (first | exact Ok.out | with_reducible refine And.intro ?_ ?_ | (simp; done)))
 | (cases h; replace h := hr; clear hr; (try simp only [bs, ↓reduceIte] at h))
 | (cases h; done))
  | cons f rest =>
    obtain ⟨hget, g2, hlt, g4⟩ := drop_cons h1
    have hmem := List.mem_of_getElem? hget
    have hsz := Pc.sizes_mem hmem
    have hP := hg.procs f hmem
    have hk : k < 4611686018427387904 := by omega
    have w1 : IntKind.wrap .i64 ((k : Int) + 1) = ((k + 1 : Nat) : Int) := by rw [wrap_ok] <;> omega
    simp only [Pc.sizes] at h3
    simp only [procsS] at h2
    have lf := procS_len hP
    have hfz : f.params.length + f.vars.length + f.fin.length + Sm.sizes f.body + 1 ≤ f.size := by unfold Pc.size; omega
    repeat' (first
 | simp only [go_sem, hlt, hget, hpu, hinc, Int.reduceLE, ↓reduceIte, reduceCtorEq, Nat.reduceEqDiff, Nat.reduceLeDiff, Nat.reduceAdd, Nat.reduceMul, Nat.reduceSub, Nat.reduceLT]
 | (with_reducible first | refine CB_ofT (by assumption) fun hc => ?_ | refine CB_ofF (by assumption) fun hc => ?_ | refine CB_split (fun hc => ?_) fun hc => ?_) <;> (try simp only [hc, bs, ↓reduceIte] at h) <;> (try simp only [hc])
 | ((with_reducible first | refine leafR hQ ?_ | refine leafN hQ ?_); (try cases h); simp only [resL, oneD, Option.some.injEq, exists_eq_left', go_sem, hlt, hget, hpu, hinc, Int.reduceLE, ↓reduceIte, reduceCtorEq, Nat.reduceEqDiff, Nat.reduceLeDiff, Nat.reduceAdd, Nat.reduceMul, Nat.reduceSub, Nat.reduceLT]; repeat' (first | exact Ok.out | with_reducible refine And.intro ?_ ?_ | (simp; done)))
 | (cases h; replace h := hr; clear hr; (try simp only [bs, ↓reduceIte] at h))
 | (cases h; done))
    refine SemL.tokT 6 1 rfl ?_
    simp only [go_sem, hlt, hget, hpu, hinc, Int.reduceLE, ↓reduceIte, reduceCtorEq, Nat.reduceEqDiff, Nat.reduceLeDiff, Nat.reduceAdd, Nat.reduceMul, Nat.reduceSub, Nat.reduceLT]
    refine SemL.re _ _ 3 2 (by rw [hB]; exact Nat.le_of_ble_eq_true rfl) (by rw [hB]; exact Nat.le_of_ble_eq_true rfl) ?_ ?_ (SemL.ind (ι := List Pm × Nat × List Str) (fun i => f.params.drop i.2.1 = i.1 ∧ i.2.2 ++ i.1.map paramS = f.params.map paramS ∧ i.2.2.length = i.2.1) (fun i => i.1.length)
      (fun i => [(3, .ptr 1 0), (26, .slice .shared 5 (p.procs.map encPc)), (27, .int .i64 (p.procs.length : Int)), (28, .int .i64 (k : Int)), (5, .ptr 2 0), (6, .slice (.tok 1) 1 (i.2.2.map encStr)), (33, .slice .shared 2 (f.params.map encPm)), (34, .int .i64 (f.params.length : Int)), (35, .int .i64 (i.2.1 : Int))]) (fun i => ⟨[encPg p, bobj 1 0 acc, encPc f], [some (slen acc), some i.2.1]⟩) ?_ (f.params, 0, []) ⟨rfl, rfl, rfl⟩)
    · (simp only [go_sem, hlt, hget, hpu, hinc, Int.reduceLE, ↓reduceIte, reduceCtorEq, Nat.reduceEqDiff, Nat.reduceLeDiff, Nat.reduceAdd, Nat.reduceMul, Nat.reduceSub, Nat.reduceLT]; repeat' (first | exact Ok.out | with_reducible refine And.intro ?_ ?_))
    · (simp only [go_sem, hlt, hget, hpu, hinc, Int.reduceLE, ↓reduceIte, reduceCtorEq, Nat.reduceEqDiff, Nat.reduceLeDiff, Nat.reduceAdd, Nat.reduceMul, Nat.reduceSub, Nat.reduceLT]; repeat' (first | exact Ok.out | with_reducible refine And.intro ?_ ?_))
    rintro ⟨ps, j, out⟩ ⟨p1, p2, p3⟩ IH2
    dsimp only at p1 p2 p3
    cases ps with
    | nil =>
      have hlt := drop_nil p1
      simp only [List.map_nil, List.append_nil] at p2
      subst p2
      have lps := params_len hP.params
      have lvs := short_len [44, 32] hP.vars
      have lms := marksS_len hP.fin
      have lrs := rowsS_len f.body hP.body
      have lnm := hP.name
      simp only [List.length_cons, List.length_nil] at lvs
      have ej := fun s => Join_s (l := f.params.map paramS) (sep := [44, 32]) (by simp; omega) (by omega) (.tok 1) s
      have em := fun st => pmarks_s (by omega) hP.fin st
      have b1 : (5 : Nat) + f.name.length ≤ maxStr := by unfold maxStr; omega
      have b2 : f.name.length + 1 + 1 + 1 + 1 + 1 + 1 ≤ maxStr := by unfold maxStr; omega
      have b3 : f.name.length + 1 + 1 + 1 + 1 + 1 + 1 + (Lib.join (f.params.map paramS) [44, 32]).length ≤ maxStr := by unfold maxStr; omega
      have b4 : f.name.length + 1 + (Lib.join (f.params.map paramS) [44, 32]).length + 1 + 1 + 1 + 1 + 1 + 1 + 1 + 1 ≤ maxStr := by unfold maxStr; omega
      have b7 : (marksS f.fin).length + 1 ≤ maxStr := by unfold maxStr; omega
      have e1 := fun st a b => line_z (l := acc) 0 ([112, 114, 111, 99, 32] ++ f.name ++ [40] ++ Lib.join (f.params.map paramS) [44, 32] ++ [41, 32, 123]) (by simp only [List.length_append, List.length_cons, List.length_nil, lineS_len]; omega) (s := st) (o := 1) (t := 0) a b
      simp only [List.cons_append, List.nil_append, Int.cast_ofNat_Int] at e1
      cases cv : decide ((f.vars.length : Int) > 0) with
      | false =>
        have cv' : f.vars.length = 0 := by have := of_decide_eq_false cv; omega
        have e3 := fun st a b => prows_z (l := f.body) (by omega) hP.body (acc := acc ++ lineS 0 ([112, 114, 111, 99, 32] ++ f.name ++ [40] ++ Lib.join (f.params.map paramS) [44, 32] ++ [41, 32, 123])) (by simp only [List.length_append, List.length_cons, List.length_nil, lineS_len]; omega) (s := st) (o := 1) (t := 0) a b
        have e4 := fun st a b => line_z (l := acc ++ lineS 0 ([112, 114, 111, 99, 32] ++ f.name ++ [40] ++ Lib.join (f.params.map paramS) [44, 32] ++ [41, 32, 123]) ++ rowsS 1 f.body) 0 (marksS f.fin ++ [125]) (by simp only [List.length_append, List.length_cons, List.length_nil, lineS_len]; omega) (s := st) (o := 1) (t := 0) a b
        simp only [List.cons_append, List.nil_append, Int.cast_ofNat_Int] at e3 e4
        repeat' (first
 | simp only [go_sem, hlt, hget, hpu, hinc, Int.reduceLE, ↓reduceIte, reduceCtorEq, Nat.reduceEqDiff, Nat.reduceLeDiff, Nat.reduceAdd, Nat.reduceMul, Nat.reduceSub, Nat.reduceLT, w1, b1, b2, b3, b4, b7, cv]
 | (with_reducible refine CU (ej _) ?_)
 | (with_reducible refine CU (em _) ?_)
 | (with_reducible refine CU (e1 _ (by with_unfolding_all rfl) (by with_unfolding_all rfl)) ?_)
 | (with_reducible refine CU (e3 _ (by with_unfolding_all rfl) (by with_unfolding_all rfl)) ?_)
 | (with_reducible refine CU (e4 _ (by with_unfolding_all rfl) (by with_unfolding_all rfl)) ?_)
 | (with_reducible first | refine CB_ofT (by assumption) fun hc => ?_ | refine CB_ofF (by assumption) fun hc => ?_ | refine CB_split (fun hc => ?_) fun hc => ?_) <;> (try simp only [hc, bs, ↓reduceIte] at h) <;> (try simp only [hc])
 | ((with_reducible first | refine leafR hQ ?_ | refine leafN hQ ?_); (try cases h); simp only [resL, oneD, Option.some.injEq, exists_eq_left', go_sem, hlt, hget, hpu, hinc, Int.reduceLE, ↓reduceIte, reduceCtorEq, Nat.reduceEqDiff, Nat.reduceLeDiff, Nat.reduceAdd, Nat.reduceMul, Nat.reduceSub, Nat.reduceLT, w1, b1, b2, b3, b4, b7, cv]; repeat' (first | exact Ok.out | with_reducible refine And.intro ?_ ?_ | (simp; done)))
 | (cases h; replace h := hr; clear hr; (try simp only [bs, ↓reduceIte] at h))
 | (cases h; done))
        have hl := IH (rest, k + 1, acc ++ lineS 0 ([112, 114, 111, 99, 32] ++ f.name ++ [40] ++ Lib.join (f.params.map paramS) [44, 32] ++ [41, 32, 123]) ++ rowsS 1 f.body ++ lineS 0 (marksS f.fin ++ [125])) ⟨g2, by rw [← h2, procS, if_pos cv']; simp only [List.append_assoc, List.nil_append, List.cons_append], by rw [procS, if_pos cv'] at lf; simp only [List.length_append] at lf ⊢; omega⟩ (by simp)
        simp only [List.cons_append, List.nil_append, Int.cast_ofNat_Int] at hl
        refine SemL.re _ _ 2 1 (by rw [hB]; exact Nat.le_of_ble_eq_true rfl) (by rw [hB]; exact Nat.le_of_ble_eq_true rfl) ?_ ?_ (hl)
        · (simp only [go_sem, hlt, hget, hpu, hinc, Int.reduceLE, ↓reduceIte, reduceCtorEq, Nat.reduceEqDiff, Nat.reduceLeDiff, Nat.reduceAdd, Nat.reduceMul, Nat.reduceSub, Nat.reduceLT]; repeat' (first | exact Ok.out | with_reducible refine And.intro ?_ ?_))
        · (simp only [go_sem, hlt, hget, hpu, hinc, Int.reduceLE, ↓reduceIte, reduceCtorEq, Nat.reduceEqDiff, Nat.reduceLeDiff, Nat.reduceAdd, Nat.reduceMul, Nat.reduceSub, Nat.reduceLT]; repeat' (first | exact Ok.out | with_reducible refine And.intro ?_ ?_))
      | true =>
        have cv' : f.vars.length ≠ 0 := by have := of_decide_eq_true cv; omega
        have ej2 := fun s => Join_s (l := f.vars) (sep := [44, 32]) (by omega) (by omega) .shared s
        have b5 : (4 : Nat) + (Lib.join f.vars [44, 32]).length ≤ maxStr := by unfold maxStr; omega
        have b6 : (Lib.join f.vars [44, 32]).length + 1 + 1 + 1 + 1 + 1 ≤ maxStr := by unfold maxStr; omega
        have e2 := fun st a b => line_z (l := acc ++ lineS 0 ([112, 114, 111, 99, 32] ++ f.name ++ [40] ++ Lib.join (f.params.map paramS) [44, 32] ++ [41, 32, 123])) 1 ([118, 97, 114, 32] ++ Lib.join f.vars [44, 32] ++ [59]) (by simp only [List.length_append, List.length_cons, List.length_nil, lineS_len]; omega) (s := st) (o := 1) (t := 0) a b
        simp only [List.cons_append, List.nil_append, Int.cast_ofNat_Int] at e2
        have e3 := fun st a b => prows_z (l := f.body) (by omega) hP.body (acc := acc ++ lineS 0 ([112, 114, 111, 99, 32] ++ f.name ++ [40] ++ Lib.join (f.params.map paramS) [44, 32] ++ [41, 32, 123]) ++ lineS 1 ([118, 97, 114, 32] ++ Lib.join f.vars [44, 32] ++ [59])) (by simp only [List.length_append, List.length_cons, List.length_nil, lineS_len]; omega) (s := st) (o := 1) (t := 0) a b
        have e4 := fun st a b => line_z (l := acc ++ lineS 0 ([112, 114, 111, 99, 32] ++ f.name ++ [40] ++ Lib.join (f.params.map paramS) [44, 32] ++ [41, 32, 123]) ++ lineS 1 ([118, 97, 114, 32] ++ Lib.join f.vars [44, 32] ++ [59]) ++ rowsS 1 f.body) 0 (marksS f.fin ++ [125]) (by simp only [List.length_append, List.length_cons, List.length_nil, lineS_len]; omega) (s := st) (o := 1) (t := 0) a b
        simp only [List.cons_append, List.nil_append, Int.cast_ofNat_Int] at e3 e4
        repeat' (first
 | simp only [go_sem, hlt, hget, hpu, hinc, Int.reduceLE, ↓reduceIte, reduceCtorEq, Nat.reduceEqDiff, Nat.reduceLeDiff, Nat.reduceAdd, Nat.reduceMul, Nat.reduceSub, Nat.reduceLT, w1, b1, b2, b3, b4, b7, cv, b5, b6]
 | (with_reducible refine CU (ej _) ?_)
 | (with_reducible refine CU (em _) ?_)
 | (with_reducible refine CU (e1 _ (by with_unfolding_all rfl) (by with_unfolding_all rfl)) ?_)
 | (with_reducible refine CU (ej2 _) ?_)
 | (with_reducible refine CU (e2 _ (by with_unfolding_all rfl) (by with_unfolding_all rfl)) ?_)
 | (with_reducible refine CU (e3 _ (by with_unfolding_all rfl) (by with_unfolding_all rfl)) ?_)
 | (with_reducible refine CU (e4 _ (by with_unfolding_all rfl) (by with_unfolding_all rfl)) ?_)
 | (with_reducible first | refine CB_ofT (by assumption) fun hc => ?_ | refine CB_ofF (by assumption) fun hc => ?_ | refine CB_split (fun hc => ?_) fun hc => ?_) <;> (try simp only [hc, bs, ↓reduceIte] at h) <;> (try simp only [hc])
 | ((with_reducible first | refine leafR hQ ?_ | refine leafN hQ ?_); (try cases h); simp only [resL, oneD, Option.some.injEq, exists_eq_left', go_sem, hlt, hget, hpu, hinc, Int.reduceLE, ↓reduceIte, reduceCtorEq, Nat.reduceEqDiff, Nat.reduceLeDiff, Nat.reduceAdd, Nat.reduceMul, Nat.reduceSub, Nat.reduceLT, w1, b1, b2, b3, b4, b7, cv, b5, b6]; repeat' (first | exact Ok.out | with_reducible refine And.intro ?_ ?_ | (simp; done)))
 | (cases h; replace h := hr; clear hr; (try simp only [bs, ↓reduceIte] at h))
 | (cases h; done))
        have hl := IH (rest, k + 1, acc ++ lineS 0 ([112, 114, 111, 99, 32] ++ f.name ++ [40] ++ Lib.join (f.params.map paramS) [44, 32] ++ [41, 32, 123]) ++ lineS 1 ([118, 97, 114, 32] ++ Lib.join f.vars [44, 32] ++ [59]) ++ rowsS 1 f.body ++ lineS 0 (marksS f.fin ++ [125])) ⟨g2, by rw [← h2, procS, if_neg cv']; simp only [List.append_assoc, List.nil_append, List.cons_append], by rw [procS, if_neg cv'] at lf; simp only [List.length_append] at lf ⊢; omega⟩ (by simp)
        simp only [List.cons_append, List.nil_append, Int.cast_ofNat_Int] at hl
        refine SemL.re _ _ 2 1 (by rw [hB]; exact Nat.le_of_ble_eq_true rfl) (by rw [hB]; exact Nat.le_of_ble_eq_true rfl) ?_ ?_ (hl)
        · (simp only [go_sem, hlt, hget, hpu, hinc, Int.reduceLE, ↓reduceIte, reduceCtorEq, Nat.reduceEqDiff, Nat.reduceLeDiff, Nat.reduceAdd, Nat.reduceMul, Nat.reduceSub, Nat.reduceLT]; repeat' (first | exact Ok.out | with_reducible refine And.intro ?_ ?_))
        · (simp only [go_sem, hlt, hget, hpu, hinc, Int.reduceLE, ↓reduceIte, reduceCtorEq, Nat.reduceEqDiff, Nat.reduceLeDiff, Nat.reduceAdd, Nat.reduceMul, Nat.reduceSub, Nat.reduceLT]; repeat' (first | exact Ok.out | with_reducible refine And.intro ?_ ?_))
    | cons a ps =>
      obtain ⟨hget, q2, hlt, q4⟩ := drop_cons p1
      have hmem2 := List.mem_of_getElem? hget
      have han := hP.params a hmem2
      have hj : j < 4611686018427387904 := by omega
      have w2 : IntKind.wrap .i64 ((j : Int) + 1) = ((j + 1 : Nat) : Int) := by rw [wrap_ok] <;> omega
      have hpu : (j + 1) * 17 ≤ maxStr := by unfold maxStr; omega
      have ea : paramS a = (if a.ref = true then [114, 101, 102, 32] else []) ++ a.name := rfl
      cases hr : a.ref with
      | true =>
        rw [hr] at ea
        have m1 : (4 : Nat) + a.name.length ≤ maxStr := by unfold maxStr; omega
        repeat' (first
 | simp only [go_sem, hlt, hget, hpu, hinc, Int.reduceLE, ↓reduceIte, reduceCtorEq, Nat.reduceEqDiff, Nat.reduceLeDiff, Nat.reduceAdd, Nat.reduceMul, Nat.reduceSub, Nat.reduceLT, hr, m1, w2, p3]
 | (with_reducible refine CU (pref_s _ _) ?_)
 | (with_reducible first | refine CB_ofT (by assumption) fun hc => ?_ | refine CB_ofF (by assumption) fun hc => ?_ | refine CB_split (fun hc => ?_) fun hc => ?_) <;> (try simp only [hc, bs, ↓reduceIte] at h) <;> (try simp only [hc])
 | ((with_reducible first | refine leafR hQ ?_ | refine leafN hQ ?_); (try cases h); simp only [resL, oneD, Option.some.injEq, exists_eq_left', go_sem, hlt, hget, hpu, hinc, Int.reduceLE, ↓reduceIte, reduceCtorEq, Nat.reduceEqDiff, Nat.reduceLeDiff, Nat.reduceAdd, Nat.reduceMul, Nat.reduceSub, Nat.reduceLT, hr, m1, w2, p3]; repeat' (first | exact Ok.out | with_reducible refine And.intro ?_ ?_ | (simp; done)))
 | (cases h; replace h := hr; clear hr; (try simp only [bs, ↓reduceIte] at h))
 | (cases h; done))
        refine SemL.re _ _ 3 2 (by rw [hB]; exact Nat.le_of_ble_eq_true rfl) (by rw [hB]; exact Nat.le_of_ble_eq_true rfl) ?_ ?_ (IH2 (ps, j + 1, out ++ [paramS a]) ⟨q2, by rw [← p2]; simp, by simp [p3]⟩ (by simp))
        · (simp only [go_sem, hlt, hget, hpu, hinc, Int.reduceLE, ↓reduceIte, reduceCtorEq, Nat.reduceEqDiff, Nat.reduceLeDiff, Nat.reduceAdd, Nat.reduceMul, Nat.reduceSub, Nat.reduceLT, ea, List.cons_append, List.nil_append]; repeat' (first | exact Ok.out | with_reducible refine And.intro ?_ ?_))
        · (simp only [go_sem, hlt, hget, hpu, hinc, Int.reduceLE, ↓reduceIte, reduceCtorEq, Nat.reduceEqDiff, Nat.reduceLeDiff, Nat.reduceAdd, Nat.reduceMul, Nat.reduceSub, Nat.reduceLT, ea, List.cons_append, List.nil_append]; repeat' (first | exact Ok.out | with_reducible refine And.intro ?_ ?_))
      | false =>
        rw [hr] at ea
        have m1 : a.name.length ≤ maxStr := by unfold maxStr; omega
        repeat' (first
 | simp only [go_sem, hlt, hget, hpu, hinc, Int.reduceLE, ↓reduceIte, reduceCtorEq, Nat.reduceEqDiff, Nat.reduceLeDiff, Nat.reduceAdd, Nat.reduceMul, Nat.reduceSub, Nat.reduceLT, hr, m1, w2, p3, List.nil_append]
 | (with_reducible refine CU (pref_s _ _) ?_)
 | (with_reducible first | refine CB_ofT (by assumption) fun hc => ?_ | refine CB_ofF (by assumption) fun hc => ?_ | refine CB_split (fun hc => ?_) fun hc => ?_) <;> (try simp only [hc, bs, ↓reduceIte] at h) <;> (try simp only [hc])
 | ((with_reducible first | refine leafR hQ ?_ | refine leafN hQ ?_); (try cases h); simp only [resL, oneD, Option.some.injEq, exists_eq_left', go_sem, hlt, hget, hpu, hinc, Int.reduceLE, ↓reduceIte, reduceCtorEq, Nat.reduceEqDiff, Nat.reduceLeDiff, Nat.reduceAdd, Nat.reduceMul, Nat.reduceSub, Nat.reduceLT, hr, m1, w2, p3, List.nil_append]; repeat' (first | exact Ok.out | with_reducible refine And.intro ?_ ?_ | (simp; done)))
 | (cases h; replace h := hr; clear hr; (try simp only [bs, ↓reduceIte] at h))
 | (cases h; done))
        refine SemL.re _ _ 3 2 (by rw [hB]; exact Nat.le_of_ble_eq_true rfl) (by rw [hB]; exact Nat.le_of_ble_eq_true rfl) ?_ ?_ (IH2 (ps, j + 1, out ++ [paramS a]) ⟨q2, by rw [← p2]; simp, by simp [p3]⟩ (by simp))
        · (simp only [go_sem, hlt, hget, hpu, hinc, Int.reduceLE, ↓reduceIte, reduceCtorEq, Nat.reduceEqDiff, Nat.reduceLeDiff, Nat.reduceAdd, Nat.reduceMul, Nat.reduceSub, Nat.reduceLT, ea, List.cons_append, List.nil_append]; repeat' (first | exact Ok.out | with_reducible refine And.intro ?_ ?_))
        · (simp only [go_sem, hlt, hget, hpu, hinc, Int.reduceLE, ↓reduceIte, reduceCtorEq, Nat.reduceEqDiff, Nat.reduceLeDiff, Nat.reduceAdd, Nat.reduceMul, Nat.reduceSub, Nat.reduceLT, ea, List.cons_append, List.nil_append]; repeat' (first | exact Ok.out | with_reducible refine And.intro ?_ ?_))

theorem pText_s {p : Pg} (hf : p.FineP) (hg : p.mayP = true → p.PrG) (hs : p.size ≤ 1000000) (s : St) : Fun Tryd.prog n_print_Text [.agg (encPg p)] s (.str (if p.may then textS p else [])) s := by
  refine Fun.pure ?_ (by simp only [D.oks, D.ok, okPg]; rfl) rfl s
  have hm := fun s => tMay_s hf s
  rw [← mayP_eq]
  cases cm : p.mayP with
  | false =>
    rw [if_neg (by simp)]
    unfold S0
    refine Fun.go has_print_Text rfl fun B Q hB hQ => ?_
    have hlt : 0 < 1 := Nat.zero_lt_one
    have hget : 0 < 1 := Nat.zero_lt_one
    have hpu : 0 < 1 := Nat.zero_lt_one
    have hinc : 0 < 1 := Nat.zero_lt_one
    repeat' (first
 | simp only [go_sem, hlt, hget, hpu, hinc, Int.reduceLE, ↓reduceIte, reduceCtorEq, Nat.reduceEqDiff, Nat.reduceLeDiff, Nat.reduceAdd, Nat.reduceMul, Nat.reduceSub, Nat.reduceLT, cm]
 | (with_reducible refine CU (hm _) ?_)
 | (with_reducible first | refine CB_ofT (by assumption) fun hc => ?_ | refine CB_ofF (by assumption) fun hc => ?_ | refine CB_split (fun hc => ?_) fun hc => ?_) <;> (try simp only [hc, bs, ↓reduceIte] at h) <;> (try simp only [hc])
 | ((with_reducible first | refine leafR hQ ?_ | refine leafN hQ ?_); (try cases h); simp only [resL, oneD, Option.some.injEq, exists_eq_left', go_sem, hlt, hget, hpu, hinc, Int.reduceLE, ↓reduceIte, reduceCtorEq, Nat.reduceEqDiff, Nat.reduceLeDiff, Nat.reduceAdd, Nat.reduceMul, Nat.reduceSub, Nat.reduceLT, cm]; repeat' (first | exact Ok.out | with_reducible refine And.intro ?_ ?_ | (simp; done)))
 | (cases h; replace h := hr; clear hr; (try simp only [bs, ↓reduceIte] at h))
 | (cases h; done))
  | true =>
    rw [if_pos rfl]
    have hg := hg cm
    have hps : Pc.sizes p.procs ≤ 1000000 := by simp only [Pg.size] at hs; omega
    have hgl : p.globals.length ≤ 1000000 := by simp only [Pg.size] at hs; omega
    have hpl := Pc.sizes_len p.procs
    have lg := globsS_len hg.globals
    have lp := procsS_len hg.procs
    have ls := short_len [44, 32] hg.globals
    simp only [List.length_cons, List.length_nil] at ls
    unfold S0
    cases cg : decide ((p.globals.length : Int) > 0) with
    | true =>
      have cg' : p.globals.length ≠ 0 := by have := of_decide_eq_true cg; omega
      have eg : globsS p.globals = lineS 0 ([103, 108, 111, 98, 97, 108, 32] ++ Lib.join p.globals [44, 32] ++ [59]) := by rw [globsS, if_neg cg']
      have ej := fun s => Join_s (l := p.globals) (sep := [44, 32]) (by omega) (by omega) .shared s
      have b1 : (7 : Nat) + (Lib.join p.globals [44, 32]).length ≤ maxStr := by unfold maxStr; omega
      have b2 : (Lib.join p.globals [44, 32]).length + 1 + 1 + 1 + 1 + 1 + 1 + 1 + 1 ≤ maxStr := by unfold maxStr; omega
      have e1 := fun s a => line_first 0 ([103, 108, 111, 98, 97, 108, 32] ++ Lib.join p.globals [44, 32] ++ [59]) (by simp only [List.length_append, List.length_cons, List.length_nil]; omega) (s := s) (o := 1) a
      simp only [List.cons_append, List.nil_append, Int.cast_ofNat_Int] at e1 eg
      refine Fun.go has_print_Text rfl fun B Q hB hQ => ?_
      have hlt : 0 < 1 := Nat.zero_lt_one
      have hget : 0 < 1 := Nat.zero_lt_one
      have hpu : 0 < 1 := Nat.zero_lt_one
      have hinc : 0 < 1 := Nat.zero_lt_one
      repeat' (first
 | simp only [go_sem, hlt, hget, hpu, hinc, Int.reduceLE, ↓reduceIte, reduceCtorEq, Nat.reduceEqDiff, Nat.reduceLeDiff, Nat.reduceAdd, Nat.reduceMul, Nat.reduceSub, Nat.reduceLT, cm, cg, b1, b2]
 | (with_reducible refine CU (hm _) ?_)
 | (with_reducible refine CU (ej _) ?_)
 | (with_reducible refine CU (e1 _ (by with_unfolding_all rfl)) ?_)
 | (with_reducible first | refine CB_ofT (by assumption) fun hc => ?_ | refine CB_ofF (by assumption) fun hc => ?_ | refine CB_split (fun hc => ?_) fun hc => ?_) <;> (try simp only [hc, bs, ↓reduceIte] at h) <;> (try simp only [hc])
 | ((with_reducible first | refine leafR hQ ?_ | refine leafN hQ ?_); (try cases h); simp only [resL, oneD, Option.some.injEq, exists_eq_left', go_sem, hlt, hget, hpu, hinc, Int.reduceLE, ↓reduceIte, reduceCtorEq, Nat.reduceEqDiff, Nat.reduceLeDiff, Nat.reduceAdd, Nat.reduceMul, Nat.reduceSub, Nat.reduceLT, cm, cg, b1, b2]; repeat' (first | exact Ok.out | with_reducible refine And.intro ?_ ?_ | (simp; done)))
 | (cases h; replace h := hr; clear hr; (try simp only [bs, ↓reduceIte] at h))
 | (cases h; done))
      have hl := pText_loop hg hps hpl hB (R := textS p) (by simp only [textS, List.length_append]; omega) hQ (p.procs, 0, globsS p.globals) ⟨rfl, rfl, by dsimp only; omega⟩
      simp only [eg] at hl
      refine SemL.re _ _ 2 1 (by rw [hB]; exact Nat.le_of_ble_eq_true rfl) (by rw [hB]; exact Nat.le_of_ble_eq_true rfl) ?_ ?_ (hl)
      · (simp only [go_sem, hlt, hget, hpu, hinc, Int.reduceLE, ↓reduceIte, reduceCtorEq, Nat.reduceEqDiff, Nat.reduceLeDiff, Nat.reduceAdd, Nat.reduceMul, Nat.reduceSub, Nat.reduceLT]; repeat' (first | exact Ok.out | with_reducible refine And.intro ?_ ?_))
      · (simp only [go_sem, hlt, hget, hpu, hinc, Int.reduceLE, ↓reduceIte, reduceCtorEq, Nat.reduceEqDiff, Nat.reduceLeDiff, Nat.reduceAdd, Nat.reduceMul, Nat.reduceSub, Nat.reduceLT]; repeat' (first | exact Ok.out | with_reducible refine And.intro ?_ ?_))
    | false =>
      have cg' : p.globals.length = 0 := by have := of_decide_eq_false cg; omega
      have eg : globsS p.globals = [] := by rw [globsS, if_pos cg']
      refine Fun.go has_print_Text rfl fun B Q hB hQ => ?_
      have hlt : 0 < 1 := Nat.zero_lt_one
      have hget : 0 < 1 := Nat.zero_lt_one
      have hpu : 0 < 1 := Nat.zero_lt_one
      have hinc : 0 < 1 := Nat.zero_lt_one
      repeat' (first
 | simp only [go_sem, hlt, hget, hpu, hinc, Int.reduceLE, ↓reduceIte, reduceCtorEq, Nat.reduceEqDiff, Nat.reduceLeDiff, Nat.reduceAdd, Nat.reduceMul, Nat.reduceSub, Nat.reduceLT, cm, cg]
 | (with_reducible refine CU (hm _) ?_)
 | (with_reducible first | refine CB_ofT (by assumption) fun hc => ?_ | refine CB_ofF (by assumption) fun hc => ?_ | refine CB_split (fun hc => ?_) fun hc => ?_) <;> (try simp only [hc, bs, ↓reduceIte] at h) <;> (try simp only [hc])
 | ((with_reducible first | refine leafR hQ ?_ | refine leafN hQ ?_); (try cases h); simp only [resL, oneD, Option.some.injEq, exists_eq_left', go_sem, hlt, hget, hpu, hinc, Int.reduceLE, ↓reduceIte, reduceCtorEq, Nat.reduceEqDiff, Nat.reduceLeDiff, Nat.reduceAdd, Nat.reduceMul, Nat.reduceSub, Nat.reduceLT, cm, cg]; repeat' (first | exact Ok.out | with_reducible refine And.intro ?_ ?_ | (simp; done)))
 | (cases h; replace h := hr; clear hr; (try simp only [bs, ↓reduceIte] at h))
 | (cases h; done))
      refine SemL.tokB 1 1 1 true rfl rfl ?_
      simp only [go_sem, hlt, hget, hpu, hinc, Int.reduceLE, ↓reduceIte, reduceCtorEq, Nat.reduceEqDiff, Nat.reduceLeDiff, Nat.reduceAdd, Nat.reduceMul, Nat.reduceSub, Nat.reduceLT]
      have hl := pText_loop hg hps hpl hB (R := textS p) (by simp only [textS, List.length_append]; omega) hQ (p.procs, 0, globsS p.globals) ⟨rfl, rfl, by dsimp only; omega⟩
      simp only [eg] at hl
      refine SemL.re _ _ 2 1 (by rw [hB]; exact Nat.le_of_ble_eq_true rfl) (by rw [hB]; exact Nat.le_of_ble_eq_true rfl) ?_ ?_ (hl)
      · (simp only [go_sem, hlt, hget, hpu, hinc, Int.reduceLE, ↓reduceIte, reduceCtorEq, Nat.reduceEqDiff, Nat.reduceLeDiff, Nat.reduceAdd, Nat.reduceMul, Nat.reduceSub, Nat.reduceLT, bobj, encBy, List.map_nil, tWriter]; repeat' (first | exact Ok.out | with_reducible refine And.intro ?_ ?_))
      · (simp only [go_sem, hlt, hget, hpu, hinc, Int.reduceLE, ↓reduceIte, reduceCtorEq, Nat.reduceEqDiff, Nat.reduceLeDiff, Nat.reduceAdd, Nat.reduceMul, Nat.reduceSub, Nat.reduceLT, bobj, encBy, List.map_nil, tWriter]; repeat' (first | exact Ok.out | with_reducible refine And.intro ?_ ?_))

end Go.Abs

/-! PrMay -/

namespace Go.Abs
set_option linter.unusedSimpArgs false
set_option linter.unusedVariables false

mutual
/-- Its numbers are numbers. -/
def Sm.rng : Sm → Prop
  | ⟨_, _, _, _, _, x, _, args, thn, els⟩ => x.rng ∧ (∀ a ∈ args, a.x.rng) ∧ Sm.rngs thn ∧ Sm.rngs els
def Sm.rngs : List Sm → Prop
  | [] => True
  | s :: l => s.rng ∧ Sm.rngs l
end
def Pg.rng (p : Pg) : Prop := ∀ f ∈ p.procs, Sm.rngs f.body
theorem Sm.rng_eq (s : Sm) : s.rng ↔ s.x.rng ∧ (∀ a ∈ s.args, a.x.rng) ∧ Sm.rngs s.thn ∧ Sm.rngs s.els := by cases s; simp only [Sm.rng]

theorem one_PrO {s : Sm} (h : s.one = true) (hx : s.x.rng) (ha : ∀ a ∈ s.args, a.x.rng) : s.PrO := by
  unfold Sm.one at h
  split at h
  · cases h
  rename_i c1
  split at h
  · cases h
  rename_i c2
  split at h
  · cases h
  rename_i c3
  split at h
  · cases h
  rename_i c4
  simp only [Bool.or_eq_true, Bool.and_eq_true, decide_eq_true_eq, Bool.not_eq_true', not_or, Bool.not_eq_false, not_and, Bool.not_eq_true] at c1 c2 c3 c4
  refine ⟨fun k => may_formI (c1.1.1.2 k) hx, fun t ht => isName_len (mayNames_mem c1.1.1.1.2 ht), ?_, ?_, fun a m => ?_, by omega, fun k => ?_⟩
  · cases hn : s.hasName with
    | true => exact isName_len (c2.1 hn)
    | false =>
      by_cases e : s.name = []
      · rw [e]; simp
      · exact isName_len (c2.2 ⟨hn, by simpa using e⟩).2
  · cases hn : s.isCall with
    | true => exact isName_len (c3.1.2 hn)
    | false =>
      have : s.proc = [] := by
        have := c3.1.1
        rw [hn] at this
        simpa using this
      rw [this]; simp
  · have hm := mays_mem c4 m
    unfold Ar.may at hm
    split at hm
    · rename_i hr
      simp only [Bool.and_eq_true] at hm
      exact ⟨isName_len hm.1, fun h => by rw [hr] at h; cases h⟩
    · simp only [Bool.and_eq_true, beq_iff_eq] at hm
      exact ⟨by rw [hm.1]; simp, fun _ => may_formI hm.2 (ha a m)⟩
  · simp only [Bool.and_eq_true, Bool.or_eq_true, beq_iff_eq] at h
    rcases h.2 with h | h
    · exact List.eq_nil_of_length_eq_zero (by omega)
    · omega

mutual
theorem mayR_PrR : ∀ (s : Sm) (inn n : Nat), (inn : Int) ≤ 12 → (Sm.mayR inn n s).1 = true → s.rng → s.PrR inn
  | ⟨id, kind, labels, name, proc, x, has, args, thn, els⟩, inn, n, h12, hm, hr => by
    obtain ⟨_, _, h1, h2, h3, _⟩ := mayR_true hm
    obtain ⟨r1, r2, r3, r4⟩ := (Sm.rng_eq _).1 hr
    rw [PrR_eq]
    have t2 := mayG_true h2
    have t3 := mayG_true h3
    rw [t2.2] at h2
    rw [t3.2] at h3
    refine ⟨one_PrO h1 r1 r2, by omega, ?_, ?_⟩
    · exact mayL_PrR thn (inn + 1) _ (t2.1.imp_right fun h => by omega) (by simpa using h2) r3
    · exact mayL_PrR els (inn + 1) _ (t3.1.imp_right fun h => by omega) (by simpa using h3) r4
theorem mayL_PrR : ∀ (l : List Sm) (inn n : Nat), (l = [] ∨ (inn : Int) ≤ 12) → (Sm.mayL inn n l).1 = true → Sm.rngs l → Sm.PrRs inn l
  | [], _, _, _, _, _ => by simp only [Sm.PrRs]
  | s :: l, inn, n, h12, hm, hr => by
    have h12 : (inn : Int) ≤ 12 := h12.resolve_left (by simp)
    simp only [Sm.mayL] at hm
    simp only [Sm.rngs] at hr
    split at hm
    · cases hm
    rename_i hc
    simp only [Bool.not_eq_true', Bool.not_eq_false] at hc
    exact ⟨mayR_PrR s inn n h12 hc hr.1, mayL_PrR l inn _ (.inr h12) hm hr.2⟩
end

theorem pmayL_mem {f : Pc} : ∀ {l : List Pc} {n : Nat}, Pc.mayL n l = true → f ∈ l → (isName f.name = true ∧ mayNames f.vars = true ∧ mayNames f.fin = true ∧ Pm.mays f.params = true) ∧ ∃ n, (Sm.mayG 1 n f.body).1 = true
  | g :: l, n, h, m => by
    simp only [Pc.mayL] at h
    split at h
    · cases h
    rename_i c1
    split at h
    · cases h
    rename_i c2
    split at h
    · cases h
    rename_i c3
    simp only [Bool.or_eq_true, Bool.not_eq_true', not_or, Bool.not_eq_false] at c1 c2 c3
    rcases List.mem_cons.1 m with rfl | m
    · exact ⟨⟨c1.1.1.2, c1.1.2, c1.2, c2⟩, n, c3⟩
    · exact pmayL_mem h m

theorem may_PrG {p : Pg} (h : p.may = true) (hr : p.rng) : p.PrG := by
  rw [← mayP_eq] at h
  unfold Pg.mayP at h
  split at h
  · cases h
  rename_i c
  simp only [Bool.or_eq_true, Bool.not_eq_true', not_or, Bool.not_eq_false] at c
  refine ⟨fun t ht => isName_len (mayNames_mem c.2 ht), fun f hf => ?_⟩
  obtain ⟨⟨a, b, c, d⟩, n, e⟩ := pmayL_mem h hf
  have t := mayG_true e
  rw [t.2] at e
  exact ⟨isName_len a, fun x hx => isName_len (pmays_mem d hx), fun x hx => isName_len (mayNames_mem b hx), fun x hx => isName_len (mayNames_mem c hx), mayL_PrR f.body 1 n (.inr (by omega)) e (hr f hf)⟩

/-! ### It is asked alike -/

mutual
theorem mayR_FineD : ∀ (s : Sm) (nest : Int) (n : Nat), (Sm.mayR nest n s).1 = true → s.size < 4611686018427387000 → s.FineD
  | ⟨id, kind, labels, name, proc, x, has, args, thn, els⟩, nest, n, hm, hs => by
    obtain ⟨_, _, h1, h2, h3, _⟩ := mayR_true hm
    rw [FineD_eq]
    rw [(mayG_true h2).2] at h2
    rw [(mayG_true h3).2] at h3
    refine ⟨one_fine h1 hs, mayL_FineD thn _ _ h2 ?_, mayL_FineD els _ _ h3 ?_⟩ <;> simp only [Sm.size] at hs <;> omega
theorem mayL_FineD : ∀ (l : List Sm) (nest : Int) (n : Nat), (Sm.mayL nest n l).1 = true → Sm.sizes l < 4611686018427387000 → Sm.FineDs l
  | [], _, _, _, _ => by simp only [Sm.FineDs]
  | s :: l, nest, n, hm, hs => by
    simp only [Sm.mayL] at hm
    simp only [Sm.sizes] at hs
    split at hm
    · cases hm
    rename_i hc
    simp only [Bool.not_eq_true', Bool.not_eq_false] at hc
    exact ⟨mayR_FineD s nest n hc (by omega), mayL_FineD l nest _ hm (by omega)⟩
end
theorem may_FineP {p : Pg} (h : p.may = true) (hs : p.size < 4611686018427387000) : p.FineP := by
  have hf := may_fine h hs
  rw [← mayP_eq] at h
  unfold Pg.mayP at h
  split at h
  · cases h
  refine ⟨hf.sz, hf.glob, hf.heads, fun f m => ?_⟩
  obtain ⟨_, n, e⟩ := pmayL_mem h m
  rw [(mayG_true e).2] at e
  have := Pc.sizes_mem m
  simp only [Pg.size] at hs
  exact mayL_FineD f.body 1 n e (by unfold Pc.size at this; omega)

end Go.Abs

/-! Fits1 -/

namespace Go.Abs

set_option maxRecDepth 8000
set_option linter.unusedSimpArgs false
set_option linter.unusedVariables false
open Go.Proofs

def weighTs : List Str → Int → Int
  | [], n => n
  | t :: l, n => if n ≤ 20000 then weighTs l (weighT t n) else n
def weighAs : List Ar → Int → Int
  | [], n => n
  | a :: l, n => if n ≤ 20000 then weighAs l (weighT a.name (weighE a.x n)) else n
def weighMs : List Pm → Int → Int
  | [], n => n
  | a :: l, n => if n ≤ 20000 then weighMs l (weighT a.name n) else n
mutual
def weighS : Sm → Int → Int
  | ⟨_, _, labels, name, proc, x, _, args, thn, els⟩, n => weighSs els (weighSs thn (weighAs args (weighT proc (weighT name (weighTs labels (weighE x n))))))
def weighSs : List Sm → Int → Int
  | [], n => n
  | s :: l, n => if n ≤ 20000 then weighSs l (weighS s n) else n
end
def weighF (f : Pc) (n : Int) : Int := weighSs f.body (weighMs f.params (weighTs f.fin (weighTs f.vars (weighT f.name n))))
def weighFs : List Pc → Int → Int
  | [], n => n
  | f :: l, n => if n ≤ 20000 then weighFs l (weighF f n) else n
def Pg.weigh (p : Pg) : Int := weighFs p.procs (weighTs p.globals 0)


/-! ### The walk -/

end Go.Abs

/-! Fits2 -/

namespace Go.Abs

set_option maxRecDepth 8000
set_option linter.unusedSimpArgs false
set_option linter.unusedVariables false
open Go.Proofs

end Go.Abs

/-! Pr5 -/

namespace Go.Abs

set_option maxRecDepth 8000
set_option linter.unusedSimpArgs false
set_option linter.unusedVariables false
open Go.Proofs

def muchR (x : Ex) : Int := if arityI x.op < 2 then 7 else bindB x.op
theorem arity2 {op : Int} (ho : (decide (5 ≤ op) && decide (op ≤ 17)) = true) : arityI op = 2 := by
  simp only [Bool.and_eq_true, decide_eq_true_eq] at ho
  have c : (decide (op ≥ 5) && decide (op ≤ 17)) = true := by simp; omega
  have c1 : (op == 1) = false := beq_eq_false_iff_ne.2 (by omega)
  have c2 : (op == 2) = false := beq_eq_false_iff_ne.2 (by omega)
  have c3 : (op == 3) = false := beq_eq_false_iff_ne.2 (by omega)
  have c4 : (op == 4) = false := beq_eq_false_iff_ne.2 (by omega)
  simp only [arityI, c, c1, c2, c3, c4, Bool.or_self, Bool.false_eq_true, ↓reduceIte]
theorem much_s {x : Ex} (h : arityI x.op = 2 → (decide (5 ≤ x.op) && decide (x.op ≤ 17)) = true) (ha : arityI x.op ≤ 2) (s : St) : Fun Tryd.prog n_ref3_much [.agg (encEx x)] s (.int .i64 (muchR x)) s := by
  refine Fun.pure ?_ (by simp [D.oks, D.ok, okEx]) rfl s
  have h1 := fun s => Arity_s x.op s
  unfold S0 muchR
  by_cases c : arityI x.op < 2
  · have c1 : decide (arityI x.op < 2) = true := decide_eq_true c
    rw [if_pos c]
    refine Fun.go has_ref3_much rfl fun B Q hB hQ => ?_
    have hlt : 0 < 1 := Nat.zero_lt_one
    have hget : 0 < 1 := Nat.zero_lt_one
    have hpu : 0 < 1 := Nat.zero_lt_one
    have hinc : 0 < 1 := Nat.zero_lt_one
    repeat' (first
 | simp only [go_sem, hlt, hget, hpu, hinc, Int.reduceLE, ↓reduceIte, reduceCtorEq, Nat.reduceEqDiff, Nat.reduceLeDiff, Nat.reduceAdd, Nat.reduceMul, Nat.reduceSub, Nat.reduceLT, c1]
 | (with_reducible refine CU (h1 _) ?_)
 | (with_reducible first | refine CB_ofT (by assumption) fun hc => ?_ | refine CB_ofF (by assumption) fun hc => ?_ | refine CB_split (fun hc => ?_) fun hc => ?_) <;> (try simp only [hc, bs, ↓reduceIte] at h) <;> (try simp only [hc])
 | ((with_reducible first | refine leafR hQ ?_ | refine leafN hQ ?_); (try cases h); simp only [resL, oneD, Option.some.injEq, exists_eq_left', go_sem, hlt, hget, hpu, hinc, Int.reduceLE, ↓reduceIte, reduceCtorEq, Nat.reduceEqDiff, Nat.reduceLeDiff, Nat.reduceAdd, Nat.reduceMul, Nat.reduceSub, Nat.reduceLT, c1]; repeat' (first | exact Ok.out | with_reducible refine And.intro ?_ ?_ | (simp; done)))
 | (cases h; replace h := hr; clear hr; (try simp only [bs, ↓reduceIte] at h))
 | (cases h; done))
  · have c1 : decide (arityI x.op < 2) = false := decide_eq_false c
    have ho := h (by omega)
    rw [if_neg c]
    unfold bindB
    refine Fun.go has_ref3_much rfl fun B Q hB hQ => ?_
    have hlt : 0 < 1 := Nat.zero_lt_one
    have hget : 0 < 1 := Nat.zero_lt_one
    have hpu : 0 < 1 := Nat.zero_lt_one
    have hinc : 0 < 1 := Nat.zero_lt_one
    repeat' (first
 | simp only [go_sem, hlt, hget, hpu, hinc, Int.reduceLE, ↓reduceIte, reduceCtorEq, Nat.reduceEqDiff, Nat.reduceLeDiff, Nat.reduceAdd, Nat.reduceMul, Nat.reduceSub, Nat.reduceLT, c1]
 | (with_reducible refine CU (h1 _) ?_)
 | (with_reducible refine CU (signs_s ho _) ?_)
 | (with_reducible refine CU (Binds_s _ _) ?_)
 | (with_reducible first | refine CB_ofT (by assumption) fun hc => ?_ | refine CB_ofF (by assumption) fun hc => ?_ | refine CB_split (fun hc => ?_) fun hc => ?_) <;> (try simp only [hc, bs, ↓reduceIte] at h) <;> (try simp only [hc])
 | ((with_reducible first | refine leafR hQ ?_ | refine leafN hQ ?_); (try cases h); simp only [resL, oneD, Option.some.injEq, exists_eq_left', go_sem, hlt, hget, hpu, hinc, Int.reduceLE, ↓reduceIte, reduceCtorEq, Nat.reduceEqDiff, Nat.reduceLeDiff, Nat.reduceAdd, Nat.reduceMul, Nat.reduceSub, Nat.reduceLT, c1]; repeat' (first | exact Ok.out | with_reducible refine And.intro ?_ ?_ | (simp; done)))
 | (cases h; replace h := hr; clear hr; (try simp only [bs, ↓reduceIte] at h))
 | (cases h; done))

theorem rkid_s {x : Ex} (hF : FormI x) (hn : x.nodes ≤ 1000000) (he : ∀ s : St, Fun Tryd.prog n_ref3_expr [.agg (encEx x)] s (.str (prE 0 x)) s) {least : Int} (hl : least ≤ 7) (s : St) : Fun Tryd.prog n_ref3_kid [.agg (encEx x), .int .i64 least] s (.str (prE least x)) s := by
  refine Fun.pure ?_ (by simp [D.oks, D.ok, okEx]) rfl s
  have hm : ∀ s : St, Fun Tryd.prog n_ref3_much [.agg (encEx x)] s (.int .i64 (muchR x)) s := by
    cases hF with
    | num n => exact fun s => much_s (by intro h; simp [arityI] at h) (by simp [arityI]) s
    | name n => exact fun s => much_s (by intro h; simp [arityI] at h) (by simp [arityI]) s
    | neg n => exact fun s => much_s (by intro h; simp [arityI] at h) (by simp [arityI]) s
    | no n => exact fun s => much_s (by intro h; simp [arityI] at h) (by simp [arityI]) s
    | two op a b ho => exact fun s => much_s (fun _ => ho) (by simp only [arity2 ho]; omega) s
  have key : prE least x = if muchR x < least then [40] ++ prE 0 x ++ [41] else prE 0 x := by
    cases hF with
    | num n => rw [if_neg (by simp [muchR, arityI]; omega)]; simp only [pr_num]
    | name n => rw [if_neg (by simp [muchR, arityI]; omega)]; simp only [pr_name]
    | neg n => rw [if_neg (by simp [muchR, arityI]; omega)]; simp only [pr_neg]
    | no n => rw [if_neg (by simp [muchR, arityI]; omega)]; simp only [pr_no]
    | two op a b ho =>
      obtain ⟨p1, p2, _⟩ := bindB_pos ho
      have : muchR ⟨op, 0, [], [a, b]⟩ = bindB op := by unfold muchR; simp only [arity2 ho]; rfl
      rw [this, pr_two, pr_two, if_neg (c := bindB op < 0) (by omega)]
  have lx := prE_len hF 0
  have m1 : (1 : Nat) + (prE 0 x).length ≤ maxStr := by unfold maxStr; omega
  have m2 : (prE 0 x).length + 1 + 1 ≤ maxStr := by unfold maxStr; omega
  rw [key]
  unfold S0
  by_cases c : muchR x < least
  · have c1 : decide (muchR x < least) = true := decide_eq_true c
    rw [if_pos c]
    refine Fun.go has_ref3_kid rfl fun B Q hB hQ => ?_
    have hlt : 0 < 1 := Nat.zero_lt_one
    have hget : 0 < 1 := Nat.zero_lt_one
    have hpu : 0 < 1 := Nat.zero_lt_one
    have hinc : 0 < 1 := Nat.zero_lt_one
    repeat' (first
 | simp only [go_sem, hlt, hget, hpu, hinc, Int.reduceLE, ↓reduceIte, reduceCtorEq, Nat.reduceEqDiff, Nat.reduceLeDiff, Nat.reduceAdd, Nat.reduceMul, Nat.reduceSub, Nat.reduceLT, c1, m1, m2]
 | (with_reducible refine CU (hm _) ?_)
 | (with_reducible refine CU (he _) ?_)
 | (with_reducible first | refine CB_ofT (by assumption) fun hc => ?_ | refine CB_ofF (by assumption) fun hc => ?_ | refine CB_split (fun hc => ?_) fun hc => ?_) <;> (try simp only [hc, bs, ↓reduceIte] at h) <;> (try simp only [hc])
 | ((with_reducible first | refine leafR hQ ?_ | refine leafN hQ ?_); (try cases h); simp only [resL, oneD, Option.some.injEq, exists_eq_left', go_sem, hlt, hget, hpu, hinc, Int.reduceLE, ↓reduceIte, reduceCtorEq, Nat.reduceEqDiff, Nat.reduceLeDiff, Nat.reduceAdd, Nat.reduceMul, Nat.reduceSub, Nat.reduceLT, c1, m1, m2]; repeat' (first | exact Ok.out | with_reducible refine And.intro ?_ ?_ | (simp; done)))
 | (cases h; replace h := hr; clear hr; (try simp only [bs, ↓reduceIte] at h))
 | (cases h; done))
  · have c1 : decide (muchR x < least) = false := decide_eq_false c
    rw [if_neg c]
    refine Fun.go has_ref3_kid rfl fun B Q hB hQ => ?_
    have hlt : 0 < 1 := Nat.zero_lt_one
    have hget : 0 < 1 := Nat.zero_lt_one
    have hpu : 0 < 1 := Nat.zero_lt_one
    have hinc : 0 < 1 := Nat.zero_lt_one
    repeat' (first
 | simp only [go_sem, hlt, hget, hpu, hinc, Int.reduceLE, ↓reduceIte, reduceCtorEq, Nat.reduceEqDiff, Nat.reduceLeDiff, Nat.reduceAdd, Nat.reduceMul, Nat.reduceSub, Nat.reduceLT, c1]
 | (with_reducible refine CU (hm _) ?_)
 | (with_reducible refine CU (he _) ?_)
 | (with_reducible first | refine CB_ofT (by assumption) fun hc => ?_ | refine CB_ofF (by assumption) fun hc => ?_ | refine CB_split (fun hc => ?_) fun hc => ?_) <;> (try simp only [hc, bs, ↓reduceIte] at h) <;> (try simp only [hc])
 | ((with_reducible first | refine leafR hQ ?_ | refine leafN hQ ?_); (try cases h); simp only [resL, oneD, Option.some.injEq, exists_eq_left', go_sem, hlt, hget, hpu, hinc, Int.reduceLE, ↓reduceIte, reduceCtorEq, Nat.reduceEqDiff, Nat.reduceLeDiff, Nat.reduceAdd, Nat.reduceMul, Nat.reduceSub, Nat.reduceLT, c1]; repeat' (first | exact Ok.out | with_reducible refine And.intro ?_ ?_ | (simp; done)))
 | (cases h; replace h := hr; clear hr; (try simp only [bs, ↓reduceIte] at h))
 | (cases h; done))

theorem rexpr_s {x : Ex} (h : FormI x) : x.nodes ≤ 1000000 → ∀ s : St, Fun Tryd.prog n_ref3_expr [.agg (encEx x)] s (.str (prE 0 x)) s := by
  induction h with
  | num n h0 h1 => intro _ s; rw [pr_num]; exact expr_num h0 h1 s
  | name t h => intro _ s; rw [pr_name]; exact expr_name t s
  | neg y hy ih =>
    intro hn s
    refine Fun.pure ?_ (by simp [D.oks, D.ok, okEx]) rfl s
    simp only [Ex.nodes, Ex.nodess] at hn
    have i1 := rkid_s hy (by omega) (ih (by omega)) (least := 7) (by omega)
    have l1 := prE_len hy 7
    have m1 : (1 : Nat) + (prE 7 y).length ≤ maxStr := by unfold maxStr; omega
    have a1 : arityI 3 = 1 := rfl
    have b0 : ((1 : Int) == 0) = false := rfl
    have b1 : ((1 : Int) == 1) = true := rfl
    have b3 : ((3 : Int) == 3) = true := rfl
    rw [pr_neg]
    unfold S0
    refine Fun.go has_ref3_expr rfl fun B Q hB hQ => ?_
    have hlt : 0 < 1 := Nat.zero_lt_one
    have hget : 0 < 1 := Nat.zero_lt_one
    have hpu : 0 < 1 := Nat.zero_lt_one
    have hinc : 0 < 1 := Nat.zero_lt_one
    repeat' (first
 | simp only [go_sem, hlt, hget, hpu, hinc, Int.reduceLE, ↓reduceIte, reduceCtorEq, Nat.reduceEqDiff, Nat.reduceLeDiff, Nat.reduceAdd, Nat.reduceMul, Nat.reduceSub, Nat.reduceLT, a1, b0, b1, b3, m1]
 | (with_reducible refine CU (Arity_s _ _) ?_)
 | (with_reducible refine CU (i1 _) ?_)
 | (with_reducible first | refine CB_ofT (by assumption) fun hc => ?_ | refine CB_ofF (by assumption) fun hc => ?_ | refine CB_split (fun hc => ?_) fun hc => ?_) <;> (try simp only [hc, bs, ↓reduceIte] at h) <;> (try simp only [hc])
 | ((with_reducible first | refine leafR hQ ?_ | refine leafN hQ ?_); (try cases h); simp only [resL, oneD, Option.some.injEq, exists_eq_left', go_sem, hlt, hget, hpu, hinc, Int.reduceLE, ↓reduceIte, reduceCtorEq, Nat.reduceEqDiff, Nat.reduceLeDiff, Nat.reduceAdd, Nat.reduceMul, Nat.reduceSub, Nat.reduceLT, a1, b0, b1, b3, m1]; repeat' (first | exact Ok.out | with_reducible refine And.intro ?_ ?_ | (simp; done)))
 | (cases h; replace h := hr; clear hr; (try simp only [bs, ↓reduceIte] at h))
 | (cases h; done))
  | no y hy ih =>
    intro hn s
    refine Fun.pure ?_ (by simp [D.oks, D.ok, okEx]) rfl s
    simp only [Ex.nodes, Ex.nodess] at hn
    have i1 := rkid_s hy (by omega) (ih (by omega)) (least := 7) (by omega)
    have l1 := prE_len hy 7
    have m1 : (1 : Nat) + (prE 7 y).length ≤ maxStr := by unfold maxStr; omega
    have a1 : arityI 4 = 1 := rfl
    have b0 : ((1 : Int) == 0) = false := rfl
    have b1 : ((1 : Int) == 1) = true := rfl
    have b3 : ((4 : Int) == 3) = false := rfl
    rw [pr_no]
    unfold S0
    refine Fun.go has_ref3_expr rfl fun B Q hB hQ => ?_
    have hlt : 0 < 1 := Nat.zero_lt_one
    have hget : 0 < 1 := Nat.zero_lt_one
    have hpu : 0 < 1 := Nat.zero_lt_one
    have hinc : 0 < 1 := Nat.zero_lt_one
    repeat' (first
 | simp only [go_sem, hlt, hget, hpu, hinc, Int.reduceLE, ↓reduceIte, reduceCtorEq, Nat.reduceEqDiff, Nat.reduceLeDiff, Nat.reduceAdd, Nat.reduceMul, Nat.reduceSub, Nat.reduceLT, a1, b0, b1, b3, m1]
 | (with_reducible refine CU (Arity_s _ _) ?_)
 | (with_reducible refine CU (i1 _) ?_)
 | (with_reducible first | refine CB_ofT (by assumption) fun hc => ?_ | refine CB_ofF (by assumption) fun hc => ?_ | refine CB_split (fun hc => ?_) fun hc => ?_) <;> (try simp only [hc, bs, ↓reduceIte] at h) <;> (try simp only [hc])
 | ((with_reducible first | refine leafR hQ ?_ | refine leafN hQ ?_); (try cases h); simp only [resL, oneD, Option.some.injEq, exists_eq_left', go_sem, hlt, hget, hpu, hinc, Int.reduceLE, ↓reduceIte, reduceCtorEq, Nat.reduceEqDiff, Nat.reduceLeDiff, Nat.reduceAdd, Nat.reduceMul, Nat.reduceSub, Nat.reduceLT, a1, b0, b1, b3, m1]; repeat' (first | exact Ok.out | with_reducible refine And.intro ?_ ?_ | (simp; done)))
 | (cases h; replace h := hr; clear hr; (try simp only [bs, ↓reduceIte] at h))
 | (cases h; done))
  | two op a b ho ha hb iha ihb =>
    intro hn s
    refine Fun.pure ?_ (by simp [D.oks, D.ok, okEx]) rfl s
    simp only [Ex.nodes, Ex.nodess] at hn
    obtain ⟨p1, p2, _⟩ := bindB_pos ho
    have i1 := rkid_s ha (by omega) (iha (by omega)) (least := bindB op) (by omega)
    have i2 := rkid_s hb (by omega) (ihb (by omega)) (least := bindB op + 1) (by omega)
    have em : muchR ⟨op, 0, [], [a, b]⟩ = bindB op := by unfold muchR; simp only [arity2 ho]; rfl
    have hm := fun s => much_s (x := ⟨op, 0, [], [a, b]⟩) (fun _ => ho) (by simp only [arity2 ho]; omega) s
    rw [em] at hm
    simp only [encEx_eq, List.map_cons, List.map_nil] at hm
    simp only [← encEx_eq] at hm
    have l1 := prE_len ha (bindB op)
    have l2 := prE_len hb (bindB op + 1)
    have l3 := signR_len' ho
    have hw : IntKind.wrap .i64 (bindB op + 1) = bindB op + 1 := by rw [wrap_ok] <;> omega
    have m1 : (prE (bindB op) a).length + 1 ≤ maxStr := by unfold maxStr; omega
    have m2 : (prE (bindB op) a).length + 1 + (signR op).length ≤ maxStr := by unfold maxStr; omega
    have m3 : (prE (bindB op) a).length + 1 + (signR op).length + 1 ≤ maxStr := by unfold maxStr; omega
    have m4 : (prE (bindB op) a).length + 1 + (signR op).length + 1 + (prE (bindB op + 1) b).length ≤ maxStr := by unfold maxStr; omega
    have a1 := arity2 ho
    have b0 : ((2 : Int) == 0) = false := rfl
    have b1 : ((2 : Int) == 1) = false := rfl
    rw [pr_two, if_neg (by omega)]
    unfold prT
    unfold S0
    refine Fun.go has_ref3_expr rfl fun B Q hB hQ => ?_
    have hlt : 0 < 1 := Nat.zero_lt_one
    have hget : 0 < 1 := Nat.zero_lt_one
    have hpu : 0 < 1 := Nat.zero_lt_one
    have hinc : 0 < 1 := Nat.zero_lt_one
    repeat' (first
 | simp only [go_sem, hlt, hget, hpu, hinc, Int.reduceLE, ↓reduceIte, reduceCtorEq, Nat.reduceEqDiff, Nat.reduceLeDiff, Nat.reduceAdd, Nat.reduceMul, Nat.reduceSub, Nat.reduceLT, a1, b0, b1, hw, m1, m2, m3, m4, Int.toNat_one, List.getElem?_cons_succ, List.getElem?_cons_zero]
 | (with_reducible refine CU (Arity_s _ _) ?_)
 | (with_reducible refine CU (i1 _) ?_)
 | (with_reducible refine CU (i2 _) ?_)
 | (with_reducible refine CU (signs_s ho _) ?_)
 | (with_reducible refine CU (hm _) ?_)
 | (with_reducible first | refine CB_ofT (by assumption) fun hc => ?_ | refine CB_ofF (by assumption) fun hc => ?_ | refine CB_split (fun hc => ?_) fun hc => ?_) <;> (try simp only [hc, bs, ↓reduceIte] at h) <;> (try simp only [hc])
 | ((with_reducible first | refine leafR hQ ?_ | refine leafN hQ ?_); (try cases h); simp only [resL, oneD, Option.some.injEq, exists_eq_left', go_sem, hlt, hget, hpu, hinc, Int.reduceLE, ↓reduceIte, reduceCtorEq, Nat.reduceEqDiff, Nat.reduceLeDiff, Nat.reduceAdd, Nat.reduceMul, Nat.reduceSub, Nat.reduceLT, a1, b0, b1, hw, m1, m2, m3, m4, Int.toNat_one, List.getElem?_cons_succ, List.getElem?_cons_zero]; repeat' (first | exact Ok.out | with_reducible refine And.intro ?_ ?_ | (simp; done)))
 | (cases h; replace h := hr; clear hr; (try simp only [bs, ↓reduceIte] at h))
 | (cases h; done))

theorem rPrintExpr_s {x : Ex} (hr : x.rng) (hn : x.nodes ≤ 1000000) (ht : x.texts) (hs : x.size < 1000000000) (s : St) : Fun Tryd.prog n_ref3_PrintExpr [.agg (encEx x)] s (.str (printE x)) s := by
  refine Fun.pure ?_ (by simp [D.oks, D.ok, okEx]) rfl s
  have hm := MayExpr_s (x := x) (by omega) ht
  unfold S0
  unfold printE
  cases c : x.may with
  | true =>
    have he := rexpr_s (may_formI c hr) hn
    refine Fun.go has_ref3_PrintExpr rfl fun B Q hB hQ => ?_
    have hlt : 0 < 1 := Nat.zero_lt_one
    have hget : 0 < 1 := Nat.zero_lt_one
    have hpu : 0 < 1 := Nat.zero_lt_one
    have hinc : 0 < 1 := Nat.zero_lt_one
    repeat' (first
 | simp only [go_sem, hlt, hget, hpu, hinc, Int.reduceLE, ↓reduceIte, reduceCtorEq, Nat.reduceEqDiff, Nat.reduceLeDiff, Nat.reduceAdd, Nat.reduceMul, Nat.reduceSub, Nat.reduceLT, c, ↓reduceIte]
 | (with_reducible refine CU (hm _) ?_)
 | (with_reducible refine CU (he _) ?_)
 | (with_reducible first | refine CB_ofT (by assumption) fun hc => ?_ | refine CB_ofF (by assumption) fun hc => ?_ | refine CB_split (fun hc => ?_) fun hc => ?_) <;> (try simp only [hc, bs, ↓reduceIte] at h) <;> (try simp only [hc])
 | ((with_reducible first | refine leafR hQ ?_ | refine leafN hQ ?_); (try cases h); simp only [resL, oneD, Option.some.injEq, exists_eq_left', go_sem, hlt, hget, hpu, hinc, Int.reduceLE, ↓reduceIte, reduceCtorEq, Nat.reduceEqDiff, Nat.reduceLeDiff, Nat.reduceAdd, Nat.reduceMul, Nat.reduceSub, Nat.reduceLT, c, ↓reduceIte]; repeat' (first | exact Ok.out | with_reducible refine And.intro ?_ ?_ | (simp; done)))
 | (cases h; replace h := hr; clear hr; (try simp only [bs, ↓reduceIte] at h))
 | (cases h; done))
  | false =>
    refine Fun.go has_ref3_PrintExpr rfl fun B Q hB hQ => ?_
    have hlt : 0 < 1 := Nat.zero_lt_one
    have hget : 0 < 1 := Nat.zero_lt_one
    have hpu : 0 < 1 := Nat.zero_lt_one
    have hinc : 0 < 1 := Nat.zero_lt_one
    repeat' (first
 | simp only [go_sem, hlt, hget, hpu, hinc, Int.reduceLE, ↓reduceIte, reduceCtorEq, Nat.reduceEqDiff, Nat.reduceLeDiff, Nat.reduceAdd, Nat.reduceMul, Nat.reduceSub, Nat.reduceLT, c, ↓reduceIte]
 | (with_reducible refine CU (hm _) ?_)
 | (with_reducible first | refine CB_ofT (by assumption) fun hc => ?_ | refine CB_ofF (by assumption) fun hc => ?_ | refine CB_split (fun hc => ?_) fun hc => ?_) <;> (try simp only [hc, bs, ↓reduceIte] at h) <;> (try simp only [hc])
 | ((with_reducible first | refine leafR hQ ?_ | refine leafN hQ ?_); (try cases h); simp only [resL, oneD, Option.some.injEq, exists_eq_left', go_sem, hlt, hget, hpu, hinc, Int.reduceLE, ↓reduceIte, reduceCtorEq, Nat.reduceEqDiff, Nat.reduceLeDiff, Nat.reduceAdd, Nat.reduceMul, Nat.reduceSub, Nat.reduceLT, c, ↓reduceIte]; repeat' (first | exact Ok.out | with_reducible refine And.intro ?_ ?_ | (simp; done)))
 | (cases h; replace h := hr; clear hr; (try simp only [bs, ↓reduceIte] at h))
 | (cases h; done))

/-! ### Texts -/

def joinF (sep : Str) : Nat → List Str → Str
  | _, [] => []
  | k, a :: l => (if k = 0 then [] else sep) ++ (a ++ joinF sep (k + 1) l)
end Go.Abs

/-! Pr6 -/

namespace Go.Abs

set_option maxRecDepth 8000
set_option linter.unusedSimpArgs false
set_option linter.unusedVariables false
open Go.Proofs

/-- A statement's first line. -/
def lineT (s : Sm) : Str := if s.kind = 6 then [119, 104, 105, 108, 101, 32, 40] ++ prE 0 s.x ++ [41, 32, 123] else if s.kind = 5 then [105, 102, 32, 40] ++ prE 0 s.x ++ [41, 32, 123] else plainS s.kind s.name s.proc s.x s.has s.args ++ [59]

end Go.Abs

/-! Pr7 -/

namespace Go.Abs

set_option maxRecDepth 8000
set_option linter.unusedSimpArgs false
set_option linter.unusedVariables false
open Go.Proofs

end Go.Abs

/-! Pr8 -/

namespace Go.Abs

set_option maxRecDepth 8000
set_option linter.unusedSimpArgs false
set_option linter.unusedVariables false
open Go.Proofs

end Go.Abs

/-! Some -/

namespace Go.Abs

set_option maxRecDepth 8000
set_option linter.unusedSimpArgs false
set_option linter.unusedVariables false
open Go.Proofs

theorem some_may : some0.may = true := by decide +kernel
theorem some_text : textS some0 = source := by decide +kernel
theorem some_rng : some0.rng := by
  intro f hf
  simp only [some0, List.mem_cons, List.not_mem_nil, or_false] at hf
  rcases hf with rfl | rfl <;> simp [Sm.rngs, Sm.rng, Ex.rng, Ex.rngs, exNum, exName, exTwo, ex0]

def prB : Pc := ⟨[112], [⟨[120], false⟩, ⟨[121], true⟩], [], [
    ⟨5, 1, [], [121], [], exTwo 8 (exName [121]) (exName [120]), false, [], [], []⟩,
    ⟨6, 5, [], [], [], exTwo 12 (exName [121]) (exNum 9), false, [], [⟨7, 10, [], [101], [], ex0, false, [], [], []⟩], []⟩,
    ⟨8, 9, [], [], [], exName [121], true, [], [], []⟩], [[101]]⟩
def stB : Sm := ⟨6, 5, [], [], [], exTwo 12 (exName [121]) (exNum 9), false, [], [⟨7, 10, [], [101], [], ex0, false, [], [], []⟩], []⟩
theorem some_prB : some0.procs[1]? = some prB := rfl
theorem some_stB : prB.body[1]? = some stB := rfl

theorem printed5_s (s : St) : Fun Tryd.prog n_law5_printed [] s (.bool true) s := by
  refine Fun.pure ?_ rfl rfl s
  have hsz : some0.size ≤ 1000000 := by decide +kernel
  have h1 := pText_s (may_FineP some_may (by omega)) (fun _ => may_PrG some_may some_rng) hsz
  rw [if_pos some_may, some_text] at h1
  have h2 := pExpr_s (x := stB.x) (by simp [stB, Ex.rng, Ex.rngs, exNum, exName, exTwo]) (by decide) (by simp [stB, Ex.texts, Ex.textss, exNum, exName, exTwo]) (by decide)
  have e : printE stB.x = [121, 32, 62, 32, 57] := by decide +kernel
  rw [e] at h2
  have b1 : (source == source) = true := beq_self_eq_true _
  have b2 : (([121, 32, 62, 32, 57] : Str) == [121, 32, 62, 32, 57]) = true := rfl
  have e1 := some_prB
  have e2 := some_stB
  have hS := fun s => Some_s s
  generalize some0 = P at *
  generalize prB = F at *
  generalize stB = T at *
  unfold S0
  refine Fun.go has_law5_printed rfl fun B Q hB hQ => ?_
  have hlt : 0 < 1 := Nat.zero_lt_one
  have hget : 0 < 1 := Nat.zero_lt_one
  have hpu : 0 < 1 := Nat.zero_lt_one
  have hinc : 0 < 1 := Nat.zero_lt_one
  repeat' (first
 | simp only [go_sem, hlt, hget, hpu, hinc, Int.reduceLE, ↓reduceIte, reduceCtorEq, Nat.reduceEqDiff, Nat.reduceLeDiff, Nat.reduceAdd, Nat.reduceMul, Nat.reduceSub, Nat.reduceLT, Int.toNat_one, e1, e2, b1, b2]
 | (with_reducible refine CU (hS _) ?_)
 | (with_reducible refine CU (h1 _) ?_)
 | (with_reducible refine CU (h2 _) ?_)
 | (with_reducible refine CU (Source_s _) ?_)
 | (with_reducible first | refine CB_ofT (by assumption) fun hc => ?_ | refine CB_ofF (by assumption) fun hc => ?_ | refine CB_split (fun hc => ?_) fun hc => ?_) <;> (try simp only [hc, bs, ↓reduceIte] at h) <;> (try simp only [hc])
 | ((with_reducible first | refine leafR hQ ?_ | refine leafN hQ ?_); (try cases h); simp only [resL, oneD, Option.some.injEq, exists_eq_left', go_sem, hlt, hget, hpu, hinc, Int.reduceLE, ↓reduceIte, reduceCtorEq, Nat.reduceEqDiff, Nat.reduceLeDiff, Nat.reduceAdd, Nat.reduceMul, Nat.reduceSub, Nat.reduceLT, Int.toNat_one, e1, e2, b1, b2]; repeat' (first | exact Ok.out | with_reducible refine And.intro ?_ ?_ | (simp; done)))
 | (cases h; replace h := hr; clear hr; (try simp only [bs, ↓reduceIte] at h))
 | (cases h; done))

end Go.Abs

/-! LawPr1 -/

namespace Go.Abs

set_option maxRecDepth 8000
set_option linter.unusedSimpArgs false
set_option linter.unusedVariables false
open Go.Proofs

theorem weighE_fits {x : Ex} (h : weighE x 0 ≤ 20000) : x.size ≤ 40001 ∧ x.texts := by
  obtain ⟨a1, a2, a3, a4⟩ := weigh_in _ x (Nat.le_refl _) 0 (by omega)
  obtain ⟨b1, b2⟩ := a4 h
  exact ⟨by omega, b2⟩

theorem printExpr_s {x : Ex} (hr : x.rng) (s : St) : Fun Tryd.prog n_law5_PrintExpr [.agg (encEx x)] s (.bool true) s := by
  refine Fun.pure ?_ (by simp [D.oks, D.ok, okEx]) rfl s
  have h0 := fun s => printed5_s s
  have hf := fun s => FitsExpr_s x s
  unfold S0
  cases c : decide (weighE x 0 ≤ 20000) with
  | false =>
    refine Fun.go has_law5_PrintExpr rfl fun B Q hB hQ => ?_
    have hlt : 0 < 1 := Nat.zero_lt_one
    have hget : 0 < 1 := Nat.zero_lt_one
    have hpu : 0 < 1 := Nat.zero_lt_one
    have hinc : 0 < 1 := Nat.zero_lt_one
    repeat' (first
 | simp only [go_sem, hlt, hget, hpu, hinc, Int.reduceLE, ↓reduceIte, reduceCtorEq, Nat.reduceEqDiff, Nat.reduceLeDiff, Nat.reduceAdd, Nat.reduceMul, Nat.reduceSub, Nat.reduceLT, c]
 | (with_reducible refine CU (h0 _) ?_)
 | (with_reducible refine CU (hf _) ?_)
 | (with_reducible first | refine CB_ofT (by assumption) fun hc => ?_ | refine CB_ofF (by assumption) fun hc => ?_ | refine CB_split (fun hc => ?_) fun hc => ?_) <;> (try simp only [hc, bs, ↓reduceIte] at h) <;> (try simp only [hc])
 | ((with_reducible first | refine leafR hQ ?_ | refine leafN hQ ?_); (try cases h); simp only [resL, oneD, Option.some.injEq, exists_eq_left', go_sem, hlt, hget, hpu, hinc, Int.reduceLE, ↓reduceIte, reduceCtorEq, Nat.reduceEqDiff, Nat.reduceLeDiff, Nat.reduceAdd, Nat.reduceMul, Nat.reduceSub, Nat.reduceLT, c]; repeat' (first | exact Ok.out | with_reducible refine And.intro ?_ ?_ | (simp; done)))
 | (cases h; replace h := hr; clear hr; (try simp only [bs, ↓reduceIte] at h))
 | (cases h; done))
  | true =>
    obtain ⟨hs, ht⟩ := weighE_fits (of_decide_eq_true c)
    have hn := nodes_size _ x (Nat.le_refl _)
    have h1 := fun s => pExpr_s hr (by omega) ht (by omega) s
    have h2 := fun s => rPrintExpr_s hr (by omega) ht (by omega) s
    have b1 : (printE x == printE x) = true := beq_self_eq_true _
    generalize printE x = T at *
    refine Fun.go has_law5_PrintExpr rfl fun B Q hB hQ => ?_
    have hlt : 0 < 1 := Nat.zero_lt_one
    have hget : 0 < 1 := Nat.zero_lt_one
    have hpu : 0 < 1 := Nat.zero_lt_one
    have hinc : 0 < 1 := Nat.zero_lt_one
    repeat' (first
 | simp only [go_sem, hlt, hget, hpu, hinc, Int.reduceLE, ↓reduceIte, reduceCtorEq, Nat.reduceEqDiff, Nat.reduceLeDiff, Nat.reduceAdd, Nat.reduceMul, Nat.reduceSub, Nat.reduceLT, c, b1]
 | (with_reducible refine CU (h0 _) ?_)
 | (with_reducible refine CU (hf _) ?_)
 | (with_reducible refine CU (h1 _) ?_)
 | (with_reducible refine CU (h2 _) ?_)
 | (with_reducible first | refine CB_ofT (by assumption) fun hc => ?_ | refine CB_ofF (by assumption) fun hc => ?_ | refine CB_split (fun hc => ?_) fun hc => ?_) <;> (try simp only [hc, bs, ↓reduceIte] at h) <;> (try simp only [hc])
 | ((with_reducible first | refine leafR hQ ?_ | refine leafN hQ ?_); (try cases h); simp only [resL, oneD, Option.some.injEq, exists_eq_left', go_sem, hlt, hget, hpu, hinc, Int.reduceLE, ↓reduceIte, reduceCtorEq, Nat.reduceEqDiff, Nat.reduceLeDiff, Nat.reduceAdd, Nat.reduceMul, Nat.reduceSub, Nat.reduceLT, c, b1]; repeat' (first | exact Ok.out | with_reducible refine And.intro ?_ ?_ | (simp; done)))
 | (cases h; replace h := hr; clear hr; (try simp only [bs, ↓reduceIte] at h))
 | (cases h; done))

end Go.Abs

/-! Glue2 -/

namespace Go.Abs

def M0 : Map := ⟨fun _ _ => none, fun _ => (0, none), fun _ => none⟩

/-- Of what was there nothing turns. -/
def Kept (w w' : World) : Prop := w.keptBut w' (fun _ => False) ∧ ∀ a : Addr, a.block < w.heap.size → w'.frozen? a = w.frozen? a

theorem Kept.frame {w w' : World} (h : Kept w w') (may : MemPlace → Prop) : w.keptBut w' may := World.keptBut_mono (fun _ f => f.elim) h.1

theorem Ext.toKept {M M' : Map} {s' : St} {w w' : World} (e : Ext M S0 w M' s' w') : Kept w w' := by
  have hh : ∀ b, b < w.heap.size → w'.heap[b]? = w.heap[b]? := fun b hb =>
    e.kept b hb (fun o ho => by simp [S0] at ho) (fun t c z hl => by obtain ⟨n, hn⟩ := hl; simp [S0] at hn)
  refine ⟨⟨e.os, e.output, fun i hi => ?_⟩, fun a ha => ?_⟩
  · rw [hh i hi]
    exact (World.keptBut_refl w (fun _ => False)).2.2 i hi
  · simp only [World.frozen?, hh _ ha]

theorem rel0 (G : Nat → Nat → Option Value) (w : World) (h : ∀ b o v, G b o = some v → w.cell? ⟨b, o, none⟩ = some v ∧ v.oneCell' = true) : Rel ⟨G, fun _ => (0, none), fun _ => none⟩ S0 w :=
  ⟨h, fun o ds e => by simp [S0] at e, fun o ho => by simp [S0] at ho, fun o o' ho => by simp [S0] at ho, fun t n e => by simp [S0] at e,
    fun t b c z o hl => by obtain ⟨n, hn⟩ := hl; simp [S0] at hn, fun t t' b c z c' z' hl => by obtain ⟨n, hn⟩ := hl; simp [S0] at hn⟩

/-- The listed variables hold what they hold, in a world. -/
def LaidW (w : World) : Prop := ∀ g cs, tabs g = some cs → ∃ T fr, w.heap[g]? = some (.cells cs T fr)
theorem laid0 (G : Nat → Nat → Option Value) {w : World} (h : LaidW w) : Laid ⟨G, fun _ => (0, none), fun _ => none⟩ S0 w :=
  fun g cs hg => ⟨h g cs hg, fun o ho => by simp [S0] at ho, fun t c z hl => by obtain ⟨n, hn⟩ := hl; simp [S0] at hn⟩

/-- A law is called. -/
theorem law_calls {P : Program} {f : FuncId} {args : List D} {vargs : Array Value} {w : World} {G : Nat → Nat → Option Value} (h : ACalls P f args S0 fun d _ => d = .bool true)
    (hG : ∀ b o v, G b o = some v → w.cell? ⟨b, o, none⟩ = some v ∧ v.oneCell' = true) (hl : vargs.size = args.length)
    (ha : ∀ (i : Nat) (d : D) (v : Value), args[i]? = some d → vargs[i]? = some v → RD ⟨G, fun _ => (0, none), fun _ => none⟩ S0 d v) (hlaid : LaidW w) :
    Calls P f vargs w fun e w' => e = .returned (.bool true) ∧ Kept w w' := by
  refine (h _ w vargs (rel0 G w hG) (laid0 G hlaid) hl ha).mono fun e w' hw => ?_
  obtain ⟨M', d, v, s', rfl, rfl, he, _, hv⟩ := hw
  rw [hv.bool_inv]
  exact ⟨rfl, he.toKept⟩

section
variable {P : Program} {H : Type} {enc : TypeId × Value → H}

/-- The row's closing condition, where nothing turns of what was there. -/
theorem post_of_kept {f : Func} {s : ChangeSpec} {apart fresh handsOn again : Bool} {W W' : World} {args : Array Value} {v : Value} {ds gs : List (DataW H)} {before pa pv : List MemPlace}
    (hW : DataW.Whole enc P f.params.toList s.vars apart W args.toList ds gs before)
    (hres : ∀ (b : Nat) (sp : Nat → Bool) (hd : Bool), DataW.TrodAll enc P W' b sp hd f.resultTypes.toList (v.resultList f.resultTypes.size) (s.fn H (ds ++ gs)).results [])
    (hargs : ∀ sp : Nat → Bool, (∀ p ∈ before, sp p.block = true) → DataW.TrodAll enc P W' 0 sp true f.params.toList args.toList (s.fn H (ds ++ gs)).args pa)
    (hvars : ∀ sp : Nat → Bool, (∀ p ∈ before, sp p.block = true) → DataW.TrodVars enc P W' sp s.vars (s.fn H (ds ++ gs)).vars pv)
    (hps : before = pa ++ pv) (hk : Kept W W')
    (hok : ∀ (j : Nat) (t : TypeId) (r : Value), f.resultTypes[j]? = some t → (v.resultList f.resultTypes.size)[j]? = some r → Value.okWide P W' .any 0 t r) :
    s.post enc P f apart fresh handsOn again W args v W' := by
  have hlt : ∀ p ∈ before, p.block < W.heap.size := fun p hp => hW.lt p hp
  have hold : ∀ p ∈ before, (fun b => decide (b < W.heap.size)) p.block = true := fun p hp => by simpa using hlt p hp
  refine ⟨ds, gs, before, [], pa, pv, hW, hres _ _ _, hargs _ hold, hvars _ hold, World.keptBut_mono (fun p hp => ⟨hp, ?_⟩) (hk.frame (· ∈ before)), fun _ => ?_⟩
  · rw [hps, List.mem_append] at hp
    exact Or.inr hp
  · obtain ⟨_, _, _, _, _, hz, hn⟩ := hW
    refine ⟨hok, _, _, ([] ++ pa) ++ pv, ⟨[] ++ pa, pv, ChangeShapes.trodAll_append (hargs _ (fun _ _ => rfl)) (hres _ _ _), hvars _ (fun _ _ => rfl), rfl, ?_, ?_⟩, ?_⟩
    · intro b off hp
      have hp' : MemPlace.cell b off ∈ before := by rw [hps]; simpa using hp
      rw [hk.2 _ (hlt _ hp')]
      exact hz b off hp'
    · intro ha
      have := hn ha
      rw [hps] at this
      simpa using this
    · intro p hp _
      rw [hps]
      simpa using hp
end
end Go.Abs

/-! Join -/

namespace Go.Abs
open Go.RowKit Go.ChangeShapes Go.WideShapes

/-- All that can be read. -/
def memG (w : World) (b o : Nat) : Option Value :=
  match w.cell? ⟨b, o, none⟩ with
  | some v => if v.oneCell' = true then some v else none
  | none => none
theorem memG_ok {w : World} (b o : Nat) (v : Value) (h : memG w b o = some v) : w.cell? ⟨b, o, none⟩ = some v ∧ v.oneCell' = true := by
  unfold memG at h
  split at h
  · split at h
    · cases h; exact ⟨‹_›, ‹_›⟩
    · cases h
  · cases h
/-- All of it is fixed. -/
def memM (w : World) : Map := ⟨memG w, fun _ => (0, none), fun _ => none⟩

theorem Kept.sameAt {w w' : World} (h : Kept w w') {p : MemPlace} (hp : p.block < w.heap.size) : w.sameAt w' p := by
  have hk := h.1.2.2 p.block hp
  cases p with
  | cell b off =>
    simp only [MemPlace.block] at hk hp
    simp only [World.sameAt, World.cell?]
    split at hk
    · rename_i c t fr c' t' fr' e e'
      rw [e, e']
      simp only [hk.2.2.2 off (fun f => f)]
    · rename_i es clock es' clock' e e'
      rw [e, e']
    · rw [hk]
  | map b =>
    simp only [MemPlace.block] at hk hp
    simp only [World.sameAt]
    split at hk
    · rename_i c t fr c' t' fr' e e'
      rw [e, e']
      obtain ⟨rfl, rfl, hs, hc⟩ := hk
      have : c' = c := by
        apply Array.ext_getElem?
        intro i
        exact hc i (fun f => f)
      rw [this]
    · rename_i es clock es' clock' e e'
      rcases hk with f | ⟨rfl, rfl⟩
      · exact f.elim
      · rw [e, e']
    · exact hk

section
variable {P : Program} {H : Type} {enc : TypeId × Value → H} {T : TypeId → Prop}

theorem args_again (K : Kids P T) (hz : ∀ {t e : TypeId}, T t → P.underlying t = some (.slice e) → 0 < P.cellsOf e) {W W' : World} (hk : Kept W W') {sp : Nat → Bool} :
    ∀ {ts : List TypeId} {vs : List Value} {ds : List (DataW H)} {ps : List MemPlace}, (∀ t ∈ ts, T t) → (∀ p ∈ ps, p.block < W.heap.size) → (∀ p ∈ ps, sp p.block = true) →
      DataW.TrodAll enc P W 0 (fun _ => true) true ts vs ds ps → DataW.TrodAll enc P W' 0 sp true ts vs ds ps
  | [], [], [], _, _, _, _, h => h
  | t :: ts, v :: vs, d :: ds, ps, hT, hlt, hs, ⟨p, q, ⟨n, h1⟩, h2, e⟩ => by
    subst e
    refine ⟨p, q, ⟨n, DataW.trod_stays K hz (fun f => by cases f) (hT t (List.mem_cons_self ..)) h1 (fun x hx => hk.sameAt (hlt x (List.mem_append_left _ hx))) (fun x hx => hs x (List.mem_append_left _ hx))⟩, ?_, rfl⟩
    exact args_again K hz hk (fun t ht => hT t (List.mem_cons_of_mem _ ht)) (fun x hx => hlt x (List.mem_append_right _ hx)) (fun x hx => hs x (List.mem_append_right _ hx)) h2
  | [], [], _ :: _, _, _, _, _, h => h.elim
  | [], _ :: _, _, _, _, _, _, h => h.elim
  | _ :: _, [], _, _, _, _, _, h => h.elim
  | _ :: _, _ :: _, [], _, _, _, _, h => h.elim

/-- The row's closing condition. -/
theorem law_post (K : Kids P T) (hz : ∀ {t e : TypeId}, T t → P.underlying t = some (.slice e) → 0 < P.cellsOf e) {f : Func} {s : ChangeSpec} {apart fresh handsOn again : Bool} {tb : TypeId} {W W' : World} {args : Array Value} {ds gs : List (DataW H)} {before : List MemPlace}
    (hT : ∀ t ∈ f.params.toList, T t) (hb : P.underlying tb = some .bool) (hr : f.resultTypes = #[tb]) (hvars : s.vars = []) (hW : DataW.Whole enc P f.params.toList s.vars apart W args.toList ds gs before)
    (hfn : s.fn H (ds ++ gs) = { results := [.lit (.bool true)], args := ds }) (hk : Kept W W') : s.post enc P f apart fresh handsOn again W args (.bool true) W' := by
  have hW' := hW
  have hlt : ∀ p ∈ before, p.block < W.heap.size := fun p hp => hW.lt p hp
  obtain ⟨p, q, hA, hV, rfl, hfz, hnd⟩ := hW
  rw [hvars] at hV
  obtain ⟨rfl, rfl⟩ := trodVars_none hV
  simp only [List.append_nil] at hlt hfn
  refine post_of_kept (pa := p) (pv := []) hW' (fun b sp hd => ?_) (fun sp hsp => ?_) (fun sp hsp => ?_) rfl hk (ok_one hr rfl (okWide_bool_mk hb _))
  · rw [List.append_nil, hfn, hr]
    exact trodAll_cons_mk (shut_bool hb _) trodAll_mk0
  · rw [List.append_nil, hfn]
    simp only [List.append_nil] at hsp
    exact args_again K hz hk hT hlt hsp hA
  · rw [List.append_nil, hfn, hvars]
    rfl

/-- A law is called with arguments that can be read. -/
theorem law_run {f : FuncId} {args : List D} {vargs : Array Value} {w : World} (h : ACalls P f args S0 fun d _ => d = .bool true) (hl : vargs.size = args.length)
    (ha : ∀ (i : Nat) (d : D) (v : Value), args[i]? = some d → vargs[i]? = some v → RD (memM w) S0 d v) (hlaid : LaidW w) : Calls P f vargs w fun e w' => e = .returned (.bool true) ∧ Kept w w' :=
  law_calls (G := memG w) h memG_ok hl ha hlaid
end

end Go.Abs

/-! Join2 -/

namespace Go.Abs
set_option linter.unusedSimpArgs false
set_option linter.unusedVariables false
open Go.RowKit Go.ChangeShapes Go.WideShapes

end Go.Abs
