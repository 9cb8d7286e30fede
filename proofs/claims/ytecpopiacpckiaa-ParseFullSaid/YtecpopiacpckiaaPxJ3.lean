/-
  What is proved here: part 3 of the road to the claim (Prs6, MirLex, Lex1, Lex2, Lex3, Tree1, Tree2, MirParse, Prs7, Tot, Tot2, Tot3, Parsed2, MirMay, RefLex1, RefMay1, Full1, Full2, Room1, Binds1, Full3, Rng, Full4, Binds2, Lx, Lx2).
  No conditions.
-/
import Derived.Test.YtecpopiacpckiaaPxJ2
import Derived.KernelRfl

set_option linter.unusedSimpArgs false
set_option linter.unusedVariables false

/-! Prs6 -/

namespace Go.Abs

set_option maxRecDepth 8000
set_option linter.unusedSimpArgs false
set_option linter.unusedVariables false
open Go.Proofs

theorem proc_vars {m : Nat} {B : Base} {Q : Exit → Tm → St → Prop} {row : List D} {name : Str} {p : Pc × Rd} (hB : B.s = ⟨[row], []⟩) (hQ : retF 1 0 [(2, some (true, 5))] (.agg (encPc p.1)) ⟨[encRd p.2], []⟩ = Q)
    (ps : List Pm) (r : Rd) (h : Rd.procB m name ps r = some p) :
    SemL Try.prog B 56 QPG (inBlockQ 2 (thenQ (wpC Try.prog B 56 QPM Q) Q)) [(0, .ptr 0 0), (2, .ptr 1 0), (3, .ptr 2 0)]
      ⟨[encRd r, [.str [], .slice .full 0 [], .slice .full 0 [], .slice .full 0 [], .slice .full 0 []], [.str name, .slice .shared 2 (ps.map encPm), .slice .full 0 [], .slice .full 0 [], .slice .full 0 []]], []⟩ := by
  have hlt : 0 < 1 := Nat.zero_lt_one
  have hget : 0 < 1 := Nat.zero_lt_one
  have hpu : 0 < 1 := Nat.zero_lt_one
  have hinc : 0 < 1 := Nat.zero_lt_one
  unfold Rd.procB at h
  rw [Option.bind_eq_some_iff] at h
  obtain ⟨q, h, hr⟩ := h
  refine SemL.tokO 2 2 1 rfl rfl ?_
  simp only [go_sem, hlt, hget, hpu, hinc, Int.reduceLE, ↓reduceIte, reduceCtorEq, Nat.reduceEqDiff, Nat.reduceLeDiff, Nat.reduceAdd, Nat.reduceMul, Nat.reduceSub, Nat.reduceLT]
  refine SemL.re _ _ 3 1 (by rw [hB]; exact Nat.le_of_ble_eq_true rfl) (by rw [hB]; exact Nat.le_of_ble_eq_true rfl) ?_ ?_ (SemL.ind (ι := Nat × List Str × Rd × Nat) (fun i => Rd.vars m i.1 i.2.1 i.2.2.1 = some q ∧ i.2.2.2 = i.2.1.length) (fun i => i.1)
    (fun i => [(0, .ptr 0 0), (2, .ptr 1 0), (3, .ptr 2 0)]) (fun i => ⟨[encRd i.2.2.1, [.str [], .slice .full 0 [], .slice .full 0 [], .slice .full 0 [], .slice .full 0 []], [.str name, .slice .shared 2 (ps.map encPm), .slice (.tok 0) 1 (i.2.1.map encStr), .slice .full 0 [], .slice .full 0 []]], [some i.2.2.2]⟩) ?_ (m, [], r, 0) ⟨h, rfl⟩)
  · (simp only [go_sem, hlt, hget, hpu, hinc, Int.reduceLE, ↓reduceIte, reduceCtorEq, Nat.reduceEqDiff, Nat.reduceLeDiff, Nat.reduceAdd, Nat.reduceMul, Nat.reduceSub, Nat.reduceLT]; repeat' (first | exact Ok.out | with_reducible refine And.intro ?_ ?_))
  · (simp only [go_sem, hlt, hget, hpu, hinc, Int.reduceLE, ↓reduceIte, reduceCtorEq, Nat.reduceEqDiff, Nat.reduceLeDiff, Nat.reduceAdd, Nat.reduceMul, Nat.reduceSub, Nat.reduceLT]; repeat' (first | exact Ok.out | with_reducible refine And.intro ?_ ?_))
  rintro ⟨n, l, r, k⟩ ⟨h, hk⟩ IH
  dsimp only at hk; subst hk
  cases n with
  | zero => simp only [Rd.vars] at h; cases h
  | succ n =>
    simp only [Rd.vars] at h
    repeat' (first
 | simp only [go_sem, hlt, hget, hpu, hinc, Int.reduceLE, ↓reduceIte, reduceCtorEq, Nat.reduceEqDiff, Nat.reduceLeDiff, Nat.reduceAdd, Nat.reduceMul, Nat.reduceSub, Nat.reduceLT]
 | (rw [Option.bind_eq_some_iff] at h; obtain ⟨_, h1, h⟩ := h; first | (with_reducible refine CU (take_s h1 (by with_unfolding_all rfl)) ?_) | (with_reducible refine CU (names_s h1 (by with_unfolding_all rfl) (by with_unfolding_all rfl)) ?_) | (with_reducible refine CU (rows_s h1 (by with_unfolding_all rfl)) ?_))
 | (with_reducible first | refine CB_ofT (by assumption) fun hc => ?_ | refine CB_ofF (by assumption) fun hc => ?_ | refine CB_split (fun hc => ?_) fun hc => ?_) <;> (try simp only [hc, bs, ↓reduceIte] at h) <;> (try simp only [hc])
 | ((with_reducible first | refine leafR hQ ?_ | refine leafN hQ ?_); (try cases h); simp only [resL, oneD, Option.some.injEq, exists_eq_left', go_sem, hlt, hget, hpu, hinc, Int.reduceLE, ↓reduceIte, reduceCtorEq, Nat.reduceEqDiff, Nat.reduceLeDiff, Nat.reduceAdd, Nat.reduceMul, Nat.reduceSub, Nat.reduceLT]; repeat' (first | exact Ok.out | with_reducible refine And.intro ?_ ?_ | (simp; done)))
 | (cases h; replace h := hr; clear hr; (try simp only [bs, ↓reduceIte] at h))
 | (cases h; done))
    refine SemL.re _ _ 3 1 (by rw [hB]; exact Nat.le_of_ble_eq_true rfl) (by rw [hB]; exact Nat.le_of_ble_eq_true rfl) ?_ ?_ (IH (n, _, _, _) ⟨h, rfl⟩ (Nat.lt_succ_self _))
    · (simp only [go_sem, hlt, hget, hpu, hinc, Int.reduceLE, ↓reduceIte, reduceCtorEq, Nat.reduceEqDiff, Nat.reduceLeDiff, Nat.reduceAdd, Nat.reduceMul, Nat.reduceSub, Nat.reduceLT]; repeat' (first | exact Ok.out | with_reducible refine And.intro ?_ ?_))
    · (simp only [go_sem, hlt, hget, hpu, hinc, Int.reduceLE, ↓reduceIte, reduceCtorEq, Nat.reduceEqDiff, Nat.reduceLeDiff, Nat.reduceAdd, Nat.reduceMul, Nat.reduceSub, Nat.reduceLT]; repeat' (first | exact Ok.out | with_reducible refine And.intro ?_ ?_))

theorem proc_s {m : Nat} {r : Rd} {p : Pc × Rd} (h : Rd.proc m r = some p) {s : St} {o : Nat} (ho : s.objs[o]? = some (encRd r)) :
    Fun Try.prog n_parse_reader_proc [.ptr o 0] s (.agg (encPc p.1)) ⟨s.objs.set o (encRd p.2), s.toks⟩ := by
  refine Fun.meth ?_ rfl (okRd r) (okRd p.2) (by simp [D.ok, okPc]) ho
  unfold Rd.proc Rd.other at h
  refine Fun.go has_parse_reader_proc rfl fun B Q hB hQ => ?_
  have hlt : 0 < 1 := Nat.zero_lt_one
  have hget : 0 < 1 := Nat.zero_lt_one
  have hpu : 0 < 1 := Nat.zero_lt_one
  have hinc : 0 < 1 := Nat.zero_lt_one
  repeat' (first
 | simp only [go_sem, hlt, hget, hpu, hinc, Int.reduceLE, ↓reduceIte, reduceCtorEq, Nat.reduceEqDiff, Nat.reduceLeDiff, Nat.reduceAdd, Nat.reduceMul, Nat.reduceSub, Nat.reduceLT]
 | (rw [Option.bind_eq_some_iff] at h; obtain ⟨_, h1, h⟩ := h; first | (with_reducible refine CU (want_s h1 (by with_unfolding_all rfl)) ?_) | (with_reducible refine CU (is_s h1 (by with_unfolding_all rfl)) ?_) | (with_reducible refine CU (name_s h1 (by with_unfolding_all rfl)) ?_))
 | (with_reducible refine CU (good_s (by with_unfolding_all rfl)) ?_)
 | (with_reducible first | refine CB_ofT (by assumption) fun hc => ?_ | refine CB_ofF (by assumption) fun hc => ?_ | refine CB_split (fun hc => ?_) fun hc => ?_) <;> (try simp only [hc, bs, ↓reduceIte] at h) <;> (try simp only [hc])
 | ((with_reducible first | refine leafR hQ ?_ | refine leafN hQ ?_); (try cases h); simp only [resL, oneD, Option.some.injEq, exists_eq_left', go_sem, hlt, hget, hpu, hinc, Int.reduceLE, ↓reduceIte, reduceCtorEq, Nat.reduceEqDiff, Nat.reduceLeDiff, Nat.reduceAdd, Nat.reduceMul, Nat.reduceSub, Nat.reduceLT]; repeat' (first | exact Ok.out | with_reducible refine And.intro ?_ ?_ | (simp; done)))
 | (cases h; replace h := hr; clear hr; (try simp only [bs, ↓reduceIte] at h))
 | (cases h; done))
  · refine SemL.re _ _ 3 0 (by rw [hB]; exact Nat.le_of_ble_eq_true rfl) (by rw [hB]; exact Nat.le_of_ble_eq_true rfl) ?_ ?_ (proc_vars hB hQ [] _ h)
    · (simp only [go_sem, hlt, hget, hpu, hinc, Int.reduceLE, ↓reduceIte, reduceCtorEq, Nat.reduceEqDiff, Nat.reduceLeDiff, Nat.reduceAdd, Nat.reduceMul, Nat.reduceSub, Nat.reduceLT]; repeat' (first | exact Ok.out | with_reducible refine And.intro ?_ ?_))
    · (simp only [go_sem, hlt, hget, hpu, hinc, Int.reduceLE, ↓reduceIte, reduceCtorEq, Nat.reduceEqDiff, Nat.reduceLeDiff, Nat.reduceAdd, Nat.reduceMul, Nat.reduceSub, Nat.reduceLT]; repeat' (first | exact Ok.out | with_reducible refine And.intro ?_ ?_))
  · rename_i nm _ _ _ _ _
    rw [Option.bind_eq_some_iff] at h
    obtain ⟨q, h, hr⟩ := h
    refine SemL.tokO 2 1 2 rfl rfl ?_
    simp only [go_sem, hlt, hget, hpu, hinc, Int.reduceLE, ↓reduceIte, reduceCtorEq, Nat.reduceEqDiff, Nat.reduceLeDiff, Nat.reduceAdd, Nat.reduceMul, Nat.reduceSub, Nat.reduceLT]
    refine SemL.re _ _ 3 1 (by rw [hB]; exact Nat.le_of_ble_eq_true rfl) (by rw [hB]; exact Nat.le_of_ble_eq_true rfl) ?_ ?_ (SemL.ind (ι := Nat × List Pm × Rd × Nat) (fun i => Rd.params i.1 i.2.1 i.2.2.1 = some q ∧ i.2.2.2 = i.2.1.length) (fun i => i.1)
      (fun i => [(0, .ptr 0 0), (2, .ptr 1 0), (3, .ptr 2 0)]) (fun i => ⟨[encRd i.2.2.1, [.str [], .slice .full 0 [], .slice .full 0 [], .slice .full 0 [], .slice .full 0 []], [.str nm.1, .slice (.tok 0) 2 (i.2.1.map encPm), .slice .full 0 [], .slice .full 0 [], .slice .full 0 []]], [some i.2.2.2]⟩) ?_ (m, [], _, 0) ⟨h, rfl⟩)
    · (simp only [go_sem, hlt, hget, hpu, hinc, Int.reduceLE, ↓reduceIte, reduceCtorEq, Nat.reduceEqDiff, Nat.reduceLeDiff, Nat.reduceAdd, Nat.reduceMul, Nat.reduceSub, Nat.reduceLT]; repeat' (first | exact Ok.out | with_reducible refine And.intro ?_ ?_))
    · (simp only [go_sem, hlt, hget, hpu, hinc, Int.reduceLE, ↓reduceIte, reduceCtorEq, Nat.reduceEqDiff, Nat.reduceLeDiff, Nat.reduceAdd, Nat.reduceMul, Nat.reduceSub, Nat.reduceLT]; repeat' (first | exact Ok.out | with_reducible refine And.intro ?_ ?_))
    rintro ⟨n, l, r, k⟩ ⟨h, hk⟩ IH
    dsimp only at hk; subst hk
    cases n with
    | zero => simp only [Rd.params] at h; cases h
    | succ n =>
      simp only [Rd.params] at h
      repeat' (first
 | simp only [go_sem, hlt, hget, hpu, hinc, Int.reduceLE, ↓reduceIte, reduceCtorEq, Nat.reduceEqDiff, Nat.reduceLeDiff, Nat.reduceAdd, Nat.reduceMul, Nat.reduceSub, Nat.reduceLT]
 | (rw [Option.bind_eq_some_iff] at h; obtain ⟨_, h1, h⟩ := h; first | (with_reducible refine CU (take_s h1 (by with_unfolding_all rfl)) ?_) | (with_reducible refine CU (name_s h1 (by with_unfolding_all rfl)) ?_) | (obtain ⟨hpu, hpush⟩ := push_some h1; subst hpush; simp only [go_sem, hlt, hget, hpu, hinc, Int.reduceLE, ↓reduceIte, reduceCtorEq, Nat.reduceEqDiff, Nat.reduceLeDiff, Nat.reduceAdd, Nat.reduceMul, Nat.reduceSub, Nat.reduceLT]) | (with_reducible refine CU (want_s h1 (by with_unfolding_all rfl)) ?_))
 | (with_reducible refine CU (good_s (by with_unfolding_all rfl)) ?_)
 | (with_reducible first | refine CB_ofT (by assumption) fun hc => ?_ | refine CB_ofF (by assumption) fun hc => ?_ | refine CB_split (fun hc => ?_) fun hc => ?_) <;> (try simp only [hc, bs, ↓reduceIte] at h) <;> (try simp only [hc])
 | ((with_reducible first | refine leafR hQ ?_ | refine leafN hQ ?_); (try cases h); simp only [resL, oneD, Option.some.injEq, exists_eq_left', go_sem, hlt, hget, hpu, hinc, Int.reduceLE, ↓reduceIte, reduceCtorEq, Nat.reduceEqDiff, Nat.reduceLeDiff, Nat.reduceAdd, Nat.reduceMul, Nat.reduceSub, Nat.reduceLT]; repeat' (first | exact Ok.out | with_reducible refine And.intro ?_ ?_ | (simp; done)))
 | (cases h; replace h := hr; clear hr; (try simp only [bs, ↓reduceIte] at h))
 | (cases h; done))
      · refine SemL.re _ _ 3 1 (by rw [hB]; exact Nat.le_of_ble_eq_true rfl) (by rw [hB]; exact Nat.le_of_ble_eq_true rfl) ?_ ?_ (IH (n, _, _, l.length + 1) ⟨h, by simp⟩ (Nat.lt_succ_self _))
        · (simp only [go_sem, hlt, hget, hpu, hinc, Int.reduceLE, ↓reduceIte, reduceCtorEq, Nat.reduceEqDiff, Nat.reduceLeDiff, Nat.reduceAdd, Nat.reduceMul, Nat.reduceSub, Nat.reduceLT]; repeat' (first | exact Ok.out | with_reducible refine And.intro ?_ ?_))
        · (simp only [go_sem, hlt, hget, hpu, hinc, Int.reduceLE, ↓reduceIte, reduceCtorEq, Nat.reduceEqDiff, Nat.reduceLeDiff, Nat.reduceAdd, Nat.reduceMul, Nat.reduceSub, Nat.reduceLT]; repeat' (first | exact Ok.out | with_reducible refine And.intro ?_ ?_))
      · refine SemL.re _ _ 3 0 (by rw [hB]; exact Nat.le_of_ble_eq_true rfl) (by rw [hB]; exact Nat.le_of_ble_eq_true rfl) ?_ ?_ (proc_vars hB hQ _ _ h)
        · (simp only [go_sem, hlt, hget, hpu, hinc, Int.reduceLE, ↓reduceIte, reduceCtorEq, Nat.reduceEqDiff, Nat.reduceLeDiff, Nat.reduceAdd, Nat.reduceMul, Nat.reduceSub, Nat.reduceLT]; repeat' (first | exact Ok.out | with_reducible refine And.intro ?_ ?_))
        · (simp only [go_sem, hlt, hget, hpu, hinc, Int.reduceLE, ↓reduceIte, reduceCtorEq, Nat.reduceEqDiff, Nat.reduceLeDiff, Nat.reduceAdd, Nat.reduceMul, Nat.reduceSub, Nat.reduceLT]; repeat' (first | exact Ok.out | with_reducible refine And.intro ?_ ?_))
      · refine SemL.re _ _ 3 0 (by rw [hB]; exact Nat.le_of_ble_eq_true rfl) (by rw [hB]; exact Nat.le_of_ble_eq_true rfl) ?_ ?_ (proc_vars hB hQ _ _ h)
        · (simp only [go_sem, hlt, hget, hpu, hinc, Int.reduceLE, ↓reduceIte, reduceCtorEq, Nat.reduceEqDiff, Nat.reduceLeDiff, Nat.reduceAdd, Nat.reduceMul, Nat.reduceSub, Nat.reduceLT]; repeat' (first | exact Ok.out | with_reducible refine And.intro ?_ ?_))
        · (simp only [go_sem, hlt, hget, hpu, hinc, Int.reduceLE, ↓reduceIte, reduceCtorEq, Nat.reduceEqDiff, Nat.reduceLeDiff, Nat.reduceAdd, Nat.reduceMul, Nat.reduceSub, Nat.reduceLT]; repeat' (first | exact Ok.out | with_reducible refine And.intro ?_ ?_))
  · refine SemL.re _ _ 3 0 (by rw [hB]; exact Nat.le_of_ble_eq_true rfl) (by rw [hB]; exact Nat.le_of_ble_eq_true rfl) ?_ ?_ (proc_vars hB hQ [] _ h)
    · (simp only [go_sem, hlt, hget, hpu, hinc, Int.reduceLE, ↓reduceIte, reduceCtorEq, Nat.reduceEqDiff, Nat.reduceLeDiff, Nat.reduceAdd, Nat.reduceMul, Nat.reduceSub, Nat.reduceLT]; repeat' (first | exact Ok.out | with_reducible refine And.intro ?_ ?_))
    · (simp only [go_sem, hlt, hget, hpu, hinc, Int.reduceLE, ↓reduceIte, reduceCtorEq, Nat.reduceEqDiff, Nat.reduceLeDiff, Nat.reduceAdd, Nat.reduceMul, Nat.reduceSub, Nat.reduceLT]; repeat' (first | exact Ok.out | with_reducible refine And.intro ?_ ?_))

theorem program_tail {m : Nat} {B : Base} {Q : Exit → Tm → St → Prop} {row : List D} {g : List Str} {p : Pg × Rd} (hB : B.s = ⟨[row], []⟩) (hQ : retF 1 0 [(2, some (true, 2))] (.agg (encPg p.1)) ⟨[encRd p.2], []⟩ = Q)
    (r : Rd) {k : Nat} (h : ((Rd.procs m k [] r).bind fun q => some (⟨g, q.1⟩, q.2)) = some p) :
    SemL Try.prog B 49 QB3 (inBlockQ 2 (thenQ (wpC Try.prog B 49 QBC Q) Q)) [(0, .ptr 0 0), (2, .ptr 1 0), (3, .ptr 2 0)]
      ⟨[encRd r, [.slice .full 0 [], .slice .full 0 []], [.slice .shared 1 (g.map encStr), .slice .full 0 []]], []⟩ := by
  have hlt : 0 < 1 := Nat.zero_lt_one
  have hget : 0 < 1 := Nat.zero_lt_one
  have hpu : 0 < 1 := Nat.zero_lt_one
  have hinc : 0 < 1 := Nat.zero_lt_one
  rw [Option.bind_eq_some_iff] at h
  obtain ⟨q, h, hr⟩ := h
  cases hr
  refine SemL.tokO 2 1 5 rfl rfl ?_
  simp only [go_sem, hlt, hget, hpu, hinc, Int.reduceLE, ↓reduceIte, reduceCtorEq, Nat.reduceEqDiff, Nat.reduceLeDiff, Nat.reduceAdd, Nat.reduceMul, Nat.reduceSub, Nat.reduceLT]
  refine SemL.re _ _ 3 1 (by rw [hB]; exact Nat.le_of_ble_eq_true rfl) (by rw [hB]; exact Nat.le_of_ble_eq_true rfl) ?_ ?_ (SemL.ind (ι := Nat × List Pc × Rd × Nat) (fun i => Rd.procs m i.1 i.2.1 i.2.2.1 = some q ∧ i.2.2.2 = i.2.1.length) (fun i => i.1)
    (fun i => [(0, .ptr 0 0), (2, .ptr 1 0), (3, .ptr 2 0)]) (fun i => ⟨[encRd i.2.2.1, [.slice .full 0 [], .slice .full 0 []], [.slice .shared 1 (g.map encStr), .slice (.tok 0) 5 (i.2.1.map encPc)]], [some i.2.2.2]⟩) ?_ (k, [], r, 0) ⟨h, rfl⟩)
  · (simp only [go_sem, hlt, hget, hpu, hinc, Int.reduceLE, ↓reduceIte, reduceCtorEq, Nat.reduceEqDiff, Nat.reduceLeDiff, Nat.reduceAdd, Nat.reduceMul, Nat.reduceSub, Nat.reduceLT]; repeat' (first | exact Ok.out | with_reducible refine And.intro ?_ ?_))
  · (simp only [go_sem, hlt, hget, hpu, hinc, Int.reduceLE, ↓reduceIte, reduceCtorEq, Nat.reduceEqDiff, Nat.reduceLeDiff, Nat.reduceAdd, Nat.reduceMul, Nat.reduceSub, Nat.reduceLT]; repeat' (first | exact Ok.out | with_reducible refine And.intro ?_ ?_))
  rintro ⟨n, l, r, k⟩ ⟨h, hk⟩ IH
  dsimp only at hk; subst hk
  cases n with
  | zero => simp only [Rd.procs] at h; cases h
  | succ n =>
    simp only [Rd.procs, Rd.isProc, Rd.notEnd] at h
    repeat' (first
 | simp only [go_sem, hlt, hget, hpu, hinc, Int.reduceLE, ↓reduceIte, reduceCtorEq, Nat.reduceEqDiff, Nat.reduceLeDiff, Nat.reduceAdd, Nat.reduceMul, Nat.reduceSub, Nat.reduceLT]
 | (rw [Option.bind_eq_some_iff] at h; obtain ⟨_, h1, h⟩ := h; first | (with_reducible refine CU (is_s h1 (by with_unfolding_all rfl)) ?_; have hlt := is_lt h1) | (with_reducible refine CU (bad_s h1 (by with_unfolding_all rfl)) ?_) | (with_reducible refine CU (proc_s h1 (by with_unfolding_all rfl)) ?_) | (obtain ⟨hpu, hpush⟩ := push_some h1; subst hpush; simp only [go_sem, hlt, hget, hpu, hinc, Int.reduceLE, ↓reduceIte, reduceCtorEq, Nat.reduceEqDiff, Nat.reduceLeDiff, Nat.reduceAdd, Nat.reduceMul, Nat.reduceSub, Nat.reduceLT]) | (with_reducible refine CU (peek_s h1 (by with_unfolding_all rfl)) ?_))
 | (with_reducible refine CU (good_s (by with_unfolding_all rfl)) ?_)
 | (with_reducible first | refine CB_ofT (by assumption) fun hc => ?_ | refine CB_ofF (by assumption) fun hc => ?_ | refine CB_split (fun hc => ?_) fun hc => ?_) <;> (try simp only [hc, bs, ↓reduceIte] at h) <;> (try simp only [hc])
 | ((with_reducible first | refine leafR hQ ?_ | refine leafN hQ ?_); (try cases h); simp only [resL, oneD, Option.some.injEq, exists_eq_left', go_sem, hlt, hget, hpu, hinc, Int.reduceLE, ↓reduceIte, reduceCtorEq, Nat.reduceEqDiff, Nat.reduceLeDiff, Nat.reduceAdd, Nat.reduceMul, Nat.reduceSub, Nat.reduceLT]; repeat' (first | exact Ok.out | with_reducible refine And.intro ?_ ?_ | (simp; done)))
 | (cases h; replace h := hr; clear hr; (try simp only [bs, ↓reduceIte] at h))
 | (cases h; done))
    · refine SemL.re _ _ 3 1 (by rw [hB]; exact Nat.le_of_ble_eq_true rfl) (by rw [hB]; exact Nat.le_of_ble_eq_true rfl) ?_ ?_ (IH (n, _, _, l.length + 1) ⟨h, by simp⟩ (Nat.lt_succ_self _))
      · (simp only [go_sem, hlt, hget, hpu, hinc, Int.reduceLE, ↓reduceIte, reduceCtorEq, Nat.reduceEqDiff, Nat.reduceLeDiff, Nat.reduceAdd, Nat.reduceMul, Nat.reduceSub, Nat.reduceLT]; repeat' (first | exact Ok.out | with_reducible refine And.intro ?_ ?_))
      · (simp only [go_sem, hlt, hget, hpu, hinc, Int.reduceLE, ↓reduceIte, reduceCtorEq, Nat.reduceEqDiff, Nat.reduceLeDiff, Nat.reduceAdd, Nat.reduceMul, Nat.reduceSub, Nat.reduceLT]; repeat' (first | exact Ok.out | with_reducible refine And.intro ?_ ?_))

end Go.Abs

/-! MirLex -/

namespace Go.Abs

def isL (c : UInt8) : Bool := decide ((c.toNat : Int) ≥ 97) && decide ((c.toNat : Int) ≤ 122)
def isD (c : UInt8) : Bool := decide ((c.toNat : Int) ≥ 48) && decide ((c.toNat : Int) ≤ 57)
def isB (c : UInt8) : Bool := (c.toNat : Int) == 32 || (c.toNat : Int) == 9 || (c.toNat : Int) == 10 || (c.toNat : Int) == 13

/-- How many letters and digits, digits, bytes of a line a text begins with. -/
def runL : Str → Nat
  | [] => 0
  | c :: r => if isL c || isD c then runL r + 1 else 0
def runD : Str → Nat
  | [] => 0
  | c :: r => if isD c then runD r + 1 else 0
def lineL : Str → Nat
  | [] => 0
  | c :: r => if (c.toNat : Int) != 10 then lineL r + 1 else 0

def isWord (s : Str) : Bool :=
  s == [103, 108, 111, 98, 97, 108] || s == [112, 114, 111, 99] || s == [118, 97, 114] || s == [114, 101, 102] || s == [105, 102] || s == [101, 108, 115, 101] || s == [119, 104, 105, 108, 101] || s == [98, 114, 101, 97, 107] || s == [99, 111, 110, 116, 105, 110, 117, 101] || s == [114, 101, 116, 117, 114, 110] || s == [103, 111, 116, 111] || s == [114, 101, 97, 100] || s == [112, 114, 105, 110, 116]

def sign2 (s : Str) : Bool := s == [61, 61] || s == [33, 61] || s == [60, 61] || s == [62, 61] || s == [38, 38] || s == [124, 124]
def sign1 (c : UInt8) : Bool :=
  (c.toNat : Int) == 40 || (c.toNat : Int) == 41 || (c.toNat : Int) == 123 || (c.toNat : Int) == 125 || (c.toNat : Int) == 44 || (c.toNat : Int) == 59 || (c.toNat : Int) == 58 || (c.toNat : Int) == 61 ||
  (c.toNat : Int) == 33 || (c.toNat : Int) == 60 || (c.toNat : Int) == 62 || (c.toNat : Int) == 43 || (c.toNat : Int) == 45 || (c.toNat : Int) == 42 || (c.toNat : Int) == 47 || (c.toNat : Int) == 37

/-- How many bytes the sign has with which a text begins. -/
def signL : Str → Nat
  | [] => 0
  | [c] => if sign1 c then 1 else 0
  | c :: d :: _ => if sign2 [c, d] then 2 else if sign1 c then 1 else 0

/-- What digits are worth; none: more than may be. -/
def worth : Int → Str → Option Int
  | n, [] => some n
  | n, c :: r => if n > (9223372036854775807 - ((c.toNat : Int) - 48)) / 10 then none else worth (n * 10 + ((c.toNat : Int) - 48)) r

/-- The token with which a text begins, or a fault's code. -/
def tokE (pos : Nat) : Str → Tok ⊕ Int
  | [] => .inr 2
  | c :: r =>
    if isL c then
      let s := (c :: r).take (runL (c :: r))
      if s.length > 8 then .inr 4 else .inl ⟨if isWord s then 3 else 1, s, 0, pos⟩
    else if isD c then
      let s := (c :: r).take (runD (c :: r))
      if s.length > 1 ∧ (c.toNat : Int) = 48 then .inr 2 else
      match worth 0 s with
      | some n => .inl ⟨2, s, n, pos⟩
      | none => .inr 4
    else
      if signL (c :: r) = 0 then .inr 2 else .inl ⟨4, (c :: r).take (signL (c :: r)), 0, pos⟩

/-- A text's tokens behind others, or a fault. -/
def lexF : Nat → Nat → Str → List Tok → List Tok × Int × Int
  | 0, _, _, _ => ([], 0, 0)
  | _ + 1, pos, [], out => (out ++ [⟨0, [], 0, pos⟩], 0, 0)
  | n + 1, pos, c :: r, out =>
    if isB c then lexF n (pos + 1) r out
    else if (c.toNat : Int) == 35 then lexF n (pos + lineL (c :: r)) ((c :: r).drop (lineL (c :: r))) out
    else match tokE pos (c :: r) with
      | .inr e => ([], e, pos)
      | .inl t => if out.length = 2000 then ([], 4, pos) else lexF n (pos + t.text.length) ((c :: r).drop t.text.length) (out ++ [t])

def lexAll (text : Str) : List Tok × Int × Int := if text.length > 100000 then ([], 4, 0) else lexF (text.length + 1) 0 text []

end Go.Abs

/-! Lex1 -/

namespace Go.Abs

set_option maxRecDepth 8000
set_option linter.unusedSimpArgs false
set_option linter.unusedVariables false
open Go.Proofs

theorem letter_s (c : UInt8) (s : St) : Fun Try.prog n_lex_letter [.int .u8 (c.toNat : Int)] s (.bool (isL c)) s := by
  refine Fun.pure ?_ rfl rfl s
  generalize h : isL c = b
  unfold isL at h
  unfold S0
  refine Fun.go has_lex_letter rfl fun B Q hB hQ => ?_
  have hlt : 0 < 1 := Nat.zero_lt_one
  have hget : 0 < 1 := Nat.zero_lt_one
  have hpu : 0 < 1 := Nat.zero_lt_one
  have hinc : 0 < 1 := Nat.zero_lt_one
  repeat' (first
 | simp only [go_sem, hlt, hget, hpu, hinc, Int.reduceLE, ↓reduceIte, reduceCtorEq, Nat.reduceEqDiff, Nat.reduceLeDiff, Nat.reduceAdd, Nat.reduceMul, Nat.reduceSub, Nat.reduceLT]
 | (with_reducible first | refine CB_ofT (by assumption) fun hc => ?_ | refine CB_ofF (by assumption) fun hc => ?_ | refine CB_split (fun hc => ?_) fun hc => ?_) <;> (try simp only [hc, bs, ↓reduceIte] at h) <;> (try simp only [hc])
 | ((with_reducible first | refine leafR hQ ?_ | refine leafN hQ ?_); (try cases h); simp only [resL, oneD, Option.some.injEq, exists_eq_left', go_sem, hlt, hget, hpu, hinc, Int.reduceLE, ↓reduceIte, reduceCtorEq, Nat.reduceEqDiff, Nat.reduceLeDiff, Nat.reduceAdd, Nat.reduceMul, Nat.reduceSub, Nat.reduceLT]; repeat' (first | exact Ok.out | with_reducible refine And.intro ?_ ?_ | (simp; done)))
 | (cases h; replace h := hr; clear hr; (try simp only [bs, ↓reduceIte] at h))
 | (cases h; done))

theorem digit_s (c : UInt8) (s : St) : Fun Try.prog n_lex_digit [.int .u8 (c.toNat : Int)] s (.bool (isD c)) s := by
  refine Fun.pure ?_ rfl rfl s
  generalize h : isD c = b
  unfold isD at h
  unfold S0
  refine Fun.go has_lex_digit rfl fun B Q hB hQ => ?_
  have hlt : 0 < 1 := Nat.zero_lt_one
  have hget : 0 < 1 := Nat.zero_lt_one
  have hpu : 0 < 1 := Nat.zero_lt_one
  have hinc : 0 < 1 := Nat.zero_lt_one
  repeat' (first
 | simp only [go_sem, hlt, hget, hpu, hinc, Int.reduceLE, ↓reduceIte, reduceCtorEq, Nat.reduceEqDiff, Nat.reduceLeDiff, Nat.reduceAdd, Nat.reduceMul, Nat.reduceSub, Nat.reduceLT]
 | (with_reducible first | refine CB_ofT (by assumption) fun hc => ?_ | refine CB_ofF (by assumption) fun hc => ?_ | refine CB_split (fun hc => ?_) fun hc => ?_) <;> (try simp only [hc, bs, ↓reduceIte] at h) <;> (try simp only [hc])
 | ((with_reducible first | refine leafR hQ ?_ | refine leafN hQ ?_); (try cases h); simp only [resL, oneD, Option.some.injEq, exists_eq_left', go_sem, hlt, hget, hpu, hinc, Int.reduceLE, ↓reduceIte, reduceCtorEq, Nat.reduceEqDiff, Nat.reduceLeDiff, Nat.reduceAdd, Nat.reduceMul, Nat.reduceSub, Nat.reduceLT]; repeat' (first | exact Ok.out | with_reducible refine And.intro ?_ ?_ | (simp; done)))
 | (cases h; replace h := hr; clear hr; (try simp only [bs, ↓reduceIte] at h))
 | (cases h; done))

theorem word_s (t : Str) (s : St) : Fun Try.prog n_lex_Word [.str t] s (.bool (isWord t)) s := by
  refine Fun.pure ?_ rfl rfl s
  generalize h : isWord t = b
  unfold isWord at h
  unfold S0
  refine Fun.go has_lex_Word rfl fun B Q hB hQ => ?_
  have hlt : 0 < 1 := Nat.zero_lt_one
  have hget : 0 < 1 := Nat.zero_lt_one
  have hpu : 0 < 1 := Nat.zero_lt_one
  have hinc : 0 < 1 := Nat.zero_lt_one
  repeat' (first
 | simp only [go_sem, hlt, hget, hpu, hinc, Int.reduceLE, ↓reduceIte, reduceCtorEq, Nat.reduceEqDiff, Nat.reduceLeDiff, Nat.reduceAdd, Nat.reduceMul, Nat.reduceSub, Nat.reduceLT]
 | (with_reducible first | refine CB_ofT (by assumption) fun hc => ?_ | refine CB_ofF (by assumption) fun hc => ?_ | refine CB_split (fun hc => ?_) fun hc => ?_) <;> (try simp only [hc, bs, ↓reduceIte] at h) <;> (try simp only [hc])
 | ((with_reducible first | refine leafR hQ ?_ | refine leafN hQ ?_); (try cases h); simp only [resL, oneD, Option.some.injEq, exists_eq_left', go_sem, hlt, hget, hpu, hinc, Int.reduceLE, ↓reduceIte, reduceCtorEq, Nat.reduceEqDiff, Nat.reduceLeDiff, Nat.reduceAdd, Nat.reduceMul, Nat.reduceSub, Nat.reduceLT]; repeat' (first | exact Ok.out | with_reducible refine And.intro ?_ ?_ | (simp; done)))
 | (cases h; replace h := hr; clear hr; (try simp only [bs, ↓reduceIte] at h))
 | (cases h; done))

theorem run_s {text : Str} {pos : Nat} (hl : text.length < 4611686018427387904) (s : St) : Fun Try.prog n_lex_run [.str text, .int .i64 (pos : Int)] s (.int .i64 ((pos + runL (text.drop pos) : Nat) : Int)) s := by
  refine Fun.pure ?_ rfl rfl s
  unfold S0
  refine Fun.go has_lex_run rfl fun B Q hB hQ => ?_
  have hlt : 0 < 1 := Nat.zero_lt_one
  have hget : 0 < 1 := Nat.zero_lt_one
  have hpu : 0 < 1 := Nat.zero_lt_one
  have hinc : 0 < 1 := Nat.zero_lt_one
  repeat' (first
 | simp only [go_sem, hlt, hget, hpu, hinc, Int.reduceLE, ↓reduceIte, reduceCtorEq, Nat.reduceEqDiff, Nat.reduceLeDiff, Nat.reduceAdd, Nat.reduceMul, Nat.reduceSub, Nat.reduceLT]
 | (with_reducible first | refine CB_ofT (by assumption) fun hc => ?_ | refine CB_ofF (by assumption) fun hc => ?_ | refine CB_split (fun hc => ?_) fun hc => ?_) <;> (try simp only [hc, bs, ↓reduceIte] at h) <;> (try simp only [hc])
 | ((with_reducible first | refine leafR hQ ?_ | refine leafN hQ ?_); (try cases h); simp only [resL, oneD, Option.some.injEq, exists_eq_left', go_sem, hlt, hget, hpu, hinc, Int.reduceLE, ↓reduceIte, reduceCtorEq, Nat.reduceEqDiff, Nat.reduceLeDiff, Nat.reduceAdd, Nat.reduceMul, Nat.reduceSub, Nat.reduceLT]; repeat' (first | exact Ok.out | with_reducible refine And.intro ?_ ?_ | (simp; done)))
 | (cases h; replace h := hr; clear hr; (try simp only [bs, ↓reduceIte] at h))
 | (cases h; done))
  refine SemL.re _ _ 0 0 (by rw [hB]; exact Nat.le_of_ble_eq_true rfl) (by rw [hB]; exact Nat.le_of_ble_eq_true rfl) ?_ ?_ (SemL.ind (ι := Str × Nat) (fun i => text.drop i.2 = i.1 ∧ i.2 + runL i.1 = pos + runL (text.drop pos)) (fun i => i.1.length)
    (fun i => [(0, .str text), (1, .int .i64 (i.2 : Int))]) (fun i => ⟨[], []⟩) ?_ (text.drop pos, pos) ⟨rfl, rfl⟩)
  · (simp only [go_sem, hlt, hget, hpu, hinc, Int.reduceLE, ↓reduceIte, reduceCtorEq, Nat.reduceEqDiff, Nat.reduceLeDiff, Nat.reduceAdd, Nat.reduceMul, Nat.reduceSub, Nat.reduceLT]; repeat' (first | exact Ok.out | with_reducible refine And.intro ?_ ?_))
  · (simp only [go_sem, hlt, hget, hpu, hinc, Int.reduceLE, ↓reduceIte, reduceCtorEq, Nat.reduceEqDiff, Nat.reduceLeDiff, Nat.reduceAdd, Nat.reduceMul, Nat.reduceSub, Nat.reduceLT]; repeat' (first | exact Ok.out | with_reducible refine And.intro ?_ ?_))
  rintro ⟨rest, k⟩ ⟨h1, h2⟩ IH
  dsimp only at h1 h2
  cases rest with
  | nil =>
    have hlt := drop_nil h1
    simp only [runL, Nat.add_zero] at h2
    rw [← h2] at hQ
    repeat' (first
 | simp only [go_sem, hlt, hget, hpu, hinc, Int.reduceLE, ↓reduceIte, reduceCtorEq, Nat.reduceEqDiff, Nat.reduceLeDiff, Nat.reduceAdd, Nat.reduceMul, Nat.reduceSub, Nat.reduceLT]
 | (with_reducible first | refine CB_ofT (by assumption) fun hc => ?_ | refine CB_ofF (by assumption) fun hc => ?_ | refine CB_split (fun hc => ?_) fun hc => ?_) <;> (try simp only [hc, bs, ↓reduceIte] at h) <;> (try simp only [hc])
 | ((with_reducible first | refine leafR hQ ?_ | refine leafN hQ ?_); (try cases h); simp only [resL, oneD, Option.some.injEq, exists_eq_left', go_sem, hlt, hget, hpu, hinc, Int.reduceLE, ↓reduceIte, reduceCtorEq, Nat.reduceEqDiff, Nat.reduceLeDiff, Nat.reduceAdd, Nat.reduceMul, Nat.reduceSub, Nat.reduceLT]; repeat' (first | exact Ok.out | with_reducible refine And.intro ?_ ?_ | (simp; done)))
 | (cases h; replace h := hr; clear hr; (try simp only [bs, ↓reduceIte] at h))
 | (cases h; done))
  | cons c rest =>
    obtain ⟨hget, g2, hlt, g4⟩ := drop_cons h1
    have hpu : k < 4611686018427387904 := by omega
    cases hb : (isL c || isD c)
    · simp only [runL, hb, Bool.false_eq_true, ↓reduceIte, Nat.add_zero] at h2
      rw [← h2] at hQ
      simp only [Bool.or_eq_false_iff] at hb
      repeat' (first
 | simp only [go_sem, hlt, hget, hpu, hinc, Int.reduceLE, ↓reduceIte, reduceCtorEq, Nat.reduceEqDiff, Nat.reduceLeDiff, Nat.reduceAdd, Nat.reduceMul, Nat.reduceSub, Nat.reduceLT, hb.1, hb.2]
 | (with_reducible refine CU (letter_s _ _) ?_)
 | (with_reducible refine CU (digit_s _ _) ?_)
 | (with_reducible first | refine CB_ofT (by assumption) fun hc => ?_ | refine CB_ofF (by assumption) fun hc => ?_ | refine CB_split (fun hc => ?_) fun hc => ?_) <;> (try simp only [hc, bs, ↓reduceIte] at h) <;> (try simp only [hc])
 | ((with_reducible first | refine leafR hQ ?_ | refine leafN hQ ?_); (try cases h); simp only [resL, oneD, Option.some.injEq, exists_eq_left', go_sem, hlt, hget, hpu, hinc, Int.reduceLE, ↓reduceIte, reduceCtorEq, Nat.reduceEqDiff, Nat.reduceLeDiff, Nat.reduceAdd, Nat.reduceMul, Nat.reduceSub, Nat.reduceLT, hb.1, hb.2]; repeat' (first | exact Ok.out | with_reducible refine And.intro ?_ ?_ | (simp; done)))
 | (cases h; replace h := hr; clear hr; (try simp only [bs, ↓reduceIte] at h))
 | (cases h; done))
    · simp only [runL, hb, ↓reduceIte] at h2
      cases hb1 : isL c
      · rw [hb1, Bool.false_or] at hb
        repeat' (first
 | simp only [go_sem, hlt, hget, hpu, hinc, Int.reduceLE, ↓reduceIte, reduceCtorEq, Nat.reduceEqDiff, Nat.reduceLeDiff, Nat.reduceAdd, Nat.reduceMul, Nat.reduceSub, Nat.reduceLT, hb, hb1]
 | (with_reducible refine CU (letter_s _ _) ?_)
 | (with_reducible refine CU (digit_s _ _) ?_)
 | (with_reducible first | refine CB_ofT (by assumption) fun hc => ?_ | refine CB_ofF (by assumption) fun hc => ?_ | refine CB_split (fun hc => ?_) fun hc => ?_) <;> (try simp only [hc, bs, ↓reduceIte] at h) <;> (try simp only [hc])
 | ((with_reducible first | refine leafR hQ ?_ | refine leafN hQ ?_); (try cases h); simp only [resL, oneD, Option.some.injEq, exists_eq_left', go_sem, hlt, hget, hpu, hinc, Int.reduceLE, ↓reduceIte, reduceCtorEq, Nat.reduceEqDiff, Nat.reduceLeDiff, Nat.reduceAdd, Nat.reduceMul, Nat.reduceSub, Nat.reduceLT, hb, hb1]; repeat' (first | exact Ok.out | with_reducible refine And.intro ?_ ?_ | (simp; done)))
 | (cases h; replace h := hr; clear hr; (try simp only [bs, ↓reduceIte] at h))
 | (cases h; done))
        refine SemL.re _ _ 0 0 (by rw [hB]; exact Nat.le_of_ble_eq_true rfl) (by rw [hB]; exact Nat.le_of_ble_eq_true rfl) ?_ ?_ (IH (rest, k + 1) ⟨g2, by dsimp only; omega⟩ (Nat.lt_succ_self _))
        · (simp only [go_sem, hlt, hget, hpu, hinc, Int.reduceLE, ↓reduceIte, reduceCtorEq, Nat.reduceEqDiff, Nat.reduceLeDiff, Nat.reduceAdd, Nat.reduceMul, Nat.reduceSub, Nat.reduceLT]; repeat' (first | exact Ok.out | with_reducible refine And.intro ?_ ?_))
        · (simp only [go_sem, hlt, hget, hpu, hinc, Int.reduceLE, ↓reduceIte, reduceCtorEq, Nat.reduceEqDiff, Nat.reduceLeDiff, Nat.reduceAdd, Nat.reduceMul, Nat.reduceSub, Nat.reduceLT]; repeat' (first | exact Ok.out | with_reducible refine And.intro ?_ ?_))
      · repeat' (first
 | simp only [go_sem, hlt, hget, hpu, hinc, Int.reduceLE, ↓reduceIte, reduceCtorEq, Nat.reduceEqDiff, Nat.reduceLeDiff, Nat.reduceAdd, Nat.reduceMul, Nat.reduceSub, Nat.reduceLT, hb1]
 | (with_reducible refine CU (letter_s _ _) ?_)
 | (with_reducible refine CU (digit_s _ _) ?_)
 | (with_reducible first | refine CB_ofT (by assumption) fun hc => ?_ | refine CB_ofF (by assumption) fun hc => ?_ | refine CB_split (fun hc => ?_) fun hc => ?_) <;> (try simp only [hc, bs, ↓reduceIte] at h) <;> (try simp only [hc])
 | ((with_reducible first | refine leafR hQ ?_ | refine leafN hQ ?_); (try cases h); simp only [resL, oneD, Option.some.injEq, exists_eq_left', go_sem, hlt, hget, hpu, hinc, Int.reduceLE, ↓reduceIte, reduceCtorEq, Nat.reduceEqDiff, Nat.reduceLeDiff, Nat.reduceAdd, Nat.reduceMul, Nat.reduceSub, Nat.reduceLT, hb1]; repeat' (first | exact Ok.out | with_reducible refine And.intro ?_ ?_ | (simp; done)))
 | (cases h; replace h := hr; clear hr; (try simp only [bs, ↓reduceIte] at h))
 | (cases h; done))
        refine SemL.re _ _ 0 0 (by rw [hB]; exact Nat.le_of_ble_eq_true rfl) (by rw [hB]; exact Nat.le_of_ble_eq_true rfl) ?_ ?_ (IH (rest, k + 1) ⟨g2, by dsimp only; omega⟩ (Nat.lt_succ_self _))
        · (simp only [go_sem, hlt, hget, hpu, hinc, Int.reduceLE, ↓reduceIte, reduceCtorEq, Nat.reduceEqDiff, Nat.reduceLeDiff, Nat.reduceAdd, Nat.reduceMul, Nat.reduceSub, Nat.reduceLT]; repeat' (first | exact Ok.out | with_reducible refine And.intro ?_ ?_))
        · (simp only [go_sem, hlt, hget, hpu, hinc, Int.reduceLE, ↓reduceIte, reduceCtorEq, Nat.reduceEqDiff, Nat.reduceLeDiff, Nat.reduceAdd, Nat.reduceMul, Nat.reduceSub, Nat.reduceLT]; repeat' (first | exact Ok.out | with_reducible refine And.intro ?_ ?_))

theorem slice_at (text : Str) (a b : Nat) : (text.take (a + b)).drop a = (text.drop a).take b := by rw [List.drop_take]; congr 1; omega

set_option maxRecDepth 20000 in
theorem sign_s {text : Str} {pos : Nat} {c : UInt8} {r : Str} (hd : text.drop pos = c :: r) (hl : text.length < 4611686018427387904) (s : St) :
    Fun Try.prog n_lex_sign [.str text, .int .i64 (pos : Int)] s (.int .i64 ((signL (c :: r) : Nat) : Int)) s := by
  refine Fun.pure ?_ rfl rfl s
  obtain ⟨hget, g2, g3, g4⟩ := drop_cons hd
  have hpu : pos < 4611686018427387904 := by omega
  have hinc : 0 < 1 := Nat.zero_lt_one
  generalize h : signL (c :: r) = k
  unfold S0
  cases r with
  | nil =>
    have hlt : decide (((pos + 1 : Nat) : Int) < (text.length : Int)) = false := drop_nil g2
    simp only [signL, sign1] at h
    refine Fun.go has_lex_sign rfl fun B Q hB hQ => ?_
    repeat' (first
 | simp only [go_sem, hlt, hget, hpu, hinc, Int.reduceLE, ↓reduceIte, reduceCtorEq, Nat.reduceEqDiff, Nat.reduceLeDiff, Nat.reduceAdd, Nat.reduceMul, Nat.reduceSub, Nat.reduceLT]
 | (with_reducible first | refine CB_ofT (by assumption) fun hc => ?_ | refine CB_ofF (by assumption) fun hc => ?_ | refine CB_split (fun hc => ?_) fun hc => ?_) <;> (try simp only [hc, bs, ↓reduceIte] at h) <;> (try simp only [hc])
 | ((with_reducible first | refine leafR hQ ?_ | refine leafN hQ ?_); (try cases h); simp only [resL, oneD, Option.some.injEq, exists_eq_left', go_sem, hlt, hget, hpu, hinc, Int.reduceLE, ↓reduceIte, reduceCtorEq, Nat.reduceEqDiff, Nat.reduceLeDiff, Nat.reduceAdd, Nat.reduceMul, Nat.reduceSub, Nat.reduceLT]; repeat' (first | exact Ok.out | with_reducible refine And.intro ?_ ?_ | (simp; done)))
 | (cases h; replace h := hr; clear hr; (try simp only [bs, ↓reduceIte] at h))
 | (cases h; done))
  | cons d r =>
    obtain ⟨_, _, hlt, _⟩ := drop_cons g2
    have e1 : (text.take (pos + 2)).drop pos = [c, d] := by rw [slice_at, hd]; rfl
    have e2 : (0 : Int) ≤ (pos : Int) ∧ (pos : Int) ≤ ((pos + 2 : Nat) : Int) ∧ ((pos + 2 : Nat) : Int) ≤ (text.length : Int) := by omega
    simp only [signL, sign1, sign2] at h
    refine Fun.go has_lex_sign rfl fun B Q hB hQ => ?_
    repeat' (first
 | simp only [go_sem, hlt, hget, hpu, hinc, Int.reduceLE, ↓reduceIte, reduceCtorEq, Nat.reduceEqDiff, Nat.reduceLeDiff, Nat.reduceAdd, Nat.reduceMul, Nat.reduceSub, Nat.reduceLT, e1, e2]
 | (with_reducible first | refine CB_ofT (by assumption) fun hc => ?_ | refine CB_ofF (by assumption) fun hc => ?_ | refine CB_split (fun hc => ?_) fun hc => ?_) <;> (try simp only [hc, bs, ↓reduceIte] at h) <;> (try simp only [hc])
 | ((with_reducible first | refine leafR hQ ?_ | refine leafN hQ ?_); (try cases h); simp only [resL, oneD, Option.some.injEq, exists_eq_left', go_sem, hlt, hget, hpu, hinc, Int.reduceLE, ↓reduceIte, reduceCtorEq, Nat.reduceEqDiff, Nat.reduceLeDiff, Nat.reduceAdd, Nat.reduceMul, Nat.reduceSub, Nat.reduceLT, e1, e2]; repeat' (first | exact Ok.out | with_reducible refine And.intro ?_ ?_ | (simp; done)))
 | (cases h; replace h := hr; clear hr; (try simp only [bs, ↓reduceIte] at h))
 | (cases h; done))

theorem isD_range {c : UInt8} (h : isD c = true) : 48 ≤ (c.toNat : Int) ∧ (c.toNat : Int) ≤ 57 := by
  simp only [isD, Bool.and_eq_true, decide_eq_true_eq] at h
  omega

/-- What a text of digits is worth. -/
def worthP (s : Str) : Int × Bool := match worth 0 s with | some n => (n, true) | none => (0, false)

theorem number_s {text : Str} (hd : ∀ c ∈ text, isD c = true) (hl : text.length < 4611686018427387904) (s : St) :
    Fun Try.prog n_lex_number [.str text] s (.tuple [.int .i64 (worthP text).1, .bool (worthP text).2]) s := by
  refine Fun.pure ?_ rfl rfl s
  generalize hw : worthP text = p
  unfold S0
  refine Fun.go has_lex_number rfl fun B Q hB hQ => ?_
  have hlt : 0 < 1 := Nat.zero_lt_one
  have hget : 0 < 1 := Nat.zero_lt_one
  have hpu : 0 < 1 := Nat.zero_lt_one
  have hinc : 0 < 1 := Nat.zero_lt_one
  repeat' (first
 | simp only [go_sem, hlt, hget, hpu, hinc, Int.reduceLE, ↓reduceIte, reduceCtorEq, Nat.reduceEqDiff, Nat.reduceLeDiff, Nat.reduceAdd, Nat.reduceMul, Nat.reduceSub, Nat.reduceLT]
 | (with_reducible first | refine CB_ofT (by assumption) fun hc => ?_ | refine CB_ofF (by assumption) fun hc => ?_ | refine CB_split (fun hc => ?_) fun hc => ?_) <;> (try simp only [hc, bs, ↓reduceIte] at h) <;> (try simp only [hc])
 | ((with_reducible first | refine leafR hQ ?_ | refine leafN hQ ?_); (try cases h); simp only [resL, oneD, Option.some.injEq, exists_eq_left', go_sem, hlt, hget, hpu, hinc, Int.reduceLE, ↓reduceIte, reduceCtorEq, Nat.reduceEqDiff, Nat.reduceLeDiff, Nat.reduceAdd, Nat.reduceMul, Nat.reduceSub, Nat.reduceLT]; repeat' (first | exact Ok.out | with_reducible refine And.intro ?_ ?_ | (simp; done)))
 | (cases h; replace h := hr; clear hr; (try simp only [bs, ↓reduceIte] at h))
 | (cases h; done))
  refine SemL.re _ _ 0 0 (by rw [hB]; exact Nat.le_of_ble_eq_true rfl) (by rw [hB]; exact Nat.le_of_ble_eq_true rfl) ?_ ?_ (SemL.ind (ι := Str × Nat × Int) (fun i => text.drop i.2.1 = i.1 ∧ 0 ≤ i.2.2 ∧ i.2.2 ≤ 9223372036854775807 ∧ (match worth i.2.2 i.1 with | some n => (n, true) | none => (0, false)) = p) (fun i => i.1.length)
    (fun i => [(0, .str text), (4, .int .i64 i.2.2), (5, .int .i64 (i.2.1 : Int))]) (fun i => ⟨[], []⟩) ?_ (text, 0, 0) ⟨rfl, Int.le_refl 0, by dsimp only; omega, hw⟩)
  · (simp only [go_sem, hlt, hget, hpu, hinc, Int.reduceLE, ↓reduceIte, reduceCtorEq, Nat.reduceEqDiff, Nat.reduceLeDiff, Nat.reduceAdd, Nat.reduceMul, Nat.reduceSub, Nat.reduceLT]; repeat' (first | exact Ok.out | with_reducible refine And.intro ?_ ?_))
  · (simp only [go_sem, hlt, hget, hpu, hinc, Int.reduceLE, ↓reduceIte, reduceCtorEq, Nat.reduceEqDiff, Nat.reduceLeDiff, Nat.reduceAdd, Nat.reduceMul, Nat.reduceSub, Nat.reduceLT]; repeat' (first | exact Ok.out | with_reducible refine And.intro ?_ ?_))
  rintro ⟨rest, k, n⟩ ⟨h1, h2, h3, h⟩ IH
  dsimp only at h1 h2 h3 h
  cases rest with
  | nil =>
    have hlt := drop_nil h1
    simp only [worth] at h
    repeat' (first
 | simp only [go_sem, hlt, hget, hpu, hinc, Int.reduceLE, ↓reduceIte, reduceCtorEq, Nat.reduceEqDiff, Nat.reduceLeDiff, Nat.reduceAdd, Nat.reduceMul, Nat.reduceSub, Nat.reduceLT]
 | (with_reducible first | refine CB_ofT (by assumption) fun hc => ?_ | refine CB_ofF (by assumption) fun hc => ?_ | refine CB_split (fun hc => ?_) fun hc => ?_) <;> (try simp only [hc, bs, ↓reduceIte] at h) <;> (try simp only [hc])
 | ((with_reducible first | refine leafR hQ ?_ | refine leafN hQ ?_); (try cases h); simp only [resL, oneD, Option.some.injEq, exists_eq_left', go_sem, hlt, hget, hpu, hinc, Int.reduceLE, ↓reduceIte, reduceCtorEq, Nat.reduceEqDiff, Nat.reduceLeDiff, Nat.reduceAdd, Nat.reduceMul, Nat.reduceSub, Nat.reduceLT]; repeat' (first | exact Ok.out | with_reducible refine And.intro ?_ ?_ | (simp; done)))
 | (cases h; replace h := hr; clear hr; (try simp only [bs, ↓reduceIte] at h))
 | (cases h; done))
  | cons c rest =>
    obtain ⟨hget, g2, hlt, g4⟩ := drop_cons h1
    have hpu : k < 4611686018427387904 := by omega
    have hc := isD_range (hd c (List.mem_of_getElem? hget))
    have w1 : IntKind.wrap .u8 ((c.toNat : Int) - 48) = (c.toNat : Int) - 48 := by rw [IntKind.wrap_u8]; omega
    have w2 : IntKind.wrap .i64 ((c.toNat : Int) - 48) = (c.toNat : Int) - 48 := wrap_ok (by omega) (by omega)
    have w3 : IntKind.wrap .i64 (9223372036854775807 - ((c.toNat : Int) - 48)) = 9223372036854775807 - ((c.toNat : Int) - 48) := wrap_ok (by omega) (by omega)
    have w4 : IntKind.wrap .i64 ((9223372036854775807 - ((c.toNat : Int) - 48)).tdiv 10) = (9223372036854775807 - ((c.toNat : Int) - 48)) / 10 := by
      rw [Int.tdiv_eq_ediv_of_nonneg (by omega)]; exact wrap_ok (by omega) (by omega)
    have t10 : ((10 : Int) = 0) = False := by simp
    simp only [worth] at h
    by_cases hn : n > (9223372036854775807 - ((c.toNat : Int) - 48)) / 10
    · have hn' : decide (n > (9223372036854775807 - ((c.toNat : Int) - 48)) / 10) = true := by simpa using hn
      rw [if_pos hn] at h
      repeat' (first
 | simp only [go_sem, hlt, hget, hpu, hinc, Int.reduceLE, ↓reduceIte, reduceCtorEq, Nat.reduceEqDiff, Nat.reduceLeDiff, Nat.reduceAdd, Nat.reduceMul, Nat.reduceSub, Nat.reduceLT, w1, w2, w3, w4, t10, hn']
 | (with_reducible first | refine CB_ofT (by assumption) fun hc => ?_ | refine CB_ofF (by assumption) fun hc => ?_ | refine CB_split (fun hc => ?_) fun hc => ?_) <;> (try simp only [hc, bs, ↓reduceIte] at h) <;> (try simp only [hc])
 | ((with_reducible first | refine leafR hQ ?_ | refine leafN hQ ?_); (try cases h); simp only [resL, oneD, Option.some.injEq, exists_eq_left', go_sem, hlt, hget, hpu, hinc, Int.reduceLE, ↓reduceIte, reduceCtorEq, Nat.reduceEqDiff, Nat.reduceLeDiff, Nat.reduceAdd, Nat.reduceMul, Nat.reduceSub, Nat.reduceLT, w1, w2, w3, w4, t10, hn']; repeat' (first | exact Ok.out | with_reducible refine And.intro ?_ ?_ | (simp; done)))
 | (cases h; replace h := hr; clear hr; (try simp only [bs, ↓reduceIte] at h))
 | (cases h; done))
    · have hn' : decide (n > (9223372036854775807 - ((c.toNat : Int) - 48)) / 10) = false := by simpa using hn
      rw [if_neg hn] at h
      have w5 : IntKind.wrap .i64 (n * 10) = n * 10 := wrap_ok (by omega) (by omega)
      have w6 : IntKind.wrap .i64 (n * 10 + ((c.toNat : Int) - 48)) = n * 10 + ((c.toNat : Int) - 48) := wrap_ok (by omega) (by omega)
      repeat' (first
 | simp only [go_sem, hlt, hget, hpu, hinc, Int.reduceLE, ↓reduceIte, reduceCtorEq, Nat.reduceEqDiff, Nat.reduceLeDiff, Nat.reduceAdd, Nat.reduceMul, Nat.reduceSub, Nat.reduceLT, w1, w2, w3, w4, t10, hn', w5, w6]
 | (with_reducible first | refine CB_ofT (by assumption) fun hc => ?_ | refine CB_ofF (by assumption) fun hc => ?_ | refine CB_split (fun hc => ?_) fun hc => ?_) <;> (try simp only [hc, bs, ↓reduceIte] at h) <;> (try simp only [hc])
 | ((with_reducible first | refine leafR hQ ?_ | refine leafN hQ ?_); (try cases h); simp only [resL, oneD, Option.some.injEq, exists_eq_left', go_sem, hlt, hget, hpu, hinc, Int.reduceLE, ↓reduceIte, reduceCtorEq, Nat.reduceEqDiff, Nat.reduceLeDiff, Nat.reduceAdd, Nat.reduceMul, Nat.reduceSub, Nat.reduceLT, w1, w2, w3, w4, t10, hn', w5, w6]; repeat' (first | exact Ok.out | with_reducible refine And.intro ?_ ?_ | (simp; done)))
 | (cases h; replace h := hr; clear hr; (try simp only [bs, ↓reduceIte] at h))
 | (cases h; done))
      refine SemL.re _ _ 0 0 (by rw [hB]; exact Nat.le_of_ble_eq_true rfl) (by rw [hB]; exact Nat.le_of_ble_eq_true rfl) ?_ ?_ (IH (rest, k + 1, n * 10 + ((c.toNat : Int) - 48)) ⟨g2, by dsimp only; omega, by dsimp only; omega, h⟩ (Nat.lt_succ_self _))
      · (simp only [go_sem, hlt, hget, hpu, hinc, Int.reduceLE, ↓reduceIte, reduceCtorEq, Nat.reduceEqDiff, Nat.reduceLeDiff, Nat.reduceAdd, Nat.reduceMul, Nat.reduceSub, Nat.reduceLT]; repeat' (first | exact Ok.out | with_reducible refine And.intro ?_ ?_))
      · (simp only [go_sem, hlt, hget, hpu, hinc, Int.reduceLE, ↓reduceIte, reduceCtorEq, Nat.reduceEqDiff, Nat.reduceLeDiff, Nat.reduceAdd, Nat.reduceMul, Nat.reduceSub, Nat.reduceLT]; repeat' (first | exact Ok.out | with_reducible refine And.intro ?_ ?_))

end Go.Abs

/-! Lex2 -/

namespace Go.Abs

set_option maxRecDepth 8000
set_option linter.unusedSimpArgs false
set_option linter.unusedVariables false
open Go.Proofs

theorem runL_pos {c : UInt8} {r : Str} (h : isL c = true) : 0 < runL (c :: r) := by simp [runL, h]
theorem runL_len : ∀ s : Str, runL s ≤ s.length
  | [] => Nat.le_refl _
  | c :: r => by simp only [runL]; split <;> simp only [List.length_cons] <;> have := runL_len r <;> omega
theorem runD_len : ∀ s : Str, runD s ≤ s.length
  | [] => Nat.le_refl _
  | c :: r => by simp only [runD]; split <;> simp only [List.length_cons] <;> have := runD_len r <;> omega
theorem lineL_len : ∀ s : Str, lineL s ≤ s.length
  | [] => Nat.le_refl _
  | c :: r => by simp only [lineL]; split <;> simp only [List.length_cons] <;> have := lineL_len r <;> omega
theorem signL_len : ∀ s : Str, signL s ≤ s.length
  | [] => Nat.le_refl _
  | [c] => by simp only [signL]; split <;> simp
  | c :: d :: r => by simp only [signL]; (repeat' split) <;> simp
theorem runD_all : ∀ (s : Str), ∀ c ∈ s.take (runD s), isD c = true
  | [], c, h => by simp [runD] at h
  | d :: r, c, h => by
    simp only [runD] at h
    split at h
    · rw [List.take_succ_cons] at h
      rcases List.mem_cons.1 h with rfl | h
      · assumption
      · exact runD_all r c h
    · simp at h

def encF (f : Int × Int) : List D := [.int .i64 f.1, .int .i64 f.2]

/-- At the label ahead of the next token. -/
def lexTM (text : Str) (out : List Tok) (pos : Nat) : Tm := [(0, .str text), (3, .ptr 0 0), (4, .slice (.tok 0) 4 (out.map encTok)), (5, .ptr 1 0), (6, .int .i64 (pos : Int))]
def lexST (out : List Tok) : St := ⟨[[.int .i64 0, .int .i64 0], [.junk, .junk, .junk, .junk]], [some out.length]⟩

theorem lineL_pos {c : UInt8} {r : Str} (h : ((c.toNat : Int) == 35) = true) : 0 < lineL (c :: r) := by
  have : ((c.toNat : Int) != 10) = true := by simp only [beq_iff_eq] at h; simp [h]
  simp [lineL, this]

/-- On to the next token. -/
def LexGo (text : Str) (B : Base) (Q : Exit → Tm → St → Prop) (p : List Tok × Int × Int) (N : Nat) : Prop :=
  ∀ (n pos : Nat) (rest : Str) (out : List Tok), text.drop pos = rest → lexF n pos rest out = p → rest.length < n → out.length ≤ 2000 → pos ≤ text.length → n < N →
    SemS Try.prog B 152 Q7R (.seq .skip Q7M) Q (lexTM text out pos) (lexST out)

theorem LexGo.to {text : Str} {B : Base} {Q : Exit → Tm → St → Prop} {p : List Tok × Int × Int} {N : Nat} (hB : B.s = S0) (IH : LexGo text B Q p N) {n pos : Nat} {rest : Str} {out : List Tok} {tm : Tm} {s : St}
    (h1 : text.drop pos = rest) (h : lexF n pos rest out = p) (h2 : rest.length < n) (h3 : out.length ≤ 2000) (h4 : pos ≤ text.length) (h5 : n < N)
    (ht : TmW tm 2 1 (lexTM text out pos)) (ho : WkR (s.cut 2 1).objs (lexST out).objs) (hk : (s.cut 2 1).toks = (lexST out).toks) :
    jumpA Try.prog B 152 Q7R Q (.goto 0) tm s := by
  refine jumpA_to (l := 0) (r := .seq .skip Q7M) rfl (SemS.re _ _ 2 1 (by rw [hB]; exact Nat.le_of_ble_eq_true rfl) (by rw [hB]; exact Nat.le_of_ble_eq_true rfl) ht ho ?_)
  have := IH n pos rest out h1 h h2 h3 h4 h5
  rw [hk]
  exact this

attribute [go_sem] lexTM lexST encF
theorem lex_nil {text : Str} (hl : text.length ≤ 100000) {B : Base} {Q : Exit → Tm → St → Prop} {p : List Tok × Int × Int} (hB : B.s = S0)
    (hQ : retF 0 0 [(2, none), (3, some (true, 2))] (.tuple [.slice .shared 4 (p.1.map encTok), .agg (encF p.2)]) ⟨[], []⟩ = Q)
    {n pos : Nat} {out : List Tok} (ho : out.length ≤ 2000) (hp : pos ≤ text.length) (IH : LexGo text B Q p (n + 1))
    (h1 : text.drop pos = []) (h : lexF (n + 1) pos [] out = p) : wpC Try.prog B 152 Q7M (jumpA Try.prog B 152 Q7R Q) (lexTM text out pos) (lexST out) := by
  have hlt : 0 < 1 := Nat.zero_lt_one
  have hget : 0 < 1 := Nat.zero_lt_one
  have hpu : 0 < 1 := Nat.zero_lt_one
  have hinc : 0 < 1 := Nat.zero_lt_one
  have hroom : (out.length + 1) * 41 ≤ maxStr := by simp only [maxStr]; omega
  have hge : decide ((pos : Int) ≥ (text.length : Int)) = true := by have := List.drop_eq_nil_iff.1 h1; simp; omega
  have : pos = text.length := by have := List.drop_eq_nil_iff.1 h1; omega
  subst this
  simp only [lexF] at h
  repeat' (first
 | simp only [go_sem, hlt, hget, hpu, hinc, Int.reduceLE, ↓reduceIte, reduceCtorEq, Nat.reduceEqDiff, Nat.reduceLeDiff, Nat.reduceAdd, Nat.reduceMul, Nat.reduceSub, Nat.reduceLT, hge, hroom]
 | (with_reducible first | refine CB_ofT (by assumption) fun hc => ?_ | refine CB_ofF (by assumption) fun hc => ?_ | refine CB_split (fun hc => ?_) fun hc => ?_) <;> (try simp only [hc, bs, ↓reduceIte] at h) <;> (try simp only [hc])
 | ((with_reducible first | refine leafR hQ ?_ | refine leafN hQ ?_); (try cases h); simp only [resL, oneD, Option.some.injEq, exists_eq_left', go_sem, hlt, hget, hpu, hinc, Int.reduceLE, ↓reduceIte, reduceCtorEq, Nat.reduceEqDiff, Nat.reduceLeDiff, Nat.reduceAdd, Nat.reduceMul, Nat.reduceSub, Nat.reduceLT, hge, hroom]; repeat' (first | exact Ok.out | with_reducible refine And.intro ?_ ?_ | (simp; done)))
 | (cases h; replace h := hr; clear hr; (try simp only [bs, ↓reduceIte] at h))
 | (cases h; done))

theorem lex_blank {text : Str} (hl : text.length ≤ 100000) {B : Base} {Q : Exit → Tm → St → Prop} {p : List Tok × Int × Int} (hB : B.s = S0)
    (hQ : retF 0 0 [(2, none), (3, some (true, 2))] (.tuple [.slice .shared 4 (p.1.map encTok), .agg (encF p.2)]) ⟨[], []⟩ = Q)
    {n pos : Nat} {out : List Tok} (ho : out.length ≤ 2000) (hp : pos ≤ text.length) (IH : LexGo text B Q p (n + 1))
    {c : UInt8} {r : Str} (h1 : text.drop pos = c :: r) (hb : isB c = true) (hn : (c :: r).length < n + 1) (h : lexF (n + 1) pos (c :: r) out = p) :
    wpC Try.prog B 152 Q7M (jumpA Try.prog B 152 Q7R Q) (lexTM text out pos) (lexST out) := by
  have hpu : 0 < 1 := Nat.zero_lt_one
  have hinc : 0 < 1 := Nat.zero_lt_one
  obtain ⟨hget, g2, g3, g4⟩ := drop_cons h1
  have hlt : pos < 4611686018427387904 := by omega
  have hge : decide ((pos : Int) ≥ (text.length : Int)) = false := by simp; omega
  simp only [lexF, hb, ↓reduceIte] at h
  have hn' : r.length < n := by simp only [List.length_cons] at hn; omega
  have e : ∀ x y : Int, (x == y) = false → (x == y) = true → False := fun x y a b => by rw [a] at b; cases b
  simp only [isB] at hb
  repeat' (first
 | simp only [go_sem, hlt, hget, hpu, hinc, Int.reduceLE, ↓reduceIte, reduceCtorEq, Nat.reduceEqDiff, Nat.reduceLeDiff, Nat.reduceAdd, Nat.reduceMul, Nat.reduceSub, Nat.reduceLT, hge]
 | (refine IH.to hB g2 h hn' ho g4 (Nat.lt_succ_self _) ?_ ?_ ?_ <;> ((try simp only [go_sem, hlt, hget, hpu, hinc, Int.reduceLE, ↓reduceIte, reduceCtorEq, Nat.reduceEqDiff, Nat.reduceLeDiff, Nat.reduceAdd, Nat.reduceMul, Nat.reduceSub, Nat.reduceLT]); repeat' (first | exact Ok.out | with_reducible refine And.intro ?_ ?_ | omega | (simp; done))); done)
 | (with_reducible first | refine CB_ofT (by assumption) fun hc => ?_ | refine CB_ofF (by assumption) fun hc => ?_ | refine CB_split (fun hc => ?_) fun hc => ?_) <;> (try simp only [hc, bs, ↓reduceIte] at h) <;> (try simp only [hc])
 | ((with_reducible first | refine leafR hQ ?_ | refine leafN hQ ?_); (try cases h); simp only [resL, oneD, Option.some.injEq, exists_eq_left', go_sem, hlt, hget, hpu, hinc, Int.reduceLE, ↓reduceIte, reduceCtorEq, Nat.reduceEqDiff, Nat.reduceLeDiff, Nat.reduceAdd, Nat.reduceMul, Nat.reduceSub, Nat.reduceLT, hge]; repeat' (first | exact Ok.out | with_reducible refine And.intro ?_ ?_ | (simp; done)))
 | (cases h; replace h := hr; clear hr; (try simp only [bs, ↓reduceIte] at h))
 | (cases h; done))
  all_goals (exfalso; simp_all; done)

theorem lex_remark {text : Str} (hl : text.length ≤ 100000) {B : Base} {Q : Exit → Tm → St → Prop} {p : List Tok × Int × Int} (hB : B.s = S0)
    (hQ : retF 0 0 [(2, none), (3, some (true, 2))] (.tuple [.slice .shared 4 (p.1.map encTok), .agg (encF p.2)]) ⟨[], []⟩ = Q)
    {n pos : Nat} {out : List Tok} (ho : out.length ≤ 2000) (hp : pos ≤ text.length) (IH : LexGo text B Q p (n + 1))
    {c : UInt8} {r : Str} (h1 : text.drop pos = c :: r) (hb : isB c = false) (hc : ((c.toNat : Int) == 35) = true) (hn : (c :: r).length < n + 1) (h : lexF (n + 1) pos (c :: r) out = p) :
    wpC Try.prog B 152 Q7M (jumpA Try.prog B 152 Q7R Q) (lexTM text out pos) (lexST out) := by
  have hpu : 0 < 1 := Nat.zero_lt_one
  have hinc : 0 < 1 := Nat.zero_lt_one
  have hget0 := (drop_cons h1).1
  have hget := hget0
  have g4 := (drop_cons h1).2.2.2
  have hlt : pos < 4611686018427387904 := by omega
  have hge : decide ((pos : Int) ≥ (text.length : Int)) = false := by simp; omega
  simp only [lexF, hb, Bool.false_eq_true, ↓reduceIte, hc] at h
  simp only [isB, Bool.or_eq_false_iff] at hb
  have hk := lineL_pos (r := r) hc
  have hk2 := lineL_len (c :: r)
  have hk3 : (c :: r).length = text.length - pos := by rw [← h1, List.length_drop]
  generalize hL : lineL (c :: r) = L at h hk hk2
  repeat' (first
 | simp only [go_sem, hlt, hget, hpu, hinc, Int.reduceLE, ↓reduceIte, reduceCtorEq, Nat.reduceEqDiff, Nat.reduceLeDiff, Nat.reduceAdd, Nat.reduceMul, Nat.reduceSub, Nat.reduceLT, hge, hb.1.1.1, hb.1.1.2, hb.1.2, hb.2, hc]
 | (with_reducible refine jumpA_go (l := 1) (by with_unfolding_all rfl) ?_)
 | (with_reducible first | refine CB_ofT (by assumption) fun hc => ?_ | refine CB_ofF (by assumption) fun hc => ?_ | refine CB_split (fun hc => ?_) fun hc => ?_) <;> (try simp only [hc, bs, ↓reduceIte] at h) <;> (try simp only [hc])
 | ((with_reducible first | refine leafR hQ ?_ | refine leafN hQ ?_); (try cases h); simp only [resL, oneD, Option.some.injEq, exists_eq_left', go_sem, hlt, hget, hpu, hinc, Int.reduceLE, ↓reduceIte, reduceCtorEq, Nat.reduceEqDiff, Nat.reduceLeDiff, Nat.reduceAdd, Nat.reduceMul, Nat.reduceSub, Nat.reduceLT, hge, hb.1.1.1, hb.1.1.2, hb.1.2, hb.2, hc]; repeat' (first | exact Ok.out | with_reducible refine And.intro ?_ ?_ | (simp; done)))
 | (cases h; replace h := hr; clear hr; (try simp only [bs, ↓reduceIte] at h))
 | (cases h; done))
  refine SemL.re _ _ 2 1 (by rw [hB]; exact Nat.le_of_ble_eq_true rfl) (by rw [hB]; exact Nat.le_of_ble_eq_true rfl) ?_ ?_ (SemL.ind (ι := Str × Nat) (fun i => text.drop i.2 = i.1 ∧ i.2 + lineL i.1 = pos + L) (fun i => i.1.length)
    (fun i => lexTM text out i.2) (fun i => lexST out) ?_ (c :: r, pos) ⟨h1, by dsimp only; omega⟩)
  · (simp only [go_sem, hlt, hget, hpu, hinc, Int.reduceLE, ↓reduceIte, reduceCtorEq, Nat.reduceEqDiff, Nat.reduceLeDiff, Nat.reduceAdd, Nat.reduceMul, Nat.reduceSub, Nat.reduceLT]; repeat' (first | exact Ok.out | with_reducible refine And.intro ?_ ?_))
  · (simp only [go_sem, hlt, hget, hpu, hinc, Int.reduceLE, ↓reduceIte, reduceCtorEq, Nat.reduceEqDiff, Nat.reduceLeDiff, Nat.reduceAdd, Nat.reduceMul, Nat.reduceSub, Nat.reduceLT]; repeat' (first | exact Ok.out | with_reducible refine And.intro ?_ ?_))
  rintro ⟨rest, k⟩ ⟨j1, j2⟩ IHl
  dsimp only at j1 j2
  have fin : text.drop (pos + L) = (c :: r).drop L := by rw [← h1, List.drop_drop]
  have hlen : ((c :: r).drop L).length < n := by rw [List.length_drop]; omega
  cases rest with
  | nil =>
    have hge := drop_nil j1
    simp only [lineL, Nat.add_zero] at j2
    subst j2
    repeat' (first
 | simp only [go_sem, hlt, hget, hpu, hinc, Int.reduceLE, ↓reduceIte, reduceCtorEq, Nat.reduceEqDiff, Nat.reduceLeDiff, Nat.reduceAdd, Nat.reduceMul, Nat.reduceSub, Nat.reduceLT, hge]
 | (refine IH.to hB fin h hlen ho (by omega) (Nat.lt_succ_self _) ?_ ?_ ?_ <;> ((try simp only [go_sem, hlt, hget, hpu, hinc, Int.reduceLE, ↓reduceIte, reduceCtorEq, Nat.reduceEqDiff, Nat.reduceLeDiff, Nat.reduceAdd, Nat.reduceMul, Nat.reduceSub, Nat.reduceLT]); repeat' (first | exact Ok.out | with_reducible refine And.intro ?_ ?_ | omega | (simp; done))); done)
 | (with_reducible first | refine CB_ofT (by assumption) fun hc => ?_ | refine CB_ofF (by assumption) fun hc => ?_ | refine CB_split (fun hc => ?_) fun hc => ?_) <;> (try simp only [hc, bs, ↓reduceIte] at h) <;> (try simp only [hc])
 | ((with_reducible first | refine leafR hQ ?_ | refine leafN hQ ?_); (try cases h); simp only [resL, oneD, Option.some.injEq, exists_eq_left', go_sem, hlt, hget, hpu, hinc, Int.reduceLE, ↓reduceIte, reduceCtorEq, Nat.reduceEqDiff, Nat.reduceLeDiff, Nat.reduceAdd, Nat.reduceMul, Nat.reduceSub, Nat.reduceLT, hge]; repeat' (first | exact Ok.out | with_reducible refine And.intro ?_ ?_ | (simp; done)))
 | (cases h; replace h := hr; clear hr; (try simp only [bs, ↓reduceIte] at h))
 | (cases h; done))
  | cons d rest =>
    obtain ⟨hget, g2, hge, g5⟩ := drop_cons j1
    have hlt : k < 4611686018427387904 := by omega
    cases hd : ((d.toNat : Int) != 10)
    · simp only [lineL, hd, Bool.false_eq_true, ↓reduceIte, Nat.add_zero] at j2
      subst j2
      repeat' (first
 | simp only [go_sem, hlt, hget, hpu, hinc, Int.reduceLE, ↓reduceIte, reduceCtorEq, Nat.reduceEqDiff, Nat.reduceLeDiff, Nat.reduceAdd, Nat.reduceMul, Nat.reduceSub, Nat.reduceLT, hge, hd]
 | (refine IH.to hB fin h hlen ho (by omega) (Nat.lt_succ_self _) ?_ ?_ ?_ <;> ((try simp only [go_sem, hlt, hget, hpu, hinc, Int.reduceLE, ↓reduceIte, reduceCtorEq, Nat.reduceEqDiff, Nat.reduceLeDiff, Nat.reduceAdd, Nat.reduceMul, Nat.reduceSub, Nat.reduceLT]); repeat' (first | exact Ok.out | with_reducible refine And.intro ?_ ?_ | omega | (simp; done))); done)
 | (with_reducible first | refine CB_ofT (by assumption) fun hc => ?_ | refine CB_ofF (by assumption) fun hc => ?_ | refine CB_split (fun hc => ?_) fun hc => ?_) <;> (try simp only [hc, bs, ↓reduceIte] at h) <;> (try simp only [hc])
 | ((with_reducible first | refine leafR hQ ?_ | refine leafN hQ ?_); (try cases h); simp only [resL, oneD, Option.some.injEq, exists_eq_left', go_sem, hlt, hget, hpu, hinc, Int.reduceLE, ↓reduceIte, reduceCtorEq, Nat.reduceEqDiff, Nat.reduceLeDiff, Nat.reduceAdd, Nat.reduceMul, Nat.reduceSub, Nat.reduceLT, hge, hd]; repeat' (first | exact Ok.out | with_reducible refine And.intro ?_ ?_ | (simp; done)))
 | (cases h; replace h := hr; clear hr; (try simp only [bs, ↓reduceIte] at h))
 | (cases h; done))
    · simp only [lineL, hd, ↓reduceIte] at j2
      repeat' (first
 | simp only [go_sem, hlt, hget, hpu, hinc, Int.reduceLE, ↓reduceIte, reduceCtorEq, Nat.reduceEqDiff, Nat.reduceLeDiff, Nat.reduceAdd, Nat.reduceMul, Nat.reduceSub, Nat.reduceLT, hge, hd]
 | (with_reducible first | refine CB_ofT (by assumption) fun hc => ?_ | refine CB_ofF (by assumption) fun hc => ?_ | refine CB_split (fun hc => ?_) fun hc => ?_) <;> (try simp only [hc, bs, ↓reduceIte] at h) <;> (try simp only [hc])
 | ((with_reducible first | refine leafR hQ ?_ | refine leafN hQ ?_); (try cases h); simp only [resL, oneD, Option.some.injEq, exists_eq_left', go_sem, hlt, hget, hpu, hinc, Int.reduceLE, ↓reduceIte, reduceCtorEq, Nat.reduceEqDiff, Nat.reduceLeDiff, Nat.reduceAdd, Nat.reduceMul, Nat.reduceSub, Nat.reduceLT, hge, hd]; repeat' (first | exact Ok.out | with_reducible refine And.intro ?_ ?_ | (simp; done)))
 | (cases h; replace h := hr; clear hr; (try simp only [bs, ↓reduceIte] at h))
 | (cases h; done))
      refine SemL.re _ _ 2 1 (by rw [hB]; exact Nat.le_of_ble_eq_true rfl) (by rw [hB]; exact Nat.le_of_ble_eq_true rfl) ?_ ?_ (IHl (rest, k + 1) ⟨g2, by dsimp only; omega⟩ (Nat.lt_succ_self _))
      · (simp only [go_sem, hlt, hget, hpu, hinc, Int.reduceLE, ↓reduceIte, reduceCtorEq, Nat.reduceEqDiff, Nat.reduceLeDiff, Nat.reduceAdd, Nat.reduceMul, Nat.reduceSub, Nat.reduceLT]; repeat' (first | exact Ok.out | with_reducible refine And.intro ?_ ?_))
      · (simp only [go_sem, hlt, hget, hpu, hinc, Int.reduceLE, ↓reduceIte, reduceCtorEq, Nat.reduceEqDiff, Nat.reduceLeDiff, Nat.reduceAdd, Nat.reduceMul, Nat.reduceSub, Nat.reduceLT]; repeat' (first | exact Ok.out | with_reducible refine And.intro ?_ ?_))

theorem lex_sign {text : Str} (hl : text.length ≤ 100000) {B : Base} {Q : Exit → Tm → St → Prop} {p : List Tok × Int × Int} (hB : B.s = S0)
    (hQ : retF 0 0 [(2, none), (3, some (true, 2))] (.tuple [.slice .shared 4 (p.1.map encTok), .agg (encF p.2)]) ⟨[], []⟩ = Q)
    {n pos : Nat} {out : List Tok} (ho : out.length ≤ 2000) (hp : pos ≤ text.length) (IH : LexGo text B Q p (n + 1))
    {c : UInt8} {r : Str} (h1 : text.drop pos = c :: r) (hb : isB c = false) (hc : ((c.toNat : Int) == 35) = false) (hL : isL c = false) (hD : isD c = false) (hn : (c :: r).length < n + 1) (h : lexF (n + 1) pos (c :: r) out = p) :
    wpC Try.prog B 152 Q7M (jumpA Try.prog B 152 Q7R Q) (lexTM text out pos) (lexST out) := by
  have hpu : 0 < 1 := Nat.zero_lt_one
  have hinc : 0 < 1 := Nat.zero_lt_one
  have hget := (drop_cons h1).1
  have g4 := (drop_cons h1).2.2.2
  have hlt : pos < 4611686018427387904 := by omega
  have hge : decide ((pos : Int) ≥ (text.length : Int)) = false := by simp; omega
  have hroom : (out.length + 1) * 41 ≤ maxStr := by simp only [maxStr]; omega
  have hsign := fun s => sign_s h1 (by omega) s
  have hk2 := signL_len (c :: r)
  have hk3 : (c :: r).length = text.length - pos := by rw [← h1, List.length_drop]
  simp only [lexF, hb, Bool.false_eq_true, ↓reduceIte, hc, tokE, hL, hD] at h
  simp only [isB, Bool.or_eq_false_iff] at hb
  generalize hK : signL (c :: r) = k at h hsign hk2
  have e1 : IntKind.wrap .i64 ((pos : Int) + (k : Int)) = ((pos + k : Nat) : Int) := by rw [wrap_ok] <;> omega
  have e2 : (0 : Int) ≤ (pos : Int) ∧ (pos : Int) ≤ ((pos + k : Nat) : Int) ∧ ((pos + k : Nat) : Int) ≤ (text.length : Int) := by omega
  have e3 : (text.take (pos + k)).drop pos = (c :: r).take k := by rw [slice_at, h1]
  by_cases hz : k = 0
  · have hgt : decide (((pos + k : Nat) : Int) > (pos : Int)) = false := by simp; omega
    simp only [hz, ↓reduceIte] at h
    repeat' (first
 | simp only [go_sem, hlt, hget, hpu, hinc, Int.reduceLE, ↓reduceIte, reduceCtorEq, Nat.reduceEqDiff, Nat.reduceLeDiff, Nat.reduceAdd, Nat.reduceMul, Nat.reduceSub, Nat.reduceLT, hge, hb.1.1.1, hb.1.1.2, hb.1.2, hb.2, hc, hL, hD, e1, e2, e3, hgt]
 | (with_reducible refine CU (letter_s _ _) ?_)
 | (with_reducible refine CU (digit_s _ _) ?_)
 | (with_reducible refine CU (hsign _) ?_)
 | (with_reducible refine jumpA_go (l := 4) (by with_unfolding_all rfl) ?_)
 | (with_reducible refine jumpA_go (l := 5) (by with_unfolding_all rfl) ?_)
 | (with_reducible first | refine CB_ofT (by assumption) fun hc => ?_ | refine CB_ofF (by assumption) fun hc => ?_ | refine CB_split (fun hc => ?_) fun hc => ?_) <;> (try simp only [hc, bs, ↓reduceIte] at h) <;> (try simp only [hc])
 | ((with_reducible first | refine leafR hQ ?_ | refine leafN hQ ?_); (try cases h); simp only [resL, oneD, Option.some.injEq, exists_eq_left', go_sem, hlt, hget, hpu, hinc, Int.reduceLE, ↓reduceIte, reduceCtorEq, Nat.reduceEqDiff, Nat.reduceLeDiff, Nat.reduceAdd, Nat.reduceMul, Nat.reduceSub, Nat.reduceLT, hge, hb.1.1.1, hb.1.1.2, hb.1.2, hb.2, hc, hL, hD, e1, e2, e3, hgt]; repeat' (first | exact Ok.out | with_reducible refine And.intro ?_ ?_ | (simp; done)))
 | (cases h; replace h := hr; clear hr; (try simp only [bs, ↓reduceIte] at h))
 | (cases h; done))
  · have hgt : decide (((pos + k : Nat) : Int) > (pos : Int)) = true := by simp; omega
    have hlen : ((c :: r).take k).length = k := by rw [List.length_take]; omega
    have fin : text.drop (pos + k) = (c :: r).drop k := by rw [← h1, List.drop_drop]
    have hlen2 : ((c :: r).drop k).length < n := by rw [List.length_drop]; omega
    simp only [hz, ↓reduceIte, hlen] at h
    by_cases ho2 : out.length = 2000
    · have ho3 : ((out.length : Int) == 2000) = true := by simp [ho2]
      simp only [ho2, ↓reduceIte] at h
      repeat' (first
 | simp only [go_sem, hlt, hget, hpu, hinc, Int.reduceLE, ↓reduceIte, reduceCtorEq, Nat.reduceEqDiff, Nat.reduceLeDiff, Nat.reduceAdd, Nat.reduceMul, Nat.reduceSub, Nat.reduceLT, hge, hb.1.1.1, hb.1.1.2, hb.1.2, hb.2, hc, hL, hD, e1, e2, e3, hgt, ho3]
 | (with_reducible refine CU (letter_s _ _) ?_)
 | (with_reducible refine CU (digit_s _ _) ?_)
 | (with_reducible refine CU (hsign _) ?_)
 | (with_reducible refine jumpA_go (l := 4) (by with_unfolding_all rfl) ?_)
 | (with_reducible refine jumpA_go (l := 5) (by with_unfolding_all rfl) ?_)
 | (with_reducible first | refine CB_ofT (by assumption) fun hc => ?_ | refine CB_ofF (by assumption) fun hc => ?_ | refine CB_split (fun hc => ?_) fun hc => ?_) <;> (try simp only [hc, bs, ↓reduceIte] at h) <;> (try simp only [hc])
 | ((with_reducible first | refine leafR hQ ?_ | refine leafN hQ ?_); (try cases h); simp only [resL, oneD, Option.some.injEq, exists_eq_left', go_sem, hlt, hget, hpu, hinc, Int.reduceLE, ↓reduceIte, reduceCtorEq, Nat.reduceEqDiff, Nat.reduceLeDiff, Nat.reduceAdd, Nat.reduceMul, Nat.reduceSub, Nat.reduceLT, hge, hb.1.1.1, hb.1.1.2, hb.1.2, hb.2, hc, hL, hD, e1, e2, e3, hgt, ho3]; repeat' (first | exact Ok.out | with_reducible refine And.intro ?_ ?_ | (simp; done)))
 | (cases h; replace h := hr; clear hr; (try simp only [bs, ↓reduceIte] at h))
 | (cases h; done))
    · have ho3 : ((out.length : Int) == 2000) = false := by simp; omega
      have ho4 : ∀ t : Tok, (out ++ [t]).length ≤ 2000 := by intro t; simp; omega
      simp only [ho2, ↓reduceIte] at h
      repeat' (first
 | simp only [go_sem, hlt, hget, hpu, hinc, Int.reduceLE, ↓reduceIte, reduceCtorEq, Nat.reduceEqDiff, Nat.reduceLeDiff, Nat.reduceAdd, Nat.reduceMul, Nat.reduceSub, Nat.reduceLT, hge, hb.1.1.1, hb.1.1.2, hb.1.2, hb.2, hc, hL, hD, e1, e2, e3, hgt, ho3, hroom]
 | (with_reducible refine CU (letter_s _ _) ?_)
 | (with_reducible refine CU (digit_s _ _) ?_)
 | (with_reducible refine CU (hsign _) ?_)
 | (with_reducible refine jumpA_go (l := 4) (by with_unfolding_all rfl) ?_)
 | (with_reducible refine jumpA_go (l := 5) (by with_unfolding_all rfl) ?_)
 | (refine IH.to hB fin h hlen2 (ho4 _) (by omega) (Nat.lt_succ_self _) ?_ ?_ ?_ <;> ((try simp only [go_sem, hlt, hget, hpu, hinc, Int.reduceLE, ↓reduceIte, reduceCtorEq, Nat.reduceEqDiff, Nat.reduceLeDiff, Nat.reduceAdd, Nat.reduceMul, Nat.reduceSub, Nat.reduceLT]); repeat' (first | exact Ok.out | with_reducible refine And.intro ?_ ?_ | omega | (simp; done))); done)
 | (with_reducible first | refine CB_ofT (by assumption) fun hc => ?_ | refine CB_ofF (by assumption) fun hc => ?_ | refine CB_split (fun hc => ?_) fun hc => ?_) <;> (try simp only [hc, bs, ↓reduceIte] at h) <;> (try simp only [hc])
 | ((with_reducible first | refine leafR hQ ?_ | refine leafN hQ ?_); (try cases h); simp only [resL, oneD, Option.some.injEq, exists_eq_left', go_sem, hlt, hget, hpu, hinc, Int.reduceLE, ↓reduceIte, reduceCtorEq, Nat.reduceEqDiff, Nat.reduceLeDiff, Nat.reduceAdd, Nat.reduceMul, Nat.reduceSub, Nat.reduceLT, hge, hb.1.1.1, hb.1.1.2, hb.1.2, hb.2, hc, hL, hD, e1, e2, e3, hgt, ho3, hroom]; repeat' (first | exact Ok.out | with_reducible refine And.intro ?_ ?_ | (simp; done)))
 | (cases h; replace h := hr; clear hr; (try simp only [bs, ↓reduceIte] at h))
 | (cases h; done))

theorem lex_name {text : Str} (hl : text.length ≤ 100000) {B : Base} {Q : Exit → Tm → St → Prop} {p : List Tok × Int × Int} (hB : B.s = S0)
    (hQ : retF 0 0 [(2, none), (3, some (true, 2))] (.tuple [.slice .shared 4 (p.1.map encTok), .agg (encF p.2)]) ⟨[], []⟩ = Q)
    {n pos : Nat} {out : List Tok} (ho : out.length ≤ 2000) (hp : pos ≤ text.length) (IH : LexGo text B Q p (n + 1))
    {c : UInt8} {r : Str} (h1 : text.drop pos = c :: r) (hb : isB c = false) (hc : ((c.toNat : Int) == 35) = false) (hL : isL c = true) (hn : (c :: r).length < n + 1) (h : lexF (n + 1) pos (c :: r) out = p) :
    wpC Try.prog B 152 Q7M (jumpA Try.prog B 152 Q7R Q) (lexTM text out pos) (lexST out) := by
  have hpu : 0 < 1 := Nat.zero_lt_one
  have hinc : 0 < 1 := Nat.zero_lt_one
  have hget := (drop_cons h1).1
  have g4 := (drop_cons h1).2.2.2
  have hlt : pos < 4611686018427387904 := by omega
  have hge : decide ((pos : Int) ≥ (text.length : Int)) = false := by simp; omega
  have hroom : (out.length + 1) * 41 ≤ maxStr := by simp only [maxStr]; omega
  have hrun := fun s => run_s (text := text) (pos := pos) (by omega) s
  rw [h1] at hrun
  have hk2 := runL_len (c :: r)
  have hk1 := runL_pos (r := r) hL
  have hk3 : (c :: r).length = text.length - pos := by rw [← h1, List.length_drop]
  simp only [lexF, hb, Bool.false_eq_true, ↓reduceIte, hc, tokE, hL] at h
  simp only [isB, Bool.or_eq_false_iff] at hb
  generalize hK : runL (c :: r) = k at h hrun hk2 hk1
  have hlen : ((c :: r).take k).length = k := by rw [List.length_take]; omega
  simp only [hlen] at h
  have e1 : IntKind.wrap .i64 (((pos + k : Nat) : Int) - (pos : Int)) = (k : Int) := by rw [wrap_ok] <;> omega
  have e2 : (0 : Int) ≤ (pos : Int) ∧ (pos : Int) ≤ ((pos + k : Nat) : Int) ∧ ((pos + k : Nat) : Int) ≤ (text.length : Int) := by omega
  have e3 : (text.take (pos + k)).drop pos = (c :: r).take k := by rw [slice_at, h1]
  by_cases hz : k > 8
  · have hgt : decide ((k : Int) > 8) = true := by simp; omega
    simp only [hz, ↓reduceIte] at h
    cases hw : isWord ((c :: r).take k)
    · repeat' (first
 | simp only [go_sem, hlt, hget, hpu, hinc, Int.reduceLE, ↓reduceIte, reduceCtorEq, Nat.reduceEqDiff, Nat.reduceLeDiff, Nat.reduceAdd, Nat.reduceMul, Nat.reduceSub, Nat.reduceLT, hge, hb.1.1.1, hb.1.1.2, hb.1.2, hb.2, hc, hL, e1, e2, e3, hgt, hw]
 | (with_reducible refine CU (letter_s _ _) ?_)
 | (with_reducible refine CU (hrun _) ?_)
 | (with_reducible refine CU (word_s _ _) ?_)
 | (with_reducible refine jumpA_go (l := 2) (by with_unfolding_all rfl) ?_)
 | (with_reducible refine jumpA_go (l := 4) (by with_unfolding_all rfl) ?_)
 | (with_reducible refine jumpA_go (l := 5) (by with_unfolding_all rfl) ?_)
 | (with_reducible first | refine CB_ofT (by assumption) fun hc => ?_ | refine CB_ofF (by assumption) fun hc => ?_ | refine CB_split (fun hc => ?_) fun hc => ?_) <;> (try simp only [hc, bs, ↓reduceIte] at h) <;> (try simp only [hc])
 | ((with_reducible first | refine leafR hQ ?_ | refine leafN hQ ?_); (try cases h); simp only [resL, oneD, Option.some.injEq, exists_eq_left', go_sem, hlt, hget, hpu, hinc, Int.reduceLE, ↓reduceIte, reduceCtorEq, Nat.reduceEqDiff, Nat.reduceLeDiff, Nat.reduceAdd, Nat.reduceMul, Nat.reduceSub, Nat.reduceLT, hge, hb.1.1.1, hb.1.1.2, hb.1.2, hb.2, hc, hL, e1, e2, e3, hgt, hw]; repeat' (first | exact Ok.out | with_reducible refine And.intro ?_ ?_ | (simp; done)))
 | (cases h; replace h := hr; clear hr; (try simp only [bs, ↓reduceIte] at h))
 | (cases h; done))
    · repeat' (first
 | simp only [go_sem, hlt, hget, hpu, hinc, Int.reduceLE, ↓reduceIte, reduceCtorEq, Nat.reduceEqDiff, Nat.reduceLeDiff, Nat.reduceAdd, Nat.reduceMul, Nat.reduceSub, Nat.reduceLT, hge, hb.1.1.1, hb.1.1.2, hb.1.2, hb.2, hc, hL, e1, e2, e3, hgt, hw]
 | (with_reducible refine CU (letter_s _ _) ?_)
 | (with_reducible refine CU (hrun _) ?_)
 | (with_reducible refine CU (word_s _ _) ?_)
 | (with_reducible refine jumpA_go (l := 2) (by with_unfolding_all rfl) ?_)
 | (with_reducible refine jumpA_go (l := 4) (by with_unfolding_all rfl) ?_)
 | (with_reducible refine jumpA_go (l := 5) (by with_unfolding_all rfl) ?_)
 | (with_reducible first | refine CB_ofT (by assumption) fun hc => ?_ | refine CB_ofF (by assumption) fun hc => ?_ | refine CB_split (fun hc => ?_) fun hc => ?_) <;> (try simp only [hc, bs, ↓reduceIte] at h) <;> (try simp only [hc])
 | ((with_reducible first | refine leafR hQ ?_ | refine leafN hQ ?_); (try cases h); simp only [resL, oneD, Option.some.injEq, exists_eq_left', go_sem, hlt, hget, hpu, hinc, Int.reduceLE, ↓reduceIte, reduceCtorEq, Nat.reduceEqDiff, Nat.reduceLeDiff, Nat.reduceAdd, Nat.reduceMul, Nat.reduceSub, Nat.reduceLT, hge, hb.1.1.1, hb.1.1.2, hb.1.2, hb.2, hc, hL, e1, e2, e3, hgt, hw]; repeat' (first | exact Ok.out | with_reducible refine And.intro ?_ ?_ | (simp; done)))
 | (cases h; replace h := hr; clear hr; (try simp only [bs, ↓reduceIte] at h))
 | (cases h; done))
  · have hgt : decide ((k : Int) > 8) = false := by simp; omega
    have fin : text.drop (pos + k) = (c :: r).drop k := by rw [← h1, List.drop_drop]
    have hlen2 : ((c :: r).drop k).length < n := by rw [List.length_drop]; omega
    simp only [hz, ↓reduceIte, hlen] at h
    by_cases ho2 : out.length = 2000
    · have ho3 : ((out.length : Int) == 2000) = true := by simp [ho2]
      simp only [ho2, ↓reduceIte] at h
      cases hw : isWord ((c :: r).take k)
      · repeat' (first
 | simp only [go_sem, hlt, hget, hpu, hinc, Int.reduceLE, ↓reduceIte, reduceCtorEq, Nat.reduceEqDiff, Nat.reduceLeDiff, Nat.reduceAdd, Nat.reduceMul, Nat.reduceSub, Nat.reduceLT, hge, hb.1.1.1, hb.1.1.2, hb.1.2, hb.2, hc, hL, e1, e2, e3, hgt, ho3, hw]
 | (with_reducible refine CU (letter_s _ _) ?_)
 | (with_reducible refine CU (hrun _) ?_)
 | (with_reducible refine CU (word_s _ _) ?_)
 | (with_reducible refine jumpA_go (l := 2) (by with_unfolding_all rfl) ?_)
 | (with_reducible refine jumpA_go (l := 4) (by with_unfolding_all rfl) ?_)
 | (with_reducible refine jumpA_go (l := 5) (by with_unfolding_all rfl) ?_)
 | (with_reducible first | refine CB_ofT (by assumption) fun hc => ?_ | refine CB_ofF (by assumption) fun hc => ?_ | refine CB_split (fun hc => ?_) fun hc => ?_) <;> (try simp only [hc, bs, ↓reduceIte] at h) <;> (try simp only [hc])
 | ((with_reducible first | refine leafR hQ ?_ | refine leafN hQ ?_); (try cases h); simp only [resL, oneD, Option.some.injEq, exists_eq_left', go_sem, hlt, hget, hpu, hinc, Int.reduceLE, ↓reduceIte, reduceCtorEq, Nat.reduceEqDiff, Nat.reduceLeDiff, Nat.reduceAdd, Nat.reduceMul, Nat.reduceSub, Nat.reduceLT, hge, hb.1.1.1, hb.1.1.2, hb.1.2, hb.2, hc, hL, e1, e2, e3, hgt, ho3, hw]; repeat' (first | exact Ok.out | with_reducible refine And.intro ?_ ?_ | (simp; done)))
 | (cases h; replace h := hr; clear hr; (try simp only [bs, ↓reduceIte] at h))
 | (cases h; done))
      · repeat' (first
 | simp only [go_sem, hlt, hget, hpu, hinc, Int.reduceLE, ↓reduceIte, reduceCtorEq, Nat.reduceEqDiff, Nat.reduceLeDiff, Nat.reduceAdd, Nat.reduceMul, Nat.reduceSub, Nat.reduceLT, hge, hb.1.1.1, hb.1.1.2, hb.1.2, hb.2, hc, hL, e1, e2, e3, hgt, ho3, hw]
 | (with_reducible refine CU (letter_s _ _) ?_)
 | (with_reducible refine CU (hrun _) ?_)
 | (with_reducible refine CU (word_s _ _) ?_)
 | (with_reducible refine jumpA_go (l := 2) (by with_unfolding_all rfl) ?_)
 | (with_reducible refine jumpA_go (l := 4) (by with_unfolding_all rfl) ?_)
 | (with_reducible refine jumpA_go (l := 5) (by with_unfolding_all rfl) ?_)
 | (with_reducible first | refine CB_ofT (by assumption) fun hc => ?_ | refine CB_ofF (by assumption) fun hc => ?_ | refine CB_split (fun hc => ?_) fun hc => ?_) <;> (try simp only [hc, bs, ↓reduceIte] at h) <;> (try simp only [hc])
 | ((with_reducible first | refine leafR hQ ?_ | refine leafN hQ ?_); (try cases h); simp only [resL, oneD, Option.some.injEq, exists_eq_left', go_sem, hlt, hget, hpu, hinc, Int.reduceLE, ↓reduceIte, reduceCtorEq, Nat.reduceEqDiff, Nat.reduceLeDiff, Nat.reduceAdd, Nat.reduceMul, Nat.reduceSub, Nat.reduceLT, hge, hb.1.1.1, hb.1.1.2, hb.1.2, hb.2, hc, hL, e1, e2, e3, hgt, ho3, hw]; repeat' (first | exact Ok.out | with_reducible refine And.intro ?_ ?_ | (simp; done)))
 | (cases h; replace h := hr; clear hr; (try simp only [bs, ↓reduceIte] at h))
 | (cases h; done))
    · have ho3 : ((out.length : Int) == 2000) = false := by simp; omega
      have ho4 : ∀ t : Tok, (out ++ [t]).length ≤ 2000 := by intro t; simp; omega
      simp only [ho2, ↓reduceIte] at h
      cases hw : isWord ((c :: r).take k)
      · simp only [hw, Bool.false_eq_true, ↓reduceIte] at h
        repeat' (first
 | simp only [go_sem, hlt, hget, hpu, hinc, Int.reduceLE, ↓reduceIte, reduceCtorEq, Nat.reduceEqDiff, Nat.reduceLeDiff, Nat.reduceAdd, Nat.reduceMul, Nat.reduceSub, Nat.reduceLT, hge, hb.1.1.1, hb.1.1.2, hb.1.2, hb.2, hc, hL, e1, e2, e3, hgt, ho3, hroom, hw]
 | (with_reducible refine CU (letter_s _ _) ?_)
 | (with_reducible refine CU (hrun _) ?_)
 | (with_reducible refine CU (word_s _ _) ?_)
 | (with_reducible refine jumpA_go (l := 2) (by with_unfolding_all rfl) ?_)
 | (with_reducible refine jumpA_go (l := 4) (by with_unfolding_all rfl) ?_)
 | (with_reducible refine jumpA_go (l := 5) (by with_unfolding_all rfl) ?_)
 | (refine IH.to hB fin h hlen2 (ho4 _) (by omega) (Nat.lt_succ_self _) ?_ ?_ ?_ <;> ((try simp only [go_sem, hlt, hget, hpu, hinc, Int.reduceLE, ↓reduceIte, reduceCtorEq, Nat.reduceEqDiff, Nat.reduceLeDiff, Nat.reduceAdd, Nat.reduceMul, Nat.reduceSub, Nat.reduceLT]); repeat' (first | exact Ok.out | with_reducible refine And.intro ?_ ?_ | omega | (simp; done))); done)
 | (with_reducible first | refine CB_ofT (by assumption) fun hc => ?_ | refine CB_ofF (by assumption) fun hc => ?_ | refine CB_split (fun hc => ?_) fun hc => ?_) <;> (try simp only [hc, bs, ↓reduceIte] at h) <;> (try simp only [hc])
 | ((with_reducible first | refine leafR hQ ?_ | refine leafN hQ ?_); (try cases h); simp only [resL, oneD, Option.some.injEq, exists_eq_left', go_sem, hlt, hget, hpu, hinc, Int.reduceLE, ↓reduceIte, reduceCtorEq, Nat.reduceEqDiff, Nat.reduceLeDiff, Nat.reduceAdd, Nat.reduceMul, Nat.reduceSub, Nat.reduceLT, hge, hb.1.1.1, hb.1.1.2, hb.1.2, hb.2, hc, hL, e1, e2, e3, hgt, ho3, hroom, hw]; repeat' (first | exact Ok.out | with_reducible refine And.intro ?_ ?_ | (simp; done)))
 | (cases h; replace h := hr; clear hr; (try simp only [bs, ↓reduceIte] at h))
 | (cases h; done))
      · simp only [hw, ↓reduceIte] at h
        repeat' (first
 | simp only [go_sem, hlt, hget, hpu, hinc, Int.reduceLE, ↓reduceIte, reduceCtorEq, Nat.reduceEqDiff, Nat.reduceLeDiff, Nat.reduceAdd, Nat.reduceMul, Nat.reduceSub, Nat.reduceLT, hge, hb.1.1.1, hb.1.1.2, hb.1.2, hb.2, hc, hL, e1, e2, e3, hgt, ho3, hroom, hw]
 | (with_reducible refine CU (letter_s _ _) ?_)
 | (with_reducible refine CU (hrun _) ?_)
 | (with_reducible refine CU (word_s _ _) ?_)
 | (with_reducible refine jumpA_go (l := 2) (by with_unfolding_all rfl) ?_)
 | (with_reducible refine jumpA_go (l := 4) (by with_unfolding_all rfl) ?_)
 | (with_reducible refine jumpA_go (l := 5) (by with_unfolding_all rfl) ?_)
 | (refine IH.to hB fin h hlen2 (ho4 _) (by omega) (Nat.lt_succ_self _) ?_ ?_ ?_ <;> ((try simp only [go_sem, hlt, hget, hpu, hinc, Int.reduceLE, ↓reduceIte, reduceCtorEq, Nat.reduceEqDiff, Nat.reduceLeDiff, Nat.reduceAdd, Nat.reduceMul, Nat.reduceSub, Nat.reduceLT]); repeat' (first | exact Ok.out | with_reducible refine And.intro ?_ ?_ | omega | (simp; done))); done)
 | (with_reducible first | refine CB_ofT (by assumption) fun hc => ?_ | refine CB_ofF (by assumption) fun hc => ?_ | refine CB_split (fun hc => ?_) fun hc => ?_) <;> (try simp only [hc, bs, ↓reduceIte] at h) <;> (try simp only [hc])
 | ((with_reducible first | refine leafR hQ ?_ | refine leafN hQ ?_); (try cases h); simp only [resL, oneD, Option.some.injEq, exists_eq_left', go_sem, hlt, hget, hpu, hinc, Int.reduceLE, ↓reduceIte, reduceCtorEq, Nat.reduceEqDiff, Nat.reduceLeDiff, Nat.reduceAdd, Nat.reduceMul, Nat.reduceSub, Nat.reduceLT, hge, hb.1.1.1, hb.1.1.2, hb.1.2, hb.2, hc, hL, e1, e2, e3, hgt, ho3, hroom, hw]; repeat' (first | exact Ok.out | with_reducible refine And.intro ?_ ?_ | (simp; done)))
 | (cases h; replace h := hr; clear hr; (try simp only [bs, ↓reduceIte] at h))
 | (cases h; done))

end Go.Abs

/-! Lex3 -/

namespace Go.Abs

set_option maxRecDepth 8000
set_option linter.unusedSimpArgs false
set_option linter.unusedVariables false
open Go.Proofs

theorem runD_pos {c : UInt8} {r : Str} (h : isD c = true) : 0 < runD (c :: r) := by simp [runD, h]

theorem lex_digits {text : Str} (hl : text.length ≤ 100000) {B : Base} {Q : Exit → Tm → St → Prop} {p : List Tok × Int × Int} (hB : B.s = S0)
    (hQ : retF 0 0 [(2, none), (3, some (true, 2))] (.tuple [.slice .shared 4 (p.1.map encTok), .agg (encF p.2)]) ⟨[], []⟩ = Q)
    {n pos : Nat} {out : List Tok} (ho : out.length ≤ 2000) (hp : pos ≤ text.length) (IH : LexGo text B Q p (n + 1))
    {c : UInt8} {r : Str} (h1 : text.drop pos = c :: r) (hb : isB c = false) (hc : ((c.toNat : Int) == 35) = false) (hL : isL c = false) (hD : isD c = true) (hn : (c :: r).length < n + 1) (h : lexF (n + 1) pos (c :: r) out = p) :
    wpC Try.prog B 152 Q7M (jumpA Try.prog B 152 Q7R Q) (lexTM text out pos) (lexST out) := by
  have hpu : 0 < 1 := Nat.zero_lt_one
  have hinc : 0 < 1 := Nat.zero_lt_one
  have hget := (drop_cons h1).1
  have g4 := (drop_cons h1).2.2.2
  have hlt : pos < 4611686018427387904 := by omega
  have hge : decide ((pos : Int) ≥ (text.length : Int)) = false := by simp; omega
  have hroom : (out.length + 1) * 41 ≤ maxStr := by simp only [maxStr]; omega
  have hk2 := runD_len (c :: r)
  have hk1 := runD_pos (r := r) hD
  have hk3 : (c :: r).length = text.length - pos := by rw [← h1, List.length_drop]
  have hall := runD_all (c :: r)
  simp only [lexF, hb, Bool.false_eq_true, ↓reduceIte, hc, tokE, hL, hD] at h
  simp only [isB, Bool.or_eq_false_iff] at hb
  generalize hK : runD (c :: r) = k at h hk2 hk1 hall
  have hlen : ((c :: r).take k).length = k := by rw [List.length_take]; omega
  have hnum := fun s => number_s hall (by rw [hlen]; omega) s
  simp only [hlen] at h
  have hfirst : ((c :: r).take k)[0]? = some c := by rw [List.getElem?_take_of_lt hk1]; rfl
  have e2 : (0 : Int) ≤ (pos : Int) ∧ (pos : Int) ≤ ((pos + k : Nat) : Int) ∧ ((pos + k : Nat) : Int) ≤ (text.length : Int) := by omega
  have e3 : (text.take (pos + k)).drop pos = (c :: r).take k := by rw [slice_at, h1]
  have fin : text.drop (pos + k) = (c :: r).drop k := by rw [← h1, List.drop_drop]
  have hlen2 : ((c :: r).drop k).length < n := by rw [List.length_drop]; omega
  have hgo : pos + k ≤ text.length := by omega
  repeat' (first
 | simp only [go_sem, hlt, hget, hpu, hinc, Int.reduceLE, ↓reduceIte, reduceCtorEq, Nat.reduceEqDiff, Nat.reduceLeDiff, Nat.reduceAdd, Nat.reduceMul, Nat.reduceSub, Nat.reduceLT, hge, hb.1.1.1, hb.1.1.2, hb.1.2, hb.2, hc, hL, hD]
 | (with_reducible refine CU (letter_s _ _) ?_)
 | (with_reducible refine CU (digit_s _ _) ?_)
 | (with_reducible refine jumpA_go (l := 3) (by with_unfolding_all rfl) ?_)
 | (with_reducible first | refine CB_ofT (by assumption) fun hc => ?_ | refine CB_ofF (by assumption) fun hc => ?_ | refine CB_split (fun hc => ?_) fun hc => ?_) <;> (try simp only [hc, bs, ↓reduceIte] at h) <;> (try simp only [hc])
 | ((with_reducible first | refine leafR hQ ?_ | refine leafN hQ ?_); (try cases h); simp only [resL, oneD, Option.some.injEq, exists_eq_left', go_sem, hlt, hget, hpu, hinc, Int.reduceLE, ↓reduceIte, reduceCtorEq, Nat.reduceEqDiff, Nat.reduceLeDiff, Nat.reduceAdd, Nat.reduceMul, Nat.reduceSub, Nat.reduceLT, hge, hb.1.1.1, hb.1.1.2, hb.1.2, hb.2, hc, hL, hD]; repeat' (first | exact Ok.out | with_reducible refine And.intro ?_ ?_ | (simp; done)))
 | (cases h; replace h := hr; clear hr; (try simp only [bs, ↓reduceIte] at h))
 | (cases h; done))
  refine SemL.re _ _ 2 1 (by rw [hB]; exact Nat.le_of_ble_eq_true rfl) (by rw [hB]; exact Nat.le_of_ble_eq_true rfl) ?_ ?_ (SemL.ind (ι := Str × Nat) (fun i => text.drop i.2 = i.1 ∧ i.2 + runD i.1 = pos + k) (fun i => i.1.length)
    (fun i => lexTM text out i.2) (fun i => ⟨[[.int .i64 0, .int .i64 0], [.int .i64 0, .str [], .int .i64 0, .int .i64 (pos : Int)]], [some out.length]⟩) ?_ (c :: r, pos) ⟨h1, by dsimp only; omega⟩)
  · (simp only [go_sem, hlt, hget, hpu, hinc, Int.reduceLE, ↓reduceIte, reduceCtorEq, Nat.reduceEqDiff, Nat.reduceLeDiff, Nat.reduceAdd, Nat.reduceMul, Nat.reduceSub, Nat.reduceLT]; repeat' (first | exact Ok.out | with_reducible refine And.intro ?_ ?_))
  · (simp only [go_sem, hlt, hget, hpu, hinc, Int.reduceLE, ↓reduceIte, reduceCtorEq, Nat.reduceEqDiff, Nat.reduceLeDiff, Nat.reduceAdd, Nat.reduceMul, Nat.reduceSub, Nat.reduceLT]; repeat' (first | exact Ok.out | with_reducible refine And.intro ?_ ?_))
  rintro ⟨rest, j⟩ ⟨j1, j2⟩ IHl
  dsimp only at j1 j2
  have step : ∀ d rest', rest = d :: rest' → isD d = true → wpC Try.prog B 152 Q68 (thenQ (SemL Try.prog B 152 Q68
      (inBlockQ 3 (thenQ (wpC Try.prog B 152 Q71 (jumpA Try.prog B 152 Q7R Q)) (jumpA Try.prog B 152 Q7R Q))))
      (inBlockQ 3 (thenQ (wpC Try.prog B 152 Q71 (jumpA Try.prog B 152 Q7R Q)) (jumpA Try.prog B 152 Q7R Q))))
      (lexTM text out j) ⟨[[.int .i64 0, .int .i64 0], [.int .i64 0, .str [], .int .i64 0, .int .i64 (pos : Int)]], [some out.length]⟩ := by
    rintro d rest' rfl hd
    obtain ⟨hget, g2, hge, g5⟩ := drop_cons j1
    have hlt : j < 4611686018427387904 := by omega
    simp only [runD, hd, ↓reduceIte] at j2
    repeat' (first
 | simp only [go_sem, hlt, hget, hpu, hinc, Int.reduceLE, ↓reduceIte, reduceCtorEq, Nat.reduceEqDiff, Nat.reduceLeDiff, Nat.reduceAdd, Nat.reduceMul, Nat.reduceSub, Nat.reduceLT, hge, hd]
 | (with_reducible refine CU (digit_s _ _) ?_)
 | (with_reducible first | refine CB_ofT (by assumption) fun hc => ?_ | refine CB_ofF (by assumption) fun hc => ?_ | refine CB_split (fun hc => ?_) fun hc => ?_) <;> (try simp only [hc, bs, ↓reduceIte] at h) <;> (try simp only [hc])
 | ((with_reducible first | refine leafR hQ ?_ | refine leafN hQ ?_); (try cases h); simp only [resL, oneD, Option.some.injEq, exists_eq_left', go_sem, hlt, hget, hpu, hinc, Int.reduceLE, ↓reduceIte, reduceCtorEq, Nat.reduceEqDiff, Nat.reduceLeDiff, Nat.reduceAdd, Nat.reduceMul, Nat.reduceSub, Nat.reduceLT, hge, hd]; repeat' (first | exact Ok.out | with_reducible refine And.intro ?_ ?_ | (simp; done)))
 | (cases h; replace h := hr; clear hr; (try simp only [bs, ↓reduceIte] at h))
 | (cases h; done))
    refine SemL.re _ _ 2 1 (by rw [hB]; exact Nat.le_of_ble_eq_true rfl) (by rw [hB]; exact Nat.le_of_ble_eq_true rfl) ?_ ?_ (IHl (rest', j + 1) ⟨g2, by dsimp only; omega⟩ (Nat.lt_succ_self _))
    · (simp only [go_sem, hlt, hget, hpu, hinc, Int.reduceLE, ↓reduceIte, reduceCtorEq, Nat.reduceEqDiff, Nat.reduceLeDiff, Nat.reduceAdd, Nat.reduceMul, Nat.reduceSub, Nat.reduceLT]; repeat' (first | exact Ok.out | with_reducible refine And.intro ?_ ?_))
    · (simp only [go_sem, hlt, hget, hpu, hinc, Int.reduceLE, ↓reduceIte, reduceCtorEq, Nat.reduceEqDiff, Nat.reduceLeDiff, Nat.reduceAdd, Nat.reduceMul, Nat.reduceSub, Nat.reduceLT]; repeat' (first | exact Ok.out | with_reducible refine And.intro ?_ ?_))
  cases rest with
  | nil =>
    have hge := drop_nil j1
    simp only [runD, Nat.add_zero] at j2
    subst j2
    by_cases hz : k > 1 ∧ (c.toNat : Int) = 48
    · have z1 : decide ((k : Int) > 1) = true := by simp; omega
      have z2 : ((c.toNat : Int) == 48) = true := by simp [hz.2]
      rw [if_pos hz] at h
      dsimp only at h
      repeat' (first
 | simp only [go_sem, hlt, hget, hpu, hinc, Int.reduceLE, ↓reduceIte, reduceCtorEq, Nat.reduceEqDiff, Nat.reduceLeDiff, Nat.reduceAdd, Nat.reduceMul, Nat.reduceSub, Nat.reduceLT, hge, e2, e3, hlen, hfirst, z1, z2]
 | (with_reducible refine jumpA_go (l := 4) (by with_unfolding_all rfl) ?_)
 | (with_reducible refine jumpA_go (l := 5) (by with_unfolding_all rfl) ?_)
 | (with_reducible first | refine CB_ofT (by assumption) fun hc => ?_ | refine CB_ofF (by assumption) fun hc => ?_ | refine CB_split (fun hc => ?_) fun hc => ?_) <;> (try simp only [hc, bs, ↓reduceIte] at h) <;> (try simp only [hc])
 | ((with_reducible first | refine leafR hQ ?_ | refine leafN hQ ?_); (try cases h); simp only [resL, oneD, Option.some.injEq, exists_eq_left', go_sem, hlt, hget, hpu, hinc, Int.reduceLE, ↓reduceIte, reduceCtorEq, Nat.reduceEqDiff, Nat.reduceLeDiff, Nat.reduceAdd, Nat.reduceMul, Nat.reduceSub, Nat.reduceLT, hge, e2, e3, hlen, hfirst, z1, z2]; repeat' (first | exact Ok.out | with_reducible refine And.intro ?_ ?_ | (simp; done)))
 | (cases h; replace h := hr; clear hr; (try simp only [bs, ↓reduceIte] at h))
 | (cases h; done))
    · have hz' : decide ((k : Int) > 1) = false ∨ (decide ((k : Int) > 1) = true ∧ ((c.toNat : Int) == 48) = false) := by
        by_cases h1 : k > 1
        · right; exact ⟨by simp; omega, by simp; intro h2; exact hz ⟨h1, h2⟩⟩
        · left; simp; omega
      rw [if_neg hz] at h
      cases hw : worth 0 ((c :: r).take k) with
      | none =>
        have hwp : worthP ((c :: r).take k) = (0, false) := by simp only [worthP, hw]
        simp only [hwp] at hnum
        simp only [hw] at h
        rcases hz' with z1 | ⟨z1, z2⟩
        · repeat' (first
 | simp only [go_sem, hlt, hget, hpu, hinc, Int.reduceLE, ↓reduceIte, reduceCtorEq, Nat.reduceEqDiff, Nat.reduceLeDiff, Nat.reduceAdd, Nat.reduceMul, Nat.reduceSub, Nat.reduceLT, hge, e2, e3, hlen, hfirst, z1]
 | (with_reducible refine CU (hnum _) ?_)
 | (with_reducible refine jumpA_go (l := 4) (by with_unfolding_all rfl) ?_)
 | (with_reducible refine jumpA_go (l := 5) (by with_unfolding_all rfl) ?_)
 | (with_reducible first | refine CB_ofT (by assumption) fun hc => ?_ | refine CB_ofF (by assumption) fun hc => ?_ | refine CB_split (fun hc => ?_) fun hc => ?_) <;> (try simp only [hc, bs, ↓reduceIte] at h) <;> (try simp only [hc])
 | ((with_reducible first | refine leafR hQ ?_ | refine leafN hQ ?_); (try cases h); simp only [resL, oneD, Option.some.injEq, exists_eq_left', go_sem, hlt, hget, hpu, hinc, Int.reduceLE, ↓reduceIte, reduceCtorEq, Nat.reduceEqDiff, Nat.reduceLeDiff, Nat.reduceAdd, Nat.reduceMul, Nat.reduceSub, Nat.reduceLT, hge, e2, e3, hlen, hfirst, z1]; repeat' (first | exact Ok.out | with_reducible refine And.intro ?_ ?_ | (simp; done)))
 | (cases h; replace h := hr; clear hr; (try simp only [bs, ↓reduceIte] at h))
 | (cases h; done))
        · repeat' (first
 | simp only [go_sem, hlt, hget, hpu, hinc, Int.reduceLE, ↓reduceIte, reduceCtorEq, Nat.reduceEqDiff, Nat.reduceLeDiff, Nat.reduceAdd, Nat.reduceMul, Nat.reduceSub, Nat.reduceLT, hge, e2, e3, hlen, hfirst, z1, z2]
 | (with_reducible refine CU (hnum _) ?_)
 | (with_reducible refine jumpA_go (l := 4) (by with_unfolding_all rfl) ?_)
 | (with_reducible refine jumpA_go (l := 5) (by with_unfolding_all rfl) ?_)
 | (with_reducible first | refine CB_ofT (by assumption) fun hc => ?_ | refine CB_ofF (by assumption) fun hc => ?_ | refine CB_split (fun hc => ?_) fun hc => ?_) <;> (try simp only [hc, bs, ↓reduceIte] at h) <;> (try simp only [hc])
 | ((with_reducible first | refine leafR hQ ?_ | refine leafN hQ ?_); (try cases h); simp only [resL, oneD, Option.some.injEq, exists_eq_left', go_sem, hlt, hget, hpu, hinc, Int.reduceLE, ↓reduceIte, reduceCtorEq, Nat.reduceEqDiff, Nat.reduceLeDiff, Nat.reduceAdd, Nat.reduceMul, Nat.reduceSub, Nat.reduceLT, hge, e2, e3, hlen, hfirst, z1, z2]; repeat' (first | exact Ok.out | with_reducible refine And.intro ?_ ?_ | (simp; done)))
 | (cases h; replace h := hr; clear hr; (try simp only [bs, ↓reduceIte] at h))
 | (cases h; done))
      | some v =>
        have hwp : worthP ((c :: r).take k) = (v, true) := by simp only [worthP, hw]
        simp only [hwp] at hnum
        simp only [hw, hlen] at h
        by_cases ho2 : out.length = 2000
        · have ho3 : ((out.length : Int) == 2000) = true := by simp [ho2]
          simp only [ho2, ↓reduceIte] at h
          rcases hz' with z1 | ⟨z1, z2⟩
          · repeat' (first
 | simp only [go_sem, hlt, hget, hpu, hinc, Int.reduceLE, ↓reduceIte, reduceCtorEq, Nat.reduceEqDiff, Nat.reduceLeDiff, Nat.reduceAdd, Nat.reduceMul, Nat.reduceSub, Nat.reduceLT, hge, e2, e3, hlen, hfirst, z1, ho3]
 | (with_reducible refine CU (hnum _) ?_)
 | (with_reducible refine jumpA_go (l := 4) (by with_unfolding_all rfl) ?_)
 | (with_reducible refine jumpA_go (l := 5) (by with_unfolding_all rfl) ?_)
 | (with_reducible first | refine CB_ofT (by assumption) fun hc => ?_ | refine CB_ofF (by assumption) fun hc => ?_ | refine CB_split (fun hc => ?_) fun hc => ?_) <;> (try simp only [hc, bs, ↓reduceIte] at h) <;> (try simp only [hc])
 | ((with_reducible first | refine leafR hQ ?_ | refine leafN hQ ?_); (try cases h); simp only [resL, oneD, Option.some.injEq, exists_eq_left', go_sem, hlt, hget, hpu, hinc, Int.reduceLE, ↓reduceIte, reduceCtorEq, Nat.reduceEqDiff, Nat.reduceLeDiff, Nat.reduceAdd, Nat.reduceMul, Nat.reduceSub, Nat.reduceLT, hge, e2, e3, hlen, hfirst, z1, ho3]; repeat' (first | exact Ok.out | with_reducible refine And.intro ?_ ?_ | (simp; done)))
 | (cases h; replace h := hr; clear hr; (try simp only [bs, ↓reduceIte] at h))
 | (cases h; done))
          · repeat' (first
 | simp only [go_sem, hlt, hget, hpu, hinc, Int.reduceLE, ↓reduceIte, reduceCtorEq, Nat.reduceEqDiff, Nat.reduceLeDiff, Nat.reduceAdd, Nat.reduceMul, Nat.reduceSub, Nat.reduceLT, hge, e2, e3, hlen, hfirst, z1, z2, ho3]
 | (with_reducible refine CU (hnum _) ?_)
 | (with_reducible refine jumpA_go (l := 4) (by with_unfolding_all rfl) ?_)
 | (with_reducible refine jumpA_go (l := 5) (by with_unfolding_all rfl) ?_)
 | (with_reducible first | refine CB_ofT (by assumption) fun hc => ?_ | refine CB_ofF (by assumption) fun hc => ?_ | refine CB_split (fun hc => ?_) fun hc => ?_) <;> (try simp only [hc, bs, ↓reduceIte] at h) <;> (try simp only [hc])
 | ((with_reducible first | refine leafR hQ ?_ | refine leafN hQ ?_); (try cases h); simp only [resL, oneD, Option.some.injEq, exists_eq_left', go_sem, hlt, hget, hpu, hinc, Int.reduceLE, ↓reduceIte, reduceCtorEq, Nat.reduceEqDiff, Nat.reduceLeDiff, Nat.reduceAdd, Nat.reduceMul, Nat.reduceSub, Nat.reduceLT, hge, e2, e3, hlen, hfirst, z1, z2, ho3]; repeat' (first | exact Ok.out | with_reducible refine And.intro ?_ ?_ | (simp; done)))
 | (cases h; replace h := hr; clear hr; (try simp only [bs, ↓reduceIte] at h))
 | (cases h; done))
        · have ho3 : ((out.length : Int) == 2000) = false := by simp; omega
          have ho4 : ∀ t : Tok, (out ++ [t]).length ≤ 2000 := by intro t; simp; omega
          simp only [ho2, ↓reduceIte] at h
          rcases hz' with z1 | ⟨z1, z2⟩
          · repeat' (first
 | simp only [go_sem, hlt, hget, hpu, hinc, Int.reduceLE, ↓reduceIte, reduceCtorEq, Nat.reduceEqDiff, Nat.reduceLeDiff, Nat.reduceAdd, Nat.reduceMul, Nat.reduceSub, Nat.reduceLT, hge, e2, e3, hlen, hfirst, z1, ho3, hroom]
 | (with_reducible refine CU (hnum _) ?_)
 | (with_reducible refine jumpA_go (l := 4) (by with_unfolding_all rfl) ?_)
 | (with_reducible refine jumpA_go (l := 5) (by with_unfolding_all rfl) ?_)
 | (refine IH.to hB fin h hlen2 (ho4 _) hgo (Nat.lt_succ_self _) ?_ ?_ ?_ <;> ((try simp only [go_sem, hlt, hget, hpu, hinc, Int.reduceLE, ↓reduceIte, reduceCtorEq, Nat.reduceEqDiff, Nat.reduceLeDiff, Nat.reduceAdd, Nat.reduceMul, Nat.reduceSub, Nat.reduceLT]); repeat' (first | exact Ok.out | with_reducible refine And.intro ?_ ?_ | omega | (simp; done))); done)
 | (with_reducible first | refine CB_ofT (by assumption) fun hc => ?_ | refine CB_ofF (by assumption) fun hc => ?_ | refine CB_split (fun hc => ?_) fun hc => ?_) <;> (try simp only [hc, bs, ↓reduceIte] at h) <;> (try simp only [hc])
 | ((with_reducible first | refine leafR hQ ?_ | refine leafN hQ ?_); (try cases h); simp only [resL, oneD, Option.some.injEq, exists_eq_left', go_sem, hlt, hget, hpu, hinc, Int.reduceLE, ↓reduceIte, reduceCtorEq, Nat.reduceEqDiff, Nat.reduceLeDiff, Nat.reduceAdd, Nat.reduceMul, Nat.reduceSub, Nat.reduceLT, hge, e2, e3, hlen, hfirst, z1, ho3, hroom]; repeat' (first | exact Ok.out | with_reducible refine And.intro ?_ ?_ | (simp; done)))
 | (cases h; replace h := hr; clear hr; (try simp only [bs, ↓reduceIte] at h))
 | (cases h; done))
          · repeat' (first
 | simp only [go_sem, hlt, hget, hpu, hinc, Int.reduceLE, ↓reduceIte, reduceCtorEq, Nat.reduceEqDiff, Nat.reduceLeDiff, Nat.reduceAdd, Nat.reduceMul, Nat.reduceSub, Nat.reduceLT, hge, e2, e3, hlen, hfirst, z1, z2, ho3, hroom]
 | (with_reducible refine CU (hnum _) ?_)
 | (with_reducible refine jumpA_go (l := 4) (by with_unfolding_all rfl) ?_)
 | (with_reducible refine jumpA_go (l := 5) (by with_unfolding_all rfl) ?_)
 | (refine IH.to hB fin h hlen2 (ho4 _) hgo (Nat.lt_succ_self _) ?_ ?_ ?_ <;> ((try simp only [go_sem, hlt, hget, hpu, hinc, Int.reduceLE, ↓reduceIte, reduceCtorEq, Nat.reduceEqDiff, Nat.reduceLeDiff, Nat.reduceAdd, Nat.reduceMul, Nat.reduceSub, Nat.reduceLT]); repeat' (first | exact Ok.out | with_reducible refine And.intro ?_ ?_ | omega | (simp; done))); done)
 | (with_reducible first | refine CB_ofT (by assumption) fun hc => ?_ | refine CB_ofF (by assumption) fun hc => ?_ | refine CB_split (fun hc => ?_) fun hc => ?_) <;> (try simp only [hc, bs, ↓reduceIte] at h) <;> (try simp only [hc])
 | ((with_reducible first | refine leafR hQ ?_ | refine leafN hQ ?_); (try cases h); simp only [resL, oneD, Option.some.injEq, exists_eq_left', go_sem, hlt, hget, hpu, hinc, Int.reduceLE, ↓reduceIte, reduceCtorEq, Nat.reduceEqDiff, Nat.reduceLeDiff, Nat.reduceAdd, Nat.reduceMul, Nat.reduceSub, Nat.reduceLT, hge, e2, e3, hlen, hfirst, z1, z2, ho3, hroom]; repeat' (first | exact Ok.out | with_reducible refine And.intro ?_ ?_ | (simp; done)))
 | (cases h; replace h := hr; clear hr; (try simp only [bs, ↓reduceIte] at h))
 | (cases h; done))
  | cons d rest =>
    obtain ⟨hget, g2, hge, g5⟩ := drop_cons j1
    have hlt : j < 4611686018427387904 := by omega
    cases hd : isD d
    · simp only [runD, hd, Bool.false_eq_true, ↓reduceIte, Nat.add_zero] at j2
      subst j2
      by_cases hz : k > 1 ∧ (c.toNat : Int) = 48
      · have z1 : decide ((k : Int) > 1) = true := by simp; omega
        have z2 : ((c.toNat : Int) == 48) = true := by simp [hz.2]
        rw [if_pos hz] at h
        dsimp only at h
        repeat' (first
 | simp only [go_sem, hlt, hget, hpu, hinc, Int.reduceLE, ↓reduceIte, reduceCtorEq, Nat.reduceEqDiff, Nat.reduceLeDiff, Nat.reduceAdd, Nat.reduceMul, Nat.reduceSub, Nat.reduceLT, hge, hd, e2, e3, hlen, hfirst, z1, z2]
 | (with_reducible refine CU (digit_s _ _) ?_)
 | (with_reducible refine jumpA_go (l := 4) (by with_unfolding_all rfl) ?_)
 | (with_reducible refine jumpA_go (l := 5) (by with_unfolding_all rfl) ?_)
 | (with_reducible first | refine CB_ofT (by assumption) fun hc => ?_ | refine CB_ofF (by assumption) fun hc => ?_ | refine CB_split (fun hc => ?_) fun hc => ?_) <;> (try simp only [hc, bs, ↓reduceIte] at h) <;> (try simp only [hc])
 | ((with_reducible first | refine leafR hQ ?_ | refine leafN hQ ?_); (try cases h); simp only [resL, oneD, Option.some.injEq, exists_eq_left', go_sem, hlt, hget, hpu, hinc, Int.reduceLE, ↓reduceIte, reduceCtorEq, Nat.reduceEqDiff, Nat.reduceLeDiff, Nat.reduceAdd, Nat.reduceMul, Nat.reduceSub, Nat.reduceLT, hge, hd, e2, e3, hlen, hfirst, z1, z2]; repeat' (first | exact Ok.out | with_reducible refine And.intro ?_ ?_ | (simp; done)))
 | (cases h; replace h := hr; clear hr; (try simp only [bs, ↓reduceIte] at h))
 | (cases h; done))
      · have hz' : decide ((k : Int) > 1) = false ∨ (decide ((k : Int) > 1) = true ∧ ((c.toNat : Int) == 48) = false) := by
          by_cases h1 : k > 1
          · right; exact ⟨by simp; omega, by simp; intro h2; exact hz ⟨h1, h2⟩⟩
          · left; simp; omega
        rw [if_neg hz] at h
        cases hw : worth 0 ((c :: r).take k) with
        | none =>
          have hwp : worthP ((c :: r).take k) = (0, false) := by simp only [worthP, hw]
          simp only [hwp] at hnum
          simp only [hw] at h
          rcases hz' with z1 | ⟨z1, z2⟩
          · repeat' (first
 | simp only [go_sem, hlt, hget, hpu, hinc, Int.reduceLE, ↓reduceIte, reduceCtorEq, Nat.reduceEqDiff, Nat.reduceLeDiff, Nat.reduceAdd, Nat.reduceMul, Nat.reduceSub, Nat.reduceLT, hge, hd, e2, e3, hlen, hfirst, z1]
 | (with_reducible refine CU (digit_s _ _) ?_)
 | (with_reducible refine CU (hnum _) ?_)
 | (with_reducible refine jumpA_go (l := 4) (by with_unfolding_all rfl) ?_)
 | (with_reducible refine jumpA_go (l := 5) (by with_unfolding_all rfl) ?_)
 | (with_reducible first | refine CB_ofT (by assumption) fun hc => ?_ | refine CB_ofF (by assumption) fun hc => ?_ | refine CB_split (fun hc => ?_) fun hc => ?_) <;> (try simp only [hc, bs, ↓reduceIte] at h) <;> (try simp only [hc])
 | ((with_reducible first | refine leafR hQ ?_ | refine leafN hQ ?_); (try cases h); simp only [resL, oneD, Option.some.injEq, exists_eq_left', go_sem, hlt, hget, hpu, hinc, Int.reduceLE, ↓reduceIte, reduceCtorEq, Nat.reduceEqDiff, Nat.reduceLeDiff, Nat.reduceAdd, Nat.reduceMul, Nat.reduceSub, Nat.reduceLT, hge, hd, e2, e3, hlen, hfirst, z1]; repeat' (first | exact Ok.out | with_reducible refine And.intro ?_ ?_ | (simp; done)))
 | (cases h; replace h := hr; clear hr; (try simp only [bs, ↓reduceIte] at h))
 | (cases h; done))
          · repeat' (first
 | simp only [go_sem, hlt, hget, hpu, hinc, Int.reduceLE, ↓reduceIte, reduceCtorEq, Nat.reduceEqDiff, Nat.reduceLeDiff, Nat.reduceAdd, Nat.reduceMul, Nat.reduceSub, Nat.reduceLT, hge, hd, e2, e3, hlen, hfirst, z1, z2]
 | (with_reducible refine CU (digit_s _ _) ?_)
 | (with_reducible refine CU (hnum _) ?_)
 | (with_reducible refine jumpA_go (l := 4) (by with_unfolding_all rfl) ?_)
 | (with_reducible refine jumpA_go (l := 5) (by with_unfolding_all rfl) ?_)
 | (with_reducible first | refine CB_ofT (by assumption) fun hc => ?_ | refine CB_ofF (by assumption) fun hc => ?_ | refine CB_split (fun hc => ?_) fun hc => ?_) <;> (try simp only [hc, bs, ↓reduceIte] at h) <;> (try simp only [hc])
 | ((with_reducible first | refine leafR hQ ?_ | refine leafN hQ ?_); (try cases h); simp only [resL, oneD, Option.some.injEq, exists_eq_left', go_sem, hlt, hget, hpu, hinc, Int.reduceLE, ↓reduceIte, reduceCtorEq, Nat.reduceEqDiff, Nat.reduceLeDiff, Nat.reduceAdd, Nat.reduceMul, Nat.reduceSub, Nat.reduceLT, hge, hd, e2, e3, hlen, hfirst, z1, z2]; repeat' (first | exact Ok.out | with_reducible refine And.intro ?_ ?_ | (simp; done)))
 | (cases h; replace h := hr; clear hr; (try simp only [bs, ↓reduceIte] at h))
 | (cases h; done))
        | some v =>
          have hwp : worthP ((c :: r).take k) = (v, true) := by simp only [worthP, hw]
          simp only [hwp] at hnum
          simp only [hw, hlen] at h
          by_cases ho2 : out.length = 2000
          · have ho3 : ((out.length : Int) == 2000) = true := by simp [ho2]
            simp only [ho2, ↓reduceIte] at h
            rcases hz' with z1 | ⟨z1, z2⟩
            · repeat' (first
 | simp only [go_sem, hlt, hget, hpu, hinc, Int.reduceLE, ↓reduceIte, reduceCtorEq, Nat.reduceEqDiff, Nat.reduceLeDiff, Nat.reduceAdd, Nat.reduceMul, Nat.reduceSub, Nat.reduceLT, hge, hd, e2, e3, hlen, hfirst, z1, ho3]
 | (with_reducible refine CU (digit_s _ _) ?_)
 | (with_reducible refine CU (hnum _) ?_)
 | (with_reducible refine jumpA_go (l := 4) (by with_unfolding_all rfl) ?_)
 | (with_reducible refine jumpA_go (l := 5) (by with_unfolding_all rfl) ?_)
 | (with_reducible first | refine CB_ofT (by assumption) fun hc => ?_ | refine CB_ofF (by assumption) fun hc => ?_ | refine CB_split (fun hc => ?_) fun hc => ?_) <;> (try simp only [hc, bs, ↓reduceIte] at h) <;> (try simp only [hc])
 | ((with_reducible first | refine leafR hQ ?_ | refine leafN hQ ?_); (try cases h); simp only [resL, oneD, Option.some.injEq, exists_eq_left', go_sem, hlt, hget, hpu, hinc, Int.reduceLE, ↓reduceIte, reduceCtorEq, Nat.reduceEqDiff, Nat.reduceLeDiff, Nat.reduceAdd, Nat.reduceMul, Nat.reduceSub, Nat.reduceLT, hge, hd, e2, e3, hlen, hfirst, z1, ho3]; repeat' (first | exact Ok.out | with_reducible refine And.intro ?_ ?_ | (simp; done)))
 | (cases h; replace h := hr; clear hr; (try simp only [bs, ↓reduceIte] at h))
 | (cases h; done))
            · repeat' (first
 | simp only [go_sem, hlt, hget, hpu, hinc, Int.reduceLE, ↓reduceIte, reduceCtorEq, Nat.reduceEqDiff, Nat.reduceLeDiff, Nat.reduceAdd, Nat.reduceMul, Nat.reduceSub, Nat.reduceLT, hge, hd, e2, e3, hlen, hfirst, z1, z2, ho3]
 | (with_reducible refine CU (digit_s _ _) ?_)
 | (with_reducible refine CU (hnum _) ?_)
 | (with_reducible refine jumpA_go (l := 4) (by with_unfolding_all rfl) ?_)
 | (with_reducible refine jumpA_go (l := 5) (by with_unfolding_all rfl) ?_)
 | (with_reducible first | refine CB_ofT (by assumption) fun hc => ?_ | refine CB_ofF (by assumption) fun hc => ?_ | refine CB_split (fun hc => ?_) fun hc => ?_) <;> (try simp only [hc, bs, ↓reduceIte] at h) <;> (try simp only [hc])
 | ((with_reducible first | refine leafR hQ ?_ | refine leafN hQ ?_); (try cases h); simp only [resL, oneD, Option.some.injEq, exists_eq_left', go_sem, hlt, hget, hpu, hinc, Int.reduceLE, ↓reduceIte, reduceCtorEq, Nat.reduceEqDiff, Nat.reduceLeDiff, Nat.reduceAdd, Nat.reduceMul, Nat.reduceSub, Nat.reduceLT, hge, hd, e2, e3, hlen, hfirst, z1, z2, ho3]; repeat' (first | exact Ok.out | with_reducible refine And.intro ?_ ?_ | (simp; done)))
 | (cases h; replace h := hr; clear hr; (try simp only [bs, ↓reduceIte] at h))
 | (cases h; done))
          · have ho3 : ((out.length : Int) == 2000) = false := by simp; omega
            have ho4 : ∀ t : Tok, (out ++ [t]).length ≤ 2000 := by intro t; simp; omega
            simp only [ho2, ↓reduceIte] at h
            rcases hz' with z1 | ⟨z1, z2⟩
            · repeat' (first
 | simp only [go_sem, hlt, hget, hpu, hinc, Int.reduceLE, ↓reduceIte, reduceCtorEq, Nat.reduceEqDiff, Nat.reduceLeDiff, Nat.reduceAdd, Nat.reduceMul, Nat.reduceSub, Nat.reduceLT, hge, hd, e2, e3, hlen, hfirst, z1, ho3, hroom]
 | (with_reducible refine CU (digit_s _ _) ?_)
 | (with_reducible refine CU (hnum _) ?_)
 | (with_reducible refine jumpA_go (l := 4) (by with_unfolding_all rfl) ?_)
 | (with_reducible refine jumpA_go (l := 5) (by with_unfolding_all rfl) ?_)
 | (refine IH.to hB fin h hlen2 (ho4 _) hgo (Nat.lt_succ_self _) ?_ ?_ ?_ <;> ((try simp only [go_sem, hlt, hget, hpu, hinc, Int.reduceLE, ↓reduceIte, reduceCtorEq, Nat.reduceEqDiff, Nat.reduceLeDiff, Nat.reduceAdd, Nat.reduceMul, Nat.reduceSub, Nat.reduceLT]); repeat' (first | exact Ok.out | with_reducible refine And.intro ?_ ?_ | omega | (simp; done))); done)
 | (with_reducible first | refine CB_ofT (by assumption) fun hc => ?_ | refine CB_ofF (by assumption) fun hc => ?_ | refine CB_split (fun hc => ?_) fun hc => ?_) <;> (try simp only [hc, bs, ↓reduceIte] at h) <;> (try simp only [hc])
 | ((with_reducible first | refine leafR hQ ?_ | refine leafN hQ ?_); (try cases h); simp only [resL, oneD, Option.some.injEq, exists_eq_left', go_sem, hlt, hget, hpu, hinc, Int.reduceLE, ↓reduceIte, reduceCtorEq, Nat.reduceEqDiff, Nat.reduceLeDiff, Nat.reduceAdd, Nat.reduceMul, Nat.reduceSub, Nat.reduceLT, hge, hd, e2, e3, hlen, hfirst, z1, ho3, hroom]; repeat' (first | exact Ok.out | with_reducible refine And.intro ?_ ?_ | (simp; done)))
 | (cases h; replace h := hr; clear hr; (try simp only [bs, ↓reduceIte] at h))
 | (cases h; done))
            · repeat' (first
 | simp only [go_sem, hlt, hget, hpu, hinc, Int.reduceLE, ↓reduceIte, reduceCtorEq, Nat.reduceEqDiff, Nat.reduceLeDiff, Nat.reduceAdd, Nat.reduceMul, Nat.reduceSub, Nat.reduceLT, hge, hd, e2, e3, hlen, hfirst, z1, z2, ho3, hroom]
 | (with_reducible refine CU (digit_s _ _) ?_)
 | (with_reducible refine CU (hnum _) ?_)
 | (with_reducible refine jumpA_go (l := 4) (by with_unfolding_all rfl) ?_)
 | (with_reducible refine jumpA_go (l := 5) (by with_unfolding_all rfl) ?_)
 | (refine IH.to hB fin h hlen2 (ho4 _) hgo (Nat.lt_succ_self _) ?_ ?_ ?_ <;> ((try simp only [go_sem, hlt, hget, hpu, hinc, Int.reduceLE, ↓reduceIte, reduceCtorEq, Nat.reduceEqDiff, Nat.reduceLeDiff, Nat.reduceAdd, Nat.reduceMul, Nat.reduceSub, Nat.reduceLT]); repeat' (first | exact Ok.out | with_reducible refine And.intro ?_ ?_ | omega | (simp; done))); done)
 | (with_reducible first | refine CB_ofT (by assumption) fun hc => ?_ | refine CB_ofF (by assumption) fun hc => ?_ | refine CB_split (fun hc => ?_) fun hc => ?_) <;> (try simp only [hc, bs, ↓reduceIte] at h) <;> (try simp only [hc])
 | ((with_reducible first | refine leafR hQ ?_ | refine leafN hQ ?_); (try cases h); simp only [resL, oneD, Option.some.injEq, exists_eq_left', go_sem, hlt, hget, hpu, hinc, Int.reduceLE, ↓reduceIte, reduceCtorEq, Nat.reduceEqDiff, Nat.reduceLeDiff, Nat.reduceAdd, Nat.reduceMul, Nat.reduceSub, Nat.reduceLT, hge, hd, e2, e3, hlen, hfirst, z1, z2, ho3, hroom]; repeat' (first | exact Ok.out | with_reducible refine And.intro ?_ ?_ | (simp; done)))
 | (cases h; replace h := hr; clear hr; (try simp only [bs, ↓reduceIte] at h))
 | (cases h; done))
    · exact step d rest rfl hd


theorem lex_all {text : Str} (hl : text.length ≤ 100000) {B : Base} {Q : Exit → Tm → St → Prop} {p : List Tok × Int × Int} (hB : B.s = S0)
    (hQ : retF 0 0 [(2, none), (3, some (true, 2))] (.tuple [.slice .shared 4 (p.1.map encTok), .agg (encF p.2)]) ⟨[], []⟩ = Q)
    {n pos : Nat} {out : List Tok} (ho : out.length ≤ 2000) (hp : pos ≤ text.length) (IH : LexGo text B Q p (n + 1)) {rest : Str} (h1 : text.drop pos = rest) (h : lexF (n + 1) pos rest out = p) (hn : rest.length < n + 1) :
    wpC Try.prog B 152 Q7M (jumpA Try.prog B 152 Q7R Q) (lexTM text out pos) (lexST out) := by
  cases rest with
  | nil => exact lex_nil hl hB hQ ho hp IH h1 h
  | cons c r =>
    cases hb : isB c
    · cases hc : ((c.toNat : Int) == 35)
      · cases hL : isL c
        · cases hD : isD c
          · exact lex_sign hl hB hQ ho hp IH h1 hb hc hL hD hn h
          · exact lex_digits hl hB hQ ho hp IH h1 hb hc hL hD hn h
        · exact lex_name hl hB hQ ho hp IH h1 hb hc hL hn h
      · exact lex_remark hl hB hQ ho hp IH h1 hb hc hn h
    · exact lex_blank hl hB hQ ho hp IH h1 hb hn h

theorem lex_go {text : Str} (hl : text.length ≤ 100000) {B : Base} {Q : Exit → Tm → St → Prop} {p : List Tok × Int × Int} (hB : B.s = S0)
    (hQ : retF 0 0 [(2, none), (3, some (true, 2))] (.tuple [.slice .shared 4 (p.1.map encTok), .agg (encF p.2)]) ⟨[], []⟩ = Q) : ∀ N, LexGo text B Q p N := by
  intro N
  induction N with
  | zero => intro n pos rest out _ _ _ _ _ h; exact absurd h (Nat.not_lt_zero _)
  | succ N ih =>
    intro n pos rest out h1 h h2 h3 h4 h5
    cases n with
    | zero => omega
    | succ n =>
      refine SemS.onceW ?_
      show wpC Try.prog B 152 Q7M (jumpA Try.prog B 152 Q7R Q) (lexTM text out pos) (lexST out)
      exact lex_all hl hB hQ h3 h4 (fun n' pos' rest' out' a b c d e f => ih n' pos' rest' out' a b c d e (by omega)) h1 h h2

theorem all_s (text : Str) (hl : text.length < 4611686018427387904) (s : St) :
    Fun Try.prog n_lex_All [.str text] s (.tuple [.slice .shared 4 ((lexAll text).1.map encTok), .agg (encF (lexAll text).2)]) s := by
  refine Fun.pure ?_ rfl (by simp [D.ok, D.oks, okrTok, Tag.ok, encF]) s
  generalize h : lexAll text = p
  unfold lexAll at h
  unfold S0
  refine Fun.go has_lex_All rfl fun B Q hB hQ => ?_
  have hlt : 0 < 1 := Nat.zero_lt_one
  have hget : 0 < 1 := Nat.zero_lt_one
  have hpu : 0 < 1 := Nat.zero_lt_one
  have hinc : 0 < 1 := Nat.zero_lt_one
  repeat' (first
 | simp only [go_sem, hlt, hget, hpu, hinc, Int.reduceLE, ↓reduceIte, reduceCtorEq, Nat.reduceEqDiff, Nat.reduceLeDiff, Nat.reduceAdd, Nat.reduceMul, Nat.reduceSub, Nat.reduceLT]
 | (with_reducible first | refine CB_ofT (by assumption) fun hc => ?_ | refine CB_ofF (by assumption) fun hc => ?_ | refine CB_split (fun hc => ?_) fun hc => ?_) <;> (try simp only [hc, bs, ↓reduceIte] at h) <;> (try simp only [hc])
 | ((with_reducible first | refine leafR hQ ?_ | refine leafN hQ ?_); (try cases h); simp only [resL, oneD, Option.some.injEq, exists_eq_left', go_sem, hlt, hget, hpu, hinc, Int.reduceLE, ↓reduceIte, reduceCtorEq, Nat.reduceEqDiff, Nat.reduceLeDiff, Nat.reduceAdd, Nat.reduceMul, Nat.reduceSub, Nat.reduceLT]; repeat' (first | exact Ok.out | with_reducible refine And.intro ?_ ?_ | (simp; done)))
 | (cases h; replace h := hr; clear hr; (try simp only [bs, ↓reduceIte] at h))
 | (cases h; done))
  refine SemS.once (Sem.seqW ?_)
  simp only [go_sem, hlt, hget, hpu, hinc, Int.reduceLE, ↓reduceIte, reduceCtorEq, Nat.reduceEqDiff, Nat.reduceLeDiff, Nat.reduceAdd, Nat.reduceMul, Nat.reduceSub, Nat.reduceLT]
  refine Sem.seqW ?_
  simp only [go_sem, hlt, hget, hpu, hinc, Int.reduceLE, ↓reduceIte, reduceCtorEq, Nat.reduceEqDiff, Nat.reduceLeDiff, Nat.reduceAdd, Nat.reduceMul, Nat.reduceSub, Nat.reduceLT]
  refine Sem.seqW ?_
  simp only [go_sem, hlt, hget, hpu, hinc, Int.reduceLE, ↓reduceIte, reduceCtorEq, Nat.reduceEqDiff, Nat.reduceLeDiff, Nat.reduceAdd, Nat.reduceMul, Nat.reduceSub, Nat.reduceLT]
  refine Sem.seqW ?_
  by_cases hz : text.length > 100000
  · have hgt : decide ((text.length : Int) > 100000) = true := by simp; omega
    rw [if_pos hz] at h
    repeat' (first
 | simp only [go_sem, hlt, hget, hpu, hinc, Int.reduceLE, ↓reduceIte, reduceCtorEq, Nat.reduceEqDiff, Nat.reduceLeDiff, Nat.reduceAdd, Nat.reduceMul, Nat.reduceSub, Nat.reduceLT, hgt]
 | (with_reducible first | refine CB_ofT (by assumption) fun hc => ?_ | refine CB_ofF (by assumption) fun hc => ?_ | refine CB_split (fun hc => ?_) fun hc => ?_) <;> (try simp only [hc, bs, ↓reduceIte] at h) <;> (try simp only [hc])
 | ((with_reducible first | refine leafR hQ ?_ | refine leafN hQ ?_); (try cases h); simp only [resL, oneD, Option.some.injEq, exists_eq_left', go_sem, hlt, hget, hpu, hinc, Int.reduceLE, ↓reduceIte, reduceCtorEq, Nat.reduceEqDiff, Nat.reduceLeDiff, Nat.reduceAdd, Nat.reduceMul, Nat.reduceSub, Nat.reduceLT, hgt]; repeat' (first | exact Ok.out | with_reducible refine And.intro ?_ ?_ | (simp; done)))
 | (cases h; replace h := hr; clear hr; (try simp only [bs, ↓reduceIte] at h))
 | (cases h; done))
  · have hgt : decide ((text.length : Int) > 100000) = false := by simp; omega
    rw [if_neg hz] at h
    have hl' : text.length ≤ 100000 := by omega
    have hQ' : retF 0 0 [(2, none), (3, some (true, 2))] (.tuple [.slice .shared 4 (p.1.map encTok), .agg (encF p.2)]) ⟨[], []⟩ = Q := hQ
    repeat' (first
 | simp only [go_sem, hlt, hget, hpu, hinc, Int.reduceLE, ↓reduceIte, reduceCtorEq, Nat.reduceEqDiff, Nat.reduceLeDiff, Nat.reduceAdd, Nat.reduceMul, Nat.reduceSub, Nat.reduceLT, hgt]
 | (with_reducible first | refine CB_ofT (by assumption) fun hc => ?_ | refine CB_ofF (by assumption) fun hc => ?_ | refine CB_split (fun hc => ?_) fun hc => ?_) <;> (try simp only [hc, bs, ↓reduceIte] at h) <;> (try simp only [hc])
 | ((with_reducible first | refine leafR hQ ?_ | refine leafN hQ ?_); (try cases h); simp only [resL, oneD, Option.some.injEq, exists_eq_left', go_sem, hlt, hget, hpu, hinc, Int.reduceLE, ↓reduceIte, reduceCtorEq, Nat.reduceEqDiff, Nat.reduceLeDiff, Nat.reduceAdd, Nat.reduceMul, Nat.reduceSub, Nat.reduceLT, hgt]; repeat' (first | exact Ok.out | with_reducible refine And.intro ?_ ?_ | (simp; done)))
 | (cases h; replace h := hr; clear hr; (try simp only [bs, ↓reduceIte] at h))
 | (cases h; done))
    refine Sem.seqW ?_
    simp only [go_sem, hlt, hget, hpu, hinc, Int.reduceLE, ↓reduceIte, reduceCtorEq, Nat.reduceEqDiff, Nat.reduceLeDiff, Nat.reduceAdd, Nat.reduceMul, Nat.reduceSub, Nat.reduceLT]
    refine Sem.tokT 4 4 rfl ?_
    simp only [go_sem, hlt, hget, hpu, hinc, Int.reduceLE, ↓reduceIte, reduceCtorEq, Nat.reduceEqDiff, Nat.reduceLeDiff, Nat.reduceAdd, Nat.reduceMul, Nat.reduceSub, Nat.reduceLT]
    refine Sem.re _ _ 2 1 (by rw [hB]; exact Nat.le_of_ble_eq_true rfl) (by rw [hB]; exact Nat.le_of_ble_eq_true rfl) ?_ ?_ (wpC_sound (lex_all hl' hB hQ' (out := []) (pos := 0) (by simp) (Nat.zero_le _) (lex_go hl' hB hQ' _) rfl h (by simp)))
    · (simp only [go_sem, hlt, hget, hpu, hinc, Int.reduceLE, ↓reduceIte, reduceCtorEq, Nat.reduceEqDiff, Nat.reduceLeDiff, Nat.reduceAdd, Nat.reduceMul, Nat.reduceSub, Nat.reduceLT]; repeat' (first | exact Ok.out | with_reducible refine And.intro ?_ ?_))
    · (simp only [go_sem, hlt, hget, hpu, hinc, Int.reduceLE, ↓reduceIte, reduceCtorEq, Nat.reduceEqDiff, Nat.reduceLeDiff, Nat.reduceAdd, Nat.reduceMul, Nat.reduceSub, Nat.reduceLT]; repeat' (first | exact Ok.out | with_reducible refine And.intro ?_ ?_))

end Go.Abs

/-! Tree1 -/

namespace Go.Abs

set_option maxRecDepth 8000
set_option linter.unusedSimpArgs false
set_option linter.unusedVariables false
open Go.Proofs

theorem app_emptyN {size bytes z : Nat} {g : Tag} {rows : List (List D)} {s : St} (h : rows.length * (bytes + 1) ≤ maxStr) (hr : rows ≠ []) :
    appD size bytes (.slice .full z []) (.slice g size rows) s = some (.slice (.tok s.toks.length) size rows, ⟨s.objs, s.toks ++ [some rows.length]⟩) := by
  cases rows with
  | nil => exact absurd rfl hr
  | cons r l => simp only [appD]; simp at h ⊢; exact h

theorem clone_str {l : List Str} (hl : l.length < 1073741824) (g : Tag) (s : St) : Fun Try.prog n_slices_Clone_string [.slice g 1 (l.map encStr)] s (.slice .shared 1 (l.map encStr)) s := by
  refine ACalls.weak (.cons (Wk.shared _ _ _) .nil) (Fun.pure ?_ (by simp [D.oks, D.ok, Tag.ok, okrStr]) (by simp [D.ok, Tag.ok, okrStr]) s)
  unfold S0
  refine Fun.go has_slices_Clone_string rfl fun B Q hB hQ => ?_
  have hlt : 0 < 1 := Nat.zero_lt_one
  have hget : 0 < 1 := Nat.zero_lt_one
  have hpu : 0 < 1 := Nat.zero_lt_one
  have hinc : 0 < 1 := Nat.zero_lt_one
  cases l with
  | nil =>
    repeat' (first
 | simp only [go_sem, hlt, hget, hpu, hinc, Int.reduceLE, ↓reduceIte, reduceCtorEq, Nat.reduceEqDiff, Nat.reduceLeDiff, Nat.reduceAdd, Nat.reduceMul, Nat.reduceSub, Nat.reduceLT]
 | (with_reducible first | refine CB_ofT (by assumption) fun hc => ?_ | refine CB_ofF (by assumption) fun hc => ?_ | refine CB_split (fun hc => ?_) fun hc => ?_) <;> (try simp only [hc, bs, ↓reduceIte] at h) <;> (try simp only [hc])
 | ((with_reducible first | refine leafR hQ ?_ | refine leafN hQ ?_); (try cases h); simp only [resL, oneD, Option.some.injEq, exists_eq_left', go_sem, hlt, hget, hpu, hinc, Int.reduceLE, ↓reduceIte, reduceCtorEq, Nat.reduceEqDiff, Nat.reduceLeDiff, Nat.reduceAdd, Nat.reduceMul, Nat.reduceSub, Nat.reduceLT]; repeat' (first | exact Ok.out | with_reducible refine And.intro ?_ ?_ | (simp; done)))
 | (cases h; replace h := hr; clear hr; (try simp only [bs, ↓reduceIte] at h))
 | (cases h; done))
    refine NJ_split (fun _ => ?_) ?_
    · repeat' (first
 | simp only [go_sem, hlt, hget, hpu, hinc, Int.reduceLE, ↓reduceIte, reduceCtorEq, Nat.reduceEqDiff, Nat.reduceLeDiff, Nat.reduceAdd, Nat.reduceMul, Nat.reduceSub, Nat.reduceLT, appD, true_or, Nat.zero_le]
 | (with_reducible first | refine CB_ofT (by assumption) fun hc => ?_ | refine CB_ofF (by assumption) fun hc => ?_ | refine CB_split (fun hc => ?_) fun hc => ?_) <;> (try simp only [hc, bs, ↓reduceIte] at h) <;> (try simp only [hc])
 | ((with_reducible first | refine leafR hQ ?_ | refine leafN hQ ?_); (try cases h); simp only [resL, oneD, Option.some.injEq, exists_eq_left', go_sem, hlt, hget, hpu, hinc, Int.reduceLE, ↓reduceIte, reduceCtorEq, Nat.reduceEqDiff, Nat.reduceLeDiff, Nat.reduceAdd, Nat.reduceMul, Nat.reduceSub, Nat.reduceLT, appD, true_or, Nat.zero_le]; repeat' (first | exact Ok.out | with_reducible refine And.intro ?_ ?_ | (simp; done)))
 | (cases h; replace h := hr; clear hr; (try simp only [bs, ↓reduceIte] at h))
 | (cases h; done))
    · repeat' (first
 | simp only [go_sem, hlt, hget, hpu, hinc, Int.reduceLE, ↓reduceIte, reduceCtorEq, Nat.reduceEqDiff, Nat.reduceLeDiff, Nat.reduceAdd, Nat.reduceMul, Nat.reduceSub, Nat.reduceLT, appD, true_or, Nat.zero_le]
 | (with_reducible first | refine CB_ofT (by assumption) fun hc => ?_ | refine CB_ofF (by assumption) fun hc => ?_ | refine CB_split (fun hc => ?_) fun hc => ?_) <;> (try simp only [hc, bs, ↓reduceIte] at h) <;> (try simp only [hc])
 | ((with_reducible first | refine leafR hQ ?_ | refine leafN hQ ?_); (try cases h); simp only [resL, oneD, Option.some.injEq, exists_eq_left', go_sem, hlt, hget, hpu, hinc, Int.reduceLE, ↓reduceIte, reduceCtorEq, Nat.reduceEqDiff, Nat.reduceLeDiff, Nat.reduceAdd, Nat.reduceMul, Nat.reduceSub, Nat.reduceLT, appD, true_or, Nat.zero_le]; repeat' (first | exact Ok.out | with_reducible refine And.intro ?_ ?_ | (simp; done)))
 | (cases h; replace h := hr; clear hr; (try simp only [bs, ↓reduceIte] at h))
 | (cases h; done))
  | cons x l =>
    have e : ((x :: l).map encStr).length * (16 + 1) ≤ maxStr := by simp only [List.length_map, maxStr]; omega
    have e2 := fun s => app_emptyN (size := 1) (z := 1) (g := .shared) (s := s) e (by simp)
    simp only [List.map_cons, encStr] at e2
    repeat' (first
 | simp only [go_sem, hlt, hget, hpu, hinc, Int.reduceLE, ↓reduceIte, reduceCtorEq, Nat.reduceEqDiff, Nat.reduceLeDiff, Nat.reduceAdd, Nat.reduceMul, Nat.reduceSub, Nat.reduceLT, e2]
 | (with_reducible first | refine CB_ofT (by assumption) fun hc => ?_ | refine CB_ofF (by assumption) fun hc => ?_ | refine CB_split (fun hc => ?_) fun hc => ?_) <;> (try simp only [hc, bs, ↓reduceIte] at h) <;> (try simp only [hc])
 | ((with_reducible first | refine leafR hQ ?_ | refine leafN hQ ?_); (try cases h); simp only [resL, oneD, Option.some.injEq, exists_eq_left', go_sem, hlt, hget, hpu, hinc, Int.reduceLE, ↓reduceIte, reduceCtorEq, Nat.reduceEqDiff, Nat.reduceLeDiff, Nat.reduceAdd, Nat.reduceMul, Nat.reduceSub, Nat.reduceLT, e2]; repeat' (first | exact Ok.out | with_reducible refine And.intro ?_ ?_ | (simp; done)))
 | (cases h; replace h := hr; clear hr; (try simp only [bs, ↓reduceIte] at h))
 | (cases h; done))

theorem clone_pm {l : List Pm} (hl : l.length < 1073741824) (g : Tag) (s : St) : Fun Try.prog n_slices_Clone_api_Param [.slice g 2 (l.map encPm)] s (.slice .shared 2 (l.map encPm)) s := by
  refine ACalls.weak (.cons (Wk.shared _ _ _) .nil) (Fun.pure ?_ (by simp [D.oks, D.ok, Tag.ok, okrPm]) (by simp [D.ok, Tag.ok, okrPm]) s)
  unfold S0
  refine Fun.go has_slices_Clone_api_Param rfl fun B Q hB hQ => ?_
  have hlt : 0 < 1 := Nat.zero_lt_one
  have hget : 0 < 1 := Nat.zero_lt_one
  have hpu : 0 < 1 := Nat.zero_lt_one
  have hinc : 0 < 1 := Nat.zero_lt_one
  cases l with
  | nil =>
    repeat' (first
 | simp only [go_sem, hlt, hget, hpu, hinc, Int.reduceLE, ↓reduceIte, reduceCtorEq, Nat.reduceEqDiff, Nat.reduceLeDiff, Nat.reduceAdd, Nat.reduceMul, Nat.reduceSub, Nat.reduceLT]
 | (with_reducible first | refine CB_ofT (by assumption) fun hc => ?_ | refine CB_ofF (by assumption) fun hc => ?_ | refine CB_split (fun hc => ?_) fun hc => ?_) <;> (try simp only [hc, bs, ↓reduceIte] at h) <;> (try simp only [hc])
 | ((with_reducible first | refine leafR hQ ?_ | refine leafN hQ ?_); (try cases h); simp only [resL, oneD, Option.some.injEq, exists_eq_left', go_sem, hlt, hget, hpu, hinc, Int.reduceLE, ↓reduceIte, reduceCtorEq, Nat.reduceEqDiff, Nat.reduceLeDiff, Nat.reduceAdd, Nat.reduceMul, Nat.reduceSub, Nat.reduceLT]; repeat' (first | exact Ok.out | with_reducible refine And.intro ?_ ?_ | (simp; done)))
 | (cases h; replace h := hr; clear hr; (try simp only [bs, ↓reduceIte] at h))
 | (cases h; done))
    refine NJ_split (fun _ => ?_) ?_
    · repeat' (first
 | simp only [go_sem, hlt, hget, hpu, hinc, Int.reduceLE, ↓reduceIte, reduceCtorEq, Nat.reduceEqDiff, Nat.reduceLeDiff, Nat.reduceAdd, Nat.reduceMul, Nat.reduceSub, Nat.reduceLT, appD, true_or, Nat.zero_le]
 | (with_reducible first | refine CB_ofT (by assumption) fun hc => ?_ | refine CB_ofF (by assumption) fun hc => ?_ | refine CB_split (fun hc => ?_) fun hc => ?_) <;> (try simp only [hc, bs, ↓reduceIte] at h) <;> (try simp only [hc])
 | ((with_reducible first | refine leafR hQ ?_ | refine leafN hQ ?_); (try cases h); simp only [resL, oneD, Option.some.injEq, exists_eq_left', go_sem, hlt, hget, hpu, hinc, Int.reduceLE, ↓reduceIte, reduceCtorEq, Nat.reduceEqDiff, Nat.reduceLeDiff, Nat.reduceAdd, Nat.reduceMul, Nat.reduceSub, Nat.reduceLT, appD, true_or, Nat.zero_le]; repeat' (first | exact Ok.out | with_reducible refine And.intro ?_ ?_ | (simp; done)))
 | (cases h; replace h := hr; clear hr; (try simp only [bs, ↓reduceIte] at h))
 | (cases h; done))
    · repeat' (first
 | simp only [go_sem, hlt, hget, hpu, hinc, Int.reduceLE, ↓reduceIte, reduceCtorEq, Nat.reduceEqDiff, Nat.reduceLeDiff, Nat.reduceAdd, Nat.reduceMul, Nat.reduceSub, Nat.reduceLT, appD, true_or, Nat.zero_le]
 | (with_reducible first | refine CB_ofT (by assumption) fun hc => ?_ | refine CB_ofF (by assumption) fun hc => ?_ | refine CB_split (fun hc => ?_) fun hc => ?_) <;> (try simp only [hc, bs, ↓reduceIte] at h) <;> (try simp only [hc])
 | ((with_reducible first | refine leafR hQ ?_ | refine leafN hQ ?_); (try cases h); simp only [resL, oneD, Option.some.injEq, exists_eq_left', go_sem, hlt, hget, hpu, hinc, Int.reduceLE, ↓reduceIte, reduceCtorEq, Nat.reduceEqDiff, Nat.reduceLeDiff, Nat.reduceAdd, Nat.reduceMul, Nat.reduceSub, Nat.reduceLT, appD, true_or, Nat.zero_le]; repeat' (first | exact Ok.out | with_reducible refine And.intro ?_ ?_ | (simp; done)))
 | (cases h; replace h := hr; clear hr; (try simp only [bs, ↓reduceIte] at h))
 | (cases h; done))
  | cons x l =>
    have e : ((x :: l).map encPm).length * (24 + 1) ≤ maxStr := by simp only [List.length_map, maxStr]; omega
    have e2 := fun s => app_emptyN (size := 2) (z := 2) (g := .shared) (s := s) e (by simp)
    simp only [List.map_cons, encStr] at e2
    repeat' (first
 | simp only [go_sem, hlt, hget, hpu, hinc, Int.reduceLE, ↓reduceIte, reduceCtorEq, Nat.reduceEqDiff, Nat.reduceLeDiff, Nat.reduceAdd, Nat.reduceMul, Nat.reduceSub, Nat.reduceLT, e2]
 | (with_reducible first | refine CB_ofT (by assumption) fun hc => ?_ | refine CB_ofF (by assumption) fun hc => ?_ | refine CB_split (fun hc => ?_) fun hc => ?_) <;> (try simp only [hc, bs, ↓reduceIte] at h) <;> (try simp only [hc])
 | ((with_reducible first | refine leafR hQ ?_ | refine leafN hQ ?_); (try cases h); simp only [resL, oneD, Option.some.injEq, exists_eq_left', go_sem, hlt, hget, hpu, hinc, Int.reduceLE, ↓reduceIte, reduceCtorEq, Nat.reduceEqDiff, Nat.reduceLeDiff, Nat.reduceAdd, Nat.reduceMul, Nat.reduceSub, Nat.reduceLT, e2]; repeat' (first | exact Ok.out | with_reducible refine And.intro ?_ ?_ | (simp; done)))
 | (cases h; replace h := hr; clear hr; (try simp only [bs, ↓reduceIte] at h))
 | (cases h; done))


theorem expr_n : ∀ n, n < 1073741824 → ∀ x : Ex, x.size ≤ n → Fun Try.prog n_tree_expr [.agg (encEx x)] S0 (.agg (encEx x)) S0 := by
  intro n
  induction n with
  | zero => rintro _ ⟨op, m, name, kids⟩ h; simp only [Ex.size] at h; omega
  | succ n ihn =>
  rintro hn ⟨op, m, name, kids⟩ hx
  have hk : ∀ y ∈ kids, ∀ s, Fun Try.prog n_tree_expr [.agg (encEx y)] s (.agg (encEx y)) s := fun y hy s =>
    (ihn (by omega) y (by simp only [Ex.size] at hx; have := Ex.sizes_mem hy; omega)).pure (by simp [D.oks, D.ok, okEx]) (by simp [D.ok, okEx]) s
  have hlen : kids.length < 1073741824 := by simp only [Ex.size] at hx; have := Ex.sizes_len kids; omega
  unfold S0
  refine Fun.go has_tree_expr rfl fun B Q hB hQ => ?_
  have hlt : 0 < 1 := Nat.zero_lt_one
  have hget : 0 < 1 := Nat.zero_lt_one
  have hpu : 0 < 1 := Nat.zero_lt_one
  have hinc : 0 < 1 := Nat.zero_lt_one
  repeat' (first
 | simp only [go_sem, hlt, hget, hpu, hinc, Int.reduceLE, ↓reduceIte, reduceCtorEq, Nat.reduceEqDiff, Nat.reduceLeDiff, Nat.reduceAdd, Nat.reduceMul, Nat.reduceSub, Nat.reduceLT]
 | (with_reducible first | refine CB_ofT (by assumption) fun hc => ?_ | refine CB_ofF (by assumption) fun hc => ?_ | refine CB_split (fun hc => ?_) fun hc => ?_) <;> (try simp only [hc, bs, ↓reduceIte] at h) <;> (try simp only [hc])
 | ((with_reducible first | refine leafR hQ ?_ | refine leafN hQ ?_); (try cases h); simp only [resL, oneD, Option.some.injEq, exists_eq_left', go_sem, hlt, hget, hpu, hinc, Int.reduceLE, ↓reduceIte, reduceCtorEq, Nat.reduceEqDiff, Nat.reduceLeDiff, Nat.reduceAdd, Nat.reduceMul, Nat.reduceSub, Nat.reduceLT]; repeat' (first | exact Ok.out | with_reducible refine And.intro ?_ ?_ | (simp; done)))
 | (cases h; replace h := hr; clear hr; (try simp only [bs, ↓reduceIte] at h))
 | (cases h; done))
  refine SemL.tokO 0 3 4 rfl rfl ?_
  simp only [go_sem, hlt, hget, hpu, hinc, Int.reduceLE, ↓reduceIte, reduceCtorEq, Nat.reduceEqDiff, Nat.reduceLeDiff, Nat.reduceAdd, Nat.reduceMul, Nat.reduceSub, Nat.reduceLT]
  refine SemL.re _ _ 2 1 (by rw [hB]; exact Nat.le_of_ble_eq_true rfl) (by rw [hB]; exact Nat.le_of_ble_eq_true rfl) ?_ ?_ (SemL.ind (ι := List Ex × Nat × List Ex) (fun i => kids.drop i.2.1 = i.1 ∧ i.2.1 = i.2.2.length ∧ i.2.2 ++ i.1 = kids) (fun i => i.1.length)
    (fun i => [(1, .ptr 0 0), (2, .ptr 1 0), (9, .slice .shared 4 (kids.map encEx)), (10, .int .i64 (kids.length : Int)), (11, .int .i64 (i.2.1 : Int))])
    (fun i => ⟨[[.int .i64 op, .int .i64 m, .str name, .slice (.tok 0) 4 (i.2.2.map encEx)], encEx ex0], [some i.2.1]⟩) ?_ (kids, 0, []) ⟨rfl, rfl, rfl⟩)
  · (simp only [go_sem, hlt, hget, hpu, hinc, Int.reduceLE, ↓reduceIte, reduceCtorEq, Nat.reduceEqDiff, Nat.reduceLeDiff, Nat.reduceAdd, Nat.reduceMul, Nat.reduceSub, Nat.reduceLT]; repeat' (first | exact Ok.out | with_reducible refine And.intro ?_ ?_))
  · (simp only [go_sem, hlt, hget, hpu, hinc, Int.reduceLE, ↓reduceIte, reduceCtorEq, Nat.reduceEqDiff, Nat.reduceLeDiff, Nat.reduceAdd, Nat.reduceMul, Nat.reduceSub, Nat.reduceLT]; repeat' (first | exact Ok.out | with_reducible refine And.intro ?_ ?_))
  rintro ⟨rest, k, acc⟩ ⟨h1, h2, h3⟩ IH
  dsimp only at h1 h2 h3
  subst h2
  cases rest with
  | nil =>
    have hlt := drop_nil h1
    rw [List.append_nil] at h3
    subst h3
    repeat' (first
 | simp only [go_sem, hlt, hget, hpu, hinc, Int.reduceLE, ↓reduceIte, reduceCtorEq, Nat.reduceEqDiff, Nat.reduceLeDiff, Nat.reduceAdd, Nat.reduceMul, Nat.reduceSub, Nat.reduceLT]
 | (with_reducible first | refine CB_ofT (by assumption) fun hc => ?_ | refine CB_ofF (by assumption) fun hc => ?_ | refine CB_split (fun hc => ?_) fun hc => ?_) <;> (try simp only [hc, bs, ↓reduceIte] at h) <;> (try simp only [hc])
 | ((with_reducible first | refine leafR hQ ?_ | refine leafN hQ ?_); (try cases h); simp only [resL, oneD, Option.some.injEq, exists_eq_left', go_sem, hlt, hget, hpu, hinc, Int.reduceLE, ↓reduceIte, reduceCtorEq, Nat.reduceEqDiff, Nat.reduceLeDiff, Nat.reduceAdd, Nat.reduceMul, Nat.reduceSub, Nat.reduceLT]; repeat' (first | exact Ok.out | with_reducible refine And.intro ?_ ?_ | (simp; done)))
 | (cases h; replace h := hr; clear hr; (try simp only [bs, ↓reduceIte] at h))
 | (cases h; done))
  | cons y rest =>
    obtain ⟨hget, g2, hlt, g4⟩ := drop_cons h1
    have hpu : acc.length < 4611686018427387904 := by omega
    have hroom : (acc.length + 1) * 57 ≤ maxStr := by simp only [maxStr]; omega
    have hy := hk y (List.mem_of_getElem? hget)
    repeat' (first
 | simp only [go_sem, hlt, hget, hpu, hinc, Int.reduceLE, ↓reduceIte, reduceCtorEq, Nat.reduceEqDiff, Nat.reduceLeDiff, Nat.reduceAdd, Nat.reduceMul, Nat.reduceSub, Nat.reduceLT, hroom]
 | (with_reducible refine CU (hy _) ?_)
 | (with_reducible first | refine CB_ofT (by assumption) fun hc => ?_ | refine CB_ofF (by assumption) fun hc => ?_ | refine CB_split (fun hc => ?_) fun hc => ?_) <;> (try simp only [hc, bs, ↓reduceIte] at h) <;> (try simp only [hc])
 | ((with_reducible first | refine leafR hQ ?_ | refine leafN hQ ?_); (try cases h); simp only [resL, oneD, Option.some.injEq, exists_eq_left', go_sem, hlt, hget, hpu, hinc, Int.reduceLE, ↓reduceIte, reduceCtorEq, Nat.reduceEqDiff, Nat.reduceLeDiff, Nat.reduceAdd, Nat.reduceMul, Nat.reduceSub, Nat.reduceLT, hroom]; repeat' (first | exact Ok.out | with_reducible refine And.intro ?_ ?_ | (simp; done)))
 | (cases h; replace h := hr; clear hr; (try simp only [bs, ↓reduceIte] at h))
 | (cases h; done))
    refine SemL.re _ _ 2 1 (by rw [hB]; exact Nat.le_of_ble_eq_true rfl) (by rw [hB]; exact Nat.le_of_ble_eq_true rfl) ?_ ?_ (IH (rest, acc.length + 1, acc ++ [y]) ⟨g2, by simp, by simp only [List.append_assoc, List.cons_append, List.nil_append]; exact h3⟩ (Nat.lt_succ_self _))
    · (simp only [go_sem, hlt, hget, hpu, hinc, Int.reduceLE, ↓reduceIte, reduceCtorEq, Nat.reduceEqDiff, Nat.reduceLeDiff, Nat.reduceAdd, Nat.reduceMul, Nat.reduceSub, Nat.reduceLT]; repeat' (first | exact Ok.out | with_reducible refine And.intro ?_ ?_))
    · (simp only [go_sem, hlt, hget, hpu, hinc, Int.reduceLE, ↓reduceIte, reduceCtorEq, Nat.reduceEqDiff, Nat.reduceLeDiff, Nat.reduceAdd, Nat.reduceMul, Nat.reduceSub, Nat.reduceLT]; repeat' (first | exact Ok.out | with_reducible refine And.intro ?_ ?_))

theorem expr_s {x : Ex} (h : x.size < 1073741824) (s : St) : Fun Try.prog n_tree_expr [.agg (encEx x)] s (.agg (encEx x)) s :=
  (expr_n x.size h x (Nat.le_refl _)).pure (by simp [D.oks, D.ok, okEx]) (by simp [D.ok, okEx]) s

end Go.Abs

/-! Tree2 -/

namespace Go.Abs

set_option maxRecDepth 8000
set_option linter.unusedSimpArgs false
set_option linter.unusedVariables false
open Go.Proofs

abbrev C_cop (b : Bool) (N : Nat) : Prop := ∀ l : List Sm, Sm.sizes l < N → ∀ n : Nat, n + Sm.sizes l < 1073741824 → ∀ s : St,
  Fun Try.prog n_tree_copied [.slice .shared 13 (l.map encSm), .int .i64 (n : Int), .bool b] s (.tuple [.slice .shared 13 ((Sm.nums b n l).1.map encSm), .int .i64 ((Sm.nums b n l).2 : Int)]) s

theorem cop_true {N : Nat} (ih : C_cop true N) (l : List Sm) (hl : Sm.sizes l < N + 1) (n : Nat) (hn : n + Sm.sizes l < 1073741824) :
  Fun Try.prog n_tree_copied [.slice .shared 13 (l.map encSm), .int .i64 (n : Int), .bool true] S0 (.tuple [.slice .shared 13 ((Sm.nums true n l).1.map encSm), .int .i64 ((Sm.nums true n l).2 : Int)]) S0 := by
  unfold S0
  refine Fun.go has_tree_copied rfl fun B Q hB hQ => ?_
  have hlt : 0 < 1 := Nat.zero_lt_one
  have hget : 0 < 1 := Nat.zero_lt_one
  have hpu : 0 < 1 := Nat.zero_lt_one
  have hinc : 0 < 1 := Nat.zero_lt_one
  repeat' (first
 | simp only [go_sem, hlt, hget, hpu, hinc, Int.reduceLE, ↓reduceIte, reduceCtorEq, Nat.reduceEqDiff, Nat.reduceLeDiff, Nat.reduceAdd, Nat.reduceMul, Nat.reduceSub, Nat.reduceLT]
 | (with_reducible first | refine CB_ofT (by assumption) fun hc => ?_ | refine CB_ofF (by assumption) fun hc => ?_ | refine CB_split (fun hc => ?_) fun hc => ?_) <;> (try simp only [hc, bs, ↓reduceIte] at h) <;> (try simp only [hc])
 | ((with_reducible first | refine leafR hQ ?_ | refine leafN hQ ?_); (try cases h); simp only [resL, oneD, Option.some.injEq, exists_eq_left', go_sem, hlt, hget, hpu, hinc, Int.reduceLE, ↓reduceIte, reduceCtorEq, Nat.reduceEqDiff, Nat.reduceLeDiff, Nat.reduceAdd, Nat.reduceMul, Nat.reduceSub, Nat.reduceLT]; repeat' (first | exact Ok.out | with_reducible refine And.intro ?_ ?_ | (simp; done)))
 | (cases h; replace h := hr; clear hr; (try simp only [bs, ↓reduceIte] at h))
 | (cases h; done))
  have hlen : l.length < 1073741824 := by have := Sm.sizes_len l; omega
  refine SemL.tokT 8 13 rfl ?_
  simp only [go_sem, hlt, hget, hpu, hinc, Int.reduceLE, ↓reduceIte, reduceCtorEq, Nat.reduceEqDiff, Nat.reduceLeDiff, Nat.reduceAdd, Nat.reduceMul, Nat.reduceSub, Nat.reduceLT]
  refine SemL.re _ _ 0 1 (by rw [hB]; exact Nat.le_of_ble_eq_true rfl) (by rw [hB]; exact Nat.le_of_ble_eq_true rfl) ?_ ?_ (SemL.ind (ι := List Sm × Nat × List Sm × Nat) (fun i => l.drop i.2.1 = i.1 ∧ i.2.1 = i.2.2.1.length ∧ Sm.nums true n l = (i.2.2.1 ++ (Sm.nums true i.2.2.2 i.1).1, (Sm.nums true i.2.2.2 i.1).2) ∧ i.2.2.2 + Sm.sizes i.1 ≤ n + Sm.sizes l) (fun i => i.1.length)
    (fun i => [(1, .int .i64 (i.2.2.2 : Int)), (2, .bool true), (8, .slice (.tok 0) 13 (i.2.2.1.map encSm)), (14, .slice .shared 13 (l.map encSm)), (15, .int .i64 (l.length : Int)), (16, .int .i64 (i.2.1 : Int))])
    (fun i => ⟨[], [some i.2.1]⟩) ?_ (l, 0, [], n) ⟨rfl, rfl, rfl, Nat.le_refl _⟩)
  · (simp only [go_sem, hlt, hget, hpu, hinc, Int.reduceLE, ↓reduceIte, reduceCtorEq, Nat.reduceEqDiff, Nat.reduceLeDiff, Nat.reduceAdd, Nat.reduceMul, Nat.reduceSub, Nat.reduceLT]; repeat' (first | exact Ok.out | with_reducible refine And.intro ?_ ?_))
  · (simp only [go_sem, hlt, hget, hpu, hinc, Int.reduceLE, ↓reduceIte, reduceCtorEq, Nat.reduceEqDiff, Nat.reduceLeDiff, Nat.reduceAdd, Nat.reduceMul, Nat.reduceSub, Nat.reduceLT]; repeat' (first | exact Ok.out | with_reducible refine And.intro ?_ ?_))
  rintro ⟨rest, k, acc, m⟩ ⟨h1, h2, h3, h4⟩ IH
  dsimp only at h1 h2 h3 h4
  subst h2
  cases rest with
  | nil =>
    have hlt := drop_nil h1
    simp only [Sm.nums, List.append_nil] at h3
    rw [h3] at hQ
    repeat' (first
 | simp only [go_sem, hlt, hget, hpu, hinc, Int.reduceLE, ↓reduceIte, reduceCtorEq, Nat.reduceEqDiff, Nat.reduceLeDiff, Nat.reduceAdd, Nat.reduceMul, Nat.reduceSub, Nat.reduceLT]
 | (with_reducible first | refine CB_ofT (by assumption) fun hc => ?_ | refine CB_ofF (by assumption) fun hc => ?_ | refine CB_split (fun hc => ?_) fun hc => ?_) <;> (try simp only [hc, bs, ↓reduceIte] at h) <;> (try simp only [hc])
 | ((with_reducible first | refine leafR hQ ?_ | refine leafN hQ ?_); (try cases h); simp only [resL, oneD, Option.some.injEq, exists_eq_left', go_sem, hlt, hget, hpu, hinc, Int.reduceLE, ↓reduceIte, reduceCtorEq, Nat.reduceEqDiff, Nat.reduceLeDiff, Nat.reduceAdd, Nat.reduceMul, Nat.reduceSub, Nat.reduceLT]; repeat' (first | exact Ok.out | with_reducible refine And.intro ?_ ?_ | (simp; done)))
 | (cases h; replace h := hr; clear hr; (try simp only [bs, ↓reduceIte] at h))
 | (cases h; done))
  | cons y rest =>
    obtain ⟨hget, g2, hlt, g4⟩ := drop_cons h1
    simp only [Sm.sizes] at h4 hl
    have hm : m < 4611686018427387904 := by omega
    have hk : acc.length < 4611686018427387904 := by omega
    have hsz : y.size ≤ N := by have := Sm.sizes_mem (List.mem_of_getElem? hget); omega
    obtain ⟨id, kind, labels, name, proc, x, has, args, thn, els⟩ := y
    simp only [Sm.size] at hsz h4
    have hroom : (acc.length + 1) * 209 ≤ maxStr := by simp only [maxStr]; omega
    have hx := fun s => expr_s (x := x) (by omega) s
    simp only [encEx_eq] at hx
    have hcl := fun g s => clone_str (l := labels) (by omega) g s
    have hal := Ar.sizes_len args
    repeat' (first
 | simp only [go_sem, hlt, hget, hpu, hinc, Int.reduceLE, ↓reduceIte, reduceCtorEq, Nat.reduceEqDiff, Nat.reduceLeDiff, Nat.reduceAdd, Nat.reduceMul, Nat.reduceSub, Nat.reduceLT, wrap_inc hm]
 | (with_reducible refine CU (hcl _ _) ?_)
 | (with_reducible refine CU (hx _) ?_)
 | (with_reducible first | refine CB_ofT (by assumption) fun hc => ?_ | refine CB_ofF (by assumption) fun hc => ?_ | refine CB_split (fun hc => ?_) fun hc => ?_) <;> (try simp only [hc, bs, ↓reduceIte] at h) <;> (try simp only [hc])
 | ((with_reducible first | refine leafR hQ ?_ | refine leafN hQ ?_); (try cases h); simp only [resL, oneD, Option.some.injEq, exists_eq_left', go_sem, hlt, hget, hpu, hinc, Int.reduceLE, ↓reduceIte, reduceCtorEq, Nat.reduceEqDiff, Nat.reduceLeDiff, Nat.reduceAdd, Nat.reduceMul, Nat.reduceSub, Nat.reduceLT, wrap_inc hm]; repeat' (first | exact Ok.out | with_reducible refine And.intro ?_ ?_ | (simp; done)))
 | (cases h; replace h := hr; clear hr; (try simp only [bs, ↓reduceIte] at h))
 | (cases h; done))
    refine SemL.tokO 1 10 6 rfl rfl ?_
    simp only [go_sem, hlt, hget, hpu, hinc, Int.reduceLE, ↓reduceIte, reduceCtorEq, Nat.reduceEqDiff, Nat.reduceLeDiff, Nat.reduceAdd, Nat.reduceMul, Nat.reduceSub, Nat.reduceLT]
    refine SemL.re _ _ 2 2 (by rw [hB]; exact Nat.le_of_ble_eq_true rfl) (by rw [hB]; exact Nat.le_of_ble_eq_true rfl) ?_ ?_ (SemL.ind (ι := List Ar × Nat × List Ar) (fun i => args.drop i.2.1 = i.1 ∧ i.2.1 = i.2.2.length ∧ i.2.2 ++ i.1 = args) (fun i => i.1.length)
      (fun i => [(1, .int .i64 ((m + 1 : Nat) : Int)), (2, .bool true), (8, .slice (.tok 0) 13 (acc.map encSm)), (10, .ptr 0 0), (11, .ptr 1 0), (14, .slice .shared 13 (l.map encSm)), (15, .int .i64 (l.length : Int)), (16, .int .i64 (acc.length : Int)),
        (36, .slice .shared 6 (args.map encAr)), (37, .int .i64 (args.length : Int)), (38, .int .i64 (i.2.1 : Int))])
      (fun i => ⟨[encSm ⟨id, kind, labels, name, proc, x, has, args, thn, els⟩, [.int .i64 ((m + 1 : Nat) : Int), .int .i64 kind, .slice .shared 1 (labels.map encStr), .str name, .str proc, .int .i64 x.op, .int .i64 x.n, .str x.name, .slice .shared 4 (x.kids.map encEx), .bool has, .slice (.tok 1) 6 (i.2.2.map encAr), .slice .shared 13 (thn.map encSm), .slice .shared 13 (els.map encSm)]], [some acc.length, some i.2.1]⟩) ?_ (args, 0, []) ⟨rfl, rfl, rfl⟩)
    · (simp only [go_sem, hlt, hget, hpu, hinc, Int.reduceLE, ↓reduceIte, reduceCtorEq, Nat.reduceEqDiff, Nat.reduceLeDiff, Nat.reduceAdd, Nat.reduceMul, Nat.reduceSub, Nat.reduceLT]; repeat' (first | exact Ok.out | with_reducible refine And.intro ?_ ?_))
    · (simp only [go_sem, hlt, hget, hpu, hinc, Int.reduceLE, ↓reduceIte, reduceCtorEq, Nat.reduceEqDiff, Nat.reduceLeDiff, Nat.reduceAdd, Nat.reduceMul, Nat.reduceSub, Nat.reduceLT]; repeat' (first | exact Ok.out | with_reducible refine And.intro ?_ ?_))
    rintro ⟨resta, ka, acca⟩ ⟨j1, j2, j3⟩ IHa
    dsimp only at j1 j2 j3
    subst j2
    cases resta with
    | nil =>
      have hlt := drop_nil j1
      rw [List.append_nil] at j3
      subst j3
      have b1 := Sm.nums_le true (m + 1) thn
      have b2 := Sm.nums_le true (Sm.nums true (m + 1) thn).2 els
      have c1 := ih thn (by omega) (m + 1) (by omega)
      have c2 := ih els (by omega) (Sm.nums true (m + 1) thn).2 (by omega)
      repeat' (first
 | simp only [go_sem, hlt, hget, hpu, hinc, Int.reduceLE, ↓reduceIte, reduceCtorEq, Nat.reduceEqDiff, Nat.reduceLeDiff, Nat.reduceAdd, Nat.reduceMul, Nat.reduceSub, Nat.reduceLT, hroom]
 | (with_reducible refine CU (c1 _) ?_)
 | (with_reducible refine CU (c2 _) ?_)
 | (with_reducible first | refine CB_ofT (by assumption) fun hc => ?_ | refine CB_ofF (by assumption) fun hc => ?_ | refine CB_split (fun hc => ?_) fun hc => ?_) <;> (try simp only [hc, bs, ↓reduceIte] at h) <;> (try simp only [hc])
 | ((with_reducible first | refine leafR hQ ?_ | refine leafN hQ ?_); (try cases h); simp only [resL, oneD, Option.some.injEq, exists_eq_left', go_sem, hlt, hget, hpu, hinc, Int.reduceLE, ↓reduceIte, reduceCtorEq, Nat.reduceEqDiff, Nat.reduceLeDiff, Nat.reduceAdd, Nat.reduceMul, Nat.reduceSub, Nat.reduceLT, hroom]; repeat' (first | exact Ok.out | with_reducible refine And.intro ?_ ?_ | (simp; done)))
 | (cases h; replace h := hr; clear hr; (try simp only [bs, ↓reduceIte] at h))
 | (cases h; done))
      refine SemL.re _ _ 0 1 (by rw [hB]; exact Nat.le_of_ble_eq_true rfl) (by rw [hB]; exact Nat.le_of_ble_eq_true rfl) ?_ ?_ (IH (rest, acc.length + 1, acc ++ [(Sm.num true m ⟨id, kind, labels, name, proc, x, has, acca, thn, els⟩).1], (Sm.num true m ⟨id, kind, labels, name, proc, x, has, acca, thn, els⟩).2) ⟨g2, by simp, by rw [h3]; simp [Sm.nums], by simp only [Sm.num]; omega⟩ (Nat.lt_succ_self _))
      · (simp only [go_sem, hlt, hget, hpu, hinc, Int.reduceLE, ↓reduceIte, reduceCtorEq, Nat.reduceEqDiff, Nat.reduceLeDiff, Nat.reduceAdd, Nat.reduceMul, Nat.reduceSub, Nat.reduceLT, wrap_inc hk, Sm.num]; repeat' (first | exact Ok.out | with_reducible refine And.intro ?_ ?_))
      · (simp only [go_sem, hlt, hget, hpu, hinc, Int.reduceLE, ↓reduceIte, reduceCtorEq, Nat.reduceEqDiff, Nat.reduceLeDiff, Nat.reduceAdd, Nat.reduceMul, Nat.reduceSub, Nat.reduceLT, wrap_inc hk, Sm.num]; repeat' (first | exact Ok.out | with_reducible refine And.intro ?_ ?_))
    | cons a resta =>
      obtain ⟨hget, g2, hlt, g4⟩ := drop_cons j1
      have ha : a.x.size < 1073741824 := by have := Ar.sizes_mem (List.mem_of_getElem? hget); omega
      have hka : acca.length < 4611686018427387904 := by omega
      have hrooma : (acca.length + 1) * 81 ≤ maxStr := by simp only [maxStr]; omega
      have hxa := fun s => expr_s ha s
      simp only [encEx_eq] at hxa
      obtain ⟨aref, aname, ax⟩ := a
      repeat' (first
 | simp only [go_sem, hlt, hget, hpu, hinc, Int.reduceLE, ↓reduceIte, reduceCtorEq, Nat.reduceEqDiff, Nat.reduceLeDiff, Nat.reduceAdd, Nat.reduceMul, Nat.reduceSub, Nat.reduceLT, hrooma]
 | (with_reducible refine CU (hxa _) ?_)
 | (with_reducible first | refine CB_ofT (by assumption) fun hc => ?_ | refine CB_ofF (by assumption) fun hc => ?_ | refine CB_split (fun hc => ?_) fun hc => ?_) <;> (try simp only [hc, bs, ↓reduceIte] at h) <;> (try simp only [hc])
 | ((with_reducible first | refine leafR hQ ?_ | refine leafN hQ ?_); (try cases h); simp only [resL, oneD, Option.some.injEq, exists_eq_left', go_sem, hlt, hget, hpu, hinc, Int.reduceLE, ↓reduceIte, reduceCtorEq, Nat.reduceEqDiff, Nat.reduceLeDiff, Nat.reduceAdd, Nat.reduceMul, Nat.reduceSub, Nat.reduceLT, hrooma]; repeat' (first | exact Ok.out | with_reducible refine And.intro ?_ ?_ | (simp; done)))
 | (cases h; replace h := hr; clear hr; (try simp only [bs, ↓reduceIte] at h))
 | (cases h; done))
      refine SemL.re _ _ 2 2 (by rw [hB]; exact Nat.le_of_ble_eq_true rfl) (by rw [hB]; exact Nat.le_of_ble_eq_true rfl) ?_ ?_ (IHa (resta, acca.length + 1, acca ++ [⟨aref, aname, ax⟩]) ⟨g2, by simp, by simp only [List.append_assoc, List.cons_append, List.nil_append]; exact j3⟩ (Nat.lt_succ_self _))
      · (simp only [go_sem, hlt, hget, hpu, hinc, Int.reduceLE, ↓reduceIte, reduceCtorEq, Nat.reduceEqDiff, Nat.reduceLeDiff, Nat.reduceAdd, Nat.reduceMul, Nat.reduceSub, Nat.reduceLT, wrap_inc hka]; repeat' (first | exact Ok.out | with_reducible refine And.intro ?_ ?_))
      · (simp only [go_sem, hlt, hget, hpu, hinc, Int.reduceLE, ↓reduceIte, reduceCtorEq, Nat.reduceEqDiff, Nat.reduceLeDiff, Nat.reduceAdd, Nat.reduceMul, Nat.reduceSub, Nat.reduceLT, wrap_inc hka]; repeat' (first | exact Ok.out | with_reducible refine And.intro ?_ ?_))

theorem cop_all : ∀ N, C_cop true N := by
  intro N
  induction N with
  | zero => intro l hl; exact absurd hl (Nat.not_lt_zero _)
  | succ N ih =>
    intro l hl n hn s
    exact (cop_true ih l hl n hn).pure (by simp [D.oks, D.ok, Tag.ok, okrSm]) (by simp [D.oks, D.ok, Tag.ok, okrSm]) s

theorem cop_s {l : List Sm} {n : Nat} (h : n + Sm.sizes l < 1073741824) (s : St) :
    Fun Try.prog n_tree_copied [.slice .shared 13 (l.map encSm), .int .i64 (n : Int), .bool true] s (.tuple [.slice .shared 13 ((Sm.nums true n l).1.map encSm), .int .i64 ((Sm.nums true n l).2 : Int)]) s :=
  cop_all _ l (Nat.lt_succ_self _) n h s

theorem Number_0 {p : Pg} (hp : p.size < 1073741824) : Fun Try.prog n_tree_Number [.agg (encPg p)] S0 (.agg (encPg p.number)) S0 := by
  obtain ⟨globals, procs⟩ := p
  simp only [Pg.size] at hp
  have hlen : procs.length < 1073741824 := by have := Pc.sizes_len procs; omega
  have hcg := fun g s => clone_str (l := globals) (by omega) g s
  unfold S0
  refine Fun.go has_tree_Number rfl fun B Q hB hQ => ?_
  have hlt : 0 < 1 := Nat.zero_lt_one
  have hget : 0 < 1 := Nat.zero_lt_one
  have hpu : 0 < 1 := Nat.zero_lt_one
  have hinc : 0 < 1 := Nat.zero_lt_one
  repeat' (first
 | simp only [go_sem, hlt, hget, hpu, hinc, Int.reduceLE, ↓reduceIte, reduceCtorEq, Nat.reduceEqDiff, Nat.reduceLeDiff, Nat.reduceAdd, Nat.reduceMul, Nat.reduceSub, Nat.reduceLT]
 | (with_reducible refine CU (hcg _ _) ?_)
 | (with_reducible first | refine CB_ofT (by assumption) fun hc => ?_ | refine CB_ofF (by assumption) fun hc => ?_ | refine CB_split (fun hc => ?_) fun hc => ?_) <;> (try simp only [hc, bs, ↓reduceIte] at h) <;> (try simp only [hc])
 | ((with_reducible first | refine leafR hQ ?_ | refine leafN hQ ?_); (try cases h); simp only [resL, oneD, Option.some.injEq, exists_eq_left', go_sem, hlt, hget, hpu, hinc, Int.reduceLE, ↓reduceIte, reduceCtorEq, Nat.reduceEqDiff, Nat.reduceLeDiff, Nat.reduceAdd, Nat.reduceMul, Nat.reduceSub, Nat.reduceLT]; repeat' (first | exact Ok.out | with_reducible refine And.intro ?_ ?_ | (simp; done)))
 | (cases h; replace h := hr; clear hr; (try simp only [bs, ↓reduceIte] at h))
 | (cases h; done))
  refine SemL.tokO 2 1 5 rfl rfl ?_
  simp only [go_sem, hlt, hget, hpu, hinc, Int.reduceLE, ↓reduceIte, reduceCtorEq, Nat.reduceEqDiff, Nat.reduceLeDiff, Nat.reduceAdd, Nat.reduceMul, Nat.reduceSub, Nat.reduceLT]
  refine SemL.re _ _ 3 1 (by rw [hB]; exact Nat.le_of_ble_eq_true rfl) (by rw [hB]; exact Nat.le_of_ble_eq_true rfl) ?_ ?_ (SemL.ind (ι := List Pc × Nat × List Pc × Nat) (fun i => procs.drop i.2.1 = i.1 ∧ i.2.1 = i.2.2.1.length ∧ Pc.nums 0 procs = i.2.2.1 ++ Pc.nums i.2.2.2 i.1 ∧ i.2.2.2 + Pc.sizes i.1 ≤ Pc.sizes procs) (fun i => i.1.length)
    (fun i => [(2, .ptr 1 0), (3, .int .i64 (i.2.2.2 : Int)), (4, .ptr 2 0), (13, .slice .shared 5 (procs.map encPc)), (14, .int .i64 (procs.length : Int)), (15, .int .i64 (i.2.1 : Int))])
    (fun i => ⟨[encPg ⟨globals, procs⟩, encPg pg0, [.slice .shared 1 (globals.map encStr), .slice (.tok 0) 5 (i.2.2.1.map encPc)]], [some i.2.1]⟩) ?_ (procs, 0, [], 0) ⟨rfl, rfl, rfl, by dsimp only; omega⟩)
  · (simp only [go_sem, hlt, hget, hpu, hinc, Int.reduceLE, ↓reduceIte, reduceCtorEq, Nat.reduceEqDiff, Nat.reduceLeDiff, Nat.reduceAdd, Nat.reduceMul, Nat.reduceSub, Nat.reduceLT]; repeat' (first | exact Ok.out | with_reducible refine And.intro ?_ ?_))
  · (simp only [go_sem, hlt, hget, hpu, hinc, Int.reduceLE, ↓reduceIte, reduceCtorEq, Nat.reduceEqDiff, Nat.reduceLeDiff, Nat.reduceAdd, Nat.reduceMul, Nat.reduceSub, Nat.reduceLT]; repeat' (first | exact Ok.out | with_reducible refine And.intro ?_ ?_))
  rintro ⟨rest, k, acc, m⟩ ⟨h1, h2, h3, h4⟩ IH
  dsimp only at h1 h2 h3 h4
  subst h2
  cases rest with
  | nil =>
    have hlt := drop_nil h1
    simp only [Pc.nums, List.append_nil] at h3
    subst h3
    repeat' (first
 | simp only [go_sem, hlt, hget, hpu, hinc, Int.reduceLE, ↓reduceIte, reduceCtorEq, Nat.reduceEqDiff, Nat.reduceLeDiff, Nat.reduceAdd, Nat.reduceMul, Nat.reduceSub, Nat.reduceLT, Pg.number]
 | (with_reducible first | refine CB_ofT (by assumption) fun hc => ?_ | refine CB_ofF (by assumption) fun hc => ?_ | refine CB_split (fun hc => ?_) fun hc => ?_) <;> (try simp only [hc, bs, ↓reduceIte] at h) <;> (try simp only [hc])
 | ((with_reducible first | refine leafR hQ ?_ | refine leafN hQ ?_); (try cases h); simp only [resL, oneD, Option.some.injEq, exists_eq_left', go_sem, hlt, hget, hpu, hinc, Int.reduceLE, ↓reduceIte, reduceCtorEq, Nat.reduceEqDiff, Nat.reduceLeDiff, Nat.reduceAdd, Nat.reduceMul, Nat.reduceSub, Nat.reduceLT, Pg.number]; repeat' (first | exact Ok.out | with_reducible refine And.intro ?_ ?_ | (simp; done)))
 | (cases h; replace h := hr; clear hr; (try simp only [bs, ↓reduceIte] at h))
 | (cases h; done))
  | cons y rest =>
    obtain ⟨hget, g2, hlt, g4⟩ := drop_cons h1
    simp only [Pc.sizes] at h4
    have hsz := Pc.sizes_mem (List.mem_of_getElem? hget)
    obtain ⟨name, params, vars, body, fin⟩ := y
    simp only [Pc.size] at hsz h4
    have hk : acc.length < 4611686018427387904 := by omega
    have hroom : (acc.length + 1) * 113 ≤ maxStr := by simp only [maxStr]; omega
    have c1 := fun g s => clone_pm (l := params) (by omega) g s
    have c2 := fun g s => clone_str (l := vars) (by omega) g s
    have c3 := fun g s => clone_str (l := fin) (by omega) g s
    have c4 := fun s => cop_s (l := body) (n := m) (by omega) s
    have b1 := Sm.nums_le true m body
    repeat' (first
 | simp only [go_sem, hlt, hget, hpu, hinc, Int.reduceLE, ↓reduceIte, reduceCtorEq, Nat.reduceEqDiff, Nat.reduceLeDiff, Nat.reduceAdd, Nat.reduceMul, Nat.reduceSub, Nat.reduceLT, hroom]
 | (with_reducible refine CU (c1 _ _) ?_)
 | (with_reducible refine CU (c2 _ _) ?_)
 | (with_reducible refine CU (c3 _ _) ?_)
 | (with_reducible refine CU (c4 _) ?_)
 | (with_reducible first | refine CB_ofT (by assumption) fun hc => ?_ | refine CB_ofF (by assumption) fun hc => ?_ | refine CB_split (fun hc => ?_) fun hc => ?_) <;> (try simp only [hc, bs, ↓reduceIte] at h) <;> (try simp only [hc])
 | ((with_reducible first | refine leafR hQ ?_ | refine leafN hQ ?_); (try cases h); simp only [resL, oneD, Option.some.injEq, exists_eq_left', go_sem, hlt, hget, hpu, hinc, Int.reduceLE, ↓reduceIte, reduceCtorEq, Nat.reduceEqDiff, Nat.reduceLeDiff, Nat.reduceAdd, Nat.reduceMul, Nat.reduceSub, Nat.reduceLT, hroom]; repeat' (first | exact Ok.out | with_reducible refine And.intro ?_ ?_ | (simp; done)))
 | (cases h; replace h := hr; clear hr; (try simp only [bs, ↓reduceIte] at h))
 | (cases h; done))
    refine SemL.re _ _ 3 1 (by rw [hB]; exact Nat.le_of_ble_eq_true rfl) (by rw [hB]; exact Nat.le_of_ble_eq_true rfl) ?_ ?_ (IH (rest, acc.length + 1, acc ++ [⟨name, params, vars, (Sm.nums true m body).1, fin⟩], (Sm.nums true m body).2) ⟨g2, by simp, by rw [h3]; simp [Pc.nums], by dsimp only; omega⟩ (Nat.lt_succ_self _))
    · (simp only [go_sem, hlt, hget, hpu, hinc, Int.reduceLE, ↓reduceIte, reduceCtorEq, Nat.reduceEqDiff, Nat.reduceLeDiff, Nat.reduceAdd, Nat.reduceMul, Nat.reduceSub, Nat.reduceLT, wrap_inc hk]; repeat' (first | exact Ok.out | with_reducible refine And.intro ?_ ?_))
    · (simp only [go_sem, hlt, hget, hpu, hinc, Int.reduceLE, ↓reduceIte, reduceCtorEq, Nat.reduceEqDiff, Nat.reduceLeDiff, Nat.reduceAdd, Nat.reduceMul, Nat.reduceSub, Nat.reduceLT, wrap_inc hk]; repeat' (first | exact Ok.out | with_reducible refine And.intro ?_ ?_))

theorem Number_s {p q : Pg} (h : p.numberO = some q) (s : St) : Fun Try.prog n_tree_Number [.agg (encPg p)] s (.agg (encPg q)) s := by
  unfold Pg.numberO at h
  split at h
  · cases h; exact (Number_0 ‹_›).pure (by simp [D.oks, D.ok, okPg]) (by simp [D.ok, okPg]) s
  · cases h

end Go.Abs

/-! MirParse -/

namespace Go.Abs

def rd0 (l : List Tok) : Rd := ⟨l, 0, 0, 0, 0⟩

def parseM (m : Nat) (text : Str) : Option (Pg × Int × Int) :=
  if (lexAll text).2.1 != 0 then some (pg0, (lexAll text).2)
  else (Rd.program m (rd0 (lexAll text).1)).bind fun p => if p.2.code != 0 then some (pg0, p.2.code, p.2.fat) else (p.1.numberO).bind fun q => some (q, 0, 0)

def exprM (m : Nat) (text : Str) : Option (Ex × Int × Int) :=
  if (lexAll text).2.1 != 0 then some (ex0, (lexAll text).2)
  else (Rd.whole m (rd0 (lexAll text).1)).bind fun x => x.2.notEnd.bind fun b =>
    if b then (x.2.bad 3).bind fun r => if !r.good then some (ex0, r.code, r.fat) else some (x.1, 0, 0)
    else if !x.2.good then some (ex0, x.2.code, x.2.fat) else some (x.1, 0, 0)

end Go.Abs

/-! Prs7 -/

namespace Go.Abs

set_option maxRecDepth 8000
set_option linter.unusedSimpArgs false
set_option linter.unusedVariables false
open Go.Proofs

theorem program_s {m : Nat} {r : Rd} {p : Pg × Rd} (h : Rd.program m r = some p) {s : St} {o : Nat} (ho : s.objs[o]? = some (encRd r)) :
    Fun Try.prog n_parse_reader_program [.ptr o 0] s (.agg (encPg p.1)) ⟨s.objs.set o (encRd p.2), s.toks⟩ := by
  refine Fun.meth ?_ rfl (okRd r) (okRd p.2) (by simp [D.ok, okPg]) ho
  unfold Rd.program at h
  refine Fun.go has_parse_reader_program rfl fun B Q hB hQ => ?_
  have hlt : 0 < 1 := Nat.zero_lt_one
  have hget : 0 < 1 := Nat.zero_lt_one
  have hpu : 0 < 1 := Nat.zero_lt_one
  have hinc : 0 < 1 := Nat.zero_lt_one
  repeat' (first
 | simp only [go_sem, hlt, hget, hpu, hinc, Int.reduceLE, ↓reduceIte, reduceCtorEq, Nat.reduceEqDiff, Nat.reduceLeDiff, Nat.reduceAdd, Nat.reduceMul, Nat.reduceSub, Nat.reduceLT]
 | (with_reducible first | refine CB_ofT (by assumption) fun hc => ?_ | refine CB_ofF (by assumption) fun hc => ?_ | refine CB_split (fun hc => ?_) fun hc => ?_) <;> (try simp only [hc, bs, ↓reduceIte] at h) <;> (try simp only [hc])
 | ((with_reducible first | refine leafR hQ ?_ | refine leafN hQ ?_); (try cases h); simp only [resL, oneD, Option.some.injEq, exists_eq_left', go_sem, hlt, hget, hpu, hinc, Int.reduceLE, ↓reduceIte, reduceCtorEq, Nat.reduceEqDiff, Nat.reduceLeDiff, Nat.reduceAdd, Nat.reduceMul, Nat.reduceSub, Nat.reduceLT]; repeat' (first | exact Ok.out | with_reducible refine And.intro ?_ ?_ | (simp; done)))
 | (cases h; replace h := hr; clear hr; (try simp only [bs, ↓reduceIte] at h))
 | (cases h; done))
  rw [Option.bind_eq_some_iff] at h
  obtain ⟨q, h, hr⟩ := h
  refine SemL.tokO 2 0 1 rfl rfl ?_
  simp only [go_sem, hlt, hget, hpu, hinc, Int.reduceLE, ↓reduceIte, reduceCtorEq, Nat.reduceEqDiff, Nat.reduceLeDiff, Nat.reduceAdd, Nat.reduceMul, Nat.reduceSub, Nat.reduceLT]
  refine SemL.re _ _ 3 1 (by rw [hB]; exact Nat.le_of_ble_eq_true rfl) (by rw [hB]; exact Nat.le_of_ble_eq_true rfl) ?_ ?_ (SemL.ind (ι := Nat × List Str × Rd × Nat) (fun i => Rd.globals m i.1 i.2.1 i.2.2.1 = some q ∧ i.2.2.2 = i.2.1.length) (fun i => i.1)
    (fun i => [(0, .ptr 0 0), (2, .ptr 1 0), (3, .ptr 2 0)]) (fun i => ⟨[encRd i.2.2.1, [.slice .full 0 [], .slice .full 0 []], [.slice (.tok 0) 1 (i.2.1.map encStr), .slice .full 0 []]], [some i.2.2.2]⟩) ?_ (m, [], r, 0) ⟨h, rfl⟩)
  · (simp only [go_sem, hlt, hget, hpu, hinc, Int.reduceLE, ↓reduceIte, reduceCtorEq, Nat.reduceEqDiff, Nat.reduceLeDiff, Nat.reduceAdd, Nat.reduceMul, Nat.reduceSub, Nat.reduceLT]; repeat' (first | exact Ok.out | with_reducible refine And.intro ?_ ?_))
  · (simp only [go_sem, hlt, hget, hpu, hinc, Int.reduceLE, ↓reduceIte, reduceCtorEq, Nat.reduceEqDiff, Nat.reduceLeDiff, Nat.reduceAdd, Nat.reduceMul, Nat.reduceSub, Nat.reduceLT]; repeat' (first | exact Ok.out | with_reducible refine And.intro ?_ ?_))
  rintro ⟨n, l, r, k⟩ ⟨h, hk⟩ IH
  dsimp only at hk; subst hk
  cases n with
  | zero => simp only [Rd.globals] at h; cases h
  | succ n =>
    simp only [Rd.globals] at h
    repeat' (first
 | simp only [go_sem, hlt, hget, hpu, hinc, Int.reduceLE, ↓reduceIte, reduceCtorEq, Nat.reduceEqDiff, Nat.reduceLeDiff, Nat.reduceAdd, Nat.reduceMul, Nat.reduceSub, Nat.reduceLT]
 | (rw [Option.bind_eq_some_iff] at h; obtain ⟨_, h1, h⟩ := h; first | (with_reducible refine CU (take_s h1 (by with_unfolding_all rfl)) ?_) | (with_reducible refine CU (names_s h1 (by with_unfolding_all rfl) (by with_unfolding_all rfl)) ?_))
 | (with_reducible first | refine CB_ofT (by assumption) fun hc => ?_ | refine CB_ofF (by assumption) fun hc => ?_ | refine CB_split (fun hc => ?_) fun hc => ?_) <;> (try simp only [hc, bs, ↓reduceIte] at h) <;> (try simp only [hc])
 | ((with_reducible first | refine leafR hQ ?_ | refine leafN hQ ?_); (try cases h); simp only [resL, oneD, Option.some.injEq, exists_eq_left', go_sem, hlt, hget, hpu, hinc, Int.reduceLE, ↓reduceIte, reduceCtorEq, Nat.reduceEqDiff, Nat.reduceLeDiff, Nat.reduceAdd, Nat.reduceMul, Nat.reduceSub, Nat.reduceLT]; repeat' (first | exact Ok.out | with_reducible refine And.intro ?_ ?_ | (simp; done)))
 | (cases h; replace h := hr; clear hr; (try simp only [bs, ↓reduceIte] at h))
 | (cases h; done))
    · refine SemL.re _ _ 3 1 (by rw [hB]; exact Nat.le_of_ble_eq_true rfl) (by rw [hB]; exact Nat.le_of_ble_eq_true rfl) ?_ ?_ (IH (n, _, _, _) ⟨h, rfl⟩ (Nat.lt_succ_self _))
      · (simp only [go_sem, hlt, hget, hpu, hinc, Int.reduceLE, ↓reduceIte, reduceCtorEq, Nat.reduceEqDiff, Nat.reduceLeDiff, Nat.reduceAdd, Nat.reduceMul, Nat.reduceSub, Nat.reduceLT]; repeat' (first | exact Ok.out | with_reducible refine And.intro ?_ ?_))
      · (simp only [go_sem, hlt, hget, hpu, hinc, Int.reduceLE, ↓reduceIte, reduceCtorEq, Nat.reduceEqDiff, Nat.reduceLeDiff, Nat.reduceAdd, Nat.reduceMul, Nat.reduceSub, Nat.reduceLT]; repeat' (first | exact Ok.out | with_reducible refine And.intro ?_ ?_))
    · refine SemL.re _ _ 3 0 (by rw [hB]; exact Nat.le_of_ble_eq_true rfl) (by rw [hB]; exact Nat.le_of_ble_eq_true rfl) ?_ ?_ (program_tail hB hQ _ h)
      · (simp only [go_sem, hlt, hget, hpu, hinc, Int.reduceLE, ↓reduceIte, reduceCtorEq, Nat.reduceEqDiff, Nat.reduceLeDiff, Nat.reduceAdd, Nat.reduceMul, Nat.reduceSub, Nat.reduceLT]; repeat' (first | exact Ok.out | with_reducible refine And.intro ?_ ?_))
      · (simp only [go_sem, hlt, hget, hpu, hinc, Int.reduceLE, ↓reduceIte, reduceCtorEq, Nat.reduceEqDiff, Nat.reduceLeDiff, Nat.reduceAdd, Nat.reduceMul, Nat.reduceSub, Nat.reduceLT]; repeat' (first | exact Ok.out | with_reducible refine And.intro ?_ ?_))

theorem Parse_s {m : Nat} {text : Str} {p : Pg × Int × Int} (h : parseM m text = some p) (hl : text.length < 4611686018427387904) (s : St) :
    Fun Try.prog n_parse_Parse [.str text] s (.tuple [.agg (encPg p.1), .agg (encF p.2)]) s := by
  refine Fun.pure ?_ rfl (by simp [D.ok, D.oks, okPg, encF]) s
  unfold parseM at h
  have hlex := all_s text hl
  generalize lexAll text = t at h hlex
  unfold S0
  refine Fun.go has_parse_Parse rfl fun B Q hB hQ => ?_
  have hlt : 0 < 1 := Nat.zero_lt_one
  have hget : 0 < 1 := Nat.zero_lt_one
  have hpu : 0 < 1 := Nat.zero_lt_one
  have hinc : 0 < 1 := Nat.zero_lt_one
  repeat' (first
 | simp only [go_sem, hlt, hget, hpu, hinc, Int.reduceLE, ↓reduceIte, reduceCtorEq, Nat.reduceEqDiff, Nat.reduceLeDiff, Nat.reduceAdd, Nat.reduceMul, Nat.reduceSub, Nat.reduceLT, rd0]
 | (rw [Option.bind_eq_some_iff] at h; obtain ⟨_, h1, h⟩ := h; first | (with_reducible refine CU (program_s h1 (by with_unfolding_all rfl)) ?_) | (with_reducible refine CU (Number_s h1 _) ?_))
 | (with_reducible refine CU (hlex _) ?_)
 | (with_reducible first | refine CB_ofT (by assumption) fun hc => ?_ | refine CB_ofF (by assumption) fun hc => ?_ | refine CB_split (fun hc => ?_) fun hc => ?_) <;> (try simp only [hc, bs, ↓reduceIte] at h) <;> (try simp only [hc])
 | ((with_reducible first | refine leafR hQ ?_ | refine leafN hQ ?_); (try cases h); simp only [resL, oneD, Option.some.injEq, exists_eq_left', go_sem, hlt, hget, hpu, hinc, Int.reduceLE, ↓reduceIte, reduceCtorEq, Nat.reduceEqDiff, Nat.reduceLeDiff, Nat.reduceAdd, Nat.reduceMul, Nat.reduceSub, Nat.reduceLT, rd0]; repeat' (first | exact Ok.out | with_reducible refine And.intro ?_ ?_ | (simp; done)))
 | (cases h; replace h := hr; clear hr; (try simp only [bs, ↓reduceIte] at h))
 | (cases h; done))

theorem Expr_s {m : Nat} {text : Str} {p : Ex × Int × Int} (h : exprM m text = some p) (hl : text.length < 4611686018427387904) (s : St) :
    Fun Try.prog n_parse_Expr [.str text] s (.tuple [.agg (encEx p.1), .agg (encF p.2)]) s := by
  refine Fun.pure ?_ rfl (by simp [D.ok, D.oks, okEx, encF]) s
  unfold exprM Rd.notEnd at h
  have hlex := all_s text hl
  generalize lexAll text = t at h hlex
  unfold S0
  refine Fun.go has_parse_Expr rfl fun B Q hB hQ => ?_
  have hlt : 0 < 1 := Nat.zero_lt_one
  have hget : 0 < 1 := Nat.zero_lt_one
  have hpu : 0 < 1 := Nat.zero_lt_one
  have hinc : 0 < 1 := Nat.zero_lt_one
  repeat' (first
 | simp only [go_sem, hlt, hget, hpu, hinc, Int.reduceLE, ↓reduceIte, reduceCtorEq, Nat.reduceEqDiff, Nat.reduceLeDiff, Nat.reduceAdd, Nat.reduceMul, Nat.reduceSub, Nat.reduceLT, rd0]
 | (rw [Option.bind_eq_some_iff] at h; obtain ⟨_, h1, h⟩ := h; first | (with_reducible refine CU (whole_s h1 (by with_unfolding_all rfl)) ?_) | (with_reducible refine CU (peek_s h1 (by with_unfolding_all rfl)) ?_) | (with_reducible refine CU (bad_s h1 (by with_unfolding_all rfl)) ?_))
 | (with_reducible refine CU (hlex _) ?_)
 | (with_reducible refine CU (good_s (by with_unfolding_all rfl)) ?_)
 | (with_reducible first | refine CB_ofT (by assumption) fun hc => ?_ | refine CB_ofF (by assumption) fun hc => ?_ | refine CB_split (fun hc => ?_) fun hc => ?_) <;> (try simp only [hc, bs, ↓reduceIte] at h) <;> (try simp only [hc])
 | ((with_reducible first | refine leafR hQ ?_ | refine leafN hQ ?_); (try cases h); simp only [resL, oneD, Option.some.injEq, exists_eq_left', go_sem, hlt, hget, hpu, hinc, Int.reduceLE, ↓reduceIte, reduceCtorEq, Nat.reduceEqDiff, Nat.reduceLeDiff, Nat.reduceAdd, Nat.reduceMul, Nat.reduceSub, Nat.reduceLT, rd0]; repeat' (first | exact Ok.out | with_reducible refine And.intro ?_ ?_ | (simp; done)))
 | (cases h; replace h := hr; clear hr; (try simp only [bs, ↓reduceIte] at h))
 | (cases h; done))

end Go.Abs

/-! Tot -/

namespace Go.Abs
set_option linter.unusedSimpArgs false
set_option linter.unusedVariables false

/-- There is a result, and this holds of it. -/
def Tt {α : Type} (o : Option α) (Q : α → Prop) : Prop := ∃ a, o = some a ∧ Q a
theorem Tt.bind {α β : Type} {o : Option α} {f : α → Option β} {Q : α → Prop} {R : β → Prop} (h : Tt o Q) (k : ∀ a, Q a → Tt (f a) R) : Tt (o.bind f) R := by
  obtain ⟨a, rfl, hq⟩ := h
  exact k a hq
theorem Tt.mono {α : Type} {o : Option α} {Q R : α → Prop} (h : Tt o Q) (k : ∀ a, Q a → R a) : Tt o R := by
  obtain ⟨a, e, hq⟩ := h
  exact ⟨a, e, k a hq⟩
theorem Tt.some {α : Type} {a : α} {Q : α → Prop} (h : Q a) : Tt (some a) Q := ⟨a, rfl, h⟩
theorem Tt.ite {α : Type} {c : Prop} [Decidable c] {a b : Option α} {Q : α → Prop} (h1 : c → Tt a Q) (h2 : ¬ c → Tt b Q) : Tt (if c then a else b) Q := by
  by_cases h : c
  · rw [if_pos h]; exact h1 h
  · rw [if_neg h]; exact h2 h

structure Rd.Ok (r : Rd) : Prop where
  k : ∀ t ∈ r.l, 0 ≤ t.kind ∧ t.kind ≤ 4
  lt : r.i < r.l.length
  len : r.l.length ≤ 2001
  last : ∀ t, r.l[r.l.length - 1]? = some t → t.kind = 0
  n1 : r.n ≤ 201

/-- From one reader to a later one. -/
structure Rd.To (r r' : Rd) : Prop where
  ok : r'.Ok
  l : r'.l = r.l
  i : r.i ≤ r'.i
  g : r'.good = true → r.good = true
  s : r.good = false → r' = r
structure Rd.ToE (r r' : Rd) : Prop where
  to : r.To r'
  n : r'.n = r.n

theorem Rd.To.refl {r : Rd} (h : r.Ok) : r.To r := ⟨h, rfl, Nat.le_refl _, id, fun _ => rfl⟩
theorem Rd.To.trans {a b c : Rd} (h : a.To b) (k : b.To c) : a.To c :=
  ⟨k.ok, k.l.trans h.l, Nat.le_trans h.i k.i, fun g => h.g (k.g g), fun g => by have := h.s g; subst this; exact k.s g⟩
theorem Rd.ToE.refl {r : Rd} (h : r.Ok) : r.ToE r := ⟨.refl h, rfl⟩
theorem Rd.ToE.trans {a b c : Rd} (h : a.ToE b) (k : b.ToE c) : a.ToE c := ⟨h.to.trans k.to, k.n.trans h.n⟩

theorem peek_t {r : Rd} (h : r.Ok) : Tt r.peek fun t => r.l[r.i]? = some t ∧ 0 ≤ t.kind ∧ t.kind ≤ 4 ∧ (t.kind ≠ 0 → r.i + 1 < r.l.length) := by
  have hlt := h.lt
  have hget : r.l[r.i]? = some r.l[r.i] := List.getElem?_eq_getElem hlt
  have hk := h.k _ (List.getElem_mem hlt)
  refine ⟨r.l[r.i], ?_, hget, hk.1, hk.2, fun hz => ?_⟩
  · have : r.i < 4611686018427387904 := by have := h.len; omega
    simp only [Rd.peek, getO, this, ↓reduceIte, hget, Option.bind_some, hk.1, hk.2, decide_true, Bool.and_self]
  · rcases Nat.lt_or_ge (r.i + 1) r.l.length with h1 | h1
    · exact h1
    · have : r.i = r.l.length - 1 := by omega
      have := h.last r.l[r.i] (by rw [← this]; exact hget)
      exact absurd this hz

theorem Rd.Ok.on {r : Rd} (h : r.Ok) (hi : r.i + 1 < r.l.length) : ({ r with i := r.i + 1 } : Rd).Ok := ⟨h.k, hi, h.len, h.last, h.n1⟩
theorem Rd.ToE.on {r : Rd} (h : r.Ok) (hg : r.good = true) (hi : r.i + 1 < r.l.length) : r.ToE { r with i := r.i + 1 } :=
  ⟨⟨h.on hi, rfl, Nat.le_succ _, fun _ => hg, fun h' => by rw [hg] at h'; cases h'⟩, rfl⟩
theorem Rd.Ok.fault {r : Rd} (h : r.Ok) (c f : Int) : ({ r with code := c, fat := f } : Rd).Ok ∨ c = 0 := by
  by_cases hc : c = 0
  · exact .inr hc
  · exact .inl ⟨h.k, h.lt, h.len, h.last, h.n1⟩

theorem bad_t {r : Rd} (h : r.Ok) {c : Int} (hc : c ≠ 0) : Tt (r.bad c) fun r' => r.ToE r' ∧ r'.good = false ∧ r'.i = r.i := by
  unfold Rd.bad
  refine Tt.ite (fun hg => ?_) (fun hg => ?_)
  · refine (peek_t h).bind fun t ht => Tt.some ?_
    have hf : ({ r with code := c, fat := t.pos } : Rd).good = false := by simp [Rd.good, hc]
    refine ⟨⟨⟨?_, rfl, Nat.le_refl _, fun h' => (by rw [hf] at h'; cases h'), fun h' => (by rw [hg] at h'; cases h')⟩, rfl⟩, hf, rfl⟩
    rcases h.fault c t.pos with h1 | h1
    · exact h1
    · exact absurd h1 hc
  · have : r.good = false := by simpa using hg
    exact Tt.some ⟨.refl h, this, rfl⟩

theorem is_t {r : Rd} (h : r.Ok) (s : Str) : Tt (r.is s) fun b => b = true → r.i + 1 < r.l.length := by
  unfold Rd.is
  refine (peek_t h).bind fun t ht => Tt.some fun hb => ht.2.2.2 ?_
  simp only [Bool.and_eq_true, Bool.or_eq_true, beq_iff_eq] at hb
  omega

theorem take_t {r : Rd} (h : r.Ok) (s : Str) : Tt (r.take s) fun p => r.ToE p.2 ∧ (p.1 = true → p.2.i = r.i + 1 ∧ r.good = true ∧ p.2.good = true) ∧ (p.1 = false → p.2 = r) := by
  unfold Rd.take
  refine Tt.ite (fun hg => ?_) (fun hg => ?_)
  · exact Tt.some ⟨.refl h, by simp, by simp⟩
  · have hg' : r.good = true := by simpa using hg
    refine (is_t h s).bind fun b hb => Tt.ite (fun hc => Tt.some ⟨.refl h, by simp, by simp⟩) (fun hc => Tt.some ?_)
    have hbt : b = true := by simpa using hc
    exact ⟨.on h hg' (hb hbt), fun _ => ⟨rfl, hg', hg'⟩, by simp⟩

theorem want_t {r : Rd} (h : r.Ok) (s : Str) : Tt (r.want s) fun r' => r.ToE r' ∧ (r'.good = true → r'.i = r.i + 1) := by
  unfold Rd.want
  refine (take_t h s).bind fun p hp => Tt.ite (fun hc => ?_) (fun hc => ?_)
  · have : p.1 = false := by simpa using hc
    have e := hp.2.2 this
    rw [e]
    exact (bad_t h (by decide)).mono fun r' hr => ⟨hr.1, fun hg => by rw [hr.2.1] at hg; cases hg⟩
  · have : p.1 = true := by simpa using hc
    exact Tt.some ⟨hp.1, fun _ => (hp.2.1 this).1⟩

/-! ### Expressions -/

def ExT (r : Rd) (p : Ex × Rd) : Prop := r.ToE p.2 ∧ (p.2.good = true → p.1.size + 3 + 4 * r.i ≤ 4 * p.2.i)

theorem ex0_size : ex0.size = 1 := rfl

theorem expr_t : ∀ n : Nat,
    (∀ r : Rd, r.Ok → 3 * (r.l.length - r.i) + 1 ≤ n → Tt (Rd.one n r) (ExT r)) ∧
    (∀ (r : Rd) (k : Int), r.Ok → 3 * (r.l.length - r.i) + 2 ≤ n → Tt (Rd.two n k r) (ExT r)) ∧
    (∀ (r : Rd) (k : Int) (x : Ex), r.Ok → 3 * (r.l.length - r.i) + 1 ≤ n → Tt (Rd.twoL n k x r) fun p => r.ToE p.2 ∧ (p.2.good = true → p.1.size + 4 * r.i ≤ x.size + 4 * p.2.i)) := by
  intro n
  induction n with
  | zero => exact ⟨fun r _ h => by omega, fun r k _ h => by omega, fun r k x _ h => by omega⟩
  | succ n ih =>
  obtain ⟨ih1, ih2, ih3⟩ := ih
  refine ⟨fun r h hn => ?_, fun r k h hn => ?_, fun r k x h hn => ?_⟩
  · have hlt := h.lt
    simp only [Rd.one]
    refine (peek_t h).bind fun t ht => Tt.ite (fun hg => ?_) (fun hg => ?_)
    · have hg : r.good = false := by simpa using hg
      exact Tt.some ⟨.refl h, fun h' => by simp only [hg] at h'; cases h'⟩
    have hg : r.good = true := by simpa using hg
    refine Tt.ite (fun hk => ?_) (fun hk => Tt.ite (fun hk2 => ?_) (fun hk2 => ?_))
    · simp only [beq_iff_eq] at hk
      refine Tt.some ⟨.on h hg (ht.2.2.2 (by omega)), fun _ => ?_⟩
      simp only [Ex.size, Ex.sizes]; omega
    · simp only [beq_iff_eq] at hk2
      refine Tt.some ⟨.on h hg (ht.2.2.2 (by omega)), fun _ => ?_⟩
      simp only [Ex.size, Ex.sizes]; omega
    refine (take_t h _).bind fun p hp => Tt.ite (fun hc => ?_) (fun hc => ?_)
    · obtain ⟨e1, e2, e3⟩ := hp.2.1 hc
      have hl := hp.1.to.l
      have hi := hp.1.to.ok.lt
      refine (ih2 p.2 1 hp.1.to.ok (by rw [hl, e1]; rw [hl, e1] at hi; omega)).bind fun x hx => ?_
      refine (want_t hx.1.to.ok _).bind fun r2 hr2 => Tt.some ⟨hp.1.trans (hx.1.trans hr2.1), fun hgo => ?_⟩
      have := hx.2 (hr2.1.to.g hgo)
      have := hr2.2 hgo
      dsimp only
      omega
    · have hpf : p.1 = false := by simpa using hc
      rw [hp.2.2 hpf]
      refine (take_t h _).bind fun p hp => Tt.ite (fun hc => ?_) (fun hc => ?_)
      · obtain ⟨e1, e2, e3⟩ := hp.2.1 hc
        have hl := hp.1.to.l
        have hi := hp.1.to.ok.lt
        refine (ih1 p.2 hp.1.to.ok (by rw [hl, e1]; rw [hl, e1] at hi; omega)).bind fun x hx => Tt.some ⟨hp.1.trans hx.1, fun hgo => ?_⟩
        have := hx.2 hgo
        simp only [Ex.size, Ex.sizes]
        omega
      · have hpf : p.1 = false := by simpa using hc
        rw [hp.2.2 hpf]
        refine (take_t h _).bind fun p hp => Tt.ite (fun hc => ?_) (fun hc => ?_)
        · obtain ⟨e1, e2, e3⟩ := hp.2.1 hc
          have hl := hp.1.to.l
          have hi := hp.1.to.ok.lt
          refine (ih1 p.2 hp.1.to.ok (by rw [hl, e1]; rw [hl, e1] at hi; omega)).bind fun x hx => Tt.some ⟨hp.1.trans hx.1, fun hgo => ?_⟩
          have := hx.2 hgo
          simp only [Ex.size, Ex.sizes]
          omega
        · have hpf : p.1 = false := by simpa using hc
          rw [hp.2.2 hpf]
          exact (bad_t h (by decide)).bind fun r' hr => Tt.some ⟨hr.1, fun hg => by simp only [hr.2.1] at hg; cases hg⟩
  · simp only [Rd.two]
    refine (ih1 r h (by omega)).bind fun x hx => ?_
    have hl := hx.1.to.l
    have hi := hx.1.to.i
    refine (ih3 x.2 k x.1 hx.1.to.ok (by rw [hl]; omega)).mono fun p hp => ⟨hx.1.trans hp.1, fun hg => ?_⟩
    have h1 := hp.2 hg
    have h2 := hx.2 (hp.1.to.g hg)
    omega
  · have hlt := h.lt
    simp only [Rd.twoL]
    refine Tt.ite (fun hg => ?_) (fun hg => Tt.some ⟨.refl h, fun _ => Nat.le_refl _⟩)
    refine (peek_t h).bind fun t ht => Tt.ite (fun hc => Tt.some ⟨.refl h, fun _ => Nat.le_refl _⟩) (fun hc => ?_)
    have hk : t.kind ≠ 0 := fun e => hc (by
      have : opOf t = (0, 0) := by simp [opOf, e]
      simp [this])
    have hon := Rd.ToE.on h hg (ht.2.2.2 hk)
    have hi := hon.to.ok.lt
    refine (ih2 _ _ hon.to.ok (by dsimp only at hi ⊢; omega)).bind fun y hy => ?_
    have hl2 := hy.1.to.l
    have hi2 := hy.1.to.i
    have hi3 := hy.1.to.ok.lt
    dsimp only at hl2 hi2
    refine (ih3 y.2 k _ hy.1.to.ok (by rw [hl2] at hi3 ⊢; omega)).mono fun p hp => ⟨hon.trans (hy.1.trans hp.1), fun hgo => ?_⟩
    have h1 := hp.2 hgo
    have h2 := hy.2 (hp.1.to.g hgo)
    simp only [Ex.size, Ex.sizes] at h1
    dsimp only at h2
    omega

/-- Fuel that is enough for a whole expression. -/
theorem whole_t {n : Nat} {r : Rd} (h : r.Ok) (hn : 6006 ≤ n) : Tt (Rd.whole n r) (ExT r) := by
  have hlen := h.len
  unfold Rd.whole
  refine (peek_t h).bind fun t ht => ((expr_t n).2.1 r 1 h (by omega)).bind fun x hx => Tt.ite (fun hg => ?_) (fun hg => Tt.some ?_)
  · have hs := hx.2 hg
    have hi := hx.1.to.ok.lt
    have hl := hx.1.to.ok.len
    have hsz : x.1.size < 4611686018427387904 := by omega
    simp only [depthO, hsz, ↓reduceIte, Option.bind_some]
    refine Tt.ite (fun hd => Tt.some ?_) (fun hd => Tt.some hx)
    have hf : ({ x.2 with code := 4, fat := t.pos } : Rd).good = false := rfl
    refine ⟨⟨⟨?_, hx.1.to.l, hx.1.to.i, fun h' => (by rw [hf] at h'; cases h'), fun h' => ?_⟩, hx.1.n⟩, fun h' => by rw [hf] at h'; cases h'⟩
    · rcases hx.1.to.ok.fault 4 t.pos with h1 | h1
      · exact h1
      · cases h1
    · have := hx.1.to.s h'
      rw [this] at hg
      rw [hg] at h'
      cases h'
  · exact hx

end Go.Abs

/-! Tot2 -/

namespace Go.Abs
set_option linter.unusedSimpArgs false
set_option linter.unusedVariables false

def StT (r : Rd) (p : Sm × Rd) : Prop := r.ToE p.2 ∧ (p.2.good = true → p.1.size + 1 + 8 * r.i ≤ 8 * p.2.i)

end Go.Abs

/-! Tot3 -/

namespace Go.Abs
set_option linter.unusedSimpArgs false
set_option linter.unusedVariables false

/-- What statements leave. -/
structure StQ (r r' : Rd) : Prop where
  to : r.To r'
  n : r'.good = true → r'.n ≤ 200

def RowsT (r : Rd) (p : (List Sm × List Str) × Rd) : Prop := StQ r p.2 ∧ (p.2.good = true → Sm.sizes p.1.1 + p.1.2.length + 8 * r.i ≤ 8 * p.2.i)

theorem notEnd_t {r : Rd} (h : r.Ok) : Tt r.notEnd fun b => b = true → r.good = true := by
  unfold Rd.notEnd
  exact Tt.ite (fun hg => (peek_t h).bind fun t _ => Tt.some fun _ => hg) (fun hg => Tt.some (by simp))

/-! ### The lexer's tokens -/

def TokOk (t : Tok) : Prop := 1 ≤ t.kind ∧ t.kind ≤ 4

theorem tokE_ok {pos : Nat} {s : Str} {t : Tok} (h : tokE pos s = .inl t) : TokOk t := by
  cases s with
  | nil => simp only [tokE] at h; cases h
  | cons c r =>
    simp only [tokE] at h
    split at h
    · split at h
      · cases h
      · cases h; simp only [TokOk]; split <;> omega
    · split at h
      · split at h
        · cases h
        · split at h
          · cases h; simp [TokOk]
          · cases h
      · split at h
        · cases h
        · cases h; simp [TokOk]

theorem lexF_ok : ∀ (n pos : Nat) (s : Str) (out : List Tok), s.length < n → out.length ≤ 2000 → (∀ t ∈ out, TokOk t) →
    (lexF n pos s out).2.1 = 0 → ∃ l e, (lexF n pos s out).1 = l ++ [e] ∧ e.kind = 0 ∧ l.length ≤ 2000 ∧ ∀ t ∈ l, TokOk t := by
  intro n
  induction n with
  | zero => intro pos s out h; omega
  | succ n ih =>
    intro pos s out hn ho hok h
    cases s with
    | nil => exact ⟨out, ⟨0, [], 0, pos⟩, by simp [lexF], rfl, ho, hok⟩
    | cons c r =>
      simp only [List.length_cons] at hn
      simp only [lexF] at h ⊢
      split
      · rename_i hb
        rw [if_pos hb] at h
        exact ih _ _ _ (by omega) ho hok h
      · rename_i hb
        rw [if_neg hb] at h
        split
        · rename_i hc
          rw [if_pos hc] at h
          have hpos : 0 < lineL (c :: r) := by
            have : ((c.toNat : Int) != 10) = true := by simp only [beq_iff_eq] at hc; simp [hc]
            simp [lineL, this]
          exact ih _ _ _ (by rw [List.length_drop, List.length_cons]; omega) ho hok h
        · rename_i hc
          rw [if_neg hc] at h
          cases ht : tokE pos (c :: r) with
          | inr e =>
            simp only [ht] at h
            exfalso
            have : e = 2 ∨ e = 4 := by
              simp only [tokE] at ht
              repeat' split at ht
              all_goals first | (cases ht; simp; done) | cases ht
            omega
          | inl t =>
            simp only [ht] at h ⊢
            split
            · rename_i h2
              rw [if_pos h2] at h
              cases h
            · rename_i h2
              rw [if_neg h2] at h
              have hpos : 0 < t.text.length := by
                have : ∀ s : Str, t.text = s → 0 < s.length → 0 < t.text.length := fun s e h => by rw [e]; exact h
                simp only [tokE] at ht
                cases hL : isL c
                · simp only [hL, Bool.false_eq_true, ↓reduceIte] at ht
                  cases hD : isD c
                  · simp only [hD, Bool.false_eq_true, ↓reduceIte] at ht
                    split at ht
                    · cases ht
                    · cases ht; simp only [List.length_take, List.length_cons]; omega
                  · have k0 : 0 < runD (c :: r) := by simp [runD, hD]
                    simp only [hD, ↓reduceIte] at ht
                    split at ht
                    · cases ht
                    · split at ht
                      · cases ht; simp only [List.length_take, List.length_cons]; omega
                      · cases ht
                · have k0 : 0 < runL (c :: r) := by simp [runL, hL]
                  simp only [hL, ↓reduceIte] at ht
                  split at ht
                  · cases ht
                  · cases ht; simp only [List.length_take, List.length_cons]; omega
              refine ih _ _ _ (by rw [List.length_drop, List.length_cons]; omega) (by simp; omega) ?_ h
              intro t' ht'
              rcases List.mem_append.1 ht' with h3 | h3
              · exact hok t' h3
              · simp at h3; subst h3; exact tokE_ok ht

theorem lexAll_ok {text : Str} (h : (lexAll text).2.1 = 0) : (rd0 (lexAll text).1).Ok := by
  unfold lexAll at h ⊢
  split at h
  · cases h
  · rename_i hl
    rw [if_neg hl]
    obtain ⟨l, e, h1, h2, h3, h4⟩ := lexF_ok _ 0 text [] (Nat.lt_succ_self _) (Nat.zero_le _) (by simp) h
    rw [h1]
    refine ⟨fun t ht => ?_, by simp [rd0], by simp [rd0]; omega, fun t ht => ?_, by simp [rd0]⟩
    · simp only [rd0] at ht
      rcases List.mem_append.1 ht with h5 | h5
      · have := h4 t h5; simp only [TokOk] at this; omega
      · simp at h5; subst h5; omega
    · simp only [rd0, List.length_append, List.length_singleton, Nat.add_sub_cancel] at ht
      rw [List.getElem?_append_right (Nat.le_refl _)] at ht
      simp at ht
      subst ht
      exact h2

/-! ### Texts -/

def fuelM : Nat := 20000

theorem exprM_t (text : Str) : Tt (exprM fuelM text) fun p => p.1.size < 100000 := by
  unfold exprM
  refine Tt.ite (fun hz => Tt.some (by rw [ex0_size]; decide)) (fun hz => ?_)
  have h0 : (lexAll text).2.1 = 0 := by simpa using hz
  have hok := lexAll_ok h0
  refine (whole_t hok (by decide)).bind fun x hx => (notEnd_t hx.1.to.ok).bind fun b hb => Tt.ite (fun _ => ?_) (fun _ => Tt.ite (fun _ => Tt.some (by rw [ex0_size]; decide)) (fun hg => Tt.some ?_))
  · refine (bad_t hx.1.to.ok (by decide)).bind fun r hr => Tt.ite (fun _ => Tt.some (by rw [ex0_size]; decide)) (fun hg => ?_)
    rw [hr.2.1] at hg
    exact absurd rfl hg
  · have hg : x.2.good = true := by simpa using hg
    have h1 := hx.2 hg
    have h2 := hx.1.to.ok.lt
    have h3 := hx.1.to.ok.len
    dsimp only
    omega

end Go.Abs

/-! Parsed2 -/

namespace Go.Abs

set_option maxRecDepth 8000
set_option linter.unusedSimpArgs false
set_option linter.unusedVariables false
open Go.Proofs

theorem parse_source : parseM fuelM source = some (some0, 0, 0) := by kernel_rfl
theorem expr_one : exprM fuelM [49, 32, 43, 32, 97] = some (exTwo 8 (exNum 1) (exName [97]), 0, 0) := by kernel_rfl
theorem source_len : source.length < 4611686018427387904 := by simp [source]
theorem one_len : ([49, 32, 43, 32, 97] : Str).length < 4611686018427387904 := by decide
theorem some0_ble : Nat.ble (some0.size + 1) 1000 = true := by kernel_rfl
theorem some0_size : some0.size < 1073741824 := Nat.lt_of_lt_of_le (Nat.le_of_ble_eq_true some0_ble) (Nat.le_of_ble_eq_true rfl)

theorem parsed_0 (s : St) : Fun Try.prog n_law4_parsed [] s (.bool true) s := by
  refine Fun.pure ?_ rfl rfl s
  have h1 := fun s => Parse_s parse_source source_len s
  have h2 := fun s => Expr_s expr_one one_len s
  have h3 := fun s => Eq_s (b := some0) some0_size s
  rw [Pg.beq_refl] at h3
  have z0 : ((0 : Int) == 0) = true := rfl
  have z8 : ((8 : Int) == 8) = true := rfl
  have z2 : ((2 : Int) == 2) = true := rfl
  unfold S0
  refine Fun.go has_law4_parsed rfl fun B Q hB hQ => ?_
  have hlt : 0 < 1 := Nat.zero_lt_one
  have hget : 0 < 1 := Nat.zero_lt_one
  have hpu : 0 < 1 := Nat.zero_lt_one
  have hinc : 0 < 1 := Nat.zero_lt_one
  repeat' (first
 | simp only [go_sem, hlt, hget, hpu, hinc, Int.reduceLE, ↓reduceIte, reduceCtorEq, Nat.reduceEqDiff, Nat.reduceLeDiff, Nat.reduceAdd, Nat.reduceMul, Nat.reduceSub, Nat.reduceLT, z0, z8, z2, exTwo, Int.cast_ofNat_Int]
 | (with_reducible refine CU (Source_s _) ?_)
 | (with_reducible refine CU (Some_s _) ?_)
 | (with_reducible refine CU (h1 _) ?_)
 | (with_reducible refine CU (h2 _) ?_)
 | (with_reducible refine CU (h3 _) ?_)
 | (with_reducible first | refine CB_ofT (by assumption) fun hc => ?_ | refine CB_ofF (by assumption) fun hc => ?_ | refine CB_split (fun hc => ?_) fun hc => ?_) <;> (try simp only [hc, bs, ↓reduceIte] at h) <;> (try simp only [hc])
 | ((with_reducible first | refine leafR hQ ?_ | refine leafN hQ ?_); (try cases h); simp only [resL, oneD, Option.some.injEq, exists_eq_left', go_sem, hlt, hget, hpu, hinc, Int.reduceLE, ↓reduceIte, reduceCtorEq, Nat.reduceEqDiff, Nat.reduceLeDiff, Nat.reduceAdd, Nat.reduceMul, Nat.reduceSub, Nat.reduceLT, z0, z8, z2, exTwo, Int.cast_ofNat_Int]; repeat' (first | exact Ok.out | with_reducible refine And.intro ?_ ?_ | (simp; done)))
 | (cases h; replace h := hr; clear hr; (try simp only [bs, ↓reduceIte] at h))
 | (cases h; done))

end Go.Abs

/-! MirMay -/

namespace Go.Abs

/-- Letters and digits alone. -/
def nameT : Str → Bool
  | [] => true
  | c :: r => if !(isL c) && !(isD c) then false else nameT r
def isName : Str → Bool
  | [] => false
  | c :: r => if decide (((r.length + 1 : Nat) : Int) > 8) || !(isL c) then false else if nameT r then !(isWord (c :: r)) else false

def arityI (op : Int) : Int := if op == 1 || op == 2 then 0 else if op == 3 || op == 4 then 1 else if decide (op ≥ 5) && decide (op ≤ 17) then 2 else -1

mutual
/-- Each expression by itself. -/
def Ex.form : Ex → Bool
  | ⟨op, n, name, kids⟩ =>
    if arityI op != (kids.length : Int) || (op != 1 && n != 0) || decide (n < 0) || !((op == 2) == !(name == [])) || (!(name == []) && !(isName name)) then false else Ex.forms kids
def Ex.forms : List Ex → Bool
  | [] => true
  | x :: l => if !(Ex.form x) then false else Ex.forms l
end
mutual
/-- Its names are texts. -/
def Ex.texts : Ex → Prop
  | ⟨_, _, name, kids⟩ => name.length < 4611686018427387904 ∧ Ex.textss kids
def Ex.textss : List Ex → Prop
  | [] => True
  | x :: l => x.texts ∧ Ex.textss l
end
theorem Ex.textss_mem {x : Ex} : ∀ {l : List Ex}, Ex.textss l → x ∈ l → x.texts
  | y :: l, h, m => by
    rcases List.mem_cons.1 m with rfl | m
    · exact h.1
    · exact Ex.textss_mem h.2 m
theorem Ex.texts_mem {op n : Int} {name : Str} {kids : List Ex} (h : Ex.texts ⟨op, n, name, kids⟩) {y : Ex} (m : y ∈ kids) : y.texts := Ex.textss_mem h.2 m
def Ex.may (x : Ex) : Bool := decide (((min x.depth 21 : Nat) : Int) ≤ 20) && x.form
def Ex.none (x : Ex) : Bool := x.op == 0 && x.n == 0 && x.name == [] && (x.kids.length : Int) == 0
def mayNames : List Str → Bool
  | [] => true
  | s :: l => if !(isName s) then false else mayNames l
def Ar.may (a : Ar) : Bool := if a.ref then isName a.name && a.x.none else a.name == [] && a.x.may
def Ar.mays : List Ar → Bool
  | [] => true
  | a :: l => if !(a.may) then false else Ar.mays l

def Sm.hasX (s : Sm) : Bool := s.kind == 1 || s.kind == 3 || s.kind == 5 || s.kind == 6 || (s.kind == 9 && s.has)
def Sm.hasName (s : Sm) : Bool := s.kind == 1 || s.kind == 2 || s.kind == 10
def Sm.isCall (s : Sm) : Bool := s.kind == 4
/-- A statement, but for what stands in it. -/
def Sm.one (s : Sm) : Bool :=
  if decide (s.kind < 1) || decide (s.kind > 10) || !(mayNames s.labels) || (s.hasX && !(s.x.may)) || (!(s.hasX) && !(s.x.none)) || (s.has && s.kind != 9) then false
  else if (s.hasName && !(isName s.name)) || (!(s.hasName) && !(s.name == []) && !(s.isCall && isName s.name)) then false
  else if !(s.isCall == !(s.proc == [])) || (s.isCall && !(isName s.proc)) || (!(s.isCall) && decide ((s.args.length : Int) > 0)) then false
  else if !(Ar.mays s.args) then false
  else ((s.thn.length : Int) == 0 || s.kind == 5 || s.kind == 6) && ((s.els.length : Int) == 0 || s.kind == 5)

/-- A statement, how deep it stands, in whom, in whose else. -/
structure It where
  s : Sm
  deep : Int
  inn : Int
  els : Bool

mutual
/-- A row's statements in the order of their ids, up to some more than may be. -/
def flatS (deep inn : Int) (els : Bool) (out : List It) : Sm → List It
  | ⟨id, kind, labels, name, proc, x, has, args, thn, e⟩ =>
    if decide (deep ≤ 12) then flatL (deep + 1) id true (flatL (deep + 1) id false (out ++ [⟨⟨id, kind, labels, name, proc, x, has, args, thn, e⟩, deep, inn, els⟩]) thn) e
    else out ++ [⟨⟨id, kind, labels, name, proc, x, has, args, thn, e⟩, deep, inn, els⟩]
def flatL (deep inn : Int) (els : Bool) (out : List It) : List Sm → List It
  | [] => out
  | s :: l => if decide ((out.length : Int) ≤ 200) then flatL deep inn els (flatS deep inn els out s) l else out
end
def Pc.flat (f : Pc) : List It := flatL 1 0 false [] f.body
def allM (out : List It) : List Pc → List It
  | [] => out
  | f :: l => if decide (((out ++ f.flat).length : Int) > 200) then out ++ f.flat else allM (out ++ f.flat) l
def Pg.all (p : Pg) : List It := allM [] p.procs

def Pm.mays : List Pm → Bool
  | [] => true
  | a :: l => if !(isName a.name) then false else Pm.mays l
def Pc.heads : List Pc → Bool
  | [] => true
  | f :: l =>
    if !(isName f.name) || decide ((f.params.length : Int) > 8) || decide ((f.vars.length : Int) > 16) || !(mayNames f.vars) || !(mayNames f.fin) then false
    else if !(Pm.mays f.params) then false else Pc.heads l
def It.mays (n : Nat) : List It → Bool
  | [] => true
  | i :: l => if i.s.id != ((n + 1 : Nat) : Int) || decide (i.deep > 12) || !(i.s.one) then false else It.mays (n + 1) l
/-- May the program be? -/
def Pg.may (p : Pg) : Bool :=
  if decide ((p.globals.length : Int) > 16) || decide ((p.procs.length : Int) > 16) || !(mayNames p.globals) then false
  else if !(Pc.heads p.procs) then false
  else if decide ((p.all.length : Int) > 200) then false else It.mays 0 p.all

end Go.Abs

/-! RefLex1 -/

namespace Go.Abs

set_option maxRecDepth 8000
set_option linter.unusedSimpArgs false
set_option linter.unusedVariables false
open Go.Proofs

theorem Rsmall_s (c : UInt8) (s : St) : Fun Try.prog n_ref1_small [.int .u8 (c.toNat : Int)] s (.bool (isL c)) s := by
  refine Fun.pure ?_ rfl rfl s
  generalize h : isL c = b
  unfold isL at h
  unfold S0
  refine Fun.go has_ref1_small rfl fun B Q hB hQ => ?_
  have hlt : 0 < 1 := Nat.zero_lt_one
  have hget : 0 < 1 := Nat.zero_lt_one
  have hpu : 0 < 1 := Nat.zero_lt_one
  have hinc : 0 < 1 := Nat.zero_lt_one
  repeat' (first
 | simp only [go_sem, hlt, hget, hpu, hinc, Int.reduceLE, ↓reduceIte, reduceCtorEq, Nat.reduceEqDiff, Nat.reduceLeDiff, Nat.reduceAdd, Nat.reduceMul, Nat.reduceSub, Nat.reduceLT]
 | (with_reducible first | refine CB_ofT (by assumption) fun hc => ?_ | refine CB_ofF (by assumption) fun hc => ?_ | refine CB_split (fun hc => ?_) fun hc => ?_) <;> (try simp only [hc, bs, ↓reduceIte] at h) <;> (try simp only [hc])
 | ((with_reducible first | refine leafR hQ ?_ | refine leafN hQ ?_); (try cases h); simp only [resL, oneD, Option.some.injEq, exists_eq_left', go_sem, hlt, hget, hpu, hinc, Int.reduceLE, ↓reduceIte, reduceCtorEq, Nat.reduceEqDiff, Nat.reduceLeDiff, Nat.reduceAdd, Nat.reduceMul, Nat.reduceSub, Nat.reduceLT]; repeat' (first | exact Ok.out | with_reducible refine And.intro ?_ ?_ | (simp; done)))
 | (cases h; replace h := hr; clear hr; (try simp only [bs, ↓reduceIte] at h))
 | (cases h; done))

theorem Rdigit_s (c : UInt8) (s : St) : Fun Try.prog n_ref1_digit [.int .u8 (c.toNat : Int)] s (.bool (isD c)) s := by
  refine Fun.pure ?_ rfl rfl s
  generalize h : isD c = b
  unfold isD at h
  unfold S0
  refine Fun.go has_ref1_digit rfl fun B Q hB hQ => ?_
  have hlt : 0 < 1 := Nat.zero_lt_one
  have hget : 0 < 1 := Nat.zero_lt_one
  have hpu : 0 < 1 := Nat.zero_lt_one
  have hinc : 0 < 1 := Nat.zero_lt_one
  repeat' (first
 | simp only [go_sem, hlt, hget, hpu, hinc, Int.reduceLE, ↓reduceIte, reduceCtorEq, Nat.reduceEqDiff, Nat.reduceLeDiff, Nat.reduceAdd, Nat.reduceMul, Nat.reduceSub, Nat.reduceLT]
 | (with_reducible first | refine CB_ofT (by assumption) fun hc => ?_ | refine CB_ofF (by assumption) fun hc => ?_ | refine CB_split (fun hc => ?_) fun hc => ?_) <;> (try simp only [hc, bs, ↓reduceIte] at h) <;> (try simp only [hc])
 | ((with_reducible first | refine leafR hQ ?_ | refine leafN hQ ?_); (try cases h); simp only [resL, oneD, Option.some.injEq, exists_eq_left', go_sem, hlt, hget, hpu, hinc, Int.reduceLE, ↓reduceIte, reduceCtorEq, Nat.reduceEqDiff, Nat.reduceLeDiff, Nat.reduceAdd, Nat.reduceMul, Nat.reduceSub, Nat.reduceLT]; repeat' (first | exact Ok.out | with_reducible refine And.intro ?_ ?_ | (simp; done)))
 | (cases h; replace h := hr; clear hr; (try simp only [bs, ↓reduceIte] at h))
 | (cases h; done))

theorem Words_s (s : St) : Fun Try.prog n_ref1_Words [] s (.slice .shared 1 [[.str [103, 108, 111, 98, 97, 108]], [.str [112, 114, 111, 99]], [.str [118, 97, 114]], [.str [114, 101, 102]], [.str [105, 102]], [.str [101, 108, 115, 101]], [.str [119, 104, 105, 108, 101]], [.str [98, 114, 101, 97, 107]], [.str [99, 111, 110, 116, 105, 110, 117, 101]], [.str [114, 101, 116, 117, 114, 110]], [.str [103, 111, 116, 111]], [.str [114, 101, 97, 100]], [.str [112, 114, 105, 110, 116]]]) s := by
  refine Fun.pure ?_ rfl rfl s
  unfold S0
  refine Fun.go has_ref1_Words rfl fun B Q hB hQ => ?_
  have hlt : 0 < 1 := Nat.zero_lt_one
  have hget : 0 < 1 := Nat.zero_lt_one
  have hpu : 0 < 1 := Nat.zero_lt_one
  have hinc : 0 < 1 := Nat.zero_lt_one
  repeat' (first
 | simp only [go_sem, hlt, hget, hpu, hinc, Int.reduceLE, ↓reduceIte, reduceCtorEq, Nat.reduceEqDiff, Nat.reduceLeDiff, Nat.reduceAdd, Nat.reduceMul, Nat.reduceSub, Nat.reduceLT]
 | (with_reducible first | refine CB_ofT (by assumption) fun hc => ?_ | refine CB_ofF (by assumption) fun hc => ?_ | refine CB_split (fun hc => ?_) fun hc => ?_) <;> (try simp only [hc, bs, ↓reduceIte] at h) <;> (try simp only [hc])
 | ((with_reducible first | refine leafR hQ ?_ | refine leafN hQ ?_); (try cases h); simp only [resL, oneD, Option.some.injEq, exists_eq_left', go_sem, hlt, hget, hpu, hinc, Int.reduceLE, ↓reduceIte, reduceCtorEq, Nat.reduceEqDiff, Nat.reduceLeDiff, Nat.reduceAdd, Nat.reduceMul, Nat.reduceSub, Nat.reduceLT]; repeat' (first | exact Ok.out | with_reducible refine And.intro ?_ ?_ | (simp; done)))
 | (cases h; replace h := hr; clear hr; (try simp only [bs, ↓reduceIte] at h))
 | (cases h; done))

def isWordR (s : Str) : Bool :=
  [103, 108, 111, 98, 97, 108] == s || [112, 114, 111, 99] == s || [118, 97, 114] == s || [114, 101, 102] == s || [105, 102] == s || [101, 108, 115, 101] == s || [119, 104, 105, 108, 101] == s || [98, 114, 101, 97, 107] == s || [99, 111, 110, 116, 105, 110, 117, 101] == s || [114, 101, 116, 117, 114, 110] == s || [103, 111, 116, 111] == s || [114, 101, 97, 100] == s || [112, 114, 105, 110, 116] == s
theorem isWordR_eq (s : Str) : isWordR s = isWord s := by
  have e : ∀ a : Str, (a == s) = (s == a) := fun a => BEq.comm
  simp only [isWordR, isWord, e]

theorem RWord_s (text : Str) (s : St) : Fun Try.prog n_ref1_Word [.str text] s (.bool (isWord text)) s := by
  refine Fun.pure ?_ rfl rfl s
  rw [← isWordR_eq]
  generalize h : isWordR text = p
  unfold isWordR at h
  unfold S0
  refine Fun.go has_ref1_Word rfl fun B Q hB hQ => ?_
  have hlt : 0 < 1 := Nat.zero_lt_one
  have hget : 0 < 1 := Nat.zero_lt_one
  have hpu : 0 < 1 := Nat.zero_lt_one
  have hinc : 0 < 1 := Nat.zero_lt_one
  repeat' (first
 | simp only [go_sem, hlt, hget, hpu, hinc, Int.reduceLE, ↓reduceIte, reduceCtorEq, Nat.reduceEqDiff, Nat.reduceLeDiff, Nat.reduceAdd, Nat.reduceMul, Nat.reduceSub, Nat.reduceLT, Int.cast_ofNat_Int, wrap_ok, Int.reduceAdd, Int.reduceLT, Int.reduceNeg, decide_true, decide_false, Int.reduceToNat]
 | (with_reducible refine CU (Words_s _) ?_)
 | (with_reducible refine SemL.onceW ?_)
 | (with_reducible first | refine CB_ofT (by assumption) fun hc => ?_ | refine CB_ofF (by assumption) fun hc => ?_ | refine CB_split (fun hc => ?_) fun hc => ?_) <;> (try simp only [hc, bs, ↓reduceIte] at h) <;> (try simp only [hc])
 | ((with_reducible first | refine leafR hQ ?_ | refine leafN hQ ?_); (try cases h); simp only [resL, oneD, Option.some.injEq, exists_eq_left', go_sem, hlt, hget, hpu, hinc, Int.reduceLE, ↓reduceIte, reduceCtorEq, Nat.reduceEqDiff, Nat.reduceLeDiff, Nat.reduceAdd, Nat.reduceMul, Nat.reduceSub, Nat.reduceLT, Int.cast_ofNat_Int, wrap_ok, Int.reduceAdd, Int.reduceLT, Int.reduceNeg, decide_true, decide_false, Int.reduceToNat]; repeat' (first | exact Ok.out | with_reducible refine And.intro ?_ ?_ | (simp; done)))
 | (cases h; replace h := hr; clear hr; (try simp only [bs, ↓reduceIte] at h))
 | (cases h; done))

end Go.Abs

/-! RefMay1 -/

namespace Go.Abs

set_option maxRecDepth 8000
set_option linter.unusedSimpArgs false
set_option linter.unusedVariables false
open Go.Proofs

theorem RName_s (text : Str) (hl : text.length < 4611686018427387904) (s : St) : Fun Try.prog n_ref1_Name [.str text] s (.bool (isName text)) s := by
  refine Fun.pure ?_ rfl rfl s
  unfold S0
  cases text with
  | nil =>
    have e : (([] : Str) == []) = true := rfl
    refine Fun.go has_ref1_Name rfl fun B Q hB hQ => ?_
    have hlt : 0 < 1 := Nat.zero_lt_one
    have hget : 0 < 1 := Nat.zero_lt_one
    have hpu : 0 < 1 := Nat.zero_lt_one
    have hinc : 0 < 1 := Nat.zero_lt_one
    repeat' (first
 | simp only [go_sem, hlt, hget, hpu, hinc, Int.reduceLE, ↓reduceIte, reduceCtorEq, Nat.reduceEqDiff, Nat.reduceLeDiff, Nat.reduceAdd, Nat.reduceMul, Nat.reduceSub, Nat.reduceLT, e, isName]
 | (with_reducible first | refine CB_ofT (by assumption) fun hc => ?_ | refine CB_ofF (by assumption) fun hc => ?_ | refine CB_split (fun hc => ?_) fun hc => ?_) <;> (try simp only [hc, bs, ↓reduceIte] at h) <;> (try simp only [hc])
 | ((with_reducible first | refine leafR hQ ?_ | refine leafN hQ ?_); (try cases h); simp only [resL, oneD, Option.some.injEq, exists_eq_left', go_sem, hlt, hget, hpu, hinc, Int.reduceLE, ↓reduceIte, reduceCtorEq, Nat.reduceEqDiff, Nat.reduceLeDiff, Nat.reduceAdd, Nat.reduceMul, Nat.reduceSub, Nat.reduceLT, e, isName]; repeat' (first | exact Ok.out | with_reducible refine And.intro ?_ ?_ | (simp; done)))
 | (cases h; replace h := hr; clear hr; (try simp only [bs, ↓reduceIte] at h))
 | (cases h; done))
  | cons c r =>
    have e : ((c :: r) == []) = false := rfl
    generalize h : isName (c :: r) = p
    simp only [isName] at h
    refine Fun.go has_ref1_Name rfl fun B Q hB hQ => ?_
    have hlt : 0 < 1 := Nat.zero_lt_one
    have hget : 0 < 1 := Nat.zero_lt_one
    have hpu : 0 < 1 := Nat.zero_lt_one
    have hinc : 0 < 1 := Nat.zero_lt_one
    repeat' (first
 | simp only [go_sem, hlt, hget, hpu, hinc, Int.reduceLE, ↓reduceIte, reduceCtorEq, Nat.reduceEqDiff, Nat.reduceLeDiff, Nat.reduceAdd, Nat.reduceMul, Nat.reduceSub, Nat.reduceLT, e]
 | (with_reducible refine CU (Rsmall_s _ _) ?_)
 | (with_reducible first | refine CB_ofT (by assumption) fun hc => ?_ | refine CB_ofF (by assumption) fun hc => ?_ | refine CB_split (fun hc => ?_) fun hc => ?_) <;> (try simp only [hc, bs, ↓reduceIte] at h) <;> (try simp only [hc])
 | ((with_reducible first | refine leafR hQ ?_ | refine leafN hQ ?_); (try cases h); simp only [resL, oneD, Option.some.injEq, exists_eq_left', go_sem, hlt, hget, hpu, hinc, Int.reduceLE, ↓reduceIte, reduceCtorEq, Nat.reduceEqDiff, Nat.reduceLeDiff, Nat.reduceAdd, Nat.reduceMul, Nat.reduceSub, Nat.reduceLT, e]; repeat' (first | exact Ok.out | with_reducible refine And.intro ?_ ?_ | (simp; done)))
 | (cases h; replace h := hr; clear hr; (try simp only [bs, ↓reduceIte] at h))
 | (cases h; done))
    refine SemL.re _ _ 0 0 (by rw [hB]; exact Nat.le_of_ble_eq_true rfl) (by rw [hB]; exact Nat.le_of_ble_eq_true rfl) ?_ ?_ (SemL.ind (ι := Str × Nat) (fun i => (c :: r).drop i.2 = i.1 ∧ (if nameT i.1 then !(isWord (c :: r)) else false) = p) (fun i => i.1.length)
      (fun i => [(0, .str (c :: r)), (3, .int .i64 (i.2 : Int))]) (fun i => ⟨[], []⟩) ?_ (r, 1) ⟨rfl, h⟩)
    · (simp only [go_sem, hlt, hget, hpu, hinc, Int.reduceLE, ↓reduceIte, reduceCtorEq, Nat.reduceEqDiff, Nat.reduceLeDiff, Nat.reduceAdd, Nat.reduceMul, Nat.reduceSub, Nat.reduceLT]; repeat' (first | exact Ok.out | with_reducible refine And.intro ?_ ?_))
    · (simp only [go_sem, hlt, hget, hpu, hinc, Int.reduceLE, ↓reduceIte, reduceCtorEq, Nat.reduceEqDiff, Nat.reduceLeDiff, Nat.reduceAdd, Nat.reduceMul, Nat.reduceSub, Nat.reduceLT]; repeat' (first | exact Ok.out | with_reducible refine And.intro ?_ ?_))
    rintro ⟨rest, k⟩ ⟨h1, h⟩ IH
    dsimp only at h1 h
    cases rest with
    | nil =>
      have hlt := drop_nil h1
      simp only [List.length_cons] at hlt
      simp only [nameT, ↓reduceIte] at h
      repeat' (first
 | simp only [go_sem, hlt, hget, hpu, hinc, Int.reduceLE, ↓reduceIte, reduceCtorEq, Nat.reduceEqDiff, Nat.reduceLeDiff, Nat.reduceAdd, Nat.reduceMul, Nat.reduceSub, Nat.reduceLT]
 | (with_reducible refine CU (RWord_s _ _) ?_)
 | (with_reducible first | refine CB_ofT (by assumption) fun hc => ?_ | refine CB_ofF (by assumption) fun hc => ?_ | refine CB_split (fun hc => ?_) fun hc => ?_) <;> (try simp only [hc, bs, ↓reduceIte] at h) <;> (try simp only [hc])
 | ((with_reducible first | refine leafR hQ ?_ | refine leafN hQ ?_); (try cases h); simp only [resL, oneD, Option.some.injEq, exists_eq_left', go_sem, hlt, hget, hpu, hinc, Int.reduceLE, ↓reduceIte, reduceCtorEq, Nat.reduceEqDiff, Nat.reduceLeDiff, Nat.reduceAdd, Nat.reduceMul, Nat.reduceSub, Nat.reduceLT]; repeat' (first | exact Ok.out | with_reducible refine And.intro ?_ ?_ | (simp; done)))
 | (cases h; replace h := hr; clear hr; (try simp only [bs, ↓reduceIte] at h))
 | (cases h; done))
    | cons d rest =>
      obtain ⟨hget, g2, hlt, g4⟩ := drop_cons h1
      simp only [List.length_cons] at hlt
      have hpu : k < 4611686018427387904 := by omega
      simp only [nameT] at h
      repeat' (first
 | simp only [go_sem, hlt, hget, hpu, hinc, Int.reduceLE, ↓reduceIte, reduceCtorEq, Nat.reduceEqDiff, Nat.reduceLeDiff, Nat.reduceAdd, Nat.reduceMul, Nat.reduceSub, Nat.reduceLT]
 | (with_reducible refine CU (Rsmall_s _ _) ?_)
 | (with_reducible refine CU (Rdigit_s _ _) ?_)
 | (with_reducible first | refine CB_ofT (by assumption) fun hc => ?_ | refine CB_ofF (by assumption) fun hc => ?_ | refine CB_split (fun hc => ?_) fun hc => ?_) <;> (try simp only [hc, bs, ↓reduceIte] at h) <;> (try simp only [hc])
 | ((with_reducible first | refine leafR hQ ?_ | refine leafN hQ ?_); (try cases h); simp only [resL, oneD, Option.some.injEq, exists_eq_left', go_sem, hlt, hget, hpu, hinc, Int.reduceLE, ↓reduceIte, reduceCtorEq, Nat.reduceEqDiff, Nat.reduceLeDiff, Nat.reduceAdd, Nat.reduceMul, Nat.reduceSub, Nat.reduceLT]; repeat' (first | exact Ok.out | with_reducible refine And.intro ?_ ?_ | (simp; done)))
 | (cases h; replace h := hr; clear hr; (try simp only [bs, ↓reduceIte] at h))
 | (cases h; done))
      all_goals
        refine SemL.re _ _ 0 0 (by rw [hB]; exact Nat.le_of_ble_eq_true rfl) (by rw [hB]; exact Nat.le_of_ble_eq_true rfl) ?_ ?_ (IH (rest, k + 1) ⟨g2, h⟩ (Nat.lt_succ_self _))
        · (simp only [go_sem, hlt, hget, hpu, hinc, Int.reduceLE, ↓reduceIte, reduceCtorEq, Nat.reduceEqDiff, Nat.reduceLeDiff, Nat.reduceAdd, Nat.reduceMul, Nat.reduceSub, Nat.reduceLT]; repeat' (first | exact Ok.out | with_reducible refine And.intro ?_ ?_))
        · (simp only [go_sem, hlt, hget, hpu, hinc, Int.reduceLE, ↓reduceIte, reduceCtorEq, Nat.reduceEqDiff, Nat.reduceLeDiff, Nat.reduceAdd, Nat.reduceMul, Nat.reduceSub, Nat.reduceLT]; repeat' (first | exact Ok.out | with_reducible refine And.intro ?_ ?_))

theorem Arity_s (op : Int) (s : St) : Fun Try.prog n_ref3_Arity [.int .i64 op] s (.int .i64 (arityI op)) s := by
  refine Fun.pure ?_ rfl rfl s
  unfold S0
  generalize h : arityI op = p
  unfold arityI at h
  refine Fun.go has_ref3_Arity rfl fun B Q hB hQ => ?_
  have hlt : 0 < 1 := Nat.zero_lt_one
  have hget : 0 < 1 := Nat.zero_lt_one
  have hpu : 0 < 1 := Nat.zero_lt_one
  have hinc : 0 < 1 := Nat.zero_lt_one
  repeat' (first
 | simp only [go_sem, hlt, hget, hpu, hinc, Int.reduceLE, ↓reduceIte, reduceCtorEq, Nat.reduceEqDiff, Nat.reduceLeDiff, Nat.reduceAdd, Nat.reduceMul, Nat.reduceSub, Nat.reduceLT]
 | (with_reducible first | refine CB_ofT (by assumption) fun hc => ?_ | refine CB_ofF (by assumption) fun hc => ?_ | refine CB_split (fun hc => ?_) fun hc => ?_) <;> (try simp only [hc, bs, ↓reduceIte] at h) <;> (try simp only [hc])
 | ((with_reducible first | refine leafR hQ ?_ | refine leafN hQ ?_); (try cases h); simp only [resL, oneD, Option.some.injEq, exists_eq_left', go_sem, hlt, hget, hpu, hinc, Int.reduceLE, ↓reduceIte, reduceCtorEq, Nat.reduceEqDiff, Nat.reduceLeDiff, Nat.reduceAdd, Nat.reduceMul, Nat.reduceSub, Nat.reduceLT]; repeat' (first | exact Ok.out | with_reducible refine And.intro ?_ ?_ | (simp; done)))
 | (cases h; replace h := hr; clear hr; (try simp only [bs, ↓reduceIte] at h))
 | (cases h; done))

theorem form_n : ∀ (n : Nat) (x : Ex), x.size ≤ n → x.size < 4611686018427387904 → x.texts → ∀ s : St, Fun Try.prog n_ref3_form [.agg (encEx x)] s (.bool x.form) s := by
  intro n
  induction n with
  | zero => rintro ⟨op, m, name, kids⟩ h; simp only [Ex.size] at h; omega
  | succ n ih =>
    rintro ⟨op, m, name, kids⟩ h hx ht s
    refine Fun.pure ?_ (by simp [D.oks, D.ok, okEx]) rfl s
    have hlen : kids.length < 4611686018427387904 := by simp only [Ex.size] at hx; have := Ex.sizes_len kids; omega
    have hk : ∀ y ∈ kids, ∀ s, Fun Try.prog n_ref3_form [.agg (encEx y)] s (.bool y.form) s := fun y hy s =>
      ih y (by simp only [Ex.size] at h; have := Ex.sizes_mem hy; omega) (by simp only [Ex.size] at hx; have := Ex.sizes_mem hy; omega) (Ex.texts_mem ht hy) s
    have hn := RName_s name ht.1
    unfold S0
    generalize h : Ex.form ⟨op, m, name, kids⟩ = p
    simp only [Ex.form] at h
    refine Fun.go has_ref3_form rfl fun B Q hB hQ => ?_
    have hlt : 0 < 1 := Nat.zero_lt_one
    have hget : 0 < 1 := Nat.zero_lt_one
    have hpu : 0 < 1 := Nat.zero_lt_one
    have hinc : 0 < 1 := Nat.zero_lt_one
    repeat' (first
 | simp only [go_sem, hlt, hget, hpu, hinc, Int.reduceLE, ↓reduceIte, reduceCtorEq, Nat.reduceEqDiff, Nat.reduceLeDiff, Nat.reduceAdd, Nat.reduceMul, Nat.reduceSub, Nat.reduceLT]
 | (with_reducible refine CU (Arity_s _ _) ?_)
 | (with_reducible refine CU (hn _) ?_)
 | (with_reducible first | refine CB_ofT (by assumption) fun hc => ?_ | refine CB_ofF (by assumption) fun hc => ?_ | refine CB_split (fun hc => ?_) fun hc => ?_) <;> (try simp only [hc, bs, ↓reduceIte] at h) <;> (try simp only [hc])
 | ((with_reducible first | refine leafR hQ ?_ | refine leafN hQ ?_); (try cases h); simp only [resL, oneD, Option.some.injEq, exists_eq_left', go_sem, hlt, hget, hpu, hinc, Int.reduceLE, ↓reduceIte, reduceCtorEq, Nat.reduceEqDiff, Nat.reduceLeDiff, Nat.reduceAdd, Nat.reduceMul, Nat.reduceSub, Nat.reduceLT]; repeat' (first | exact Ok.out | with_reducible refine And.intro ?_ ?_ | (simp; done)))
 | (cases h; replace h := hr; clear hr; (try simp only [bs, ↓reduceIte] at h))
 | (cases h; done))
    all_goals
      refine SemL.re _ _ 1 0 (by rw [hB]; exact Nat.le_of_ble_eq_true rfl) (by rw [hB]; exact Nat.le_of_ble_eq_true rfl) ?_ ?_ (SemL.ind (ι := List Ex × Nat) (fun i => kids.drop i.2 = i.1 ∧ Ex.forms i.1 = p) (fun i => i.1.length)
        (fun i => [(1, .ptr 0 0), (48, .int .i64 (kids.length : Int)), (49, .int .i64 (i.2 : Int))]) (fun i => ⟨[encEx ⟨op, m, name, kids⟩], []⟩) ?_ (kids, 0) ⟨rfl, h⟩)
      · (simp only [go_sem, hlt, hget, hpu, hinc, Int.reduceLE, ↓reduceIte, reduceCtorEq, Nat.reduceEqDiff, Nat.reduceLeDiff, Nat.reduceAdd, Nat.reduceMul, Nat.reduceSub, Nat.reduceLT]; repeat' (first | exact Ok.out | with_reducible refine And.intro ?_ ?_))
      · (simp only [go_sem, hlt, hget, hpu, hinc, Int.reduceLE, ↓reduceIte, reduceCtorEq, Nat.reduceEqDiff, Nat.reduceLeDiff, Nat.reduceAdd, Nat.reduceMul, Nat.reduceSub, Nat.reduceLT]; repeat' (first | exact Ok.out | with_reducible refine And.intro ?_ ?_))
      rintro ⟨rest, k⟩ ⟨h1, h⟩ IH
      dsimp only at h1 h
      cases rest with
      | nil =>
        have hlt := drop_nil h1
        simp only [Ex.forms] at h
        repeat' (first
 | simp only [go_sem, hlt, hget, hpu, hinc, Int.reduceLE, ↓reduceIte, reduceCtorEq, Nat.reduceEqDiff, Nat.reduceLeDiff, Nat.reduceAdd, Nat.reduceMul, Nat.reduceSub, Nat.reduceLT]
 | (with_reducible first | refine CB_ofT (by assumption) fun hc => ?_ | refine CB_ofF (by assumption) fun hc => ?_ | refine CB_split (fun hc => ?_) fun hc => ?_) <;> (try simp only [hc, bs, ↓reduceIte] at h) <;> (try simp only [hc])
 | ((with_reducible first | refine leafR hQ ?_ | refine leafN hQ ?_); (try cases h); simp only [resL, oneD, Option.some.injEq, exists_eq_left', go_sem, hlt, hget, hpu, hinc, Int.reduceLE, ↓reduceIte, reduceCtorEq, Nat.reduceEqDiff, Nat.reduceLeDiff, Nat.reduceAdd, Nat.reduceMul, Nat.reduceSub, Nat.reduceLT]; repeat' (first | exact Ok.out | with_reducible refine And.intro ?_ ?_ | (simp; done)))
 | (cases h; replace h := hr; clear hr; (try simp only [bs, ↓reduceIte] at h))
 | (cases h; done))
      | cons y rest =>
        obtain ⟨hget, g2, hlt, g4⟩ := drop_cons h1
        have hy := hk y (List.mem_of_getElem? hget)
        have hpu : k < 4611686018427387904 := by omega
        simp only [Ex.forms] at h
        repeat' (first
 | simp only [go_sem, hlt, hget, hpu, hinc, Int.reduceLE, ↓reduceIte, reduceCtorEq, Nat.reduceEqDiff, Nat.reduceLeDiff, Nat.reduceAdd, Nat.reduceMul, Nat.reduceSub, Nat.reduceLT]
 | (with_reducible refine CU (hy _) ?_)
 | (with_reducible first | refine CB_ofT (by assumption) fun hc => ?_ | refine CB_ofF (by assumption) fun hc => ?_ | refine CB_split (fun hc => ?_) fun hc => ?_) <;> (try simp only [hc, bs, ↓reduceIte] at h) <;> (try simp only [hc])
 | ((with_reducible first | refine leafR hQ ?_ | refine leafN hQ ?_); (try cases h); simp only [resL, oneD, Option.some.injEq, exists_eq_left', go_sem, hlt, hget, hpu, hinc, Int.reduceLE, ↓reduceIte, reduceCtorEq, Nat.reduceEqDiff, Nat.reduceLeDiff, Nat.reduceAdd, Nat.reduceMul, Nat.reduceSub, Nat.reduceLT]; repeat' (first | exact Ok.out | with_reducible refine And.intro ?_ ?_ | (simp; done)))
 | (cases h; replace h := hr; clear hr; (try simp only [bs, ↓reduceIte] at h))
 | (cases h; done))
        refine SemL.re _ _ 1 0 (by rw [hB]; exact Nat.le_of_ble_eq_true rfl) (by rw [hB]; exact Nat.le_of_ble_eq_true rfl) ?_ ?_ (IH (rest, k + 1) ⟨g2, h⟩ (Nat.lt_succ_self _))
        · (simp only [go_sem, hlt, hget, hpu, hinc, Int.reduceLE, ↓reduceIte, reduceCtorEq, Nat.reduceEqDiff, Nat.reduceLeDiff, Nat.reduceAdd, Nat.reduceMul, Nat.reduceSub, Nat.reduceLT]; repeat' (first | exact Ok.out | with_reducible refine And.intro ?_ ?_))
        · (simp only [go_sem, hlt, hget, hpu, hinc, Int.reduceLE, ↓reduceIte, reduceCtorEq, Nat.reduceEqDiff, Nat.reduceLeDiff, Nat.reduceAdd, Nat.reduceMul, Nat.reduceSub, Nat.reduceLT]; repeat' (first | exact Ok.out | with_reducible refine And.intro ?_ ?_))

theorem MayExpr_s {x : Ex} (hx : x.size < 4611686018427387904) (ht : x.texts) (s : St) : Fun Try.prog n_ref3_MayExpr [.agg (encEx x)] s (.bool x.may) s := by
  refine Fun.pure ?_ (by simp [D.oks, D.ok, okEx]) rfl s
  have hd := fun s => deep_n 20 (by decide) x hx s
  have c20 : ((20 : Nat) : Int) = 20 := rfl
  rw [c20] at hd
  have hf := form_n _ x (Nat.le_refl _) hx ht
  unfold S0
  generalize h : Ex.may x = p
  unfold Ex.may at h
  refine Fun.go has_ref3_MayExpr rfl fun B Q hB hQ => ?_
  have hlt : 0 < 1 := Nat.zero_lt_one
  have hget : 0 < 1 := Nat.zero_lt_one
  have hpu : 0 < 1 := Nat.zero_lt_one
  have hinc : 0 < 1 := Nat.zero_lt_one
  repeat' (first
 | simp only [go_sem, hlt, hget, hpu, hinc, Int.reduceLE, ↓reduceIte, reduceCtorEq, Nat.reduceEqDiff, Nat.reduceLeDiff, Nat.reduceAdd, Nat.reduceMul, Nat.reduceSub, Nat.reduceLT]
 | (with_reducible refine CU (hd _) ?_)
 | (with_reducible refine CU (hf _) ?_)
 | (with_reducible first | refine CB_ofT (by assumption) fun hc => ?_ | refine CB_ofF (by assumption) fun hc => ?_ | refine CB_split (fun hc => ?_) fun hc => ?_) <;> (try simp only [hc, bs, ↓reduceIte] at h) <;> (try simp only [hc])
 | ((with_reducible first | refine leafR hQ ?_ | refine leafN hQ ?_); (try cases h); simp only [resL, oneD, Option.some.injEq, exists_eq_left', go_sem, hlt, hget, hpu, hinc, Int.reduceLE, ↓reduceIte, reduceCtorEq, Nat.reduceEqDiff, Nat.reduceLeDiff, Nat.reduceAdd, Nat.reduceMul, Nat.reduceSub, Nat.reduceLT]; repeat' (first | exact Ok.out | with_reducible refine And.intro ?_ ?_ | (simp; done)))
 | (cases h; replace h := hr; clear hr; (try simp only [bs, ↓reduceIte] at h))
 | (cases h; done))

end Go.Abs

/-! Full1 -/

namespace Go.Abs

set_option maxRecDepth 8000
set_option linter.unusedSimpArgs false
set_option linter.unusedVariables false
open Go.Proofs

def weighT (t : Str) (n : Int) : Int := if n > 20000 then 20001 else if (t.length : Int) ≥ 20000 - n then 20001 else n + 1 + t.length
mutual
def weighE : Ex → Int → Int
  | ⟨_, _, name, kids⟩, n => weighEs kids (weighT name n)
def weighEs : List Ex → Int → Int
  | [], n => n
  | x :: l, n => if n ≤ 20000 then weighEs l (weighE x n) else n
end

theorem weighT_in {t : Str} {n : Int} (h0 : 0 ≤ n) : weighT t n ≤ 20001 ∧ (n ≤ 20000 → n + 1 ≤ weighT t n) ∧ 0 ≤ weighT t n ∧ (weighT t n ≤ 20000 → n + 1 + t.length = weighT t n) := by
  unfold weighT; split
  · omega
  · split <;> omega

theorem weigh_in : ∀ (m : Nat) (x : Ex), x.size ≤ m → ∀ n : Int, 0 ≤ n → weighE x n ≤ 20001 ∧ (n ≤ 20000 → n + 1 ≤ weighE x n) ∧ 0 ≤ weighE x n ∧ (weighE x n ≤ 20000 → (x.size : Int) + 1 ≤ 2 * (weighE x n - n) ∧ x.texts) := by
  intro m
  induction m with
  | zero => rintro ⟨op, v, name, kids⟩ h; simp only [Ex.size] at h; omega
  | succ m ih =>
    rintro ⟨op, v, name, kids⟩ h n h0
    simp only [Ex.size] at h
    obtain ⟨t1, t2, t3, t4⟩ := weighT_in (t := name) h0
    have go : ∀ (l : List Ex), Ex.sizes l ≤ m → ∀ c : Int, 0 ≤ c → c ≤ 20001 → weighEs l c ≤ 20001 ∧ c ≤ weighEs l c ∧ (weighEs l c ≤ 20000 → (Ex.sizes l : Int) ≤ 2 * (weighEs l c - c) ∧ Ex.textss l) := by
      intro l
      induction l with
      | nil => intro _ c h0 h1; simp only [weighEs, Ex.sizes]; exact ⟨h1, Int.le_refl _, fun _ => ⟨by omega, trivial⟩⟩
      | cons y l ihl =>
        intro hs c h0 h1
        simp only [Ex.sizes] at hs ⊢
        simp only [weighEs]
        split
        · rename_i hc
          obtain ⟨a1, a2, a3, a4⟩ := ih y (by omega) c h0
          obtain ⟨b1, b2, b3⟩ := ihl (by omega) (weighE y c) a3 a1
          have := a2 hc
          refine ⟨b1, by omega, fun hw => ?_⟩
          obtain ⟨c1, c2⟩ := b3 hw
          obtain ⟨d1, d2⟩ := a4 (by omega)
          exact ⟨by omega, d2, c2⟩
        · exact ⟨h1, Int.le_refl _, fun hw => by omega⟩
    obtain ⟨g1, g2, g3⟩ := go kids (by omega) (weighT name n) t3 t1
    simp only [weighE, Ex.size]
    refine ⟨g1, fun hn => by have := t2 hn; omega, by omega, fun hw => ?_⟩
    obtain ⟨k1, k2⟩ := g3 hw
    have := t4 (by omega)
    exact ⟨by omega, by omega, k2⟩

theorem weighT_s (t : Str) {n : Int} (h0 : 0 ≤ n) (h1 : n ≤ 20001) (s : St) : Fun Try.prog n_ref3_weighText [.str t, .int .i64 n] s (.int .i64 (weighT t n)) s := by
  refine Fun.pure ?_ rfl rfl s
  unfold S0
  have w1 : IntKind.wrap .i64 (20000 - n) = 20000 - n := wrap_ok (by omega) (by omega)
  have w2 : IntKind.wrap .i64 (n + 1) = n + 1 := wrap_ok (by omega) (by omega)
  by_cases c : n > 20000
  · have c1 : decide (n > 20000) = true := by simp; omega
    have e : weighT t n = 20001 := by simp [weighT, c]
    rw [e]
    refine Fun.go has_ref3_weighText rfl fun B Q hB hQ => ?_
    have hlt : 0 < 1 := Nat.zero_lt_one
    have hget : 0 < 1 := Nat.zero_lt_one
    have hpu : 0 < 1 := Nat.zero_lt_one
    have hinc : 0 < 1 := Nat.zero_lt_one
    repeat' (first
 | simp only [go_sem, hlt, hget, hpu, hinc, Int.reduceLE, ↓reduceIte, reduceCtorEq, Nat.reduceEqDiff, Nat.reduceLeDiff, Nat.reduceAdd, Nat.reduceMul, Nat.reduceSub, Nat.reduceLT, c1, w1, w2]
 | (with_reducible first | refine CB_ofT (by assumption) fun hc => ?_ | refine CB_ofF (by assumption) fun hc => ?_ | refine CB_split (fun hc => ?_) fun hc => ?_) <;> (try simp only [hc, bs, ↓reduceIte] at h) <;> (try simp only [hc])
 | ((with_reducible first | refine leafR hQ ?_ | refine leafN hQ ?_); (try cases h); simp only [resL, oneD, Option.some.injEq, exists_eq_left', go_sem, hlt, hget, hpu, hinc, Int.reduceLE, ↓reduceIte, reduceCtorEq, Nat.reduceEqDiff, Nat.reduceLeDiff, Nat.reduceAdd, Nat.reduceMul, Nat.reduceSub, Nat.reduceLT, c1, w1, w2]; repeat' (first | exact Ok.out | with_reducible refine And.intro ?_ ?_ | (simp; done)))
 | (cases h; replace h := hr; clear hr; (try simp only [bs, ↓reduceIte] at h))
 | (cases h; done))
  · have c1 : decide (n > 20000) = false := by simp; omega
    by_cases d : (t.length : Int) ≥ 20000 - n
    · have d1 : decide ((t.length : Int) ≥ 20000 - n) = true := by simp; omega
      have e : weighT t n = 20001 := by unfold weighT; rw [if_neg c, if_pos d]
      rw [e]
      refine Fun.go has_ref3_weighText rfl fun B Q hB hQ => ?_
      have hlt : 0 < 1 := Nat.zero_lt_one
      have hget : 0 < 1 := Nat.zero_lt_one
      have hpu : 0 < 1 := Nat.zero_lt_one
      have hinc : 0 < 1 := Nat.zero_lt_one
      repeat' (first
 | simp only [go_sem, hlt, hget, hpu, hinc, Int.reduceLE, ↓reduceIte, reduceCtorEq, Nat.reduceEqDiff, Nat.reduceLeDiff, Nat.reduceAdd, Nat.reduceMul, Nat.reduceSub, Nat.reduceLT, c1, d1, w1, w2]
 | (with_reducible first | refine CB_ofT (by assumption) fun hc => ?_ | refine CB_ofF (by assumption) fun hc => ?_ | refine CB_split (fun hc => ?_) fun hc => ?_) <;> (try simp only [hc, bs, ↓reduceIte] at h) <;> (try simp only [hc])
 | ((with_reducible first | refine leafR hQ ?_ | refine leafN hQ ?_); (try cases h); simp only [resL, oneD, Option.some.injEq, exists_eq_left', go_sem, hlt, hget, hpu, hinc, Int.reduceLE, ↓reduceIte, reduceCtorEq, Nat.reduceEqDiff, Nat.reduceLeDiff, Nat.reduceAdd, Nat.reduceMul, Nat.reduceSub, Nat.reduceLT, c1, d1, w1, w2]; repeat' (first | exact Ok.out | with_reducible refine And.intro ?_ ?_ | (simp; done)))
 | (cases h; replace h := hr; clear hr; (try simp only [bs, ↓reduceIte] at h))
 | (cases h; done))
    · have d1 : decide ((t.length : Int) ≥ 20000 - n) = false := by simp; omega
      have e : weighT t n = n + 1 + t.length := by unfold weighT; rw [if_neg c, if_neg d]
      have w3 : IntKind.wrap .i64 (n + 1 + t.length) = n + 1 + t.length := wrap_ok (by omega) (by omega)
      rw [e]
      refine Fun.go has_ref3_weighText rfl fun B Q hB hQ => ?_
      have hlt : 0 < 1 := Nat.zero_lt_one
      have hget : 0 < 1 := Nat.zero_lt_one
      have hpu : 0 < 1 := Nat.zero_lt_one
      have hinc : 0 < 1 := Nat.zero_lt_one
      repeat' (first
 | simp only [go_sem, hlt, hget, hpu, hinc, Int.reduceLE, ↓reduceIte, reduceCtorEq, Nat.reduceEqDiff, Nat.reduceLeDiff, Nat.reduceAdd, Nat.reduceMul, Nat.reduceSub, Nat.reduceLT, c1, d1, w1, w2, w3]
 | (with_reducible first | refine CB_ofT (by assumption) fun hc => ?_ | refine CB_ofF (by assumption) fun hc => ?_ | refine CB_split (fun hc => ?_) fun hc => ?_) <;> (try simp only [hc, bs, ↓reduceIte] at h) <;> (try simp only [hc])
 | ((with_reducible first | refine leafR hQ ?_ | refine leafN hQ ?_); (try cases h); simp only [resL, oneD, Option.some.injEq, exists_eq_left', go_sem, hlt, hget, hpu, hinc, Int.reduceLE, ↓reduceIte, reduceCtorEq, Nat.reduceEqDiff, Nat.reduceLeDiff, Nat.reduceAdd, Nat.reduceMul, Nat.reduceSub, Nat.reduceLT, c1, d1, w1, w2, w3]; repeat' (first | exact Ok.out | with_reducible refine And.intro ?_ ?_ | (simp; done)))
 | (cases h; replace h := hr; clear hr; (try simp only [bs, ↓reduceIte] at h))
 | (cases h; done))

theorem weighE_s : ∀ (m : Nat) (x : Ex), x.size ≤ m → ∀ {n : Int}, 0 ≤ n → n ≤ 20000 → ∀ s : St, Fun Try.prog n_ref3_weighExpr [.agg (encEx x), .int .i64 n] s (.int .i64 (weighE x n)) s := by
  intro m
  induction m with
  | zero => rintro ⟨op, v, name, kids⟩ h; simp only [Ex.size] at h; omega
  | succ m ih =>
    rintro ⟨op, v, name, kids⟩ hsz n h0 h1 s
    refine Fun.pure ?_ (by simp [D.oks, D.ok, okEx]) rfl s
    simp only [Ex.size] at hsz
    have hk : ∀ y ∈ kids, ∀ {n : Int}, 0 ≤ n → n ≤ 20000 → ∀ s : St, Fun Try.prog n_ref3_weighExpr [.agg (encEx y), .int .i64 n] s (.int .i64 (weighE y n)) s := fun y hy => ih y (by have := Ex.sizes_mem hy; omega)
    have ht := fun s => weighT_s name h0 (by omega) s
    obtain ⟨t1, t2, t3, t4⟩ := weighT_in (t := name) h0
    unfold S0
    generalize h : weighE ⟨op, v, name, kids⟩ n = p
    simp only [weighE] at h
    refine Fun.go has_ref3_weighExpr rfl fun B Q hB hQ => ?_
    have hlt : 0 < 1 := Nat.zero_lt_one
    have hget : 0 < 1 := Nat.zero_lt_one
    have hpu : 0 < 1 := Nat.zero_lt_one
    have hinc : 0 < 1 := Nat.zero_lt_one
    repeat' (first
 | simp only [go_sem, hlt, hget, hpu, hinc, Int.reduceLE, ↓reduceIte, reduceCtorEq, Nat.reduceEqDiff, Nat.reduceLeDiff, Nat.reduceAdd, Nat.reduceMul, Nat.reduceSub, Nat.reduceLT]
 | (with_reducible refine CU (ht _) ?_)
 | (with_reducible first | refine CB_ofT (by assumption) fun hc => ?_ | refine CB_ofF (by assumption) fun hc => ?_ | refine CB_split (fun hc => ?_) fun hc => ?_) <;> (try simp only [hc, bs, ↓reduceIte] at h) <;> (try simp only [hc])
 | ((with_reducible first | refine leafR hQ ?_ | refine leafN hQ ?_); (try cases h); simp only [resL, oneD, Option.some.injEq, exists_eq_left', go_sem, hlt, hget, hpu, hinc, Int.reduceLE, ↓reduceIte, reduceCtorEq, Nat.reduceEqDiff, Nat.reduceLeDiff, Nat.reduceAdd, Nat.reduceMul, Nat.reduceSub, Nat.reduceLT]; repeat' (first | exact Ok.out | with_reducible refine And.intro ?_ ?_ | (simp; done)))
 | (cases h; replace h := hr; clear hr; (try simp only [bs, ↓reduceIte] at h))
 | (cases h; done))
    refine SemL.re _ _ 1 0 (by rw [hB]; exact Nat.le_of_ble_eq_true rfl) (by rw [hB]; exact Nat.le_of_ble_eq_true rfl) ?_ ?_ (SemL.ind (ι := List Ex × Nat × Int) (fun i => kids.drop i.2.1 = i.1 ∧ weighEs i.1 i.2.2 = p ∧ (i.2.1 : Int) ≤ i.2.2 ∧ i.2.2 ≤ 20001) (fun i => i.1.length)
      (fun i => [(1, .int .i64 i.2.2), (2, .ptr 0 0), (5, .int .i64 (i.2.1 : Int))]) (fun i => ⟨[encEx ⟨op, v, name, kids⟩], []⟩) ?_ (kids, 0, weighT name n) ⟨rfl, h, t3, t1⟩)
    · (simp only [go_sem, hlt, hget, hpu, hinc, Int.reduceLE, ↓reduceIte, reduceCtorEq, Nat.reduceEqDiff, Nat.reduceLeDiff, Nat.reduceAdd, Nat.reduceMul, Nat.reduceSub, Nat.reduceLT]; repeat' (first | exact Ok.out | with_reducible refine And.intro ?_ ?_))
    · (simp only [go_sem, hlt, hget, hpu, hinc, Int.reduceLE, ↓reduceIte, reduceCtorEq, Nat.reduceEqDiff, Nat.reduceLeDiff, Nat.reduceAdd, Nat.reduceMul, Nat.reduceSub, Nat.reduceLT]; repeat' (first | exact Ok.out | with_reducible refine And.intro ?_ ?_))
    rintro ⟨rest, k, c⟩ ⟨g1, h, g3, g4⟩ IH
    dsimp only at g1 h g3 g4
    cases rest with
    | nil =>
      have hlt := drop_nil g1
      simp only [weighEs] at h
      repeat' (first
 | simp only [go_sem, hlt, hget, hpu, hinc, Int.reduceLE, ↓reduceIte, reduceCtorEq, Nat.reduceEqDiff, Nat.reduceLeDiff, Nat.reduceAdd, Nat.reduceMul, Nat.reduceSub, Nat.reduceLT]
 | (with_reducible first | refine CB_ofT (by assumption) fun hc => ?_ | refine CB_ofF (by assumption) fun hc => ?_ | refine CB_split (fun hc => ?_) fun hc => ?_) <;> (try simp only [hc, bs, ↓reduceIte] at h) <;> (try simp only [hc])
 | ((with_reducible first | refine leafR hQ ?_ | refine leafN hQ ?_); (try cases h); simp only [resL, oneD, Option.some.injEq, exists_eq_left', go_sem, hlt, hget, hpu, hinc, Int.reduceLE, ↓reduceIte, reduceCtorEq, Nat.reduceEqDiff, Nat.reduceLeDiff, Nat.reduceAdd, Nat.reduceMul, Nat.reduceSub, Nat.reduceLT]; repeat' (first | exact Ok.out | with_reducible refine And.intro ?_ ?_ | (simp; done)))
 | (cases h; replace h := hr; clear hr; (try simp only [bs, ↓reduceIte] at h))
 | (cases h; done))
    | cons y rest =>
      obtain ⟨hget, g2, hlt, g5⟩ := drop_cons g1
      simp only [weighEs] at h
      by_cases hc : c ≤ 20000
      · have c1 : decide (c ≤ 20000) = true := by simp; omega
        have hy := fun s => hk y (List.mem_of_getElem? hget) (n := c) (by omega) hc s
        obtain ⟨a1, a2, a3, a4⟩ := weigh_in _ y (Nat.le_refl _) c (by omega)
        have := a2 hc
        have w3 : IntKind.wrap .i64 ((k : Int) + 1) = ((k + 1 : Nat) : Int) := by rw [wrap_ok] <;> omega
        rw [if_pos hc] at h
        repeat' (first
 | simp only [go_sem, hlt, hget, hpu, hinc, Int.reduceLE, ↓reduceIte, reduceCtorEq, Nat.reduceEqDiff, Nat.reduceLeDiff, Nat.reduceAdd, Nat.reduceMul, Nat.reduceSub, Nat.reduceLT, c1, w3]
 | (with_reducible refine CU (hy _) ?_)
 | (with_reducible first | refine CB_ofT (by assumption) fun hc => ?_ | refine CB_ofF (by assumption) fun hc => ?_ | refine CB_split (fun hc => ?_) fun hc => ?_) <;> (try simp only [hc, bs, ↓reduceIte] at h) <;> (try simp only [hc])
 | ((with_reducible first | refine leafR hQ ?_ | refine leafN hQ ?_); (try cases h); simp only [resL, oneD, Option.some.injEq, exists_eq_left', go_sem, hlt, hget, hpu, hinc, Int.reduceLE, ↓reduceIte, reduceCtorEq, Nat.reduceEqDiff, Nat.reduceLeDiff, Nat.reduceAdd, Nat.reduceMul, Nat.reduceSub, Nat.reduceLT, c1, w3]; repeat' (first | exact Ok.out | with_reducible refine And.intro ?_ ?_ | (simp; done)))
 | (cases h; replace h := hr; clear hr; (try simp only [bs, ↓reduceIte] at h))
 | (cases h; done))
        refine SemL.re _ _ 1 0 (by rw [hB]; exact Nat.le_of_ble_eq_true rfl) (by rw [hB]; exact Nat.le_of_ble_eq_true rfl) ?_ ?_ (IH (rest, k + 1, weighE y c) ⟨g2, h, by dsimp only; omega, a1⟩ (Nat.lt_succ_self _))
        · (simp only [go_sem, hlt, hget, hpu, hinc, Int.reduceLE, ↓reduceIte, reduceCtorEq, Nat.reduceEqDiff, Nat.reduceLeDiff, Nat.reduceAdd, Nat.reduceMul, Nat.reduceSub, Nat.reduceLT]; repeat' (first | exact Ok.out | with_reducible refine And.intro ?_ ?_))
        · (simp only [go_sem, hlt, hget, hpu, hinc, Int.reduceLE, ↓reduceIte, reduceCtorEq, Nat.reduceEqDiff, Nat.reduceLeDiff, Nat.reduceAdd, Nat.reduceMul, Nat.reduceSub, Nat.reduceLT]; repeat' (first | exact Ok.out | with_reducible refine And.intro ?_ ?_))
      · have c1 : decide (c ≤ 20000) = false := by simp; omega
        rw [if_neg hc] at h
        repeat' (first
 | simp only [go_sem, hlt, hget, hpu, hinc, Int.reduceLE, ↓reduceIte, reduceCtorEq, Nat.reduceEqDiff, Nat.reduceLeDiff, Nat.reduceAdd, Nat.reduceMul, Nat.reduceSub, Nat.reduceLT, c1]
 | (with_reducible first | refine CB_ofT (by assumption) fun hc => ?_ | refine CB_ofF (by assumption) fun hc => ?_ | refine CB_split (fun hc => ?_) fun hc => ?_) <;> (try simp only [hc, bs, ↓reduceIte] at h) <;> (try simp only [hc])
 | ((with_reducible first | refine leafR hQ ?_ | refine leafN hQ ?_); (try cases h); simp only [resL, oneD, Option.some.injEq, exists_eq_left', go_sem, hlt, hget, hpu, hinc, Int.reduceLE, ↓reduceIte, reduceCtorEq, Nat.reduceEqDiff, Nat.reduceLeDiff, Nat.reduceAdd, Nat.reduceMul, Nat.reduceSub, Nat.reduceLT, c1]; repeat' (first | exact Ok.out | with_reducible refine And.intro ?_ ?_ | (simp; done)))
 | (cases h; replace h := hr; clear hr; (try simp only [bs, ↓reduceIte] at h))
 | (cases h; done))

theorem FitsExpr_s (x : Ex) (s : St) : Fun Try.prog n_ref3_FitsExpr [.agg (encEx x)] s (.bool (decide (weighE x 0 ≤ 20000))) s := by
  refine Fun.pure ?_ (by simp [D.oks, D.ok, okEx]) rfl s
  have hw := fun s => weighE_s _ x (Nat.le_refl _) (n := 0) (by omega) (by omega) s
  unfold S0
  refine Fun.go has_ref3_FitsExpr rfl fun B Q hB hQ => ?_
  have hlt : 0 < 1 := Nat.zero_lt_one
  have hget : 0 < 1 := Nat.zero_lt_one
  have hpu : 0 < 1 := Nat.zero_lt_one
  have hinc : 0 < 1 := Nat.zero_lt_one
  repeat' (first
 | simp only [go_sem, hlt, hget, hpu, hinc, Int.reduceLE, ↓reduceIte, reduceCtorEq, Nat.reduceEqDiff, Nat.reduceLeDiff, Nat.reduceAdd, Nat.reduceMul, Nat.reduceSub, Nat.reduceLT]
 | (with_reducible refine CU (hw _) ?_)
 | (with_reducible first | refine CB_ofT (by assumption) fun hc => ?_ | refine CB_ofF (by assumption) fun hc => ?_ | refine CB_split (fun hc => ?_) fun hc => ?_) <;> (try simp only [hc, bs, ↓reduceIte] at h) <;> (try simp only [hc])
 | ((with_reducible first | refine leafR hQ ?_ | refine leafN hQ ?_); (try cases h); simp only [resL, oneD, Option.some.injEq, exists_eq_left', go_sem, hlt, hget, hpu, hinc, Int.reduceLE, ↓reduceIte, reduceCtorEq, Nat.reduceEqDiff, Nat.reduceLeDiff, Nat.reduceAdd, Nat.reduceMul, Nat.reduceSub, Nat.reduceLT]; repeat' (first | exact Ok.out | with_reducible refine And.intro ?_ ?_ | (simp; done)))
 | (cases h; replace h := hr; clear hr; (try simp only [bs, ↓reduceIte] at h))
 | (cases h; done))

end Go.Abs

/-! Full2 -/

namespace Go.Abs

set_option maxRecDepth 8000
set_option linter.unusedSimpArgs false
set_option linter.unusedVariables false
open Go.Proofs

mutual
def Ex.nodes : Ex → Nat
  | ⟨_, _, _, kids⟩ => 1 + Ex.nodess kids
def Ex.nodess : List Ex → Nat
  | [] => 0
  | x :: l => x.nodes + Ex.nodess l
end
mutual
def sizeM : Ex → Int → Int
  | ⟨_, _, _, kids⟩, most => sizeL kids most 1
def sizeL : List Ex → Int → Int → Int
  | [], _, n => n
  | x :: l, most, n => if n ≤ most then sizeL l most (n + sizeM x (most - n)) else n
end

theorem size_in : ∀ (m : Nat) (x : Ex), x.size ≤ m → ∀ most : Int, 0 ≤ most → 1 ≤ sizeM x most ∧ sizeM x most ≤ most + 1 ∧ (sizeM x most ≤ most → sizeM x most = x.nodes) := by
  intro m
  induction m with
  | zero => rintro ⟨op, v, name, kids⟩ h; simp only [Ex.size] at h; omega
  | succ m ih =>
    rintro ⟨op, v, name, kids⟩ h most h0
    simp only [Ex.size] at h
    have go : ∀ (l : List Ex), Ex.sizes l ≤ m → ∀ c : Int, 1 ≤ c → c ≤ most + 1 → 1 ≤ sizeL l most c ∧ sizeL l most c ≤ most + 1 ∧ (sizeL l most c ≤ most → sizeL l most c = c + Ex.nodess l) := by
      intro l
      induction l with
      | nil => intro _ c h0 h1; simp only [sizeL, Ex.nodess]; exact ⟨h0, h1, fun _ => by omega⟩
      | cons y l ihl =>
        intro hs c h0 h1
        simp only [Ex.sizes] at hs
        simp only [sizeL, Ex.nodess]
        split
        · rename_i hc
          obtain ⟨a1, a2, a3⟩ := ih y (by omega) (most - c) (by omega)
          obtain ⟨b1, b2, b3⟩ := ihl (by omega) (c + sizeM y (most - c)) (by omega) (by omega)
          refine ⟨b1, b2, fun hw => ?_⟩
          have mono : ∀ (l : List Ex), Ex.sizes l ≤ m → ∀ c : Int, 1 ≤ c → c ≤ most + 1 → c ≤ sizeL l most c := by
            intro l
            induction l with
            | nil => intro _ c _ _; simp only [sizeL]; omega
            | cons z l ihz =>
              intro hs c h0 h1
              simp only [Ex.sizes] at hs
              simp only [sizeL]
              split
              · obtain ⟨a1, a2, a3⟩ := ih z (by omega) (most - c) (by omega)
                have := ihz (by omega) (c + sizeM z (most - c)) (by omega) (by omega)
                omega
              · omega
          have := mono l (by omega) (c + sizeM y (most - c)) (by omega) (by omega)
          have e1 := b3 hw
          have e2 := a3 (by omega)
          omega
        · exact ⟨h0, h1, fun hw => by omega⟩
    obtain ⟨g1, g2, g3⟩ := go kids (by omega) 1 (by omega) (by omega)
    simp only [sizeM, Ex.nodes]
    refine ⟨g1, g2, fun hw => ?_⟩
    have := g3 hw
    omega

theorem Size_s : ∀ (m : Nat) (x : Ex), x.size ≤ m → ∀ {most : Int}, 0 ≤ most → most ≤ 1000000 → ∀ s : St, Fun Try.prog n_ref3_Size [.agg (encEx x), .int .i64 most] s (.int .i64 (sizeM x most)) s := by
  intro m
  induction m with
  | zero => rintro ⟨op, v, name, kids⟩ h; simp only [Ex.size] at h; omega
  | succ m ih =>
    rintro ⟨op, v, name, kids⟩ hsz most h0 h1 s
    refine Fun.pure ?_ (by simp [D.oks, D.ok, okEx]) rfl s
    simp only [Ex.size] at hsz
    have hk : ∀ y ∈ kids, ∀ {n : Int}, 0 ≤ n → n ≤ 1000000 → ∀ s : St, Fun Try.prog n_ref3_Size [.agg (encEx y), .int .i64 n] s (.int .i64 (sizeM y n)) s := fun y hy => ih y (by have := Ex.sizes_mem hy; omega)
    unfold S0
    generalize h : sizeM ⟨op, v, name, kids⟩ most = p
    simp only [sizeM] at h
    refine Fun.go has_ref3_Size rfl fun B Q hB hQ => ?_
    have hlt : 0 < 1 := Nat.zero_lt_one
    have hget : 0 < 1 := Nat.zero_lt_one
    have hpu : 0 < 1 := Nat.zero_lt_one
    have hinc : 0 < 1 := Nat.zero_lt_one
    repeat' (first
 | simp only [go_sem, hlt, hget, hpu, hinc, Int.reduceLE, ↓reduceIte, reduceCtorEq, Nat.reduceEqDiff, Nat.reduceLeDiff, Nat.reduceAdd, Nat.reduceMul, Nat.reduceSub, Nat.reduceLT]
 | (with_reducible first | refine CB_ofT (by assumption) fun hc => ?_ | refine CB_ofF (by assumption) fun hc => ?_ | refine CB_split (fun hc => ?_) fun hc => ?_) <;> (try simp only [hc, bs, ↓reduceIte] at h) <;> (try simp only [hc])
 | ((with_reducible first | refine leafR hQ ?_ | refine leafN hQ ?_); (try cases h); simp only [resL, oneD, Option.some.injEq, exists_eq_left', go_sem, hlt, hget, hpu, hinc, Int.reduceLE, ↓reduceIte, reduceCtorEq, Nat.reduceEqDiff, Nat.reduceLeDiff, Nat.reduceAdd, Nat.reduceMul, Nat.reduceSub, Nat.reduceLT]; repeat' (first | exact Ok.out | with_reducible refine And.intro ?_ ?_ | (simp; done)))
 | (cases h; replace h := hr; clear hr; (try simp only [bs, ↓reduceIte] at h))
 | (cases h; done))
    refine SemL.re _ _ 1 0 (by rw [hB]; exact Nat.le_of_ble_eq_true rfl) (by rw [hB]; exact Nat.le_of_ble_eq_true rfl) ?_ ?_ (SemL.ind (ι := List Ex × Nat × Int) (fun i => kids.drop i.2.1 = i.1 ∧ sizeL i.1 most i.2.2 = p ∧ (i.2.1 : Int) + 1 ≤ i.2.2 ∧ i.2.2 ≤ most + 1) (fun i => i.1.length)
      (fun i => [(1, .int .i64 most), (2, .ptr 0 0), (5, .int .i64 i.2.2), (6, .int .i64 (i.2.1 : Int))]) (fun i => ⟨[encEx ⟨op, v, name, kids⟩], []⟩) ?_ (kids, 0, 1) ⟨rfl, h, by dsimp only; omega, by dsimp only; omega⟩)
    · (simp only [go_sem, hlt, hget, hpu, hinc, Int.reduceLE, ↓reduceIte, reduceCtorEq, Nat.reduceEqDiff, Nat.reduceLeDiff, Nat.reduceAdd, Nat.reduceMul, Nat.reduceSub, Nat.reduceLT]; repeat' (first | exact Ok.out | with_reducible refine And.intro ?_ ?_))
    · (simp only [go_sem, hlt, hget, hpu, hinc, Int.reduceLE, ↓reduceIte, reduceCtorEq, Nat.reduceEqDiff, Nat.reduceLeDiff, Nat.reduceAdd, Nat.reduceMul, Nat.reduceSub, Nat.reduceLT]; repeat' (first | exact Ok.out | with_reducible refine And.intro ?_ ?_))
    rintro ⟨rest, k, c⟩ ⟨g1, h, g3, g4⟩ IH
    dsimp only at g1 h g3 g4
    cases rest with
    | nil =>
      have hlt := drop_nil g1
      simp only [sizeL] at h
      repeat' (first
 | simp only [go_sem, hlt, hget, hpu, hinc, Int.reduceLE, ↓reduceIte, reduceCtorEq, Nat.reduceEqDiff, Nat.reduceLeDiff, Nat.reduceAdd, Nat.reduceMul, Nat.reduceSub, Nat.reduceLT]
 | (with_reducible first | refine CB_ofT (by assumption) fun hc => ?_ | refine CB_ofF (by assumption) fun hc => ?_ | refine CB_split (fun hc => ?_) fun hc => ?_) <;> (try simp only [hc, bs, ↓reduceIte] at h) <;> (try simp only [hc])
 | ((with_reducible first | refine leafR hQ ?_ | refine leafN hQ ?_); (try cases h); simp only [resL, oneD, Option.some.injEq, exists_eq_left', go_sem, hlt, hget, hpu, hinc, Int.reduceLE, ↓reduceIte, reduceCtorEq, Nat.reduceEqDiff, Nat.reduceLeDiff, Nat.reduceAdd, Nat.reduceMul, Nat.reduceSub, Nat.reduceLT]; repeat' (first | exact Ok.out | with_reducible refine And.intro ?_ ?_ | (simp; done)))
 | (cases h; replace h := hr; clear hr; (try simp only [bs, ↓reduceIte] at h))
 | (cases h; done))
    | cons y rest =>
      obtain ⟨hget, g2, hlt, g5⟩ := drop_cons g1
      simp only [sizeL] at h
      by_cases hc : c ≤ most
      · have c1 : decide (c ≤ most) = true := by simp; omega
        have hy := fun s => hk y (List.mem_of_getElem? hget) (n := most - c) (by omega) (by omega) s
        obtain ⟨a1, a2, a3⟩ := size_in _ y (Nat.le_refl _) (most - c) (by omega)
        have w3 : IntKind.wrap .i64 ((k : Int) + 1) = ((k + 1 : Nat) : Int) := by rw [wrap_ok] <;> omega
        have w4 : IntKind.wrap .i64 (most - c) = most - c := wrap_ok (by omega) (by omega)
        have w5 : IntKind.wrap .i64 (c + sizeM y (most - c)) = c + sizeM y (most - c) := wrap_ok (by omega) (by omega)
        rw [if_pos hc] at h
        repeat' (first
 | simp only [go_sem, hlt, hget, hpu, hinc, Int.reduceLE, ↓reduceIte, reduceCtorEq, Nat.reduceEqDiff, Nat.reduceLeDiff, Nat.reduceAdd, Nat.reduceMul, Nat.reduceSub, Nat.reduceLT, c1, w3, w4, w5]
 | (with_reducible refine CU (hy _) ?_)
 | (with_reducible first | refine CB_ofT (by assumption) fun hc => ?_ | refine CB_ofF (by assumption) fun hc => ?_ | refine CB_split (fun hc => ?_) fun hc => ?_) <;> (try simp only [hc, bs, ↓reduceIte] at h) <;> (try simp only [hc])
 | ((with_reducible first | refine leafR hQ ?_ | refine leafN hQ ?_); (try cases h); simp only [resL, oneD, Option.some.injEq, exists_eq_left', go_sem, hlt, hget, hpu, hinc, Int.reduceLE, ↓reduceIte, reduceCtorEq, Nat.reduceEqDiff, Nat.reduceLeDiff, Nat.reduceAdd, Nat.reduceMul, Nat.reduceSub, Nat.reduceLT, c1, w3, w4, w5]; repeat' (first | exact Ok.out | with_reducible refine And.intro ?_ ?_ | (simp; done)))
 | (cases h; replace h := hr; clear hr; (try simp only [bs, ↓reduceIte] at h))
 | (cases h; done))
        refine SemL.re _ _ 1 0 (by rw [hB]; exact Nat.le_of_ble_eq_true rfl) (by rw [hB]; exact Nat.le_of_ble_eq_true rfl) ?_ ?_ (IH (rest, k + 1, c + sizeM y (most - c)) ⟨g2, h, by dsimp only; omega, by dsimp only; omega⟩ (Nat.lt_succ_self _))
        · (simp only [go_sem, hlt, hget, hpu, hinc, Int.reduceLE, ↓reduceIte, reduceCtorEq, Nat.reduceEqDiff, Nat.reduceLeDiff, Nat.reduceAdd, Nat.reduceMul, Nat.reduceSub, Nat.reduceLT]; repeat' (first | exact Ok.out | with_reducible refine And.intro ?_ ?_))
        · (simp only [go_sem, hlt, hget, hpu, hinc, Int.reduceLE, ↓reduceIte, reduceCtorEq, Nat.reduceEqDiff, Nat.reduceLeDiff, Nat.reduceAdd, Nat.reduceMul, Nat.reduceSub, Nat.reduceLT]; repeat' (first | exact Ok.out | with_reducible refine And.intro ?_ ?_))
      · have c1 : decide (c ≤ most) = false := by simp; omega
        rw [if_neg hc] at h
        repeat' (first
 | simp only [go_sem, hlt, hget, hpu, hinc, Int.reduceLE, ↓reduceIte, reduceCtorEq, Nat.reduceEqDiff, Nat.reduceLeDiff, Nat.reduceAdd, Nat.reduceMul, Nat.reduceSub, Nat.reduceLT, c1]
 | (with_reducible first | refine CB_ofT (by assumption) fun hc => ?_ | refine CB_ofF (by assumption) fun hc => ?_ | refine CB_split (fun hc => ?_) fun hc => ?_) <;> (try simp only [hc, bs, ↓reduceIte] at h) <;> (try simp only [hc])
 | ((with_reducible first | refine leafR hQ ?_ | refine leafN hQ ?_); (try cases h); simp only [resL, oneD, Option.some.injEq, exists_eq_left', go_sem, hlt, hget, hpu, hinc, Int.reduceLE, ↓reduceIte, reduceCtorEq, Nat.reduceEqDiff, Nat.reduceLeDiff, Nat.reduceAdd, Nat.reduceMul, Nat.reduceSub, Nat.reduceLT, c1]; repeat' (first | exact Ok.out | with_reducible refine And.intro ?_ ?_ | (simp; done)))
 | (cases h; replace h := hr; clear hr; (try simp only [bs, ↓reduceIte] at h))
 | (cases h; done))

end Go.Abs

/-! Room1 -/

namespace Go.Abs

set_option maxRecDepth 8000
set_option linter.unusedSimpArgs false
set_option linter.unusedVariables false
open Go.Proofs

def modM (n k : Int) : Int := if Int.tmod n k < 0 then Int.tmod n k + k else Int.tmod n k
def manyM (t : Str) : Nat → Str
  | 0 => []
  | n + 1 => manyM t n ++ t
def two (i : Nat) : Str := [UInt8.ofNat (48 + i / 10), UInt8.ofNat (48 + i % 10)]
def rowM (ahead : Str) : Nat → Str
  | 0 => []
  | n + 1 => (if n = 0 then rowM ahead n else rowM ahead n ++ [44]) ++ (ahead ++ [97] ++ two n)
def procsM : Nat → Str
  | 0 => []
  | n + 1 => procsM n ++ ([112, 114, 111, 99, 32, 112] ++ two n ++ [40, 41, 123, 125])

theorem wrap_u8 {i : Nat} (h : i < 256) : IntKind.wrap .u8 (i : Int) = (i : Int) := by
  rw [IntKind.wrap_u8]; omega

end Go.Abs

/-! Binds1 -/

namespace Go.Abs

set_option maxRecDepth 8000
set_option linter.unusedSimpArgs false
set_option linter.unusedVariables false
open Go.Proofs

def encInt (n : Int) : List D := [.int .i64 n]
theorem okInt (n : Int) : D.oks 0 0 (encInt n) = true := rfl
theorem fgrInt (n m : Nat) (l : List Int) : D.fgr n m (l.map encInt) = l.map encInt := fgr_map okInt n m l
attribute [go_sem] encInt fgrInt
/-- A sign's text. -/
def signR (op : Int) : Str :=
  if op = 5 then [42] else if op = 6 then [47] else if op = 7 then [37] else if op = 8 then [43] else if op = 9 then [45] else if op = 10 then [60] else if op = 11 then [60, 61]
  else if op = 12 then [62] else if op = 13 then [62, 61] else if op = 14 then [61, 61] else if op = 15 then [33, 61] else if op = 16 then [38, 38] else [124, 124]
def bindB (op : Int) : Int := (bindsR (signR op)).1

theorem signs {op : Int} (h : (decide (5 ≤ op) && decide (op ≤ 17)) = true) : op = 5 ∨ op = 6 ∨ op = 7 ∨ op = 8 ∨ op = 9 ∨ op = 10 ∨ op = 11 ∨ op = 12 ∨ op = 13 ∨ op = 14 ∨ op = 15 ∨ op = 16 ∨ op = 17 := by
  simp only [Bool.and_eq_true, decide_eq_true_eq] at h; omega

theorem signs_s {op : Int} (h : (decide (5 ≤ op) && decide (op ≤ 17)) = true) (s : St) : Fun Try.prog n_ref3_sign [.int .i64 op] s (.str (signR op)) s := by
  refine Fun.pure ?_ rfl rfl s
  unfold S0
  rcases signs h with rfl | rfl | rfl | rfl | rfl | rfl | rfl | rfl | rfl | rfl | rfl | rfl | rfl
  all_goals
    refine Fun.go has_ref3_sign rfl fun B Q hB hQ => ?_
    have hlt : 0 < 1 := Nat.zero_lt_one
    have hget : 0 < 1 := Nat.zero_lt_one
    have hpu : 0 < 1 := Nat.zero_lt_one
    have hinc : 0 < 1 := Nat.zero_lt_one
    repeat' (first
 | simp only [go_sem, hlt, hget, hpu, hinc, Int.reduceLE, ↓reduceIte, reduceCtorEq, Nat.reduceEqDiff, Nat.reduceLeDiff, Nat.reduceAdd, Nat.reduceMul, Nat.reduceSub, Nat.reduceLT, signR, Int.reduceSub, Int.cast_ofNat_Int, wrap_ok, Int.reduceNeg, Int.reduceLT, Int.reduceToNat, Int.reduceEq]
 | (with_reducible first | refine CB_ofT (by assumption) fun hc => ?_ | refine CB_ofF (by assumption) fun hc => ?_ | refine CB_split (fun hc => ?_) fun hc => ?_) <;> (try simp only [hc, bs, ↓reduceIte] at h) <;> (try simp only [hc])
 | ((with_reducible first | refine leafR hQ ?_ | refine leafN hQ ?_); (try cases h); simp only [resL, oneD, Option.some.injEq, exists_eq_left', go_sem, hlt, hget, hpu, hinc, Int.reduceLE, ↓reduceIte, reduceCtorEq, Nat.reduceEqDiff, Nat.reduceLeDiff, Nat.reduceAdd, Nat.reduceMul, Nat.reduceSub, Nat.reduceLT, signR, Int.reduceSub, Int.cast_ofNat_Int, wrap_ok, Int.reduceNeg, Int.reduceLT, Int.reduceToNat, Int.reduceEq]; repeat' (first | exact Ok.out | with_reducible refine And.intro ?_ ?_ | (simp; done)))
 | (cases h; replace h := hr; clear hr; (try simp only [bs, ↓reduceIte] at h))
 | (cases h; done))

theorem bindB_pos {op : Int} (h : (decide (5 ≤ op) && decide (op ≤ 17)) = true) : 1 ≤ bindB op ∧ bindB op ≤ 6 ∧ (bindsR (signR op)).2 = op := by
  rcases signs h with rfl | rfl | rfl | rfl | rfl | rfl | rfl | rfl | rfl | rfl | rfl | rfl | rfl <;> exact ⟨by decide, by decide, by decide⟩

/-- So many names. -/
def operandsM : Nat → List Str
  | 0 => []
  | n + 1 => operandsM n ++ [[UInt8.ofNat (97 + n)]]
end Go.Abs

/-! Full3 -/

namespace Go.Abs

set_option maxRecDepth 8000
set_option linter.unusedSimpArgs false
set_option linter.unusedVariables false
open Go.Proofs

def digF : Nat → Nat → Str
  | 0, _ => []
  | f + 1, n => if n < 10 then [UInt8.ofNat (48 + n)] else digF f (n / 10) ++ [UInt8.ofNat (48 + n % 10)]
theorem digF_len : ∀ f n, (digF f n).length ≤ f
  | 0, n => Nat.le_refl _
  | f + 1, n => by simp only [digF]; split; simp; simp only [List.length_append, List.length_cons, List.length_nil]; have := digF_len f (n / 10); omega

theorem wrap_u64 {i : Nat} (h : i < 18446744073709551616) : IntKind.wrap .u64 (i : Int) = (i : Int) := by
  simp only [IntKind.wrap, IntKind.bits, IntKind.signed]; simp; omega

theorem digits_s : ∀ (f : Nat) (n : Nat), f ≤ 20 → n < 10 ^ f → n < 18446744073709551616 → 0 < f → ∀ s : St, Fun Try.prog n_ref3_digits [.int .u64 (n : Int)] s (.str (digF f n)) s := by
  intro f
  induction f with
  | zero => intro n _ _ _ h; omega
  | succ f ih =>
    intro n hf hn h64 _ s
    refine Fun.pure ?_ rfl rfl s
    unfold S0
    by_cases c : n < 10
    · have c1 : decide ((n : Int) < 10) = true := by simp; omega
      have e : digF (f + 1) n = [UInt8.ofNat (48 + n)] := by simp only [digF, if_pos c]
      have w2 : IntKind.wrap .u64 (48 + (n : Int)) = ((48 + n : Nat) : Int) := by
        have := wrap_u64 (i := 48 + n) (by omega)
        rw [← this]; congr 1
      have w4 := wrap_u8 (i := 48 + n) (by omega)
      rw [e]
      refine Fun.go has_ref3_digits rfl fun B Q hB hQ => ?_
      have hlt : 0 < 1 := Nat.zero_lt_one
      have hget : 0 < 1 := Nat.zero_lt_one
      have hpu : 0 < 1 := Nat.zero_lt_one
      have hinc : 0 < 1 := Nat.zero_lt_one
      repeat' (first
 | simp only [go_sem, hlt, hget, hpu, hinc, Int.reduceLE, ↓reduceIte, reduceCtorEq, Nat.reduceEqDiff, Nat.reduceLeDiff, Nat.reduceAdd, Nat.reduceMul, Nat.reduceSub, Nat.reduceLT, c1, w2, w4, bytesOfRows, byteOfRow]
 | (with_reducible first | refine CB_ofT (by assumption) fun hc => ?_ | refine CB_ofF (by assumption) fun hc => ?_ | refine CB_split (fun hc => ?_) fun hc => ?_) <;> (try simp only [hc, bs, ↓reduceIte] at h) <;> (try simp only [hc])
 | ((with_reducible first | refine leafR hQ ?_ | refine leafN hQ ?_); (try cases h); simp only [resL, oneD, Option.some.injEq, exists_eq_left', go_sem, hlt, hget, hpu, hinc, Int.reduceLE, ↓reduceIte, reduceCtorEq, Nat.reduceEqDiff, Nat.reduceLeDiff, Nat.reduceAdd, Nat.reduceMul, Nat.reduceSub, Nat.reduceLT, c1, w2, w4, bytesOfRows, byteOfRow]; repeat' (first | exact Ok.out | with_reducible refine And.intro ?_ ?_ | (simp; done)))
 | (cases h; replace h := hr; clear hr; (try simp only [bs, ↓reduceIte] at h))
 | (cases h; done))
    · have c1 : decide ((n : Int) < 10) = false := by simp; omega
      have e : digF (f + 1) n = digF f (n / 10) ++ [UInt8.ofNat (48 + n % 10)] := by simp only [digF, if_neg c]
      have d1 : Int.tdiv (n : Int) 10 = ((n / 10 : Nat) : Int) := by rw [Int.ofNat_tdiv]; rfl
      have d2 : Int.tmod (n : Int) 10 = ((n % 10 : Nat) : Int) := by rw [Int.ofNat_tmod]; rfl
      have k10 : ((10 : Int) = 0) = False := by simp
      have w1 := wrap_u64 (i := n / 10) (by omega)
      have w5 := wrap_u64 (i := n % 10) (by omega)
      have w2 : IntKind.wrap .u64 (48 + ((n % 10 : Nat) : Int)) = ((48 + n % 10 : Nat) : Int) := by
        have := wrap_u64 (i := 48 + n % 10) (by omega)
        rw [← this]; congr 1
      have w4 := wrap_u8 (i := 48 + n % 10) (by omega)
      have hf0 : 0 < f := by
        cases f with
        | zero => simp at hn; omega
        | succ f => omega
      have hr := ih (n / 10) (by omega) (by rw [Nat.pow_succ] at hn; omega) (by omega) hf0
      have hl := digF_len f (n / 10)
      have m1 : (digF f (n / 10)).length + 1 ≤ maxStr := by unfold maxStr; omega
      rw [e]
      refine Fun.go has_ref3_digits rfl fun B Q hB hQ => ?_
      have hlt : 0 < 1 := Nat.zero_lt_one
      have hget : 0 < 1 := Nat.zero_lt_one
      have hpu : 0 < 1 := Nat.zero_lt_one
      have hinc : 0 < 1 := Nat.zero_lt_one
      repeat' (first
 | simp only [go_sem, hlt, hget, hpu, hinc, Int.reduceLE, ↓reduceIte, reduceCtorEq, Nat.reduceEqDiff, Nat.reduceLeDiff, Nat.reduceAdd, Nat.reduceMul, Nat.reduceSub, Nat.reduceLT, c1, d1, d2, k10, w1, w2, w4, w5, m1, bytesOfRows, byteOfRow]
 | (with_reducible refine CU (hr _) ?_)
 | (with_reducible first | refine CB_ofT (by assumption) fun hc => ?_ | refine CB_ofF (by assumption) fun hc => ?_ | refine CB_split (fun hc => ?_) fun hc => ?_) <;> (try simp only [hc, bs, ↓reduceIte] at h) <;> (try simp only [hc])
 | ((with_reducible first | refine leafR hQ ?_ | refine leafN hQ ?_); (try cases h); simp only [resL, oneD, Option.some.injEq, exists_eq_left', go_sem, hlt, hget, hpu, hinc, Int.reduceLE, ↓reduceIte, reduceCtorEq, Nat.reduceEqDiff, Nat.reduceLeDiff, Nat.reduceAdd, Nat.reduceMul, Nat.reduceSub, Nat.reduceLT, c1, d1, d2, k10, w1, w2, w4, w5, m1, bytesOfRows, byteOfRow]; repeat' (first | exact Ok.out | with_reducible refine And.intro ?_ ?_ | (simp; done)))
 | (cases h; replace h := hr; clear hr; (try simp only [bs, ↓reduceIte] at h))
 | (cases h; done))

theorem Dec_s {n : Int} (h0 : 0 ≤ n) (h1 : n ≤ 9223372036854775807) (s : St) : Fun Try.prog n_ref3_Dec [.int .i64 n] s (.str (digF 20 n.toNat)) s := by
  refine Fun.pure ?_ rfl rfl s
  obtain ⟨k, hk⟩ : ∃ k : Nat, n = (k : Int) := ⟨n.toNat, by omega⟩
  subst hk
  rw [Int.toNat_natCast]
  have c1 : decide ((k : Int) < 0) = false := by simp
  have w1 := wrap_u64 (i := k) (by omega)
  have hr := digits_s 20 k (by omega) (by omega) (by omega) (by omega)
  unfold S0
  refine Fun.go has_ref3_Dec rfl fun B Q hB hQ => ?_
  have hlt : 0 < 1 := Nat.zero_lt_one
  have hget : 0 < 1 := Nat.zero_lt_one
  have hpu : 0 < 1 := Nat.zero_lt_one
  have hinc : 0 < 1 := Nat.zero_lt_one
  repeat' (first
 | simp only [go_sem, hlt, hget, hpu, hinc, Int.reduceLE, ↓reduceIte, reduceCtorEq, Nat.reduceEqDiff, Nat.reduceLeDiff, Nat.reduceAdd, Nat.reduceMul, Nat.reduceSub, Nat.reduceLT, c1, w1]
 | (with_reducible refine CU (hr _) ?_)
 | (with_reducible first | refine CB_ofT (by assumption) fun hc => ?_ | refine CB_ofF (by assumption) fun hc => ?_ | refine CB_split (fun hc => ?_) fun hc => ?_) <;> (try simp only [hc, bs, ↓reduceIte] at h) <;> (try simp only [hc])
 | ((with_reducible first | refine leafR hQ ?_ | refine leafN hQ ?_); (try cases h); simp only [resL, oneD, Option.some.injEq, exists_eq_left', go_sem, hlt, hget, hpu, hinc, Int.reduceLE, ↓reduceIte, reduceCtorEq, Nat.reduceEqDiff, Nat.reduceLeDiff, Nat.reduceAdd, Nat.reduceMul, Nat.reduceSub, Nat.reduceLT, c1, w1]; repeat' (first | exact Ok.out | with_reducible refine And.intro ?_ ?_ | (simp; done)))
 | (cases h; replace h := hr; clear hr; (try simp only [bs, ↓reduceIte] at h))
 | (cases h; done))

end Go.Abs

/-! Rng -/

namespace Go.Abs

mutual
/-- Its numbers are numbers. -/
def Ex.rng : Ex → Prop
  | ⟨_, n, _, kids⟩ => n ≤ 9223372036854775807 ∧ Ex.rngs kids
def Ex.rngs : List Ex → Prop
  | [] => True
  | x :: l => x.rng ∧ Ex.rngs l
end

end Go.Abs

/-! Full4 -/

namespace Go.Abs

set_option maxRecDepth 8000
set_option linter.unusedSimpArgs false
set_option linter.unusedVariables false
open Go.Proofs

theorem signR_len' {op : Int} (h : (decide (5 ≤ op) && decide (op ≤ 17)) = true) : (signR op).length ≤ 2 := by
  rcases signs h with rfl | rfl | rfl | rfl | rfl | rfl | rfl | rfl | rfl | rfl | rfl | rfl | rfl <;> decide

/-- What an expression is that may be. -/
inductive FormI : Ex → Prop
  | num (n : Int) (h0 : 0 ≤ n) (h1 : n ≤ 9223372036854775807) : FormI ⟨1, n, [], []⟩
  | name (t : Str) (h : isName t = true) : FormI ⟨2, 0, t, []⟩
  | neg (y : Ex) (h : FormI y) : FormI ⟨3, 0, [], [y]⟩
  | no (y : Ex) (h : FormI y) : FormI ⟨4, 0, [], [y]⟩
  | two (op : Int) (a b : Ex) (ho : (decide (5 ≤ op) && decide (op ≤ 17)) = true) (ha : FormI a) (hb : FormI b) : FormI ⟨op, 0, [], [a, b]⟩

theorem FormI.of : ∀ (m : Nat) (x : Ex), x.size ≤ m → x.form = true → x.rng → FormI x := by
  intro m
  induction m with
  | zero => rintro ⟨op, v, name, kids⟩ h; simp only [Ex.size] at h; omega
  | succ m ih =>
    rintro ⟨op, n, name, kids⟩ h hf hr
    simp only [Ex.size] at h
    simp only [Ex.form] at hf
    split at hf
    · cases hf
    · rename_i hc
      simp only [Bool.or_eq_true, Bool.and_eq_true, not_or, not_and, Bool.not_eq_true, bne_iff_ne, ne_eq, Decidable.not_not, decide_eq_true_eq, Bool.not_eq_true', bne_eq_false_iff_eq, decide_eq_false_iff_not, Bool.not_eq_false, Bool.not_eq_false', beq_iff_eq] at hc
      obtain ⟨⟨⟨⟨ha, hz⟩, hn⟩, hnm⟩, hi⟩ := hc
      have hnil : op ≠ 2 → name = [] := fun h2 => by
        have : (op == 2) = false := beq_eq_false_iff_ne.2 h2
        rw [this] at hnm
        simpa using hnm.symm
      by_cases o1 : op = 1
      · subst o1
        have : kids = [] := List.eq_nil_of_length_eq_zero (by simp [arityI] at ha; omega)
        subst this
        rw [hnil (by omega)]
        exact .num n (by omega) hr.1
      · have hz := hz o1
        subst hz
        by_cases o2 : op = 2
        · subst o2
          have : kids = [] := List.eq_nil_of_length_eq_zero (by simp [arityI] at ha; omega)
          subst this
          exact .name name (hi (by simpa using hnm.symm))
        · have hnm := hnil o2
          subst hnm
          by_cases o3 : op = 3
          · subst o3
            have : kids.length = 1 := by simp [arityI] at ha; omega
            obtain ⟨y, rfl⟩ := List.length_eq_one_iff.1 this
            simp only [Ex.forms, Ex.sizes] at hf h
            exact .neg y (ih y (by omega) (by simpa using hf) hr.2.1)
          · by_cases o4 : op = 4
            · subst o4
              have : kids.length = 1 := by simp [arityI] at ha; omega
              obtain ⟨y, rfl⟩ := List.length_eq_one_iff.1 this
              simp only [Ex.forms, Ex.sizes] at hf h
              exact .no y (ih y (by omega) (by simpa using hf) hr.2.1)
            · by_cases o5 : 5 ≤ op ∧ op ≤ 17
              · have : kids.length = 2 := by simp [arityI, o1, o2, o3, o4, o5.1, o5.2] at ha; omega
                obtain ⟨y, z, rfl⟩ : ∃ y z, kids = [y, z] := by
                  match kids, this with
                  | [y, z], _ => exact ⟨y, z, rfl⟩
                simp only [Ex.forms, Ex.sizes] at hf h
                have hf : y.form = true ∧ z.form = true := by
                  cases hy : y.form <;> cases hz : z.form <;> simp [hy, hz] at hf ⊢
                exact .two op y z (by simp only [Bool.and_eq_true, decide_eq_true_eq]; exact o5) (ih y (by omega) hf.1 hr.2.1) (ih z (by omega) hf.2 hr.2.2.1)
              · exfalso
                have : arityI op = -1 := by
                  unfold arityI
                  have c : (decide (op ≥ 5) && decide (op ≤ 17)) = false := by simp; omega
                  simp [o1, o2, o3, o4, c]
                omega

mutual
/-- The text. -/
def fullE : Ex → Str
  | ⟨op, n, name, kids⟩ => fullK op n name kids
def fullK (op n : Int) (name : Str) : List Ex → Str
  | [] => if op = 2 then name else digF 20 n.toNat
  | [a] => if op = 3 then [40, 45] ++ fullE a ++ [41] else [40, 33] ++ fullE a ++ [41]
  | a :: b :: _ => [40] ++ fullE a ++ signR op ++ fullE b ++ [41]
end

theorem isName_len {t : Str} (h : isName t = true) : t.length ≤ 8 := by
  cases t with
  | nil => cases h
  | cons c r =>
    simp only [isName] at h
    split at h
    · cases h
    · rename_i hc
      simp only [Bool.or_eq_true, decide_eq_true_eq, not_or] at hc
      simp only [List.length_cons]; omega

theorem fullE_len {x : Ex} (h : FormI x) : (fullE x).length ≤ 25 * x.nodes := by
  induction h with
  | num n => simp only [fullE, fullK, Ex.nodes, Ex.nodess]; rw [if_neg (by decide)]; have := digF_len 20 n.toNat; omega
  | name t h => simp only [fullE, fullK, Ex.nodes, Ex.nodess, ↓reduceIte]; have := isName_len h; omega
  | neg y _ ih => simp only [fullE, fullK, Ex.nodes, Ex.nodess, ↓reduceIte, List.length_append, List.length_cons, List.length_nil]; omega
  | no y _ ih => simp only [fullE, fullK, Ex.nodes, Ex.nodess]; rw [if_neg (by decide)]; simp only [List.length_append, List.length_cons, List.length_nil]; omega
  | two op a b ho _ _ iha ihb => simp only [fullE, fullK, Ex.nodes, Ex.nodess, List.length_append, List.length_cons, List.length_nil]; have := signR_len' ho; omega

theorem expr_num {n : Int} (h0 : 0 ≤ n) (h1 : n ≤ 9223372036854775807) (s : St) : Fun Try.prog n_ref3_expr [.agg (encEx ⟨1, n, [], []⟩)] s (.str (digF 20 n.toNat)) s := by
  refine Fun.pure ?_ (by simp [D.oks, D.ok, okEx]) rfl s
  have hd := fun s => Dec_s h0 h1 s
  have a1 : arityI 1 = 0 := rfl
  have b0 : ((0 : Int) == 0) = true := rfl
  have b2 : ((1 : Int) == 2) = false := rfl
  unfold S0
  refine Fun.go has_ref3_expr rfl fun B Q hB hQ => ?_
  have hlt : 0 < 1 := Nat.zero_lt_one
  have hget : 0 < 1 := Nat.zero_lt_one
  have hpu : 0 < 1 := Nat.zero_lt_one
  have hinc : 0 < 1 := Nat.zero_lt_one
  repeat' (first
 | simp only [go_sem, hlt, hget, hpu, hinc, Int.reduceLE, ↓reduceIte, reduceCtorEq, Nat.reduceEqDiff, Nat.reduceLeDiff, Nat.reduceAdd, Nat.reduceMul, Nat.reduceSub, Nat.reduceLT, a1, b0, b2]
 | (with_reducible refine CU (Arity_s _ _) ?_)
 | (with_reducible refine CU (hd _) ?_)
 | (with_reducible first | refine CB_ofT (by assumption) fun hc => ?_ | refine CB_ofF (by assumption) fun hc => ?_ | refine CB_split (fun hc => ?_) fun hc => ?_) <;> (try simp only [hc, bs, ↓reduceIte] at h) <;> (try simp only [hc])
 | ((with_reducible first | refine leafR hQ ?_ | refine leafN hQ ?_); (try cases h); simp only [resL, oneD, Option.some.injEq, exists_eq_left', go_sem, hlt, hget, hpu, hinc, Int.reduceLE, ↓reduceIte, reduceCtorEq, Nat.reduceEqDiff, Nat.reduceLeDiff, Nat.reduceAdd, Nat.reduceMul, Nat.reduceSub, Nat.reduceLT, a1, b0, b2]; repeat' (first | exact Ok.out | with_reducible refine And.intro ?_ ?_ | (simp; done)))
 | (cases h; replace h := hr; clear hr; (try simp only [bs, ↓reduceIte] at h))
 | (cases h; done))
theorem expr_name (t : Str) (s : St) : Fun Try.prog n_ref3_expr [.agg (encEx ⟨2, 0, t, []⟩)] s (.str t) s := by
  refine Fun.pure ?_ (by simp [D.oks, D.ok, okEx]) rfl s
  have a1 : arityI 2 = 0 := rfl
  have b0 : ((0 : Int) == 0) = true := rfl
  have b2 : ((2 : Int) == 2) = true := rfl
  unfold S0
  refine Fun.go has_ref3_expr rfl fun B Q hB hQ => ?_
  have hlt : 0 < 1 := Nat.zero_lt_one
  have hget : 0 < 1 := Nat.zero_lt_one
  have hpu : 0 < 1 := Nat.zero_lt_one
  have hinc : 0 < 1 := Nat.zero_lt_one
  repeat' (first
 | simp only [go_sem, hlt, hget, hpu, hinc, Int.reduceLE, ↓reduceIte, reduceCtorEq, Nat.reduceEqDiff, Nat.reduceLeDiff, Nat.reduceAdd, Nat.reduceMul, Nat.reduceSub, Nat.reduceLT, a1, b0, b2]
 | (with_reducible refine CU (Arity_s _ _) ?_)
 | (with_reducible first | refine CB_ofT (by assumption) fun hc => ?_ | refine CB_ofF (by assumption) fun hc => ?_ | refine CB_split (fun hc => ?_) fun hc => ?_) <;> (try simp only [hc, bs, ↓reduceIte] at h) <;> (try simp only [hc])
 | ((with_reducible first | refine leafR hQ ?_ | refine leafN hQ ?_); (try cases h); simp only [resL, oneD, Option.some.injEq, exists_eq_left', go_sem, hlt, hget, hpu, hinc, Int.reduceLE, ↓reduceIte, reduceCtorEq, Nat.reduceEqDiff, Nat.reduceLeDiff, Nat.reduceAdd, Nat.reduceMul, Nat.reduceSub, Nat.reduceLT, a1, b0, b2]; repeat' (first | exact Ok.out | with_reducible refine And.intro ?_ ?_ | (simp; done)))
 | (cases h; replace h := hr; clear hr; (try simp only [bs, ↓reduceIte] at h))
 | (cases h; done))

theorem Full_s {x : Ex} (h : FormI x) : x.nodes ≤ 10000 → ∀ s : St, Fun Try.prog n_ref3_Full [.agg (encEx x)] s (.str (fullE x)) s := by
  induction h with
  | num n h0 h1 =>
    intro _ s
    refine Fun.pure ?_ (by simp [D.oks, D.ok, okEx]) rfl s
    have e := Int.toNat_of_nonneg h0
    have hd := fun s => Dec_s h0 h1 s
    have hx := fun s => expr_num h0 h1 s
    simp only [go_sem] at hx
    have a1 : arityI 1 = 0 := rfl
    have b0 : ((0 : Int) == 0) = true := rfl
    rw [show fullE ⟨1, n, [], []⟩ = digF 20 n.toNat from by simp only [fullE, fullK, Int.reduceEq, ↓reduceIte]]
    unfold S0
    refine Fun.go has_ref3_Full rfl fun B Q hB hQ => ?_
    have hlt : 0 < 1 := Nat.zero_lt_one
    have hget : 0 < 1 := Nat.zero_lt_one
    have hpu : 0 < 1 := Nat.zero_lt_one
    have hinc : 0 < 1 := Nat.zero_lt_one
    repeat' (first
 | simp only [go_sem, hlt, hget, hpu, hinc, Int.reduceLE, ↓reduceIte, reduceCtorEq, Nat.reduceEqDiff, Nat.reduceLeDiff, Nat.reduceAdd, Nat.reduceMul, Nat.reduceSub, Nat.reduceLT, a1, b0]
 | (with_reducible refine CU (Arity_s _ _) ?_)
 | (with_reducible refine CU (hx _) ?_)
 | (with_reducible first | refine CB_ofT (by assumption) fun hc => ?_ | refine CB_ofF (by assumption) fun hc => ?_ | refine CB_split (fun hc => ?_) fun hc => ?_) <;> (try simp only [hc, bs, ↓reduceIte] at h) <;> (try simp only [hc])
 | ((with_reducible first | refine leafR hQ ?_ | refine leafN hQ ?_); (try cases h); simp only [resL, oneD, Option.some.injEq, exists_eq_left', go_sem, hlt, hget, hpu, hinc, Int.reduceLE, ↓reduceIte, reduceCtorEq, Nat.reduceEqDiff, Nat.reduceLeDiff, Nat.reduceAdd, Nat.reduceMul, Nat.reduceSub, Nat.reduceLT, a1, b0]; repeat' (first | exact Ok.out | with_reducible refine And.intro ?_ ?_ | (simp; done)))
 | (cases h; replace h := hr; clear hr; (try simp only [bs, ↓reduceIte] at h))
 | (cases h; done))
  | name t h =>
    intro _ s
    refine Fun.pure ?_ (by simp [D.oks, D.ok, okEx]) rfl s
    have hx := fun s => expr_name t s
    simp only [go_sem] at hx
    have a1 : arityI 2 = 0 := rfl
    have b0 : ((0 : Int) == 0) = true := rfl
    rw [show fullE ⟨2, 0, t, []⟩ = t from by simp only [fullE, fullK, ↓reduceIte]]
    unfold S0
    refine Fun.go has_ref3_Full rfl fun B Q hB hQ => ?_
    have hlt : 0 < 1 := Nat.zero_lt_one
    have hget : 0 < 1 := Nat.zero_lt_one
    have hpu : 0 < 1 := Nat.zero_lt_one
    have hinc : 0 < 1 := Nat.zero_lt_one
    repeat' (first
 | simp only [go_sem, hlt, hget, hpu, hinc, Int.reduceLE, ↓reduceIte, reduceCtorEq, Nat.reduceEqDiff, Nat.reduceLeDiff, Nat.reduceAdd, Nat.reduceMul, Nat.reduceSub, Nat.reduceLT, a1, b0]
 | (with_reducible refine CU (Arity_s _ _) ?_)
 | (with_reducible refine CU (hx _) ?_)
 | (with_reducible first | refine CB_ofT (by assumption) fun hc => ?_ | refine CB_ofF (by assumption) fun hc => ?_ | refine CB_split (fun hc => ?_) fun hc => ?_) <;> (try simp only [hc, bs, ↓reduceIte] at h) <;> (try simp only [hc])
 | ((with_reducible first | refine leafR hQ ?_ | refine leafN hQ ?_); (try cases h); simp only [resL, oneD, Option.some.injEq, exists_eq_left', go_sem, hlt, hget, hpu, hinc, Int.reduceLE, ↓reduceIte, reduceCtorEq, Nat.reduceEqDiff, Nat.reduceLeDiff, Nat.reduceAdd, Nat.reduceMul, Nat.reduceSub, Nat.reduceLT, a1, b0]; repeat' (first | exact Ok.out | with_reducible refine And.intro ?_ ?_ | (simp; done)))
 | (cases h; replace h := hr; clear hr; (try simp only [bs, ↓reduceIte] at h))
 | (cases h; done))
  | neg y hy ih =>
    intro hn s
    refine Fun.pure ?_ (by simp [D.oks, D.ok, okEx]) rfl s
    simp only [Ex.nodes, Ex.nodess] at hn
    have i1 := ih (by omega)
    have l1 := fullE_len hy
    have m1 : (2 : Nat) + (fullE y).length ≤ maxStr := by unfold maxStr; omega
    have m2 : (fullE y).length + 1 + 1 + 1 ≤ maxStr := by unfold maxStr; omega
    have a1 : arityI 3 = 1 := rfl
    have b0 : ((1 : Int) == 0) = false := rfl
    have b1 : ((1 : Int) == 1) = true := rfl
    have b3 : ((3 : Int) == 3) = true := rfl
    rw [show fullE ⟨3, 0, [], [y]⟩ = [40, 45] ++ fullE y ++ [41] from by simp only [fullE, fullK, ↓reduceIte]]
    unfold S0
    refine Fun.go has_ref3_Full rfl fun B Q hB hQ => ?_
    have hlt : 0 < 1 := Nat.zero_lt_one
    have hget : 0 < 1 := Nat.zero_lt_one
    have hpu : 0 < 1 := Nat.zero_lt_one
    have hinc : 0 < 1 := Nat.zero_lt_one
    repeat' (first
 | simp only [go_sem, hlt, hget, hpu, hinc, Int.reduceLE, ↓reduceIte, reduceCtorEq, Nat.reduceEqDiff, Nat.reduceLeDiff, Nat.reduceAdd, Nat.reduceMul, Nat.reduceSub, Nat.reduceLT, a1, b0, b1, b3, m1, m2]
 | (with_reducible refine CU (Arity_s _ _) ?_)
 | (with_reducible refine CU (i1 _) ?_)
 | (with_reducible first | refine CB_ofT (by assumption) fun hc => ?_ | refine CB_ofF (by assumption) fun hc => ?_ | refine CB_split (fun hc => ?_) fun hc => ?_) <;> (try simp only [hc, bs, ↓reduceIte] at h) <;> (try simp only [hc])
 | ((with_reducible first | refine leafR hQ ?_ | refine leafN hQ ?_); (try cases h); simp only [resL, oneD, Option.some.injEq, exists_eq_left', go_sem, hlt, hget, hpu, hinc, Int.reduceLE, ↓reduceIte, reduceCtorEq, Nat.reduceEqDiff, Nat.reduceLeDiff, Nat.reduceAdd, Nat.reduceMul, Nat.reduceSub, Nat.reduceLT, a1, b0, b1, b3, m1, m2]; repeat' (first | exact Ok.out | with_reducible refine And.intro ?_ ?_ | (simp; done)))
 | (cases h; replace h := hr; clear hr; (try simp only [bs, ↓reduceIte] at h))
 | (cases h; done))
  | no y hy ih =>
    intro hn s
    refine Fun.pure ?_ (by simp [D.oks, D.ok, okEx]) rfl s
    simp only [Ex.nodes, Ex.nodess] at hn
    have i1 := ih (by omega)
    have l1 := fullE_len hy
    have m1 : (2 : Nat) + (fullE y).length ≤ maxStr := by unfold maxStr; omega
    have m2 : (fullE y).length + 1 + 1 + 1 ≤ maxStr := by unfold maxStr; omega
    have a1 : arityI 4 = 1 := rfl
    have b0 : ((1 : Int) == 0) = false := rfl
    have b1 : ((1 : Int) == 1) = true := rfl
    have b3 : ((4 : Int) == 3) = false := rfl
    rw [show fullE ⟨4, 0, [], [y]⟩ = [40, 33] ++ fullE y ++ [41] from by simp only [fullE, fullK, Int.reduceEq, ↓reduceIte]]
    unfold S0
    refine Fun.go has_ref3_Full rfl fun B Q hB hQ => ?_
    have hlt : 0 < 1 := Nat.zero_lt_one
    have hget : 0 < 1 := Nat.zero_lt_one
    have hpu : 0 < 1 := Nat.zero_lt_one
    have hinc : 0 < 1 := Nat.zero_lt_one
    repeat' (first
 | simp only [go_sem, hlt, hget, hpu, hinc, Int.reduceLE, ↓reduceIte, reduceCtorEq, Nat.reduceEqDiff, Nat.reduceLeDiff, Nat.reduceAdd, Nat.reduceMul, Nat.reduceSub, Nat.reduceLT, a1, b0, b1, b3, m1, m2]
 | (with_reducible refine CU (Arity_s _ _) ?_)
 | (with_reducible refine CU (i1 _) ?_)
 | (with_reducible first | refine CB_ofT (by assumption) fun hc => ?_ | refine CB_ofF (by assumption) fun hc => ?_ | refine CB_split (fun hc => ?_) fun hc => ?_) <;> (try simp only [hc, bs, ↓reduceIte] at h) <;> (try simp only [hc])
 | ((with_reducible first | refine leafR hQ ?_ | refine leafN hQ ?_); (try cases h); simp only [resL, oneD, Option.some.injEq, exists_eq_left', go_sem, hlt, hget, hpu, hinc, Int.reduceLE, ↓reduceIte, reduceCtorEq, Nat.reduceEqDiff, Nat.reduceLeDiff, Nat.reduceAdd, Nat.reduceMul, Nat.reduceSub, Nat.reduceLT, a1, b0, b1, b3, m1, m2]; repeat' (first | exact Ok.out | with_reducible refine And.intro ?_ ?_ | (simp; done)))
 | (cases h; replace h := hr; clear hr; (try simp only [bs, ↓reduceIte] at h))
 | (cases h; done))
  | two op a b ho ha hb iha ihb =>
    intro hn s
    refine Fun.pure ?_ (by simp [D.oks, D.ok, okEx]) rfl s
    simp only [Ex.nodes, Ex.nodess] at hn
    have i1 := iha (by omega)
    have i2 := ihb (by omega)
    have l1 := fullE_len ha
    have l2 := fullE_len hb
    have l3 := signR_len' ho
    have m1 : (1 : Nat) + (fullE a).length ≤ maxStr := by unfold maxStr; omega
    have m2 : (fullE a).length + 1 + (signR op).length ≤ maxStr := by unfold maxStr; omega
    have m3 : (fullE a).length + (signR op).length + 1 + (fullE b).length ≤ maxStr := by unfold maxStr; omega
    have m4 : (fullE a).length + (signR op).length + (fullE b).length + 1 + 1 ≤ maxStr := by unfold maxStr; omega
    have m5 : (fullE a).length + ((signR op).length + (fullE b).length) + 1 + 1 ≤ maxStr := by unfold maxStr; omega
    have a1 : arityI op = 2 := by
      simp only [Bool.and_eq_true, decide_eq_true_eq] at ho
      have c : (decide (op ≥ 5) && decide (op ≤ 17)) = true := by simp; omega
      have c1 : (op == 1) = false := beq_eq_false_iff_ne.2 (by omega)
      have c2 : (op == 2) = false := beq_eq_false_iff_ne.2 (by omega)
      have c3 : (op == 3) = false := beq_eq_false_iff_ne.2 (by omega)
      have c4 : (op == 4) = false := beq_eq_false_iff_ne.2 (by omega)
      simp only [arityI, c, c1, c2, c3, c4, Bool.or_self, Bool.false_eq_true, ↓reduceIte]
    have b0 : ((2 : Int) == 0) = false := rfl
    have b1 : ((2 : Int) == 1) = false := rfl
    rw [show fullE ⟨op, 0, [], [a, b]⟩ = [40] ++ fullE a ++ signR op ++ fullE b ++ [41] from by simp only [fullE, fullK]]
    unfold S0
    refine Fun.go has_ref3_Full rfl fun B Q hB hQ => ?_
    have hlt : 0 < 1 := Nat.zero_lt_one
    have hget : 0 < 1 := Nat.zero_lt_one
    have hpu : 0 < 1 := Nat.zero_lt_one
    have hinc : 0 < 1 := Nat.zero_lt_one
    repeat' (first
 | simp only [go_sem, hlt, hget, hpu, hinc, Int.reduceLE, ↓reduceIte, reduceCtorEq, Nat.reduceEqDiff, Nat.reduceLeDiff, Nat.reduceAdd, Nat.reduceMul, Nat.reduceSub, Nat.reduceLT, a1, b0, b1, m1, m2, m3, m4, m5, Int.toNat_one, List.getElem?_cons_succ, List.getElem?_cons_zero]
 | (with_reducible refine CU (Arity_s _ _) ?_)
 | (with_reducible refine CU (i1 _) ?_)
 | (with_reducible refine CU (i2 _) ?_)
 | (with_reducible refine CU (signs_s ho _) ?_)
 | (with_reducible first | refine CB_ofT (by assumption) fun hc => ?_ | refine CB_ofF (by assumption) fun hc => ?_ | refine CB_split (fun hc => ?_) fun hc => ?_) <;> (try simp only [hc, bs, ↓reduceIte] at h) <;> (try simp only [hc])
 | ((with_reducible first | refine leafR hQ ?_ | refine leafN hQ ?_); (try cases h); simp only [resL, oneD, Option.some.injEq, exists_eq_left', go_sem, hlt, hget, hpu, hinc, Int.reduceLE, ↓reduceIte, reduceCtorEq, Nat.reduceEqDiff, Nat.reduceLeDiff, Nat.reduceAdd, Nat.reduceMul, Nat.reduceSub, Nat.reduceLT, a1, b0, b1, m1, m2, m3, m4, m5, Int.toNat_one, List.getElem?_cons_succ, List.getElem?_cons_zero]; repeat' (first | exact Ok.out | with_reducible refine And.intro ?_ ?_ | (simp; done)))
 | (cases h; replace h := hr; clear hr; (try simp only [bs, ↓reduceIte] at h))
 | (cases h; done))

end Go.Abs

/-! Binds2 -/

namespace Go.Abs

set_option maxRecDepth 8000
set_option linter.unusedSimpArgs false
set_option linter.unusedVariables false
open Go.Proofs

/-- The text of a row: of its first names. -/
def rowB (names : List Str) (ops : List Int) : Nat → Str
  | 0 => []
  | i + 1 => rowB names ops i ++ (if i = 0 then [] else signR (ops.getD (i - 1) 0)) ++ names.getD i []

/-- Names and signs that fit. -/
structure RowOk (names : List Str) (ops : List Int) : Prop where
  len : names.length = ops.length + 1
  most : ops.length ≤ 20
  short : ∀ x ∈ names, x.length ≤ 1
  op : ∀ o ∈ ops, (decide (5 ≤ o) && decide (o ≤ 17)) = true

/-! ### How it is parted -/

def stepB (i : Nat) (op : Int) (al : Nat × Int) : Nat × Int := if bindB op ≤ al.2 then (i, bindB op) else al
/-- Where the sign is that binds least, of like ones the last. -/
def atB : List Int → Nat → Nat × Int → Nat × Int
  | [], _, al => al
  | op :: r, i, al => atB r (i + 1) (stepB i op al)
def splitB : Nat → List Str → List Int → Ex
  | 0, _, _ => ex0
  | n + 1, names, ops => if ops.length = 0 then exName (names.getD 0 []) else
    exTwo (ops.getD (atB ops 0 (0, 9)).1 0) (splitB n (names.take ((atB ops 0 (0, 9)).1 + 1)) (ops.take (atB ops 0 (0, 9)).1)) (splitB n (names.drop ((atB ops 0 (0, 9)).1 + 1)) (ops.drop ((atB ops 0 (0, 9)).1 + 1)))

end Go.Abs

/-! Lx -/

namespace Go.Abs
set_option linter.unusedSimpArgs false
set_option linter.unusedVariables false

def isR (c : UInt8) : Bool := (c.toNat : Int) == 35

/-- A text, from a place on, is these tokens. -/
inductive Lx : Nat → Str → List Tok → Prop where
  | nil (pos : Nat) : Lx pos [] []
  | blank (pos : Nat) (c : UInt8) (r : Str) (l : List Tok) (h : isB c = true) (k : Lx (pos + 1) r l) : Lx pos (c :: r) l
  | rem (pos : Nat) (c : UInt8) (r : Str) (l : List Tok) (h : isB c = false) (h2 : isR c = true) (k : Lx (pos + lineL (c :: r)) ((c :: r).drop (lineL (c :: r))) l) : Lx pos (c :: r) l
  | tok (pos : Nat) (c : UInt8) (r : Str) (t : Tok) (l : List Tok) (h : isB c = false) (h2 : isR c = false) (ht : tokE pos (c :: r) = .inl t) (k : Lx (pos + t.text.length) ((c :: r).drop t.text.length) l) : Lx pos (c :: r) (t :: l)

theorem lineL_le : ∀ s : Str, lineL s ≤ s.length
  | [] => Nat.le_refl _
  | c :: r => by simp only [lineL, List.length_cons]; split; have := lineL_le r; omega; omega
theorem signL_le : ∀ s : Str, signL s ≤ s.length
  | [] => Nat.le_refl _
  | [c] => by simp only [signL]; split <;> simp
  | c :: d :: r => by simp only [signL, List.length_cons]; split; omega; split; omega; omega

/-- What a token is of its text. -/
theorem tokE_text {pos : Nat} {s : Str} {t : Tok} (h : tokE pos s = .inl t) : t.pos = pos ∧ 0 < t.text.length ∧ ∃ rest, s = t.text ++ rest := by
  cases s with
  | nil => simp only [tokE] at h; cases h
  | cons c r =>
    simp only [tokE] at h
    cases hL : isL c
    · simp only [hL, Bool.false_eq_true, ↓reduceIte] at h
      cases hD : isD c
      · simp only [hD, Bool.false_eq_true, ↓reduceIte] at h
        split at h
        · cases h
        · cases h
          have := signL_le (c :: r)
          exact ⟨rfl, by simp only [List.length_take]; simp only [List.length_cons] at this ⊢; omega, (c :: r).drop (signL (c :: r)), by simp⟩
      · have k0 : 0 < runD (c :: r) := by simp [runD, hD]
        simp only [hD, ↓reduceIte] at h
        split at h
        · cases h
        · split at h
          · cases h
            exact ⟨rfl, by simp only [List.length_take, List.length_cons]; omega, (c :: r).drop (runD (c :: r)), by simp⟩
          · cases h
    · have k0 : 0 < runL (c :: r) := by simp [runL, hL]
      simp only [hL, ↓reduceIte] at h
      split at h
      · cases h
      · cases h
        exact ⟨rfl, by simp only [List.length_take, List.length_cons]; omega, (c :: r).drop (runL (c :: r)), by simp⟩

theorem tokE_ln {pos : Nat} {s : Str} {t : Tok} (h : tokE pos s = .inl t) : t.text.length ≤ s.length := by
  obtain ⟨_, _, rest, e⟩ := tokE_text h
  rw [e]; simp

/-- What the lexer makes of such a text. -/
theorem lexF_Lx {pos : Nat} {s : Str} {l : List Tok} (h : Lx pos s l) : ∀ (n : Nat) (out : List Tok), s.length < n → out.length + l.length ≤ 2000 → lexF n pos s out = (out ++ l ++ [⟨0, [], 0, (pos + s.length : Nat)⟩], 0, 0) := by
  induction h with
  | nil pos =>
    intro n out hn ho
    cases n with
    | zero => omega
    | succ n => simp [lexF]
  | blank pos c r l h k ih =>
    intro n out hn ho
    cases n with
    | zero => omega
    | succ n =>
      simp only [List.length_cons] at hn
      simp only [lexF, h, ↓reduceIte]
      rw [ih n out (by omega) ho]
      simp only [List.length_cons]
      have : pos + 1 + r.length = pos + (r.length + 1) := by omega
      rw [this]
  | rem pos c r l h h2 k ih =>
    intro n out hn ho
    cases n with
    | zero => omega
    | succ n =>
      have h3 : ((c.toNat : Int) == 35) = true := h2
      simp only [lexF, h, h3, Bool.false_eq_true, ↓reduceIte]
      have hp : 0 < lineL (c :: r) := by
        have : ((c.toNat : Int) != 10) = true := by simp only [beq_iff_eq] at h3; simp [h3]
        simp [lineL, this]
      have hle := lineL_le (c :: r)
      rw [ih n out (by rw [List.length_drop]; omega) ho]
      have : pos + lineL (c :: r) + ((c :: r).drop (lineL (c :: r))).length = pos + (c :: r).length := by rw [List.length_drop]; omega
      rw [this]
  | tok pos c r t l h h2 ht k ih =>
    intro n out hn ho
    cases n with
    | zero => omega
    | succ n =>
      have h3 : ((c.toNat : Int) == 35) = false := h2
      simp only [List.length_cons] at ho
      have hne : ¬ out.length = 2000 := by omega
      simp only [lexF, h, h3, Bool.false_eq_true, ↓reduceIte, ht, if_neg hne]
      obtain ⟨_, hp, _⟩ := tokE_text ht
      have hle := tokE_ln ht
      rw [ih n _ (by rw [List.length_drop]; omega) (by simp; omega)]
      have : pos + t.text.length + ((c :: r).drop t.text.length).length = pos + (c :: r).length := by rw [List.length_drop]; omega
      rw [this]
      simp

def tEnd (n : Nat) : Tok := ⟨0, [], 0, (n : Nat)⟩

theorem lexAll_Lx {s : Str} {l : List Tok} (h : Lx 0 s l) (hs : s.length ≤ 100000) (hl : l.length ≤ 2000) : lexAll s = (l ++ [tEnd s.length], 0, 0) := by
  unfold lexAll
  rw [if_neg (by omega), lexF_Lx h _ _ (Nat.lt_succ_self _) (by simpa using hl)]
  simp [tEnd]
end Go.Abs

/-! Lx2 -/

namespace Go.Abs
set_option linter.unusedSimpArgs false
set_option linter.unusedVariables false

/-- Nothing that stands ahead goes on with that byte. -/
def stopC (c : UInt8) : Bool := !(isL c) && !(isD c) && !(c == 61) && !(c == 38) && !(c == 124)
def Stop : Str → Prop
  | [] => True
  | c :: _ => stopC c = true

/-- A token by itself, wherever it stands, with something behind it. -/
def TGood (t : Tok) : Prop := 0 < t.text.length ∧ ∀ (p : Nat) (b : Str), Stop b → tokE p (t.text ++ b) = .inl { t with pos := (p : Nat) }
/-- The first byte of a token. -/
theorem tokE_first {pos : Nat} {s : Str} {t : Tok} (h : tokE pos s = .inl t) : ∃ c r, s = c :: r ∧ isB c = false ∧ isR c = false := by
  cases s with
  | nil => simp only [tokE] at h; cases h
  | cons c r =>
    refine ⟨c, r, rfl, ?_⟩
    simp only [tokE] at h
    cases hL : isL c
    · cases hD : isD c
      · simp only [hL, hD, Bool.false_eq_true, ↓reduceIte] at h
        have hs : signL (c :: r) ≠ 0 := by
          intro h0; rw [if_pos h0] at h; cases h
        have hc : ∀ n : Int, (c.toNat : Int) = n → n = 32 ∨ n = 9 ∨ n = 10 ∨ n = 13 ∨ n = 35 → False := by
          intro n hn hh
          have hcs : c = 32 ∨ c = 9 ∨ c = 10 ∨ c = 13 ∨ c = 35 := by
            have : ∀ k : UInt8, (c.toNat : Int) = (k.toNat : Int) → c = k := by
              intro k hk
              have : c.toNat = k.toNat := by omega
              exact UInt8.toNat_inj.1 this
            rcases hh with h | h | h | h | h
            · exact .inl (this 32 (by rw [hn, h]; rfl))
            · exact .inr (.inl (this 9 (by rw [hn, h]; rfl)))
            · exact .inr (.inr (.inl (this 10 (by rw [hn, h]; rfl))))
            · exact .inr (.inr (.inr (.inl (this 13 (by rw [hn, h]; rfl)))))
            · exact .inr (.inr (.inr (.inr (this 35 (by rw [hn, h]; rfl)))))
          apply hs
          cases r with
          | nil => rcases hcs with rfl | rfl | rfl | rfl | rfl <;> decide
          | cons d r =>
            have h1 : sign2 [c, d] = false := by
              cases hx : sign2 [c, d]
              · rfl
              · simp only [sign2, Bool.or_eq_true, beq_iff_eq, List.cons.injEq, and_true] at hx
                rcases hcs with rfl | rfl | rfl | rfl | rfl <;> simp at hx
            have h2 : sign1 c = false := by rcases hcs with rfl | rfl | rfl | rfl | rfl <;> decide
            simp only [signL, h1, h2, Bool.false_eq_true, ↓reduceIte]
        refine ⟨?_, ?_⟩
        · cases hb : isB c
          · rfl
          · simp only [isB, Bool.or_eq_true, beq_iff_eq] at hb
            exact (hc _ rfl (by omega)).elim
        · cases hb : isR c
          · rfl
          · simp only [isR, beq_iff_eq] at hb
            exact (hc _ rfl (by omega)).elim
      · simp only [isD, Bool.and_eq_true, decide_eq_true_eq] at hD
        refine ⟨?_, ?_⟩
        · simp only [isB, Bool.or_eq_false_iff, beq_eq_false_iff_ne, ne_eq]; omega
        · simp only [isR, beq_eq_false_iff_ne, ne_eq]; omega
    · simp only [isL, Bool.and_eq_true, decide_eq_true_eq] at hL
      refine ⟨?_, ?_⟩
      · simp only [isB, Bool.or_eq_false_iff, beq_eq_false_iff_ne, ne_eq]; omega
      · simp only [isR, beq_eq_false_iff_ne, ne_eq]; omega

theorem Lx.tok' {pos : Nat} {s : Str} {t : Tok} {l : List Tok} (ht : tokE pos s = .inl t) (k : Lx (pos + t.text.length) (s.drop t.text.length) l) : Lx pos s (t :: l) := by
  obtain ⟨c, r, rfl, h1, h2⟩ := tokE_first ht
  exact .tok _ _ _ _ _ h1 h2 ht k
end Go.Abs
