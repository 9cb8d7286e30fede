/-
  What is proved here: the statement ParseRoomSaid: whatever the numbers, the law, called, gives true, and of what was there nothing turns.
  No conditions.
-/
import Derived.Test.YtecpopiacpckiaaPxR3
import Derived.KernelRfl
import Derived.RowKit3
import Derived.Test.YtecpopiacpckiaaRows
import Derived.WalkKit
import Derived.ProofKit
import Derived.OpenShut
import Derived.ShutString
import Derived.ChangeMaps5
import Derived.ChangeStays

/-! RefMay2 -/

namespace Go.Abs

set_option maxRecDepth 8000
set_option linter.unusedSimpArgs false
set_option linter.unusedVariables false
open Go.Proofs

/-- Its texts are texts. -/
structure Sm.Fine (s : Sm) : Prop where
  lab : ∀ t ∈ s.labels, t.length < 4611686018427387904
  labl : s.labels.length < 4611686018427387904
  name : s.name.length < 4611686018427387904
  proc : s.proc.length < 4611686018427387904
  x : s.x.size < 4611686018427387904
  xt : s.x.texts
  argl : s.args.length < 4611686018427387904
  arg : ∀ a ∈ s.args, a.x.size < 4611686018427387904 ∧ a.x.texts ∧ a.name.length < 4611686018427387904


section
variable {v : Sm} {B : Base} {Q : Exit → Tm → St → Prop} {p : Bool}

theorem one_4 (hf : v.Fine) (hB : B.s = ⟨[], []⟩) (hQ : retF 0 0 [(2, none)] (.bool p) ⟨[], []⟩ = Q)
    (h : (if !(Ar.mays v.args) then false else ((v.thn.length : Int) == 0 || v.kind == 5 || v.kind == 6) && ((v.els.length : Int) == 0 || v.kind == 5)) = p) :
    Sem Try.prog B 178 QQ3 Q [(1, .ptr 0 0)] ⟨[encSm v], []⟩ := by
  have hargl := hf.argl
  have harg := fun a ha s => arg_s (hf.arg a ha).1 (hf.arg a ha).2.1 (hf.arg a ha).2.2 s
  have hlt : 0 < 1 := Nat.zero_lt_one
  have hget : 0 < 1 := Nat.zero_lt_one
  have hpu : 0 < 1 := Nat.zero_lt_one
  have hinc : 0 < 1 := Nat.zero_lt_one
  refine wpC_sound ?_
  repeat' (first
 | simp only [go_sem, hlt, hget, hpu, hinc, Int.reduceLE, ↓reduceIte, reduceCtorEq, Nat.reduceEqDiff, Nat.reduceLeDiff, Nat.reduceAdd, Nat.reduceMul, Nat.reduceSub, Nat.reduceLT]
 | (with_reducible first | refine CB_ofT (by assumption) fun hc => ?_ | refine CB_ofF (by assumption) fun hc => ?_ | refine CB_split (fun hc => ?_) fun hc => ?_) <;> (try simp only [hc, bs, ↓reduceIte] at h) <;> (try simp only [hc])
 | ((with_reducible first | refine leafR hQ ?_ | refine leafN hQ ?_); (try cases h); simp only [resL, oneD, Option.some.injEq, exists_eq_left', go_sem, hlt, hget, hpu, hinc, Int.reduceLE, ↓reduceIte, reduceCtorEq, Nat.reduceEqDiff, Nat.reduceLeDiff, Nat.reduceAdd, Nat.reduceMul, Nat.reduceSub, Nat.reduceLT]; repeat' (first | exact Ok.out | with_reducible refine And.intro ?_ ?_ | (simp; done)))
 | (cases h; replace h := hr; clear hr; (try simp only [bs, ↓reduceIte] at h))
 | (cases h; done))
  refine SemL.re _ _ 1 0 (by rw [hB]; exact Nat.le_of_ble_eq_true rfl) (by rw [hB]; exact Nat.le_of_ble_eq_true rfl) ?_ ?_ (SemL.ind (ι := List Ar × Nat) (fun i => v.args.drop i.2 = i.1 ∧ (if !(Ar.mays i.1) then false else ((v.thn.length : Int) == 0 || v.kind == 5 || v.kind == 6) && ((v.els.length : Int) == 0 || v.kind == 5)) = p) (fun i => i.1.length)
    (fun i => [(1, .ptr 0 0), (143, .slice .shared 6 (v.args.map encAr)), (144, .int .i64 (v.args.length : Int)), (145, .int .i64 (i.2 : Int))]) (fun i => ⟨[encSm v], []⟩) ?_ (v.args, 0) ⟨rfl, h⟩)
  · (simp only [go_sem, hlt, hget, hpu, hinc, Int.reduceLE, ↓reduceIte, reduceCtorEq, Nat.reduceEqDiff, Nat.reduceLeDiff, Nat.reduceAdd, Nat.reduceMul, Nat.reduceSub, Nat.reduceLT]; repeat' (first | exact Ok.out | with_reducible refine And.intro ?_ ?_))
  · (simp only [go_sem, hlt, hget, hpu, hinc, Int.reduceLE, ↓reduceIte, reduceCtorEq, Nat.reduceEqDiff, Nat.reduceLeDiff, Nat.reduceAdd, Nat.reduceMul, Nat.reduceSub, Nat.reduceLT]; repeat' (first | exact Ok.out | with_reducible refine And.intro ?_ ?_))
  rintro ⟨rest, k⟩ ⟨h1, h⟩ IH
  dsimp only at h1 h
  cases rest with
  | nil =>
    have hlt := drop_nil h1
    simp only [Ar.mays, Bool.not_true, Bool.false_eq_true, ↓reduceIte] at h
    repeat' (first
 | simp only [go_sem, hlt, hget, hpu, hinc, Int.reduceLE, ↓reduceIte, reduceCtorEq, Nat.reduceEqDiff, Nat.reduceLeDiff, Nat.reduceAdd, Nat.reduceMul, Nat.reduceSub, Nat.reduceLT]
 | (with_reducible first | refine CB_ofT (by assumption) fun hc => ?_ | refine CB_ofF (by assumption) fun hc => ?_ | refine CB_split (fun hc => ?_) fun hc => ?_) <;> (try simp only [hc, bs, ↓reduceIte] at h) <;> (try simp only [hc])
 | ((with_reducible first | refine leafR hQ ?_ | refine leafN hQ ?_); (try cases h); simp only [resL, oneD, Option.some.injEq, exists_eq_left', go_sem, hlt, hget, hpu, hinc, Int.reduceLE, ↓reduceIte, reduceCtorEq, Nat.reduceEqDiff, Nat.reduceLeDiff, Nat.reduceAdd, Nat.reduceMul, Nat.reduceSub, Nat.reduceLT]; repeat' (first | exact Ok.out | with_reducible refine And.intro ?_ ?_ | (simp; done)))
 | (cases h; replace h := hr; clear hr; (try simp only [bs, ↓reduceIte] at h))
 | (cases h; done))
    all_goals
      simp only [*]
      exact Ok.out
  | cons a rest =>
    obtain ⟨hget, g2, hlt, g4⟩ := drop_cons h1
    have ha := harg a (List.mem_of_getElem? hget)
    have hpu : k < 4611686018427387904 := by omega
    simp only [Ar.mays] at h
    repeat' (first
 | simp only [go_sem, hlt, hget, hpu, hinc, Int.reduceLE, ↓reduceIte, reduceCtorEq, Nat.reduceEqDiff, Nat.reduceLeDiff, Nat.reduceAdd, Nat.reduceMul, Nat.reduceSub, Nat.reduceLT]
 | (with_reducible refine CU (ha _) ?_)
 | (with_reducible first | refine CB_ofT (by assumption) fun hc => ?_ | refine CB_ofF (by assumption) fun hc => ?_ | refine CB_split (fun hc => ?_) fun hc => ?_) <;> (try simp only [hc, bs, ↓reduceIte] at h) <;> (try simp only [hc])
 | ((with_reducible first | refine leafR hQ ?_ | refine leafN hQ ?_); (try cases h); simp only [resL, oneD, Option.some.injEq, exists_eq_left', go_sem, hlt, hget, hpu, hinc, Int.reduceLE, ↓reduceIte, reduceCtorEq, Nat.reduceEqDiff, Nat.reduceLeDiff, Nat.reduceAdd, Nat.reduceMul, Nat.reduceSub, Nat.reduceLT]; repeat' (first | exact Ok.out | with_reducible refine And.intro ?_ ?_ | (simp; done)))
 | (cases h; replace h := hr; clear hr; (try simp only [bs, ↓reduceIte] at h))
 | (cases h; done))
    refine SemL.re _ _ 1 0 (by rw [hB]; exact Nat.le_of_ble_eq_true rfl) (by rw [hB]; exact Nat.le_of_ble_eq_true rfl) ?_ ?_ (IH (rest, k + 1) ⟨g2, h⟩ (Nat.lt_succ_self _))
    · (simp only [go_sem, hlt, hget, hpu, hinc, Int.reduceLE, ↓reduceIte, reduceCtorEq, Nat.reduceEqDiff, Nat.reduceLeDiff, Nat.reduceAdd, Nat.reduceMul, Nat.reduceSub, Nat.reduceLT]; repeat' (first | exact Ok.out | with_reducible refine And.intro ?_ ?_))
    · (simp only [go_sem, hlt, hget, hpu, hinc, Int.reduceLE, ↓reduceIte, reduceCtorEq, Nat.reduceEqDiff, Nat.reduceLeDiff, Nat.reduceAdd, Nat.reduceMul, Nat.reduceSub, Nat.reduceLT]; repeat' (first | exact Ok.out | with_reducible refine And.intro ?_ ?_))

theorem one_3 {cl : Bool} (hf : v.Fine) (hB : B.s = ⟨[], []⟩) (hQ : retF 0 0 [(2, none)] (.bool p) ⟨[], []⟩ = Q)
    (h : (if !(cl == !(v.proc == [])) || (cl && !(isName v.proc)) || (!cl && decide ((v.args.length : Int) > 0)) then false
      else if !(Ar.mays v.args) then false else ((v.thn.length : Int) == 0 || v.kind == 5 || v.kind == 6) && ((v.els.length : Int) == 0 || v.kind == 5)) = p) :
    Sem Try.prog B 178 QQ4 Q [(1, .ptr 0 0), (5, .bool cl)] ⟨[encSm v], []⟩ := by
  have hproc := RName_s v.proc hf.proc
  have hlt : 0 < 1 := Nat.zero_lt_one
  have hget : 0 < 1 := Nat.zero_lt_one
  have hpu : 0 < 1 := Nat.zero_lt_one
  have hinc : 0 < 1 := Nat.zero_lt_one
  refine Sem.seqW ?_
  repeat' (first
 | simp only [go_sem, hlt, hget, hpu, hinc, Int.reduceLE, ↓reduceIte, reduceCtorEq, Nat.reduceEqDiff, Nat.reduceLeDiff, Nat.reduceAdd, Nat.reduceMul, Nat.reduceSub, Nat.reduceLT]
 | (with_reducible refine CU (hproc _) ?_)
 | (with_reducible first | refine CB_ofT (by assumption) fun hc => ?_ | refine CB_ofF (by assumption) fun hc => ?_ | refine CB_split (fun hc => ?_) fun hc => ?_) <;> (try simp only [hc, bs, ↓reduceIte] at h) <;> (try simp only [hc])
 | ((with_reducible first | refine leafR hQ ?_ | refine leafN hQ ?_); (try cases h); simp only [resL, oneD, Option.some.injEq, exists_eq_left', go_sem, hlt, hget, hpu, hinc, Int.reduceLE, ↓reduceIte, reduceCtorEq, Nat.reduceEqDiff, Nat.reduceLeDiff, Nat.reduceAdd, Nat.reduceMul, Nat.reduceSub, Nat.reduceLT]; repeat' (first | exact Ok.out | with_reducible refine And.intro ?_ ?_ | (simp; done)))
 | (cases h; replace h := hr; clear hr; (try simp only [bs, ↓reduceIte] at h))
 | (cases h; done))
  all_goals
    refine Sem.re _ _ 1 0 (by rw [hB]; exact Nat.le_of_ble_eq_true rfl) (by rw [hB]; exact Nat.le_of_ble_eq_true rfl) ?_ ?_ (one_4 hf hB hQ h)
    · (simp only [go_sem, hlt, hget, hpu, hinc, Int.reduceLE, ↓reduceIte, reduceCtorEq, Nat.reduceEqDiff, Nat.reduceLeDiff, Nat.reduceAdd, Nat.reduceMul, Nat.reduceSub, Nat.reduceLT]; repeat' (first | exact Ok.out | with_reducible refine And.intro ?_ ?_))
    · (simp only [go_sem, hlt, hget, hpu, hinc, Int.reduceLE, ↓reduceIte, reduceCtorEq, Nat.reduceEqDiff, Nat.reduceLeDiff, Nat.reduceAdd, Nat.reduceMul, Nat.reduceSub, Nat.reduceLT]; repeat' (first | exact Ok.out | with_reducible refine And.intro ?_ ?_))

theorem one_2 {hn cl : Bool} (hf : v.Fine) (hB : B.s = ⟨[], []⟩) (hQ : retF 0 0 [(2, none)] (.bool p) ⟨[], []⟩ = Q)
    (h : (if (hn && !(isName v.name)) || (!hn && !(v.name == []) && !(cl && isName v.name)) then false
      else if !(cl == !(v.proc == [])) || (cl && !(isName v.proc)) || (!cl && decide ((v.args.length : Int) > 0)) then false
      else if !(Ar.mays v.args) then false else ((v.thn.length : Int) == 0 || v.kind == 5 || v.kind == 6) && ((v.els.length : Int) == 0 || v.kind == 5)) = p) :
    Sem Try.prog B 178 QQ5 Q [(1, .ptr 0 0), (4, .bool hn), (5, .bool cl)] ⟨[encSm v], []⟩ := by
  have hname := RName_s v.name hf.name
  have hlt : 0 < 1 := Nat.zero_lt_one
  have hget : 0 < 1 := Nat.zero_lt_one
  have hpu : 0 < 1 := Nat.zero_lt_one
  have hinc : 0 < 1 := Nat.zero_lt_one
  have k := @one_3 v B Q p cl hf hB hQ
  cases cl
  all_goals
    refine Sem.seqW ?_
    repeat' (first
 | simp only [go_sem, hlt, hget, hpu, hinc, Int.reduceLE, ↓reduceIte, reduceCtorEq, Nat.reduceEqDiff, Nat.reduceLeDiff, Nat.reduceAdd, Nat.reduceMul, Nat.reduceSub, Nat.reduceLT]
 | (with_reducible refine CU (hname _) ?_)
 | (with_reducible first | refine CB_ofT (by assumption) fun hc => ?_ | refine CB_ofF (by assumption) fun hc => ?_ | refine CB_split (fun hc => ?_) fun hc => ?_) <;> (try simp only [hc, bs, ↓reduceIte] at h) <;> (try simp only [hc])
 | ((with_reducible first | refine leafR hQ ?_ | refine leafN hQ ?_); (try cases h); simp only [resL, oneD, Option.some.injEq, exists_eq_left', go_sem, hlt, hget, hpu, hinc, Int.reduceLE, ↓reduceIte, reduceCtorEq, Nat.reduceEqDiff, Nat.reduceLeDiff, Nat.reduceAdd, Nat.reduceMul, Nat.reduceSub, Nat.reduceLT]; repeat' (first | exact Ok.out | with_reducible refine And.intro ?_ ?_ | (simp; done)))
 | (cases h; replace h := hr; clear hr; (try simp only [bs, ↓reduceIte] at h))
 | (cases h; done))
  all_goals
    refine Sem.re _ _ 1 0 (by rw [hB]; exact Nat.le_of_ble_eq_true rfl) (by rw [hB]; exact Nat.le_of_ble_eq_true rfl) ?_ ?_ (k (by simpa only [bs, ↓reduceIte] using h))
    · (simp only [go_sem, hlt, hget, hpu, hinc, Int.reduceLE, ↓reduceIte, reduceCtorEq, Nat.reduceEqDiff, Nat.reduceLeDiff, Nat.reduceAdd, Nat.reduceMul, Nat.reduceSub, Nat.reduceLT]; repeat' (first | exact Ok.out | with_reducible refine And.intro ?_ ?_))
    · (simp only [go_sem, hlt, hget, hpu, hinc, Int.reduceLE, ↓reduceIte, reduceCtorEq, Nat.reduceEqDiff, Nat.reduceLeDiff, Nat.reduceAdd, Nat.reduceMul, Nat.reduceSub, Nat.reduceLT]; repeat' (first | exact Ok.out | with_reducible refine And.intro ?_ ?_))

theorem one_1 {hx hn cl : Bool} (hf : v.Fine) (hB : B.s = ⟨[], []⟩) (hQ : retF 0 0 [(2, none)] (.bool p) ⟨[], []⟩ = Q)
    (h : (if decide (v.kind < 1) || decide (v.kind > 10) || !(mayNames v.labels) || (hx && !(v.x.may)) || (!hx && !(v.x.none)) || (v.has && v.kind != 9) then false
      else if (hn && !(isName v.name)) || (!hn && !(v.name == []) && !(cl && isName v.name)) then false
      else if !(cl == !(v.proc == [])) || (cl && !(isName v.proc)) || (!cl && decide ((v.args.length : Int) > 0)) then false
      else if !(Ar.mays v.args) then false else ((v.thn.length : Int) == 0 || v.kind == 5 || v.kind == 6) && ((v.els.length : Int) == 0 || v.kind == 5)) = p) :
    Sem Try.prog B 178 QQ6 Q [(1, .ptr 0 0), (3, .bool hx), (4, .bool hn), (5, .bool cl)] ⟨[encSm v], []⟩ := by
  have hns := fun s => names_s' hf.labl hf.lab s
  have hm := MayExpr_s hf.x hf.xt
  have hlt : 0 < 1 := Nat.zero_lt_one
  have hget : 0 < 1 := Nat.zero_lt_one
  have hpu : 0 < 1 := Nat.zero_lt_one
  have hinc : 0 < 1 := Nat.zero_lt_one
  refine Sem.seqW ?_
  repeat' (first
 | simp only [go_sem, hlt, hget, hpu, hinc, Int.reduceLE, ↓reduceIte, reduceCtorEq, Nat.reduceEqDiff, Nat.reduceLeDiff, Nat.reduceAdd, Nat.reduceMul, Nat.reduceSub, Nat.reduceLT]
 | (with_reducible refine CU (hns _) ?_)
 | (with_reducible refine CU (hm _) ?_)
 | (with_reducible refine CU (none_s _ _) ?_)
 | (with_reducible first | refine CB_ofT (by assumption) fun hc => ?_ | refine CB_ofF (by assumption) fun hc => ?_ | refine CB_split (fun hc => ?_) fun hc => ?_) <;> (try simp only [hc, bs, ↓reduceIte] at h) <;> (try simp only [hc])
 | ((with_reducible first | refine leafR hQ ?_ | refine leafN hQ ?_); (try cases h); simp only [resL, oneD, Option.some.injEq, exists_eq_left', go_sem, hlt, hget, hpu, hinc, Int.reduceLE, ↓reduceIte, reduceCtorEq, Nat.reduceEqDiff, Nat.reduceLeDiff, Nat.reduceAdd, Nat.reduceMul, Nat.reduceSub, Nat.reduceLT]; repeat' (first | exact Ok.out | with_reducible refine And.intro ?_ ?_ | (simp; done)))
 | (cases h; replace h := hr; clear hr; (try simp only [bs, ↓reduceIte] at h))
 | (cases h; done))
  all_goals
    refine Sem.re _ _ 1 0 (by rw [hB]; exact Nat.le_of_ble_eq_true rfl) (by rw [hB]; exact Nat.le_of_ble_eq_true rfl) ?_ ?_ (one_2 hf hB hQ h)
    · (simp only [go_sem, hlt, hget, hpu, hinc, Int.reduceLE, ↓reduceIte, reduceCtorEq, Nat.reduceEqDiff, Nat.reduceLeDiff, Nat.reduceAdd, Nat.reduceMul, Nat.reduceSub, Nat.reduceLT]; repeat' (first | exact Ok.out | with_reducible refine And.intro ?_ ?_))
    · (simp only [go_sem, hlt, hget, hpu, hinc, Int.reduceLE, ↓reduceIte, reduceCtorEq, Nat.reduceEqDiff, Nat.reduceLeDiff, Nat.reduceAdd, Nat.reduceMul, Nat.reduceSub, Nat.reduceLT]; repeat' (first | exact Ok.out | with_reducible refine And.intro ?_ ?_))

theorem one_c {hx hn : Bool} (hf : v.Fine) (hB : B.s = ⟨[], []⟩) (hQ : retF 0 0 [(2, none)] (.bool p) ⟨[], []⟩ = Q) (ex : v.hasX = hx) (en : v.hasName = hn) (h : v.one = p) :
    Sem Try.prog B 178 QQ7 Q [(1, .ptr 0 0), (3, .bool hx), (4, .bool hn)] ⟨[encSm v], []⟩ := by
  unfold Sm.one at h
  rw [ex, en] at h
  have hlt : 0 < 1 := Nat.zero_lt_one
  have hget : 0 < 1 := Nat.zero_lt_one
  have hpu : 0 < 1 := Nat.zero_lt_one
  have hinc : 0 < 1 := Nat.zero_lt_one
  refine Sem.seqW ?_
  repeat' (first
 | simp only [go_sem, hlt, hget, hpu, hinc, Int.reduceLE, ↓reduceIte, reduceCtorEq, Nat.reduceEqDiff, Nat.reduceLeDiff, Nat.reduceAdd, Nat.reduceMul, Nat.reduceSub, Nat.reduceLT]
 | (with_reducible first | refine CB_ofT (by assumption) fun hc => ?_ | refine CB_ofF (by assumption) fun hc => ?_ | refine CB_split (fun hc => ?_) fun hc => ?_) <;> (try simp only [hc, bs, ↓reduceIte] at h) <;> (try simp only [hc])
 | ((with_reducible first | refine leafR hQ ?_ | refine leafN hQ ?_); (try cases h); simp only [resL, oneD, Option.some.injEq, exists_eq_left', go_sem, hlt, hget, hpu, hinc, Int.reduceLE, ↓reduceIte, reduceCtorEq, Nat.reduceEqDiff, Nat.reduceLeDiff, Nat.reduceAdd, Nat.reduceMul, Nat.reduceSub, Nat.reduceLT]; repeat' (first | exact Ok.out | with_reducible refine And.intro ?_ ?_ | (simp; done)))
 | (cases h; replace h := hr; clear hr; (try simp only [bs, ↓reduceIte] at h))
 | (cases h; done))
  refine Sem.re _ _ 1 0 (by rw [hB]; exact Nat.le_of_ble_eq_true rfl) (by rw [hB]; exact Nat.le_of_ble_eq_true rfl) ?_ ?_ (one_1 hf hB hQ h)
  · (simp only [go_sem, hlt, hget, hpu, hinc, Int.reduceLE, ↓reduceIte, reduceCtorEq, Nat.reduceEqDiff, Nat.reduceLeDiff, Nat.reduceAdd, Nat.reduceMul, Nat.reduceSub, Nat.reduceLT, Sm.isCall]; repeat' (first | exact Ok.out | with_reducible refine And.intro ?_ ?_))
  · (simp only [go_sem, hlt, hget, hpu, hinc, Int.reduceLE, ↓reduceIte, reduceCtorEq, Nat.reduceEqDiff, Nat.reduceLeDiff, Nat.reduceAdd, Nat.reduceMul, Nat.reduceSub, Nat.reduceLT, Sm.isCall]; repeat' (first | exact Ok.out | with_reducible refine And.intro ?_ ?_))

theorem one_b {hx : Bool} (hf : v.Fine) (hB : B.s = ⟨[], []⟩) (hQ : retF 0 0 [(2, none)] (.bool p) ⟨[], []⟩ = Q) (ex : v.hasX = hx) (hp : v.one = p) :
    Sem Try.prog B 178 QQ8 Q [(1, .ptr 0 0), (3, .bool hx)] ⟨[encSm v], []⟩ := by
  generalize h : v.hasName = hn
  have hn := h
  unfold Sm.hasName at h
  have hlt : 0 < 1 := Nat.zero_lt_one
  have hget : 0 < 1 := Nat.zero_lt_one
  have hpu : 0 < 1 := Nat.zero_lt_one
  have hinc : 0 < 1 := Nat.zero_lt_one
  refine Sem.seqW ?_
  repeat' (first
 | simp only [go_sem, hlt, hget, hpu, hinc, Int.reduceLE, ↓reduceIte, reduceCtorEq, Nat.reduceEqDiff, Nat.reduceLeDiff, Nat.reduceAdd, Nat.reduceMul, Nat.reduceSub, Nat.reduceLT]
 | (with_reducible first | refine CB_ofT (by assumption) fun hc => ?_ | refine CB_ofF (by assumption) fun hc => ?_ | refine CB_split (fun hc => ?_) fun hc => ?_) <;> (try simp only [hc, bs, ↓reduceIte] at h) <;> (try simp only [hc])
 | ((with_reducible first | refine leafR hQ ?_ | refine leafN hQ ?_); (try cases h); simp only [resL, oneD, Option.some.injEq, exists_eq_left', go_sem, hlt, hget, hpu, hinc, Int.reduceLE, ↓reduceIte, reduceCtorEq, Nat.reduceEqDiff, Nat.reduceLeDiff, Nat.reduceAdd, Nat.reduceMul, Nat.reduceSub, Nat.reduceLT]; repeat' (first | exact Ok.out | with_reducible refine And.intro ?_ ?_ | (simp; done)))
 | (cases h; replace h := hr; clear hr; (try simp only [bs, ↓reduceIte] at h))
 | (cases h; done))
  all_goals
    refine Sem.re _ _ 1 0 (by rw [hB]; exact Nat.le_of_ble_eq_true rfl) (by rw [hB]; exact Nat.le_of_ble_eq_true rfl) ?_ ?_ (one_c hf hB hQ ex hn hp)
    · (simp only [go_sem, hlt, hget, hpu, hinc, Int.reduceLE, ↓reduceIte, reduceCtorEq, Nat.reduceEqDiff, Nat.reduceLeDiff, Nat.reduceAdd, Nat.reduceMul, Nat.reduceSub, Nat.reduceLT, h]; repeat' (first | exact Ok.out | with_reducible refine And.intro ?_ ?_))
    · (simp only [go_sem, hlt, hget, hpu, hinc, Int.reduceLE, ↓reduceIte, reduceCtorEq, Nat.reduceEqDiff, Nat.reduceLeDiff, Nat.reduceAdd, Nat.reduceMul, Nat.reduceSub, Nat.reduceLT, h]; repeat' (first | exact Ok.out | with_reducible refine And.intro ?_ ?_))

theorem one_a (hf : v.Fine) (hB : B.s = ⟨[], []⟩) (hQ : retF 0 0 [(2, none)] (.bool p) ⟨[], []⟩ = Q) (hp : v.one = p) :
    Sem Try.prog B 178 QQ9 Q [(1, .ptr 0 0)] ⟨[encSm v], []⟩ := by
  generalize h : v.hasX = hx
  have ex := h
  unfold Sm.hasX at h
  have hlt : 0 < 1 := Nat.zero_lt_one
  have hget : 0 < 1 := Nat.zero_lt_one
  have hpu : 0 < 1 := Nat.zero_lt_one
  have hinc : 0 < 1 := Nat.zero_lt_one
  refine Sem.seqW ?_
  repeat' (first
 | simp only [go_sem, hlt, hget, hpu, hinc, Int.reduceLE, ↓reduceIte, reduceCtorEq, Nat.reduceEqDiff, Nat.reduceLeDiff, Nat.reduceAdd, Nat.reduceMul, Nat.reduceSub, Nat.reduceLT]
 | (with_reducible first | refine CB_ofT (by assumption) fun hc => ?_ | refine CB_ofF (by assumption) fun hc => ?_ | refine CB_split (fun hc => ?_) fun hc => ?_) <;> (try simp only [hc, bs, ↓reduceIte] at h) <;> (try simp only [hc])
 | ((with_reducible first | refine leafR hQ ?_ | refine leafN hQ ?_); (try cases h); simp only [resL, oneD, Option.some.injEq, exists_eq_left', go_sem, hlt, hget, hpu, hinc, Int.reduceLE, ↓reduceIte, reduceCtorEq, Nat.reduceEqDiff, Nat.reduceLeDiff, Nat.reduceAdd, Nat.reduceMul, Nat.reduceSub, Nat.reduceLT]; repeat' (first | exact Ok.out | with_reducible refine And.intro ?_ ?_ | (simp; done)))
 | (cases h; replace h := hr; clear hr; (try simp only [bs, ↓reduceIte] at h))
 | (cases h; done))
  all_goals
    refine Sem.re _ _ 1 0 (by rw [hB]; exact Nat.le_of_ble_eq_true rfl) (by rw [hB]; exact Nat.le_of_ble_eq_true rfl) ?_ ?_ (one_b hf hB hQ ex hp)
    · (simp only [go_sem, hlt, hget, hpu, hinc, Int.reduceLE, ↓reduceIte, reduceCtorEq, Nat.reduceEqDiff, Nat.reduceLeDiff, Nat.reduceAdd, Nat.reduceMul, Nat.reduceSub, Nat.reduceLT, h]; repeat' (first | exact Ok.out | with_reducible refine And.intro ?_ ?_))
    · (simp only [go_sem, hlt, hget, hpu, hinc, Int.reduceLE, ↓reduceIte, reduceCtorEq, Nat.reduceEqDiff, Nat.reduceLeDiff, Nat.reduceAdd, Nat.reduceMul, Nat.reduceSub, Nat.reduceLT, h]; repeat' (first | exact Ok.out | with_reducible refine And.intro ?_ ?_))
end

theorem Fun.goS {P : Program} {f : FuncId} {nt : Nat} {res : List (Nat × Option (Bool × Nat))} {body : AC} {args : List D} {s : St} {d : D} {s' : St} (h0 : Has P f nt res body) (hl : Nat.ble args.length nt = true)
    (h : ∀ (B : Base) (Q : Exit → Tm → St → Prop), B.s = s → retF s.objs.length s.toks.length res d s' = Q → Sem P B nt body Q (argTm 0 args) s) : Fun P f args s d s' := by
  obtain ⟨fn, hf, hc⟩ := h0
  exact Fun.intro ⟨fn, hf, hc⟩ (Nat.le_of_ble_eq_true hl) fun B hB => h B _ hB rfl

theorem one_s {v : Sm} (hf : v.Fine) (s : St) : Fun Try.prog n_ref3_one [.agg (encSm v)] s (.bool v.one) s := by
  refine Fun.pure ?_ (by simp [D.oks, D.ok, okSm]) rfl s
  unfold S0
  refine Fun.goS has_ref3_one rfl fun B Q hB hQ => ?_
  have hlt : 0 < 1 := Nat.zero_lt_one
  have hget : 0 < 1 := Nat.zero_lt_one
  have hpu : 0 < 1 := Nat.zero_lt_one
  have hinc : 0 < 1 := Nat.zero_lt_one
  refine Sem.seqW ?_
  repeat' (first
 | simp only [go_sem, hlt, hget, hpu, hinc, Int.reduceLE, ↓reduceIte, reduceCtorEq, Nat.reduceEqDiff, Nat.reduceLeDiff, Nat.reduceAdd, Nat.reduceMul, Nat.reduceSub, Nat.reduceLT]
 | (with_reducible first | refine CB_ofT (by assumption) fun hc => ?_ | refine CB_ofF (by assumption) fun hc => ?_ | refine CB_split (fun hc => ?_) fun hc => ?_) <;> (try simp only [hc, bs, ↓reduceIte] at h) <;> (try simp only [hc])
 | ((with_reducible first | refine leafR hQ ?_ | refine leafN hQ ?_); (try cases h); simp only [resL, oneD, Option.some.injEq, exists_eq_left', go_sem, hlt, hget, hpu, hinc, Int.reduceLE, ↓reduceIte, reduceCtorEq, Nat.reduceEqDiff, Nat.reduceLeDiff, Nat.reduceAdd, Nat.reduceMul, Nat.reduceSub, Nat.reduceLT]; repeat' (first | exact Ok.out | with_reducible refine And.intro ?_ ?_ | (simp; done)))
 | (cases h; replace h := hr; clear hr; (try simp only [bs, ↓reduceIte] at h))
 | (cases h; done))
  refine Sem.re _ _ 1 0 (by rw [hB]; exact Nat.le_of_ble_eq_true rfl) (by rw [hB]; exact Nat.le_of_ble_eq_true rfl) ?_ ?_ (one_a hf hB hQ rfl)
  · (simp only [go_sem, hlt, hget, hpu, hinc, Int.reduceLE, ↓reduceIte, reduceCtorEq, Nat.reduceEqDiff, Nat.reduceLeDiff, Nat.reduceAdd, Nat.reduceMul, Nat.reduceSub, Nat.reduceLT]; repeat' (first | exact Ok.out | with_reducible refine And.intro ?_ ?_))
  · (simp only [go_sem, hlt, hget, hpu, hinc, Int.reduceLE, ↓reduceIte, reduceCtorEq, Nat.reduceEqDiff, Nat.reduceLeDiff, Nat.reduceAdd, Nat.reduceMul, Nat.reduceSub, Nat.reduceLT]; repeat' (first | exact Ok.out | with_reducible refine And.intro ?_ ?_))

end Go.Abs

/-! RefMay3 -/

namespace Go.Abs

set_option maxRecDepth 8000
set_option linter.unusedSimpArgs false
set_option linter.unusedVariables false
open Go.Proofs

def encIt (i : It) : List D := [.int .i64 i.s.id, .int .i64 i.s.kind, .slice .shared 1 (i.s.labels.map encStr), .str i.s.name, .str i.s.proc,
      .int .i64 i.s.x.op, .int .i64 i.s.x.n, .str i.s.x.name, .slice .shared 4 (i.s.x.kids.map encEx), .bool i.s.has, .slice .shared 6 (i.s.args.map encAr), .slice .shared 13 (i.s.thn.map encSm), .slice .shared 13 (i.s.els.map encSm), .int .i64 i.deep, .int .i64 i.inn, .bool i.els]
theorem okIt (i : It) : D.oks 0 0 (encIt i) = true := by simp [encIt, D.oks, D.ok, Tag.ok, okrStr, okrEx, okrAr, okrSm]
theorem okrIt (l : List It) : D.okr 0 0 (l.map encIt) = true := okr_map okIt l
theorem fgrIt (n m : Nat) (l : List It) : D.fgr n m (l.map encIt) = l.map encIt := fgr_map okIt n m l
theorem fgsIt (n m : Nat) (i : It) : D.fgs n m (encIt i) = encIt i := fgs_ok n m _ (okIt i)
theorem lenIt (x : It) : (encIt x).length = 16 := nd rfl
theorem takeIt (x : It) : List.take 13 (encIt x) = encSm x.s := by simp only [encIt, encSm_eq]; rfl
theorem cellIt_0 (x : It) : (encIt x)[0]? = some (.int .i64 x.s.id) := nd rfl
theorem cellIt_13 (x : It) : (encIt x)[13]? = some (.int .i64 x.deep) := nd rfl
theorem mkIt (s : Sm) (d n : Int) (e : Bool) : encIt ⟨s, d, n, e⟩ = [.int .i64 s.id, .int .i64 s.kind, .slice .shared 1 (s.labels.map encStr), .str s.name, .str s.proc,
      .int .i64 s.x.op, .int .i64 s.x.n, .str s.x.name, .slice .shared 4 (s.x.kids.map encEx), .bool s.has, .slice .shared 6 (s.args.map encAr), .slice .shared 13 (s.thn.map encSm), .slice .shared 13 (s.els.map encSm), .int .i64 d, .int .i64 n, .bool e] := nd rfl
attribute [go_sem] fgrIt fgsIt lenIt takeIt cellIt_0 cellIt_13
theorem flatS_eq (deep inn : Int) (els : Bool) (out : List It) (s : Sm) :
    flatS deep inn els out s = if decide (deep ≤ 12) then flatL (deep + 1) s.id true (flatL (deep + 1) s.id false (out ++ [⟨s, deep, inn, els⟩]) s.thn) s.els else out ++ [⟨s, deep, inn, els⟩] := by
  cases s; simp only [flatS]

mutual
theorem flatS_len (deep inn : Int) (els : Bool) (out : List It) (h : out.length ≤ 200) : ∀ s : Sm, (flatS deep inn els out s).length ≤ 201
  | ⟨id, kind, labels, name, proc, x, has, args, thn, e⟩ => by
    simp only [flatS]
    have h1 : (out ++ [(⟨⟨id, kind, labels, name, proc, x, has, args, thn, e⟩, deep, inn, els⟩ : It)]).length ≤ 201 := by simp; omega
    split
    · exact flatL_len _ _ _ _ (flatL_len _ _ _ _ h1 thn) e
    · exact h1
theorem flatL_len (deep inn : Int) (els : Bool) (out : List It) (h : out.length ≤ 201) : ∀ l : List Sm, (flatL deep inn els out l).length ≤ 201
  | [] => by simpa only [flatL] using h
  | s :: l => by
    simp only [flatL]
    split
    · rename_i hc
      simp only [decide_eq_true_eq] at hc
      exact flatL_len deep inn els _ (flatS_len _ _ _ _ (by omega) s) l
    · exact h
end

abbrev C_flat (N : Nat) : Prop := ∀ (l : List Sm) (deep inn : Int) (els : Bool) (out : List It), Sm.sizes l < N → 0 ≤ deep → deep ≤ 13 → out.length ≤ 201 → ∀ {s : St} {t : Nat}, s.toks[t]? = some (some out.length) →
  Fun Try.prog n_ref3_flat [.slice .shared 13 (l.map encSm), .int .i64 deep, .int .i64 inn, .bool els, .slice (.tok t) 16 (out.map encIt)] s (.slice (.tok t) 16 ((flatL deep inn els out l).map encIt)) ⟨s.objs, s.toks.set t (some (flatL deep inn els out l).length)⟩

theorem flat_0 {N : Nat} (hN : N < 4611686018427387904) (ih : C_flat N) {l : List Sm} {deep inn : Int} {els : Bool} {out : List It} (hs : Sm.sizes l < N + 1) (hd0 : 0 ≤ deep) (hd : deep ≤ 13) (ho : out.length ≤ 201) :
    Fun Try.prog n_ref3_flat [.slice .shared 13 (l.map encSm), .int .i64 deep, .int .i64 inn, .bool els, .slice (.tok 0) 16 (out.map encIt)] ⟨[], [some out.length]⟩ (.slice (.tok 0) 16 ((flatL deep inn els out l).map encIt)) ⟨[], [some (flatL deep inn els out l).length]⟩ := by
  generalize hR : flatL deep inn els out l = R
  refine Fun.go has_ref3_flat rfl fun B Q hB hQ => ?_
  have hlt : 0 < 1 := Nat.zero_lt_one
  have hget : 0 < 1 := Nat.zero_lt_one
  have hpu : 0 < 1 := Nat.zero_lt_one
  have hinc : 0 < 1 := Nat.zero_lt_one
  repeat' (first
 | simp only [go_sem, hlt, hget, hpu, hinc, Int.reduceLE, ↓reduceIte, reduceCtorEq, Nat.reduceEqDiff, Nat.reduceLeDiff, Nat.reduceAdd, Nat.reduceMul, Nat.reduceSub, Nat.reduceLT]
 | (with_reducible first | refine CB_ofT (by assumption) fun hc => ?_ | refine CB_ofF (by assumption) fun hc => ?_ | refine CB_split (fun hc => ?_) fun hc => ?_) <;> (try simp only [hc, bs, ↓reduceIte] at h) <;> (try simp only [hc])
 | ((with_reducible first | refine leafR hQ ?_ | refine leafN hQ ?_); (try cases h); simp only [resL, oneD, Option.some.injEq, exists_eq_left', go_sem, hlt, hget, hpu, hinc, Int.reduceLE, ↓reduceIte, reduceCtorEq, Nat.reduceEqDiff, Nat.reduceLeDiff, Nat.reduceAdd, Nat.reduceMul, Nat.reduceSub, Nat.reduceLT]; repeat' (first | exact Ok.out | with_reducible refine And.intro ?_ ?_ | (simp; done)))
 | (cases h; replace h := hr; clear hr; (try simp only [bs, ↓reduceIte] at h))
 | (cases h; done))
  refine SemL.re _ _ 0 1 (by rw [hB]; exact Nat.le_of_ble_eq_true rfl) (by rw [hB]; exact Nat.le_of_ble_eq_true rfl) ?_ ?_ (SemL.ind (ι := List Sm × Nat × List It × Nat) (fun i => l.drop i.2.1 = i.1 ∧ flatL deep inn els i.2.2.1 i.1 = R ∧ i.2.2.1.length ≤ 201 ∧ i.2.2.2 = i.2.2.1.length) (fun i => i.1.length)
    (fun i => [(0, .slice .shared 13 (l.map encSm)), (1, .int .i64 deep), (2, .int .i64 inn), (3, .bool els), (4, .slice (.tok 0) 16 (i.2.2.1.map encIt)), (11, .int .i64 (i.2.1 : Int))]) (fun i => ⟨[], [some i.2.2.2]⟩) ?_ (l, 0, out, out.length) ⟨rfl, hR, ho, rfl⟩)
  · (simp only [go_sem, hlt, hget, hpu, hinc, Int.reduceLE, ↓reduceIte, reduceCtorEq, Nat.reduceEqDiff, Nat.reduceLeDiff, Nat.reduceAdd, Nat.reduceMul, Nat.reduceSub, Nat.reduceLT]; repeat' (first | exact Ok.out | with_reducible refine And.intro ?_ ?_))
  · (simp only [go_sem, hlt, hget, hpu, hinc, Int.reduceLE, ↓reduceIte, reduceCtorEq, Nat.reduceEqDiff, Nat.reduceLeDiff, Nat.reduceAdd, Nat.reduceMul, Nat.reduceSub, Nat.reduceLT]; repeat' (first | exact Ok.out | with_reducible refine And.intro ?_ ?_))
  rintro ⟨rest, k, out, n⟩ ⟨h1, h2, h3, h4⟩ IH
  dsimp only at h1 h2 h3 h4
  subst h4
  have hlen : l.length < 4611686018427387904 := by have := Sm.sizes_len l; omega
  cases rest with
  | nil =>
    have hlt := drop_nil h1
    simp only [flatL] at h2
    subst h2
    repeat' (first
 | simp only [go_sem, hlt, hget, hpu, hinc, Int.reduceLE, ↓reduceIte, reduceCtorEq, Nat.reduceEqDiff, Nat.reduceLeDiff, Nat.reduceAdd, Nat.reduceMul, Nat.reduceSub, Nat.reduceLT]
 | (with_reducible first | refine CB_ofT (by assumption) fun hc => ?_ | refine CB_ofF (by assumption) fun hc => ?_ | refine CB_split (fun hc => ?_) fun hc => ?_) <;> (try simp only [hc, bs, ↓reduceIte] at h) <;> (try simp only [hc])
 | ((with_reducible first | refine leafR hQ ?_ | refine leafN hQ ?_); (try cases h); simp only [resL, oneD, Option.some.injEq, exists_eq_left', go_sem, hlt, hget, hpu, hinc, Int.reduceLE, ↓reduceIte, reduceCtorEq, Nat.reduceEqDiff, Nat.reduceLeDiff, Nat.reduceAdd, Nat.reduceMul, Nat.reduceSub, Nat.reduceLT]; repeat' (first | exact Ok.out | with_reducible refine And.intro ?_ ?_ | (simp; done)))
 | (cases h; replace h := hr; clear hr; (try simp only [bs, ↓reduceIte] at h))
 | (cases h; done))
  | cons v rest =>
    obtain ⟨hget, g2, hlt, g4⟩ := drop_cons h1
    have hk2 : k < 4611686018427387904 := by omega
    have hv := Sm.sizes_mem (List.mem_of_getElem? hget)
    have hvs : Sm.sizes v.thn < N ∧ Sm.sizes v.els < N := by
      obtain ⟨_, _, _, _, _, _, _, _, _, _⟩ := v
      simp only [Sm.size] at hv ⊢; omega
    simp only [flatL] at h2
    by_cases hc : out.length ≤ 200
    · have c1 : decide ((out.length : Int) ≤ 200) = true := by simp; omega
      simp only [c1, ↓reduceIte, flatS_eq] at h2
      have hpu : (out.length + 1) * 233 ≤ maxStr := by unfold maxStr; omega
      have hl2 : (out ++ [(⟨v, deep, inn, els⟩ : It)]).length ≤ 201 := by simp; omega
      have hw : IntKind.wrap .i64 (deep + 1) = deep + 1 := wrap_ok (by omega) (by omega)
      by_cases hd12 : deep ≤ 12
      · have c2 : decide (deep ≤ 12) = true := by simp; omega
        simp only [c2, ↓reduceIte] at h2
        have f1 := fun {s : St} {t : Nat} (ht : s.toks[t]? = some (some (out ++ [(⟨v, deep, inn, els⟩ : It)]).length)) => ih v.thn (deep + 1) v.id false _ hvs.1 (by omega) (by omega) hl2 ht
        have f2 := fun {s : St} {t : Nat} (ht : s.toks[t]? = some (some (flatL (deep + 1) v.id false (out ++ [(⟨v, deep, inn, els⟩ : It)]) v.thn).length)) => ih v.els (deep + 1) v.id true _ hvs.2 (by omega) (by omega) (flatL_len _ _ _ _ hl2 _) ht
        simp only [List.map_append, List.map_cons, List.map_nil, mkIt, List.length_append, List.length_cons, List.length_nil] at f1
        repeat' (first
 | simp only [go_sem, hlt, hget, hpu, hinc, Int.reduceLE, ↓reduceIte, reduceCtorEq, Nat.reduceEqDiff, Nat.reduceLeDiff, Nat.reduceAdd, Nat.reduceMul, Nat.reduceSub, Nat.reduceLT, c1, c2, hw, encSm_eq]
 | (with_reducible refine CU (f1 (by with_unfolding_all rfl)) ?_)
 | (with_reducible refine CU (f2 (by with_unfolding_all rfl)) ?_)
 | (with_reducible first | refine CB_ofT (by assumption) fun hc => ?_ | refine CB_ofF (by assumption) fun hc => ?_ | refine CB_split (fun hc => ?_) fun hc => ?_) <;> (try simp only [hc, bs, ↓reduceIte] at h) <;> (try simp only [hc])
 | ((with_reducible first | refine leafR hQ ?_ | refine leafN hQ ?_); (try cases h); simp only [resL, oneD, Option.some.injEq, exists_eq_left', go_sem, hlt, hget, hpu, hinc, Int.reduceLE, ↓reduceIte, reduceCtorEq, Nat.reduceEqDiff, Nat.reduceLeDiff, Nat.reduceAdd, Nat.reduceMul, Nat.reduceSub, Nat.reduceLT, c1, c2, hw, encSm_eq]; repeat' (first | exact Ok.out | with_reducible refine And.intro ?_ ?_ | (simp; done)))
 | (cases h; replace h := hr; clear hr; (try simp only [bs, ↓reduceIte] at h))
 | (cases h; done))
        refine SemL.re _ _ 0 1 (by rw [hB]; exact Nat.le_of_ble_eq_true rfl) (by rw [hB]; exact Nat.le_of_ble_eq_true rfl) ?_ ?_ (IH (rest, k + 1, _, _) ⟨g2, h2, flatL_len _ _ _ _ (flatL_len _ _ _ _ hl2 _) _, rfl⟩ (Nat.lt_succ_self _))
        · (simp only [go_sem, hlt, hget, hpu, hinc, Int.reduceLE, ↓reduceIte, reduceCtorEq, Nat.reduceEqDiff, Nat.reduceLeDiff, Nat.reduceAdd, Nat.reduceMul, Nat.reduceSub, Nat.reduceLT, wrap_inc hk2]; repeat' (first | exact Ok.out | with_reducible refine And.intro ?_ ?_))
        · (simp only [go_sem, hlt, hget, hpu, hinc, Int.reduceLE, ↓reduceIte, reduceCtorEq, Nat.reduceEqDiff, Nat.reduceLeDiff, Nat.reduceAdd, Nat.reduceMul, Nat.reduceSub, Nat.reduceLT, wrap_inc hk2]; repeat' (first | exact Ok.out | with_reducible refine And.intro ?_ ?_))
      · have c2 : decide (deep ≤ 12) = false := by simp; omega
        simp only [c2, Bool.false_eq_true, ↓reduceIte] at h2
        repeat' (first
 | simp only [go_sem, hlt, hget, hpu, hinc, Int.reduceLE, ↓reduceIte, reduceCtorEq, Nat.reduceEqDiff, Nat.reduceLeDiff, Nat.reduceAdd, Nat.reduceMul, Nat.reduceSub, Nat.reduceLT, c1, c2, encSm_eq]
 | (with_reducible first | refine CB_ofT (by assumption) fun hc => ?_ | refine CB_ofF (by assumption) fun hc => ?_ | refine CB_split (fun hc => ?_) fun hc => ?_) <;> (try simp only [hc, bs, ↓reduceIte] at h) <;> (try simp only [hc])
 | ((with_reducible first | refine leafR hQ ?_ | refine leafN hQ ?_); (try cases h); simp only [resL, oneD, Option.some.injEq, exists_eq_left', go_sem, hlt, hget, hpu, hinc, Int.reduceLE, ↓reduceIte, reduceCtorEq, Nat.reduceEqDiff, Nat.reduceLeDiff, Nat.reduceAdd, Nat.reduceMul, Nat.reduceSub, Nat.reduceLT, c1, c2, encSm_eq]; repeat' (first | exact Ok.out | with_reducible refine And.intro ?_ ?_ | (simp; done)))
 | (cases h; replace h := hr; clear hr; (try simp only [bs, ↓reduceIte] at h))
 | (cases h; done))
        refine SemL.re _ _ 0 1 (by rw [hB]; exact Nat.le_of_ble_eq_true rfl) (by rw [hB]; exact Nat.le_of_ble_eq_true rfl) ?_ ?_ (IH (rest, k + 1, out ++ [⟨v, deep, inn, els⟩], out.length + 1) ⟨g2, h2, hl2, by simp⟩ (Nat.lt_succ_self _))
        · (simp only [go_sem, hlt, hget, hpu, hinc, Int.reduceLE, ↓reduceIte, reduceCtorEq, Nat.reduceEqDiff, Nat.reduceLeDiff, Nat.reduceAdd, Nat.reduceMul, Nat.reduceSub, Nat.reduceLT, wrap_inc hk2, mkIt, List.map_append, List.map_cons, List.map_nil]; repeat' (first | exact Ok.out | with_reducible refine And.intro ?_ ?_))
        · (simp only [go_sem, hlt, hget, hpu, hinc, Int.reduceLE, ↓reduceIte, reduceCtorEq, Nat.reduceEqDiff, Nat.reduceLeDiff, Nat.reduceAdd, Nat.reduceMul, Nat.reduceSub, Nat.reduceLT, wrap_inc hk2, mkIt, List.map_append, List.map_cons, List.map_nil]; repeat' (first | exact Ok.out | with_reducible refine And.intro ?_ ?_))
    · have c1 : decide ((out.length : Int) ≤ 200) = false := by simp; omega
      simp only [c1, Bool.false_eq_true, ↓reduceIte] at h2
      subst h2
      repeat' (first
 | simp only [go_sem, hlt, hget, hpu, hinc, Int.reduceLE, ↓reduceIte, reduceCtorEq, Nat.reduceEqDiff, Nat.reduceLeDiff, Nat.reduceAdd, Nat.reduceMul, Nat.reduceSub, Nat.reduceLT, c1]
 | (with_reducible first | refine CB_ofT (by assumption) fun hc => ?_ | refine CB_ofF (by assumption) fun hc => ?_ | refine CB_split (fun hc => ?_) fun hc => ?_) <;> (try simp only [hc, bs, ↓reduceIte] at h) <;> (try simp only [hc])
 | ((with_reducible first | refine leafR hQ ?_ | refine leafN hQ ?_); (try cases h); simp only [resL, oneD, Option.some.injEq, exists_eq_left', go_sem, hlt, hget, hpu, hinc, Int.reduceLE, ↓reduceIte, reduceCtorEq, Nat.reduceEqDiff, Nat.reduceLeDiff, Nat.reduceAdd, Nat.reduceMul, Nat.reduceSub, Nat.reduceLT, c1]; repeat' (first | exact Ok.out | with_reducible refine And.intro ?_ ?_ | (simp; done)))
 | (cases h; replace h := hr; clear hr; (try simp only [bs, ↓reduceIte] at h))
 | (cases h; done))

theorem flat_all : ∀ N, N < 4611686018427387904 → C_flat N := by
  intro N
  induction N with
  | zero => exact fun _ l deep inn els out h => absurd h (Nat.not_lt_zero _)
  | succ N ih =>
    intro h l deep inn els out hs hd0 hd ho s t ht
    exact (flat_0 (by omega) (ih (by omega)) hs hd0 hd ho).tokF (pre := [_, _, _, _]) (post := []) (by simp [D.oks, D.ok, Tag.ok, okrSm]) rfl (okrIt out) (okrIt _) ht

theorem flat_nil {l : List Sm} (hs : Sm.sizes l < 4611686018427387000) (s : St) :
    Fun Try.prog n_ref3_flat [.slice .shared 13 (l.map encSm), .int .i64 1, .int .i64 0, .bool false, .slice .full 0 []] s (.slice .shared 16 ((flatL 1 0 false [] l).map encIt)) s := by
  refine Fun.pure ?_ (by simp [D.oks, D.ok, Tag.ok, okrSm, D.okr]) (by simp [D.ok, Tag.ok, okrIt]) s
  obtain ⟨N, hN⟩ : ∃ N, N = Sm.sizes l := ⟨_, rfl⟩
  have ih := flat_all N (by omega)
  replace hs : Sm.sizes l < N + 1 ∧ N < 4611686018427387000 := by omega
  obtain ⟨hs, hN⟩ := hs
  generalize hR : flatL 1 0 false [] l = R
  obtain ⟨deep, hdeep⟩ : ∃ d : Int, d = 1 := ⟨_, rfl⟩
  obtain ⟨inn, hinn⟩ : ∃ d : Int, d = 0 := ⟨_, rfl⟩
  obtain ⟨els, hels⟩ : ∃ d : Bool, d = false := ⟨_, rfl⟩
  rw [← hdeep, ← hinn, ← hels] at hR
  rw [← hdeep, ← hinn, ← hels]
  have hd0 : 0 ≤ deep := by omega
  have hd : deep ≤ 13 := by omega
  clear hdeep hinn hels
  have ho : ([] : List It).length ≤ 201 := Nat.zero_le _
  unfold S0
  refine Fun.go has_ref3_flat rfl fun B Q hB hQ => ?_
  have hlt : 0 < 1 := Nat.zero_lt_one
  have hget : 0 < 1 := Nat.zero_lt_one
  have hpu : 0 < 1 := Nat.zero_lt_one
  have hinc : 0 < 1 := Nat.zero_lt_one
  repeat' (first
 | simp only [go_sem, hlt, hget, hpu, hinc, Int.reduceLE, ↓reduceIte, reduceCtorEq, Nat.reduceEqDiff, Nat.reduceLeDiff, Nat.reduceAdd, Nat.reduceMul, Nat.reduceSub, Nat.reduceLT]
 | (with_reducible first | refine CB_ofT (by assumption) fun hc => ?_ | refine CB_ofF (by assumption) fun hc => ?_ | refine CB_split (fun hc => ?_) fun hc => ?_) <;> (try simp only [hc, bs, ↓reduceIte] at h) <;> (try simp only [hc])
 | ((with_reducible first | refine leafR hQ ?_ | refine leafN hQ ?_); (try cases h); simp only [resL, oneD, Option.some.injEq, exists_eq_left', go_sem, hlt, hget, hpu, hinc, Int.reduceLE, ↓reduceIte, reduceCtorEq, Nat.reduceEqDiff, Nat.reduceLeDiff, Nat.reduceAdd, Nat.reduceMul, Nat.reduceSub, Nat.reduceLT]; repeat' (first | exact Ok.out | with_reducible refine And.intro ?_ ?_ | (simp; done)))
 | (cases h; replace h := hr; clear hr; (try simp only [bs, ↓reduceIte] at h))
 | (cases h; done))
  refine SemL.tokT 4 16 rfl ?_
  simp only [go_sem, hlt, hget, hpu, hinc, Int.reduceLE, ↓reduceIte, reduceCtorEq, Nat.reduceEqDiff, Nat.reduceLeDiff, Nat.reduceAdd, Nat.reduceMul, Nat.reduceSub, Nat.reduceLT]
  refine SemL.re _ _ 0 1 (by rw [hB]; exact Nat.le_of_ble_eq_true rfl) (by rw [hB]; exact Nat.le_of_ble_eq_true rfl) ?_ ?_ (SemL.ind (ι := List Sm × Nat × List It × Nat) (fun i => l.drop i.2.1 = i.1 ∧ flatL deep inn els i.2.2.1 i.1 = R ∧ i.2.2.1.length ≤ 201 ∧ i.2.2.2 = i.2.2.1.length) (fun i => i.1.length)
    (fun i => [(0, .slice .shared 13 (l.map encSm)), (1, .int .i64 deep), (2, .int .i64 inn), (3, .bool els), (4, .slice (.tok 0) 16 (i.2.2.1.map encIt)), (11, .int .i64 (i.2.1 : Int))]) (fun i => ⟨[], [some i.2.2.2]⟩) ?_ (l, 0, [], 0) ⟨rfl, hR, ho, rfl⟩)
  · (simp only [go_sem, hlt, hget, hpu, hinc, Int.reduceLE, ↓reduceIte, reduceCtorEq, Nat.reduceEqDiff, Nat.reduceLeDiff, Nat.reduceAdd, Nat.reduceMul, Nat.reduceSub, Nat.reduceLT]; repeat' (first | exact Ok.out | with_reducible refine And.intro ?_ ?_))
  · (simp only [go_sem, hlt, hget, hpu, hinc, Int.reduceLE, ↓reduceIte, reduceCtorEq, Nat.reduceEqDiff, Nat.reduceLeDiff, Nat.reduceAdd, Nat.reduceMul, Nat.reduceSub, Nat.reduceLT]; repeat' (first | exact Ok.out | with_reducible refine And.intro ?_ ?_))
  rintro ⟨rest, k, out, n⟩ ⟨h1, h2, h3, h4⟩ IH
  dsimp only at h1 h2 h3 h4
  subst h4
  have hlen : l.length < 4611686018427387904 := by have := Sm.sizes_len l; omega
  cases rest with
  | nil =>
    have hlt := drop_nil h1
    simp only [flatL] at h2
    subst h2
    repeat' (first
 | simp only [go_sem, hlt, hget, hpu, hinc, Int.reduceLE, ↓reduceIte, reduceCtorEq, Nat.reduceEqDiff, Nat.reduceLeDiff, Nat.reduceAdd, Nat.reduceMul, Nat.reduceSub, Nat.reduceLT]
 | (with_reducible first | refine CB_ofT (by assumption) fun hc => ?_ | refine CB_ofF (by assumption) fun hc => ?_ | refine CB_split (fun hc => ?_) fun hc => ?_) <;> (try simp only [hc, bs, ↓reduceIte] at h) <;> (try simp only [hc])
 | ((with_reducible first | refine leafR hQ ?_ | refine leafN hQ ?_); (try cases h); simp only [resL, oneD, Option.some.injEq, exists_eq_left', go_sem, hlt, hget, hpu, hinc, Int.reduceLE, ↓reduceIte, reduceCtorEq, Nat.reduceEqDiff, Nat.reduceLeDiff, Nat.reduceAdd, Nat.reduceMul, Nat.reduceSub, Nat.reduceLT]; repeat' (first | exact Ok.out | with_reducible refine And.intro ?_ ?_ | (simp; done)))
 | (cases h; replace h := hr; clear hr; (try simp only [bs, ↓reduceIte] at h))
 | (cases h; done))
  | cons v rest =>
    obtain ⟨hget, g2, hlt, g4⟩ := drop_cons h1
    have hk2 : k < 4611686018427387904 := by omega
    have hv := Sm.sizes_mem (List.mem_of_getElem? hget)
    have hvs : Sm.sizes v.thn < N ∧ Sm.sizes v.els < N := by
      obtain ⟨_, _, _, _, _, _, _, _, _, _⟩ := v
      simp only [Sm.size] at hv ⊢; omega
    simp only [flatL] at h2
    by_cases hc : out.length ≤ 200
    · have c1 : decide ((out.length : Int) ≤ 200) = true := by simp; omega
      simp only [c1, ↓reduceIte, flatS_eq] at h2
      have hpu : (out.length + 1) * 233 ≤ maxStr := by unfold maxStr; omega
      have hl2 : (out ++ [(⟨v, deep, inn, els⟩ : It)]).length ≤ 201 := by simp; omega
      have hw : IntKind.wrap .i64 (deep + 1) = deep + 1 := wrap_ok (by omega) (by omega)
      by_cases hd12 : deep ≤ 12
      · have c2 : decide (deep ≤ 12) = true := by simp; omega
        simp only [c2, ↓reduceIte] at h2
        have f1 := fun {s : St} {t : Nat} (ht : s.toks[t]? = some (some (out ++ [(⟨v, deep, inn, els⟩ : It)]).length)) => ih v.thn (deep + 1) v.id false _ hvs.1 (by omega) (by omega) hl2 ht
        have f2 := fun {s : St} {t : Nat} (ht : s.toks[t]? = some (some (flatL (deep + 1) v.id false (out ++ [(⟨v, deep, inn, els⟩ : It)]) v.thn).length)) => ih v.els (deep + 1) v.id true _ hvs.2 (by omega) (by omega) (flatL_len _ _ _ _ hl2 _) ht
        simp only [List.map_append, List.map_cons, List.map_nil, mkIt, List.length_append, List.length_cons, List.length_nil] at f1
        repeat' (first
 | simp only [go_sem, hlt, hget, hpu, hinc, Int.reduceLE, ↓reduceIte, reduceCtorEq, Nat.reduceEqDiff, Nat.reduceLeDiff, Nat.reduceAdd, Nat.reduceMul, Nat.reduceSub, Nat.reduceLT, c1, c2, hw, encSm_eq]
 | (with_reducible refine CU (f1 (by with_unfolding_all rfl)) ?_)
 | (with_reducible refine CU (f2 (by with_unfolding_all rfl)) ?_)
 | (with_reducible first | refine CB_ofT (by assumption) fun hc => ?_ | refine CB_ofF (by assumption) fun hc => ?_ | refine CB_split (fun hc => ?_) fun hc => ?_) <;> (try simp only [hc, bs, ↓reduceIte] at h) <;> (try simp only [hc])
 | ((with_reducible first | refine leafR hQ ?_ | refine leafN hQ ?_); (try cases h); simp only [resL, oneD, Option.some.injEq, exists_eq_left', go_sem, hlt, hget, hpu, hinc, Int.reduceLE, ↓reduceIte, reduceCtorEq, Nat.reduceEqDiff, Nat.reduceLeDiff, Nat.reduceAdd, Nat.reduceMul, Nat.reduceSub, Nat.reduceLT, c1, c2, hw, encSm_eq]; repeat' (first | exact Ok.out | with_reducible refine And.intro ?_ ?_ | (simp; done)))
 | (cases h; replace h := hr; clear hr; (try simp only [bs, ↓reduceIte] at h))
 | (cases h; done))
        refine SemL.re _ _ 0 1 (by rw [hB]; exact Nat.le_of_ble_eq_true rfl) (by rw [hB]; exact Nat.le_of_ble_eq_true rfl) ?_ ?_ (IH (rest, k + 1, _, _) ⟨g2, h2, flatL_len _ _ _ _ (flatL_len _ _ _ _ hl2 _) _, rfl⟩ (Nat.lt_succ_self _))
        · (simp only [go_sem, hlt, hget, hpu, hinc, Int.reduceLE, ↓reduceIte, reduceCtorEq, Nat.reduceEqDiff, Nat.reduceLeDiff, Nat.reduceAdd, Nat.reduceMul, Nat.reduceSub, Nat.reduceLT, wrap_inc hk2]; repeat' (first | exact Ok.out | with_reducible refine And.intro ?_ ?_))
        · (simp only [go_sem, hlt, hget, hpu, hinc, Int.reduceLE, ↓reduceIte, reduceCtorEq, Nat.reduceEqDiff, Nat.reduceLeDiff, Nat.reduceAdd, Nat.reduceMul, Nat.reduceSub, Nat.reduceLT, wrap_inc hk2]; repeat' (first | exact Ok.out | with_reducible refine And.intro ?_ ?_))
      · have c2 : decide (deep ≤ 12) = false := by simp; omega
        simp only [c2, Bool.false_eq_true, ↓reduceIte] at h2
        repeat' (first
 | simp only [go_sem, hlt, hget, hpu, hinc, Int.reduceLE, ↓reduceIte, reduceCtorEq, Nat.reduceEqDiff, Nat.reduceLeDiff, Nat.reduceAdd, Nat.reduceMul, Nat.reduceSub, Nat.reduceLT, c1, c2, encSm_eq]
 | (with_reducible first | refine CB_ofT (by assumption) fun hc => ?_ | refine CB_ofF (by assumption) fun hc => ?_ | refine CB_split (fun hc => ?_) fun hc => ?_) <;> (try simp only [hc, bs, ↓reduceIte] at h) <;> (try simp only [hc])
 | ((with_reducible first | refine leafR hQ ?_ | refine leafN hQ ?_); (try cases h); simp only [resL, oneD, Option.some.injEq, exists_eq_left', go_sem, hlt, hget, hpu, hinc, Int.reduceLE, ↓reduceIte, reduceCtorEq, Nat.reduceEqDiff, Nat.reduceLeDiff, Nat.reduceAdd, Nat.reduceMul, Nat.reduceSub, Nat.reduceLT, c1, c2, encSm_eq]; repeat' (first | exact Ok.out | with_reducible refine And.intro ?_ ?_ | (simp; done)))
 | (cases h; replace h := hr; clear hr; (try simp only [bs, ↓reduceIte] at h))
 | (cases h; done))
        refine SemL.re _ _ 0 1 (by rw [hB]; exact Nat.le_of_ble_eq_true rfl) (by rw [hB]; exact Nat.le_of_ble_eq_true rfl) ?_ ?_ (IH (rest, k + 1, out ++ [⟨v, deep, inn, els⟩], out.length + 1) ⟨g2, h2, hl2, by simp⟩ (Nat.lt_succ_self _))
        · (simp only [go_sem, hlt, hget, hpu, hinc, Int.reduceLE, ↓reduceIte, reduceCtorEq, Nat.reduceEqDiff, Nat.reduceLeDiff, Nat.reduceAdd, Nat.reduceMul, Nat.reduceSub, Nat.reduceLT, wrap_inc hk2, mkIt, List.map_append, List.map_cons, List.map_nil]; repeat' (first | exact Ok.out | with_reducible refine And.intro ?_ ?_))
        · (simp only [go_sem, hlt, hget, hpu, hinc, Int.reduceLE, ↓reduceIte, reduceCtorEq, Nat.reduceEqDiff, Nat.reduceLeDiff, Nat.reduceAdd, Nat.reduceMul, Nat.reduceSub, Nat.reduceLT, wrap_inc hk2, mkIt, List.map_append, List.map_cons, List.map_nil]; repeat' (first | exact Ok.out | with_reducible refine And.intro ?_ ?_))
    · have c1 : decide ((out.length : Int) ≤ 200) = false := by simp; omega
      simp only [c1, Bool.false_eq_true, ↓reduceIte] at h2
      subst h2
      repeat' (first
 | simp only [go_sem, hlt, hget, hpu, hinc, Int.reduceLE, ↓reduceIte, reduceCtorEq, Nat.reduceEqDiff, Nat.reduceLeDiff, Nat.reduceAdd, Nat.reduceMul, Nat.reduceSub, Nat.reduceLT, c1]
 | (with_reducible first | refine CB_ofT (by assumption) fun hc => ?_ | refine CB_ofF (by assumption) fun hc => ?_ | refine CB_split (fun hc => ?_) fun hc => ?_) <;> (try simp only [hc, bs, ↓reduceIte] at h) <;> (try simp only [hc])
 | ((with_reducible first | refine leafR hQ ?_ | refine leafN hQ ?_); (try cases h); simp only [resL, oneD, Option.some.injEq, exists_eq_left', go_sem, hlt, hget, hpu, hinc, Int.reduceLE, ↓reduceIte, reduceCtorEq, Nat.reduceEqDiff, Nat.reduceLeDiff, Nat.reduceAdd, Nat.reduceMul, Nat.reduceSub, Nat.reduceLT, c1]; repeat' (first | exact Ok.out | with_reducible refine And.intro ?_ ?_ | (simp; done)))
 | (cases h; replace h := hr; clear hr; (try simp only [bs, ↓reduceIte] at h))
 | (cases h; done))

theorem Flat_s {f : Pc} (hs : Sm.sizes f.body < 4611686018427387000) (s : St) : Fun Try.prog n_ref3_Flat [.agg (encPc f)] s (.slice .shared 16 (f.flat.map encIt)) s := by
  refine Fun.pure ?_ (by simp only [D.oks, D.ok, okPc]; rfl) (by simp [D.ok, Tag.ok, okrIt]) s
  have h := fun s => flat_nil hs s
  unfold S0
  refine Fun.go has_ref3_Flat rfl fun B Q hB hQ => ?_
  have hlt : 0 < 1 := Nat.zero_lt_one
  have hget : 0 < 1 := Nat.zero_lt_one
  have hpu : 0 < 1 := Nat.zero_lt_one
  have hinc : 0 < 1 := Nat.zero_lt_one
  repeat' (first
 | simp only [go_sem, hlt, hget, hpu, hinc, Int.reduceLE, ↓reduceIte, reduceCtorEq, Nat.reduceEqDiff, Nat.reduceLeDiff, Nat.reduceAdd, Nat.reduceMul, Nat.reduceSub, Nat.reduceLT, Pc.flat]
 | (with_reducible refine CU (h _) ?_)
 | (with_reducible first | refine CB_ofT (by assumption) fun hc => ?_ | refine CB_ofF (by assumption) fun hc => ?_ | refine CB_split (fun hc => ?_) fun hc => ?_) <;> (try simp only [hc, bs, ↓reduceIte] at h) <;> (try simp only [hc])
 | ((with_reducible first | refine leafR hQ ?_ | refine leafN hQ ?_); (try cases h); simp only [resL, oneD, Option.some.injEq, exists_eq_left', go_sem, hlt, hget, hpu, hinc, Int.reduceLE, ↓reduceIte, reduceCtorEq, Nat.reduceEqDiff, Nat.reduceLeDiff, Nat.reduceAdd, Nat.reduceMul, Nat.reduceSub, Nat.reduceLT, Pc.flat]; repeat' (first | exact Ok.out | with_reducible refine And.intro ?_ ?_ | (simp; done)))
 | (cases h; replace h := hr; clear hr; (try simp only [bs, ↓reduceIte] at h))
 | (cases h; done))

end Go.Abs

/-! RefMay4 -/

namespace Go.Abs

set_option maxRecDepth 8000
set_option linter.unusedSimpArgs false
set_option linter.unusedVariables false
open Go.Proofs

theorem Pc.flat_len (f : Pc) : f.flat.length ≤ 201 := flatL_len _ _ _ _ (Nat.zero_le _) _

theorem All_s {p : Pg} (hs : Pc.sizes p.procs < 4611686018427387000) (s : St) : Fun Try.prog n_ref3_All [.agg (encPg p)] s (.slice .shared 16 (p.all.map encIt)) s := by
  refine Fun.pure ?_ (by simp only [D.oks, D.ok, okPg]; rfl) (by simp [D.ok, Tag.ok, okrIt]) s
  have hlen : p.procs.length < 4611686018427387904 := by have := Pc.sizes_len p.procs; omega
  generalize hR : p.all = R
  unfold Pg.all at hR
  unfold S0
  refine Fun.go has_ref3_All rfl fun B Q hB hQ => ?_
  have hlt : 0 < 1 := Nat.zero_lt_one
  have hget : 0 < 1 := Nat.zero_lt_one
  have hpu : 0 < 1 := Nat.zero_lt_one
  have hinc : 0 < 1 := Nat.zero_lt_one
  repeat' (first
 | simp only [go_sem, hlt, hget, hpu, hinc, Int.reduceLE, ↓reduceIte, reduceCtorEq, Nat.reduceEqDiff, Nat.reduceLeDiff, Nat.reduceAdd, Nat.reduceMul, Nat.reduceSub, Nat.reduceLT]
 | (with_reducible first | refine CB_ofT (by assumption) fun hc => ?_ | refine CB_ofF (by assumption) fun hc => ?_ | refine CB_split (fun hc => ?_) fun hc => ?_) <;> (try simp only [hc, bs, ↓reduceIte] at h) <;> (try simp only [hc])
 | ((with_reducible first | refine leafR hQ ?_ | refine leafN hQ ?_); (try cases h); simp only [resL, oneD, Option.some.injEq, exists_eq_left', go_sem, hlt, hget, hpu, hinc, Int.reduceLE, ↓reduceIte, reduceCtorEq, Nat.reduceEqDiff, Nat.reduceLeDiff, Nat.reduceAdd, Nat.reduceMul, Nat.reduceSub, Nat.reduceLT]; repeat' (first | exact Ok.out | with_reducible refine And.intro ?_ ?_ | (simp; done)))
 | (cases h; replace h := hr; clear hr; (try simp only [bs, ↓reduceIte] at h))
 | (cases h; done))
  refine SemL.tokT 3 16 rfl ?_
  simp only [go_sem, hlt, hget, hpu, hinc, Int.reduceLE, ↓reduceIte, reduceCtorEq, Nat.reduceEqDiff, Nat.reduceLeDiff, Nat.reduceAdd, Nat.reduceMul, Nat.reduceSub, Nat.reduceLT]
  refine SemL.re _ _ 1 1 (by rw [hB]; exact Nat.le_of_ble_eq_true rfl) (by rw [hB]; exact Nat.le_of_ble_eq_true rfl) ?_ ?_ (SemL.ind (ι := List Pc × Nat × List It × Nat) (fun i => p.procs.drop i.2.1 = i.1 ∧ allM i.2.2.1 i.1 = R ∧ i.2.2.1.length ≤ 200 ∧ i.2.2.2 = i.2.2.1.length) (fun i => i.1.length)
    (fun i => [(1, .ptr 0 0), (3, .slice (.tok 0) 16 (i.2.2.1.map encIt)), (7, .slice .shared 5 (p.procs.map encPc)), (8, .int .i64 (p.procs.length : Int)), (9, .int .i64 (i.2.1 : Int))]) (fun i => ⟨[encPg p], [some i.2.2.2]⟩) ?_ (p.procs, 0, [], 0) ⟨rfl, hR, Nat.zero_le _, rfl⟩)
  · (simp only [go_sem, hlt, hget, hpu, hinc, Int.reduceLE, ↓reduceIte, reduceCtorEq, Nat.reduceEqDiff, Nat.reduceLeDiff, Nat.reduceAdd, Nat.reduceMul, Nat.reduceSub, Nat.reduceLT]; repeat' (first | exact Ok.out | with_reducible refine And.intro ?_ ?_))
  · (simp only [go_sem, hlt, hget, hpu, hinc, Int.reduceLE, ↓reduceIte, reduceCtorEq, Nat.reduceEqDiff, Nat.reduceLeDiff, Nat.reduceAdd, Nat.reduceMul, Nat.reduceSub, Nat.reduceLT]; repeat' (first | exact Ok.out | with_reducible refine And.intro ?_ ?_))
  rintro ⟨rest, k, out, n⟩ ⟨h1, h, h3, h4⟩ IH
  dsimp only at h1 h h3 h4
  subst h4
  cases rest with
  | nil =>
    have hlt := drop_nil h1
    simp only [allM] at h
    subst h
    repeat' (first
 | simp only [go_sem, hlt, hget, hpu, hinc, Int.reduceLE, ↓reduceIte, reduceCtorEq, Nat.reduceEqDiff, Nat.reduceLeDiff, Nat.reduceAdd, Nat.reduceMul, Nat.reduceSub, Nat.reduceLT]
 | (with_reducible first | refine CB_ofT (by assumption) fun hc => ?_ | refine CB_ofF (by assumption) fun hc => ?_ | refine CB_split (fun hc => ?_) fun hc => ?_) <;> (try simp only [hc, bs, ↓reduceIte] at h) <;> (try simp only [hc])
 | ((with_reducible first | refine leafR hQ ?_ | refine leafN hQ ?_); (try cases h); simp only [resL, oneD, Option.some.injEq, exists_eq_left', go_sem, hlt, hget, hpu, hinc, Int.reduceLE, ↓reduceIte, reduceCtorEq, Nat.reduceEqDiff, Nat.reduceLeDiff, Nat.reduceAdd, Nat.reduceMul, Nat.reduceSub, Nat.reduceLT]; repeat' (first | exact Ok.out | with_reducible refine And.intro ?_ ?_ | (simp; done)))
 | (cases h; replace h := hr; clear hr; (try simp only [bs, ↓reduceIte] at h))
 | (cases h; done))
  | cons f rest =>
    obtain ⟨hget, g2, hlt, g4⟩ := drop_cons h1
    have hk2 : k < 4611686018427387904 := by omega
    have hf := Pc.sizes_mem (List.mem_of_getElem? hget)
    have hb : Sm.sizes f.body < 4611686018427387000 := by simp only [Pc.size] at hf; omega
    have hfl := fun s => Flat_s hb s
    have h201 := f.flat_len
    have hpu : (out.length + f.flat.length) * 233 ≤ maxStr := by unfold maxStr; omega
    simp only [allM, List.length_append] at h
    have hap := fun (o : List (List D)) => app_tokN (size := 16) (bytes := 232) (t := 0) (rows := out.map encIt) (new := f.flat.map encIt) (g := .shared) (s := ⟨o, [some out.length]⟩) (by simpa using hpu) (by simp)
    repeat' (first
 | simp only [go_sem, hlt, hget, hpu, hinc, Int.reduceLE, ↓reduceIte, reduceCtorEq, Nat.reduceEqDiff, Nat.reduceLeDiff, Nat.reduceAdd, Nat.reduceMul, Nat.reduceSub, Nat.reduceLT, hap]
 | (with_reducible refine CU (hfl _) ?_)
 | (with_reducible first | refine CB_ofT (by assumption) fun hc => ?_ | refine CB_ofF (by assumption) fun hc => ?_ | refine CB_split (fun hc => ?_) fun hc => ?_) <;> (try simp only [hc, bs, ↓reduceIte] at h) <;> (try simp only [hc])
 | ((with_reducible first | refine leafR hQ ?_ | refine leafN hQ ?_); (try cases h); simp only [resL, oneD, Option.some.injEq, exists_eq_left', go_sem, hlt, hget, hpu, hinc, Int.reduceLE, ↓reduceIte, reduceCtorEq, Nat.reduceEqDiff, Nat.reduceLeDiff, Nat.reduceAdd, Nat.reduceMul, Nat.reduceSub, Nat.reduceLT, hap]; repeat' (first | exact Ok.out | with_reducible refine And.intro ?_ ?_ | (simp; done)))
 | (cases h; replace h := hr; clear hr; (try simp only [bs, ↓reduceIte] at h))
 | (cases h; done))
    refine SemL.re _ _ 1 1 (by rw [hB]; exact Nat.le_of_ble_eq_true rfl) (by rw [hB]; exact Nat.le_of_ble_eq_true rfl) ?_ ?_ (IH (rest, k + 1, out ++ f.flat, out.length + f.flat.length) ⟨g2, h, by rename_i hc; simp only [decide_eq_false_iff_not] at hc; simp only [List.length_append]; omega, by simp⟩ (Nat.lt_succ_self _))
    · (simp only [go_sem, hlt, hget, hpu, hinc, Int.reduceLE, ↓reduceIte, reduceCtorEq, Nat.reduceEqDiff, Nat.reduceLeDiff, Nat.reduceAdd, Nat.reduceMul, Nat.reduceSub, Nat.reduceLT, wrap_inc hk2]; repeat' (first | exact Ok.out | with_reducible refine And.intro ?_ ?_))
    · (simp only [go_sem, hlt, hget, hpu, hinc, Int.reduceLE, ↓reduceIte, reduceCtorEq, Nat.reduceEqDiff, Nat.reduceLeDiff, Nat.reduceAdd, Nat.reduceMul, Nat.reduceSub, Nat.reduceLT, wrap_inc hk2]; repeat' (first | exact Ok.out | with_reducible refine And.intro ?_ ?_))

/-- What a program's texts and lists are. -/
structure Pg.Fine (p : Pg) : Prop where
  sz : p.size < 4611686018427387000
  glob : ∀ t ∈ p.globals, t.length < 4611686018427387904
  heads : ∀ f ∈ p.procs, f.name.length < 4611686018427387904 ∧ (∀ t ∈ f.vars, t.length < 4611686018427387904) ∧ (∀ t ∈ f.fin, t.length < 4611686018427387904) ∧ ∀ a ∈ f.params, a.name.length < 4611686018427387904
  items : ∀ i ∈ p.all, i.s.Fine

theorem allM_len : ∀ (l : List Pc) (out : List It), out.length ≤ 200 → (allM out l).length ≤ 401
  | [], out, h => by simp only [allM]; omega
  | f :: l, out, h => by
    have := f.flat_len
    simp only [allM]
    split
    · simp; omega
    · rename_i hc
      exact allM_len l _ (by simp only [decide_eq_true_eq] at hc; omega)

theorem May_s {p : Pg} (hf : p.Fine) (s : St) : Fun Try.prog n_ref3_May [.agg (encPg p)] s (.bool p.may) s := by
  refine Fun.pure ?_ (by simp only [D.oks, D.ok, okPg]; rfl) rfl s
  obtain ⟨hsz, hgl, hheads, hitems⟩ := hf
  have hps : Pc.sizes p.procs < 4611686018427387000 := by simp only [Pg.size] at hsz; omega
  have hglen : p.globals.length < 4611686018427387904 := by simp only [Pg.size] at hsz; omega
  have hplen : p.procs.length < 4611686018427387904 := by have := Pc.sizes_len p.procs; omega
  have hg := fun s => names_s' hglen hgl s
  have hal := fun s => All_s hps s
  have hil : p.all.length ≤ 401 := allM_len _ _ (Nat.zero_le _)
  unfold S0
  generalize h : p.may = R
  unfold Pg.may at h
  refine Fun.go has_ref3_May rfl fun B Q hB hQ => ?_
  have hlt : 0 < 1 := Nat.zero_lt_one
  have hget : 0 < 1 := Nat.zero_lt_one
  have hpu : 0 < 1 := Nat.zero_lt_one
  have hinc : 0 < 1 := Nat.zero_lt_one
  repeat' (first
 | simp only [go_sem, hlt, hget, hpu, hinc, Int.reduceLE, ↓reduceIte, reduceCtorEq, Nat.reduceEqDiff, Nat.reduceLeDiff, Nat.reduceAdd, Nat.reduceMul, Nat.reduceSub, Nat.reduceLT]
 | (with_reducible refine CU (hg _) ?_)
 | (with_reducible first | refine CB_ofT (by assumption) fun hc => ?_ | refine CB_ofF (by assumption) fun hc => ?_ | refine CB_split (fun hc => ?_) fun hc => ?_) <;> (try simp only [hc, bs, ↓reduceIte] at h) <;> (try simp only [hc])
 | ((with_reducible first | refine leafR hQ ?_ | refine leafN hQ ?_); (try cases h); simp only [resL, oneD, Option.some.injEq, exists_eq_left', go_sem, hlt, hget, hpu, hinc, Int.reduceLE, ↓reduceIte, reduceCtorEq, Nat.reduceEqDiff, Nat.reduceLeDiff, Nat.reduceAdd, Nat.reduceMul, Nat.reduceSub, Nat.reduceLT]; repeat' (first | exact Ok.out | with_reducible refine And.intro ?_ ?_ | (simp; done)))
 | (cases h; replace h := hr; clear hr; (try simp only [bs, ↓reduceIte] at h))
 | (cases h; done))
  refine SemL.re _ _ 1 0 (by rw [hB]; exact Nat.le_of_ble_eq_true rfl) (by rw [hB]; exact Nat.le_of_ble_eq_true rfl) ?_ ?_ (SemL.ind (ι := List Pc × Nat) (fun i => p.procs.drop i.2 = i.1 ∧ (if !(Pc.heads i.1) then false else if decide ((p.all.length : Int) > 200) then false else It.mays 0 p.all) = R) (fun i => i.1.length)
    (fun i => [(1, .ptr 0 0), (26, .slice .shared 5 (p.procs.map encPc)), (27, .int .i64 (p.procs.length : Int)), (28, .int .i64 (i.2 : Int))]) (fun i => ⟨[encPg p], []⟩) ?_ (p.procs, 0) ⟨rfl, h⟩)
  · (simp only [go_sem, hlt, hget, hpu, hinc, Int.reduceLE, ↓reduceIte, reduceCtorEq, Nat.reduceEqDiff, Nat.reduceLeDiff, Nat.reduceAdd, Nat.reduceMul, Nat.reduceSub, Nat.reduceLT]; repeat' (first | exact Ok.out | with_reducible refine And.intro ?_ ?_))
  · (simp only [go_sem, hlt, hget, hpu, hinc, Int.reduceLE, ↓reduceIte, reduceCtorEq, Nat.reduceEqDiff, Nat.reduceLeDiff, Nat.reduceAdd, Nat.reduceMul, Nat.reduceSub, Nat.reduceLT]; repeat' (first | exact Ok.out | with_reducible refine And.intro ?_ ?_))
  rintro ⟨rest, k⟩ ⟨h1, h⟩ IH
  dsimp only at h1 h
  cases rest with
  | nil =>
    have hlt := drop_nil h1
    simp only [Pc.heads, Bool.not_true, Bool.false_eq_true, ↓reduceIte] at h
    repeat' (first
 | simp only [go_sem, hlt, hget, hpu, hinc, Int.reduceLE, ↓reduceIte, reduceCtorEq, Nat.reduceEqDiff, Nat.reduceLeDiff, Nat.reduceAdd, Nat.reduceMul, Nat.reduceSub, Nat.reduceLT]
 | (with_reducible refine CU (hal _) ?_)
 | (with_reducible first | refine CB_ofT (by assumption) fun hc => ?_ | refine CB_ofF (by assumption) fun hc => ?_ | refine CB_split (fun hc => ?_) fun hc => ?_) <;> (try simp only [hc, bs, ↓reduceIte] at h) <;> (try simp only [hc])
 | ((with_reducible first | refine leafR hQ ?_ | refine leafN hQ ?_); (try cases h); simp only [resL, oneD, Option.some.injEq, exists_eq_left', go_sem, hlt, hget, hpu, hinc, Int.reduceLE, ↓reduceIte, reduceCtorEq, Nat.reduceEqDiff, Nat.reduceLeDiff, Nat.reduceAdd, Nat.reduceMul, Nat.reduceSub, Nat.reduceLT]; repeat' (first | exact Ok.out | with_reducible refine And.intro ?_ ?_ | (simp; done)))
 | (cases h; replace h := hr; clear hr; (try simp only [bs, ↓reduceIte] at h))
 | (cases h; done))
    clear IH
    refine SemL.re _ _ 1 0 (by rw [hB]; exact Nat.le_of_ble_eq_true rfl) (by rw [hB]; exact Nat.le_of_ble_eq_true rfl) ?_ ?_ (SemL.ind (ι := List It × Nat) (fun i => p.all.drop i.2 = i.1 ∧ It.mays i.2 i.1 = R) (fun i => i.1.length)
      (fun i => [(1, .ptr 0 0), (7, .slice .shared 16 (p.all.map encIt)), (79, .int .i64 (p.all.length : Int)), (80, .int .i64 (i.2 : Int))]) (fun i => ⟨[encPg p], []⟩) ?_ (p.all, 0) ⟨rfl, h⟩)
    · (simp only [go_sem, hlt, hget, hpu, hinc, Int.reduceLE, ↓reduceIte, reduceCtorEq, Nat.reduceEqDiff, Nat.reduceLeDiff, Nat.reduceAdd, Nat.reduceMul, Nat.reduceSub, Nat.reduceLT]; repeat' (first | exact Ok.out | with_reducible refine And.intro ?_ ?_))
    · (simp only [go_sem, hlt, hget, hpu, hinc, Int.reduceLE, ↓reduceIte, reduceCtorEq, Nat.reduceEqDiff, Nat.reduceLeDiff, Nat.reduceAdd, Nat.reduceMul, Nat.reduceSub, Nat.reduceLT]; repeat' (first | exact Ok.out | with_reducible refine And.intro ?_ ?_))
    rintro ⟨rest, k⟩ ⟨h1, h⟩ IH
    dsimp only at h1 h
    cases rest with
    | nil =>
      have hlt := drop_nil h1
      simp only [It.mays] at h
      repeat' (first
 | simp only [go_sem, hlt, hget, hpu, hinc, Int.reduceLE, ↓reduceIte, reduceCtorEq, Nat.reduceEqDiff, Nat.reduceLeDiff, Nat.reduceAdd, Nat.reduceMul, Nat.reduceSub, Nat.reduceLT]
 | (with_reducible first | refine CB_ofT (by assumption) fun hc => ?_ | refine CB_ofF (by assumption) fun hc => ?_ | refine CB_split (fun hc => ?_) fun hc => ?_) <;> (try simp only [hc, bs, ↓reduceIte] at h) <;> (try simp only [hc])
 | ((with_reducible first | refine leafR hQ ?_ | refine leafN hQ ?_); (try cases h); simp only [resL, oneD, Option.some.injEq, exists_eq_left', go_sem, hlt, hget, hpu, hinc, Int.reduceLE, ↓reduceIte, reduceCtorEq, Nat.reduceEqDiff, Nat.reduceLeDiff, Nat.reduceAdd, Nat.reduceMul, Nat.reduceSub, Nat.reduceLT]; repeat' (first | exact Ok.out | with_reducible refine And.intro ?_ ?_ | (simp; done)))
 | (cases h; replace h := hr; clear hr; (try simp only [bs, ↓reduceIte] at h))
 | (cases h; done))
    | cons i rest =>
      obtain ⟨hget, g2, hlt, g4⟩ := drop_cons h1
      have hi := fun s => one_s (hitems i (List.mem_of_getElem? hget)) s
      have hpu : k < 4611686018427387904 := by omega
      simp only [It.mays] at h
      repeat' (first
 | simp only [go_sem, hlt, hget, hpu, hinc, Int.reduceLE, ↓reduceIte, reduceCtorEq, Nat.reduceEqDiff, Nat.reduceLeDiff, Nat.reduceAdd, Nat.reduceMul, Nat.reduceSub, Nat.reduceLT, wrap_inc hpu]
 | (with_reducible refine CU (hi _) ?_)
 | (with_reducible first | refine CB_ofT (by assumption) fun hc => ?_ | refine CB_ofF (by assumption) fun hc => ?_ | refine CB_split (fun hc => ?_) fun hc => ?_) <;> (try simp only [hc, bs, ↓reduceIte] at h) <;> (try simp only [hc])
 | ((with_reducible first | refine leafR hQ ?_ | refine leafN hQ ?_); (try cases h); simp only [resL, oneD, Option.some.injEq, exists_eq_left', go_sem, hlt, hget, hpu, hinc, Int.reduceLE, ↓reduceIte, reduceCtorEq, Nat.reduceEqDiff, Nat.reduceLeDiff, Nat.reduceAdd, Nat.reduceMul, Nat.reduceSub, Nat.reduceLT, wrap_inc hpu]; repeat' (first | exact Ok.out | with_reducible refine And.intro ?_ ?_ | (simp; done)))
 | (cases h; replace h := hr; clear hr; (try simp only [bs, ↓reduceIte] at h))
 | (cases h; done))
      refine SemL.re _ _ 1 0 (by rw [hB]; exact Nat.le_of_ble_eq_true rfl) (by rw [hB]; exact Nat.le_of_ble_eq_true rfl) ?_ ?_ (IH (rest, k + 1) ⟨g2, h⟩ (Nat.lt_succ_self _))
      · (simp only [go_sem, hlt, hget, hpu, hinc, Int.reduceLE, ↓reduceIte, reduceCtorEq, Nat.reduceEqDiff, Nat.reduceLeDiff, Nat.reduceAdd, Nat.reduceMul, Nat.reduceSub, Nat.reduceLT, wrap_inc hpu]; repeat' (first | exact Ok.out | with_reducible refine And.intro ?_ ?_))
      · (simp only [go_sem, hlt, hget, hpu, hinc, Int.reduceLE, ↓reduceIte, reduceCtorEq, Nat.reduceEqDiff, Nat.reduceLeDiff, Nat.reduceAdd, Nat.reduceMul, Nat.reduceSub, Nat.reduceLT, wrap_inc hpu]; repeat' (first | exact Ok.out | with_reducible refine And.intro ?_ ?_))
  | cons f rest =>
    obtain ⟨hget, g2, hlt, g4⟩ := drop_cons h1
    have hk2 : k < 4611686018427387904 := by omega
    have hfm := Pc.sizes_mem (List.mem_of_getElem? hget)
    simp only [Pc.size] at hfm
    obtain ⟨hfn, hfv, hff, hfp⟩ := hheads f (List.mem_of_getElem? hget)
    have hn := RName_s f.name hfn
    have hv := fun s => names_s' (by omega) hfv s
    have he := fun s => names_s' (by omega) hff s
    simp only [Pc.heads] at h
    repeat' (first
 | simp only [go_sem, hlt, hget, hpu, hinc, Int.reduceLE, ↓reduceIte, reduceCtorEq, Nat.reduceEqDiff, Nat.reduceLeDiff, Nat.reduceAdd, Nat.reduceMul, Nat.reduceSub, Nat.reduceLT]
 | (with_reducible refine CU (hn _) ?_)
 | (with_reducible refine CU (hv _) ?_)
 | (with_reducible refine CU (he _) ?_)
 | (with_reducible first | refine CB_ofT (by assumption) fun hc => ?_ | refine CB_ofF (by assumption) fun hc => ?_ | refine CB_split (fun hc => ?_) fun hc => ?_) <;> (try simp only [hc, bs, ↓reduceIte] at h) <;> (try simp only [hc])
 | ((with_reducible first | refine leafR hQ ?_ | refine leafN hQ ?_); (try cases h); simp only [resL, oneD, Option.some.injEq, exists_eq_left', go_sem, hlt, hget, hpu, hinc, Int.reduceLE, ↓reduceIte, reduceCtorEq, Nat.reduceEqDiff, Nat.reduceLeDiff, Nat.reduceAdd, Nat.reduceMul, Nat.reduceSub, Nat.reduceLT]; repeat' (first | exact Ok.out | with_reducible refine And.intro ?_ ?_ | (simp; done)))
 | (cases h; replace h := hr; clear hr; (try simp only [bs, ↓reduceIte] at h))
 | (cases h; done))
    refine SemL.re _ _ 1 0 (by rw [hB]; exact Nat.le_of_ble_eq_true rfl) (by rw [hB]; exact Nat.le_of_ble_eq_true rfl) ?_ ?_ (SemL.ind (ι := List Pm × Nat) (fun i => f.params.drop i.2 = i.1 ∧ (if !(if !(Pm.mays i.1) then false else Pc.heads rest) then false else if decide ((p.all.length : Int) > 200) then false else It.mays 0 p.all) = R) (fun i => i.1.length)
      (fun i => [(1, .ptr 0 0), (26, .slice .shared 5 (p.procs.map encPc)), (27, .int .i64 (p.procs.length : Int)), (28, .int .i64 (k : Int)), (61, .slice .shared 2 (f.params.map encPm)), (62, .int .i64 (f.params.length : Int)), (63, .int .i64 (i.2 : Int))]) (fun i => ⟨[encPg p], []⟩) ?_ (f.params, 0) ⟨rfl, h⟩)
    · (simp only [go_sem, hlt, hget, hpu, hinc, Int.reduceLE, ↓reduceIte, reduceCtorEq, Nat.reduceEqDiff, Nat.reduceLeDiff, Nat.reduceAdd, Nat.reduceMul, Nat.reduceSub, Nat.reduceLT]; repeat' (first | exact Ok.out | with_reducible refine And.intro ?_ ?_))
    · (simp only [go_sem, hlt, hget, hpu, hinc, Int.reduceLE, ↓reduceIte, reduceCtorEq, Nat.reduceEqDiff, Nat.reduceLeDiff, Nat.reduceAdd, Nat.reduceMul, Nat.reduceSub, Nat.reduceLT]; repeat' (first | exact Ok.out | with_reducible refine And.intro ?_ ?_))
    rintro ⟨prest, j⟩ ⟨j1, h⟩ IH2
    dsimp only at j1 h
    cases prest with
    | nil =>
      have hlt := drop_nil j1
      simp only [Pm.mays, Bool.not_true, Bool.false_eq_true, ↓reduceIte] at h
      repeat' (first
 | simp only [go_sem, hlt, hget, hpu, hinc, Int.reduceLE, ↓reduceIte, reduceCtorEq, Nat.reduceEqDiff, Nat.reduceLeDiff, Nat.reduceAdd, Nat.reduceMul, Nat.reduceSub, Nat.reduceLT]
 | (with_reducible first | refine CB_ofT (by assumption) fun hc => ?_ | refine CB_ofF (by assumption) fun hc => ?_ | refine CB_split (fun hc => ?_) fun hc => ?_) <;> (try simp only [hc, bs, ↓reduceIte] at h) <;> (try simp only [hc])
 | ((with_reducible first | refine leafR hQ ?_ | refine leafN hQ ?_); (try cases h); simp only [resL, oneD, Option.some.injEq, exists_eq_left', go_sem, hlt, hget, hpu, hinc, Int.reduceLE, ↓reduceIte, reduceCtorEq, Nat.reduceEqDiff, Nat.reduceLeDiff, Nat.reduceAdd, Nat.reduceMul, Nat.reduceSub, Nat.reduceLT]; repeat' (first | exact Ok.out | with_reducible refine And.intro ?_ ?_ | (simp; done)))
 | (cases h; replace h := hr; clear hr; (try simp only [bs, ↓reduceIte] at h))
 | (cases h; done))
      refine SemL.re _ _ 1 0 (by rw [hB]; exact Nat.le_of_ble_eq_true rfl) (by rw [hB]; exact Nat.le_of_ble_eq_true rfl) ?_ ?_ (IH (rest, k + 1) ⟨g2, h⟩ (Nat.lt_succ_self _))
      · (simp only [go_sem, hlt, hget, hpu, hinc, Int.reduceLE, ↓reduceIte, reduceCtorEq, Nat.reduceEqDiff, Nat.reduceLeDiff, Nat.reduceAdd, Nat.reduceMul, Nat.reduceSub, Nat.reduceLT, wrap_inc hk2]; repeat' (first | exact Ok.out | with_reducible refine And.intro ?_ ?_))
      · (simp only [go_sem, hlt, hget, hpu, hinc, Int.reduceLE, ↓reduceIte, reduceCtorEq, Nat.reduceEqDiff, Nat.reduceLeDiff, Nat.reduceAdd, Nat.reduceMul, Nat.reduceSub, Nat.reduceLT, wrap_inc hk2]; repeat' (first | exact Ok.out | with_reducible refine And.intro ?_ ?_))
    | cons a prest =>
      obtain ⟨hget, b2, hlt, b4⟩ := drop_cons j1
      have hj2 : j < 4611686018427387904 := by omega
      have ha := RName_s a.name (hfp a (List.mem_of_getElem? hget))
      simp only [Pm.mays] at h
      repeat' (first
 | simp only [go_sem, hlt, hget, hpu, hinc, Int.reduceLE, ↓reduceIte, reduceCtorEq, Nat.reduceEqDiff, Nat.reduceLeDiff, Nat.reduceAdd, Nat.reduceMul, Nat.reduceSub, Nat.reduceLT]
 | (with_reducible refine CU (ha _) ?_)
 | (with_reducible first | refine CB_ofT (by assumption) fun hc => ?_ | refine CB_ofF (by assumption) fun hc => ?_ | refine CB_split (fun hc => ?_) fun hc => ?_) <;> (try simp only [hc, bs, ↓reduceIte] at h) <;> (try simp only [hc])
 | ((with_reducible first | refine leafR hQ ?_ | refine leafN hQ ?_); (try cases h); simp only [resL, oneD, Option.some.injEq, exists_eq_left', go_sem, hlt, hget, hpu, hinc, Int.reduceLE, ↓reduceIte, reduceCtorEq, Nat.reduceEqDiff, Nat.reduceLeDiff, Nat.reduceAdd, Nat.reduceMul, Nat.reduceSub, Nat.reduceLT]; repeat' (first | exact Ok.out | with_reducible refine And.intro ?_ ?_ | (simp; done)))
 | (cases h; replace h := hr; clear hr; (try simp only [bs, ↓reduceIte] at h))
 | (cases h; done))
      refine SemL.re _ _ 1 0 (by rw [hB]; exact Nat.le_of_ble_eq_true rfl) (by rw [hB]; exact Nat.le_of_ble_eq_true rfl) ?_ ?_ (IH2 (prest, j + 1) ⟨b2, h⟩ (Nat.lt_succ_self _))
      · (simp only [go_sem, hlt, hget, hpu, hinc, Int.reduceLE, ↓reduceIte, reduceCtorEq, Nat.reduceEqDiff, Nat.reduceLeDiff, Nat.reduceAdd, Nat.reduceMul, Nat.reduceSub, Nat.reduceLT, wrap_inc hj2]; repeat' (first | exact Ok.out | with_reducible refine And.intro ?_ ?_))
      · (simp only [go_sem, hlt, hget, hpu, hinc, Int.reduceLE, ↓reduceIte, reduceCtorEq, Nat.reduceEqDiff, Nat.reduceLeDiff, Nat.reduceAdd, Nat.reduceMul, Nat.reduceSub, Nat.reduceLT, wrap_inc hj2]; repeat' (first | exact Ok.out | with_reducible refine And.intro ?_ ?_))

end Go.Abs

/-! MayFine -/

namespace Go.Abs
set_option linter.unusedSimpArgs false
set_option linter.unusedVariables false

theorem isName_len {s : Str} (h : isName s = true) : s.length ≤ 8 := by
  cases s with
  | nil => simp
  | cons c r =>
    simp only [isName] at h
    split at h
    · cases h
    · rename_i hc
      simp only [Bool.or_eq_true, decide_eq_true_eq, not_or] at hc
      simp only [List.length_cons]; omega
theorem mayNames_mem {t : Str} : ∀ {l : List Str}, mayNames l = true → t ∈ l → isName t = true
  | s :: l, h, m => by
    simp only [mayNames] at h
    cases hs : isName s
    · simp [hs] at h
    · simp [hs] at h
      rcases List.mem_cons.1 m with rfl | m
      · exact hs
      · exact mayNames_mem h m
theorem mays_mem {a : Ar} : ∀ {l : List Ar}, Ar.mays l = true → a ∈ l → a.may = true
  | s :: l, h, m => by
    simp only [Ar.mays] at h
    cases hs : s.may
    · simp [hs] at h
    · simp [hs] at h
      rcases List.mem_cons.1 m with rfl | m
      · exact hs
      · exact mays_mem h m
theorem pmays_mem {a : Pm} : ∀ {l : List Pm}, Pm.mays l = true → a ∈ l → isName a.name = true
  | s :: l, h, m => by
    simp only [Pm.mays] at h
    cases hs : isName s.name
    · simp [hs] at h
    · simp [hs] at h
      rcases List.mem_cons.1 m with rfl | m
      · exact hs
      · exact pmays_mem h m
mutual
theorem form_texts : ∀ x : Ex, x.form = true → x.texts
  | ⟨op, n, name, kids⟩, h => by
    simp only [Ex.form] at h
    split at h
    · cases h
    · rename_i hc
      refine ⟨?_, forms_texts kids h⟩
      simp only [Bool.or_eq_true, Bool.and_eq_true, Bool.not_eq_true', not_or, not_and, Bool.not_eq_false] at hc
      cases hn : (name == [])
      · have := isName_len (hc.2 hn); omega
      · simp at hn; subst hn; simp
theorem forms_texts : ∀ l : List Ex, Ex.forms l = true → Ex.textss l
  | [], _ => trivial
  | x :: l, h => by
    simp only [Ex.forms] at h
    cases hx : x.form
    · simp [hx] at h
    · simp [hx] at h
      exact ⟨form_texts x hx, forms_texts l h⟩
end
theorem may_texts {x : Ex} (h : x.may = true) : x.texts := by
  unfold Ex.may at h
  simp only [Bool.and_eq_true] at h
  exact form_texts x h.2
theorem none_texts {x : Ex} (h : x.none = true) : x.texts := by
  obtain ⟨op, n, name, kids⟩ := x
  simp [Ex.none] at h
  obtain ⟨⟨_, h1⟩, h2⟩ := h
  subst h1 h2
  exact ⟨by simp, trivial⟩

mutual
theorem flatS_mem {deep inn : Int} {els : Bool} {out : List It} {i : It} : ∀ s : Sm, i ∈ flatS deep inn els out s → i ∈ out ∨ i.s.size ≤ s.size
  | ⟨id, kind, labels, name, proc, x, has, args, thn, e⟩, h => by
    simp only [flatS] at h
    have key : i ∈ out ++ [(⟨⟨id, kind, labels, name, proc, x, has, args, thn, e⟩, deep, inn, els⟩ : It)] → i ∈ out ∨ i.s.size ≤ (⟨id, kind, labels, name, proc, x, has, args, thn, e⟩ : Sm).size := by
      intro h
      rcases List.mem_append.1 h with h | h
      · exact .inl h
      · simp at h; subst h; exact .inr (Nat.le_refl _)
    split at h
    · rcases flatL_mem e h with h | h
      · rcases flatL_mem thn h with h | h
        · exact key h
        · right; simp only [Sm.size]; omega
      · right; simp only [Sm.size]; omega
    · exact key h
theorem flatL_mem {deep inn : Int} {els : Bool} {out : List It} {i : It} : ∀ l : List Sm, i ∈ flatL deep inn els out l → i ∈ out ∨ i.s.size < Sm.sizes l
  | [], h => by simp only [flatL] at h; exact .inl h
  | s :: l, h => by
    simp only [flatL] at h
    split at h
    · rcases flatL_mem l h with h | h
      · rcases flatS_mem s h with h | h
        · exact .inl h
        · right; simp only [Sm.sizes]; omega
      · right; simp only [Sm.sizes]; omega
    · exact .inl h
end
theorem allM_mem {i : It} : ∀ (l : List Pc) (out : List It), i ∈ allM out l → i ∈ out ∨ i.s.size < Pc.sizes l
  | [], out, h => by simp only [allM] at h; exact .inl h
  | f :: l, out, h => by
    have key : i ∈ out ++ f.flat → i ∈ out ∨ i.s.size < Pc.sizes (f :: l) := by
      intro h
      rcases List.mem_append.1 h with h | h
      · exact .inl h
      · rcases flatL_mem _ h with h | h
        · simp at h
        · right; simp only [Pc.sizes, Pc.size]; omega
    simp only [allM] at h
    split at h
    · exact key h
    · rcases allM_mem l _ h with h | h
      · exact key h
      · right; simp only [Pc.sizes]; omega

theorem itmays_mem {i : It} : ∀ (l : List It) (n : Nat), It.mays n l = true → i ∈ l → i.s.one = true
  | s :: l, n, h, m => by
    simp only [It.mays] at h
    split at h
    · cases h
    · rename_i hc
      simp only [Bool.or_eq_true, Bool.not_eq_true', not_or, Bool.not_eq_false] at hc
      rcases List.mem_cons.1 m with rfl | m
      · exact hc.2
      · exact itmays_mem l (n + 1) h m

theorem one_fine {s : Sm} (h : s.one = true) (hs : s.size < 4611686018427387000) : s.Fine := by
  unfold Sm.one at h
  split at h
  · cases h
  split at h
  · cases h
  split at h
  · cases h
  split at h
  · cases h
  rename_i c1 c2 c3 c4
  simp only [Bool.or_eq_true, Bool.and_eq_true, Bool.not_eq_true', not_or, not_and, Bool.not_eq_false, decide_eq_true_eq] at c1 c2 c3 c4
  obtain ⟨⟨⟨⟨⟨_, _⟩, clab⟩, cx⟩, cn⟩, _⟩ := c1
  obtain ⟨c21, c22⟩ := c2
  obtain ⟨⟨c31, c32⟩, c33⟩ := c3
  have nm : ∀ {t : Str}, isName t = true → t.length < 4611686018427387904 := fun h => by have := isName_len h; omega
  have hsz : 1 + s.labels.length + s.x.size + Ar.sizes s.args ≤ s.size := by cases s; simp only [Sm.size]; omega
  have hal := Ar.sizes_len s.args
  refine ⟨fun t ht => nm (mayNames_mem clab ht), by omega, ?_, ?_, by omega, ?_, by omega, fun a ha => ?_⟩
  · cases hn : s.hasName
    · cases he : (s.name == [])
      · exact nm (c22 ⟨hn, he⟩).2
      · simp at he; rw [he]; simp
    · exact nm (c21 hn)
  · cases hcl : s.isCall
    · rw [hcl] at c31
      have : s.proc = [] := by simpa using c31
      rw [this]; simp
    · exact nm (c32 hcl)
  · cases hx : s.hasX
    · exact none_texts (cn hx)
    · exact may_texts (cx hx)
  · have hm := mays_mem c4 ha
    have hsa := Ar.sizes_mem ha
    unfold Ar.may at hm
    split at hm
    · simp only [Bool.and_eq_true] at hm
      exact ⟨by omega, none_texts hm.2, nm hm.1⟩
    · simp only [Bool.and_eq_true, beq_iff_eq] at hm
      exact ⟨by omega, may_texts hm.2, by rw [hm.1]; simp⟩

theorem heads_mem {f : Pc} : ∀ {l : List Pc}, Pc.heads l = true → f ∈ l → isName f.name = true ∧ mayNames f.vars = true ∧ mayNames f.fin = true ∧ Pm.mays f.params = true
  | s :: l, h, m => by
    simp only [Pc.heads] at h
    split at h
    · cases h
    split at h
    · cases h
    rename_i c1 c2
    simp only [Bool.or_eq_true, Bool.not_eq_true', not_or, Bool.not_eq_false] at c1 c2
    rcases List.mem_cons.1 m with rfl | m
    · exact ⟨c1.1.1.1.1, c1.1.2, c1.2, c2⟩
    · exact heads_mem h m

theorem may_fine {p : Pg} (h : p.may = true) (hs : p.size < 4611686018427387000) : p.Fine := by
  unfold Pg.may at h
  split at h
  · cases h
  split at h
  · cases h
  split at h
  · cases h
  rename_i c1 c2 c3
  simp only [Bool.or_eq_true, Bool.not_eq_true', not_or, Bool.not_eq_false] at c1 c2
  have nm : ∀ {t : Str}, isName t = true → t.length < 4611686018427387904 := fun h => by have := isName_len h; omega
  refine ⟨hs, fun t ht => nm (mayNames_mem c1.2 ht), fun f hf => ?_, fun i hi => ?_⟩
  · obtain ⟨a, b, c, d⟩ := heads_mem c2 hf
    exact ⟨nm a, fun t ht => nm (mayNames_mem b ht), fun t ht => nm (mayNames_mem c ht), fun t ht => nm (pmays_mem d ht)⟩
  · refine one_fine (itmays_mem _ _ h hi) ?_
    rcases allM_mem _ _ hi with h1 | h1
    · simp at h1
    · simp only [Pg.size] at hs; omega

end Go.Abs

/-! RoomOk -/

namespace Go.Abs

/-- What is asked of a text: a fault at that place, or none and a program that may be. -/
def roomOk (T : Str) (A d : Int) : Bool :=
  Nat.ble T.length 5000 && (match parseM fuelM T with
    | none => false
    | some (p, c, a) => if decide (d > 0) then c == 4 && a == A && Pg.beq p pg0 else c == 0 && p.may)
theorem room_0_0 : roomOk (103 :: 108 :: 111 :: 98 :: 97 :: 108 :: 32 :: (rowM [] 15 ++ [59, 112, 114, 111, 99, 32, 109, 97, 105, 110, 40, 41, 123, 125])) 71 (-1) = true := by kernel_rfl
theorem room_1_0 : roomOk (procsM 15) 192 (-1) = true := by kernel_rfl
theorem room_2_0 : roomOk (112 :: 114 :: 111 :: 99 :: 32 :: 112 :: 40 :: (rowM [] 7 ++ [41, 123, 125])) 39 (-1) = true := by kernel_rfl
theorem room_3_0 : roomOk (112 :: 114 :: 111 :: 99 :: 32 :: 112 :: 40 :: 41 :: 123 :: 118 :: 97 :: 114 :: 32 :: (rowM [] 15 ++ [59, 125])) 77 (-1) = true := by kernel_rfl
theorem room_4_0 : roomOk (112 :: 114 :: 111 :: 99 :: 32 :: 112 :: 40 :: 41 :: 123 :: (manyM [114, 101, 116, 117, 114, 110, 59] 199 ++ [125])) 1409 (-1) = true := by kernel_rfl
theorem room_5_0 : roomOk (112 :: 114 :: 111 :: 99 :: 32 :: 112 :: 40 :: 41 :: 123 :: (manyM [105, 102, 40, 49, 41, 123] 11 ++ manyM [125] 11 ++ [125])) 81 (-1) = true := by kernel_rfl
theorem room_6_0 : roomOk (112 :: 114 :: 111 :: 99 :: 32 :: 112 :: 40 :: 41 :: 123 :: 112 :: 114 :: 105 :: 110 :: 116 :: 32 :: (manyM [45] 18 ++ [49, 59, 125])) 15 (-1) = true := by kernel_rfl
theorem room_0_1 : roomOk (103 :: 108 :: 111 :: 98 :: 97 :: 108 :: 32 :: (rowM [] 16 ++ [59, 112, 114, 111, 99, 32, 109, 97, 105, 110, 40, 41, 123, 125])) 71 (0) = true := by kernel_rfl
theorem room_1_1 : roomOk (procsM 16) 192 (0) = true := by kernel_rfl
theorem room_2_1 : roomOk (112 :: 114 :: 111 :: 99 :: 32 :: 112 :: 40 :: (rowM [] 8 ++ [41, 123, 125])) 39 (0) = true := by kernel_rfl
theorem room_3_1 : roomOk (112 :: 114 :: 111 :: 99 :: 32 :: 112 :: 40 :: 41 :: 123 :: 118 :: 97 :: 114 :: 32 :: (rowM [] 16 ++ [59, 125])) 77 (0) = true := by kernel_rfl
theorem room_4_1 : roomOk (112 :: 114 :: 111 :: 99 :: 32 :: 112 :: 40 :: 41 :: 123 :: (manyM [114, 101, 116, 117, 114, 110, 59] 200 ++ [125])) 1409 (0) = true := by kernel_rfl
theorem room_5_1 : roomOk (112 :: 114 :: 111 :: 99 :: 32 :: 112 :: 40 :: 41 :: 123 :: (manyM [105, 102, 40, 49, 41, 123] 12 ++ manyM [125] 12 ++ [125])) 81 (0) = true := by kernel_rfl
theorem room_6_1 : roomOk (112 :: 114 :: 111 :: 99 :: 32 :: 112 :: 40 :: 41 :: 123 :: 112 :: 114 :: 105 :: 110 :: 116 :: 32 :: (manyM [45] 19 ++ [49, 59, 125])) 15 (0) = true := by kernel_rfl
theorem room_0_2 : roomOk (103 :: 108 :: 111 :: 98 :: 97 :: 108 :: 32 :: (rowM [] 17 ++ [59, 112, 114, 111, 99, 32, 109, 97, 105, 110, 40, 41, 123, 125])) 71 (1) = true := by kernel_rfl
theorem room_1_2 : roomOk (procsM 17) 192 (1) = true := by kernel_rfl
theorem room_2_2 : roomOk (112 :: 114 :: 111 :: 99 :: 32 :: 112 :: 40 :: (rowM [] 9 ++ [41, 123, 125])) 39 (1) = true := by kernel_rfl
theorem room_3_2 : roomOk (112 :: 114 :: 111 :: 99 :: 32 :: 112 :: 40 :: 41 :: 123 :: 118 :: 97 :: 114 :: 32 :: (rowM [] 17 ++ [59, 125])) 77 (1) = true := by kernel_rfl
theorem room_4_2 : roomOk (112 :: 114 :: 111 :: 99 :: 32 :: 112 :: 40 :: 41 :: 123 :: (manyM [114, 101, 116, 117, 114, 110, 59] 201 ++ [125])) 1409 (1) = true := by kernel_rfl
theorem room_5_2 : roomOk (112 :: 114 :: 111 :: 99 :: 32 :: 112 :: 40 :: 41 :: 123 :: (manyM [105, 102, 40, 49, 41, 123] 13 ++ manyM [125] 13 ++ [125])) 81 (1) = true := by kernel_rfl
theorem room_6_2 : roomOk (112 :: 114 :: 111 :: 99 :: 32 :: 112 :: 40 :: 41 :: 123 :: 112 :: 114 :: 105 :: 110 :: 116 :: 32 :: (manyM [45] 20 ++ [49, 59, 125])) 15 (1) = true := by kernel_rfl

end Go.Abs

/-! Glue2 -/

namespace Go.Abs

def M0 : Map := ⟨fun _ _ => none, fun _ => 0, fun _ => none⟩

/-- Of what was there nothing turns. -/
def Kept (w w' : World) : Prop := w.keptBut w' (fun _ => False) ∧ ∀ a : Addr, a.block < w.heap.size → w'.frozen? a = w.frozen? a

theorem Kept.frame {w w' : World} (h : Kept w w') (may : MemPlace → Prop) : w.keptBut w' may := World.keptBut_mono (fun _ f => f.elim) h.1

theorem Ext.toKept {M M' : Map} {s' : St} {w w' : World} (e : Ext M S0 w M' s' w') : Kept w w' := by
  have hh : ∀ b, b < w.heap.size → w'.heap[b]? = w.heap[b]? := fun b hb =>
    e.kept b hb (fun o ho => by simp [S0] at ho) (fun t c z hl => by obtain ⟨n, hn⟩ := hl; simp [S0] at hn)
  refine ⟨⟨e.os, e.output, fun i hi => ?_⟩, fun a ha => ?_⟩
  · rw [hh i hi]
    exact (World.keptBut_refl w (fun _ => False)).2.2 i hi
  · simp only [World.frozen?, hh _ ha]

theorem rel0 (G : Nat → Nat → Option Value) (w : World) (h : ∀ b o v, G b o = some v → w.cell? ⟨b, o, none⟩ = some v ∧ v.oneCell' = true) : Rel ⟨G, fun _ => 0, fun _ => none⟩ S0 w :=
  ⟨h, fun o ds e => by simp [S0] at e, fun o ho => by simp [S0] at ho, fun o o' ho => by simp [S0] at ho, fun t n e => by simp [S0] at e,
    fun t b c z o hl => by obtain ⟨n, hn⟩ := hl; simp [S0] at hn, fun t t' b c z c' z' hl => by obtain ⟨n, hn⟩ := hl; simp [S0] at hn⟩

/-- A law is called. -/
theorem law_calls {P : Program} {f : FuncId} {args : List D} {vargs : Array Value} {w : World} {G : Nat → Nat → Option Value} (h : ACalls P f args S0 fun d _ => d = .bool true)
    (hG : ∀ b o v, G b o = some v → w.cell? ⟨b, o, none⟩ = some v ∧ v.oneCell' = true) (hl : vargs.size = args.length)
    (ha : ∀ (i : Nat) (d : D) (v : Value), args[i]? = some d → vargs[i]? = some v → RD ⟨G, fun _ => 0, fun _ => none⟩ S0 d v) :
    Calls P f vargs w fun e w' => e = .returned (.bool true) ∧ Kept w w' := by
  refine (h _ w vargs (rel0 G w hG) hl ha).mono fun e w' hw => ?_
  obtain ⟨M', d, v, s', rfl, rfl, he, _, hv⟩ := hw
  rw [hv.bool_inv]
  exact ⟨rfl, he.toKept⟩

section
variable {P : Program} {H : Type} {enc : TypeId × Value → H}

/-- The row's closing condition, where nothing turns of what was there. -/
theorem post_of_kept {f : Func} {s : ChangeSpec} {apart fresh handsOn again : Bool} {W W' : World} {args : Array Value} {v : Value} {ds gs : List (DataW H)} {before pa pv : List MemPlace}
    (hW : DataW.Whole enc P f.params.toList s.vars apart W args.toList ds gs before)
    (hres : ∀ (b : Nat) (sp : Nat → Bool) (hd : Bool), DataW.TrodAll enc P W' b sp hd f.resultTypes.toList (v.resultList f.resultTypes.size) (s.fn H (ds ++ gs)).results [])
    (hargs : ∀ sp : Nat → Bool, (∀ p ∈ before, sp p.block = true) → DataW.TrodAll enc P W' 0 sp true f.params.toList args.toList (s.fn H (ds ++ gs)).args pa)
    (hvars : ∀ sp : Nat → Bool, (∀ p ∈ before, sp p.block = true) → DataW.TrodVars enc P W' sp s.vars (s.fn H (ds ++ gs)).vars pv)
    (hps : before = pa ++ pv) (hk : Kept W W')
    (hok : ∀ (j : Nat) (t : TypeId) (r : Value), f.resultTypes[j]? = some t → (v.resultList f.resultTypes.size)[j]? = some r → Value.okWide P W' .any 0 t r) :
    s.post enc P f apart fresh handsOn again W args v W' := by
  have hlt : ∀ p ∈ before, p.block < W.heap.size := fun p hp => hW.lt p hp
  have hold : ∀ p ∈ before, (fun b => decide (b < W.heap.size)) p.block = true := fun p hp => by simpa using hlt p hp
  refine ⟨ds, gs, before, [], pa, pv, hW, hres _ _ _, hargs _ hold, hvars _ hold, World.keptBut_mono (fun p hp => ⟨hp, ?_⟩) (hk.frame (· ∈ before)), fun _ => ?_⟩
  · rw [hps, List.mem_append] at hp
    exact Or.inr hp
  · obtain ⟨_, _, _, _, _, hz, hn⟩ := hW
    refine ⟨hok, _, _, ([] ++ pa) ++ pv, ⟨[] ++ pa, pv, ChangeShapes.trodAll_append (hargs _ (fun _ _ => rfl)) (hres _ _ _), hvars _ (fun _ _ => rfl), rfl, ?_, ?_⟩, ?_⟩
    · intro b off hp
      have hp' : MemPlace.cell b off ∈ before := by rw [hps]; simpa using hp
      rw [hk.2 _ (hlt _ hp')]
      exact hz b off hp'
    · intro ha
      have := hn ha
      rw [hps] at this
      simpa using this
    · intro p hp _
      rw [hps]
      simpa using hp
end
end Go.Abs

/-! LawRoom -/

namespace Go.Abs

set_option maxRecDepth 8000
set_option linter.unusedSimpArgs false
set_option linter.unusedVariables false
open Go.Proofs

theorem room_tail {B : Base} {Q : Exit → Tm → St → Prop} {T : Str} {A d : Int} (hB : B.s = ⟨[], []⟩) (hQ : retF 0 0 [(4, none)] (.bool true) ⟨[], []⟩ = Q) (h : roomOk T A d = true) :
    Sem Try.prog B 124 Q1N Q [(1, .int .i64 d), (5, .str T), (6, .int .i64 A)] ⟨[], []⟩ := by
  have hlt : 0 < 1 := Nat.zero_lt_one
  have hget : 0 < 1 := Nat.zero_lt_one
  have hpu : 0 < 1 := Nat.zero_lt_one
  have hinc : 0 < 1 := Nat.zero_lt_one
  unfold roomOk at h
  simp only [Bool.and_eq_true] at h
  obtain ⟨hl, h⟩ := h
  have hl := Nat.le_of_ble_eq_true hl
  obtain ⟨⟨p, c, a⟩, hp, hsz⟩ := parseM_t T
  rw [hp] at h
  have h1 := fun s => Parse_s hp (by omega) s
  dsimp only at h h1 hsz
  have p0 : pg0.size < 1073741824 := Nat.lt_of_lt_of_le (Nat.le_of_ble_eq_true (by kernel_rfl : Nat.ble (pg0.size + 1) 1000 = true)) (Nat.le_of_ble_eq_true rfl)
  have h2 := fun s => Eq_s (a := p) (b := pg0) (by omega) s
  simp only [pg0, mkPg, List.map_nil] at h2
  clear hp
  refine wpC_sound ?_
  cases hd : decide (d > 0)
  · simp only [hd, Bool.false_eq_true, ↓reduceIte, Bool.and_eq_true] at h
    obtain ⟨hc0, hm⟩ := h
    have h3 := fun s => May_s (may_fine hm (by omega)) s
    rw [hm] at h3
    repeat' (first
 | simp only [go_sem, hlt, hget, hpu, hinc, Int.reduceLE, ↓reduceIte, reduceCtorEq, Nat.reduceEqDiff, Nat.reduceLeDiff, Nat.reduceAdd, Nat.reduceMul, Nat.reduceSub, Nat.reduceLT, hd, hc0]
 | (with_reducible refine CU (h1 _) ?_)
 | (with_reducible refine CU (h3 _) ?_)
 | (with_reducible first | refine CB_ofT (by assumption) fun hc => ?_ | refine CB_ofF (by assumption) fun hc => ?_ | refine CB_split (fun hc => ?_) fun hc => ?_) <;> (try simp only [hc, bs, ↓reduceIte] at h) <;> (try simp only [hc])
 | ((with_reducible first | refine leafR hQ ?_ | refine leafN hQ ?_); (try cases h); simp only [resL, oneD, Option.some.injEq, exists_eq_left', go_sem, hlt, hget, hpu, hinc, Int.reduceLE, ↓reduceIte, reduceCtorEq, Nat.reduceEqDiff, Nat.reduceLeDiff, Nat.reduceAdd, Nat.reduceMul, Nat.reduceSub, Nat.reduceLT, hd, hc0]; repeat' (first | exact Ok.out | with_reducible refine And.intro ?_ ?_ | (simp; done)))
 | (cases h; replace h := hr; clear hr; (try simp only [bs, ↓reduceIte] at h))
 | (cases h; done))
  · simp only [hd, ↓reduceIte, Bool.and_eq_true] at h
    obtain ⟨⟨hc4, ha⟩, hb⟩ := h
    simp only [pg0] at hb
    rw [hb] at h2
    repeat' (first
 | simp only [go_sem, hlt, hget, hpu, hinc, Int.reduceLE, ↓reduceIte, reduceCtorEq, Nat.reduceEqDiff, Nat.reduceLeDiff, Nat.reduceAdd, Nat.reduceMul, Nat.reduceSub, Nat.reduceLT, hd, hc4, ha]
 | (with_reducible refine CU (h1 _) ?_)
 | (with_reducible first | refine CB_ofT (by assumption) fun hc => ?_ | refine CB_ofF (by assumption) fun hc => ?_ | refine CB_split (fun hc => ?_) fun hc => ?_) <;> (try simp only [hc, bs, ↓reduceIte] at h) <;> (try simp only [hc])
 | ((with_reducible first | refine leafR hQ ?_ | refine leafN hQ ?_); (try cases h); simp only [resL, oneD, Option.some.injEq, exists_eq_left', go_sem, hlt, hget, hpu, hinc, Int.reduceLE, ↓reduceIte, reduceCtorEq, Nat.reduceEqDiff, Nat.reduceLeDiff, Nat.reduceAdd, Nat.reduceMul, Nat.reduceSub, Nat.reduceLT, hd, hc4, ha]; repeat' (first | exact Ok.out | with_reducible refine And.intro ?_ ?_ | (simp; done)))
 | (cases h; replace h := hr; clear hr; (try simp only [bs, ↓reduceIte] at h))
 | (cases h; done))
    refine CL.useW (h2 _) Ok.out ?_
    repeat' (first
 | simp only [go_sem, hlt, hget, hpu, hinc, Int.reduceLE, ↓reduceIte, reduceCtorEq, Nat.reduceEqDiff, Nat.reduceLeDiff, Nat.reduceAdd, Nat.reduceMul, Nat.reduceSub, Nat.reduceLT]
 | (with_reducible first | refine CB_ofT (by assumption) fun hc => ?_ | refine CB_ofF (by assumption) fun hc => ?_ | refine CB_split (fun hc => ?_) fun hc => ?_) <;> (try simp only [hc, bs, ↓reduceIte] at h) <;> (try simp only [hc])
 | ((with_reducible first | refine leafR hQ ?_ | refine leafN hQ ?_); (try cases h); simp only [resL, oneD, Option.some.injEq, exists_eq_left', go_sem, hlt, hget, hpu, hinc, Int.reduceLE, ↓reduceIte, reduceCtorEq, Nat.reduceEqDiff, Nat.reduceLeDiff, Nat.reduceAdd, Nat.reduceMul, Nat.reduceSub, Nat.reduceLT]; repeat' (first | exact Ok.out | with_reducible refine And.intro ?_ ?_ | (simp; done)))
 | (cases h; replace h := hr; clear hr; (try simp only [bs, ↓reduceIte] at h))
 | (cases h; done))

theorem room_end {B : Base} {Q : Exit → Tm → St → Prop} {T : Str} {A d : Int} {tm : Tm} (hB : B.s = ⟨[], []⟩) (hQ : retF 0 0 [(4, none)] (.bool true) ⟨[], []⟩ = Q) (h1 : tm.get 1 = .int .i64 d) (h5 : tm.get 5 = .str T) (h6 : tm.get 6 = .int .i64 A)
    (h : roomOk T A d = true) : Sem Try.prog B 124 Q1N Q tm ⟨[], []⟩ := by
  refine Sem.re _ _ 0 0 (by rw [hB]; exact Nat.le_refl _) (by rw [hB]; exact Nat.le_refl _) ?_ ?_ (room_tail hB hQ h)
  · simp only [TmW, h1, h5, h6, D.fg]
    exact ⟨Wk.refl _, Wk.refl _, Wk.refl _, trivial⟩
  · exact WkR.refl _

theorem room_len : (rowM [] 7).length = 27 ∧ (rowM [] 8).length = 31 ∧ (rowM [] 9).length = 35 ∧ (rowM [] 15).length = 59 ∧ (rowM [] 16).length = 63 ∧ (rowM [] 17).length = 67 ∧ (procsM 15).length = 180 ∧ (procsM 16).length = 192 ∧ (procsM 17).length = 204 ∧ (manyM [114, 101, 116, 117, 114, 110, 59] 199).length = 1393 ∧ (manyM [114, 101, 116, 117, 114, 110, 59] 200).length = 1400 ∧ (manyM [114, 101, 116, 117, 114, 110, 59] 201).length = 1407 ∧ (manyM [105, 102, 40, 49, 41, 123] 11).length = 66 ∧ (manyM [105, 102, 40, 49, 41, 123] 12).length = 72 ∧ (manyM [105, 102, 40, 49, 41, 123] 13).length = 78 ∧ (manyM [125] 11).length = 11 ∧ (manyM [125] 12).length = 12 ∧ (manyM [125] 13).length = 13 ∧ (manyM [45] 18).length = 18 ∧ (manyM [45] 19).length = 19 ∧ (manyM [45] 20).length = 20 :=
  ⟨by kernel_rfl, by kernel_rfl, by kernel_rfl, by kernel_rfl, by kernel_rfl, by kernel_rfl, by kernel_rfl, by kernel_rfl, by kernel_rfl, by kernel_rfl, by kernel_rfl, by kernel_rfl, by kernel_rfl, by kernel_rfl, by kernel_rfl, by kernel_rfl, by kernel_rfl, by kernel_rfl, by kernel_rfl, by kernel_rfl, by kernel_rfl⟩

set_option maxHeartbeats 4000000 in
theorem ParseRoom_true (k n : Int) : Fun Try.prog n_law4_ParseRoom [.int .i64 k, .int .i64 n] S0 (.bool true) S0 := by
  have m3 := modM_lt n (k := 3) (by omega)
  have m7 := modM_lt k (k := 7) (by omega)
  have h3 := fun s => Mod_s n (k := 3) (by omega) (by omega) s
  have h7 := fun s => Mod_s k (k := 7) (by omega) (by omega) s
  generalize modM n 3 = d at m3 h3
  generalize modM k 7 = c at m7 h7
  have hd : d = 0 ∨ d = 1 ∨ d = 2 := by omega
  have hc : c = 0 ∨ c = 1 ∨ c = 2 ∨ c = 3 ∨ c = 4 ∨ c = 5 ∨ c = 6 := by omega
  clear m3 m7
  unfold S0
  rcases hd with rfl | rfl | rfl <;> rcases hc with rfl | rfl | rfl | rfl | rfl | rfl | rfl
  all_goals
    refine Fun.goS has_law4_ParseRoom rfl fun B Q hB hQ => ?_
    have hlt : 0 < 1 := Nat.zero_lt_one
    have hget : 0 < 1 := Nat.zero_lt_one
    have hpu : 0 < 1 := Nat.zero_lt_one
    have hinc : 0 < 1 := Nat.zero_lt_one
    refine Sem.seqW ?_
    repeat' (first
 | simp only [go_sem, hlt, hget, hpu, hinc, Int.reduceLE, ↓reduceIte, reduceCtorEq, Nat.reduceEqDiff, Nat.reduceLeDiff, Nat.reduceAdd, Nat.reduceMul, Nat.reduceSub, Nat.reduceLT]
 | (with_reducible first | refine CB_ofT (by assumption) fun hc => ?_ | refine CB_ofF (by assumption) fun hc => ?_ | refine CB_split (fun hc => ?_) fun hc => ?_) <;> (try simp only [hc, bs, ↓reduceIte] at h) <;> (try simp only [hc])
 | ((with_reducible first | refine leafR hQ ?_ | refine leafN hQ ?_); (try cases h); simp only [resL, oneD, Option.some.injEq, exists_eq_left', go_sem, hlt, hget, hpu, hinc, Int.reduceLE, ↓reduceIte, reduceCtorEq, Nat.reduceEqDiff, Nat.reduceLeDiff, Nat.reduceAdd, Nat.reduceMul, Nat.reduceSub, Nat.reduceLT]; repeat' (first | exact Ok.out | with_reducible refine And.intro ?_ ?_ | (simp; done)))
 | (cases h; replace h := hr; clear hr; (try simp only [bs, ↓reduceIte] at h))
 | (cases h; done))
    refine Sem.seqW ?_
    repeat' (first
 | simp only [go_sem, hlt, hget, hpu, hinc, Int.reduceLE, ↓reduceIte, reduceCtorEq, Nat.reduceEqDiff, Nat.reduceLeDiff, Nat.reduceAdd, Nat.reduceMul, Nat.reduceSub, Nat.reduceLT]
 | (with_reducible refine CU (parsed_0 _) ?_)
 | (with_reducible first | refine CB_ofT (by assumption) fun hc => ?_ | refine CB_ofF (by assumption) fun hc => ?_ | refine CB_split (fun hc => ?_) fun hc => ?_) <;> (try simp only [hc, bs, ↓reduceIte] at h) <;> (try simp only [hc])
 | ((with_reducible first | refine leafR hQ ?_ | refine leafN hQ ?_); (try cases h); simp only [resL, oneD, Option.some.injEq, exists_eq_left', go_sem, hlt, hget, hpu, hinc, Int.reduceLE, ↓reduceIte, reduceCtorEq, Nat.reduceEqDiff, Nat.reduceLeDiff, Nat.reduceAdd, Nat.reduceMul, Nat.reduceSub, Nat.reduceLT]; repeat' (first | exact Ok.out | with_reducible refine And.intro ?_ ?_ | (simp; done)))
 | (cases h; replace h := hr; clear hr; (try simp only [bs, ↓reduceIte] at h))
 | (cases h; done))
    refine Sem.seqW ?_
    repeat' (first
 | simp only [go_sem, hlt, hget, hpu, hinc, Int.reduceLE, ↓reduceIte, reduceCtorEq, Nat.reduceEqDiff, Nat.reduceLeDiff, Nat.reduceAdd, Nat.reduceMul, Nat.reduceSub, Nat.reduceLT, Int.cast_ofNat_Int, wrap_ok, Int.reduceAdd, Int.reduceSub, Int.reduceLT, Int.reduceNeg, decide_true, decide_false, Int.reduceToNat]
 | (with_reducible refine CU (h3 _) ?_)
 | (with_reducible first | refine CB_ofT (by assumption) fun hc => ?_ | refine CB_ofF (by assumption) fun hc => ?_ | refine CB_split (fun hc => ?_) fun hc => ?_) <;> (try simp only [hc, bs, ↓reduceIte] at h) <;> (try simp only [hc])
 | ((with_reducible first | refine leafR hQ ?_ | refine leafN hQ ?_); (try cases h); simp only [resL, oneD, Option.some.injEq, exists_eq_left', go_sem, hlt, hget, hpu, hinc, Int.reduceLE, ↓reduceIte, reduceCtorEq, Nat.reduceEqDiff, Nat.reduceLeDiff, Nat.reduceAdd, Nat.reduceMul, Nat.reduceSub, Nat.reduceLT, Int.cast_ofNat_Int, wrap_ok, Int.reduceAdd, Int.reduceSub, Int.reduceLT, Int.reduceNeg, decide_true, decide_false, Int.reduceToNat]; repeat' (first | exact Ok.out | with_reducible refine And.intro ?_ ?_ | (simp; done)))
 | (cases h; replace h := hr; clear hr; (try simp only [bs, ↓reduceIte] at h))
 | (cases h; done))
    refine Sem.seqW ?_
    repeat' (first
 | simp only [go_sem, hlt, hget, hpu, hinc, Int.reduceLE, ↓reduceIte, reduceCtorEq, Nat.reduceEqDiff, Nat.reduceLeDiff, Nat.reduceAdd, Nat.reduceMul, Nat.reduceSub, Nat.reduceLT, Int.cast_ofNat_Int, wrap_ok, Int.reduceAdd, Int.reduceSub, Int.reduceLT, Int.reduceNeg, decide_true, decide_false, Int.reduceToNat]
 | (with_reducible refine CU (h7 _) ?_)
 | (with_reducible first | refine CB_ofT (by assumption) fun hc => ?_ | refine CB_ofF (by assumption) fun hc => ?_ | refine CB_split (fun hc => ?_) fun hc => ?_) <;> (try simp only [hc, bs, ↓reduceIte] at h) <;> (try simp only [hc])
 | ((with_reducible first | refine leafR hQ ?_ | refine leafN hQ ?_); (try cases h); simp only [resL, oneD, Option.some.injEq, exists_eq_left', go_sem, hlt, hget, hpu, hinc, Int.reduceLE, ↓reduceIte, reduceCtorEq, Nat.reduceEqDiff, Nat.reduceLeDiff, Nat.reduceAdd, Nat.reduceMul, Nat.reduceSub, Nat.reduceLT, Int.cast_ofNat_Int, wrap_ok, Int.reduceAdd, Int.reduceSub, Int.reduceLT, Int.reduceNeg, decide_true, decide_false, Int.reduceToNat]; repeat' (first | exact Ok.out | with_reducible refine And.intro ?_ ?_ | (simp; done)))
 | (cases h; replace h := hr; clear hr; (try simp only [bs, ↓reduceIte] at h))
 | (cases h; done))
    refine Sem.seqW ?_
    repeat' (first
 | simp only [go_sem, hlt, hget, hpu, hinc, Int.reduceLE, ↓reduceIte, reduceCtorEq, Nat.reduceEqDiff, Nat.reduceLeDiff, Nat.reduceAdd, Nat.reduceMul, Nat.reduceSub, Nat.reduceLT, Int.cast_ofNat_Int, wrap_ok, Int.reduceAdd, Int.reduceSub, Int.reduceLT, Int.reduceNeg, decide_true, decide_false, Int.reduceToNat, Int.reduceBEq, maxStr, room_len]
 | (with_reducible refine CU (h7 _) ?_)
 | (with_reducible refine CU (row_s (by decide) rfl _) ?_)
 | (with_reducible refine CU (procs_c (by decide) _) ?_)
 | (with_reducible refine CU (many_s (by decide) rfl _) ?_)
 | (with_reducible first | refine CB_ofT (by assumption) fun hc => ?_ | refine CB_ofF (by assumption) fun hc => ?_ | refine CB_split (fun hc => ?_) fun hc => ?_) <;> (try simp only [hc, bs, ↓reduceIte] at h) <;> (try simp only [hc])
 | ((with_reducible first | refine leafR hQ ?_ | refine leafN hQ ?_); (try cases h); simp only [resL, oneD, Option.some.injEq, exists_eq_left', go_sem, hlt, hget, hpu, hinc, Int.reduceLE, ↓reduceIte, reduceCtorEq, Nat.reduceEqDiff, Nat.reduceLeDiff, Nat.reduceAdd, Nat.reduceMul, Nat.reduceSub, Nat.reduceLT, Int.cast_ofNat_Int, wrap_ok, Int.reduceAdd, Int.reduceSub, Int.reduceLT, Int.reduceNeg, decide_true, decide_false, Int.reduceToNat, Int.reduceBEq, maxStr, room_len]; repeat' (first | exact Ok.out | with_reducible refine And.intro ?_ ?_ | (simp; done)))
 | (cases h; replace h := hr; clear hr; (try simp only [bs, ↓reduceIte] at h))
 | (cases h; done))
    refine room_end hB hQ rfl rfl rfl ?_
  · with_reducible exact room_0_0
  · with_reducible exact room_1_0
  · with_reducible exact room_2_0
  · with_reducible exact room_3_0
  · with_reducible exact room_4_0
  · with_reducible exact room_5_0
  · with_reducible exact room_6_0
  · with_reducible exact room_0_1
  · with_reducible exact room_1_1
  · with_reducible exact room_2_1
  · with_reducible exact room_3_1
  · with_reducible exact room_4_1
  · with_reducible exact room_5_1
  · with_reducible exact room_6_1
  · with_reducible exact room_0_2
  · with_reducible exact room_1_2
  · with_reducible exact room_2_2
  · with_reducible exact room_3_2
  · with_reducible exact room_4_2
  · with_reducible exact room_5_2
  · with_reducible exact room_6_2

end Go.Abs

/-! Join -/

namespace Go.Abs
open Go.RowKit Go.ChangeShapes Go.WideShapes

/-- All that can be read. -/
def memG (w : World) (b o : Nat) : Option Value :=
  match w.cell? ⟨b, o, none⟩ with
  | some v => if v.oneCell' = true then some v else none
  | none => none
theorem memG_ok {w : World} (b o : Nat) (v : Value) (h : memG w b o = some v) : w.cell? ⟨b, o, none⟩ = some v ∧ v.oneCell' = true := by
  unfold memG at h
  split at h
  · split at h
    · cases h; exact ⟨‹_›, ‹_›⟩
    · cases h
  · cases h
/-- All of it is fixed. -/
def memM (w : World) : Map := ⟨memG w, fun _ => 0, fun _ => none⟩

theorem Kept.sameAt {w w' : World} (h : Kept w w') {p : MemPlace} (hp : p.block < w.heap.size) : w.sameAt w' p := by
  have hk := h.1.2.2 p.block hp
  cases p with
  | cell b off =>
    simp only [MemPlace.block] at hk hp
    simp only [World.sameAt, World.cell?]
    split at hk
    · rename_i c t fr c' t' fr' e e'
      rw [e, e']
      simp only [hk.2.2.2 off (fun f => f)]
    · rename_i es clock es' clock' e e'
      rw [e, e']
    · rw [hk]
  | map b =>
    simp only [MemPlace.block] at hk hp
    simp only [World.sameAt]
    split at hk
    · rename_i c t fr c' t' fr' e e'
      rw [e, e']
      obtain ⟨rfl, rfl, hs, hc⟩ := hk
      have : c' = c := by
        apply Array.ext_getElem?
        intro i
        exact hc i (fun f => f)
      rw [this]
    · rename_i es clock es' clock' e e'
      rcases hk with f | ⟨rfl, rfl⟩
      · exact f.elim
      · rw [e, e']
    · exact hk

section
variable {P : Program} {H : Type} {enc : TypeId × Value → H} {T : TypeId → Prop}

theorem args_again (K : Kids P T) (hz : ∀ {t e : TypeId}, T t → P.underlying t = some (.slice e) → 0 < P.cellsOf e) {W W' : World} (hk : Kept W W') {sp : Nat → Bool} :
    ∀ {ts : List TypeId} {vs : List Value} {ds : List (DataW H)} {ps : List MemPlace}, (∀ t ∈ ts, T t) → (∀ p ∈ ps, p.block < W.heap.size) → (∀ p ∈ ps, sp p.block = true) →
      DataW.TrodAll enc P W 0 (fun _ => true) true ts vs ds ps → DataW.TrodAll enc P W' 0 sp true ts vs ds ps
  | [], [], [], _, _, _, _, h => h
  | t :: ts, v :: vs, d :: ds, ps, hT, hlt, hs, ⟨p, q, ⟨n, h1⟩, h2, e⟩ => by
    subst e
    refine ⟨p, q, ⟨n, DataW.trod_stays K hz (fun f => by cases f) (hT t (List.mem_cons_self ..)) h1 (fun x hx => hk.sameAt (hlt x (List.mem_append_left _ hx))) (fun x hx => hs x (List.mem_append_left _ hx))⟩, ?_, rfl⟩
    exact args_again K hz hk (fun t ht => hT t (List.mem_cons_of_mem _ ht)) (fun x hx => hlt x (List.mem_append_right _ hx)) (fun x hx => hs x (List.mem_append_right _ hx)) h2
  | [], [], _ :: _, _, _, _, _, h => h.elim
  | [], _ :: _, _, _, _, _, _, h => h.elim
  | _ :: _, [], _, _, _, _, _, h => h.elim
  | _ :: _, _ :: _, [], _, _, _, _, h => h.elim

/-- The row's closing condition. -/
theorem law_post (K : Kids P T) (hz : ∀ {t e : TypeId}, T t → P.underlying t = some (.slice e) → 0 < P.cellsOf e) {f : Func} {s : ChangeSpec} {apart fresh handsOn again : Bool} {tb : TypeId} {W W' : World} {args : Array Value} {ds gs : List (DataW H)} {before : List MemPlace}
    (hT : ∀ t ∈ f.params.toList, T t) (hb : P.underlying tb = some .bool) (hr : f.resultTypes = #[tb]) (hvars : s.vars = []) (hW : DataW.Whole enc P f.params.toList s.vars apart W args.toList ds gs before)
    (hfn : s.fn H (ds ++ gs) = { results := [.lit (.bool true)], args := ds }) (hk : Kept W W') : s.post enc P f apart fresh handsOn again W args (.bool true) W' := by
  have hW' := hW
  have hlt : ∀ p ∈ before, p.block < W.heap.size := fun p hp => hW.lt p hp
  obtain ⟨p, q, hA, hV, rfl, hfz, hnd⟩ := hW
  rw [hvars] at hV
  obtain ⟨rfl, rfl⟩ := trodVars_none hV
  simp only [List.append_nil] at hlt hfn
  refine post_of_kept (pa := p) (pv := []) hW' (fun b sp hd => ?_) (fun sp hsp => ?_) (fun sp hsp => ?_) rfl hk (ok_one hr rfl (okWide_bool_mk hb _))
  · rw [List.append_nil, hfn, hr]
    exact trodAll_cons_mk (shut_bool hb _) trodAll_mk0
  · rw [List.append_nil, hfn]
    simp only [List.append_nil] at hsp
    exact args_again K hz hk hT hlt hsp hA
  · rw [List.append_nil, hfn, hvars]
    rfl

/-- A law is called with arguments that can be read. -/
theorem law_run {f : FuncId} {args : List D} {vargs : Array Value} {w : World} (h : ACalls P f args S0 fun d _ => d = .bool true) (hl : vargs.size = args.length)
    (ha : ∀ (i : Nat) (d : D) (v : Value), args[i]? = some d → vargs[i]? = some v → RD (memM w) S0 d v) : Calls P f vargs w fun e w' => e = .returned (.bool true) ∧ Kept w w' :=
  law_calls (G := memG w) h memG_ok hl ha
end

end Go.Abs

/-! ParseRoom -/

namespace Go.Proofs.Ytecpopiacpckiaa.parseRoom
open Go.ChangeShapes Go.WideShapes Go.ChangeAt Go.RowKit Go.Abs
set_option linter.unusedVariables false

theorem own : ownKnob Try.prog.godebug = none := by kernel_rfl
theorem kids : Kids Try.prog (· < Try.prog.types.size) := kids_rows (by kernel_rfl) (by kernel_rfl)
theorem full : ∀ {t e : TypeId}, t < Try.prog.types.size → Try.prog.underlying t = some (.slice e) → 0 < Try.prog.cellsOf e := fun {t e} => slices_full_of Try.prog (by kernel_rfl) t e

theorem walk (w : World) (k n : Int) : Calls Try.prog 11 #[.int .i64 k, .int .i64 n] w fun e w' => e = .returned (.bool true) ∧ Kept w w' := by
  refine law_run (args := [.int .i64 k, .int .i64 n]) ((ParseRoom_true k n).mono fun _ _ h => h.1) rfl ?_
  intro i d v h1 h2
  match i, h1, h2 with
  | 0, h1, h2 => simp at h1 h2; subst h1 h2; exact RD.int _ _
  | 1, h1, h2 => simp at h1 h2; subst h1 h2; exact RD.int _ _

set_option maxRecDepth 100000 in
theorem lifted (os : Os) (started : os.Started) (H : Type) (enc : TypeId × Value → H) :
    ReturnsInHanded {} Try.checked os 11 .any (Rows.parseRoomSpec.pre6 enc Try.prog Try.f11 Rows.parseRoomRow.domain false) (Rows.parseRoomSpec.post enc Try.prog Try.f11 false true false false) := by
  refine returnsInHanded_of_change (C := Try.checked) own started (by kernel_rfl) Try.func11
    (ChangeSpec.witness6 (enc := enc) (C := Try.checked) false ⟨#[], #[.int .i64 0, .int .i64 0], []⟩ 8 (by kernel_rfl) (by kernel_rfl) (by kernel_rfl) (by kernel_rfl)) ?_
  intro W base args ds gs before hval0 hW hcnd _
  have hval : ∀ (j : Nat) t v, Try.f11.params[j]? = some t → args[j]? = some v → Value.okWide Try.prog W .any base t v := hval0
  have hW' := hW
  obtain ⟨p, q, hA0, hV, rfl, hfz, hnd⟩ := hW
  have hA : DataW.TrodAll enc Try.prog W 0 (fun _ => true) true Try.f11.params.toList args.toList ds p := hA0
  rw [Try.params11] at hA hval
  obtain ⟨v0, v1, d0, d1, p0, p1, rfl, rfl, rfl, hd0, hd1⟩ := trodAll_two hA
  obtain ⟨k, rfl, rfl, rfl, _⟩ := open_int Try.underlying3 (hval 0 _ _ rfl rfl) hd0
  obtain ⟨n, rfl, rfl, rfl, _⟩ := open_int Try.underlying3 (hval 1 _ _ rfl rfl) hd1
  obtain ⟨rfl, rfl⟩ := trodVars_none hV
  refine (walk W k n).mono fun e W' ⟨he, hg⟩ => ?_
  subst he
  exact ⟨_, rfl, law_post kids full (by rw [Try.params11]; decide) Try.underlying4 (by kernel_rfl) rfl hW' rfl hg⟩

theorem over : Rows.parseRoomRow.holds Try.pinned (OpenSpec.ofChange Rows.parseRoomSpec) :=
  OpenClaim.holds_of_wide 11 Try.f11 rfl rfl rfl rfl rfl rfl rfl ⟨rfl, rfl, rfl, rfl, rfl⟩ rfl rfl rfl rfl rfl (by kernel_rfl) Try.func11 (by kernel_rfl)
    (of_decide_eq_true (by kernel_rfl)) (by unfold Func.isWrapper; first | (rw [if_pos (by decide +kernel)]; kernel_rfl) | (rw [if_neg (by decide +kernel)]; exact ⟨rfl, rfl⟩))
    (fun os started H enc _ => lifted os started H enc)

theorem proved : Rows.ParseRoomSaid :=
  over
#print axioms proved
end Go.Proofs.Ytecpopiacpckiaa.parseRoom
