/-
  What is proved here: the statement ParseTokensSaid: whatever the arguments, the law, called, gives true, and of what was there nothing turns.
  No conditions.
-/
import Derived.Test.YtecpopiacpckiaaPxT3
import Derived.RowKit3
import Derived.WalkKit
import Derived.ProofKit
import Derived.OpenShut
import Derived.ShutString
import Derived.ChangeMaps5
import Derived.ChangeStays
import Derived.Test.YtecpopiacpckiaaRows

/-! RefMay2 -/

namespace Go.Abs

set_option maxRecDepth 8000
set_option linter.unusedSimpArgs false
set_option linter.unusedVariables false
open Go.Proofs

/-- Its texts are texts. -/
structure Sm.Fine (s : Sm) : Prop where
  lab : ∀ t ∈ s.labels, t.length < 4611686018427387904
  labl : s.labels.length < 4611686018427387904
  name : s.name.length < 4611686018427387904
  proc : s.proc.length < 4611686018427387904
  x : s.x.size < 4611686018427387904
  xt : s.x.texts
  argl : s.args.length < 4611686018427387904
  arg : ∀ a ∈ s.args, a.x.size < 4611686018427387904 ∧ a.x.texts ∧ a.name.length < 4611686018427387904


section
variable {v : Sm} {B : Base} {Q : Exit → Tm → St → Prop} {p : Bool}

theorem one_4 (hf : v.Fine) (hB : B.s = ⟨[], []⟩) (hQ : retF 0 0 [(2, none)] (.bool p) ⟨[], []⟩ = Q)
    (h : (if !(Ar.mays v.args) then false else ((v.thn.length : Int) == 0 || v.kind == 5 || v.kind == 6) && ((v.els.length : Int) == 0 || v.kind == 5)) = p) :
    Sem Try.prog B 178 QLB Q [(1, .ptr 0 0)] ⟨[encSm v], []⟩ := by
  have hargl := hf.argl
  have harg := fun a ha s => arg_s (hf.arg a ha).1 (hf.arg a ha).2.1 (hf.arg a ha).2.2 s
  have hlt : 0 < 1 := Nat.zero_lt_one
  have hget : 0 < 1 := Nat.zero_lt_one
  have hpu : 0 < 1 := Nat.zero_lt_one
  have hinc : 0 < 1 := Nat.zero_lt_one
  refine wpC_sound ?_
  repeat' (first
 | simp only [go_sem, hlt, hget, hpu, hinc, Int.reduceLE, ↓reduceIte, reduceCtorEq, Nat.reduceEqDiff, Nat.reduceLeDiff, Nat.reduceAdd, Nat.reduceMul, Nat.reduceSub, Nat.reduceLT]
 | (with_reducible first | refine CB_ofT (by assumption) fun hc => ?_ | refine CB_ofF (by assumption) fun hc => ?_ | refine CB_split (fun hc => ?_) fun hc => ?_) <;> (try simp only [hc, bs, ↓reduceIte] at h) <;> (try simp only [hc])
 | ((with_reducible first | refine leafR hQ ?_ | refine leafN hQ ?_); (try cases h); simp only [resL, oneD, Option.some.injEq, exists_eq_left', go_sem, hlt, hget, hpu, hinc, Int.reduceLE, ↓reduceIte, reduceCtorEq, Nat.reduceEqDiff, Nat.reduceLeDiff, Nat.reduceAdd, Nat.reduceMul, Nat.reduceSub, Nat.reduceLT]; repeat' (first | exact Ok.out | with_reducible refine And.intro ?_ ?_ | (simp; done)))
 | (cases h; replace h := hr; clear hr; (try simp only [bs, ↓reduceIte] at h))
 | (cases h; done))
  refine SemL.re _ _ 1 0 (by rw [hB]; exact Nat.le_of_ble_eq_true rfl) (by rw [hB]; exact Nat.le_of_ble_eq_true rfl) ?_ ?_ (SemL.ind (ι := List Ar × Nat) (fun i => v.args.drop i.2 = i.1 ∧ (if !(Ar.mays i.1) then false else ((v.thn.length : Int) == 0 || v.kind == 5 || v.kind == 6) && ((v.els.length : Int) == 0 || v.kind == 5)) = p) (fun i => i.1.length)
    (fun i => [(1, .ptr 0 0), (143, .slice .shared 6 (v.args.map encAr)), (144, .int .i64 (v.args.length : Int)), (145, .int .i64 (i.2 : Int))]) (fun i => ⟨[encSm v], []⟩) ?_ (v.args, 0) ⟨rfl, h⟩)
  · (simp only [go_sem, hlt, hget, hpu, hinc, Int.reduceLE, ↓reduceIte, reduceCtorEq, Nat.reduceEqDiff, Nat.reduceLeDiff, Nat.reduceAdd, Nat.reduceMul, Nat.reduceSub, Nat.reduceLT]; repeat' (first | exact Ok.out | with_reducible refine And.intro ?_ ?_))
  · (simp only [go_sem, hlt, hget, hpu, hinc, Int.reduceLE, ↓reduceIte, reduceCtorEq, Nat.reduceEqDiff, Nat.reduceLeDiff, Nat.reduceAdd, Nat.reduceMul, Nat.reduceSub, Nat.reduceLT]; repeat' (first | exact Ok.out | with_reducible refine And.intro ?_ ?_))
  rintro ⟨rest, k⟩ ⟨h1, h⟩ IH
  dsimp only at h1 h
  cases rest with
  | nil =>
    have hlt := drop_nil h1
    simp only [Ar.mays, Bool.not_true, Bool.false_eq_true, ↓reduceIte] at h
    repeat' (first
 | simp only [go_sem, hlt, hget, hpu, hinc, Int.reduceLE, ↓reduceIte, reduceCtorEq, Nat.reduceEqDiff, Nat.reduceLeDiff, Nat.reduceAdd, Nat.reduceMul, Nat.reduceSub, Nat.reduceLT]
 | (with_reducible first | refine CB_ofT (by assumption) fun hc => ?_ | refine CB_ofF (by assumption) fun hc => ?_ | refine CB_split (fun hc => ?_) fun hc => ?_) <;> (try simp only [hc, bs, ↓reduceIte] at h) <;> (try simp only [hc])
 | ((with_reducible first | refine leafR hQ ?_ | refine leafN hQ ?_); (try cases h); simp only [resL, oneD, Option.some.injEq, exists_eq_left', go_sem, hlt, hget, hpu, hinc, Int.reduceLE, ↓reduceIte, reduceCtorEq, Nat.reduceEqDiff, Nat.reduceLeDiff, Nat.reduceAdd, Nat.reduceMul, Nat.reduceSub, Nat.reduceLT]; repeat' (first | exact Ok.out | with_reducible refine And.intro ?_ ?_ | (simp; done)))
 | (cases h; replace h := hr; clear hr; (try simp only [bs, ↓reduceIte] at h))
 | (cases h; done))
    all_goals
      simp only [*]
      exact Ok.out
  | cons a rest =>
    obtain ⟨hget, g2, hlt, g4⟩ := drop_cons h1
    have ha := harg a (List.mem_of_getElem? hget)
    have hpu : k < 4611686018427387904 := by omega
    simp only [Ar.mays] at h
    repeat' (first
 | simp only [go_sem, hlt, hget, hpu, hinc, Int.reduceLE, ↓reduceIte, reduceCtorEq, Nat.reduceEqDiff, Nat.reduceLeDiff, Nat.reduceAdd, Nat.reduceMul, Nat.reduceSub, Nat.reduceLT]
 | (with_reducible refine CU (ha _) ?_)
 | (with_reducible first | refine CB_ofT (by assumption) fun hc => ?_ | refine CB_ofF (by assumption) fun hc => ?_ | refine CB_split (fun hc => ?_) fun hc => ?_) <;> (try simp only [hc, bs, ↓reduceIte] at h) <;> (try simp only [hc])
 | ((with_reducible first | refine leafR hQ ?_ | refine leafN hQ ?_); (try cases h); simp only [resL, oneD, Option.some.injEq, exists_eq_left', go_sem, hlt, hget, hpu, hinc, Int.reduceLE, ↓reduceIte, reduceCtorEq, Nat.reduceEqDiff, Nat.reduceLeDiff, Nat.reduceAdd, Nat.reduceMul, Nat.reduceSub, Nat.reduceLT]; repeat' (first | exact Ok.out | with_reducible refine And.intro ?_ ?_ | (simp; done)))
 | (cases h; replace h := hr; clear hr; (try simp only [bs, ↓reduceIte] at h))
 | (cases h; done))
    refine SemL.re _ _ 1 0 (by rw [hB]; exact Nat.le_of_ble_eq_true rfl) (by rw [hB]; exact Nat.le_of_ble_eq_true rfl) ?_ ?_ (IH (rest, k + 1) ⟨g2, h⟩ (Nat.lt_succ_self _))
    · (simp only [go_sem, hlt, hget, hpu, hinc, Int.reduceLE, ↓reduceIte, reduceCtorEq, Nat.reduceEqDiff, Nat.reduceLeDiff, Nat.reduceAdd, Nat.reduceMul, Nat.reduceSub, Nat.reduceLT]; repeat' (first | exact Ok.out | with_reducible refine And.intro ?_ ?_))
    · (simp only [go_sem, hlt, hget, hpu, hinc, Int.reduceLE, ↓reduceIte, reduceCtorEq, Nat.reduceEqDiff, Nat.reduceLeDiff, Nat.reduceAdd, Nat.reduceMul, Nat.reduceSub, Nat.reduceLT]; repeat' (first | exact Ok.out | with_reducible refine And.intro ?_ ?_))

theorem one_3 {cl : Bool} (hf : v.Fine) (hB : B.s = ⟨[], []⟩) (hQ : retF 0 0 [(2, none)] (.bool p) ⟨[], []⟩ = Q)
    (h : (if !(cl == !(v.proc == [])) || (cl && !(isName v.proc)) || (!cl && decide ((v.args.length : Int) > 0)) then false
      else if !(Ar.mays v.args) then false else ((v.thn.length : Int) == 0 || v.kind == 5 || v.kind == 6) && ((v.els.length : Int) == 0 || v.kind == 5)) = p) :
    Sem Try.prog B 178 QLC Q [(1, .ptr 0 0), (5, .bool cl)] ⟨[encSm v], []⟩ := by
  have hproc := RName_s v.proc hf.proc
  have hlt : 0 < 1 := Nat.zero_lt_one
  have hget : 0 < 1 := Nat.zero_lt_one
  have hpu : 0 < 1 := Nat.zero_lt_one
  have hinc : 0 < 1 := Nat.zero_lt_one
  refine Sem.seqW ?_
  repeat' (first
 | simp only [go_sem, hlt, hget, hpu, hinc, Int.reduceLE, ↓reduceIte, reduceCtorEq, Nat.reduceEqDiff, Nat.reduceLeDiff, Nat.reduceAdd, Nat.reduceMul, Nat.reduceSub, Nat.reduceLT]
 | (with_reducible refine CU (hproc _) ?_)
 | (with_reducible first | refine CB_ofT (by assumption) fun hc => ?_ | refine CB_ofF (by assumption) fun hc => ?_ | refine CB_split (fun hc => ?_) fun hc => ?_) <;> (try simp only [hc, bs, ↓reduceIte] at h) <;> (try simp only [hc])
 | ((with_reducible first | refine leafR hQ ?_ | refine leafN hQ ?_); (try cases h); simp only [resL, oneD, Option.some.injEq, exists_eq_left', go_sem, hlt, hget, hpu, hinc, Int.reduceLE, ↓reduceIte, reduceCtorEq, Nat.reduceEqDiff, Nat.reduceLeDiff, Nat.reduceAdd, Nat.reduceMul, Nat.reduceSub, Nat.reduceLT]; repeat' (first | exact Ok.out | with_reducible refine And.intro ?_ ?_ | (simp; done)))
 | (cases h; replace h := hr; clear hr; (try simp only [bs, ↓reduceIte] at h))
 | (cases h; done))
  all_goals
    refine Sem.re _ _ 1 0 (by rw [hB]; exact Nat.le_of_ble_eq_true rfl) (by rw [hB]; exact Nat.le_of_ble_eq_true rfl) ?_ ?_ (one_4 hf hB hQ h)
    · (simp only [go_sem, hlt, hget, hpu, hinc, Int.reduceLE, ↓reduceIte, reduceCtorEq, Nat.reduceEqDiff, Nat.reduceLeDiff, Nat.reduceAdd, Nat.reduceMul, Nat.reduceSub, Nat.reduceLT]; repeat' (first | exact Ok.out | with_reducible refine And.intro ?_ ?_))
    · (simp only [go_sem, hlt, hget, hpu, hinc, Int.reduceLE, ↓reduceIte, reduceCtorEq, Nat.reduceEqDiff, Nat.reduceLeDiff, Nat.reduceAdd, Nat.reduceMul, Nat.reduceSub, Nat.reduceLT]; repeat' (first | exact Ok.out | with_reducible refine And.intro ?_ ?_))

theorem one_2 {hn cl : Bool} (hf : v.Fine) (hB : B.s = ⟨[], []⟩) (hQ : retF 0 0 [(2, none)] (.bool p) ⟨[], []⟩ = Q)
    (h : (if (hn && !(isName v.name)) || (!hn && !(v.name == []) && !(cl && isName v.name)) then false
      else if !(cl == !(v.proc == [])) || (cl && !(isName v.proc)) || (!cl && decide ((v.args.length : Int) > 0)) then false
      else if !(Ar.mays v.args) then false else ((v.thn.length : Int) == 0 || v.kind == 5 || v.kind == 6) && ((v.els.length : Int) == 0 || v.kind == 5)) = p) :
    Sem Try.prog B 178 QLD Q [(1, .ptr 0 0), (4, .bool hn), (5, .bool cl)] ⟨[encSm v], []⟩ := by
  have hname := RName_s v.name hf.name
  have hlt : 0 < 1 := Nat.zero_lt_one
  have hget : 0 < 1 := Nat.zero_lt_one
  have hpu : 0 < 1 := Nat.zero_lt_one
  have hinc : 0 < 1 := Nat.zero_lt_one
  have k := @one_3 v B Q p cl hf hB hQ
  cases cl
  all_goals
    refine Sem.seqW ?_
    repeat' (first
 | simp only [go_sem, hlt, hget, hpu, hinc, Int.reduceLE, ↓reduceIte, reduceCtorEq, Nat.reduceEqDiff, Nat.reduceLeDiff, Nat.reduceAdd, Nat.reduceMul, Nat.reduceSub, Nat.reduceLT]
 | (with_reducible refine CU (hname _) ?_)
 | (with_reducible first | refine CB_ofT (by assumption) fun hc => ?_ | refine CB_ofF (by assumption) fun hc => ?_ | refine CB_split (fun hc => ?_) fun hc => ?_) <;> (try simp only [hc, bs, ↓reduceIte] at h) <;> (try simp only [hc])
 | ((with_reducible first | refine leafR hQ ?_ | refine leafN hQ ?_); (try cases h); simp only [resL, oneD, Option.some.injEq, exists_eq_left', go_sem, hlt, hget, hpu, hinc, Int.reduceLE, ↓reduceIte, reduceCtorEq, Nat.reduceEqDiff, Nat.reduceLeDiff, Nat.reduceAdd, Nat.reduceMul, Nat.reduceSub, Nat.reduceLT]; repeat' (first | exact Ok.out | with_reducible refine And.intro ?_ ?_ | (simp; done)))
 | (cases h; replace h := hr; clear hr; (try simp only [bs, ↓reduceIte] at h))
 | (cases h; done))
  all_goals
    refine Sem.re _ _ 1 0 (by rw [hB]; exact Nat.le_of_ble_eq_true rfl) (by rw [hB]; exact Nat.le_of_ble_eq_true rfl) ?_ ?_ (k (by simpa only [bs, ↓reduceIte] using h))
    · (simp only [go_sem, hlt, hget, hpu, hinc, Int.reduceLE, ↓reduceIte, reduceCtorEq, Nat.reduceEqDiff, Nat.reduceLeDiff, Nat.reduceAdd, Nat.reduceMul, Nat.reduceSub, Nat.reduceLT]; repeat' (first | exact Ok.out | with_reducible refine And.intro ?_ ?_))
    · (simp only [go_sem, hlt, hget, hpu, hinc, Int.reduceLE, ↓reduceIte, reduceCtorEq, Nat.reduceEqDiff, Nat.reduceLeDiff, Nat.reduceAdd, Nat.reduceMul, Nat.reduceSub, Nat.reduceLT]; repeat' (first | exact Ok.out | with_reducible refine And.intro ?_ ?_))

theorem one_1 {hx hn cl : Bool} (hf : v.Fine) (hB : B.s = ⟨[], []⟩) (hQ : retF 0 0 [(2, none)] (.bool p) ⟨[], []⟩ = Q)
    (h : (if decide (v.kind < 1) || decide (v.kind > 10) || !(mayNames v.labels) || (hx && !(v.x.may)) || (!hx && !(v.x.none)) || (v.has && v.kind != 9) then false
      else if (hn && !(isName v.name)) || (!hn && !(v.name == []) && !(cl && isName v.name)) then false
      else if !(cl == !(v.proc == [])) || (cl && !(isName v.proc)) || (!cl && decide ((v.args.length : Int) > 0)) then false
      else if !(Ar.mays v.args) then false else ((v.thn.length : Int) == 0 || v.kind == 5 || v.kind == 6) && ((v.els.length : Int) == 0 || v.kind == 5)) = p) :
    Sem Try.prog B 178 QLE Q [(1, .ptr 0 0), (3, .bool hx), (4, .bool hn), (5, .bool cl)] ⟨[encSm v], []⟩ := by
  have hns := fun s => names_s' hf.labl hf.lab s
  have hm := MayExpr_s hf.x hf.xt
  have hlt : 0 < 1 := Nat.zero_lt_one
  have hget : 0 < 1 := Nat.zero_lt_one
  have hpu : 0 < 1 := Nat.zero_lt_one
  have hinc : 0 < 1 := Nat.zero_lt_one
  refine Sem.seqW ?_
  repeat' (first
 | simp only [go_sem, hlt, hget, hpu, hinc, Int.reduceLE, ↓reduceIte, reduceCtorEq, Nat.reduceEqDiff, Nat.reduceLeDiff, Nat.reduceAdd, Nat.reduceMul, Nat.reduceSub, Nat.reduceLT]
 | (with_reducible refine CU (hns _) ?_)
 | (with_reducible refine CU (hm _) ?_)
 | (with_reducible refine CU (none_s _ _) ?_)
 | (with_reducible first | refine CB_ofT (by assumption) fun hc => ?_ | refine CB_ofF (by assumption) fun hc => ?_ | refine CB_split (fun hc => ?_) fun hc => ?_) <;> (try simp only [hc, bs, ↓reduceIte] at h) <;> (try simp only [hc])
 | ((with_reducible first | refine leafR hQ ?_ | refine leafN hQ ?_); (try cases h); simp only [resL, oneD, Option.some.injEq, exists_eq_left', go_sem, hlt, hget, hpu, hinc, Int.reduceLE, ↓reduceIte, reduceCtorEq, Nat.reduceEqDiff, Nat.reduceLeDiff, Nat.reduceAdd, Nat.reduceMul, Nat.reduceSub, Nat.reduceLT]; repeat' (first | exact Ok.out | with_reducible refine And.intro ?_ ?_ | (simp; done)))
 | (cases h; replace h := hr; clear hr; (try simp only [bs, ↓reduceIte] at h))
 | (cases h; done))
  all_goals
    refine Sem.re _ _ 1 0 (by rw [hB]; exact Nat.le_of_ble_eq_true rfl) (by rw [hB]; exact Nat.le_of_ble_eq_true rfl) ?_ ?_ (one_2 hf hB hQ h)
    · (simp only [go_sem, hlt, hget, hpu, hinc, Int.reduceLE, ↓reduceIte, reduceCtorEq, Nat.reduceEqDiff, Nat.reduceLeDiff, Nat.reduceAdd, Nat.reduceMul, Nat.reduceSub, Nat.reduceLT]; repeat' (first | exact Ok.out | with_reducible refine And.intro ?_ ?_))
    · (simp only [go_sem, hlt, hget, hpu, hinc, Int.reduceLE, ↓reduceIte, reduceCtorEq, Nat.reduceEqDiff, Nat.reduceLeDiff, Nat.reduceAdd, Nat.reduceMul, Nat.reduceSub, Nat.reduceLT]; repeat' (first | exact Ok.out | with_reducible refine And.intro ?_ ?_))

theorem one_c {hx hn : Bool} (hf : v.Fine) (hB : B.s = ⟨[], []⟩) (hQ : retF 0 0 [(2, none)] (.bool p) ⟨[], []⟩ = Q) (ex : v.hasX = hx) (en : v.hasName = hn) (h : v.one = p) :
    Sem Try.prog B 178 QLF Q [(1, .ptr 0 0), (3, .bool hx), (4, .bool hn)] ⟨[encSm v], []⟩ := by
  unfold Sm.one at h
  rw [ex, en] at h
  have hlt : 0 < 1 := Nat.zero_lt_one
  have hget : 0 < 1 := Nat.zero_lt_one
  have hpu : 0 < 1 := Nat.zero_lt_one
  have hinc : 0 < 1 := Nat.zero_lt_one
  refine Sem.seqW ?_
  repeat' (first
 | simp only [go_sem, hlt, hget, hpu, hinc, Int.reduceLE, ↓reduceIte, reduceCtorEq, Nat.reduceEqDiff, Nat.reduceLeDiff, Nat.reduceAdd, Nat.reduceMul, Nat.reduceSub, Nat.reduceLT]
 | (with_reducible first | refine CB_ofT (by assumption) fun hc => ?_ | refine CB_ofF (by assumption) fun hc => ?_ | refine CB_split (fun hc => ?_) fun hc => ?_) <;> (try simp only [hc, bs, ↓reduceIte] at h) <;> (try simp only [hc])
 | ((with_reducible first | refine leafR hQ ?_ | refine leafN hQ ?_); (try cases h); simp only [resL, oneD, Option.some.injEq, exists_eq_left', go_sem, hlt, hget, hpu, hinc, Int.reduceLE, ↓reduceIte, reduceCtorEq, Nat.reduceEqDiff, Nat.reduceLeDiff, Nat.reduceAdd, Nat.reduceMul, Nat.reduceSub, Nat.reduceLT]; repeat' (first | exact Ok.out | with_reducible refine And.intro ?_ ?_ | (simp; done)))
 | (cases h; replace h := hr; clear hr; (try simp only [bs, ↓reduceIte] at h))
 | (cases h; done))
  refine Sem.re _ _ 1 0 (by rw [hB]; exact Nat.le_of_ble_eq_true rfl) (by rw [hB]; exact Nat.le_of_ble_eq_true rfl) ?_ ?_ (one_1 hf hB hQ h)
  · (simp only [go_sem, hlt, hget, hpu, hinc, Int.reduceLE, ↓reduceIte, reduceCtorEq, Nat.reduceEqDiff, Nat.reduceLeDiff, Nat.reduceAdd, Nat.reduceMul, Nat.reduceSub, Nat.reduceLT, Sm.isCall]; repeat' (first | exact Ok.out | with_reducible refine And.intro ?_ ?_))
  · (simp only [go_sem, hlt, hget, hpu, hinc, Int.reduceLE, ↓reduceIte, reduceCtorEq, Nat.reduceEqDiff, Nat.reduceLeDiff, Nat.reduceAdd, Nat.reduceMul, Nat.reduceSub, Nat.reduceLT, Sm.isCall]; repeat' (first | exact Ok.out | with_reducible refine And.intro ?_ ?_))

theorem one_b {hx : Bool} (hf : v.Fine) (hB : B.s = ⟨[], []⟩) (hQ : retF 0 0 [(2, none)] (.bool p) ⟨[], []⟩ = Q) (ex : v.hasX = hx) (hp : v.one = p) :
    Sem Try.prog B 178 QLG Q [(1, .ptr 0 0), (3, .bool hx)] ⟨[encSm v], []⟩ := by
  generalize h : v.hasName = hn
  have hn := h
  unfold Sm.hasName at h
  have hlt : 0 < 1 := Nat.zero_lt_one
  have hget : 0 < 1 := Nat.zero_lt_one
  have hpu : 0 < 1 := Nat.zero_lt_one
  have hinc : 0 < 1 := Nat.zero_lt_one
  refine Sem.seqW ?_
  repeat' (first
 | simp only [go_sem, hlt, hget, hpu, hinc, Int.reduceLE, ↓reduceIte, reduceCtorEq, Nat.reduceEqDiff, Nat.reduceLeDiff, Nat.reduceAdd, Nat.reduceMul, Nat.reduceSub, Nat.reduceLT]
 | (with_reducible first | refine CB_ofT (by assumption) fun hc => ?_ | refine CB_ofF (by assumption) fun hc => ?_ | refine CB_split (fun hc => ?_) fun hc => ?_) <;> (try simp only [hc, bs, ↓reduceIte] at h) <;> (try simp only [hc])
 | ((with_reducible first | refine leafR hQ ?_ | refine leafN hQ ?_); (try cases h); simp only [resL, oneD, Option.some.injEq, exists_eq_left', go_sem, hlt, hget, hpu, hinc, Int.reduceLE, ↓reduceIte, reduceCtorEq, Nat.reduceEqDiff, Nat.reduceLeDiff, Nat.reduceAdd, Nat.reduceMul, Nat.reduceSub, Nat.reduceLT]; repeat' (first | exact Ok.out | with_reducible refine And.intro ?_ ?_ | (simp; done)))
 | (cases h; replace h := hr; clear hr; (try simp only [bs, ↓reduceIte] at h))
 | (cases h; done))
  all_goals
    refine Sem.re _ _ 1 0 (by rw [hB]; exact Nat.le_of_ble_eq_true rfl) (by rw [hB]; exact Nat.le_of_ble_eq_true rfl) ?_ ?_ (one_c hf hB hQ ex hn hp)
    · (simp only [go_sem, hlt, hget, hpu, hinc, Int.reduceLE, ↓reduceIte, reduceCtorEq, Nat.reduceEqDiff, Nat.reduceLeDiff, Nat.reduceAdd, Nat.reduceMul, Nat.reduceSub, Nat.reduceLT, h]; repeat' (first | exact Ok.out | with_reducible refine And.intro ?_ ?_))
    · (simp only [go_sem, hlt, hget, hpu, hinc, Int.reduceLE, ↓reduceIte, reduceCtorEq, Nat.reduceEqDiff, Nat.reduceLeDiff, Nat.reduceAdd, Nat.reduceMul, Nat.reduceSub, Nat.reduceLT, h]; repeat' (first | exact Ok.out | with_reducible refine And.intro ?_ ?_))

theorem one_a (hf : v.Fine) (hB : B.s = ⟨[], []⟩) (hQ : retF 0 0 [(2, none)] (.bool p) ⟨[], []⟩ = Q) (hp : v.one = p) :
    Sem Try.prog B 178 QLH Q [(1, .ptr 0 0)] ⟨[encSm v], []⟩ := by
  generalize h : v.hasX = hx
  have ex := h
  unfold Sm.hasX at h
  have hlt : 0 < 1 := Nat.zero_lt_one
  have hget : 0 < 1 := Nat.zero_lt_one
  have hpu : 0 < 1 := Nat.zero_lt_one
  have hinc : 0 < 1 := Nat.zero_lt_one
  refine Sem.seqW ?_
  repeat' (first
 | simp only [go_sem, hlt, hget, hpu, hinc, Int.reduceLE, ↓reduceIte, reduceCtorEq, Nat.reduceEqDiff, Nat.reduceLeDiff, Nat.reduceAdd, Nat.reduceMul, Nat.reduceSub, Nat.reduceLT]
 | (with_reducible first | refine CB_ofT (by assumption) fun hc => ?_ | refine CB_ofF (by assumption) fun hc => ?_ | refine CB_split (fun hc => ?_) fun hc => ?_) <;> (try simp only [hc, bs, ↓reduceIte] at h) <;> (try simp only [hc])
 | ((with_reducible first | refine leafR hQ ?_ | refine leafN hQ ?_); (try cases h); simp only [resL, oneD, Option.some.injEq, exists_eq_left', go_sem, hlt, hget, hpu, hinc, Int.reduceLE, ↓reduceIte, reduceCtorEq, Nat.reduceEqDiff, Nat.reduceLeDiff, Nat.reduceAdd, Nat.reduceMul, Nat.reduceSub, Nat.reduceLT]; repeat' (first | exact Ok.out | with_reducible refine And.intro ?_ ?_ | (simp; done)))
 | (cases h; replace h := hr; clear hr; (try simp only [bs, ↓reduceIte] at h))
 | (cases h; done))
  all_goals
    refine Sem.re _ _ 1 0 (by rw [hB]; exact Nat.le_of_ble_eq_true rfl) (by rw [hB]; exact Nat.le_of_ble_eq_true rfl) ?_ ?_ (one_b hf hB hQ ex hp)
    · (simp only [go_sem, hlt, hget, hpu, hinc, Int.reduceLE, ↓reduceIte, reduceCtorEq, Nat.reduceEqDiff, Nat.reduceLeDiff, Nat.reduceAdd, Nat.reduceMul, Nat.reduceSub, Nat.reduceLT, h]; repeat' (first | exact Ok.out | with_reducible refine And.intro ?_ ?_))
    · (simp only [go_sem, hlt, hget, hpu, hinc, Int.reduceLE, ↓reduceIte, reduceCtorEq, Nat.reduceEqDiff, Nat.reduceLeDiff, Nat.reduceAdd, Nat.reduceMul, Nat.reduceSub, Nat.reduceLT, h]; repeat' (first | exact Ok.out | with_reducible refine And.intro ?_ ?_))
end

theorem Fun.goS {P : Program} {f : FuncId} {nt : Nat} {res : List (Nat × Option (Bool × Nat))} {body : AC} {args : List D} {s : St} {d : D} {s' : St} (h0 : Has P f nt res body) (hl : Nat.ble args.length nt = true)
    (h : ∀ (B : Base) (Q : Exit → Tm → St → Prop), B.s = s → retF s.objs.length s.toks.length res d s' = Q → Sem P B nt body Q (argTm 0 args) s) : Fun P f args s d s' := by
  obtain ⟨fn, hf, hc⟩ := h0
  exact Fun.intro ⟨fn, hf, hc⟩ (Nat.le_of_ble_eq_true hl) fun B hB => h B _ hB rfl

theorem one_s {v : Sm} (hf : v.Fine) (s : St) : Fun Try.prog n_ref3_one [.agg (encSm v)] s (.bool v.one) s := by
  refine Fun.pure ?_ (by simp [D.oks, D.ok, okSm]) rfl s
  unfold S0
  refine Fun.goS has_ref3_one rfl fun B Q hB hQ => ?_
  have hlt : 0 < 1 := Nat.zero_lt_one
  have hget : 0 < 1 := Nat.zero_lt_one
  have hpu : 0 < 1 := Nat.zero_lt_one
  have hinc : 0 < 1 := Nat.zero_lt_one
  refine Sem.seqW ?_
  repeat' (first
 | simp only [go_sem, hlt, hget, hpu, hinc, Int.reduceLE, ↓reduceIte, reduceCtorEq, Nat.reduceEqDiff, Nat.reduceLeDiff, Nat.reduceAdd, Nat.reduceMul, Nat.reduceSub, Nat.reduceLT]
 | (with_reducible first | refine CB_ofT (by assumption) fun hc => ?_ | refine CB_ofF (by assumption) fun hc => ?_ | refine CB_split (fun hc => ?_) fun hc => ?_) <;> (try simp only [hc, bs, ↓reduceIte] at h) <;> (try simp only [hc])
 | ((with_reducible first | refine leafR hQ ?_ | refine leafN hQ ?_); (try cases h); simp only [resL, oneD, Option.some.injEq, exists_eq_left', go_sem, hlt, hget, hpu, hinc, Int.reduceLE, ↓reduceIte, reduceCtorEq, Nat.reduceEqDiff, Nat.reduceLeDiff, Nat.reduceAdd, Nat.reduceMul, Nat.reduceSub, Nat.reduceLT]; repeat' (first | exact Ok.out | with_reducible refine And.intro ?_ ?_ | (simp; done)))
 | (cases h; replace h := hr; clear hr; (try simp only [bs, ↓reduceIte] at h))
 | (cases h; done))
  refine Sem.re _ _ 1 0 (by rw [hB]; exact Nat.le_of_ble_eq_true rfl) (by rw [hB]; exact Nat.le_of_ble_eq_true rfl) ?_ ?_ (one_a hf hB hQ rfl)
  · (simp only [go_sem, hlt, hget, hpu, hinc, Int.reduceLE, ↓reduceIte, reduceCtorEq, Nat.reduceEqDiff, Nat.reduceLeDiff, Nat.reduceAdd, Nat.reduceMul, Nat.reduceSub, Nat.reduceLT]; repeat' (first | exact Ok.out | with_reducible refine And.intro ?_ ?_))
  · (simp only [go_sem, hlt, hget, hpu, hinc, Int.reduceLE, ↓reduceIte, reduceCtorEq, Nat.reduceEqDiff, Nat.reduceLeDiff, Nat.reduceAdd, Nat.reduceMul, Nat.reduceSub, Nat.reduceLT]; repeat' (first | exact Ok.out | with_reducible refine And.intro ?_ ?_))

end Go.Abs

/-! Lx -/

namespace Go.Abs
set_option linter.unusedSimpArgs false
set_option linter.unusedVariables false

def isR (c : UInt8) : Bool := (c.toNat : Int) == 35

/-- A text, from a place on, is these tokens. -/
inductive Lx : Nat → Str → List Tok → Prop where
  | nil (pos : Nat) : Lx pos [] []
  | blank (pos : Nat) (c : UInt8) (r : Str) (l : List Tok) (h : isB c = true) (k : Lx (pos + 1) r l) : Lx pos (c :: r) l
  | rem (pos : Nat) (c : UInt8) (r : Str) (l : List Tok) (h : isB c = false) (h2 : isR c = true) (k : Lx (pos + lineL (c :: r)) ((c :: r).drop (lineL (c :: r))) l) : Lx pos (c :: r) l
  | tok (pos : Nat) (c : UInt8) (r : Str) (t : Tok) (l : List Tok) (h : isB c = false) (h2 : isR c = false) (ht : tokE pos (c :: r) = .inl t) (k : Lx (pos + t.text.length) ((c :: r).drop t.text.length) l) : Lx pos (c :: r) (t :: l)

theorem runL_le : ∀ s : Str, runL s ≤ s.length
  | [] => Nat.le_refl _
  | c :: r => by simp only [runL, List.length_cons]; split; have := runL_le r; omega; omega
theorem runD_le : ∀ s : Str, runD s ≤ s.length
  | [] => Nat.le_refl _
  | c :: r => by simp only [runD, List.length_cons]; split; have := runD_le r; omega; omega
theorem lineL_le : ∀ s : Str, lineL s ≤ s.length
  | [] => Nat.le_refl _
  | c :: r => by simp only [lineL, List.length_cons]; split; have := lineL_le r; omega; omega
theorem signL_le : ∀ s : Str, signL s ≤ s.length
  | [] => Nat.le_refl _
  | [c] => by simp only [signL]; split <;> simp
  | c :: d :: r => by simp only [signL, List.length_cons]; split; omega; split; omega; omega

/-- What a token is of its text. -/
theorem tokE_text {pos : Nat} {s : Str} {t : Tok} (h : tokE pos s = .inl t) : t.pos = pos ∧ 0 < t.text.length ∧ ∃ rest, s = t.text ++ rest := by
  cases s with
  | nil => simp only [tokE] at h; cases h
  | cons c r =>
    simp only [tokE] at h
    cases hL : isL c
    · simp only [hL, Bool.false_eq_true, ↓reduceIte] at h
      cases hD : isD c
      · simp only [hD, Bool.false_eq_true, ↓reduceIte] at h
        split at h
        · cases h
        · cases h
          have := signL_le (c :: r)
          exact ⟨rfl, by simp only [List.length_take]; simp only [List.length_cons] at this ⊢; omega, (c :: r).drop (signL (c :: r)), by simp⟩
      · have k0 : 0 < runD (c :: r) := by simp [runD, hD]
        simp only [hD, ↓reduceIte] at h
        split at h
        · cases h
        · split at h
          · cases h
            exact ⟨rfl, by simp only [List.length_take, List.length_cons]; omega, (c :: r).drop (runD (c :: r)), by simp⟩
          · cases h
    · have k0 : 0 < runL (c :: r) := by simp [runL, hL]
      simp only [hL, ↓reduceIte] at h
      split at h
      · cases h
      · cases h
        exact ⟨rfl, by simp only [List.length_take, List.length_cons]; omega, (c :: r).drop (runL (c :: r)), by simp⟩

theorem tokE_er {pos : Nat} {s : Str} {e : Int} (h : tokE pos s = .inr e) : e = 2 ∨ e = 4 := by
  cases s with
  | nil => simp only [tokE] at h; cases h; exact .inl rfl
  | cons c r =>
    simp only [tokE] at h
    repeat' split at h
    all_goals first | (cases h; simp; done) | cases h

theorem tokE_ln {pos : Nat} {s : Str} {t : Tok} (h : tokE pos s = .inl t) : t.text.length ≤ s.length := by
  obtain ⟨_, _, rest, e⟩ := tokE_text h
  rw [e]; simp

/-- What the lexer makes of such a text. -/
theorem lexF_Lx {pos : Nat} {s : Str} {l : List Tok} (h : Lx pos s l) : ∀ (n : Nat) (out : List Tok), s.length < n → out.length + l.length ≤ 2000 → lexF n pos s out = (out ++ l ++ [⟨0, [], 0, (pos + s.length : Nat)⟩], 0, 0) := by
  induction h with
  | nil pos =>
    intro n out hn ho
    cases n with
    | zero => omega
    | succ n => simp [lexF]
  | blank pos c r l h k ih =>
    intro n out hn ho
    cases n with
    | zero => omega
    | succ n =>
      simp only [List.length_cons] at hn
      simp only [lexF, h, ↓reduceIte]
      rw [ih n out (by omega) ho]
      simp only [List.length_cons]
      have : pos + 1 + r.length = pos + (r.length + 1) := by omega
      rw [this]
  | rem pos c r l h h2 k ih =>
    intro n out hn ho
    cases n with
    | zero => omega
    | succ n =>
      have h3 : ((c.toNat : Int) == 35) = true := h2
      simp only [lexF, h, h3, Bool.false_eq_true, ↓reduceIte]
      have hp : 0 < lineL (c :: r) := by
        have : ((c.toNat : Int) != 10) = true := by simp only [beq_iff_eq] at h3; simp [h3]
        simp [lineL, this]
      have hle := lineL_le (c :: r)
      rw [ih n out (by rw [List.length_drop]; omega) ho]
      have : pos + lineL (c :: r) + ((c :: r).drop (lineL (c :: r))).length = pos + (c :: r).length := by rw [List.length_drop]; omega
      rw [this]
  | tok pos c r t l h h2 ht k ih =>
    intro n out hn ho
    cases n with
    | zero => omega
    | succ n =>
      have h3 : ((c.toNat : Int) == 35) = false := h2
      simp only [List.length_cons] at ho
      have hne : ¬ out.length = 2000 := by omega
      simp only [lexF, h, h3, Bool.false_eq_true, ↓reduceIte, ht, if_neg hne]
      obtain ⟨_, hp, _⟩ := tokE_text ht
      have hle := tokE_ln ht
      rw [ih n _ (by rw [List.length_drop]; omega) (by simp; omega)]
      have : pos + t.text.length + ((c :: r).drop t.text.length).length = pos + (c :: r).length := by rw [List.length_drop]; omega
      rw [this]
      simp

/-- A text of which the lexer makes tokens is one. -/
theorem Lx_of : ∀ (n pos : Nat) (s : Str) (out : List Tok), s.length < n → (lexF n pos s out).2.1 = 0 → out.length ≤ 2000 → ∃ l, Lx pos s l ∧ out.length + l.length ≤ 2000 := by
  intro n
  induction n with
  | zero => intro pos s out hn; omega
  | succ n ih =>
    intro pos s out hn h ho
    cases s with
    | nil => exact ⟨[], .nil _, by simpa using ho⟩
    | cons c r =>
      simp only [List.length_cons] at hn
      simp only [lexF] at h
      cases hb : isB c
      · simp only [hb, Bool.false_eq_true, ↓reduceIte] at h
        cases h3 : ((c.toNat : Int) == 35)
        · simp only [h3, Bool.false_eq_true, ↓reduceIte] at h
          cases ht : tokE pos (c :: r) with
          | inr e => simp only [ht] at h; have := tokE_er ht; omega
          | inl t =>
            simp only [ht] at h
            split at h
            · cases h
            · rename_i h2
              obtain ⟨_, hp, _⟩ := tokE_text ht
              obtain ⟨l, hl, hlen⟩ := ih _ _ _ (by rw [List.length_drop, List.length_cons]; omega) h (by simp; omega)
              refine ⟨t :: l, .tok _ _ _ _ _ hb h3 ht hl, ?_⟩
              simp only [List.length_append, List.length_cons, List.length_nil] at hlen ⊢
              omega
        · simp only [h3, ↓reduceIte] at h
          have hp : 0 < lineL (c :: r) := by
            have : ((c.toNat : Int) != 10) = true := by simp only [beq_iff_eq] at h3; simp [h3]
            simp [lineL, this]
          obtain ⟨l, hl, hlen⟩ := ih _ _ _ (by rw [List.length_drop, List.length_cons]; omega) h ho
          exact ⟨l, .rem _ _ _ _ hb h3 hl, hlen⟩
      · simp only [hb, ↓reduceIte] at h
        obtain ⟨l, hl, hlen⟩ := ih _ _ _ (by omega) h ho
        exact ⟨l, .blank _ _ _ _ hb hl, hlen⟩

def tEnd (n : Nat) : Tok := ⟨0, [], 0, (n : Nat)⟩

theorem lexAll_Lx {s : Str} {l : List Tok} (h : Lx 0 s l) (hs : s.length ≤ 100000) (hl : l.length ≤ 2000) : lexAll s = (l ++ [tEnd s.length], 0, 0) := by
  unfold lexAll
  rw [if_neg (by omega), lexF_Lx h _ _ (Nat.lt_succ_self _) (by simpa using hl)]
  simp [tEnd]
theorem Lx_lexAll {s : Str} (h : (lexAll s).2.1 = 0) : ∃ l, Lx 0 s l ∧ s.length ≤ 100000 ∧ l.length ≤ 2000 ∧ lexAll s = (l ++ [tEnd s.length], 0, 0) := by
  unfold lexAll at h
  split at h
  · cases h
  · rename_i hs
    obtain ⟨l, hl, hlen⟩ := Lx_of _ _ _ _ (Nat.lt_succ_self _) h (Nat.zero_le _)
    have hlen : l.length ≤ 2000 := by simpa using hlen
    exact ⟨l, hl, by omega, hlen, lexAll_Lx hl (by omega) hlen⟩

/-- Where the tokens stand. -/
theorem Lx.pos {pos : Nat} {s : Str} {l : List Tok} (h : Lx pos s l) : (∀ t ∈ l, (pos : Int) ≤ t.pos ∧ t.pos < ((pos + s.length : Nat) : Int)) ∧ l.Pairwise (fun a b => a.pos < b.pos) := by
  induction h with
  | nil pos => exact ⟨by simp, .nil⟩
  | blank pos c r l h k ih =>
    refine ⟨fun t ht => ?_, ih.2⟩
    have := ih.1 t ht
    simp only [List.length_cons]; omega
  | rem pos c r l h h2 k ih =>
    refine ⟨fun t ht => ?_, ih.2⟩
    have := ih.1 t ht
    rw [List.length_drop] at this
    have hle := lineL_le (c :: r)
    omega
  | tok pos c r t l h h2 ht k ih =>
    obtain ⟨e, hp, _⟩ := tokE_text ht
    have hle := tokE_ln ht
    refine ⟨fun u hu => ?_, List.pairwise_cons.2 ⟨fun u hu => ?_, ih.2⟩⟩
    · rcases List.mem_cons.1 hu with rfl | hu
      · rw [e]; simp only [List.length_cons] at hle ⊢; omega
      · have := ih.1 u hu
        rw [List.length_drop] at this
        omega
    · have := ih.1 u hu
      rw [e]; omega

end Go.Abs

/-! Lx2 -/

namespace Go.Abs
set_option linter.unusedSimpArgs false
set_option linter.unusedVariables false

/-- Nothing that stands ahead goes on with that byte. -/
def stopC (c : UInt8) : Bool := !(isL c) && !(isD c) && !(c == 61) && !(c == 38) && !(c == 124)
def Stop : Str → Prop
  | [] => True
  | c :: _ => stopC c = true

theorem runL_app {b : Str} (hb : Stop b) : ∀ s : Str, runL (s ++ b) = runL s
  | [] => by
    cases b with
    | nil => rfl
    | cons c r =>
      simp only [Stop, stopC, Bool.and_eq_true, Bool.not_eq_true'] at hb
      simp only [List.nil_append, runL, hb.1.1.1.1, hb.1.1.1.2, Bool.or_self, Bool.false_eq_true, ↓reduceIte]
  | c :: s => by simp only [List.cons_append, runL, runL_app hb s]
theorem runD_app {b : Str} (hb : Stop b) : ∀ s : Str, runD (s ++ b) = runD s
  | [] => by
    cases b with
    | nil => rfl
    | cons c r =>
      simp only [Stop, stopC, Bool.and_eq_true, Bool.not_eq_true'] at hb
      simp only [List.nil_append, runD, hb.1.1.1.2, Bool.false_eq_true, ↓reduceIte]
  | c :: s => by simp only [List.cons_append, runD, runD_app hb s]
theorem sign2_stop {c d : UInt8} (h : stopC d = true) : sign2 [c, d] = false := by
  simp only [stopC, Bool.and_eq_true, Bool.not_eq_true', beq_eq_false_iff_ne, ne_eq] at h
  cases hs : sign2 [c, d]
  · rfl
  · exfalso
    simp only [sign2, Bool.or_eq_true, beq_iff_eq, List.cons.injEq, and_true] at hs
    obtain ⟨⟨_, h1⟩, h2⟩ := h
    obtain ⟨_, h0⟩ := ‹_ ∧ ¬ d = 61›
    rcases hs with ((((hs | hs) | hs) | hs) | hs) | hs
    · exact h0 hs.2
    · exact h0 hs.2
    · exact h0 hs.2
    · exact h0 hs.2
    · exact h1 hs.2
    · exact h2 hs.2
theorem signL_app {b : Str} (hb : Stop b) : ∀ s : Str, s ≠ [] → signL (s ++ b) = signL s
  | [], h => absurd rfl h
  | [c], _ => by
    cases b with
    | nil => rfl
    | cons d r =>
      simp only [List.cons_append, List.nil_append, signL, sign2_stop (c := c) hb, Bool.false_eq_true, ↓reduceIte]
  | c :: d :: s, _ => by simp only [List.cons_append, signL]
theorem take_app {α : Type} {s b : List α} {k : Nat} (h : k ≤ s.length) : (s ++ b).take k = s.take k := List.take_append_of_le_length h

/-- A token with something behind it that it does not go on with. -/
theorem tokE_app {pos : Nat} {s b : Str} {t : Tok} (hb : Stop b) (h : tokE pos s = .inl t) : tokE pos (s ++ b) = .inl t := by
  cases s with
  | nil => simp only [tokE] at h; cases h
  | cons c r =>
    have h1 := runL_app hb (c :: r)
    have h2 := runD_app hb (c :: r)
    have h3 := signL_app hb (c :: r) (by simp)
    have l1 := runL_le (c :: r)
    have l2 := runD_le (c :: r)
    have l3 := signL_le (c :: r)
    rw [List.cons_append] at h1 h2 h3 ⊢
    simp only [tokE] at h ⊢
    rw [h1, h2, h3, ← List.cons_append, take_app l1, take_app l2, take_app l3]
    exact h

theorem runL_take : ∀ (s : Str) (k : Nat), runL (s.take k) = min k (runL s)
  | [], k => by simp [runL]
  | c :: s, 0 => by simp [runL]
  | c :: s, k + 1 => by
    simp only [List.take_succ_cons, runL, runL_take s k]
    split
    · omega
    · omega
theorem runD_take : ∀ (s : Str) (k : Nat), runD (s.take k) = min k (runD s)
  | [], k => by simp [runD]
  | c :: s, 0 => by simp [runD]
  | c :: s, k + 1 => by
    simp only [List.take_succ_cons, runD, runD_take s k]
    split
    · omega
    · omega
theorem signL_take {s : Str} {k : Nat} (h : signL s ≤ k) (h0 : signL s ≠ 0) : signL (s.take k) = signL s := by
  match s, k, h, h0 with
  | [], k, h, h0 => exact absurd rfl h0
  | [c], 0, h, h0 => omega
  | [c], k + 1, h, h0 => simp
  | c :: d :: s, 0, h, h0 => omega
  | c :: d :: s, 1, h, h0 =>
    simp only [signL] at h h0 ⊢
    simp only [List.take_succ_cons, List.take_zero, signL]
    split at h
    · omega
    · rename_i h2
      rw [if_neg h2]
  | c :: d :: s, k + 2, h, h0 => simp only [List.take_succ_cons, signL]

/-- A token whose text is cut behind it. -/
theorem tokE_take {pos : Nat} {s : Str} {t : Tok} {k : Nat} (h : tokE pos s = .inl t) (hk : t.text.length ≤ k) : tokE pos (s.take k) = .inl t := by
  cases s with
  | nil => simp only [tokE] at h; cases h
  | cons c r =>
    have h1 := runL_take (c :: r) k
    have h2 := runD_take (c :: r) k
    have l1 := runL_le (c :: r)
    have l2 := runD_le (c :: r)
    have l3 := signL_le (c :: r)
    have hk0 : ∃ j, k = j + 1 := by
      obtain ⟨_, hp, _⟩ := tokE_text h
      exact ⟨k - 1, by omega⟩
    obtain ⟨j, rfl⟩ := hk0
    rw [List.take_succ_cons] at h1 h2 ⊢
    simp only [tokE] at h ⊢
    have tt : ∀ m, m ≤ j + 1 → (c :: r.take j).take m = (c :: r).take m := by
      intro m hm
      rw [← List.take_succ_cons, List.take_take]
      congr 1
      omega
    cases hL : isL c
    · simp only [hL, Bool.false_eq_true, ↓reduceIte] at h ⊢
      cases hD : isD c
      · simp only [hD, Bool.false_eq_true, ↓reduceIte] at h ⊢
        split at h
        · cases h
        · rename_i h0
          have hle : signL (c :: r) ≤ j + 1 := by cases h; simp only [List.length_take] at hk; omega
          have h3 := signL_take hle h0
          rw [List.take_succ_cons] at h3
          rw [h3, if_neg h0, tt _ hle]
          exact h
      · simp only [hD, ↓reduceIte] at h ⊢
        have hle : runD (c :: r) ≤ j + 1 := by
          split at h
          · cases h
          · split at h
            · cases h; simp only [List.length_take] at hk; omega
            · cases h
        have e : min (j + 1) (runD (c :: r)) = runD (c :: r) := by omega
        rw [h2, e, tt _ hle]
        exact h
    · simp only [hL, ↓reduceIte] at h ⊢
      have hle : runL (c :: r) ≤ j + 1 := by
        split at h
        · cases h
        · cases h; simp only [List.length_take] at hk; omega
      have e : min (j + 1) (runL (c :: r)) = runL (c :: r) := by omega
      rw [h1, e, tt _ hle]
      exact h

theorem tokE_at {pos : Nat} {s : Str} {t : Tok} (p : Nat) (h : tokE pos s = .inl t) : tokE p s = .inl { t with pos := (p : Nat) } := by
  cases s with
  | nil => simp only [tokE] at h; cases h
  | cons c r =>
    simp only [tokE] at h ⊢
    cases hL : isL c
    · simp only [hL, Bool.false_eq_true, ↓reduceIte] at h ⊢
      cases hD : isD c
      · simp only [hD, Bool.false_eq_true, ↓reduceIte] at h ⊢
        split at h
        · cases h
        · rename_i h0; cases h; rw [if_neg h0]
      · simp only [hD, ↓reduceIte] at h ⊢
        split at h
        · cases h
        · rename_i h0
          rw [if_neg h0]
          split at h
          · rename_i n hn; cases h; simp only [hn]
          · cases h
    · simp only [hL, ↓reduceIte] at h ⊢
      split at h
      · cases h
      · rename_i h0; cases h; rw [if_neg h0]

/-- A token by itself, wherever it stands, with something behind it. -/
def TGood (t : Tok) : Prop := 0 < t.text.length ∧ ∀ (p : Nat) (b : Str), Stop b → tokE p (t.text ++ b) = .inl { t with pos := (p : Nat) }
theorem TGood.of {pos : Nat} {s : Str} {t : Tok} (h : tokE pos s = .inl t) : TGood t := by
  obtain ⟨e, hp, rest, hs⟩ := tokE_text h
  refine ⟨hp, fun p b hb => ?_⟩
  have h1 := tokE_take h (Nat.le_refl _)
  have h2 : s.take t.text.length = t.text := by rw [hs]; simp
  rw [h2] at h1
  exact tokE_app hb (tokE_at p h1)
theorem Lx.good {pos : Nat} {s : Str} {l : List Tok} (h : Lx pos s l) : ∀ t ∈ l, TGood t := by
  induction h with
  | nil => simp
  | blank pos c r l h k ih => exact ih
  | rem pos c r l h h2 k ih => exact ih
  | tok pos c r t l h h2 ht k ih =>
    intro u hu
    rcases List.mem_cons.1 hu with rfl | hu
    · exact TGood.of ht
    · exact ih u hu

/-- The first byte of a token. -/
theorem tokE_first {pos : Nat} {s : Str} {t : Tok} (h : tokE pos s = .inl t) : ∃ c r, s = c :: r ∧ isB c = false ∧ isR c = false := by
  cases s with
  | nil => simp only [tokE] at h; cases h
  | cons c r =>
    refine ⟨c, r, rfl, ?_⟩
    simp only [tokE] at h
    cases hL : isL c
    · cases hD : isD c
      · simp only [hL, hD, Bool.false_eq_true, ↓reduceIte] at h
        have hs : signL (c :: r) ≠ 0 := by
          intro h0; rw [if_pos h0] at h; cases h
        have hc : ∀ n : Int, (c.toNat : Int) = n → n = 32 ∨ n = 9 ∨ n = 10 ∨ n = 13 ∨ n = 35 → False := by
          intro n hn hh
          have hcs : c = 32 ∨ c = 9 ∨ c = 10 ∨ c = 13 ∨ c = 35 := by
            have : ∀ k : UInt8, (c.toNat : Int) = (k.toNat : Int) → c = k := by
              intro k hk
              have : c.toNat = k.toNat := by omega
              exact UInt8.toNat_inj.1 this
            rcases hh with h | h | h | h | h
            · exact .inl (this 32 (by rw [hn, h]; rfl))
            · exact .inr (.inl (this 9 (by rw [hn, h]; rfl)))
            · exact .inr (.inr (.inl (this 10 (by rw [hn, h]; rfl))))
            · exact .inr (.inr (.inr (.inl (this 13 (by rw [hn, h]; rfl)))))
            · exact .inr (.inr (.inr (.inr (this 35 (by rw [hn, h]; rfl)))))
          apply hs
          cases r with
          | nil => rcases hcs with rfl | rfl | rfl | rfl | rfl <;> decide
          | cons d r =>
            have h1 : sign2 [c, d] = false := by
              cases hx : sign2 [c, d]
              · rfl
              · simp only [sign2, Bool.or_eq_true, beq_iff_eq, List.cons.injEq, and_true] at hx
                rcases hcs with rfl | rfl | rfl | rfl | rfl <;> simp at hx
            have h2 : sign1 c = false := by rcases hcs with rfl | rfl | rfl | rfl | rfl <;> decide
            simp only [signL, h1, h2, Bool.false_eq_true, ↓reduceIte]
        refine ⟨?_, ?_⟩
        · cases hb : isB c
          · rfl
          · simp only [isB, Bool.or_eq_true, beq_iff_eq] at hb
            exact (hc _ rfl (by omega)).elim
        · cases hb : isR c
          · rfl
          · simp only [isR, beq_iff_eq] at hb
            exact (hc _ rfl (by omega)).elim
      · simp only [isD, Bool.and_eq_true, decide_eq_true_eq] at hD
        refine ⟨?_, ?_⟩
        · simp only [isB, Bool.or_eq_false_iff, beq_eq_false_iff_ne, ne_eq]; omega
        · simp only [isR, beq_eq_false_iff_ne, ne_eq]; omega
    · simp only [isL, Bool.and_eq_true, decide_eq_true_eq] at hL
      refine ⟨?_, ?_⟩
      · simp only [isB, Bool.or_eq_false_iff, beq_eq_false_iff_ne, ne_eq]; omega
      · simp only [isR, beq_eq_false_iff_ne, ne_eq]; omega

theorem Lx.tok' {pos : Nat} {s : Str} {t : Tok} {l : List Tok} (ht : tokE pos s = .inl t) (k : Lx (pos + t.text.length) (s.drop t.text.length) l) : Lx pos s (t :: l) := by
  obtain ⟨c, r, rfl, h1, h2⟩ := tokE_first ht
  exact .tok _ _ _ _ _ h1 h2 ht k
/-- A token, then the rest. -/
theorem Lx.put {pos : Nat} {t : Tok} {b : Str} {l : List Tok} (h : TGood t) (hb : Stop b) (k : Lx (pos + t.text.length) b l) : Lx pos (t.text ++ b) ({ t with pos := (pos : Nat) } :: l) := by
  refine Lx.tok' (h.2 pos b hb) ?_
  dsimp only
  rw [List.drop_left]
  exact k

end Go.Abs

/-! Sim -/

namespace Go.Abs
set_option linter.unusedSimpArgs false
set_option linter.unusedVariables false

/-- Two tokens that a reader does not tell from each other. -/
structure TEq (t t' : Tok) : Prop where
  k : t'.kind = t.kind
  x : t'.text = t.text
  n : t'.n = t.n

/-- A token at which the first row ends, or a body; one at which the second row goes on otherwise. -/
def Quiet (t : Tok) : Prop := t.kind = 0 ∨ t.kind = 4 ∧ t.text = [125]
def Quiet' (t : Tok) : Prop := t.kind = 0 ∨ t.kind = 3 ∧ t.text = [112, 114, 111, 99]

/-- Two rows that agree below a place, or everywhere. -/
structure Env (l l' : List Tok) (N : Nat) (A : Prop) : Prop where
  low : ∀ (i : Nat) (t : Tok), l[i]? = some t → (A ∨ i < N) → ∃ t', l'[i]? = some t' ∧ TEq t t'
  at' : ¬ A → ∃ t t', l[N]? = some t ∧ l'[N]? = some t' ∧ Quiet t ∧ Quiet' t'

section
variable {l l' : List Tok} {N : Nat} {A : Prop}

structure Rel2 (l l' : List Tok) (r r' : Rd) : Prop where
  el : r.l = l
  el' : r'.l = l'
  ei : r'.i = r.i
  en : r'.n = r.n
  ec : r'.code = r.code
  ef : r.code = 0 ∨ ∃ (j : Nat) (t t' : Tok), l[j]? = some t ∧ l'[j]? = some t' ∧ r.fat = t.pos ∧ r'.fat = t'.pos

def Cnd (N : Nat) (A : Prop) (r : Rd) : Prop := A ∨ r.good = true ∧ r.i ≤ N
def SR (l l' : List Tok) (N : Nat) (A : Prop) (r r' : Rd) : Prop := Cnd N A r → Rel2 l l' r r'

def Sim {α : Type} (l l' : List Tok) (N : Nat) (A : Prop) (r : Rd) (o o' : Option (α × Rd)) : Prop :=
  ∀ p, o = some p → r.i ≤ p.2.i ∧ (p.2.good = true → r.good = true) ∧ (Cnd N A p.2 → ∃ q', o' = some (p.1, q') ∧ Rel2 l l' p.2 q')

theorem Cnd.back {r q : Rd} (h : Cnd N A q) (hi : r.i ≤ q.i) (hg : q.good = true → r.good = true) : Cnd N A r := by
  rcases h with h | h
  · exact .inl h
  · exact .inr ⟨hg h.1, Nat.le_trans hi h.2⟩

theorem Sim.bind {α β : Type} {r : Rd} {o o' : Option (α × Rd)} {f f' : α × Rd → Option (β × Rd)} (h : Sim l l' N A r o o') (k : ∀ a q q', SR l l' N A q q' → Sim l l' N A q (f (a, q)) (f' (a, q'))) :
    Sim l l' N A r (o.bind f) (o'.bind f') := by
  intro p hp
  rw [Option.bind_eq_some_iff] at hp
  obtain ⟨⟨a, q⟩, h1, h2⟩ := hp
  obtain ⟨m1, m2, m3⟩ := h _ h1
  dsimp only at m1 m2 m3
  by_cases hc : Cnd N A q
  · obtain ⟨q', e, rel⟩ := m3 hc
    obtain ⟨n1, n2, n3⟩ := k a q q' (fun _ => rel) _ h2
    refine ⟨Nat.le_trans m1 n1, fun g => m2 (n2 g), fun c => ?_⟩
    obtain ⟨s', e2, rel2⟩ := n3 c
    exact ⟨s', by rw [e]; exact e2, rel2⟩
  · obtain ⟨n1, n2, n3⟩ := k a q q (fun c => absurd c hc) _ h2
    exact ⟨Nat.le_trans m1 n1, fun g => m2 (n2 g), fun c => absurd (c.back n1 n2) hc⟩

/-- The same for a reader alone. -/
def SimR (l l' : List Tok) (N : Nat) (A : Prop) (r : Rd) (o o' : Option Rd) : Prop :=
  ∀ p, o = some p → r.i ≤ p.i ∧ (p.good = true → r.good = true) ∧ (Cnd N A p → ∃ q', o' = some q' ∧ Rel2 l l' p q')

theorem SimR.bind {β : Type} {r : Rd} {o o' : Option Rd} {f : Rd → Option (β × Rd)} (h : SimR l l' N A r o o') (k : ∀ q q', SR l l' N A q q' → Sim l l' N A q (f q) (f q')) :
    Sim l l' N A r (o.bind f) (o'.bind f) := by
  intro p hp
  rw [Option.bind_eq_some_iff] at hp
  obtain ⟨q, h1, h2⟩ := hp
  obtain ⟨m1, m2, m3⟩ := h _ h1
  by_cases hc : Cnd N A q
  · obtain ⟨q', e, rel⟩ := m3 hc
    obtain ⟨n1, n2, n3⟩ := k q q' (fun _ => rel) _ h2
    refine ⟨Nat.le_trans m1 n1, fun g => m2 (n2 g), fun c => ?_⟩
    obtain ⟨s', e2, rel2⟩ := n3 c
    exact ⟨s', by rw [e]; exact e2, rel2⟩
  · obtain ⟨n1, n2, n3⟩ := k q q (fun c => absurd c hc) _ h2
    exact ⟨Nat.le_trans m1 n1, fun g => m2 (n2 g), fun c => absurd (c.back n1 n2) hc⟩

theorem Sim.bindR {α : Type} {r : Rd} {o o' : Option (α × Rd)} {f : α × Rd → Option Rd} (h : Sim l l' N A r o o') (k : ∀ a q q', SR l l' N A q q' → SimR l l' N A q (f (a, q)) (f (a, q'))) :
    SimR l l' N A r (o.bind f) (o'.bind f) := by
  intro p hp
  rw [Option.bind_eq_some_iff] at hp
  obtain ⟨⟨a, q⟩, h1, h2⟩ := hp
  obtain ⟨m1, m2, m3⟩ := h _ h1
  dsimp only at m1 m2 m3
  by_cases hc : Cnd N A q
  · obtain ⟨q', e, rel⟩ := m3 hc
    obtain ⟨n1, n2, n3⟩ := k a q q' (fun _ => rel) _ h2
    refine ⟨Nat.le_trans m1 n1, fun g => m2 (n2 g), fun c => ?_⟩
    obtain ⟨s', e2, rel2⟩ := n3 c
    exact ⟨s', by rw [e]; exact e2, rel2⟩
  · obtain ⟨n1, n2, n3⟩ := k a q q (fun c => absurd c hc) _ h2
    exact ⟨Nat.le_trans m1 n1, fun g => m2 (n2 g), fun c => absurd (c.back n1 n2) hc⟩

theorem Sim.ret {α : Type} {r r' : Rd} (a : α) (h : SR l l' N A r r') : Sim l l' N A r (some (a, r)) (some (a, r')) := by
  intro p hp
  cases hp
  exact ⟨Nat.le_refl _, id, fun c => ⟨r', rfl, h c⟩⟩
theorem Sim.non {α : Type} {r : Rd} {o' : Option (α × Rd)} : Sim l l' N A r none o' := fun p hp => by cases hp
/-- What is asked on the way, and answered alike. -/
theorem Sim.ask {α β : Type} {r : Rd} {o o' : Option α} {f f' : α → Option (β × Rd)} (h : ∀ a, o = some a → Cnd N A r → o' = some a) (k : ∀ a, o = some a → Sim l l' N A r (f a) (f' a)) : Sim l l' N A r (o.bind f) (o'.bind f') := by
  intro p hp
  rw [Option.bind_eq_some_iff] at hp
  obtain ⟨a, h1, h2⟩ := hp
  obtain ⟨n1, n2, n3⟩ := k a h1 _ h2
  refine ⟨n1, n2, fun c => ?_⟩
  rw [h a h1 (c.back n1 n2)]
  exact n3 c
theorem Sim.same {α β : Type} {r : Rd} {o : Option α} {f f' : α → Option (β × Rd)} (k : ∀ a, o = some a → Sim l l' N A r (f a) (f' a)) : Sim l l' N A r (o.bind f) (o.bind f') := Sim.ask (fun a h _ => h) k
theorem Sim.ite {α : Type} {r : Rd} {c : Prop} [Decidable c] {a b a' b' : Option (α × Rd)} (h1 : c → Sim l l' N A r a a') (h2 : ¬ c → Sim l l' N A r b b') : Sim l l' N A r (if c then a else b) (if c then a' else b') := by
  by_cases h : c
  · rw [if_pos h, if_pos h]; exact h1 h
  · rw [if_neg h, if_neg h]; exact h2 h
theorem SimR.ret {r r' : Rd} (h : SR l l' N A r r') : SimR l l' N A r (some r) (some r') := by
  intro p hp
  cases hp
  exact ⟨Nat.le_refl _, id, fun c => ⟨r', rfl, h c⟩⟩
theorem SimR.eite {r : Rd} {c : Prop} [Decidable c] {a b a' b' : Option Rd} (h1 : c → SimR l l' N A r a a') (h2 : ¬ c → SimR l l' N A r b b') : SimR l l' N A r (if c then a else b) (if c then a' else b') := by
  by_cases h : c
  · rw [if_pos h, if_pos h]; exact h1 h
  · rw [if_neg h, if_neg h]; exact h2 h
/-- Where both say whether all went well. -/
theorem Sim.iteG {α : Type} {r r' : Rd} (hr : SR l l' N A r r') {a b a' b' : Option (α × Rd)} (h1 : r.good = true → Sim l l' N A r a a') (h2 : r.good = false → Sim l l' N A r b b') :
    Sim l l' N A r (if r.good = true then a else b) (if r'.good = true then a' else b') := by
  by_cases hc : Cnd N A r
  · have e : r'.good = r.good := by simp only [Rd.good, (hr hc).ec]
    rw [e]
    cases h : r.good
    · exact h2 h
    · exact h1 h
  · intro p hp
    have key : r.i ≤ p.2.i ∧ (p.2.good = true → r.good = true) := by
      cases h : r.good
      · rw [h] at hp; have := h2 h p hp; exact ⟨this.1, fun g => by rw [← h]; exact this.2.1 g⟩
      · rw [h] at hp; exact ⟨(h1 h p hp).1, fun _ => rfl⟩
    exact ⟨key.1, key.2, fun c => absurd (c.back key.1 key.2) hc⟩

/-! ### The basic methods -/

theorem SR.goods {r r' : Rd} (h : SR l l' N A r r') (hc : Cnd N A r) : r'.good = r.good := by simp only [Rd.good, (h hc).ec]
theorem SR.set {r r' : Rd} (h : SR l l' N A r r') (j : Nat) (hj : r.i ≤ j) : SR l l' N A { r with i := j } { r' with i := j } := by
  intro hc
  have := h (hc.back (r := r) hj id)
  exact ⟨this.el, this.el', rfl, this.en, this.ec, this.ef⟩
theorem Sim.on {α : Type} {r r' : Rd} (a : α) (h : SR l l' N A r r') (j j' : Nat) (hj : r.i ≤ j) (e : Cnd N A r → j' = j) : Sim l l' N A r (some (a, { r with i := j })) (some (a, { r' with i := j' })) := by
  intro p hp
  cases hp
  refine ⟨hj, id, fun c => ?_⟩
  have hc : Cnd N A r := c.back hj id
  rw [e hc]
  exact ⟨_, rfl, h.set j hj c⟩

theorem getO_eq {l : List Tok} {i : Nat} {t : Tok} (h : i < 4611686018427387904) (e : l[i]? = some t) : getO l i = some t := by simp [getO, h, e]

/-- What stands next, below the place. -/
theorem peek_low (E : Env l l' N A) {r r' : Rd} (h : SR l l' N A r r') (hc : Cnd N A r) (hi : A ∨ r.i < N) {t : Tok} (ht : r.peek = some t) : ∃ t', r'.peek = some t' ∧ TEq t t' := by
  obtain ⟨h1, h2, h3, h4⟩ := peek_get ht
  have R := h hc
  rw [R.el] at h2
  obtain ⟨t', e, te⟩ := E.low _ _ h2 hi
  refine ⟨t', ?_, te⟩
  simp only [Rd.peek, R.ei, R.el', getO_eq h1 e, Option.bind_some, te.k, h3, h4, decide_true, Bool.and_self, ↓reduceIte]

/-- What stands at the place. -/
theorem peek_at (E : Env l l' N A) {r r' : Rd} (h : SR l l' N A r r') (hc : Cnd N A r) (hA : ¬ A) (hi : r.i = N) {t : Tok} (ht : r.peek = some t) : Quiet t ∧ ∃ t', r'.peek = some t' ∧ Quiet' t' := by
  obtain ⟨h1, h2, h3, h4⟩ := peek_get ht
  have R := h hc
  obtain ⟨u, u', e1, e2, q1, q2⟩ := E.at' hA
  rw [R.el, hi, e1] at h2
  cases h2
  refine ⟨q1, u', ?_, q2⟩
  have hk : 0 ≤ u'.kind ∧ u'.kind ≤ 4 := by rcases q2 with q | q <;> omega
  rw [hi] at h1
  simp only [Rd.peek, R.ei, R.el', hi, getO_eq h1 e2, Option.bind_some, hk.1, hk.2, decide_true, Bool.and_self, ↓reduceIte]

theorem Cnd.cases {r : Rd} (hc : Cnd N A r) : (A ∨ r.i < N) ∨ (¬ A ∧ r.i = N) := by
  by_cases hA : A
  · exact .inl (.inl hA)
  · rcases hc with h | h
    · exact absurd h hA
    · rcases Nat.lt_or_eq_of_le h.2 with h | h
      · exact .inl (.inr h)
      · exact .inr ⟨hA, h⟩

theorem is_sim (E : Env l l' N A) {r r' : Rd} (h : SR l l' N A r r') {s : Str} (h1 : s ≠ [125]) (h2 : s ≠ [112, 114, 111, 99]) {b : Bool} (hb : r.is s = some b) (hc : Cnd N A r) : r'.is s = some b := by
  unfold Rd.is at hb ⊢
  rw [Option.bind_eq_some_iff] at hb
  obtain ⟨t, ht, hb⟩ := hb
  cases hb
  rcases hc.cases with hi | ⟨hA, hi⟩
  · obtain ⟨t', e, te⟩ := peek_low E h hc hi ht
    rw [e, Option.bind_some, te.k, te.x]
  · obtain ⟨q, t', e, q'⟩ := peek_at E h hc hA hi ht
    rw [e, Option.bind_some]
    have a1 : ((t.kind == 3 || t.kind == 4) && t.text == s) = false := by
      rcases q with q | ⟨_, q⟩
      · simp [q]
      · have : (t.text == s) = false := by rw [q]; simpa using fun e => h1 e.symm
        simp [this]
    have a2 : ((t'.kind == 3 || t'.kind == 4) && t'.text == s) = false := by
      rcases q' with q | ⟨_, q⟩
      · simp [q]
      · have : (t'.text == s) = false := by rw [q]; simpa using fun e => h2 e.symm
        simp [this]
    rw [a1, a2]

/-- Any sign or word but those two: where it is taken it stands below the place. -/
theorem take_sim (E : Env l l' N A) {r r' : Rd} (h : SR l l' N A r r') {s : Str} (h1 : s ≠ [125]) (h2 : s ≠ [112, 114, 111, 99]) : Sim l l' N A r (r.take s) (r'.take s) := by
  unfold Rd.take
  by_cases hc : Cnd N A r
  · rw [h.goods hc]
    refine Sim.ite (fun _ => Sim.ret _ h) (fun _ => ?_)
    refine Sim.ask (fun b hb hc => is_sim E h h1 h2 hb hc) fun b _ => Sim.ite (fun _ => Sim.ret _ h) fun _ => Sim.on _ h _ _ (Nat.le_succ _) fun hc => by rw [(h hc).ei]
  · intro p hp
    have key : r.i ≤ p.2.i ∧ (p.2.good = true → r.good = true) := by
      split at hp
      · cases hp; exact ⟨Nat.le_refl _, id⟩
      · rw [Option.bind_eq_some_iff] at hp
        obtain ⟨b, _, hp⟩ := hp
        split at hp
        · cases hp; exact ⟨Nat.le_refl _, id⟩
        · cases hp; exact ⟨Nat.le_succ _, id⟩
    exact ⟨key.1, key.2, fun c => absurd (c.back key.1 key.2) hc⟩

theorem bad_sim (E : Env l l' N A) {r r' : Rd} (h : SR l l' N A r r') {c : Int} (hc0 : c ≠ 0) : SimR l l' N A r (r.bad c) (r'.bad c) := by
  intro p hp
  unfold Rd.bad at hp
  cases hg : r.good
  · simp only [hg, Bool.false_eq_true, ↓reduceIte] at hp
    cases hp
    refine ⟨Nat.le_refl _, fun g => (by rw [hg] at g; cases g), fun hc => ?_⟩
    refine ⟨r', ?_, h hc⟩
    simp only [Rd.bad, h.goods hc, hg, Bool.false_eq_true, ↓reduceIte]
  · simp only [hg, ↓reduceIte] at hp
    rw [Option.bind_eq_some_iff] at hp
    obtain ⟨t, ht, hp⟩ := hp
    cases hp
    have hf : ({ r with code := c, fat := t.pos } : Rd).good = false := by simp [Rd.good, hc0]
    refine ⟨Nat.le_refl _, fun g => rfl, fun hc => ?_⟩
    rcases hc with hA | ⟨g, _⟩
    · have hcr : Cnd N A r := .inl hA
      obtain ⟨t', e, te⟩ := peek_low E h hcr (.inl hA) ht
      have R := h hcr
      refine ⟨{ r' with code := c, fat := t'.pos }, ?_, ⟨R.el, R.el', R.ei, R.en, rfl, .inr ⟨r.i, t, t', ?_, ?_, rfl, rfl⟩⟩⟩
      · simp only [Rd.bad, h.goods hcr, hg, ↓reduceIte, e, Option.bind_some]
      · have := (peek_get ht).2.1; rw [R.el] at this; exact this
      · have := (peek_get e).2.1; rw [R.el', R.ei] at this; exact this
    · rw [hf] at g; cases g

theorem want_sim (E : Env l l' N A) {r r' : Rd} (h : SR l l' N A r r') {s : Str} (h1 : s ≠ [125]) (h2 : s ≠ [112, 114, 111, 99]) : SimR l l' N A r (r.want s) (r'.want s) := by
  unfold Rd.want
  exact (take_sim E h h1 h2).bindR fun a q q' hq => SimR.eite (fun _ => bad_sim E hq (by decide)) fun _ => SimR.ret hq
end

end Go.Abs

/-! Sim2 -/

namespace Go.Abs
set_option linter.unusedSimpArgs false
set_option linter.unusedVariables false

section
variable {l l' : List Tok} {N : Nat} {A : Prop}

/-- What stands next on both sides. -/
def Next (N : Nat) (A : Prop) (r : Rd) (t t' : Tok) : Prop := TEq t t' ∨ (¬ A ∧ r.i = N ∧ Quiet t ∧ Quiet' t')

structure Near (N : Nat) (A : Prop) (r r' : Rd) : Prop where
  g : r'.good = r.good
  i : r'.i = r.i
  n : r'.n = r.n
  pk : ∀ t, r.peek = some t → ∃ t', r'.peek = some t' ∧ Next N A r t t'
  pk2 : ∀ t, r.peek = some t → t.kind = 1 → ∀ u, getO r.l (r.i + 1) = some u → ∃ u', getO r'.l (r'.i + 1) = some u' ∧ (TEq u u' ∨ Quiet u ∧ Quiet' u')

theorem TEq.refl (t : Tok) : TEq t t := ⟨rfl, rfl, rfl⟩
theorem Near.refl (r : Rd) : Near N A r r := ⟨rfl, rfl, rfl, fun t h => ⟨t, h, .inl (TEq.refl t)⟩, fun t _ _ u h => ⟨u, h, .inl (TEq.refl u)⟩⟩

theorem near_of (E : Env l l' N A) {r r' : Rd} (h : SR l l' N A r r') (hc : Cnd N A r) : Near N A r r' := by
  refine ⟨h.goods hc, (h hc).ei, (h hc).en, fun t ht => ?_, fun t ht hk u hu => ?_⟩
  · rcases hc.cases with hi | ⟨hA, hi⟩
    · obtain ⟨t', e, te⟩ := peek_low E h hc hi ht
      exact ⟨t', e, .inl te⟩
    · obtain ⟨q, t', e, q'⟩ := peek_at E h hc hA hi ht
      exact ⟨t', e, .inr ⟨hA, hi, q, q'⟩⟩
  · have R := h hc
    have hlow : A ∨ r.i < N := by
      rcases hc.cases with hi | ⟨hA, hi⟩
      · exact hi
      · obtain ⟨q, _⟩ := peek_at E h hc hA hi ht
        rcases q with q | q
        · omega
        · omega
    obtain ⟨h1, h2⟩ := getO_some hu
    rw [R.el] at h2
    rw [R.el', R.ei]
    by_cases hA : A
    · obtain ⟨u', e, te⟩ := E.low _ _ h2 (.inl hA)
      exact ⟨u', getO_eq h1 e, .inl te⟩
    · rcases Nat.lt_or_ge (r.i + 1) N with hj | hj
      · obtain ⟨u', e, te⟩ := E.low _ _ h2 (.inr hj)
        exact ⟨u', getO_eq h1 e, .inl te⟩
      · have e1 : r.i + 1 = N := by rcases hlow with f | f; exact absurd f hA; omega
        obtain ⟨v, v', f1, f2, q1, q2⟩ := E.at' hA
        rw [e1] at h2 h1
        rw [f1] at h2
        cases h2
        rw [e1]
        exact ⟨v', getO_eq h1 f2, .inr ⟨q1, q2⟩⟩

theorem Sim.wl {α : Type} (E : Env l l' N A) {r r' : Rd} (h : SR l l' N A r r') {F G : Rd → Option (α × Rd)} (k : ∀ r'', SR l l' N A r r'' → Near N A r r'' → Sim l l' N A r (F r) (G r'')) : Sim l l' N A r (F r) (G r') := by
  by_cases hc : Cnd N A r
  · exact k r' h (near_of E h hc)
  · intro p hp
    obtain ⟨a, b, _⟩ := k r (fun c => absurd c hc) (Near.refl r) p hp
    exact ⟨a, b, fun c => absurd (c.back a b) hc⟩

theorem Sim.void {α : Type} {r : Rd} {o o' o'' : Option (α × Rd)} (h : Sim l l' N A r o o'') (k : ∀ p, o = some p → ¬ Cnd N A p.2) : Sim l l' N A r o o' := by
  intro p hp
  obtain ⟨a, b, _⟩ := h p hp
  exact ⟨a, b, fun c => absurd c (k p hp)⟩

theorem Sim.askP {α : Type} {r r' : Rd} (nr : Near N A r r') {f f' : Tok → Option (α × Rd)} (k : ∀ t t', r.peek = some t → r'.peek = some t' → Next N A r t t' → Sim l l' N A r (f t) (f' t')) :
    Sim l l' N A r (r.peek.bind f) (r'.peek.bind f') := by
  intro p hp
  rw [Option.bind_eq_some_iff] at hp
  obtain ⟨t, ht, hp⟩ := hp
  obtain ⟨t', ht', q⟩ := nr.pk t ht
  have := k t t' ht ht' q p hp
  rw [ht', Option.bind_some]
  exact this

theorem Quiet.k1 {t : Tok} (h : Quiet t) : (t.kind == 1) = false := by rcases h with h | ⟨h, _⟩ <;> simp [h]
theorem Quiet.k2 {t : Tok} (h : Quiet t) : (t.kind == 2) = false := by rcases h with h | ⟨h, _⟩ <;> simp [h]
theorem Quiet'.k1 {t : Tok} (h : Quiet' t) : (t.kind == 1) = false := by rcases h with h | ⟨h, _⟩ <;> simp [h]
theorem Quiet'.k2 {t : Tok} (h : Quiet' t) : (t.kind == 2) = false := by rcases h with h | ⟨h, _⟩ <;> simp [h]
theorem Quiet.op {t : Tok} (h : Quiet t) : opOf t = (0, 0) := by
  rcases h with h | ⟨h, e⟩
  · simp [opOf, h]
  · simp only [opOf, h, e]; decide
theorem Quiet'.op {t : Tok} (h : Quiet' t) : opOf t = (0, 0) := by rcases h with h | ⟨h, _⟩ <;> simp [opOf, h]
theorem TEq.op {t t' : Tok} (h : TEq t t') : opOf t' = opOf t := by simp only [opOf, h.k, h.x]

theorem bad_ret {α : Type} (E : Env l l' N A) {r r' : Rd} (h : SR l l' N A r r') {c : Int} (hc : c ≠ 0) (a : α) : Sim l l' N A r ((r.bad c).bind fun r => some (a, r)) ((r'.bad c).bind fun r => some (a, r)) :=
  (bad_sim E h hc).bind fun q q' hq => Sim.ret _ hq

theorem name_sim (E : Env l l' N A) {r r' : Rd} (h : SR l l' N A r r') (room : Bool) : Sim l l' N A r (r.name room) (r'.name room) := by
  refine Sim.wl E h (F := fun r => r.name room) (G := fun r => r.name room) fun r' h nr => ?_
  unfold Rd.name
  refine Sim.askP nr fun t t' ht ht' q => ?_
  rw [nr.g]
  rcases q with te | ⟨_, _, q, q'⟩
  · rw [te.k, te.x, nr.i]
    exact Sim.ite (fun _ => bad_ret E h (by decide) _) fun _ => Sim.ite (fun _ => bad_ret E h (by decide) _) fun _ => Sim.on _ h _ _ (Nat.le_succ _) fun _ => rfl
  · have e1 : (t.kind != 1) = true := by have := q.k1; simpa using this
    have e2 : (t'.kind != 1) = true := by have := q'.k1; simpa using this
    rw [e1, e2, Bool.or_true, if_pos rfl, if_pos rfl]
    exact bad_ret E h (by decide) _

theorem expr_sim (E : Env l l' N A) : ∀ n : Nat, (∀ r r' : Rd, SR l l' N A r r' → Sim l l' N A r (Rd.one n r) (Rd.one n r')) ∧ (∀ (r r' : Rd) (k : Int), SR l l' N A r r' → Sim l l' N A r (Rd.two n k r) (Rd.two n k r')) ∧
    (∀ (r r' : Rd) (k : Int) (x : Ex), SR l l' N A r r' → Sim l l' N A r (Rd.twoL n k x r) (Rd.twoL n k x r')) := by
  intro n
  induction n with
  | zero => exact ⟨fun r r' _ => by simp only [Rd.one]; exact Sim.non, fun r r' k _ => by simp only [Rd.two]; exact Sim.non, fun r r' k x _ => by simp only [Rd.twoL]; exact Sim.non⟩
  | succ n ih =>
    obtain ⟨ih1, ih2, ih3⟩ := ih
    refine ⟨fun r r' h => ?_, fun r r' k h => ?_, fun r r' k x h => ?_⟩
    · refine Sim.wl E h (F := Rd.one (n + 1)) (G := Rd.one (n + 1)) fun r' h nr => ?_
      simp only [Rd.one]
      refine Sim.askP nr fun t t' ht ht' q => ?_
      rw [nr.g, nr.i]
      refine Sim.ite (fun _ => Sim.ret _ h) fun _ => ?_
      have tail : Sim l l' N A r ((r.take [40]).bind fun p =>
        if p.1 then (Rd.two n 1 p.2).bind fun x => (x.2.want [41]).bind fun r => some (x.1, r)
        else (p.2.take [45]).bind fun p =>
          if p.1 then (Rd.one n p.2).bind fun x => some ((⟨3, 0, [], [x.1]⟩ : Ex), x.2)
          else (p.2.take [33]).bind fun p =>
            if p.1 then (Rd.one n p.2).bind fun x => some (⟨4, 0, [], [x.1]⟩, x.2)
            else (p.2.bad 3).bind fun r => some (ex0, r)) ((r'.take [40]).bind fun p =>
        if p.1 then (Rd.two n 1 p.2).bind fun x => (x.2.want [41]).bind fun r => some (x.1, r)
        else (p.2.take [45]).bind fun p =>
          if p.1 then (Rd.one n p.2).bind fun x => some ((⟨3, 0, [], [x.1]⟩ : Ex), x.2)
          else (p.2.take [33]).bind fun p =>
            if p.1 then (Rd.one n p.2).bind fun x => some (⟨4, 0, [], [x.1]⟩, x.2)
            else (p.2.bad 3).bind fun r => some (ex0, r)) := by
        refine (take_sim E h (by decide) (by decide)).bind fun a q q' hq => Sim.ite (fun _ => ?_) fun _ => ?_
        · refine (ih2 _ _ _ hq).bind fun x s s' hs => ?_
          exact (want_sim E hs (by decide) (by decide)).bind fun u u' hu => Sim.ret _ hu
        refine (take_sim E hq (by decide) (by decide)).bind fun a q q' hq => Sim.ite (fun _ => ?_) fun _ => ?_
        · exact (ih1 _ _ hq).bind fun x s s' hs => Sim.ret _ hs
        refine (take_sim E hq (by decide) (by decide)).bind fun a q q' hq => Sim.ite (fun _ => ?_) fun _ => ?_
        · exact (ih1 _ _ hq).bind fun x s s' hs => Sim.ret _ hs
        · exact bad_ret E hq (by decide) _
      rcases q with te | ⟨_, _, q, q'⟩
      · rw [te.k, te.x, te.n]
        exact Sim.ite (fun _ => Sim.on _ h _ _ (Nat.le_succ _) fun _ => rfl) fun _ => Sim.ite (fun _ => Sim.on _ h _ _ (Nat.le_succ _) fun _ => rfl) fun _ => tail
      · simp only [q.k1, q.k2, q'.k1, q'.k2, Bool.false_eq_true, ↓reduceIte]
        exact tail
    · simp only [Rd.two]
      exact (ih1 _ _ h).bind fun x s s' hs => ih3 _ _ _ _ hs
    · refine Sim.wl E h (F := Rd.twoL (n + 1) k x) (G := Rd.twoL (n + 1) k x) fun r' h nr => ?_
      simp only [Rd.twoL]
      rw [nr.g, nr.i]
      refine Sim.ite (fun _ => ?_) fun _ => Sim.ret _ h
      refine Sim.askP nr fun t t' ht ht' q => ?_
      rcases q with te | ⟨_, _, q, q'⟩
      · rw [te.op]
        refine Sim.ite (fun _ => Sim.ret _ h) fun _ => ?_
        intro p hp
        have hs : SR l l' N A { r with i := r.i + 1 } { r' with i := r.i + 1 } := h.set _ (Nat.le_succ _)
        obtain ⟨a, b, c⟩ := (Sim.bind (f := fun y => Rd.twoL n k ⟨(opOf t).1, 0, [], [x, y.1]⟩ y.2) (f' := fun y => Rd.twoL n k ⟨(opOf t).1, 0, [], [x, y.1]⟩ y.2) (ih2 _ _ ((opOf t).2 + 1) hs) fun y q q' hq => ih3 _ _ k _ hq) p hp
        exact ⟨Nat.le_trans (Nat.le_succ _) a, b, c⟩
      · rw [q.op, q'.op]
        have e : (decide ((0 : Int) < k) || (0 : Int) == 0) = true := by simp
        simp only [e, ↓reduceIte]
        exact Sim.ret _ h

theorem whole_sim (E : Env l l' N A) {n : Nat} {r r' : Rd} (h : SR l l' N A r r') : Sim l l' N A r (Rd.whole n r) (Rd.whole n r') := by
  refine Sim.wl E h (F := Rd.whole n) (G := Rd.whole n) fun r' h nr => ?_
  unfold Rd.whole
  refine Sim.askP nr fun t t' ht ht' q => ?_
  refine ((expr_sim E n).2.1 _ _ _ h).bind fun x s s' hs => ?_
  refine Sim.iteG hs (fun hg => Sim.same fun d _ => Sim.ite (fun _ => ?_) fun _ => Sim.ret _ hs) fun _ => Sim.ret _ hs
  intro p hp
  cases hp
  have hf : ({ s with code := 4, fat := t.pos } : Rd).good = false := rfl
  refine ⟨Nat.le_refl _, fun _ => hg, fun hc => ?_⟩
  rcases hc with hA | ⟨g, _⟩
  · have R := hs (.inl hA)
    have R0 := h (.inl hA)
    refine ⟨_, rfl, R.el, R.el', R.ei, R.en, rfl, .inr ⟨r.i, t, t', ?_, ?_, rfl, rfl⟩⟩
    · have := (peek_get ht).2.1; rw [R0.el] at this; exact this
    · have := (peek_get ht').2.1; rw [R0.el', R0.ei] at this; exact this
  · rw [hf] at g; cases g

theorem names_sim (E : Env l l' N A) {most : Int} : ∀ (n : Nat) (L : List Str) (r r' : Rd), SR l l' N A r r' → Sim l l' N A r (Rd.names n L most r) (Rd.names n L most r') := by
  intro n
  induction n with
  | zero => intro L r r' _; simp only [Rd.names]; exact Sim.non
  | succ n ih =>
    intro L r r' h
    simp only [Rd.names]
    refine Sim.iteG h (fun _ => ?_) fun _ => Sim.ret _ h
    exact (name_sim E h _).bind fun a q q' hq => Sim.same fun L' _ => (take_sim E hq (by decide) (by decide)).bind fun b s s' hs =>
      Sim.ite (fun _ => (want_sim E hs (by decide) (by decide)).bind fun u u' hu => Sim.ret _ hu) fun _ => ih _ _ _ hs

theorem ahead_sim (E : Env l l' N A) {r r' : Rd} {s : Str} (nr : Near N A r r') (h1 : s ≠ [125]) {b : Bool} (hb : r.ahead s = some b) : r'.ahead s = some b := by
  unfold Rd.ahead at hb ⊢
  rw [nr.g]
  cases hg : r.good
  · simp only [hg, Bool.false_eq_true, ↓reduceIte] at hb ⊢; exact hb
  · simp only [hg, ↓reduceIte] at hb ⊢
    rw [Option.bind_eq_some_iff] at hb
    obtain ⟨t, ht, hb⟩ := hb
    obtain ⟨t', ht', q⟩ := nr.pk t ht
    rw [ht', Option.bind_some]
    rcases q with te | ⟨_, _, q, q'⟩
    · rw [te.k]
      cases hk : t.kind == 1
      · simp only [hk, Bool.false_eq_true, ↓reduceIte] at hb ⊢; exact hb
      · simp only [hk, ↓reduceIte] at hb ⊢
        rw [Option.bind_eq_some_iff] at hb
        obtain ⟨u, hu, hb⟩ := hb
        obtain ⟨u', hu', qu⟩ := nr.pk2 t ht (by simpa using hk) u hu
        rw [hu', Option.bind_some]
        rcases qu with te | ⟨q, q'⟩
        · rw [te.k, te.x]; exact hb
        · cases hb
          have a1 : (u.kind == 4 && u.text == s) = false := by
            rcases q with q | ⟨_, q⟩
            · simp [q]
            · have : (u.text == s) = false := by rw [q]; simpa using fun e => h1 e.symm
              simp [this]
          have a2 : (u'.kind == 4 && u'.text == s) = false := by rcases q' with q | ⟨q, _⟩ <;> simp [q]
          rw [a1, a2]
    · rw [q.k1] at hb
      rw [q'.k1]
      simpa using hb

theorem labels_sim (E : Env l l' N A) : ∀ (n : Nat) (L : List Str) (r r' : Rd), SR l l' N A r r' → Sim l l' N A r (Rd.labels n L r) (Rd.labels n L r') := by
  intro n
  induction n with
  | zero => intro L r r' _; simp only [Rd.labels]; exact Sim.non
  | succ n ih =>
    intro L r r' h
    refine Sim.wl E h (F := Rd.labels (n + 1) L) (G := Rd.labels (n + 1) L) fun r' h nr => ?_
    simp only [Rd.labels]
    refine Sim.ask (fun b hb _ => ahead_sim E nr (by decide) hb) fun b hb => Sim.ite (fun hbt => ?_) fun _ => Sim.ret _ h
    refine Sim.askP nr fun t t' ht ht' q => ?_
    have hx : t'.text = t.text := by
      rcases q with te | ⟨_, _, q, _⟩
      · exact te.x
      · exfalso
        subst hbt
        unfold Rd.ahead at hb
        split at hb
        · rw [ht, Option.bind_some, q.k1] at hb
          simp at hb
        · cases hb
    rw [hx, nr.i]
    refine Sim.same fun L' _ => ?_
    intro p hp
    obtain ⟨a, b, c⟩ := ih L' _ _ (h.set (r.i + 2) (by omega)) p hp
    exact ⟨Nat.le_trans (by dsimp only; omega) a, b, c⟩
end

end Go.Abs

/-! Sim3 -/

namespace Go.Abs
set_option linter.unusedSimpArgs false
set_option linter.unusedVariables false

section
variable {l l' : List Tok} {N : Nat} {A : Prop}

theorem callL_sim (E : Env l l' N A) {m : Nat} : ∀ (n : Nat) (L : List Ar) (r r' : Rd), SR l l' N A r r' → Sim l l' N A r (Rd.callL m n L r) (Rd.callL m n L r') := by
  intro n
  induction n with
  | zero => intro L r r' _; simp only [Rd.callL]; exact Sim.non
  | succ n ih =>
    intro L r r' h
    simp only [Rd.callL]
    refine Sim.iteG h (fun _ => ?_) fun _ => Sim.ret _ h
    refine (take_sim E h (by decide) (by decide)).bind fun a q q' hq => Sim.ite (fun _ => ?_) fun _ => ?_
    · refine (name_sim E hq _).bind fun b s s' hs => Sim.same fun L' _ => ?_
      exact (take_sim E hs (by decide) (by decide)).bind fun c u u' hu => Sim.ite (fun _ => Sim.ret _ hu) fun _ => ih _ _ _ hu
    · refine (whole_sim E hq).bind fun b s s' hs => Sim.same fun L' _ => ?_
      exact (take_sim E hs (by decide) (by decide)).bind fun c u u' hu => Sim.ite (fun _ => Sim.ret _ hu) fun _ => ih _ _ _ hu

theorem other_sim (E : Env l l' N A) {r r' : Rd} (h : SR l l' N A r r') {s : Str} (h1 : s ≠ [125]) (h2 : s ≠ [112, 114, 111, 99]) {b : Bool} (hb : r.other s = some b) (hc : Cnd N A r) : r'.other s = some b := by
  unfold Rd.other at hb ⊢
  rw [h.goods hc]
  cases hg : r.good
  · simp only [hg, Bool.false_eq_true, ↓reduceIte] at hb ⊢; exact hb
  · simp only [hg, ↓reduceIte] at hb ⊢
    rw [Option.bind_eq_some_iff] at hb
    obtain ⟨c, h3, hb⟩ := hb
    rw [is_sim E h h1 h2 h3 hc]
    exact hb

theorem call_sim (E : Env l l' N A) {m : Nat} {name proc : Str} {r r' : Rd} (h : SR l l' N A r r') : Sim l l' N A r (Rd.call m name proc r) (Rd.call m name proc r') := by
  unfold Rd.call
  refine (want_sim E h (by decide) (by decide)).bind fun q q' hq => ?_
  refine Sim.ask (fun b hb hc => other_sim E hq (by decide) (by decide) hb hc) fun b _ => Sim.ite (fun _ => ?_) fun _ => ?_
  · refine (callL_sim E _ _ _ _ hq).bind fun a s s' hs => ?_
    exact (want_sim E hs (by decide) (by decide)).bind fun u u' hu => (want_sim E hu (by decide) (by decide)).bind fun v v' hv => Sim.ret _ hv
  · exact (want_sim E hq (by decide) (by decide)).bind fun u u' hu => (want_sim E hu (by decide) (by decide)).bind fun v v' hv => Sim.ret _ hv

theorem Sim.aheadB {α : Type} (E : Env l l' N A) {r r' : Rd} (h : SR l l' N A r r') {s : Str} (h1 : s ≠ [125]) {f f' : Bool → Option (α × Rd)} (k : ∀ b, Sim l l' N A r (f b) (f' b)) : Sim l l' N A r ((r.ahead s).bind f) ((r'.ahead s).bind f') :=
  Sim.ask (fun b hb hc => ahead_sim E (near_of E h hc) h1 hb) fun b _ => k b

theorem named_sim (E : Env l l' N A) {m : Nat} {r r' : Rd} (h : SR l l' N A r r') : Sim l l' N A r (Rd.named m r) (Rd.named m r') := by
  unfold Rd.named
  refine (name_sim E h _).bind fun a q q' hq => ?_
  refine Sim.ask (fun b hb hc => is_sim E hq (by decide) (by decide) hb hc) fun b _ => Sim.ite (fun _ => call_sim E hq) fun _ => ?_
  refine (want_sim E hq (by decide) (by decide)).bind fun u u' hu => ?_
  refine Sim.aheadB E hu (by decide) fun b => Sim.ite (fun _ => ?_) fun _ => ?_
  · exact (name_sim E hu _).bind fun c s s' hs => call_sim E hs
  · exact (whole_sim E hu).bind fun c s s' hs => (want_sim E hs (by decide) (by decide)).bind fun v v' hv => Sim.ret _ hv

theorem plain_sim (E : Env l l' N A) {m : Nat} {word : Str} {r r' : Rd} (h : SR l l' N A r r') : Sim l l' N A r (Rd.plain m word r) (Rd.plain m word r') := by
  unfold Rd.plain
  refine Sim.ite (fun _ => Sim.ret _ h) fun _ => Sim.ite (fun _ => Sim.ret _ h) fun _ => Sim.ite (fun _ => ?_) fun _ => ?_
  · refine Sim.ask (fun b hb hc => is_sim E h (by decide) (by decide) hb hc) fun b _ => Sim.ite (fun _ => ?_) fun _ => Sim.ret _ h
    exact (whole_sim E h).bind fun a s s' hs => Sim.ret _ hs
  refine Sim.ite (fun _ => (name_sim E h _).bind fun a s s' hs => Sim.ret _ hs) fun _ => Sim.ite (fun _ => (name_sim E h _).bind fun a s s' hs => Sim.ret _ hs) fun _ => Sim.ite (fun _ => ?_) fun _ => Sim.ret _ h
  exact (whole_sim E h).bind fun a s s' hs => Sim.ret _ hs

theorem head_sim (E : Env l l' N A) {m : Nat} {r r' : Rd} (h : SR l l' N A r r') : Sim l l' N A r (Rd.head m r) (Rd.head m r') := by
  unfold Rd.head
  refine (want_sim E h (by decide) (by decide)).bind fun q q' hq => ?_
  exact (whole_sim E hq).bind fun a s s' hs => (want_sim E hs (by decide) (by decide)).bind fun v v' hv => Sim.ret _ hv

theorem begins_sim {r r' : Rd} (nr : Near N A r r') {b : Bool} (hb : r.begins = some b) : r'.begins = some b := by
  unfold Rd.begins at hb ⊢
  rw [Option.bind_eq_some_iff] at hb
  obtain ⟨t, ht, hb⟩ := hb
  obtain ⟨t', ht', q⟩ := nr.pk t ht
  rw [ht', Option.bind_some]
  rcases q with te | ⟨_, _, q, q'⟩
  · rw [te.k, te.x]; exact hb
  · cases hb
    have e1 : (t.kind != 3) = true := by rcases q with q | ⟨q, _⟩ <;> simp [q]
    simp only [q.k1, q'.k1, e1, Bool.false_eq_true, ↓reduceIte]
    rcases q' with q | ⟨q, e⟩
    · simp [q]
    · rw [q, e]; rfl

theorem SR.setn {r r' : Rd} (h : SR l l' N A r r') (k : Nat) : SR l l' N A { r with n := k } { r' with n := k } := by
  intro hc
  have := h (hc.back (r := r) (Nat.le_refl _) id)
  exact ⟨this.el, this.el', this.ei, rfl, this.ec, this.ef⟩
/-- The same, from a state in which only the count or the place is another one. -/
theorem Sim.from {α : Type} {r s : Rd} {o o' : Option (α × Rd)} (h : Sim l l' N A s o o') (hi : r.i ≤ s.i) (hg : s.good = true → r.good = true) : Sim l l' N A r o o' := by
  intro p hp
  obtain ⟨a, b, c⟩ := h p hp
  exact ⟨Nat.le_trans hi a, fun g => hg (b g), c⟩

/-- At the place no statement begins. -/
theorem stmt_quiet {m n : Nat} {nest : Int} {r : Rd} {t : Tok} (ht : r.peek = some t) (q : Quiet t) {p : Sm × Rd} (hp : Rd.stmt m n nest r = some p) : p.2.good = false := by
  cases n with
  | zero => simp only [Rd.stmt] at hp; cases hp
  | succ n =>
    have e1 : (t.kind != 3) = true := by rcases q with q | ⟨q, _⟩ <;> simp [q]
    simp only [Rd.stmt, Rd.begins, ht, Option.bind_some, q.k1, e1, Bool.false_eq_true, ↓reduceIte, Bool.not_false] at hp
    rw [Option.bind_eq_some_iff] at hp
    obtain ⟨r1, h1, hp⟩ := hp
    cases hp
    unfold Rd.bad at h1
    split at h1
    · rw [ht, Option.bind_some] at h1
      cases h1; rfl
    · rename_i hg
      cases h1
      simpa using hg

theorem rowsL_bad {m n : Nat} {nest : Int} {body : Bool} {out : List Sm} {r : Rd} (hg : r.good = false) {p : (List Sm × List Str) × Rd} (hp : Rd.rowsL m n nest body out r = some p) : p.2.good = false := by
  cases n with
  | zero => simp only [Rd.rowsL] at hp; cases hp
  | succ n =>
    simp only [Rd.rowsL, hg, Bool.false_eq_true, ↓reduceIte] at hp
    cases hp
    exact hg

theorem stmts_sim (E : Env l l' N A) {m : Nat} : ∀ n : Nat,
    (∀ (nest : Int) (body : Bool) (r r' : Rd), SR l l' N A r r' → Sim l l' N A r (Rd.rows m n nest body r) (Rd.rows m n nest body r')) ∧
    (∀ (nest : Int) (body : Bool) (out : List Sm) (r r' : Rd), SR l l' N A r r' → Sim l l' N A r (Rd.rowsL m n nest body out r) (Rd.rowsL m n nest body out r')) ∧
    (∀ (nest : Int) (r r' : Rd), SR l l' N A r r' → Sim l l' N A r (Rd.stmt m n nest r) (Rd.stmt m n nest r')) ∧
    (∀ (nest : Int) (r r' : Rd), SR l l' N A r r' → Sim l l' N A r (Rd.block m n nest r) (Rd.block m n nest r')) ∧
    (∀ (nest : Int) (r r' : Rd), SR l l' N A r r' → Sim l l' N A r (Rd.choice m n nest r) (Rd.choice m n nest r')) := by
  intro n
  induction n with
  | zero =>
    refine ⟨fun _ _ r r' _ => ?_, fun _ _ _ r r' _ => ?_, fun _ r r' _ => ?_, fun _ r r' _ => ?_, fun _ r r' _ => ?_⟩
    · simp only [Rd.rows]; exact Sim.non
    · simp only [Rd.rowsL]; exact Sim.non
    · simp only [Rd.stmt]; exact Sim.non
    · simp only [Rd.block]; exact Sim.non
    · simp only [Rd.choice]; exact Sim.non
  | succ n ih =>
    obtain ⟨i1, i2, i3, i4, i5⟩ := ih
    refine ⟨fun nest body r r' h => ?_, fun nest body out r r' h => ?_, fun nest r r' h => ?_, fun nest r r' h => ?_, fun nest r r' h => ?_⟩
    · simp only [Rd.rows]
      exact i2 _ _ _ _ _ h
    · simp only [Rd.rowsL]
      refine Sim.iteG h (fun hg => ?_) fun _ => Sim.ret _ h
      refine (labels_sim E m [] _ _ h).bind fun ls q q' hq => ?_
      have go : ∀ (q' : Rd) (b : Bool), SR l l' N A q q' → q'.i = q.i → Sim l l' N A q (if b && (body || (ls.length : Int) == 0) then some ((out, ls), { q with i := q.i + 1 }) else (Rd.stmt m n nest q).bind fun s => (push 209 out { s.1 with labels := ls }).bind fun out => Rd.rowsL m n nest body out s.2)
          (if b && (body || (ls.length : Int) == 0) then some ((out, ls), { q' with i := q'.i + 1 }) else (Rd.stmt m n nest q').bind fun s => (push 209 out { s.1 with labels := ls }).bind fun out => Rd.rowsL m n nest body out s.2) := by
        intro q' b hq hi
        refine Sim.ite (fun _ => Sim.on _ hq _ _ (Nat.le_succ _) fun _ => by rw [hi]) fun _ => ?_
        exact (i3 _ _ _ hq).bind fun s u u' hu => Sim.same fun out' _ => i2 _ _ _ _ _ hu
      have := Sim.wl E hq (F := fun q => (q.is [125]).bind fun b => if b && (body || (ls.length : Int) == 0) then some ((out, ls), { q with i := q.i + 1 }) else (Rd.stmt m n nest q).bind fun s => (push 209 out { s.1 with labels := ls }).bind fun out => Rd.rowsL m n nest body out s.2)
        (G := fun q => (q.is [125]).bind fun b => if b && (body || (ls.length : Int) == 0) then some ((out, ls), { q with i := q.i + 1 }) else (Rd.stmt m n nest q).bind fun s => (push 209 out { s.1 with labels := ls }).bind fun out => Rd.rowsL m n nest body out s.2) fun q' hq nr => by
          unfold Rd.is
          rw [Option.bind_assoc, Option.bind_assoc]
          refine Sim.askP nr fun t t' ht ht' x => ?_
          rw [Option.bind_some, Option.bind_some]
          rcases x with te | ⟨hA, hN, x, x'⟩
          · rw [te.k, te.x]
            exact go q' _ hq nr.i
          · refine Sim.void (go q' _ hq nr.i) fun p hp hc => ?_
            rcases hc with hc | ⟨hg2, hi2⟩
            · exact hA hc
            · split at hp
              · cases hp
                dsimp only at hi2
                omega
              · rw [Option.bind_eq_some_iff] at hp
                obtain ⟨s, h1, hp⟩ := hp
                rw [Option.bind_eq_some_iff] at hp
                obtain ⟨out', _, hp⟩ := hp
                have := rowsL_bad (stmt_quiet ht x h1) hp
                rw [this] at hg2; cases hg2
      exact this
    · refine Sim.wl E h (F := Rd.stmt m (n + 1) nest) (G := Rd.stmt m (n + 1) nest) fun r' h nr => ?_
      simp only [Rd.stmt]
      refine Sim.ask (fun b hb _ => begins_sim nr hb) fun b hb => Sim.ite (fun _ => bad_ret E h (by decide) _) fun hnb => ?_
      rw [nr.n]
      refine Sim.same fun k _ => ?_
      have hk := h.setn k
      refine Sim.ite (fun _ => (bad_ret E hk (by decide) _).from (Nat.le_refl _) id) fun _ => ?_
      have nk : Near N A { r with n := k } { r' with n := k } := ⟨nr.g, nr.i, rfl, nr.pk, nr.pk2⟩
      have hki : SR l l' N A { r with n := k, i := r.i + 1 } { r' with n := k, i := r'.i + 1 } := by
        have := hk.set (r.i + 1) (Nat.le_succ _)
        dsimp only at this
        rw [nr.i]
        exact this
      refine Sim.from (s := { r with n := k }) ?_ (Nat.le_refl _) id
      refine Sim.askP nk fun t t' ht ht' q => ?_
      have part : ∀ t : Tok, Sim l l' N A { r with n := k } (if t.kind == 1 then Rd.named m { r with n := k }
          else if t.text == [105, 102] then Rd.choice m n nest { r with n := k, i := r.i + 1 }
          else if t.text == [119, 104, 105, 108, 101] then (Rd.head m { r with n := k, i := r.i + 1 }).bind fun x => (Rd.block m n nest x.2).bind fun b => some (⟨0, 6, [], [], [], x.1, false, [], b.1, []⟩, b.2)
          else (Rd.plain m t.text { r with n := k, i := r.i + 1 }).bind fun s => (s.2.want [59]).bind fun r => some (s.1, r))
          (if t.kind == 1 then Rd.named m { r' with n := k }
          else if t.text == [105, 102] then Rd.choice m n nest { r' with n := k, i := r'.i + 1 }
          else if t.text == [119, 104, 105, 108, 101] then (Rd.head m { r' with n := k, i := r'.i + 1 }).bind fun x => (Rd.block m n nest x.2).bind fun b => some (⟨0, 6, [], [], [], x.1, false, [], b.1, []⟩, b.2)
          else (Rd.plain m t.text { r' with n := k, i := r'.i + 1 }).bind fun s => (s.2.want [59]).bind fun r => some (s.1, r)) := by
        intro t
        refine Sim.ite (fun _ => named_sim E hk) fun _ => Sim.from (s := { r with n := k, i := r.i + 1 }) ?_ (Nat.le_succ _) id
        refine Sim.ite (fun _ => i5 _ _ _ hki) fun _ => Sim.ite (fun _ => ?_) fun _ => ?_
        · exact (head_sim E hki).bind fun a s s' hs => (i4 _ _ _ hs).bind fun b u u' hu => Sim.ret _ hu
        · exact (plain_sim E hki).bind fun a s s' hs => (want_sim E hs (by decide) (by decide)).bind fun u u' hu => Sim.ret _ hu
      rcases q with te | ⟨hA, hN, q, q'⟩
      · rw [te.k, te.x]
        exact part t
      · exfalso
        have ht : r.peek = some t := ht
        have e1 : (t.kind != 3) = true := by rcases q with q | ⟨q, _⟩ <;> simp [q]
        simp only [Rd.begins, ht, Option.bind_some, q.k1, e1, Bool.false_eq_true, ↓reduceIte] at hb
        cases hb
        simp at hnb
    · simp only [Rd.block]
      refine (want_sim E h (by decide) (by decide)).bind fun q q' hq => Sim.same fun k _ => ?_
      exact (i1 _ _ _ _ hq).bind fun a s s' hs => Sim.ret _ hs
    · simp only [Rd.choice]
      refine (head_sim E h).bind fun a q q' hq => (i4 _ _ _ hq).bind fun b s s' hs => ?_
      refine (take_sim E hs (by decide) (by decide)).bind fun c u u' hu => Sim.ite (fun _ => ?_) fun _ => Sim.ret _ hu
      exact (i4 _ _ _ hu).bind fun d v v' hv => Sim.ret _ hv
end

end Go.Abs

/-! Sim4 -/

namespace Go.Abs
set_option linter.unusedSimpArgs false
set_option linter.unusedVariables false

section
variable {l l' : List Tok} {N : Nat} {A : Prop}

theorem params_sim (E : Env l l' N A) : ∀ (n : Nat) (L : List Pm) (r r' : Rd), SR l l' N A r r' → Sim l l' N A r (Rd.params n L r) (Rd.params n L r') := by
  intro n
  induction n with
  | zero => intro L r r' _; simp only [Rd.params]; exact Sim.non
  | succ n ih =>
    intro L r r' h
    simp only [Rd.params]
    refine Sim.iteG h (fun _ => ?_) fun _ => Sim.ret _ h
    refine (take_sim E h (by decide) (by decide)).bind fun a q q' hq => (name_sim E hq _).bind fun b s s' hs => Sim.same fun L' _ => ?_
    exact (take_sim E hs (by decide) (by decide)).bind fun c u u' hu => Sim.ite (fun _ => Sim.ret _ hu) fun _ => ih _ _ _ hu

theorem vars_sim (E : Env l l' N A) {m : Nat} : ∀ (n : Nat) (L : List Str) (r r' : Rd), SR l l' N A r r' → Sim l l' N A r (Rd.vars m n L r) (Rd.vars m n L r') := by
  intro n
  induction n with
  | zero => intro L r r' _; simp only [Rd.vars]; exact Sim.non
  | succ n ih =>
    intro L r r' h
    simp only [Rd.vars]
    refine (take_sim E h (by decide) (by decide)).bind fun a q q' hq => Sim.ite (fun _ => ?_) fun _ => Sim.ret _ hq
    exact (names_sim E _ _ _ _ hq).bind fun b s s' hs => ih _ _ _ hs

theorem globals_sim (E : Env l l' N A) {m : Nat} : ∀ (n : Nat) (L : List Str) (r r' : Rd), SR l l' N A r r' → Sim l l' N A r (Rd.globals m n L r) (Rd.globals m n L r') := by
  intro n
  induction n with
  | zero => intro L r r' _; simp only [Rd.globals]; exact Sim.non
  | succ n ih =>
    intro L r r' h
    simp only [Rd.globals]
    refine (take_sim E h (by decide) (by decide)).bind fun a q q' hq => Sim.ite (fun _ => ?_) fun _ => Sim.ret _ hq
    exact (names_sim E _ _ _ _ hq).bind fun b s s' hs => ih _ _ _ hs

theorem procB_sim (E : Env l l' N A) {m : Nat} {name : Str} {ps : List Pm} {r r' : Rd} (h : SR l l' N A r r') : Sim l l' N A r (Rd.procB m name ps r) (Rd.procB m name ps r') := by
  unfold Rd.procB
  exact (vars_sim E _ _ _ _ h).bind fun a q q' hq => ((stmts_sim E _).1 _ _ _ _ hq).bind fun b s s' hs => Sim.ret _ hs

theorem proc_sim (E : Env l l' N A) {m : Nat} {r r' : Rd} (h : SR l l' N A r r') : Sim l l' N A r (Rd.proc m r) (Rd.proc m r') := by
  unfold Rd.proc
  refine (name_sim E h _).bind fun a q q' hq => (want_sim E hq (by decide) (by decide)).bind fun u u' hu => ?_
  refine Sim.ask (fun b hb hc => other_sim E hu (by decide) (by decide) hb hc) fun b _ => Sim.ite (fun _ => ?_) fun _ => ?_
  · refine (params_sim E _ _ _ _ hu).bind fun c s s' hs => (want_sim E hs (by decide) (by decide)).bind fun v v' hv => ?_
    exact (want_sim E hv (by decide) (by decide)).bind fun w w' hw => procB_sim E hw
  · exact (want_sim E hu (by decide) (by decide)).bind fun v v' hv => (want_sim E hv (by decide) (by decide)).bind fun w w' hw => procB_sim E hw

/-! ### Everywhere alike -/

theorem isProc_all (E : Env l l' N True) {r r' : Rd} (h : SR l l' N True r r') {b : Bool} (hb : r.isProc = some b) : r'.isProc = some b := by
  have hc : Cnd N True r := .inl trivial
  unfold Rd.isProc Rd.is at hb ⊢
  rw [h.goods hc]
  cases hg : r.good
  · simp only [hg, Bool.false_eq_true, ↓reduceIte] at hb ⊢; exact hb
  · simp only [hg, ↓reduceIte] at hb ⊢
    rw [Option.bind_eq_some_iff] at hb
    obtain ⟨t, ht, hb⟩ := hb
    obtain ⟨t', e, te⟩ := peek_low E h hc (.inl trivial) ht
    rw [e, Option.bind_some, te.k, te.x]
    exact hb
theorem notEnd_all (E : Env l l' N True) {r r' : Rd} (h : SR l l' N True r r') {b : Bool} (hb : r.notEnd = some b) : r'.notEnd = some b := by
  have hc : Cnd N True r := .inl trivial
  unfold Rd.notEnd at hb ⊢
  rw [h.goods hc]
  cases hg : r.good
  · simp only [hg, Bool.false_eq_true, ↓reduceIte] at hb ⊢; exact hb
  · simp only [hg, ↓reduceIte] at hb ⊢
    rw [Option.bind_eq_some_iff] at hb
    obtain ⟨t, ht, hb⟩ := hb
    obtain ⟨t', e, te⟩ := peek_low E h hc (.inl trivial) ht
    rw [e, Option.bind_some, te.k]
    exact hb

theorem procs_all (E : Env l l' N True) {m : Nat} : ∀ (n : Nat) (L : List Pc) (r r' : Rd), SR l l' N True r r' → Sim l l' N True r (Rd.procs m n L r) (Rd.procs m n L r') := by
  intro n
  induction n with
  | zero => intro L r r' _; simp only [Rd.procs]; exact Sim.non
  | succ n ih =>
    intro L r r' h
    simp only [Rd.procs]
    refine Sim.ask (fun b hb _ => isProc_all E h hb) fun b _ => Sim.ite (fun _ => Sim.ite (fun _ => bad_ret E h (by decide) _) fun _ => ?_) fun _ => ?_
    · have R := h (.inl trivial)
      rw [R.ei]
      refine Sim.from (s := { r with i := r.i + 1 }) ?_ (Nat.le_succ _) id
      exact (proc_sim E (h.set _ (Nat.le_succ _))).bind fun a q q' hq => Sim.same fun L' _ => ih _ _ _ hq
    · exact Sim.ask (fun b hb _ => notEnd_all E h hb) fun b _ => Sim.ite (fun _ => bad_ret E h (by decide) _) fun _ => Sim.ret _ h

theorem program_all (E : Env l l' N True) {m : Nat} {r r' : Rd} (h : SR l l' N True r r') : Sim l l' N True r (Rd.program m r) (Rd.program m r') := by
  unfold Rd.program
  exact (globals_sim E _ _ _ _ h).bind fun a q q' hq => (procs_all E _ _ _ _ hq).bind fun b s s' hs => Sim.ret _ hs
end

end Go.Abs

/-! Glue3 -/

namespace Go.Abs
set_option linter.unusedSimpArgs false
set_option linter.unusedVariables false

/-- What may stand between tokens. -/
structure SepOk (s : Str) : Prop where
  st : ∀ b : Str, Stop (s ++ b)
  lx : ∀ (p : Nat) (b : Str) (l : List Tok), Lx (p + s.length) b l → Lx p (s ++ b) l

def sepI (k : Int) : Str := if k == 0 then [32] else if k == 1 then [10] else if k == 2 then [9, 32] else [35, 58, 10]
theorem sepI_ok (k : Int) : SepOk (sepI k) := by
  unfold sepI
  split
  · exact ⟨fun b => (by decide : stopC 32 = true), fun p b l h => .blank _ _ _ _ (by decide) h⟩
  split
  · exact ⟨fun b => (by decide : stopC 10 = true), fun p b l h => .blank _ _ _ _ (by decide) h⟩
  split
  · exact ⟨fun b => (by decide : stopC 9 = true), fun p b l h => .blank _ _ _ _ (by decide) (.blank _ _ _ _ (by decide) h)⟩
  · refine ⟨fun b => (by decide : stopC 35 = true), fun p b l h => ?_⟩
    have e : lineL (35 :: 58 :: 10 :: b) = 2 := by simp [lineL]
    have go : Lx p (35 :: 58 :: 10 :: b) l := by
      refine .rem _ _ _ _ (by decide) (by decide) ?_
      rw [e]
      exact .blank _ _ _ _ (by decide) h
    exact go
theorem sepI_len (k : Int) : (sepI k).length ≤ 3 := by
  unfold sepI
  repeat' split
  all_goals decide

def sepM (n : Int) (t : Tok) : Str := sepI (modM (modM n 4 + t.kind) 4)
def gl (sep : Tok → Str) : List Tok → Str
  | [] => []
  | t :: l => t.text ++ sep t ++ gl sep l
def repos (sep : Tok → Str) (p : Nat) : List Tok → List Tok
  | [] => []
  | t :: l => { t with pos := (p : Nat) } :: repos sep (p + (t.text ++ sep t).length) l

theorem Lx_gl {sep : Tok → Str} (hs : ∀ t, SepOk (sep t)) {tail : Str} : ∀ (l : List Tok) (p : Nat), (∀ t ∈ l, TGood t) → Lx (p + (gl sep l).length) tail [] → Lx p (gl sep l ++ tail) (repos sep p l)
  | [], p, _, h => h
  | t :: l, p, hg, h => by
    simp only [gl, repos, List.append_assoc]
    refine Lx.put (hg t (List.mem_cons_self ..)) ((hs t).st _) ((hs t).lx _ _ _ ?_)
    have e : p + (t.text ++ sep t).length = p + t.text.length + (sep t).length := by simp only [List.length_append]; omega
    rw [e]
    refine Lx_gl hs l _ (fun u hu => hg u (List.mem_cons_of_mem _ hu)) ?_
    have e2 : p + (gl sep (t :: l)).length = p + t.text.length + (sep t).length + (gl sep l).length := by simp only [gl, List.length_append]; omega
    rw [← e2]; exact h

theorem repos_len (sep : Tok → Str) : ∀ (l : List Tok) (p : Nat), (repos sep p l).length = l.length
  | [], _ => rfl
  | t :: l, p => by simp only [repos, List.length_cons, repos_len sep l]
theorem repos_get (sep : Tok → Str) : ∀ (l : List Tok) (p i : Nat) (t : Tok), l[i]? = some t → (repos sep p l)[i]? = some { t with pos := ((p + (gl sep (l.take i)).length : Nat) : Int) }
  | [], p, i, t, h => by simp at h
  | u :: l, p, 0, t, h => by
    simp at h; subst h
    simp [repos, gl]
  | u :: l, p, i + 1, t, h => by
    simp only [List.getElem?_cons_succ] at h
    simp only [repos, List.getElem?_cons_succ, List.take_succ_cons, gl]
    rw [repos_get sep l _ i t h]
    congr 3
    simp only [List.length_append]; omega

/-- Where the law looks for the fault. -/
def atM (sep : Tok → Str) (fat : Int) (bad : Bool) : Nat → Int → List Tok → Int
  | n, a, [] => a
  | n, a, t :: l => atM sep fat bad (n + (t.text ++ sep t).length) (if t.pos == fat && bad then (n : Int) else a) l

theorem atM_miss (sep : Tok → Str) (fat : Int) (bad : Bool) : ∀ (l : List Tok) (n : Nat) (a : Int), (∀ t ∈ l, t.pos ≠ fat) → atM sep fat bad n a l = a
  | [], _, _, _ => rfl
  | t :: l, n, a, h => by
    have h1 := h t (List.mem_cons_self ..)
    have e : (t.pos == fat && bad) = false := by simp [h1]
    simp only [atM, e, Bool.false_eq_true, ↓reduceIte]
    exact atM_miss sep fat bad l _ _ fun u hu => h u (List.mem_cons_of_mem _ hu)
theorem atM_hit (sep : Tok → Str) {fat : Int} : ∀ (l : List Tok) (n : Nat) (a : Int) (j : Nat) (t : Tok), l.Pairwise (fun a b => a.pos < b.pos) → l[j]? = some t → t.pos = fat → atM sep fat true n a l = ((n + (gl sep (l.take j)).length : Nat) : Int)
  | [], _, _, j, t, _, h, _ => by simp at h
  | u :: l, n, a, 0, t, hp, h, he => by
    simp at h; subst h
    have e : (u.pos == fat && true) = true := by simp [he]
    simp only [atM, e, ↓reduceIte]
    rw [atM_miss sep fat true l _ _ (fun v hv => by have := (List.pairwise_cons.1 hp).1 v hv; omega)]
    simp [gl]
  | u :: l, n, a, j + 1, t, hp, h, he => by
    simp only [List.getElem?_cons_succ] at h
    have hlt := (List.pairwise_cons.1 hp).1 t (List.mem_of_getElem? h)
    have e : (u.pos == fat && true) = false := by simp; omega
    simp only [atM, e, Bool.false_eq_true, ↓reduceIte, List.take_succ_cons, gl]
    rw [atM_hit sep l _ _ j t (List.pairwise_cons.1 hp).2 h he]
    congr 1
    simp only [List.length_append]; omega

theorem worth_le : ∀ (s : Str) (a n : Int), worth a s = some n → a ≤ 9223372036854775807 → n ≤ 9223372036854775807
  | [], a, n, h, ha => by simp only [worth] at h; cases h; exact ha
  | c :: r, a, n, h, ha => by
    simp only [worth] at h
    split at h
    · cases h
    · exact worth_le r _ n h (by omega)
theorem worth_ge : ∀ (s : Str) (a n : Int), worth a s = some n → 1 ≤ a → (∀ c ∈ s, isD c = true) → (10 ^ s.length : Int) ≤ n
  | [], a, n, h, ha, _ => by simp only [worth] at h; cases h; simpa using ha
  | c :: r, a, n, h, ha, hd => by
    simp only [worth] at h
    split at h
    · cases h
    · rename_i hc
      have hcd := hd c (List.mem_cons_self ..)
      simp only [isD, Bool.and_eq_true, decide_eq_true_eq] at hcd
      have key : ∀ (s : Str) (a n : Int), worth a s = some n → 0 ≤ a → (∀ c ∈ s, isD c = true) → a * 10 ^ s.length ≤ n := by
        intro s
        induction s with
        | nil => intro a n h _ _; simp only [worth] at h; cases h; simp
        | cons c s ih =>
          intro a n h ha hd
          simp only [worth] at h
          split at h
          · cases h
          · have hcd := hd c (List.mem_cons_self ..)
            simp only [isD, Bool.and_eq_true, decide_eq_true_eq] at hcd
            have := ih _ _ h (by omega) fun x hx => hd x (List.mem_cons_of_mem _ hx)
            simp only [List.length_cons, Int.pow_succ]
            have h2 : a * 10 * 10 ^ s.length ≤ (a * 10 + ((c.toNat : Int) - 48)) * 10 ^ s.length := Int.mul_le_mul_of_nonneg_right (by omega) (Int.pow_nonneg (by omega))
            have h3 : a * (10 ^ s.length * 10) = a * 10 * 10 ^ s.length := by rw [Int.mul_comm (10 ^ s.length) 10, Int.mul_assoc]
            omega
      have := key r _ _ h (by omega) fun x hx => hd x (List.mem_cons_of_mem _ hx)
      simp only [List.length_cons, Int.pow_succ]
      have h2 : 10 * 10 ^ r.length ≤ (a * 10 + ((c.toNat : Int) - 48)) * 10 ^ r.length := Int.mul_le_mul_of_nonneg_right (by omega) (Int.pow_nonneg (by omega))
      have h3 : (10 : Int) ^ r.length * 10 = 10 * 10 ^ r.length := Int.mul_comm _ _
      omega
theorem runD_dig : ∀ s : Str, ∀ c ∈ s.take (runD s), isD c = true
  | [], c, h => by simp at h
  | d :: s, c, h => by
    simp only [runD] at h
    split at h
    · rename_i hd
      rw [List.take_succ_cons] at h
      rcases List.mem_cons.1 h with rfl | h
      · exact hd
      · exact runD_dig s c h
    · simp at h

/-- No token is long. -/
theorem tokE_19 {pos : Nat} {s : Str} {t : Tok} (h : tokE pos s = .inl t) : t.text.length ≤ 19 := by
  cases s with
  | nil => simp only [tokE] at h; cases h
  | cons c r =>
    simp only [tokE] at h
    cases hL : isL c
    · simp only [hL, Bool.false_eq_true, ↓reduceIte] at h
      cases hD : isD c
      · simp only [hD, Bool.false_eq_true, ↓reduceIte] at h
        split at h
        · cases h
        · cases h
          have : signL (c :: r) ≤ 2 := by
            cases r with
            | nil => simp only [signL]; split <;> omega
            | cons d r => simp only [signL]; repeat' split
                          all_goals omega
          simp only [List.length_take]; omega
      · simp only [hD, ↓reduceIte] at h
        split at h
        · cases h
        · rename_i hz
          split at h
          · rename_i n hw
            cases h
            dsimp only
            have hall := runD_dig (c :: r)
            generalize hx : (c :: r).take (runD (c :: r)) = x at hall hw hz ⊢
            cases x with
            | nil => simp
            | cons d x =>
              have hdc : d = c := by
                have : runD (c :: r) = runD r + 1 := by simp [runD, hD]
                rw [this, List.take_succ_cons] at hx
                simp only [List.cons.injEq] at hx
                exact hx.1.symm
              subst hdc
              cases x with
              | nil => simp
              | cons e x =>
                have hd48 : (d.toNat : Int) ≠ 48 := fun h48 => hz ⟨by simp, h48⟩
                have hdd := hall d (List.mem_cons_self ..)
                simp only [isD, Bool.and_eq_true, decide_eq_true_eq] at hdd
                have hle := worth_le _ _ _ hw (by omega)
                simp only [worth] at hw
                split at hw
                · cases hw
                · have hw' : worth (0 * 10 + ((d.toNat : Int) - 48)) (e :: x) = some n := by simp only [worth]; exact hw
                  have hge := worth_ge _ _ _ hw' (by omega) fun y hy => hall y (List.mem_cons_of_mem _ hy)
                  rcases Nat.lt_or_ge (e :: x).length 19 with hlt | hge2
                  · simp only [List.length_cons] at hlt ⊢; omega
                  · exfalso
                    have : (10 : Int) ^ 19 ≤ 10 ^ (e :: x).length := by
                      obtain ⟨k, hk⟩ := Nat.exists_eq_add_of_le hge2
                      rw [hk, Int.pow_add]
                      have h1 : (1 : Int) ≤ 10 ^ k := Int.pow_pos (by omega)
                      omega
                    have h19 : (10 : Int) ^ 19 = 10000000000000000000 := by decide
                    omega
          · cases h
    · simp only [hL, ↓reduceIte] at h
      split at h
      · cases h
      · cases h; dsimp only; omega
theorem Lx.t19 {pos : Nat} {s : Str} {l : List Tok} (h : Lx pos s l) : ∀ t ∈ l, t.text.length ≤ 19 := by
  induction h with
  | nil => simp
  | blank pos c r l h k ih => exact ih
  | rem pos c r l h h2 k ih => exact ih
  | tok pos c r t l h h2 ht k ih =>
    intro u hu
    rcases List.mem_cons.1 hu with rfl | hu
    · exact tokE_19 ht
    · exact ih u hu
theorem gl_len {sep : Tok → Str} (hs : ∀ t, (sep t).length ≤ 3) : ∀ (l : List Tok), (∀ t ∈ l, t.text.length ≤ 19) → (gl sep l).length ≤ 22 * l.length
  | [], _ => by simp [gl]
  | t :: l, h => by
    have h1 := h t (List.mem_cons_self ..)
    have h2 := hs t
    have := gl_len hs l fun u hu => h u (List.mem_cons_of_mem _ hu)
    simp only [gl, List.length_append, List.length_cons]
    omega

theorem gl_app (sep : Tok → Str) (t : Tok) : ∀ l : List Tok, gl sep (l ++ [t]) = gl sep l ++ (t.text ++ sep t)
  | [] => by simp [gl]
  | u :: l => by simp only [List.cons_append, gl, gl_app sep t l, List.append_assoc]

/-- The same text with other blanks. -/
theorem tokens_law {text : Str} {n : Int} {p : Pg × Int × Int} (h : parseM fuelM text = some p) (h0 : (lexAll text).2.1 = 0) :
    ∃ (l : List Tok) (e : Tok) (a : Int), (lexAll text).1 = l ++ [e] ∧ (∀ t ∈ l, t.text.length ≤ 19) ∧ e.text = [] ∧ l.length ≤ 2000 ∧ parseM fuelM (gl (sepM n) (l ++ [e])) = some (p.1, p.2.1, a) ∧
      (p.2.1 = 0 ∨ a = if e.pos == p.2.2 then ((gl (sepM n) (l ++ [e])).length : Int) else atM (sepM n) p.2.2 (p.2.1 != 0) 0 0 (l ++ [e])) := by
  obtain ⟨l, hl, hlen, hl2, e⟩ := Lx_lexAll h0
  have hsep : ∀ t, SepOk (sepM n t) := fun t => sepI_ok _
  have hgood := hl.good
  have h19 := hl.t19
  obtain ⟨hpos, hpw⟩ := hl.pos
  have htail : Lx (0 + (gl (sepM n) l).length) (sepM n (tEnd text.length)) [] := by
    have := (hsep (tEnd text.length)).lx (0 + (gl (sepM n) l).length) [] [] (.nil _)
    simpa using this
  have egl : gl (sepM n) (l ++ [tEnd text.length]) = gl (sepM n) l ++ sepM n (tEnd text.length) := by rw [gl_app]; simp [tEnd]
  have hL := Lx_gl hsep l 0 hgood htail
  rw [← egl] at hL
  have hlenS : (gl (sepM n) (l ++ [tEnd text.length])).length ≤ 100000 := by
    have := gl_len (sep := sepM n) (fun t => sepI_len _) (l ++ [tEnd text.length]) (by
      intro t ht
      rcases List.mem_append.1 ht with h | h
      · exact h19 t h
      · simp at h; subst h; simp [tEnd])
    simp only [List.length_append, List.length_cons, List.length_nil] at this
    omega
  have eS := lexAll_Lx hL hlenS (by rw [repos_len]; exact hl2)
  generalize hSS : gl (sepM n) (l ++ [tEnd text.length]) = S at *
  refine ⟨l, tEnd text.length, ?_⟩
  rw [hSS, e]
  have E : Env (l ++ [tEnd text.length]) (repos (sepM n) 0 l ++ [tEnd S.length]) 0 True := by
    refine ⟨fun i t ht _ => ?_, fun f => absurd trivial f⟩
    rcases Nat.lt_or_ge i l.length with hi | hi
    · rw [List.getElem?_append_left hi] at ht
      have := repos_get (sepM n) l 0 i t ht
      rw [List.getElem?_append_left (by rw [repos_len]; exact hi), this]
      exact ⟨_, rfl, rfl, rfl, rfl⟩
    · rw [List.getElem?_append_right hi] at ht
      rw [List.getElem?_append_right (by rw [repos_len]; exact hi), repos_len]
      cases hk : i - l.length with
      | zero => rw [hk] at ht; simp at ht; subst ht; exact ⟨_, rfl, rfl, rfl, rfl⟩
      | succ k => rw [hk] at ht; simp at ht
  have hSR : SR (l ++ [tEnd text.length]) (repos (sepM n) 0 l ++ [tEnd S.length]) 0 True (rd0 (l ++ [tEnd text.length])) (rd0 (repos (sepM n) 0 l ++ [tEnd S.length])) :=
    fun _ => ⟨rfl, rfl, rfl, rfl, rfl, .inl rfl⟩
  unfold parseM at h
  rw [e] at h
  dsimp only at h
  have hn0 : ((0 : Int) != 0) = false := rfl
  simp only [hn0, Bool.false_eq_true, ↓reduceIte] at h
  rw [Option.bind_eq_some_iff] at h
  obtain ⟨P, hP, h⟩ := h
  obtain ⟨_, _, sim⟩ := program_all E hSR P hP
  obtain ⟨q', hq', R⟩ := sim (.inl trivial)
  have hSp : ∀ a b c, (if (P.2.code != 0) = true then some (pg0, P.2.code, q'.fat) else P.1.numberO.bind fun q => some (q, 0, 0)) = some (a, b, c) → parseM fuelM S = some (a, b, c) := by
    intro a b c hh
    unfold parseM
    rw [eS]
    dsimp only
    simp only [hn0, Bool.false_eq_true, ↓reduceIte]
    rw [hq', Option.bind_some, R.ec]
    exact hh
  cases hc : (P.2.code != 0)
  · simp only [hc, Bool.false_eq_true, ↓reduceIte] at h
    rw [Option.bind_eq_some_iff] at h
    obtain ⟨x, hx, h⟩ := h
    cases h
    refine ⟨0, rfl, h19, rfl, hl2, hSp _ _ _ ?_, .inl rfl⟩
    simp only [hc, Bool.false_eq_true, ↓reduceIte, hx, Option.bind_some]
  · simp only [hc, ↓reduceIte] at h
    cases h
    refine ⟨q'.fat, rfl, h19, rfl, hl2, hSp _ _ _ (by simp only [hc, ↓reduceIte]), .inr ?_⟩
    dsimp only
    rw [hc]
    rcases R.ef with f | ⟨j, t, t', g1, g2, g3, g4⟩
    · rw [f] at hc; cases hc
    · rw [g3, g4]
      rcases Nat.lt_or_ge j l.length with hj | hj
      · have hjt := g1
        rw [List.getElem?_append_left hj] at hjt
        have := repos_get (sepM n) l 0 j t hjt
        rw [List.getElem?_append_left (by rw [repos_len]; exact hj), this] at g2
        cases g2
        have hlt := hpos t (List.mem_of_getElem? hjt)
        have e1 : ((tEnd text.length).pos == t.pos) = false := by simp only [tEnd, beq_eq_false_iff_ne, ne_eq]; omega
        rw [e1]
        simp only [Bool.false_eq_true, ↓reduceIte]
        have hpw2 : (l ++ [tEnd text.length]).Pairwise (fun a b => a.pos < b.pos) := by
          refine List.pairwise_append.2 ⟨hpw, List.pairwise_singleton .., fun a ha b hb => ?_⟩
          simp at hb; subst hb
          have := hpos a ha
          simp only [tEnd]; omega
        rw [atM_hit (sepM n) _ 0 0 j t hpw2 g1 rfl, List.take_append_of_le_length (Nat.le_of_lt hj)]
      · rw [List.getElem?_append_right hj] at g1
        rw [List.getElem?_append_right (by rw [repos_len]; exact hj), repos_len] at g2
        cases hk : j - l.length with
        | zero =>
          rw [hk] at g1 g2
          simp at g1 g2
          subst g1 g2
          simp [tEnd]
        | succ k => rw [hk] at g1; simp at g1

end Go.Abs

/-! Glue2 -/

namespace Go.Abs

def M0 : Map := ⟨fun _ _ => none, fun _ => 0, fun _ => none⟩

/-- Of what was there nothing turns. -/
def Kept (w w' : World) : Prop := w.keptBut w' (fun _ => False) ∧ ∀ a : Addr, a.block < w.heap.size → w'.frozen? a = w.frozen? a

theorem Kept.frame {w w' : World} (h : Kept w w') (may : MemPlace → Prop) : w.keptBut w' may := World.keptBut_mono (fun _ f => f.elim) h.1

theorem Ext.toKept {M M' : Map} {s' : St} {w w' : World} (e : Ext M S0 w M' s' w') : Kept w w' := by
  have hh : ∀ b, b < w.heap.size → w'.heap[b]? = w.heap[b]? := fun b hb =>
    e.kept b hb (fun o ho => by simp [S0] at ho) (fun t c z hl => by obtain ⟨n, hn⟩ := hl; simp [S0] at hn)
  refine ⟨⟨e.os, e.output, fun i hi => ?_⟩, fun a ha => ?_⟩
  · rw [hh i hi]
    exact (World.keptBut_refl w (fun _ => False)).2.2 i hi
  · simp only [World.frozen?, hh _ ha]

theorem rel0 (G : Nat → Nat → Option Value) (w : World) (h : ∀ b o v, G b o = some v → w.cell? ⟨b, o, none⟩ = some v ∧ v.oneCell' = true) : Rel ⟨G, fun _ => 0, fun _ => none⟩ S0 w :=
  ⟨h, fun o ds e => by simp [S0] at e, fun o ho => by simp [S0] at ho, fun o o' ho => by simp [S0] at ho, fun t n e => by simp [S0] at e,
    fun t b c z o hl => by obtain ⟨n, hn⟩ := hl; simp [S0] at hn, fun t t' b c z c' z' hl => by obtain ⟨n, hn⟩ := hl; simp [S0] at hn⟩

/-- A law is called. -/
theorem law_calls {P : Program} {f : FuncId} {args : List D} {vargs : Array Value} {w : World} {G : Nat → Nat → Option Value} (h : ACalls P f args S0 fun d _ => d = .bool true)
    (hG : ∀ b o v, G b o = some v → w.cell? ⟨b, o, none⟩ = some v ∧ v.oneCell' = true) (hl : vargs.size = args.length)
    (ha : ∀ (i : Nat) (d : D) (v : Value), args[i]? = some d → vargs[i]? = some v → RD ⟨G, fun _ => 0, fun _ => none⟩ S0 d v) :
    Calls P f vargs w fun e w' => e = .returned (.bool true) ∧ Kept w w' := by
  refine (h _ w vargs (rel0 G w hG) hl ha).mono fun e w' hw => ?_
  obtain ⟨M', d, v, s', rfl, rfl, he, _, hv⟩ := hw
  rw [hv.bool_inv]
  exact ⟨rfl, he.toKept⟩

section
variable {P : Program} {H : Type} {enc : TypeId × Value → H}

/-- The row's closing condition, where nothing turns of what was there. -/
theorem post_of_kept {f : Func} {s : ChangeSpec} {apart fresh handsOn again : Bool} {W W' : World} {args : Array Value} {v : Value} {ds gs : List (DataW H)} {before pa pv : List MemPlace}
    (hW : DataW.Whole enc P f.params.toList s.vars apart W args.toList ds gs before)
    (hres : ∀ (b : Nat) (sp : Nat → Bool) (hd : Bool), DataW.TrodAll enc P W' b sp hd f.resultTypes.toList (v.resultList f.resultTypes.size) (s.fn H (ds ++ gs)).results [])
    (hargs : ∀ sp : Nat → Bool, (∀ p ∈ before, sp p.block = true) → DataW.TrodAll enc P W' 0 sp true f.params.toList args.toList (s.fn H (ds ++ gs)).args pa)
    (hvars : ∀ sp : Nat → Bool, (∀ p ∈ before, sp p.block = true) → DataW.TrodVars enc P W' sp s.vars (s.fn H (ds ++ gs)).vars pv)
    (hps : before = pa ++ pv) (hk : Kept W W')
    (hok : ∀ (j : Nat) (t : TypeId) (r : Value), f.resultTypes[j]? = some t → (v.resultList f.resultTypes.size)[j]? = some r → Value.okWide P W' .any 0 t r) :
    s.post enc P f apart fresh handsOn again W args v W' := by
  have hlt : ∀ p ∈ before, p.block < W.heap.size := fun p hp => hW.lt p hp
  have hold : ∀ p ∈ before, (fun b => decide (b < W.heap.size)) p.block = true := fun p hp => by simpa using hlt p hp
  refine ⟨ds, gs, before, [], pa, pv, hW, hres _ _ _, hargs _ hold, hvars _ hold, World.keptBut_mono (fun p hp => ⟨hp, ?_⟩) (hk.frame (· ∈ before)), fun _ => ?_⟩
  · rw [hps, List.mem_append] at hp
    exact Or.inr hp
  · obtain ⟨_, _, _, _, _, hz, hn⟩ := hW
    refine ⟨hok, _, _, ([] ++ pa) ++ pv, ⟨[] ++ pa, pv, ChangeShapes.trodAll_append (hargs _ (fun _ _ => rfl)) (hres _ _ _), hvars _ (fun _ _ => rfl), rfl, ?_, ?_⟩, ?_⟩
    · intro b off hp
      have hp' : MemPlace.cell b off ∈ before := by rw [hps]; simpa using hp
      rw [hk.2 _ (hlt _ hp')]
      exact hz b off hp'
    · intro ha
      have := hn ha
      rw [hps] at this
      simpa using this
    · intro p hp _
      rw [hps]
      simpa using hp
end
end Go.Abs

/-! Join -/

namespace Go.Abs
open Go.RowKit Go.ChangeShapes Go.WideShapes

/-- All that can be read. -/
def memG (w : World) (b o : Nat) : Option Value :=
  match w.cell? ⟨b, o, none⟩ with
  | some v => if v.oneCell' = true then some v else none
  | none => none
theorem memG_ok {w : World} (b o : Nat) (v : Value) (h : memG w b o = some v) : w.cell? ⟨b, o, none⟩ = some v ∧ v.oneCell' = true := by
  unfold memG at h
  split at h
  · split at h
    · cases h; exact ⟨‹_›, ‹_›⟩
    · cases h
  · cases h
/-- All of it is fixed. -/
def memM (w : World) : Map := ⟨memG w, fun _ => 0, fun _ => none⟩

theorem Kept.sameAt {w w' : World} (h : Kept w w') {p : MemPlace} (hp : p.block < w.heap.size) : w.sameAt w' p := by
  have hk := h.1.2.2 p.block hp
  cases p with
  | cell b off =>
    simp only [MemPlace.block] at hk hp
    simp only [World.sameAt, World.cell?]
    split at hk
    · rename_i c t fr c' t' fr' e e'
      rw [e, e']
      simp only [hk.2.2.2 off (fun f => f)]
    · rename_i es clock es' clock' e e'
      rw [e, e']
    · rw [hk]
  | map b =>
    simp only [MemPlace.block] at hk hp
    simp only [World.sameAt]
    split at hk
    · rename_i c t fr c' t' fr' e e'
      rw [e, e']
      obtain ⟨rfl, rfl, hs, hc⟩ := hk
      have : c' = c := by
        apply Array.ext_getElem?
        intro i
        exact hc i (fun f => f)
      rw [this]
    · rename_i es clock es' clock' e e'
      rcases hk with f | ⟨rfl, rfl⟩
      · exact f.elim
      · rw [e, e']
    · exact hk

section
variable {P : Program} {H : Type} {enc : TypeId × Value → H} {T : TypeId → Prop}

theorem args_again (K : Kids P T) (hz : ∀ {t e : TypeId}, T t → P.underlying t = some (.slice e) → 0 < P.cellsOf e) {W W' : World} (hk : Kept W W') {sp : Nat → Bool} :
    ∀ {ts : List TypeId} {vs : List Value} {ds : List (DataW H)} {ps : List MemPlace}, (∀ t ∈ ts, T t) → (∀ p ∈ ps, p.block < W.heap.size) → (∀ p ∈ ps, sp p.block = true) →
      DataW.TrodAll enc P W 0 (fun _ => true) true ts vs ds ps → DataW.TrodAll enc P W' 0 sp true ts vs ds ps
  | [], [], [], _, _, _, _, h => h
  | t :: ts, v :: vs, d :: ds, ps, hT, hlt, hs, ⟨p, q, ⟨n, h1⟩, h2, e⟩ => by
    subst e
    refine ⟨p, q, ⟨n, DataW.trod_stays K hz (fun f => by cases f) (hT t (List.mem_cons_self ..)) h1 (fun x hx => hk.sameAt (hlt x (List.mem_append_left _ hx))) (fun x hx => hs x (List.mem_append_left _ hx))⟩, ?_, rfl⟩
    exact args_again K hz hk (fun t ht => hT t (List.mem_cons_of_mem _ ht)) (fun x hx => hlt x (List.mem_append_right _ hx)) (fun x hx => hs x (List.mem_append_right _ hx)) h2
  | [], [], _ :: _, _, _, _, _, h => h.elim
  | [], _ :: _, _, _, _, _, _, h => h.elim
  | _ :: _, [], _, _, _, _, _, h => h.elim
  | _ :: _, _ :: _, [], _, _, _, _, h => h.elim

/-- The row's closing condition. -/
theorem law_post (K : Kids P T) (hz : ∀ {t e : TypeId}, T t → P.underlying t = some (.slice e) → 0 < P.cellsOf e) {f : Func} {s : ChangeSpec} {apart fresh handsOn again : Bool} {tb : TypeId} {W W' : World} {args : Array Value} {ds gs : List (DataW H)} {before : List MemPlace}
    (hT : ∀ t ∈ f.params.toList, T t) (hb : P.underlying tb = some .bool) (hr : f.resultTypes = #[tb]) (hvars : s.vars = []) (hW : DataW.Whole enc P f.params.toList s.vars apart W args.toList ds gs before)
    (hfn : s.fn H (ds ++ gs) = { results := [.lit (.bool true)], args := ds }) (hk : Kept W W') : s.post enc P f apart fresh handsOn again W args (.bool true) W' := by
  have hW' := hW
  have hlt : ∀ p ∈ before, p.block < W.heap.size := fun p hp => hW.lt p hp
  obtain ⟨p, q, hA, hV, rfl, hfz, hnd⟩ := hW
  rw [hvars] at hV
  obtain ⟨rfl, rfl⟩ := trodVars_none hV
  simp only [List.append_nil] at hlt hfn
  refine post_of_kept (pa := p) (pv := []) hW' (fun b sp hd => ?_) (fun sp hsp => ?_) (fun sp hsp => ?_) rfl hk (ok_one hr rfl (okWide_bool_mk hb _))
  · rw [List.append_nil, hfn, hr]
    exact trodAll_cons_mk (shut_bool hb _) trodAll_mk0
  · rw [List.append_nil, hfn]
    simp only [List.append_nil] at hsp
    exact args_again K hz hk hT hlt hsp hA
  · rw [List.append_nil, hfn, hvars]
    rfl

/-- A law is called with arguments that can be read. -/
theorem law_run {f : FuncId} {args : List D} {vargs : Array Value} {w : World} (h : ACalls P f args S0 fun d _ => d = .bool true) (hl : vargs.size = args.length)
    (ha : ∀ (i : Nat) (d : D) (v : Value), args[i]? = some d → vargs[i]? = some v → RD (memM w) S0 d v) : Calls P f vargs w fun e w' => e = .returned (.bool true) ∧ Kept w w' :=
  law_calls (G := memG w) h memG_ok hl ha
end

end Go.Abs

/-! LawTokens -/

namespace Go.Abs

set_option maxRecDepth 8000
set_option linter.unusedSimpArgs false
set_option linter.unusedVariables false
open Go.Proofs

theorem tokens_end {B : Base} {Q : Exit → Tm → St → Prop} {S : Str} {L l : List Tok} {e : Tok} {p : Pg} {c a fat : Int} {x : Int} (hB : B.s = ⟨[], []⟩) (hQ : retF 0 0 [(4, none)] (.bool true) ⟨[], []⟩ = Q) (hL : L = l ++ [e]) (hl : l.length ≤ 2000)
    (hS : S.length < 1000000) (hp : parseM fuelM S = some (p, c, a)) (hsz : p.size < 100000) (hh : c = 0 ∨ a = if e.pos == fat then (S.length : Int) else x) :
    Sem Try.prog B 113 Q17 Q [(5, .slice .shared 4 (L.map encTok)), (7, .ptr 1 0), (8, .ptr 2 0), (9, .str S), (10, .int .i64 x)] ⟨[[.junk, .junk], encPg p, [.int .i64 c, .int .i64 fat]], []⟩ := by
  have hlt : 0 < 1 := Nat.zero_lt_one
  have hpu : 0 < 1 := Nat.zero_lt_one
  have hinc : 0 < 1 := Nat.zero_lt_one
  have h1 := fun s => Parse_s hp (by omega) s
  have h3 := fun s => Eq_s (a := p) (b := p) (by omega) s
  rw [Pg.beq_refl] at h3
  dsimp only at h1
  have hLn : L.length = l.length + 1 := by rw [hL]; simp
  have hget : L[l.length]? = some e := by rw [hL]; simp
  clear hp hL
  have w1 : IntKind.wrap .i64 (((l.length + 1 : Nat) : Int) - 1) = (l.length : Int) := by rw [wrap_ok] <;> omega
  have cg : decide (((l.length + 1 : Nat) : Int) > 0) = true := by simp only [decide_eq_true_eq]; omega
  have ecc : (c == c) = true := by simp
  refine wpC_sound ?_
  cases hc : c != 0
  · have hc' : (c == 0) = true := by simpa using hc
    repeat' (first
 | simp only [go_sem, hlt, hget, hpu, hinc, Int.reduceLE, ↓reduceIte, reduceCtorEq, Nat.reduceEqDiff, Nat.reduceLeDiff, Nat.reduceAdd, Nat.reduceMul, Nat.reduceSub, Nat.reduceLT, hc, hc', hLn, cg, ecc]
 | (with_reducible refine CU (h1 _) ?_)
 | (with_reducible refine CU (h3 _) ?_)
 | (with_reducible first | refine CB_ofT (by assumption) fun hc => ?_ | refine CB_ofF (by assumption) fun hc => ?_ | refine CB_split (fun hc => ?_) fun hc => ?_) <;> (try simp only [hc, bs, ↓reduceIte] at h) <;> (try simp only [hc])
 | ((with_reducible first | refine leafR hQ ?_ | refine leafN hQ ?_); (try cases h); simp only [resL, oneD, Option.some.injEq, exists_eq_left', go_sem, hlt, hget, hpu, hinc, Int.reduceLE, ↓reduceIte, reduceCtorEq, Nat.reduceEqDiff, Nat.reduceLeDiff, Nat.reduceAdd, Nat.reduceMul, Nat.reduceSub, Nat.reduceLT, hc, hc', hLn, cg, ecc]; repeat' (first | exact Ok.out | with_reducible refine And.intro ?_ ?_ | (simp; done)))
 | (cases h; replace h := hr; clear hr; (try simp only [bs, ↓reduceIte] at h))
 | (cases h; done))
  · have hc' : (c == 0) = false := by simpa using hc
    have hne : c ≠ 0 := by simpa using hc
    rcases hh with hh | hh
    · exact absurd hh hne
    cases hp : e.pos == fat
    · rw [hp] at hh
      simp only [Bool.false_eq_true, ↓reduceIte] at hh
      have hp' : (fat == e.pos) = false := by simp at hp ⊢; omega
      have ha : (a == x) = true := by simp [hh]
      repeat' (first
 | simp only [go_sem, hlt, hget, hpu, hinc, Int.reduceLE, ↓reduceIte, reduceCtorEq, Nat.reduceEqDiff, Nat.reduceLeDiff, Nat.reduceAdd, Nat.reduceMul, Nat.reduceSub, Nat.reduceLT, hc, hc', hLn, cg, ecc, w1, hp', ha]
 | (with_reducible refine CU (h1 _) ?_)
 | (with_reducible refine CU (h3 _) ?_)
 | (with_reducible first | refine CB_ofT (by assumption) fun hc => ?_ | refine CB_ofF (by assumption) fun hc => ?_ | refine CB_split (fun hc => ?_) fun hc => ?_) <;> (try simp only [hc, bs, ↓reduceIte] at h) <;> (try simp only [hc])
 | ((with_reducible first | refine leafR hQ ?_ | refine leafN hQ ?_); (try cases h); simp only [resL, oneD, Option.some.injEq, exists_eq_left', go_sem, hlt, hget, hpu, hinc, Int.reduceLE, ↓reduceIte, reduceCtorEq, Nat.reduceEqDiff, Nat.reduceLeDiff, Nat.reduceAdd, Nat.reduceMul, Nat.reduceSub, Nat.reduceLT, hc, hc', hLn, cg, ecc, w1, hp', ha]; repeat' (first | exact Ok.out | with_reducible refine And.intro ?_ ?_ | (simp; done)))
 | (cases h; replace h := hr; clear hr; (try simp only [bs, ↓reduceIte] at h))
 | (cases h; done))
    · rw [hp] at hh
      simp only [↓reduceIte] at hh
      have hp' : (fat == e.pos) = true := by simp at hp ⊢; omega
      have ha : (a == (S.length : Int)) = true := by simp [hh]
      repeat' (first
 | simp only [go_sem, hlt, hget, hpu, hinc, Int.reduceLE, ↓reduceIte, reduceCtorEq, Nat.reduceEqDiff, Nat.reduceLeDiff, Nat.reduceAdd, Nat.reduceMul, Nat.reduceSub, Nat.reduceLT, hc, hc', hLn, cg, ecc, w1, hp', ha]
 | (with_reducible refine CU (h1 _) ?_)
 | (with_reducible refine CU (h3 _) ?_)
 | (with_reducible first | refine CB_ofT (by assumption) fun hc => ?_ | refine CB_ofF (by assumption) fun hc => ?_ | refine CB_split (fun hc => ?_) fun hc => ?_) <;> (try simp only [hc, bs, ↓reduceIte] at h) <;> (try simp only [hc])
 | ((with_reducible first | refine leafR hQ ?_ | refine leafN hQ ?_); (try cases h); simp only [resL, oneD, Option.some.injEq, exists_eq_left', go_sem, hlt, hget, hpu, hinc, Int.reduceLE, ↓reduceIte, reduceCtorEq, Nat.reduceEqDiff, Nat.reduceLeDiff, Nat.reduceAdd, Nat.reduceMul, Nat.reduceSub, Nat.reduceLT, hc, hc', hLn, cg, ecc, w1, hp', ha]; repeat' (first | exact Ok.out | with_reducible refine And.intro ?_ ?_ | (simp; done)))
 | (cases h; replace h := hr; clear hr; (try simp only [bs, ↓reduceIte] at h))
 | (cases h; done))

theorem ParseTokens_true (text : Str) (n : Int) : Fun Try.prog n_law4_ParseTokens [.str text, .int .i64 n] S0 (.bool true) S0 := by
  obtain ⟨⟨p, c, fat⟩, h, hsz⟩ := parseM_t (cutM text)
  have h1 := fun s => Parse_s h (cutM_len text) s
  have hlex := fun s => all_s (cutM text) (cutM_len text) s
  unfold S0
  by_cases h0 : (lexAll (cutM text)).2.1 = 0
  · obtain ⟨l, e, a, hL, h19, hex, hl2, hp2, hfin⟩ := tokens_law (n := n) h h0
    dsimp only at hp2 hfin h1 hsz
    have hok := lexAll_ok h0
    have hkind : ∀ t ∈ (lexAll (cutM text)).1, 0 ≤ t.kind ∧ t.kind ≤ 4 := fun t ht => hok.k t ht
    rw [hL] at hlex hkind
    have h19' : ∀ t ∈ l ++ [e], t.text.length ≤ 19 := by
      intro t ht
      rcases List.mem_append.1 ht with h | h
      · exact h19 t h
      · simp at h; subst h; rw [hex]; simp
    have hlenL : (l ++ [e]).length ≤ 2001 := by simp; omega
    generalize hLL : l ++ [e] = L at *
    have c0 : ((lexAll (cutM text)).2.1 != 0) = false := by rw [h0]; rfl
    clear h h0 hL hok
    refine Fun.goS has_law4_ParseTokens rfl fun B Q hB hQ => ?_
    have hlt : 0 < 1 := Nat.zero_lt_one
    have hget : 0 < 1 := Nat.zero_lt_one
    have hpu : 0 < 1 := Nat.zero_lt_one
    have hinc : 0 < 1 := Nat.zero_lt_one
    iterate 9
      refine Sem.seqW ?_
      repeat' (first
 | simp only [go_sem, hlt, hget, hpu, hinc, Int.reduceLE, ↓reduceIte, reduceCtorEq, Nat.reduceEqDiff, Nat.reduceLeDiff, Nat.reduceAdd, Nat.reduceMul, Nat.reduceSub, Nat.reduceLT, c0]
 | (with_reducible refine CU (parsed_0 _) ?_)
 | (with_reducible refine CU (Cut_s _ _) ?_)
 | (with_reducible refine CU (hlex _) ?_)
 | (with_reducible refine CU (h1 _) ?_)
 | (with_reducible first | refine CB_ofT (by assumption) fun hc => ?_ | refine CB_ofF (by assumption) fun hc => ?_ | refine CB_split (fun hc => ?_) fun hc => ?_) <;> (try simp only [hc, bs, ↓reduceIte] at h) <;> (try simp only [hc])
 | ((with_reducible first | refine leafR hQ ?_ | refine leafN hQ ?_); (try cases h); simp only [resL, oneD, Option.some.injEq, exists_eq_left', go_sem, hlt, hget, hpu, hinc, Int.reduceLE, ↓reduceIte, reduceCtorEq, Nat.reduceEqDiff, Nat.reduceLeDiff, Nat.reduceAdd, Nat.reduceMul, Nat.reduceSub, Nat.reduceLT, c0]; repeat' (first | exact Ok.out | with_reducible refine And.intro ?_ ?_ | (simp; done)))
 | (cases h; replace h := hr; clear hr; (try simp only [bs, ↓reduceIte] at h))
 | (cases h; done))
    refine SemL.re _ _ 3 0 (by rw [hB]; exact Nat.le_of_ble_eq_true rfl) (by rw [hB]; exact Nat.le_of_ble_eq_true rfl) ?_ ?_ (SemL.ind (ι := List Tok × Nat × Str × Int) (fun i => L.drop i.2.1 = i.1 ∧ i.2.2.1 ++ gl (sepM n) i.1 = gl (sepM n) L ∧ atM (sepM n) fat (c != 0) i.2.2.1.length i.2.2.2 i.1 = atM (sepM n) fat (c != 0) 0 0 L ∧ i.2.2.1.length + 22 * i.1.length ≤ 22 * 2001) (fun i => i.1.length)
      (fun i => [(1, .int .i64 n), (5, .slice .shared 4 (L.map encTok)), (7, .ptr 1 0), (8, .ptr 2 0), (9, .str i.2.2.1), (10, .int .i64 i.2.2.2), (32, .slice .shared 4 (L.map encTok)), (33, .int .i64 (L.length : Int)), (34, .int .i64 (i.2.1 : Int))]) (fun i => ⟨[[.junk, .junk], encPg p, [.int .i64 c, .int .i64 fat]], []⟩) ?_ (L, 0, [], 0) ⟨rfl, rfl, rfl, by simp only [List.length_nil]; omega⟩)
    · (simp only [go_sem, hlt, hget, hpu, hinc, Int.reduceLE, ↓reduceIte, reduceCtorEq, Nat.reduceEqDiff, Nat.reduceLeDiff, Nat.reduceAdd, Nat.reduceMul, Nat.reduceSub, Nat.reduceLT]; repeat' (first | exact Ok.out | with_reducible refine And.intro ?_ ?_))
    · (simp only [go_sem, hlt, hget, hpu, hinc, Int.reduceLE, ↓reduceIte, reduceCtorEq, Nat.reduceEqDiff, Nat.reduceLeDiff, Nat.reduceAdd, Nat.reduceMul, Nat.reduceSub, Nat.reduceLT]; repeat' (first | exact Ok.out | with_reducible refine And.intro ?_ ?_))
    rintro ⟨rest, k, s, at'⟩ ⟨g1, g2, g3, g4⟩ IH
    dsimp only at g1 g2 g3 g4
    cases rest with
    | nil =>
      have hlt := drop_nil g1
      simp only [gl, atM, List.append_nil] at g2 g3
      subst g2 g3
      repeat' (first
 | simp only [go_sem, hlt, hget, hpu, hinc, Int.reduceLE, ↓reduceIte, reduceCtorEq, Nat.reduceEqDiff, Nat.reduceLeDiff, Nat.reduceAdd, Nat.reduceMul, Nat.reduceSub, Nat.reduceLT]
 | (with_reducible first | refine CB_ofT (by assumption) fun hc => ?_ | refine CB_ofF (by assumption) fun hc => ?_ | refine CB_split (fun hc => ?_) fun hc => ?_) <;> (try simp only [hc, bs, ↓reduceIte] at h) <;> (try simp only [hc])
 | ((with_reducible first | refine leafR hQ ?_ | refine leafN hQ ?_); (try cases h); simp only [resL, oneD, Option.some.injEq, exists_eq_left', go_sem, hlt, hget, hpu, hinc, Int.reduceLE, ↓reduceIte, reduceCtorEq, Nat.reduceEqDiff, Nat.reduceLeDiff, Nat.reduceAdd, Nat.reduceMul, Nat.reduceSub, Nat.reduceLT]; repeat' (first | exact Ok.out | with_reducible refine And.intro ?_ ?_ | (simp; done)))
 | (cases h; replace h := hr; clear hr; (try simp only [bs, ↓reduceIte] at h))
 | (cases h; done))
      refine Sem.re _ _ 3 0 (by rw [hB]; exact Nat.le_of_ble_eq_true rfl) (by rw [hB]; exact Nat.le_of_ble_eq_true rfl) ?_ ?_ (tokens_end hB hQ hLL.symm hl2 (by omega) hp2 hsz hfin)
      · (simp only [go_sem, hlt, hget, hpu, hinc, Int.reduceLE, ↓reduceIte, reduceCtorEq, Nat.reduceEqDiff, Nat.reduceLeDiff, Nat.reduceAdd, Nat.reduceMul, Nat.reduceSub, Nat.reduceLT]; repeat' (first | exact Ok.out | with_reducible refine And.intro ?_ ?_))
      · (simp only [go_sem, hlt, hget, hpu, hinc, Int.reduceLE, ↓reduceIte, reduceCtorEq, Nat.reduceEqDiff, Nat.reduceLeDiff, Nat.reduceAdd, Nat.reduceMul, Nat.reduceSub, Nat.reduceLT]; repeat' (first | exact Ok.out | with_reducible refine And.intro ?_ ?_))
    | cons t rest =>
      obtain ⟨hget, b2, hlt, b4⟩ := drop_cons g1
      have htm := List.mem_of_getElem? hget
      obtain ⟨k1, k2⟩ := hkind t htm
      have ht19 := h19' t htm
      have hk2 : k < 4611686018427387904 := by omega
      have hm := modM_lt n (k := 4) (by omega)
      have hw : IntKind.wrap .i64 (modM n 4 + t.kind) = modM n 4 + t.kind := wrap_ok (by omega) (by omega)
      have f1 := fun s => Mod_s n (k := 4) (by omega) (by omega) s
      have f2 := fun s => Mod_s (modM n 4 + t.kind) (k := 4) (by omega) (by omega) s
      have hm2 := modM_lt (modM n 4 + t.kind) (k := 4) (by omega)
      have hsep : sepM n t = sepI (modM (modM n 4 + t.kind) 4) := rfl
      generalize modM (modM n 4 + t.kind) 4 = mm at *
      have h4 : mm = 0 ∨ mm = 1 ∨ mm = 2 ∨ mm = 3 := by omega
      simp only [gl, atM] at g2 g3
      rw [hsep] at g2 g3
      have hs3 := sepI_len mm
      simp only [List.length_cons] at g4
      have st : SemL Try.prog B 113 Q0V (inBlockQ 0 (thenQ (Sem Try.prog B 113 Q17 Q) Q)) [(1, .int .i64 n), (5, .slice .shared 4 (L.map encTok)), (7, .ptr 1 0), (8, .ptr 2 0), (9, .str (s ++ (t.text ++ sepI mm))), (10, .int .i64 (if t.pos == fat && c != 0 then (s.length : Int) else at')), (32, .slice .shared 4 (L.map encTok)), (33, .int .i64 (L.length : Int)), (34, .int .i64 ((k + 1 : Nat) : Int))] ⟨[[.junk, .junk], encPg p, [.int .i64 c, .int .i64 fat]], []⟩ := by
        refine IH (rest, k + 1, s ++ (t.text ++ sepI mm), if t.pos == fat && c != 0 then (s.length : Int) else at') ⟨b2, ?_, ?_, ?_⟩ (Nat.lt_succ_self _)
        · rw [← g2]; simp only [List.append_assoc]
        · rw [← g3]; simp only [List.length_append]
        · simp only [List.length_append]; omega
      have q1 : t.text.length + (sepI mm).length ≤ maxStr := by unfold maxStr; omega
      have q2 : s.length + (t.text.length + (sepI mm).length) ≤ maxStr := by unfold maxStr; omega
      rcases h4 with rfl | rfl | rfl | rfl
      all_goals
        simp only [sepI, Int.reduceBEq, Bool.false_eq_true, ↓reduceIte, List.length_cons, List.length_nil] at st q1 q2
        cases hp : t.pos == fat
        · rw [hp] at st
          simp only [Bool.false_and, Bool.false_eq_true, ↓reduceIte] at st
          repeat' (first
 | simp only [go_sem, hlt, hget, hpu, hinc, Int.reduceLE, ↓reduceIte, reduceCtorEq, Nat.reduceEqDiff, Nat.reduceLeDiff, Nat.reduceAdd, Nat.reduceMul, Nat.reduceSub, Nat.reduceLT, hp, f1, hw, q1, q2, Int.reduceToNat, Int.reduceLE]
 | (with_reducible refine CU (f1 _) ?_)
 | (with_reducible refine CU (f2 _) ?_)
 | (with_reducible first | refine CB_ofT (by assumption) fun hc => ?_ | refine CB_ofF (by assumption) fun hc => ?_ | refine CB_split (fun hc => ?_) fun hc => ?_) <;> (try simp only [hc, bs, ↓reduceIte] at h) <;> (try simp only [hc])
 | ((with_reducible first | refine leafR hQ ?_ | refine leafN hQ ?_); (try cases h); simp only [resL, oneD, Option.some.injEq, exists_eq_left', go_sem, hlt, hget, hpu, hinc, Int.reduceLE, ↓reduceIte, reduceCtorEq, Nat.reduceEqDiff, Nat.reduceLeDiff, Nat.reduceAdd, Nat.reduceMul, Nat.reduceSub, Nat.reduceLT, hp, f1, hw, q1, q2, Int.reduceToNat, Int.reduceLE]; repeat' (first | exact Ok.out | with_reducible refine And.intro ?_ ?_ | (simp; done)))
 | (cases h; replace h := hr; clear hr; (try simp only [bs, ↓reduceIte] at h))
 | (cases h; done))
          refine SemL.re _ _ 3 0 (by rw [hB]; exact Nat.le_of_ble_eq_true rfl) (by rw [hB]; exact Nat.le_of_ble_eq_true rfl) ?_ ?_ (st)
          · (simp only [go_sem, hlt, hget, hpu, hinc, Int.reduceLE, ↓reduceIte, reduceCtorEq, Nat.reduceEqDiff, Nat.reduceLeDiff, Nat.reduceAdd, Nat.reduceMul, Nat.reduceSub, Nat.reduceLT, wrap_inc hk2]; repeat' (first | exact Ok.out | with_reducible refine And.intro ?_ ?_))
          · (simp only [go_sem, hlt, hget, hpu, hinc, Int.reduceLE, ↓reduceIte, reduceCtorEq, Nat.reduceEqDiff, Nat.reduceLeDiff, Nat.reduceAdd, Nat.reduceMul, Nat.reduceSub, Nat.reduceLT, wrap_inc hk2]; repeat' (first | exact Ok.out | with_reducible refine And.intro ?_ ?_))
        · rw [hp] at st
          cases hcc : c != 0
          · rw [hcc] at st
            simp only [Bool.and_false, Bool.false_eq_true, ↓reduceIte] at st
            repeat' (first
 | simp only [go_sem, hlt, hget, hpu, hinc, Int.reduceLE, ↓reduceIte, reduceCtorEq, Nat.reduceEqDiff, Nat.reduceLeDiff, Nat.reduceAdd, Nat.reduceMul, Nat.reduceSub, Nat.reduceLT, hp, hcc, f1, hw, q1, q2, Int.reduceToNat, Int.reduceLE]
 | (with_reducible refine CU (f1 _) ?_)
 | (with_reducible refine CU (f2 _) ?_)
 | (with_reducible first | refine CB_ofT (by assumption) fun hc => ?_ | refine CB_ofF (by assumption) fun hc => ?_ | refine CB_split (fun hc => ?_) fun hc => ?_) <;> (try simp only [hc, bs, ↓reduceIte] at h) <;> (try simp only [hc])
 | ((with_reducible first | refine leafR hQ ?_ | refine leafN hQ ?_); (try cases h); simp only [resL, oneD, Option.some.injEq, exists_eq_left', go_sem, hlt, hget, hpu, hinc, Int.reduceLE, ↓reduceIte, reduceCtorEq, Nat.reduceEqDiff, Nat.reduceLeDiff, Nat.reduceAdd, Nat.reduceMul, Nat.reduceSub, Nat.reduceLT, hp, hcc, f1, hw, q1, q2, Int.reduceToNat, Int.reduceLE]; repeat' (first | exact Ok.out | with_reducible refine And.intro ?_ ?_ | (simp; done)))
 | (cases h; replace h := hr; clear hr; (try simp only [bs, ↓reduceIte] at h))
 | (cases h; done))
            refine SemL.re _ _ 3 0 (by rw [hB]; exact Nat.le_of_ble_eq_true rfl) (by rw [hB]; exact Nat.le_of_ble_eq_true rfl) ?_ ?_ (st)
            · (simp only [go_sem, hlt, hget, hpu, hinc, Int.reduceLE, ↓reduceIte, reduceCtorEq, Nat.reduceEqDiff, Nat.reduceLeDiff, Nat.reduceAdd, Nat.reduceMul, Nat.reduceSub, Nat.reduceLT, wrap_inc hk2]; repeat' (first | exact Ok.out | with_reducible refine And.intro ?_ ?_))
            · (simp only [go_sem, hlt, hget, hpu, hinc, Int.reduceLE, ↓reduceIte, reduceCtorEq, Nat.reduceEqDiff, Nat.reduceLeDiff, Nat.reduceAdd, Nat.reduceMul, Nat.reduceSub, Nat.reduceLT, wrap_inc hk2]; repeat' (first | exact Ok.out | with_reducible refine And.intro ?_ ?_))
          · rw [hcc] at st
            simp only [Bool.and_self, ↓reduceIte] at st
            repeat' (first
 | simp only [go_sem, hlt, hget, hpu, hinc, Int.reduceLE, ↓reduceIte, reduceCtorEq, Nat.reduceEqDiff, Nat.reduceLeDiff, Nat.reduceAdd, Nat.reduceMul, Nat.reduceSub, Nat.reduceLT, hp, hcc, f1, hw, q1, q2, Int.reduceToNat, Int.reduceLE]
 | (with_reducible refine CU (f1 _) ?_)
 | (with_reducible refine CU (f2 _) ?_)
 | (with_reducible first | refine CB_ofT (by assumption) fun hc => ?_ | refine CB_ofF (by assumption) fun hc => ?_ | refine CB_split (fun hc => ?_) fun hc => ?_) <;> (try simp only [hc, bs, ↓reduceIte] at h) <;> (try simp only [hc])
 | ((with_reducible first | refine leafR hQ ?_ | refine leafN hQ ?_); (try cases h); simp only [resL, oneD, Option.some.injEq, exists_eq_left', go_sem, hlt, hget, hpu, hinc, Int.reduceLE, ↓reduceIte, reduceCtorEq, Nat.reduceEqDiff, Nat.reduceLeDiff, Nat.reduceAdd, Nat.reduceMul, Nat.reduceSub, Nat.reduceLT, hp, hcc, f1, hw, q1, q2, Int.reduceToNat, Int.reduceLE]; repeat' (first | exact Ok.out | with_reducible refine And.intro ?_ ?_ | (simp; done)))
 | (cases h; replace h := hr; clear hr; (try simp only [bs, ↓reduceIte] at h))
 | (cases h; done))
            refine SemL.re _ _ 3 0 (by rw [hB]; exact Nat.le_of_ble_eq_true rfl) (by rw [hB]; exact Nat.le_of_ble_eq_true rfl) ?_ ?_ (st)
            · (simp only [go_sem, hlt, hget, hpu, hinc, Int.reduceLE, ↓reduceIte, reduceCtorEq, Nat.reduceEqDiff, Nat.reduceLeDiff, Nat.reduceAdd, Nat.reduceMul, Nat.reduceSub, Nat.reduceLT, wrap_inc hk2]; repeat' (first | exact Ok.out | with_reducible refine And.intro ?_ ?_))
            · (simp only [go_sem, hlt, hget, hpu, hinc, Int.reduceLE, ↓reduceIte, reduceCtorEq, Nat.reduceEqDiff, Nat.reduceLeDiff, Nat.reduceAdd, Nat.reduceMul, Nat.reduceSub, Nat.reduceLT, wrap_inc hk2]; repeat' (first | exact Ok.out | with_reducible refine And.intro ?_ ?_))
  · have c0 : ((lexAll (cutM text)).2.1 != 0) = true := by simpa using h0
    refine Fun.go has_law4_ParseTokens rfl fun B Q hB hQ => ?_
    have hlt : 0 < 1 := Nat.zero_lt_one
    have hget : 0 < 1 := Nat.zero_lt_one
    have hpu : 0 < 1 := Nat.zero_lt_one
    have hinc : 0 < 1 := Nat.zero_lt_one
    repeat' (first
 | simp only [go_sem, hlt, hget, hpu, hinc, Int.reduceLE, ↓reduceIte, reduceCtorEq, Nat.reduceEqDiff, Nat.reduceLeDiff, Nat.reduceAdd, Nat.reduceMul, Nat.reduceSub, Nat.reduceLT, c0]
 | (with_reducible refine CU (parsed_0 _) ?_)
 | (with_reducible refine CU (Cut_s _ _) ?_)
 | (with_reducible refine CU (hlex _) ?_)
 | (with_reducible first | refine CB_ofT (by assumption) fun hc => ?_ | refine CB_ofF (by assumption) fun hc => ?_ | refine CB_split (fun hc => ?_) fun hc => ?_) <;> (try simp only [hc, bs, ↓reduceIte] at h) <;> (try simp only [hc])
 | ((with_reducible first | refine leafR hQ ?_ | refine leafN hQ ?_); (try cases h); simp only [resL, oneD, Option.some.injEq, exists_eq_left', go_sem, hlt, hget, hpu, hinc, Int.reduceLE, ↓reduceIte, reduceCtorEq, Nat.reduceEqDiff, Nat.reduceLeDiff, Nat.reduceAdd, Nat.reduceMul, Nat.reduceSub, Nat.reduceLT, c0]; repeat' (first | exact Ok.out | with_reducible refine And.intro ?_ ?_ | (simp; done)))
 | (cases h; replace h := hr; clear hr; (try simp only [bs, ↓reduceIte] at h))
 | (cases h; done))

end Go.Abs

/-! ParseTokens -/

namespace Go.Proofs.Ytecpopiacpckiaa.parseTokens
open Go.ChangeShapes Go.WideShapes Go.ChangeAt Go.RowKit Go.Abs
set_option linter.unusedVariables false

theorem own : ownKnob Try.prog.godebug = none := by kernel_rfl
theorem kids : Kids Try.prog (· < Try.prog.types.size) := kids_rows (by kernel_rfl) (by kernel_rfl)
theorem full : ∀ {t e : TypeId}, t < Try.prog.types.size → Try.prog.underlying t = some (.slice e) → 0 < Try.prog.cellsOf e := fun {t e} => slices_full_of Try.prog (by kernel_rfl) t e

theorem walk (w : World) (x0 : ByteArray) (x1 : Int) : Calls Try.prog 6 #[.string x0, .int .i64 x1] w fun e w' => e = .returned (.bool true) ∧ Kept w w' := by
  refine law_run (args := [.str x0.data.toList, .int .i64 x1]) ((ParseTokens_true x0.data.toList x1).mono fun _ _ h => h.1) rfl ?_
  intro i d v h1 h2
  match i, h1, h2 with
  | 0, h1, h2 => simp at h1 h2; subst h1 h2; exact RD.str _
  | 1, h1, h2 => simp at h1 h2; subst h1 h2; exact RD.int _ _

set_option maxRecDepth 100000 in
theorem lifted (os : Os) (started : os.Started) (H : Type) (enc : TypeId × Value → H) :
    ReturnsInHanded {} Try.checked os 6 .any (Rows.parseTokensSpec.pre6 enc Try.prog Try.f6 Rows.parseTokensRow.domain false) (Rows.parseTokensSpec.post enc Try.prog Try.f6 false true false false) := by
  refine returnsInHanded_of_change (C := Try.checked) own started (by kernel_rfl) Try.func6
    (ChangeSpec.witness6 (enc := enc) (C := Try.checked) false ⟨#[], #[.string ⟨#[]⟩, .int .i64 0], []⟩ 8 (by kernel_rfl) (by kernel_rfl) (by kernel_rfl) (by kernel_rfl)) ?_
  intro W base args ds gs before hval0 hW hcnd _
  have hval : ∀ (j : Nat) t v, Try.f6.params[j]? = some t → args[j]? = some v → Value.okWide Try.prog W .any base t v := hval0
  have hW' := hW
  obtain ⟨p, q, hA0, hV, rfl, hfz, hnd⟩ := hW
  have hA : DataW.TrodAll enc Try.prog W 0 (fun _ => true) true Try.f6.params.toList args.toList ds p := hA0
  rw [Try.params6] at hA hval
  obtain ⟨v0, v1, d0, d1, p0, p1, rfl, rfl, rfl, hd0, hd1⟩ := trodAll_two hA
  obtain ⟨x0, rfl, rfl, rfl, _⟩ := Go.ChangeMaps.open_string Try.underlying9 (hval 0 _ _ rfl rfl) hd0
  obtain ⟨x1, rfl, rfl, rfl, _⟩ := open_int Try.underlying3 (hval 1 _ _ rfl rfl) hd1
  obtain ⟨rfl, rfl⟩ := trodVars_none hV
  refine (walk W x0 x1).mono fun e W' ⟨he, hg⟩ => ?_
  subst he
  exact ⟨_, rfl, law_post kids full (by rw [Try.params6]; decide) Try.underlying4 (by kernel_rfl) rfl hW' rfl hg⟩

theorem over : Rows.parseTokensRow.holds Try.pinned (OpenSpec.ofChange Rows.parseTokensSpec) :=
  OpenClaim.holds_of_wide 6 Try.f6 rfl rfl rfl rfl rfl rfl rfl ⟨rfl, rfl, rfl, rfl, rfl⟩ rfl rfl rfl rfl rfl (by kernel_rfl) Try.func6 (by kernel_rfl)
    (of_decide_eq_true (by kernel_rfl)) (by unfold Func.isWrapper; first | (rw [if_pos (by decide +kernel)]; kernel_rfl) | (rw [if_neg (by decide +kernel)]; exact ⟨rfl, rfl⟩))
    (fun os started H enc _ => lifted os started H enc)

theorem proved : Rows.ParseTokensSaid :=
  over
#print axioms proved
end Go.Proofs.Ytecpopiacpckiaa.parseTokens
