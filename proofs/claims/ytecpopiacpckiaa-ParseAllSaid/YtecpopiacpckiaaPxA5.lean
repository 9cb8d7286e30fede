/-
  What is proved here: the statement ParseAllSaid: whatever the text, the law, called, gives true, and of what was there nothing turns.
  No conditions.
-/
import Derived.Test.YtecpopiacpckiaaPxA4
import Derived.RowKit3
import Derived.Test.YtecpopiacpckiaaRows
import Derived.WalkKit
import Derived.ProofKit
import Derived.OpenShut
import Derived.ShutString
import Derived.ChangeMaps5

/-! Ref9 -/

namespace Go.Abs

set_option maxRecDepth 8000
set_option linter.unusedSimpArgs false
set_option linter.unusedVariables false
open Go.Proofs

theorem C_all (m : Nat) : ∀ n, C_rblk m n ∧ C_rstmt m n := by
  intro n
  induction n using Nat.strongRecOn with
  | ind n ih =>
    refine ⟨?_, ?_⟩
    · cases n with
      | zero => intro k z _ r r1 p h1 h; simp only [Rd.rows] at h; cases h
      | succ n =>
        intro k z _ r r1 p h1 h hT hz hN s o ho
        exact Fun.meth (rblk_false (fun j hj => (ih j (by omega)).2) h1 h hT hz hN) rfl (okRc _ r) (okRc _ p.2) (by simp [D.ok, D.oks, okrSm, okrStr, Tag.ok]) ho
    · cases n with
      | zero => intro nest labels r p h; simp only [Rd.stmt] at h; cases h
      | succ n => exact rstmt_step fun j hj => (ih j (by omega)).1

theorem rbody_s {m n : Nat} {k : Int} {z : D} [Cell z] {r : Rd} {p : (List Sm × List Str) × Rd} (h : Rd.rows m n k true r = some p) (hT : TW r.l) (hz : r.good = true → z = .int .i64 r.n) (hN : r.good = true → r.n ≤ 200)
    {s : St} {o : Nat} (ho : s.objs[o]? = some (encRc z r)) :
    Fun Try.prog n_ref3_P_block [.ptr o 0, .int .i64 k, .bool true] s (.tuple [.slice .shared 13 ((Sm.nums true r.n p.1.1).1.map encSm), .slice .shared 1 (p.1.2.map encStr)]) ⟨s.objs.set o (encRc (cN p.2) p.2), s.toks⟩ := by
  cases n with
  | zero => simp only [Rd.rows] at h; cases h
  | succ n => exact Fun.meth (rblk_true (fun j _ => (C_all m j).2) h hT hz hN) rfl (okRc _ r) (okRc _ p.2) (by simp [D.ok, D.oks, okrSm, okrStr, Tag.ok]) ho

theorem Plist_s {z : D} [Cell z] {n : Nat} {l : List Str} {most : Int} {r : Rd} {p : List Str × Rd} (h : Rd.names n l most r = some p) (hg : r.good = true) {s : St} {o t : Nat} (ho : s.objs[o]? = some (encRc z r)) (ht : s.toks[t]? = some (some l.length)) :
    Fun Try.prog n_ref3_P_list [.ptr o 0, .slice (.tok t) 1 (l.map encStr), .int .i64 most] s (.slice (.tok t) 1 (p.1.map encStr)) ⟨s.objs.set o (encRc z p.2), s.toks.set t (some p.1.length)⟩ :=
  (Plist_0 h hg).methT rfl (okRc z r) (okRc z p.2) (okrStr l) (okrStr p.1) ho ht

theorem name_good {r : Rd} {room : Bool} {p : Str × Rd} (h : r.name room = some p) (hg : p.2.good = true) : room = true := by
  unfold Rd.name at h
  rw [Option.bind_eq_some_iff] at h
  obtain ⟨t, h1, h⟩ := h
  split at h
  · rw [Option.bind_eq_some_iff] at h
    obtain ⟨r', h2, h⟩ := h
    have := (bad_b r (by decide) _ h2).2
    cases h
    rw [this] at hg; cases hg
  · cases room
    · simp only [Bool.not_false, ↓reduceIte] at h
      rw [Option.bind_eq_some_iff] at h
      obtain ⟨r', h2, h⟩ := h
      have := (bad_b r (by decide) _ h2).2
      cases h
      rw [this] at hg; cases hg
    · rfl

theorem name_f {r : Rd} (hg : r.good = false) (room : Bool) {t : Tok} (ht : r.peek = some t) : r.name room = some ([], r) := by
  simp only [Rd.name, ht, Option.bind_some, hg, Bool.not_false, Bool.true_or, ↓reduceIte, bad_f hg]

/-- A procedure, as the documents read it. -/
def Rd.procM (m : Nat) (r : Rd) : Option (Pc × Rd) :=
  (r.name true).bind fun x => (x.2.want [40]).bind fun r => (r.take [41]).bind fun q =>
    if q.1 then (q.2.want [123]).bind fun r => Rd.procB m x.1 [] r
    else if q.2.good then (Rd.params m [] q.2).bind fun y => (y.2.want [41]).bind fun r => (r.want [123]).bind fun r => Rd.procB m x.1 y.1 r
    else Rd.procB m x.1 [] q.2

theorem proc_M {m : Nat} {r : Rd} {p : Pc × Rd} (h : Rd.proc m r = some p) : Rd.procM m r = some p := by
  unfold Rd.proc Rd.other at h
  unfold Rd.procM
  rw [Option.bind_eq_some_iff] at h
  obtain ⟨x, h1, h⟩ := h
  rw [h1, Option.bind_some]
  rw [Option.bind_eq_some_iff] at h
  obtain ⟨r1, h2, h⟩ := h
  rw [h2, Option.bind_some]
  cases hg : r1.good
  · simp only [hg, Bool.false_eq_true, ↓reduceIte, Option.bind_some, want_f hg] at h
    simp only [take_f hg, Option.bind_some, hg, Bool.false_eq_true, ↓reduceIte]
    exact h
  · simp only [hg, ↓reduceIte] at h
    rw [Option.bind_assoc, Option.bind_eq_some_iff] at h
    obtain ⟨c, h3, h⟩ := h
    cases c
    · have ht : r1.take [41] = some (false, r1) := by simp [Rd.take, hg, h3]
      simp only [Bool.not_false, Option.bind_some, ↓reduceIte] at h
      simp only [ht, Option.bind_some, Bool.false_eq_true, ↓reduceIte, hg]
      exact h
    · have ht : r1.take [41] = some (true, { r1 with i := r1.i + 1 }) := by simp [Rd.take, hg, h3]
      simp only [Bool.not_true, Option.bind_some, Bool.false_eq_true, ↓reduceIte, Rd.want, ht] at h
      simp only [ht, Option.bind_some, ↓reduceIte]
      exact h

theorem rproc_vars {m : Nat} {z : D} [Cell z] {B : Base} {Q : Exit → Tm → St → Prop} {row : List D} {name : Str} {p : Pc × Rd} {n0 : Nat} (hB : B.s = ⟨[row], []⟩)
    (hQ : retF 1 0 [(2, some (true, 5))] (.agg (encPc { p.1 with body := (Sm.nums true n0 p.1.body).1 })) ⟨[encRc (cN p.2) p.2], []⟩ = Q)
    (ps : List Pm) (r : Rd) (h : Rd.procB m name ps r = some p) (hT : TW r.l) (hz : r.good = true → z = .int .i64 r.n) (hN : r.good = true → r.n ≤ 200) (hn : r.n = n0) :
    SemL Try.prog B 85 QFP (inBlockQ 2 (thenQ (wpC Try.prog B 85 QFV Q) Q)) [(0, .ptr 0 0), (2, .ptr 1 0), (3, .ptr 2 0)]
      ⟨[encRc z r, [.str [], .slice .full 0 [], .slice .full 0 [], .slice .full 0 [], .slice .full 0 []], [.str name, .slice .shared 2 (ps.map encPm), .slice .full 0 [], .slice .full 0 [], .slice .full 0 []]], []⟩ := by
  have hlt : 0 < 1 := Nat.zero_lt_one
  have hget : 0 < 1 := Nat.zero_lt_one
  have hpu : 0 < 1 := Nat.zero_lt_one
  have hinc : 0 < 1 := Nat.zero_lt_one
  unfold Rd.procB at h
  rw [Option.bind_eq_some_iff] at h
  obtain ⟨q, h, hr⟩ := h
  rw [Option.bind_eq_some_iff] at hr
  obtain ⟨b, hb, hr⟩ := hr
  cases hr
  refine SemL.tokO 2 2 1 rfl rfl ?_
  simp only [go_sem, hlt, hget, hpu, hinc, Int.reduceLE, ↓reduceIte, reduceCtorEq, Nat.reduceEqDiff, Nat.reduceLeDiff, Nat.reduceAdd, Nat.reduceMul, Nat.reduceSub, Nat.reduceLT]
  refine SemL.re _ _ 3 1 (by rw [hB]; exact Nat.le_of_ble_eq_true rfl) (by rw [hB]; exact Nat.le_of_ble_eq_true rfl) ?_ ?_ (SemL.ind (ι := Nat × List Str × Rd × Nat) (fun i => Rd.vars m i.1 i.2.1 i.2.2.1 = some q ∧ i.2.2.2 = i.2.1.length ∧ Keep r i.2.2.1) (fun i => i.1)
    (fun i => [(0, .ptr 0 0), (2, .ptr 1 0), (3, .ptr 2 0)]) (fun i => ⟨[encRc z i.2.2.1, [.str [], .slice .full 0 [], .slice .full 0 [], .slice .full 0 [], .slice .full 0 []], [.str name, .slice .shared 2 (ps.map encPm), .slice (.tok 0) 1 (i.2.1.map encStr), .slice .full 0 [], .slice .full 0 []]], [some i.2.2.2]⟩) ?_ (m, [], r, 0) ⟨h, rfl, Keep.refl r⟩)
  · (simp only [go_sem, hlt, hget, hpu, hinc, Int.reduceLE, ↓reduceIte, reduceCtorEq, Nat.reduceEqDiff, Nat.reduceLeDiff, Nat.reduceAdd, Nat.reduceMul, Nat.reduceSub, Nat.reduceLT]; repeat' (first | exact Ok.out | with_reducible refine And.intro ?_ ?_))
  · (simp only [go_sem, hlt, hget, hpu, hinc, Int.reduceLE, ↓reduceIte, reduceCtorEq, Nat.reduceEqDiff, Nat.reduceLeDiff, Nat.reduceAdd, Nat.reduceMul, Nat.reduceSub, Nat.reduceLT]; repeat' (first | exact Ok.out | with_reducible refine And.intro ?_ ?_))
  rintro ⟨n, l, r2, k⟩ ⟨h, hk, hkp⟩ IH
  dsimp only at hk hkp; subst hk
  cases n with
  | zero => simp only [Rd.vars] at h; cases h
  | succ n =>
    simp only [Rd.vars] at h
    rw [Option.bind_eq_some_iff] at h
    obtain ⟨c, hc, h⟩ := h
    have kc := take_k hkp _ _ hc
    have tk := fun {z : D} [Cell z] {s : St} {o : Nat} (ho : s.objs[o]? = some (encRc z r2)) => Ptake_s hc ho
    cases hc1 : c.1
    · simp only [hc1, Bool.false_eq_true, ↓reduceIte] at h
      cases h
      have bd := fun {s : St} {o : Nat} (ho : s.objs[o]? = some (encRc z c.2)) => rbody_s (z := z) hb (by rw [kc.l]; exact hT) (fun g => by rw [kc.n]; exact hz (kc.g g)) (fun g => by rw [kc.n]; exact hN (kc.g g)) ho
      have e : c.2.n = n0 := kc.n.trans hn
      dsimp only at bd
      rw [e] at bd
      repeat' (first
 | simp only [go_sem, hlt, hget, hpu, hinc, Int.reduceLE, ↓reduceIte, reduceCtorEq, Nat.reduceEqDiff, Nat.reduceLeDiff, Nat.reduceAdd, Nat.reduceMul, Nat.reduceSub, Nat.reduceLT, hc1]
 | (with_reducible refine CU (tk (by with_unfolding_all rfl)) ?_)
 | (with_reducible refine CU (bd (by with_unfolding_all rfl)) ?_)
 | (with_reducible first | refine CB_ofT (by assumption) fun hc => ?_ | refine CB_ofF (by assumption) fun hc => ?_ | refine CB_split (fun hc => ?_) fun hc => ?_) <;> (try simp only [hc, bs, ↓reduceIte] at h) <;> (try simp only [hc])
 | ((with_reducible first | refine leafR hQ ?_ | refine leafN hQ ?_); (try cases h); simp only [resL, oneD, Option.some.injEq, exists_eq_left', go_sem, hlt, hget, hpu, hinc, Int.reduceLE, ↓reduceIte, reduceCtorEq, Nat.reduceEqDiff, Nat.reduceLeDiff, Nat.reduceAdd, Nat.reduceMul, Nat.reduceSub, Nat.reduceLT, hc1]; repeat' (first | exact Ok.out | with_reducible refine And.intro ?_ ?_ | (simp; done)))
 | (cases h; replace h := hr; clear hr; (try simp only [bs, ↓reduceIte] at h))
 | (cases h; done))
    · simp only [hc1, ↓reduceIte] at h
      have hcg := (take_good hc hc1).1
      rw [Option.bind_eq_some_iff] at h
      obtain ⟨x, hx, h⟩ := h
      have ls := fun {s : St} {o t : Nat} (ho : s.objs[o]? = some (encRc z c.2)) (ht : s.toks[t]? = some (some l.length)) => Plist_s hx hcg ho ht
      repeat' (first
 | simp only [go_sem, hlt, hget, hpu, hinc, Int.reduceLE, ↓reduceIte, reduceCtorEq, Nat.reduceEqDiff, Nat.reduceLeDiff, Nat.reduceAdd, Nat.reduceMul, Nat.reduceSub, Nat.reduceLT, hc1]
 | (with_reducible refine CU (tk (by with_unfolding_all rfl)) ?_)
 | (with_reducible refine CU (ls (by with_unfolding_all rfl) (by with_unfolding_all rfl)) ?_)
 | (with_reducible first | refine CB_ofT (by assumption) fun hc => ?_ | refine CB_ofF (by assumption) fun hc => ?_ | refine CB_split (fun hc => ?_) fun hc => ?_) <;> (try simp only [hc, bs, ↓reduceIte] at h) <;> (try simp only [hc])
 | ((with_reducible first | refine leafR hQ ?_ | refine leafN hQ ?_); (try cases h); simp only [resL, oneD, Option.some.injEq, exists_eq_left', go_sem, hlt, hget, hpu, hinc, Int.reduceLE, ↓reduceIte, reduceCtorEq, Nat.reduceEqDiff, Nat.reduceLeDiff, Nat.reduceAdd, Nat.reduceMul, Nat.reduceSub, Nat.reduceLT, hc1]; repeat' (first | exact Ok.out | with_reducible refine And.intro ?_ ?_ | (simp; done)))
 | (cases h; replace h := hr; clear hr; (try simp only [bs, ↓reduceIte] at h))
 | (cases h; done))
      refine SemL.re _ _ 3 1 (by rw [hB]; exact Nat.le_of_ble_eq_true rfl) (by rw [hB]; exact Nat.le_of_ble_eq_true rfl) ?_ ?_ (IH (n, _, _, _) ⟨h, rfl, names_k _ _ _ kc _ hx⟩ (Nat.lt_succ_self _))
      · (simp only [go_sem, hlt, hget, hpu, hinc, Int.reduceLE, ↓reduceIte, reduceCtorEq, Nat.reduceEqDiff, Nat.reduceLeDiff, Nat.reduceAdd, Nat.reduceMul, Nat.reduceSub, Nat.reduceLT]; repeat' (first | exact Ok.out | with_reducible refine And.intro ?_ ?_))
      · (simp only [go_sem, hlt, hget, hpu, hinc, Int.reduceLE, ↓reduceIte, reduceCtorEq, Nat.reduceEqDiff, Nat.reduceLeDiff, Nat.reduceAdd, Nat.reduceMul, Nat.reduceSub, Nat.reduceLT]; repeat' (first | exact Ok.out | with_reducible refine And.intro ?_ ?_))

set_option maxHeartbeats 2000000 in
theorem rproc_0 {m : Nat} {z : D} [Cell z] {r : Rd} {p : Pc × Rd} (h : Rd.proc m r = some p) (hT : TW r.l) (hz : r.good = true → z = .int .i64 r.n) (hN : r.good = true → r.n ≤ 200) :
    Fun Try.prog n_ref3_P_proc [.ptr 0 0] ⟨[encRc z r], []⟩ (.agg (encPc { p.1 with body := (Sm.nums true r.n p.1.body).1 })) ⟨[encRc (cN p.2) p.2], []⟩ := by
  replace h := proc_M h
  unfold Rd.procM at h
  rw [Option.bind_eq_some_iff] at h
  obtain ⟨x, hx, h⟩ := h
  have kx := name_k (Keep.refl r) _ _ hx
  rw [Option.bind_eq_some_iff] at h
  obtain ⟨r1, h1, h⟩ := h
  have k1 := want_k kx _ _ h1
  rw [Option.bind_eq_some_iff] at h
  obtain ⟨q, hq, h⟩ := h
  have kq := take_k k1 _ _ hq
  have fin : ∀ {r2 : Rd} {ps : List Pm}, Keep r r2 → Rd.procB m x.1 ps r2 = some p → ∀ {B : Base} {Q : Exit → Tm → St → Prop} {row : List D}, B.s = ⟨[row], []⟩ →
      retF 1 0 [(2, some (true, 5))] (.agg (encPc { p.1 with body := (Sm.nums true r.n p.1.body).1 })) ⟨[encRc (cN p.2) p.2], []⟩ = Q →
      SemL Try.prog B 85 QFP (inBlockQ 2 (thenQ (wpC Try.prog B 85 QFV Q) Q)) [(0, .ptr 0 0), (2, .ptr 1 0), (3, .ptr 2 0)]
        ⟨[encRc z r2, [.str [], .slice .full 0 [], .slice .full 0 [], .slice .full 0 [], .slice .full 0 []], [.str x.1, .slice .shared 2 (ps.map encPm), .slice .full 0 [], .slice .full 0 [], .slice .full 0 []]], []⟩ :=
    by
    intro r2 ps k hp B Q row hB hQ
    exact rproc_vars hB hQ _ _ hp (by rw [k.l]; exact hT) (fun g => by rw [k.n]; exact hz (k.g g)) (fun g => by rw [k.n]; exact hN (k.g g)) k.n
  have nm := fun {z : D} [Cell z] {s : St} {o : Nat} (ho : s.objs[o]? = some (encRc z r)) => Pname_s (full := false) hx rfl ho
  have wa := fun {z : D} [Cell z] {s : St} {o : Nat} (ho : s.objs[o]? = some (encRc z x.2)) => Pwant_s h1 ho
  have tk := fun {z : D} [Cell z] {s : St} {o : Nat} (ho : s.objs[o]? = some (encRc z r1)) => Ptake_s hq ho
  cases hq1 : q.1
  · simp only [hq1, Bool.false_eq_true, ↓reduceIte] at h
    cases hg : q.2.good
    · simp only [hg, Bool.false_eq_true, ↓reduceIte] at h
      have wf := fun (w : Str) {s : St} {o : Nat} (ho : s.objs[o]? = some (encRc z q.2)) => Pwant_s (want_f hg w) ho
      refine Fun.go has_ref3_P_proc rfl fun B Q hB hQ => ?_
      have hlt : 0 < 1 := Nat.zero_lt_one
      have hget : 0 < 1 := Nat.zero_lt_one
      have hpu : 0 < 1 := Nat.zero_lt_one
      have hinc : 0 < 1 := Nat.zero_lt_one
      repeat' (first
 | simp only [go_sem, hlt, hget, hpu, hinc, Int.reduceLE, ↓reduceIte, reduceCtorEq, Nat.reduceEqDiff, Nat.reduceLeDiff, Nat.reduceAdd, Nat.reduceMul, Nat.reduceSub, Nat.reduceLT, hq1]
 | (with_reducible refine CU (nm (by with_unfolding_all rfl)) ?_)
 | (with_reducible refine CU (wa (by with_unfolding_all rfl)) ?_)
 | (with_reducible refine CU (tk (by with_unfolding_all rfl)) ?_)
 | (with_reducible first | refine CB_ofT (by assumption) fun hc => ?_ | refine CB_ofF (by assumption) fun hc => ?_ | refine CB_split (fun hc => ?_) fun hc => ?_) <;> (try simp only [hc, bs, ↓reduceIte] at h) <;> (try simp only [hc])
 | ((with_reducible first | refine leafR hQ ?_ | refine leafN hQ ?_); (try cases h); simp only [resL, oneD, Option.some.injEq, exists_eq_left', go_sem, hlt, hget, hpu, hinc, Int.reduceLE, ↓reduceIte, reduceCtorEq, Nat.reduceEqDiff, Nat.reduceLeDiff, Nat.reduceAdd, Nat.reduceMul, Nat.reduceSub, Nat.reduceLT, hq1]; repeat' (first | exact Ok.out | with_reducible refine And.intro ?_ ?_ | (simp; done)))
 | (cases h; replace h := hr; clear hr; (try simp only [bs, ↓reduceIte] at h))
 | (cases h; done))
      refine SemL.onceW ?_
      repeat' (first
 | simp only [go_sem, hlt, hget, hpu, hinc, Int.reduceLE, ↓reduceIte, reduceCtorEq, Nat.reduceEqDiff, Nat.reduceLeDiff, Nat.reduceAdd, Nat.reduceMul, Nat.reduceSub, Nat.reduceLT, hg]
 | (with_reducible refine CU (Pok_s (by with_unfolding_all rfl)) ?_)
 | (with_reducible refine CU (wf _ (by with_unfolding_all rfl)) ?_)
 | (with_reducible first | refine CB_ofT (by assumption) fun hc => ?_ | refine CB_ofF (by assumption) fun hc => ?_ | refine CB_split (fun hc => ?_) fun hc => ?_) <;> (try simp only [hc, bs, ↓reduceIte] at h) <;> (try simp only [hc])
 | ((with_reducible first | refine leafR hQ ?_ | refine leafN hQ ?_); (try cases h); simp only [resL, oneD, Option.some.injEq, exists_eq_left', go_sem, hlt, hget, hpu, hinc, Int.reduceLE, ↓reduceIte, reduceCtorEq, Nat.reduceEqDiff, Nat.reduceLeDiff, Nat.reduceAdd, Nat.reduceMul, Nat.reduceSub, Nat.reduceLT, hg]; repeat' (first | exact Ok.out | with_reducible refine And.intro ?_ ?_ | (simp; done)))
 | (cases h; replace h := hr; clear hr; (try simp only [bs, ↓reduceIte] at h))
 | (cases h; done))
      refine SemL.re _ _ 3 0 (by rw [hB]; exact Nat.le_of_ble_eq_true rfl) (by rw [hB]; exact Nat.le_of_ble_eq_true rfl) ?_ ?_ (fin (ps := []) kq h hB hQ)
      · (simp only [go_sem, hlt, hget, hpu, hinc, Int.reduceLE, ↓reduceIte, reduceCtorEq, Nat.reduceEqDiff, Nat.reduceLeDiff, Nat.reduceAdd, Nat.reduceMul, Nat.reduceSub, Nat.reduceLT]; repeat' (first | exact Ok.out | with_reducible refine And.intro ?_ ?_))
      · (simp only [go_sem, hlt, hget, hpu, hinc, Int.reduceLE, ↓reduceIte, reduceCtorEq, Nat.reduceEqDiff, Nat.reduceLeDiff, Nat.reduceAdd, Nat.reduceMul, Nat.reduceSub, Nat.reduceLT]; repeat' (first | exact Ok.out | with_reducible refine And.intro ?_ ?_))
    · simp only [hg, ↓reduceIte] at h
      refine Fun.go has_ref3_P_proc rfl fun B Q hB hQ => ?_
      have hlt : 0 < 1 := Nat.zero_lt_one
      have hget : 0 < 1 := Nat.zero_lt_one
      have hpu : 0 < 1 := Nat.zero_lt_one
      have hinc : 0 < 1 := Nat.zero_lt_one
      rw [Option.bind_eq_some_iff] at h
      obtain ⟨y, hy, h⟩ := h
      rw [Option.bind_eq_some_iff] at h
      obtain ⟨r3, h3, h⟩ := h
      rw [Option.bind_eq_some_iff] at h
      obtain ⟨r4, h4, h⟩ := h
      have wb := fun {z : D} [Cell z] {s : St} {o : Nat} (ho : s.objs[o]? = some (encRc z y.2)) => Pwant_s h3 ho
      have wc := fun {z : D} [Cell z] {s : St} {o : Nat} (ho : s.objs[o]? = some (encRc z r3)) => Pwant_s h4 ho
      repeat' (first
 | simp only [go_sem, hlt, hget, hpu, hinc, Int.reduceLE, ↓reduceIte, reduceCtorEq, Nat.reduceEqDiff, Nat.reduceLeDiff, Nat.reduceAdd, Nat.reduceMul, Nat.reduceSub, Nat.reduceLT, hq1]
 | (with_reducible refine CU (nm (by with_unfolding_all rfl)) ?_)
 | (with_reducible refine CU (wa (by with_unfolding_all rfl)) ?_)
 | (with_reducible refine CU (tk (by with_unfolding_all rfl)) ?_)
 | (with_reducible first | refine CB_ofT (by assumption) fun hc => ?_ | refine CB_ofF (by assumption) fun hc => ?_ | refine CB_split (fun hc => ?_) fun hc => ?_) <;> (try simp only [hc, bs, ↓reduceIte] at h) <;> (try simp only [hc])
 | ((with_reducible first | refine leafR hQ ?_ | refine leafN hQ ?_); (try cases h); simp only [resL, oneD, Option.some.injEq, exists_eq_left', go_sem, hlt, hget, hpu, hinc, Int.reduceLE, ↓reduceIte, reduceCtorEq, Nat.reduceEqDiff, Nat.reduceLeDiff, Nat.reduceAdd, Nat.reduceMul, Nat.reduceSub, Nat.reduceLT, hq1]; repeat' (first | exact Ok.out | with_reducible refine And.intro ?_ ?_ | (simp; done)))
 | (cases h; replace h := hr; clear hr; (try simp only [bs, ↓reduceIte] at h))
 | (cases h; done))
      refine SemL.tokO 2 1 2 rfl rfl ?_
      simp only [go_sem, hlt, hget, hpu, hinc, Int.reduceLE, ↓reduceIte, reduceCtorEq, Nat.reduceEqDiff, Nat.reduceLeDiff, Nat.reduceAdd, Nat.reduceMul, Nat.reduceSub, Nat.reduceLT]
      refine SemL.re _ _ 3 1 (by rw [hB]; exact Nat.le_of_ble_eq_true rfl) (by rw [hB]; exact Nat.le_of_ble_eq_true rfl) ?_ ?_ (SemL.ind (ι := Nat × List Pm × Rd × Nat) (fun i => Rd.params i.1 i.2.1 i.2.2.1 = some y ∧ i.2.2.2 = i.2.1.length ∧ Keep r i.2.2.1 ∧ i.2.2.1.good = true ∧ i.2.1.length ≤ 8) (fun i => i.1)
        (fun i => [(0, .ptr 0 0), (2, .ptr 1 0), (3, .ptr 2 0)]) (fun i => ⟨[encRc z i.2.2.1, [.str [], .slice .full 0 [], .slice .full 0 [], .slice .full 0 [], .slice .full 0 []], [.str x.1, .slice (.tok 0) 2 (i.2.1.map encPm), .slice .full 0 [], .slice .full 0 [], .slice .full 0 []]], [some i.2.2.2]⟩) ?_ (m, [], q.2, 0) ⟨hy, rfl, kq, hg, Nat.zero_le _⟩)
      · (simp only [go_sem, hlt, hget, hpu, hinc, Int.reduceLE, ↓reduceIte, reduceCtorEq, Nat.reduceEqDiff, Nat.reduceLeDiff, Nat.reduceAdd, Nat.reduceMul, Nat.reduceSub, Nat.reduceLT]; repeat' (first | exact Ok.out | with_reducible refine And.intro ?_ ?_))
      · (simp only [go_sem, hlt, hget, hpu, hinc, Int.reduceLE, ↓reduceIte, reduceCtorEq, Nat.reduceEqDiff, Nat.reduceLeDiff, Nat.reduceAdd, Nat.reduceMul, Nat.reduceSub, Nat.reduceLT]; repeat' (first | exact Ok.out | with_reducible refine And.intro ?_ ?_))
      rintro ⟨n, l, r2, k⟩ ⟨hy, hk, hkp, hg2, hlen⟩ IH
      dsimp only at hk hkp hg2 hlen; subst hk
      cases n with
      | zero => simp only [Rd.params] at hy; cases hy
      | succ n =>
        simp only [Rd.params, hg2, ↓reduceIte] at hy
        rw [Option.bind_eq_some_iff] at hy
        obtain ⟨q2, g1, hy⟩ := hy
        rw [Option.bind_eq_some_iff] at hy
        obtain ⟨x2, g2, hy⟩ := hy
        rw [Option.bind_eq_some_iff] at hy
        obtain ⟨l2, g3, hy⟩ := hy
        rw [Option.bind_eq_some_iff] at hy
        obtain ⟨c2, g4, hy⟩ := hy
        obtain ⟨hpu, rfl⟩ := push_some g3
        have kq2 := take_k hkp _ _ g1
        have kx2 := name_k kq2 _ _ g2
        have kc2 := take_k kx2 _ _ g4
        have e8 : ((l.length : Int) == 8) = !decide ((l.length : Int) < 8) := by
          by_cases h8 : l.length = 8
          · simp [h8]
          · have : l.length < 8 := by omega
            have a : ((l.length : Int) == 8) = false := by simp; omega
            have b : decide ((l.length : Int) < 8) = true := by simp; omega
            rw [a, b]; rfl
        have tk1 := fun {z : D} [Cell z] {s : St} {o : Nat} (ho : s.objs[o]? = some (encRc z r2)) => Ptake_s g1 ho
        have nm1 := fun {z : D} [Cell z] {s : St} {o : Nat} (ho : s.objs[o]? = some (encRc z q2.2)) => Pname_s (full := (l.length : Int) == 8) g2 e8 ho
        have tk2 := fun {z : D} [Cell z] {s : St} {o : Nat} (ho : s.objs[o]? = some (encRc z x2.2)) => Ptake_s g4 ho
        have g1' := g1
        unfold Rd.take at g1'
        simp only [hg2, Bool.not_true, Bool.false_eq_true, ↓reduceIte] at g1'
        rw [Option.bind_eq_some_iff] at g1'
        obtain ⟨b, hb, g1'⟩ := g1'
        have isr := fun {z : D} [Cell z] {s : St} {o : Nat} (ho : s.objs[o]? = some (encRc z r2)) => Pis_s (isO_good hb hg2) ho
        unfold Rd.is at hb
        rw [Option.bind_eq_some_iff] at hb
        obtain ⟨t, ht, hb⟩ := hb
        obtain ⟨hlt, hget, hkl, hkh⟩ := peek_get ht
        have IH' := fun (hc : c2.1 = true) (hn : Rd.params n (l ++ [⟨x2.1, q2.1⟩]) c2.2 = some y) => IH (n, _, c2.2, l.length + 1) ⟨hn, by simp, kc2, (take_good g4 hc).1, by
          have := name_good g2 (take_good g4 hc).2
          simp only [decide_eq_true_eq] at this
          simp; omega⟩ (Nat.lt_succ_self _)
        cases b
        · simp only [Bool.not_false, ↓reduceIte, Option.some.injEq] at g1'
          subst g1'
          cases hk1 : t.kind == 1
          · cases hc1 : c2.1
            · simp only [hc1, Bool.not_false, ↓reduceIte] at hy
              cases hy
              repeat' (first
 | simp only [go_sem, hlt, hget, hpu, hinc, Int.reduceLE, ↓reduceIte, reduceCtorEq, Nat.reduceEqDiff, Nat.reduceLeDiff, Nat.reduceAdd, Nat.reduceMul, Nat.reduceSub, Nat.reduceLT, hk1, hc1]
 | (with_reducible refine CU (Pok_s (by with_unfolding_all rfl)) ?_)
 | (with_reducible refine CU (isr (by with_unfolding_all rfl)) ?_)
 | (with_reducible refine CU (tk1 (by with_unfolding_all rfl)) ?_)
 | (with_reducible refine CU (nm1 (by with_unfolding_all rfl)) ?_)
 | (with_reducible refine CU (tk2 (by with_unfolding_all rfl)) ?_)
 | (with_reducible refine CU (wb (by with_unfolding_all rfl)) ?_)
 | (with_reducible refine CU (wc (by with_unfolding_all rfl)) ?_)
 | (with_reducible first | refine CB_ofT (by assumption) fun hc => ?_ | refine CB_ofF (by assumption) fun hc => ?_ | refine CB_split (fun hc => ?_) fun hc => ?_) <;> (try simp only [hc, bs, ↓reduceIte] at h) <;> (try simp only [hc])
 | ((with_reducible first | refine leafR hQ ?_ | refine leafN hQ ?_); (try cases h); simp only [resL, oneD, Option.some.injEq, exists_eq_left', go_sem, hlt, hget, hpu, hinc, Int.reduceLE, ↓reduceIte, reduceCtorEq, Nat.reduceEqDiff, Nat.reduceLeDiff, Nat.reduceAdd, Nat.reduceMul, Nat.reduceSub, Nat.reduceLT, hk1, hc1]; repeat' (first | exact Ok.out | with_reducible refine And.intro ?_ ?_ | (simp; done)))
 | (cases h; replace h := hr; clear hr; (try simp only [bs, ↓reduceIte] at h))
 | (cases h; done))
              all_goals
                refine SemL.re _ _ 3 0 (by rw [hB]; exact Nat.le_of_ble_eq_true rfl) (by rw [hB]; exact Nat.le_of_ble_eq_true rfl) ?_ ?_ (fin (want_k (want_k kc2 _ _ h3) _ _ h4) h hB hQ)
                · (simp only [go_sem, hlt, hget, hpu, hinc, Int.reduceLE, ↓reduceIte, reduceCtorEq, Nat.reduceEqDiff, Nat.reduceLeDiff, Nat.reduceAdd, Nat.reduceMul, Nat.reduceSub, Nat.reduceLT, List.map_append, List.map_cons, List.map_nil]; repeat' (first | exact Ok.out | with_reducible refine And.intro ?_ ?_))
                · (simp only [go_sem, hlt, hget, hpu, hinc, Int.reduceLE, ↓reduceIte, reduceCtorEq, Nat.reduceEqDiff, Nat.reduceLeDiff, Nat.reduceAdd, Nat.reduceMul, Nat.reduceSub, Nat.reduceLT, List.map_append, List.map_cons, List.map_nil]; repeat' (first | exact Ok.out | with_reducible refine And.intro ?_ ?_))
            · simp only [hc1, Bool.not_true, Bool.false_eq_true, ↓reduceIte] at hy
              repeat' (first
 | simp only [go_sem, hlt, hget, hpu, hinc, Int.reduceLE, ↓reduceIte, reduceCtorEq, Nat.reduceEqDiff, Nat.reduceLeDiff, Nat.reduceAdd, Nat.reduceMul, Nat.reduceSub, Nat.reduceLT, hk1, hc1]
 | (with_reducible refine CU (Pok_s (by with_unfolding_all rfl)) ?_)
 | (with_reducible refine CU (isr (by with_unfolding_all rfl)) ?_)
 | (with_reducible refine CU (tk1 (by with_unfolding_all rfl)) ?_)
 | (with_reducible refine CU (nm1 (by with_unfolding_all rfl)) ?_)
 | (with_reducible refine CU (tk2 (by with_unfolding_all rfl)) ?_)
 | (with_reducible first | refine CB_ofT (by assumption) fun hc => ?_ | refine CB_ofF (by assumption) fun hc => ?_ | refine CB_split (fun hc => ?_) fun hc => ?_) <;> (try simp only [hc, bs, ↓reduceIte] at h) <;> (try simp only [hc])
 | ((with_reducible first | refine leafR hQ ?_ | refine leafN hQ ?_); (try cases h); simp only [resL, oneD, Option.some.injEq, exists_eq_left', go_sem, hlt, hget, hpu, hinc, Int.reduceLE, ↓reduceIte, reduceCtorEq, Nat.reduceEqDiff, Nat.reduceLeDiff, Nat.reduceAdd, Nat.reduceMul, Nat.reduceSub, Nat.reduceLT, hk1, hc1]; repeat' (first | exact Ok.out | with_reducible refine And.intro ?_ ?_ | (simp; done)))
 | (cases h; replace h := hr; clear hr; (try simp only [bs, ↓reduceIte] at h))
 | (cases h; done))
              all_goals
                refine SemL.re _ _ 3 1 (by rw [hB]; exact Nat.le_of_ble_eq_true rfl) (by rw [hB]; exact Nat.le_of_ble_eq_true rfl) ?_ ?_ (IH' hc1 hy)
                · (simp only [go_sem, hlt, hget, hpu, hinc, Int.reduceLE, ↓reduceIte, reduceCtorEq, Nat.reduceEqDiff, Nat.reduceLeDiff, Nat.reduceAdd, Nat.reduceMul, Nat.reduceSub, Nat.reduceLT, List.map_append, List.map_cons, List.map_nil]; repeat' (first | exact Ok.out | with_reducible refine And.intro ?_ ?_))
                · (simp only [go_sem, hlt, hget, hpu, hinc, Int.reduceLE, ↓reduceIte, reduceCtorEq, Nat.reduceEqDiff, Nat.reduceLeDiff, Nat.reduceAdd, Nat.reduceMul, Nat.reduceSub, Nat.reduceLT, List.map_append, List.map_cons, List.map_nil]; repeat' (first | exact Ok.out | with_reducible refine And.intro ?_ ?_))
          · cases h8 : ((l.length : Int) == 8)
            · rw [h8] at nm1
              cases hc1 : c2.1
              · simp only [hc1, Bool.not_false, ↓reduceIte] at hy
                cases hy
                repeat' (first
 | simp only [go_sem, hlt, hget, hpu, hinc, Int.reduceLE, ↓reduceIte, reduceCtorEq, Nat.reduceEqDiff, Nat.reduceLeDiff, Nat.reduceAdd, Nat.reduceMul, Nat.reduceSub, Nat.reduceLT, hk1, h8, hc1]
 | (with_reducible refine CU (Pok_s (by with_unfolding_all rfl)) ?_)
 | (with_reducible refine CU (isr (by with_unfolding_all rfl)) ?_)
 | (with_reducible refine CU (tk1 (by with_unfolding_all rfl)) ?_)
 | (with_reducible refine CU (nm1 (by with_unfolding_all rfl)) ?_)
 | (with_reducible refine CU (tk2 (by with_unfolding_all rfl)) ?_)
 | (with_reducible refine CU (wb (by with_unfolding_all rfl)) ?_)
 | (with_reducible refine CU (wc (by with_unfolding_all rfl)) ?_)
 | (with_reducible first | refine CB_ofT (by assumption) fun hc => ?_ | refine CB_ofF (by assumption) fun hc => ?_ | refine CB_split (fun hc => ?_) fun hc => ?_) <;> (try simp only [hc, bs, ↓reduceIte] at h) <;> (try simp only [hc])
 | ((with_reducible first | refine leafR hQ ?_ | refine leafN hQ ?_); (try cases h); simp only [resL, oneD, Option.some.injEq, exists_eq_left', go_sem, hlt, hget, hpu, hinc, Int.reduceLE, ↓reduceIte, reduceCtorEq, Nat.reduceEqDiff, Nat.reduceLeDiff, Nat.reduceAdd, Nat.reduceMul, Nat.reduceSub, Nat.reduceLT, hk1, h8, hc1]; repeat' (first | exact Ok.out | with_reducible refine And.intro ?_ ?_ | (simp; done)))
 | (cases h; replace h := hr; clear hr; (try simp only [bs, ↓reduceIte] at h))
 | (cases h; done))
                all_goals
                  refine SemL.re _ _ 3 0 (by rw [hB]; exact Nat.le_of_ble_eq_true rfl) (by rw [hB]; exact Nat.le_of_ble_eq_true rfl) ?_ ?_ (fin (want_k (want_k kc2 _ _ h3) _ _ h4) h hB hQ)
                  · (simp only [go_sem, hlt, hget, hpu, hinc, Int.reduceLE, ↓reduceIte, reduceCtorEq, Nat.reduceEqDiff, Nat.reduceLeDiff, Nat.reduceAdd, Nat.reduceMul, Nat.reduceSub, Nat.reduceLT, List.map_append, List.map_cons, List.map_nil]; repeat' (first | exact Ok.out | with_reducible refine And.intro ?_ ?_))
                  · (simp only [go_sem, hlt, hget, hpu, hinc, Int.reduceLE, ↓reduceIte, reduceCtorEq, Nat.reduceEqDiff, Nat.reduceLeDiff, Nat.reduceAdd, Nat.reduceMul, Nat.reduceSub, Nat.reduceLT, List.map_append, List.map_cons, List.map_nil]; repeat' (first | exact Ok.out | with_reducible refine And.intro ?_ ?_))
              · simp only [hc1, Bool.not_true, Bool.false_eq_true, ↓reduceIte] at hy
                repeat' (first
 | simp only [go_sem, hlt, hget, hpu, hinc, Int.reduceLE, ↓reduceIte, reduceCtorEq, Nat.reduceEqDiff, Nat.reduceLeDiff, Nat.reduceAdd, Nat.reduceMul, Nat.reduceSub, Nat.reduceLT, hk1, h8, hc1]
 | (with_reducible refine CU (Pok_s (by with_unfolding_all rfl)) ?_)
 | (with_reducible refine CU (isr (by with_unfolding_all rfl)) ?_)
 | (with_reducible refine CU (tk1 (by with_unfolding_all rfl)) ?_)
 | (with_reducible refine CU (nm1 (by with_unfolding_all rfl)) ?_)
 | (with_reducible refine CU (tk2 (by with_unfolding_all rfl)) ?_)
 | (with_reducible first | refine CB_ofT (by assumption) fun hc => ?_ | refine CB_ofF (by assumption) fun hc => ?_ | refine CB_split (fun hc => ?_) fun hc => ?_) <;> (try simp only [hc, bs, ↓reduceIte] at h) <;> (try simp only [hc])
 | ((with_reducible first | refine leafR hQ ?_ | refine leafN hQ ?_); (try cases h); simp only [resL, oneD, Option.some.injEq, exists_eq_left', go_sem, hlt, hget, hpu, hinc, Int.reduceLE, ↓reduceIte, reduceCtorEq, Nat.reduceEqDiff, Nat.reduceLeDiff, Nat.reduceAdd, Nat.reduceMul, Nat.reduceSub, Nat.reduceLT, hk1, h8, hc1]; repeat' (first | exact Ok.out | with_reducible refine And.intro ?_ ?_ | (simp; done)))
 | (cases h; replace h := hr; clear hr; (try simp only [bs, ↓reduceIte] at h))
 | (cases h; done))
                all_goals
                  refine SemL.re _ _ 3 1 (by rw [hB]; exact Nat.le_of_ble_eq_true rfl) (by rw [hB]; exact Nat.le_of_ble_eq_true rfl) ?_ ?_ (IH' hc1 hy)
                  · (simp only [go_sem, hlt, hget, hpu, hinc, Int.reduceLE, ↓reduceIte, reduceCtorEq, Nat.reduceEqDiff, Nat.reduceLeDiff, Nat.reduceAdd, Nat.reduceMul, Nat.reduceSub, Nat.reduceLT, List.map_append, List.map_cons, List.map_nil]; repeat' (first | exact Ok.out | with_reducible refine And.intro ?_ ?_))
                  · (simp only [go_sem, hlt, hget, hpu, hinc, Int.reduceLE, ↓reduceIte, reduceCtorEq, Nat.reduceEqDiff, Nat.reduceLeDiff, Nat.reduceAdd, Nat.reduceMul, Nat.reduceSub, Nat.reduceLT, List.map_append, List.map_cons, List.map_nil]; repeat' (first | exact Ok.out | with_reducible refine And.intro ?_ ?_))
            · have hroom : decide ((l.length : Int) < 8) = false := by rw [h8] at e8; simpa using e8.symm
              have hbad : r2.bad 4 = some { r2 with code := 4, fat := t.pos } := by simp only [Rd.bad, hg2, ↓reduceIte, ht, Option.bind_some]
              have hf : ({ r2 with code := 4, fat := t.pos } : Rd).good = false := rfl
              have hne : (t.kind != 1) = false := by simpa using hk1
              simp only [Rd.name, ht, Option.bind_some, hg2, hne, Bool.not_true, Bool.or_self, Bool.false_eq_true, ↓reduceIte, hroom, Bool.not_false, hbad, Option.some.injEq] at g2
              subst g2
              rw [take_f hf] at g4
              simp only [Option.some.injEq] at g4
              subst g4
              simp only [Bool.not_false, ↓reduceIte] at hy
              cases hy
              have fl := fun {z : D} [Cell z] {s : St} {o : Nat} (ho : s.objs[o]? = some (encRc z r2)) => Pfail_s hbad ho
              have tkf := fun (w : Str) {z : D} [Cell z] {s : St} {o : Nat} (ho : s.objs[o]? = some (encRc z { r2 with code := 4, fat := t.pos })) => Ptake_s (take_f hf w) ho
              have nmf := fun {z : D} [Cell z] {s : St} {o : Nat} (ho : s.objs[o]? = some (encRc z { r2 with code := 4, fat := t.pos })) => Pname_s (room := false) (full := true) (name_f hf false (t := t) ht) rfl ho
              clear tk1 nm1 tk2
              repeat' (first
 | simp only [go_sem, hlt, hget, hpu, hinc, Int.reduceLE, ↓reduceIte, reduceCtorEq, Nat.reduceEqDiff, Nat.reduceLeDiff, Nat.reduceAdd, Nat.reduceMul, Nat.reduceSub, Nat.reduceLT, hk1, h8]
 | (with_reducible refine CU (Pok_s (by with_unfolding_all rfl)) ?_)
 | (with_reducible refine CU (isr (by with_unfolding_all rfl)) ?_)
 | (with_reducible refine CU (fl (by with_unfolding_all rfl)) ?_)
 | (with_reducible refine CU (tkf _ (by with_unfolding_all rfl)) ?_)
 | (with_reducible refine CU (nmf (by with_unfolding_all rfl)) ?_)
 | (with_reducible refine CU (wb (by with_unfolding_all rfl)) ?_)
 | (with_reducible refine CU (wc (by with_unfolding_all rfl)) ?_)
 | (with_reducible first | refine CB_ofT (by assumption) fun hc => ?_ | refine CB_ofF (by assumption) fun hc => ?_ | refine CB_split (fun hc => ?_) fun hc => ?_) <;> (try simp only [hc, bs, ↓reduceIte] at h) <;> (try simp only [hc])
 | ((with_reducible first | refine leafR hQ ?_ | refine leafN hQ ?_); (try cases h); simp only [resL, oneD, Option.some.injEq, exists_eq_left', go_sem, hlt, hget, hpu, hinc, Int.reduceLE, ↓reduceIte, reduceCtorEq, Nat.reduceEqDiff, Nat.reduceLeDiff, Nat.reduceAdd, Nat.reduceMul, Nat.reduceSub, Nat.reduceLT, hk1, h8]; repeat' (first | exact Ok.out | with_reducible refine And.intro ?_ ?_ | (simp; done)))
 | (cases h; replace h := hr; clear hr; (try simp only [bs, ↓reduceIte] at h))
 | (cases h; done))
              all_goals
                refine SemL.re _ _ 3 0 (by rw [hB]; exact Nat.le_of_ble_eq_true rfl) (by rw [hB]; exact Nat.le_of_ble_eq_true rfl) ?_ ?_ (fin (want_k (want_k kc2 _ _ h3) _ _ h4) h hB hQ)
                · (simp only [go_sem, hlt, hget, hpu, hinc, Int.reduceLE, ↓reduceIte, reduceCtorEq, Nat.reduceEqDiff, Nat.reduceLeDiff, Nat.reduceAdd, Nat.reduceMul, Nat.reduceSub, Nat.reduceLT, List.map_append, List.map_cons, List.map_nil]; repeat' (first | exact Ok.out | with_reducible refine And.intro ?_ ?_))
                · (simp only [go_sem, hlt, hget, hpu, hinc, Int.reduceLE, ↓reduceIte, reduceCtorEq, Nat.reduceEqDiff, Nat.reduceLeDiff, Nat.reduceAdd, Nat.reduceMul, Nat.reduceSub, Nat.reduceLT, List.map_append, List.map_cons, List.map_nil]; repeat' (first | exact Ok.out | with_reducible refine And.intro ?_ ?_))
        · simp only [Bool.not_true, Bool.false_eq_true, ↓reduceIte, Option.some.injEq] at g1'
          subst g1'
          cases h8 : ((l.length : Int) == 8)
          all_goals
            rw [h8] at nm1
            cases hc1 : c2.1
            · simp only [hc1, Bool.not_false, ↓reduceIte] at hy
              cases hy
              repeat' (first
 | simp only [go_sem, hlt, hget, hpu, hinc, Int.reduceLE, ↓reduceIte, reduceCtorEq, Nat.reduceEqDiff, Nat.reduceLeDiff, Nat.reduceAdd, Nat.reduceMul, Nat.reduceSub, Nat.reduceLT, h8, hc1]
 | (with_reducible refine CU (Pok_s (by with_unfolding_all rfl)) ?_)
 | (with_reducible refine CU (isr (by with_unfolding_all rfl)) ?_)
 | (with_reducible refine CU (tk1 (by with_unfolding_all rfl)) ?_)
 | (with_reducible refine CU (nm1 (by with_unfolding_all rfl)) ?_)
 | (with_reducible refine CU (tk2 (by with_unfolding_all rfl)) ?_)
 | (with_reducible refine CU (wb (by with_unfolding_all rfl)) ?_)
 | (with_reducible refine CU (wc (by with_unfolding_all rfl)) ?_)
 | (with_reducible first | refine CB_ofT (by assumption) fun hc => ?_ | refine CB_ofF (by assumption) fun hc => ?_ | refine CB_split (fun hc => ?_) fun hc => ?_) <;> (try simp only [hc, bs, ↓reduceIte] at h) <;> (try simp only [hc])
 | ((with_reducible first | refine leafR hQ ?_ | refine leafN hQ ?_); (try cases h); simp only [resL, oneD, Option.some.injEq, exists_eq_left', go_sem, hlt, hget, hpu, hinc, Int.reduceLE, ↓reduceIte, reduceCtorEq, Nat.reduceEqDiff, Nat.reduceLeDiff, Nat.reduceAdd, Nat.reduceMul, Nat.reduceSub, Nat.reduceLT, h8, hc1]; repeat' (first | exact Ok.out | with_reducible refine And.intro ?_ ?_ | (simp; done)))
 | (cases h; replace h := hr; clear hr; (try simp only [bs, ↓reduceIte] at h))
 | (cases h; done))
              all_goals
                refine SemL.re _ _ 3 0 (by rw [hB]; exact Nat.le_of_ble_eq_true rfl) (by rw [hB]; exact Nat.le_of_ble_eq_true rfl) ?_ ?_ (fin (want_k (want_k kc2 _ _ h3) _ _ h4) h hB hQ)
                · (simp only [go_sem, hlt, hget, hpu, hinc, Int.reduceLE, ↓reduceIte, reduceCtorEq, Nat.reduceEqDiff, Nat.reduceLeDiff, Nat.reduceAdd, Nat.reduceMul, Nat.reduceSub, Nat.reduceLT, List.map_append, List.map_cons, List.map_nil]; repeat' (first | exact Ok.out | with_reducible refine And.intro ?_ ?_))
                · (simp only [go_sem, hlt, hget, hpu, hinc, Int.reduceLE, ↓reduceIte, reduceCtorEq, Nat.reduceEqDiff, Nat.reduceLeDiff, Nat.reduceAdd, Nat.reduceMul, Nat.reduceSub, Nat.reduceLT, List.map_append, List.map_cons, List.map_nil]; repeat' (first | exact Ok.out | with_reducible refine And.intro ?_ ?_))
            · simp only [hc1, Bool.not_true, Bool.false_eq_true, ↓reduceIte] at hy
              repeat' (first
 | simp only [go_sem, hlt, hget, hpu, hinc, Int.reduceLE, ↓reduceIte, reduceCtorEq, Nat.reduceEqDiff, Nat.reduceLeDiff, Nat.reduceAdd, Nat.reduceMul, Nat.reduceSub, Nat.reduceLT, h8, hc1]
 | (with_reducible refine CU (Pok_s (by with_unfolding_all rfl)) ?_)
 | (with_reducible refine CU (isr (by with_unfolding_all rfl)) ?_)
 | (with_reducible refine CU (tk1 (by with_unfolding_all rfl)) ?_)
 | (with_reducible refine CU (nm1 (by with_unfolding_all rfl)) ?_)
 | (with_reducible refine CU (tk2 (by with_unfolding_all rfl)) ?_)
 | (with_reducible first | refine CB_ofT (by assumption) fun hc => ?_ | refine CB_ofF (by assumption) fun hc => ?_ | refine CB_split (fun hc => ?_) fun hc => ?_) <;> (try simp only [hc, bs, ↓reduceIte] at h) <;> (try simp only [hc])
 | ((with_reducible first | refine leafR hQ ?_ | refine leafN hQ ?_); (try cases h); simp only [resL, oneD, Option.some.injEq, exists_eq_left', go_sem, hlt, hget, hpu, hinc, Int.reduceLE, ↓reduceIte, reduceCtorEq, Nat.reduceEqDiff, Nat.reduceLeDiff, Nat.reduceAdd, Nat.reduceMul, Nat.reduceSub, Nat.reduceLT, h8, hc1]; repeat' (first | exact Ok.out | with_reducible refine And.intro ?_ ?_ | (simp; done)))
 | (cases h; replace h := hr; clear hr; (try simp only [bs, ↓reduceIte] at h))
 | (cases h; done))
              all_goals
                refine SemL.re _ _ 3 1 (by rw [hB]; exact Nat.le_of_ble_eq_true rfl) (by rw [hB]; exact Nat.le_of_ble_eq_true rfl) ?_ ?_ (IH' hc1 hy)
                · (simp only [go_sem, hlt, hget, hpu, hinc, Int.reduceLE, ↓reduceIte, reduceCtorEq, Nat.reduceEqDiff, Nat.reduceLeDiff, Nat.reduceAdd, Nat.reduceMul, Nat.reduceSub, Nat.reduceLT, List.map_append, List.map_cons, List.map_nil]; repeat' (first | exact Ok.out | with_reducible refine And.intro ?_ ?_))
                · (simp only [go_sem, hlt, hget, hpu, hinc, Int.reduceLE, ↓reduceIte, reduceCtorEq, Nat.reduceEqDiff, Nat.reduceLeDiff, Nat.reduceAdd, Nat.reduceMul, Nat.reduceSub, Nat.reduceLT, List.map_append, List.map_cons, List.map_nil]; repeat' (first | exact Ok.out | with_reducible refine And.intro ?_ ?_))
  · simp only [hq1, ↓reduceIte] at h
    rw [Option.bind_eq_some_iff] at h
    obtain ⟨r2, h2, h⟩ := h
    have wb := fun {z : D} [Cell z] {s : St} {o : Nat} (ho : s.objs[o]? = some (encRc z q.2)) => Pwant_s h2 ho
    refine Fun.go has_ref3_P_proc rfl fun B Q hB hQ => ?_
    have hlt : 0 < 1 := Nat.zero_lt_one
    have hget : 0 < 1 := Nat.zero_lt_one
    have hpu : 0 < 1 := Nat.zero_lt_one
    have hinc : 0 < 1 := Nat.zero_lt_one
    repeat' (first
 | simp only [go_sem, hlt, hget, hpu, hinc, Int.reduceLE, ↓reduceIte, reduceCtorEq, Nat.reduceEqDiff, Nat.reduceLeDiff, Nat.reduceAdd, Nat.reduceMul, Nat.reduceSub, Nat.reduceLT, hq1]
 | (with_reducible refine CU (nm (by with_unfolding_all rfl)) ?_)
 | (with_reducible refine CU (wa (by with_unfolding_all rfl)) ?_)
 | (with_reducible refine CU (tk (by with_unfolding_all rfl)) ?_)
 | (with_reducible refine CU (wb (by with_unfolding_all rfl)) ?_)
 | (with_reducible first | refine CB_ofT (by assumption) fun hc => ?_ | refine CB_ofF (by assumption) fun hc => ?_ | refine CB_split (fun hc => ?_) fun hc => ?_) <;> (try simp only [hc, bs, ↓reduceIte] at h) <;> (try simp only [hc])
 | ((with_reducible first | refine leafR hQ ?_ | refine leafN hQ ?_); (try cases h); simp only [resL, oneD, Option.some.injEq, exists_eq_left', go_sem, hlt, hget, hpu, hinc, Int.reduceLE, ↓reduceIte, reduceCtorEq, Nat.reduceEqDiff, Nat.reduceLeDiff, Nat.reduceAdd, Nat.reduceMul, Nat.reduceSub, Nat.reduceLT, hq1]; repeat' (first | exact Ok.out | with_reducible refine And.intro ?_ ?_ | (simp; done)))
 | (cases h; replace h := hr; clear hr; (try simp only [bs, ↓reduceIte] at h))
 | (cases h; done))
    refine SemL.re _ _ 3 0 (by rw [hB]; exact Nat.le_of_ble_eq_true rfl) (by rw [hB]; exact Nat.le_of_ble_eq_true rfl) ?_ ?_ (fin (ps := []) (want_k kq _ _ h2) h hB hQ)
    · (simp only [go_sem, hlt, hget, hpu, hinc, Int.reduceLE, ↓reduceIte, reduceCtorEq, Nat.reduceEqDiff, Nat.reduceLeDiff, Nat.reduceAdd, Nat.reduceMul, Nat.reduceSub, Nat.reduceLT]; repeat' (first | exact Ok.out | with_reducible refine And.intro ?_ ?_))
    · (simp only [go_sem, hlt, hget, hpu, hinc, Int.reduceLE, ↓reduceIte, reduceCtorEq, Nat.reduceEqDiff, Nat.reduceLeDiff, Nat.reduceAdd, Nat.reduceMul, Nat.reduceSub, Nat.reduceLT]; repeat' (first | exact Ok.out | with_reducible refine And.intro ?_ ?_))

end Go.Abs

/-! Ref10 -/

namespace Go.Abs

set_option maxRecDepth 8000
set_option linter.unusedSimpArgs false
set_option linter.unusedVariables false
open Go.Proofs

/-- How many statements there are behind those procedures. -/
def Pc.cnt (n : Nat) : List Pc → Nat
  | [] => n
  | f :: l => Pc.cnt (Sm.nums true n f.body).2 l
theorem Pc.nums_app (f : Pc) : ∀ (l : List Pc) (n : Nat), Pc.nums n (l ++ [f]) = Pc.nums n l ++ [{ f with body := (Sm.nums true (Pc.cnt n l) f.body).1 }]
  | [], n => by simp only [List.nil_append, Pc.nums, Pc.cnt]
  | g :: l, n => by simp only [List.cons_append, Pc.nums, Pc.cnt, Pc.nums_app f l]
theorem Pc.cnt_app (f : Pc) : ∀ (l : List Pc) (n : Nat), Pc.cnt n (l ++ [f]) = (Sm.nums true (Pc.cnt n l) f.body).2
  | [], n => by simp only [List.nil_append, Pc.cnt]
  | g :: l, n => by simp only [List.cons_append, Pc.cnt, Pc.cnt_app f l]
theorem Pc.nums_len : ∀ (l : List Pc) (n : Nat), (Pc.nums n l).length = l.length
  | [], n => rfl
  | g :: l, n => by simp only [Pc.nums, List.length_cons, Pc.nums_len l]

theorem vars_k {m : Nat} {r0 : Rd} : ∀ (n : Nat) (l : List Str) (r : Rd), Keep r0 r → Pt (Rd.vars m n l r) (fun p => Keep r0 p.2) := by
  intro n
  induction n with
  | zero => intro l r _; simp only [Rd.vars]; exact Pt.none
  | succ n ih =>
    intro l r h
    simp only [Rd.vars]
    exact (take_k h _).bind fun q hq => Pt.ite (fun _ => (names_k _ _ _ hq).bind fun x hx => ih _ _ hx) fun _ => Pt.some hq
theorem params_k {r0 : Rd} : ∀ (n : Nat) (l : List Pm) (r : Rd), Keep r0 r → Pt (Rd.params n l r) (fun p => Keep r0 p.2) := by
  intro n
  induction n with
  | zero => intro l r _; simp only [Rd.params]; exact Pt.none
  | succ n ih =>
    intro l r h
    simp only [Rd.params]
    exact Pt.ite (fun _ => (take_k h _).bind fun q hq => (name_k hq _).bind fun x hx => Pt.any fun l => (take_k hx _).bind fun c hc => Pt.ite (fun _ => Pt.some hc) fun _ => ih _ _ hc) fun _ => Pt.some h
theorem procB_n {m : Nat} {name : Str} {ps : List Pm} {r0 r : Rd} (h : Keep r0 r) : Pt (Rd.procB m name ps r) fun p => Num r0 (Sm.nums true r0.n p.1.body).2 p.2 := by
  unfold Rd.procB
  refine (vars_k m [] r h).bind fun v hv => ((stmts_n m).1 _ _ _).bind fun b hb => Pt.some ?_
  dsimp only
  rw [← hv.n]
  exact ((Num.refl r0).keep hv).trans hb
theorem proc_n {m : Nat} {r : Rd} : Pt (Rd.proc m r) fun p => Num r (Sm.nums true r.n p.1.body).2 p.2 := by
  unfold Rd.proc
  refine (name_k (Keep.refl r) _).bind fun x hx => (want_k hx _).bind fun r1 h1 => Pt.any fun b => Pt.ite (fun _ => ?_) fun _ => ?_
  · exact (params_k _ _ _ h1).bind fun q hq => (want_k hq _).bind fun r hr => (want_k hr _).bind fun r hr => procB_n hr
  · exact (want_k h1 _).bind fun r hr => (want_k hr _).bind fun r hr => procB_n hr
theorem Pproc_s {m : Nat} {z : D} [Cell z] {r : Rd} {p : Pc × Rd} (h : Rd.proc m r = some p) (hT : TW r.l) (hz : r.good = true → z = .int .i64 r.n) (hN : r.good = true → r.n ≤ 200) {s : St} {o : Nat} (ho : s.objs[o]? = some (encRc z r)) :
    Fun Try.prog n_ref3_P_proc [.ptr o 0] s (.agg (encPc { p.1 with body := (Sm.nums true r.n p.1.body).1 })) ⟨s.objs.set o (encRc (cN p.2) p.2), s.toks⟩ :=
  Fun.meth (rproc_0 h hT hz hN) rfl (okRc _ r) (okRc _ p.2) (by simp only [D.ok]; exact okPc _) ho

/-- Behind a fault there is no procedure. -/
theorem proc_f {m : Nat} {r : Rd} {t : Tok} (hg : r.good = false) (ht : r.peek = some t) : Rd.proc (m + 2) r = some (⟨[], [], [], [], []⟩, r) := by
  simp only [Rd.proc, Rd.other, name_f hg true ht, Option.bind_some, want_f hg, hg, Bool.false_eq_true, ↓reduceIte, Rd.procB, Rd.vars, take_f hg, Rd.rows, Rd.rowsL]

theorem rparse_tail {m : Nat} {B : Base} {Q : Exit → Tm → St → Prop} {g : List Str} {p : Pg × Int × Int} {r : Rd} {k : Nat} (hB : B.s = ⟨[], []⟩)
    (hQ : retF 0 0 [(2, some (true, 2)), (3, some (true, 2))] (.tuple [.agg (encPg p.1), .agg (encF p.2)]) ⟨[], []⟩ = Q)
    (h : ((Rd.procs (m + 2) k [] r).bind fun q => if q.2.code != 0 then some (pg0, q.2.code, q.2.fat) else ((⟨g, q.1⟩ : Pg).numberO).bind fun x => some (x, 0, 0)) = some p) (hT : TW r.l) (hn : r.n = 0) :
    SemL Try.prog B 74 Q27 (inBlockQ 2 (thenQ (wpC Try.prog B 74 Q2H Q) Q)) [(2, .ptr 0 0), (3, .ptr 1 0), (6, .ptr 3 0), (7, .ptr 4 0)]
      ⟨[[.slice .full 0 [], .slice .full 0 []], [.int .i64 0, .int .i64 0], [.junk, .junk], encRc (.int .i64 0) r, [.slice .shared 1 (g.map encStr), .slice .full 0 []]], []⟩ := by
  have hlt : 0 < 1 := Nat.zero_lt_one
  have hget : 0 < 1 := Nat.zero_lt_one
  have hpu : 0 < 1 := Nat.zero_lt_one
  have hinc : 0 < 1 := Nat.zero_lt_one
  rw [Option.bind_eq_some_iff] at h
  obtain ⟨q, h, hr⟩ := h
  cases hg : r.good
  · cases k with
    | zero => simp only [Rd.procs] at h; cases h
    | succ k =>
      simp only [Rd.procs, Rd.isProc, Rd.notEnd, hg, Bool.false_eq_true, ↓reduceIte, Option.bind_some] at h
      cases h
      have hc : (r.code != 0) = true := by simpa [Rd.good] using hg
      simp only [hc, ↓reduceIte] at hr
      cases hr
      refine SemL.onceW ?_
      repeat' (first
 | simp only [go_sem, hlt, hget, hpu, hinc, Int.reduceLE, ↓reduceIte, reduceCtorEq, Nat.reduceEqDiff, Nat.reduceLeDiff, Nat.reduceAdd, Nat.reduceMul, Nat.reduceSub, Nat.reduceLT, hg]
 | (with_reducible refine CU (Pok_s (by with_unfolding_all rfl)) ?_)
 | (with_reducible first | refine CB_ofT (by assumption) fun hc => ?_ | refine CB_ofF (by assumption) fun hc => ?_ | refine CB_split (fun hc => ?_) fun hc => ?_) <;> (try simp only [hc, bs, ↓reduceIte] at h) <;> (try simp only [hc])
 | ((with_reducible first | refine leafR hQ ?_ | refine leafN hQ ?_); (try cases h); simp only [resL, oneD, Option.some.injEq, exists_eq_left', go_sem, hlt, hget, hpu, hinc, Int.reduceLE, ↓reduceIte, reduceCtorEq, Nat.reduceEqDiff, Nat.reduceLeDiff, Nat.reduceAdd, Nat.reduceMul, Nat.reduceSub, Nat.reduceLT, hg]; repeat' (first | exact Ok.out | with_reducible refine And.intro ?_ ?_ | (simp; done)))
 | (cases h; replace h := hr; clear hr; (try simp only [bs, ↓reduceIte] at h))
 | (cases h; done))
  · refine SemL.tokO 4 1 5 rfl rfl ?_
    simp only [go_sem, hlt, hget, hpu, hinc, Int.reduceLE, ↓reduceIte, reduceCtorEq, Nat.reduceEqDiff, Nat.reduceLeDiff, Nat.reduceAdd, Nat.reduceMul, Nat.reduceSub, Nat.reduceLT]
    refine SemL.re _ _ 5 1 (by rw [hB]; exact Nat.le_of_ble_eq_true rfl) (by rw [hB]; exact Nat.le_of_ble_eq_true rfl) ?_ ?_ (SemL.ind (ι := Nat × List Pc × Rd × Nat) (fun i => Rd.procs (m + 2) i.1 i.2.1 i.2.2.1 = some q ∧ i.2.2.2 = i.2.1.length ∧ i.2.2.1.good = true ∧ i.2.2.1.l = r.l ∧ i.2.2.1.n ≤ 200 ∧ Pc.cnt 0 i.2.1 = i.2.2.1.n ∧ i.2.1.length ≤ 16) (fun i => i.1)
      (fun i => [(2, .ptr 0 0), (3, .ptr 1 0), (6, .ptr 3 0), (7, .ptr 4 0)]) (fun i => ⟨[[.slice .full 0 [], .slice .full 0 []], [.int .i64 0, .int .i64 0], [.junk, .junk], encRc (.int .i64 i.2.2.1.n) i.2.2.1, [.slice .shared 1 (g.map encStr), .slice (.tok 0) 5 ((Pc.nums 0 i.2.1).map encPc)]], [some i.2.2.2]⟩) ?_ (k, [], r, 0) ⟨h, rfl, hg, rfl, by show r.n ≤ 200; omega, by simp only [Pc.cnt]; exact hn.symm, Nat.zero_le _⟩)
    · (simp only [go_sem, hlt, hget, hpu, hinc, Int.reduceLE, ↓reduceIte, reduceCtorEq, Nat.reduceEqDiff, Nat.reduceLeDiff, Nat.reduceAdd, Nat.reduceMul, Nat.reduceSub, Nat.reduceLT, Pc.nums, List.map_nil, hn, Int.ofNat_zero]; repeat' (first | exact Ok.out | with_reducible refine And.intro ?_ ?_))
    · (simp only [go_sem, hlt, hget, hpu, hinc, Int.reduceLE, ↓reduceIte, reduceCtorEq, Nat.reduceEqDiff, Nat.reduceLeDiff, Nat.reduceAdd, Nat.reduceMul, Nat.reduceSub, Nat.reduceLT, Pc.nums, List.map_nil, hn, Int.ofNat_zero]; repeat' (first | exact Ok.out | with_reducible refine And.intro ?_ ?_))
    rintro ⟨n, l, r2, kk⟩ ⟨h, hk, hg2, hl2, hn2, hcnt, hlen⟩ IH
    dsimp only at hk hg2 hl2 hn2 hcnt hlen; subst hk
    cases n with
    | zero => simp only [Rd.procs] at h; cases h
    | succ n =>
      simp only [Rd.procs, Rd.isProc, Rd.notEnd, hg2, ↓reduceIte] at h
      rw [Option.bind_eq_some_iff] at h
      obtain ⟨b, hb, h⟩ := h
      have isr := fun {z : D} [Cell z] {s : St} {o : Nat} (ho : s.objs[o]? = some (encRc z r2)) => Pis_s (isO_good hb hg2) ho
      unfold Rd.is at hb
      rw [Option.bind_eq_some_iff] at hb
      obtain ⟨t, ht, hb⟩ := hb
      obtain ⟨hlt, hget, hkl, hkh⟩ := peek_get ht
      have hpu : (l.length + 1) * 113 ≤ maxStr := by unfold maxStr; omega
      have hlN := Pc.nums_len l 0
      have flt : ∀ {r3 : Rd}, r3.good = false → r3.l = r2.l → r3.i = r2.i → ∀ {z : D} [Cell z] {s : St} {o : Nat}, s.objs[o]? = some (encRc z r3) →
          Fun Try.prog n_ref3_P_proc [.ptr o 0] s (.agg (encPc { (⟨[], [], [], [], []⟩ : Pc) with body := (Sm.nums true r3.n []).1 })) ⟨s.objs.set o (encRc (cN r3) r3), s.toks⟩ := by
        intro r3 g3 l3 i3 z _ s o ho
        exact Pproc_s (proc_f (m := m) (t := t) g3 (by unfold Rd.peek at ht ⊢; rw [l3, i3]; exact ht)) (by rw [l3, hl2]; exact hT) (fun g => by rw [g3] at g; cases g) (fun g => by rw [g3] at g; cases g) ho
      cases b
      · have hb' := Option.some.inj hb
        have hw : r2.want [112, 114, 111, 99] = r2.bad 3 := by
          simp only [Rd.want, Rd.take, hg2, Bool.not_true, Bool.false_eq_true, ↓reduceIte, Rd.is, ht, Option.bind_some, hb', Bool.not_false, ↓reduceIte]
        simp only [Bool.false_eq_true, ↓reduceIte, ht, Option.bind_some] at h
        cases hk0 : (t.kind != 0)
        · simp only [hk0, Bool.false_eq_true, ↓reduceIte] at h
          cases h
          have hc : (r2.code != 0) = false := by simpa [Rd.good] using hg2
          simp only [hc, Bool.false_eq_true, ↓reduceIte, Pg.numberO] at hr
          split at hr
          · simp only [Option.bind_some] at hr
            cases hr
            repeat' (first
 | simp only [go_sem, hlt, hget, hpu, hinc, Int.reduceLE, ↓reduceIte, reduceCtorEq, Nat.reduceEqDiff, Nat.reduceLeDiff, Nat.reduceAdd, Nat.reduceMul, Nat.reduceSub, Nat.reduceLT, hk0, Pg.number]
 | (with_reducible refine CU (Pok_s (by with_unfolding_all rfl)) ?_)
 | (with_reducible refine CU (isr (by with_unfolding_all rfl)) ?_)
 | (with_reducible first | refine CB_ofT (by assumption) fun hc => ?_ | refine CB_ofF (by assumption) fun hc => ?_ | refine CB_split (fun hc => ?_) fun hc => ?_) <;> (try simp only [hc, bs, ↓reduceIte] at h) <;> (try simp only [hc])
 | ((with_reducible first | refine leafR hQ ?_ | refine leafN hQ ?_); (try cases h); simp only [resL, oneD, Option.some.injEq, exists_eq_left', go_sem, hlt, hget, hpu, hinc, Int.reduceLE, ↓reduceIte, reduceCtorEq, Nat.reduceEqDiff, Nat.reduceLeDiff, Nat.reduceAdd, Nat.reduceMul, Nat.reduceSub, Nat.reduceLT, hk0, Pg.number]; repeat' (first | exact Ok.out | with_reducible refine And.intro ?_ ?_ | (simp; done)))
 | (cases h; replace h := hr; clear hr; (try simp only [bs, ↓reduceIte] at h))
 | (cases h; done))
          · cases hr
        · simp only [hk0, ↓reduceIte] at h
          rw [Option.bind_eq_some_iff] at h
          obtain ⟨r3, h3, h⟩ := h
          rw [h3] at hw
          have g3 := (bad_b r2 (by decide) _ h3).2
          have e3 : r3.l = r2.l ∧ r3.i = r2.i := by
            unfold Rd.bad at h3
            simp only [hg2, ↓reduceIte, ht, Option.bind_some, Option.some.injEq] at h3
            rw [← h3]; exact ⟨rfl, rfl⟩
          cases h
          have hc : (r3.code != 0) = true := by simpa [Rd.good] using g3
          simp only [hc, ↓reduceIte] at hr
          cases hr
          have wa := fun {z : D} [Cell z] {s : St} {o : Nat} (ho : s.objs[o]? = some (encRc z r2)) => Pwant_s hw ho
          have pf := fun {z : D} [Cell z] {s : St} {o : Nat} (ho : s.objs[o]? = some (encRc z r3)) => flt g3 e3.1 e3.2 ho
          rw [cN_f g3] at pf
          repeat' (first
 | simp only [go_sem, hlt, hget, hpu, hinc, Int.reduceLE, ↓reduceIte, reduceCtorEq, Nat.reduceEqDiff, Nat.reduceLeDiff, Nat.reduceAdd, Nat.reduceMul, Nat.reduceSub, Nat.reduceLT, hk0, g3, hlN]
 | (with_reducible refine CU (Pok_s (by with_unfolding_all rfl)) ?_)
 | (with_reducible refine CU (isr (by with_unfolding_all rfl)) ?_)
 | (with_reducible refine CU (wa (by with_unfolding_all rfl)) ?_)
 | (with_reducible refine CU (pf (by with_unfolding_all rfl)) ?_)
 | (with_reducible refine SemL.onceW ?_)
 | (with_reducible first | refine CB_ofT (by assumption) fun hc => ?_ | refine CB_ofF (by assumption) fun hc => ?_ | refine CB_split (fun hc => ?_) fun hc => ?_) <;> (try simp only [hc, bs, ↓reduceIte] at h) <;> (try simp only [hc])
 | ((with_reducible first | refine leafR hQ ?_ | refine leafN hQ ?_); (try cases h); simp only [resL, oneD, Option.some.injEq, exists_eq_left', go_sem, hlt, hget, hpu, hinc, Int.reduceLE, ↓reduceIte, reduceCtorEq, Nat.reduceEqDiff, Nat.reduceLeDiff, Nat.reduceAdd, Nat.reduceMul, Nat.reduceSub, Nat.reduceLT, hk0, g3, hlN]; repeat' (first | exact Ok.out | with_reducible refine And.intro ?_ ?_ | (simp; done)))
 | (cases h; replace h := hr; clear hr; (try simp only [bs, ↓reduceIte] at h))
 | (cases h; done))
      · have hb' := Option.some.inj hb
        have hk0 : (t.kind != 0) = true := by
          simp only [Bool.and_eq_true, Bool.or_eq_true, beq_iff_eq] at hb'
          rcases hb'.1 with e | e <;> simp [e]
        simp only [↓reduceIte] at h
        cases h16 : ((l.length : Int) == 16)
        · simp only [h16, Bool.false_eq_true, ↓reduceIte] at h
          have hw : r2.want [112, 114, 111, 99] = some { r2 with i := r2.i + 1 } := by
            simp only [Rd.want, Rd.take, hg2, Bool.not_true, Bool.false_eq_true, ↓reduceIte, Rd.is, ht, Option.bind_some, hb']
          have wa := fun {z : D} [Cell z] {s : St} {o : Nat} (ho : s.objs[o]? = some (encRc z r2)) => Pwant_s hw ho
          rw [Option.bind_eq_some_iff] at h
          obtain ⟨x, hx, h⟩ := h
          rw [Option.bind_eq_some_iff] at h
          obtain ⟨l', hp, h⟩ := h
          obtain ⟨_, rfl⟩ := push_some hp
          have pc := fun {s : St} {o : Nat} (ho : s.objs[o]? = some (encRc (.int .i64 r2.n) { r2 with i := r2.i + 1 })) => Pproc_s (z := .int .i64 r2.n) hx (by rw [← hl2] at hT; exact hT) (fun _ => rfl) (fun _ => hn2) ho
          have hnum := proc_n _ hx
          dsimp only at pc hnum
          have hl16 : l.length + 1 ≤ 16 := by
            have : l.length ≠ 16 := by intro e; simp [e] at h16
            omega
          cases hgo : x.2.good
          · rw [cN_f hgo] at pc
            cases n with
            | zero => simp only [Rd.procs] at h; cases h
            | succ n =>
              simp only [Rd.procs, Rd.isProc, Rd.notEnd, hgo, Bool.false_eq_true, ↓reduceIte, Option.bind_some] at h
              cases h
              have hc : (x.2.code != 0) = true := by simpa [Rd.good] using hgo
              simp only [hc, ↓reduceIte] at hr
              cases hr
              repeat' (first
 | simp only [go_sem, hlt, hget, hpu, hinc, Int.reduceLE, ↓reduceIte, reduceCtorEq, Nat.reduceEqDiff, Nat.reduceLeDiff, Nat.reduceAdd, Nat.reduceMul, Nat.reduceSub, Nat.reduceLT, hk0, hgo, hlN, h16]
 | (with_reducible refine CU (Pok_s (by with_unfolding_all rfl)) ?_)
 | (with_reducible refine CU (isr (by with_unfolding_all rfl)) ?_)
 | (with_reducible refine CU (wa (by with_unfolding_all rfl)) ?_)
 | (with_reducible refine CU (pc (by with_unfolding_all rfl)) ?_)
 | (with_reducible refine SemL.onceW ?_)
 | (with_reducible first | refine CB_ofT (by assumption) fun hc => ?_ | refine CB_ofF (by assumption) fun hc => ?_ | refine CB_split (fun hc => ?_) fun hc => ?_) <;> (try simp only [hc, bs, ↓reduceIte] at h) <;> (try simp only [hc])
 | ((with_reducible first | refine leafR hQ ?_ | refine leafN hQ ?_); (try cases h); simp only [resL, oneD, Option.some.injEq, exists_eq_left', go_sem, hlt, hget, hpu, hinc, Int.reduceLE, ↓reduceIte, reduceCtorEq, Nat.reduceEqDiff, Nat.reduceLeDiff, Nat.reduceAdd, Nat.reduceMul, Nat.reduceSub, Nat.reduceLT, hk0, hgo, hlN, h16]; repeat' (first | exact Ok.out | with_reducible refine And.intro ?_ ?_ | (simp; done)))
 | (cases h; replace h := hr; clear hr; (try simp only [bs, ↓reduceIte] at h))
 | (cases h; done))
          · rw [cN_t hgo] at pc
            have hcnt2 : Pc.cnt 0 (l ++ [x.1]) = x.2.n := by rw [Pc.cnt_app, hcnt]; exact hnum.n hgo
            repeat' (first
 | simp only [go_sem, hlt, hget, hpu, hinc, Int.reduceLE, ↓reduceIte, reduceCtorEq, Nat.reduceEqDiff, Nat.reduceLeDiff, Nat.reduceAdd, Nat.reduceMul, Nat.reduceSub, Nat.reduceLT, hk0, hlN, h16]
 | (with_reducible refine CU (Pok_s (by with_unfolding_all rfl)) ?_)
 | (with_reducible refine CU (isr (by with_unfolding_all rfl)) ?_)
 | (with_reducible refine CU (wa (by with_unfolding_all rfl)) ?_)
 | (with_reducible refine CU (pc (by with_unfolding_all rfl)) ?_)
 | (with_reducible first | refine CB_ofT (by assumption) fun hc => ?_ | refine CB_ofF (by assumption) fun hc => ?_ | refine CB_split (fun hc => ?_) fun hc => ?_) <;> (try simp only [hc, bs, ↓reduceIte] at h) <;> (try simp only [hc])
 | ((with_reducible first | refine leafR hQ ?_ | refine leafN hQ ?_); (try cases h); simp only [resL, oneD, Option.some.injEq, exists_eq_left', go_sem, hlt, hget, hpu, hinc, Int.reduceLE, ↓reduceIte, reduceCtorEq, Nat.reduceEqDiff, Nat.reduceLeDiff, Nat.reduceAdd, Nat.reduceMul, Nat.reduceSub, Nat.reduceLT, hk0, hlN, h16]; repeat' (first | exact Ok.out | with_reducible refine And.intro ?_ ?_ | (simp; done)))
 | (cases h; replace h := hr; clear hr; (try simp only [bs, ↓reduceIte] at h))
 | (cases h; done))
            refine SemL.re _ _ 5 1 (by rw [hB]; exact Nat.le_of_ble_eq_true rfl) (by rw [hB]; exact Nat.le_of_ble_eq_true rfl) ?_ ?_ (IH (n, _, _, l.length + 1) ⟨h, by simp, hgo, hnum.l.trans hl2, hnum.le hgo hn2, hcnt2, by simp; omega⟩ (Nat.lt_succ_self _))
            · (simp only [go_sem, hlt, hget, hpu, hinc, Int.reduceLE, ↓reduceIte, reduceCtorEq, Nat.reduceEqDiff, Nat.reduceLeDiff, Nat.reduceAdd, Nat.reduceMul, Nat.reduceSub, Nat.reduceLT, Pc.nums_app, hcnt, List.map_append, List.map_cons, List.map_nil]; repeat' (first | exact Ok.out | with_reducible refine And.intro ?_ ?_))
            · (simp only [go_sem, hlt, hget, hpu, hinc, Int.reduceLE, ↓reduceIte, reduceCtorEq, Nat.reduceEqDiff, Nat.reduceLeDiff, Nat.reduceAdd, Nat.reduceMul, Nat.reduceSub, Nat.reduceLT, Pc.nums_app, hcnt, List.map_append, List.map_cons, List.map_nil]; repeat' (first | exact Ok.out | with_reducible refine And.intro ?_ ?_))
        · simp only [h16, ↓reduceIte] at h
          rw [Option.bind_eq_some_iff] at h
          obtain ⟨r3, h3, h⟩ := h
          have g3 := (bad_b r2 (by decide) _ h3).2
          have e3 : r3.l = r2.l ∧ r3.i = r2.i := by
            unfold Rd.bad at h3
            simp only [hg2, ↓reduceIte, ht, Option.bind_some, Option.some.injEq] at h3
            rw [← h3]; exact ⟨rfl, rfl⟩
          cases h
          have hc : (r3.code != 0) = true := by simpa [Rd.good] using g3
          simp only [hc, ↓reduceIte] at hr
          cases hr
          have fl := fun {z : D} [Cell z] {s : St} {o : Nat} (ho : s.objs[o]? = some (encRc z r2)) => Pfail_s h3 ho
          have wa := fun {z : D} [Cell z] {s : St} {o : Nat} (ho : s.objs[o]? = some (encRc z r3)) => Pwant_s (want_f g3 [112, 114, 111, 99]) ho
          have pf := fun {z : D} [Cell z] {s : St} {o : Nat} (ho : s.objs[o]? = some (encRc z r3)) => flt g3 e3.1 e3.2 ho
          rw [cN_f g3] at pf
          repeat' (first
 | simp only [go_sem, hlt, hget, hpu, hinc, Int.reduceLE, ↓reduceIte, reduceCtorEq, Nat.reduceEqDiff, Nat.reduceLeDiff, Nat.reduceAdd, Nat.reduceMul, Nat.reduceSub, Nat.reduceLT, hk0, g3, hlN, h16]
 | (with_reducible refine CU (Pok_s (by with_unfolding_all rfl)) ?_)
 | (with_reducible refine CU (isr (by with_unfolding_all rfl)) ?_)
 | (with_reducible refine CU (fl (by with_unfolding_all rfl)) ?_)
 | (with_reducible refine CU (wa (by with_unfolding_all rfl)) ?_)
 | (with_reducible refine CU (pf (by with_unfolding_all rfl)) ?_)
 | (with_reducible refine SemL.onceW ?_)
 | (with_reducible first | refine CB_ofT (by assumption) fun hc => ?_ | refine CB_ofF (by assumption) fun hc => ?_ | refine CB_split (fun hc => ?_) fun hc => ?_) <;> (try simp only [hc, bs, ↓reduceIte] at h) <;> (try simp only [hc])
 | ((with_reducible first | refine leafR hQ ?_ | refine leafN hQ ?_); (try cases h); simp only [resL, oneD, Option.some.injEq, exists_eq_left', go_sem, hlt, hget, hpu, hinc, Int.reduceLE, ↓reduceIte, reduceCtorEq, Nat.reduceEqDiff, Nat.reduceLeDiff, Nat.reduceAdd, Nat.reduceMul, Nat.reduceSub, Nat.reduceLT, hk0, g3, hlN, h16]; repeat' (first | exact Ok.out | with_reducible refine And.intro ?_ ?_ | (simp; done)))
 | (cases h; replace h := hr; clear hr; (try simp only [bs, ↓reduceIte] at h))
 | (cases h; done))

theorem RParse_s {m : Nat} {text : Str} {p : Pg × Int × Int} (h : parseM (m + 2) text = some p) (hT : TW (lexAll text).1) (hl : text.length < 4611686018427387904) (s : St) :
    Fun Try.prog n_ref3_Parse [.str text] s (.tuple [.agg (encPg p.1), .agg (encF p.2)]) s := by
  refine Fun.pure ?_ rfl (by simp [D.ok, D.oks, okPg, encF]) s
  unfold parseM at h
  have hlex := Lex_s text hl
  generalize lexAll text = t at h hlex hT
  cases hc : t.2.1 != 0
  · simp only [hc, Bool.false_eq_true, ↓reduceIte] at h
    unfold S0
    refine Fun.go has_ref3_Parse rfl fun B Q hB hQ => ?_
    have hlt : 0 < 1 := Nat.zero_lt_one
    have hget : 0 < 1 := Nat.zero_lt_one
    have hpu : 0 < 1 := Nat.zero_lt_one
    have hinc : 0 < 1 := Nat.zero_lt_one
    repeat' (first
 | simp only [go_sem, hlt, hget, hpu, hinc, Int.reduceLE, ↓reduceIte, reduceCtorEq, Nat.reduceEqDiff, Nat.reduceLeDiff, Nat.reduceAdd, Nat.reduceMul, Nat.reduceSub, Nat.reduceLT, hc]
 | (with_reducible refine CU (hlex _) ?_)
 | (with_reducible first | refine CB_ofT (by assumption) fun hc => ?_ | refine CB_ofF (by assumption) fun hc => ?_ | refine CB_split (fun hc => ?_) fun hc => ?_) <;> (try simp only [hc, bs, ↓reduceIte] at h) <;> (try simp only [hc])
 | ((with_reducible first | refine leafR hQ ?_ | refine leafN hQ ?_); (try cases h); simp only [resL, oneD, Option.some.injEq, exists_eq_left', go_sem, hlt, hget, hpu, hinc, Int.reduceLE, ↓reduceIte, reduceCtorEq, Nat.reduceEqDiff, Nat.reduceLeDiff, Nat.reduceAdd, Nat.reduceMul, Nat.reduceSub, Nat.reduceLT, hc]; repeat' (first | exact Ok.out | with_reducible refine And.intro ?_ ?_ | (simp; done)))
 | (cases h; replace h := hr; clear hr; (try simp only [bs, ↓reduceIte] at h))
 | (cases h; done))
    rw [Option.bind_eq_some_iff] at h
    obtain ⟨q, h, hr⟩ := h
    unfold Rd.program at h
    rw [Option.bind_eq_some_iff] at h
    obtain ⟨q1, h, hr1⟩ := h
    rw [Option.bind_eq_some_iff] at hr1
    obtain ⟨q2, h2, hr1⟩ := hr1
    cases hr1
    have htail : ((Rd.procs (m + 2) (m + 2) [] q1.2).bind fun q => if q.2.code != 0 then some (pg0, q.2.code, q.2.fat) else ((⟨q1.1, q.1⟩ : Pg).numberO).bind fun x => some (x, 0, 0)) = some p := by
      rw [h2, Option.bind_some]; exact hr
    refine SemL.tokO 4 0 1 rfl rfl ?_
    simp only [go_sem, hlt, hget, hpu, hinc, Int.reduceLE, ↓reduceIte, reduceCtorEq, Nat.reduceEqDiff, Nat.reduceLeDiff, Nat.reduceAdd, Nat.reduceMul, Nat.reduceSub, Nat.reduceLT]
    refine SemL.re _ _ 5 1 (by rw [hB]; exact Nat.le_of_ble_eq_true rfl) (by rw [hB]; exact Nat.le_of_ble_eq_true rfl) ?_ ?_ (SemL.ind (ι := Nat × List Str × Rd × Nat) (fun i => Rd.globals (m + 2) i.1 i.2.1 i.2.2.1 = some q1 ∧ i.2.2.2 = i.2.1.length ∧ Keep (rd0 t.1) i.2.2.1) (fun i => i.1)
      (fun i => [(2, .ptr 0 0), (3, .ptr 1 0), (6, .ptr 3 0), (7, .ptr 4 0)]) (fun i => ⟨[[.slice .full 0 [], .slice .full 0 []], [.int .i64 0, .int .i64 0], [.junk, .junk], encRc (.int .i64 0) i.2.2.1, [.slice (.tok 0) 1 (i.2.1.map encStr), .slice .full 0 []]], [some i.2.2.2]⟩) ?_ (m + 2, [], rd0 t.1, 0) ⟨h, rfl, Keep.refl _⟩)
    · (simp only [go_sem, hlt, hget, hpu, hinc, Int.reduceLE, ↓reduceIte, reduceCtorEq, Nat.reduceEqDiff, Nat.reduceLeDiff, Nat.reduceAdd, Nat.reduceMul, Nat.reduceSub, Nat.reduceLT, rd0]; repeat' (first | exact Ok.out | with_reducible refine And.intro ?_ ?_))
    · (simp only [go_sem, hlt, hget, hpu, hinc, Int.reduceLE, ↓reduceIte, reduceCtorEq, Nat.reduceEqDiff, Nat.reduceLeDiff, Nat.reduceAdd, Nat.reduceMul, Nat.reduceSub, Nat.reduceLT, rd0]; repeat' (first | exact Ok.out | with_reducible refine And.intro ?_ ?_))
    rintro ⟨n, l, r2, k⟩ ⟨h, hk, hkp⟩ IH
    dsimp only at hk hkp; subst hk
    cases n with
    | zero => simp only [Rd.globals] at h; cases h
    | succ n =>
      simp only [Rd.globals] at h
      rw [Option.bind_eq_some_iff] at h
      obtain ⟨c, hc, h⟩ := h
      have kc := take_k hkp _ _ hc
      have tk := fun {z : D} [Cell z] {s : St} {o : Nat} (ho : s.objs[o]? = some (encRc z r2)) => Ptake_s hc ho
      cases hc1 : c.1
      · simp only [hc1, Bool.false_eq_true, ↓reduceIte] at h
        cases h
        repeat' (first
 | simp only [go_sem, hlt, hget, hpu, hinc, Int.reduceLE, ↓reduceIte, reduceCtorEq, Nat.reduceEqDiff, Nat.reduceLeDiff, Nat.reduceAdd, Nat.reduceMul, Nat.reduceSub, Nat.reduceLT, hc1]
 | (with_reducible refine CU (tk (by with_unfolding_all rfl)) ?_)
 | (with_reducible first | refine CB_ofT (by assumption) fun hc => ?_ | refine CB_ofF (by assumption) fun hc => ?_ | refine CB_split (fun hc => ?_) fun hc => ?_) <;> (try simp only [hc, bs, ↓reduceIte] at h) <;> (try simp only [hc])
 | ((with_reducible first | refine leafR hQ ?_ | refine leafN hQ ?_); (try cases h); simp only [resL, oneD, Option.some.injEq, exists_eq_left', go_sem, hlt, hget, hpu, hinc, Int.reduceLE, ↓reduceIte, reduceCtorEq, Nat.reduceEqDiff, Nat.reduceLeDiff, Nat.reduceAdd, Nat.reduceMul, Nat.reduceSub, Nat.reduceLT, hc1]; repeat' (first | exact Ok.out | with_reducible refine And.intro ?_ ?_ | (simp; done)))
 | (cases h; replace h := hr; clear hr; (try simp only [bs, ↓reduceIte] at h))
 | (cases h; done))
        refine SemL.re _ _ 5 0 (by rw [hB]; exact Nat.le_of_ble_eq_true rfl) (by rw [hB]; exact Nat.le_of_ble_eq_true rfl) ?_ ?_ (rparse_tail hB hQ htail (by rw [kc.l]; exact hT) kc.n)
        · (simp only [go_sem, hlt, hget, hpu, hinc, Int.reduceLE, ↓reduceIte, reduceCtorEq, Nat.reduceEqDiff, Nat.reduceLeDiff, Nat.reduceAdd, Nat.reduceMul, Nat.reduceSub, Nat.reduceLT]; repeat' (first | exact Ok.out | with_reducible refine And.intro ?_ ?_))
        · (simp only [go_sem, hlt, hget, hpu, hinc, Int.reduceLE, ↓reduceIte, reduceCtorEq, Nat.reduceEqDiff, Nat.reduceLeDiff, Nat.reduceAdd, Nat.reduceMul, Nat.reduceSub, Nat.reduceLT]; repeat' (first | exact Ok.out | with_reducible refine And.intro ?_ ?_))
      · simp only [hc1, ↓reduceIte] at h
        have hcg := (take_good hc hc1).1
        rw [Option.bind_eq_some_iff] at h
        obtain ⟨x, hx, h⟩ := h
        have ls := fun {z : D} [Cell z] {s : St} {o t : Nat} (ho : s.objs[o]? = some (encRc z c.2)) (ht : s.toks[t]? = some (some l.length)) => Plist_s hx hcg ho ht
        repeat' (first
 | simp only [go_sem, hlt, hget, hpu, hinc, Int.reduceLE, ↓reduceIte, reduceCtorEq, Nat.reduceEqDiff, Nat.reduceLeDiff, Nat.reduceAdd, Nat.reduceMul, Nat.reduceSub, Nat.reduceLT, hc1]
 | (with_reducible refine CU (tk (by with_unfolding_all rfl)) ?_)
 | (with_reducible refine CU (ls (by with_unfolding_all rfl) (by with_unfolding_all rfl)) ?_)
 | (with_reducible first | refine CB_ofT (by assumption) fun hc => ?_ | refine CB_ofF (by assumption) fun hc => ?_ | refine CB_split (fun hc => ?_) fun hc => ?_) <;> (try simp only [hc, bs, ↓reduceIte] at h) <;> (try simp only [hc])
 | ((with_reducible first | refine leafR hQ ?_ | refine leafN hQ ?_); (try cases h); simp only [resL, oneD, Option.some.injEq, exists_eq_left', go_sem, hlt, hget, hpu, hinc, Int.reduceLE, ↓reduceIte, reduceCtorEq, Nat.reduceEqDiff, Nat.reduceLeDiff, Nat.reduceAdd, Nat.reduceMul, Nat.reduceSub, Nat.reduceLT, hc1]; repeat' (first | exact Ok.out | with_reducible refine And.intro ?_ ?_ | (simp; done)))
 | (cases h; replace h := hr; clear hr; (try simp only [bs, ↓reduceIte] at h))
 | (cases h; done))
        refine SemL.re _ _ 5 1 (by rw [hB]; exact Nat.le_of_ble_eq_true rfl) (by rw [hB]; exact Nat.le_of_ble_eq_true rfl) ?_ ?_ (IH (n, _, _, _) ⟨h, rfl, names_k _ _ _ kc _ hx⟩ (Nat.lt_succ_self _))
        · (simp only [go_sem, hlt, hget, hpu, hinc, Int.reduceLE, ↓reduceIte, reduceCtorEq, Nat.reduceEqDiff, Nat.reduceLeDiff, Nat.reduceAdd, Nat.reduceMul, Nat.reduceSub, Nat.reduceLT]; repeat' (first | exact Ok.out | with_reducible refine And.intro ?_ ?_))
        · (simp only [go_sem, hlt, hget, hpu, hinc, Int.reduceLE, ↓reduceIte, reduceCtorEq, Nat.reduceEqDiff, Nat.reduceLeDiff, Nat.reduceAdd, Nat.reduceMul, Nat.reduceSub, Nat.reduceLT]; repeat' (first | exact Ok.out | with_reducible refine And.intro ?_ ?_))
  · simp only [hc, ↓reduceIte] at h
    unfold S0
    refine Fun.go has_ref3_Parse rfl fun B Q hB hQ => ?_
    have hlt : 0 < 1 := Nat.zero_lt_one
    have hget : 0 < 1 := Nat.zero_lt_one
    have hpu : 0 < 1 := Nat.zero_lt_one
    have hinc : 0 < 1 := Nat.zero_lt_one
    repeat' (first
 | simp only [go_sem, hlt, hget, hpu, hinc, Int.reduceLE, ↓reduceIte, reduceCtorEq, Nat.reduceEqDiff, Nat.reduceLeDiff, Nat.reduceAdd, Nat.reduceMul, Nat.reduceSub, Nat.reduceLT, hc]
 | (with_reducible refine CU (hlex _) ?_)
 | (with_reducible first | refine CB_ofT (by assumption) fun hc => ?_ | refine CB_ofF (by assumption) fun hc => ?_ | refine CB_split (fun hc => ?_) fun hc => ?_) <;> (try simp only [hc, bs, ↓reduceIte] at h) <;> (try simp only [hc])
 | ((with_reducible first | refine leafR hQ ?_ | refine leafN hQ ?_); (try cases h); simp only [resL, oneD, Option.some.injEq, exists_eq_left', go_sem, hlt, hget, hpu, hinc, Int.reduceLE, ↓reduceIte, reduceCtorEq, Nat.reduceEqDiff, Nat.reduceLeDiff, Nat.reduceAdd, Nat.reduceMul, Nat.reduceSub, Nat.reduceLT, hc]; repeat' (first | exact Ok.out | with_reducible refine And.intro ?_ ?_ | (simp; done)))
 | (cases h; replace h := hr; clear hr; (try simp only [bs, ↓reduceIte] at h))
 | (cases h; done))

end Go.Abs

/-! Glue2 -/

namespace Go.Abs

def M0 : Map := ⟨fun _ _ => none, fun _ => 0, fun _ => none⟩

/-- Of what was there nothing turns. -/
def Kept (w w' : World) : Prop := w.keptBut w' (fun _ => False) ∧ ∀ a : Addr, a.block < w.heap.size → w'.frozen? a = w.frozen? a

theorem Kept.frame {w w' : World} (h : Kept w w') (may : MemPlace → Prop) : w.keptBut w' may := World.keptBut_mono (fun _ f => f.elim) h.1

theorem Ext.toKept {M M' : Map} {s' : St} {w w' : World} (e : Ext M S0 w M' s' w') : Kept w w' := by
  have hh : ∀ b, b < w.heap.size → w'.heap[b]? = w.heap[b]? := fun b hb =>
    e.kept b hb (fun o ho => by simp [S0] at ho) (fun t c z hl => by obtain ⟨n, hn⟩ := hl; simp [S0] at hn)
  refine ⟨⟨e.os, e.output, fun i hi => ?_⟩, fun a ha => ?_⟩
  · rw [hh i hi]
    exact (World.keptBut_refl w (fun _ => False)).2.2 i hi
  · simp only [World.frozen?, hh _ ha]

theorem rel0 (G : Nat → Nat → Option Value) (w : World) (h : ∀ b o v, G b o = some v → w.cell? ⟨b, o, none⟩ = some v ∧ v.oneCell' = true) : Rel ⟨G, fun _ => 0, fun _ => none⟩ S0 w :=
  ⟨h, fun o ds e => by simp [S0] at e, fun o ho => by simp [S0] at ho, fun o o' ho => by simp [S0] at ho, fun t n e => by simp [S0] at e,
    fun t b c z o hl => by obtain ⟨n, hn⟩ := hl; simp [S0] at hn, fun t t' b c z c' z' hl => by obtain ⟨n, hn⟩ := hl; simp [S0] at hn⟩

/-- A law is called. -/
theorem law_calls {P : Program} {f : FuncId} {args : List D} {vargs : Array Value} {w : World} {G : Nat → Nat → Option Value} (h : ACalls P f args S0 fun d _ => d = .bool true)
    (hG : ∀ b o v, G b o = some v → w.cell? ⟨b, o, none⟩ = some v ∧ v.oneCell' = true) (hl : vargs.size = args.length)
    (ha : ∀ (i : Nat) (d : D) (v : Value), args[i]? = some d → vargs[i]? = some v → RD ⟨G, fun _ => 0, fun _ => none⟩ S0 d v) :
    Calls P f vargs w fun e w' => e = .returned (.bool true) ∧ Kept w w' := by
  refine (h _ w vargs (rel0 G w hG) hl ha).mono fun e w' hw => ?_
  obtain ⟨M', d, v, s', rfl, rfl, he, _, hv⟩ := hw
  rw [hv.bool_inv]
  exact ⟨rfl, he.toKept⟩

section
variable {P : Program} {H : Type} {enc : TypeId × Value → H}

/-- The row's closing condition, where nothing turns of what was there. -/
theorem post_of_kept {f : Func} {s : ChangeSpec} {apart fresh handsOn again : Bool} {W W' : World} {args : Array Value} {v : Value} {ds gs : List (DataW H)} {before pa pv : List MemPlace}
    (hW : DataW.Whole enc P f.params.toList s.vars apart W args.toList ds gs before)
    (hres : ∀ (b : Nat) (sp : Nat → Bool) (hd : Bool), DataW.TrodAll enc P W' b sp hd f.resultTypes.toList (v.resultList f.resultTypes.size) (s.fn H (ds ++ gs)).results [])
    (hargs : ∀ sp : Nat → Bool, (∀ p ∈ before, sp p.block = true) → DataW.TrodAll enc P W' 0 sp true f.params.toList args.toList (s.fn H (ds ++ gs)).args pa)
    (hvars : ∀ sp : Nat → Bool, (∀ p ∈ before, sp p.block = true) → DataW.TrodVars enc P W' sp s.vars (s.fn H (ds ++ gs)).vars pv)
    (hps : before = pa ++ pv) (hk : Kept W W')
    (hok : ∀ (j : Nat) (t : TypeId) (r : Value), f.resultTypes[j]? = some t → (v.resultList f.resultTypes.size)[j]? = some r → Value.okWide P W' .any 0 t r) :
    s.post enc P f apart fresh handsOn again W args v W' := by
  have hlt : ∀ p ∈ before, p.block < W.heap.size := fun p hp => hW.lt p hp
  have hold : ∀ p ∈ before, (fun b => decide (b < W.heap.size)) p.block = true := fun p hp => by simpa using hlt p hp
  refine ⟨ds, gs, before, [], pa, pv, hW, hres _ _ _, hargs _ hold, hvars _ hold, World.keptBut_mono (fun p hp => ⟨hp, ?_⟩) (hk.frame (· ∈ before)), fun _ => ?_⟩
  · rw [hps, List.mem_append] at hp
    exact Or.inr hp
  · obtain ⟨_, _, _, _, _, hz, hn⟩ := hW
    refine ⟨hok, _, _, ([] ++ pa) ++ pv, ⟨[] ++ pa, pv, ChangeShapes.trodAll_append (hargs _ (fun _ _ => rfl)) (hres _ _ _), hvars _ (fun _ _ => rfl), rfl, ?_, ?_⟩, ?_⟩
    · intro b off hp
      have hp' : MemPlace.cell b off ∈ before := by rw [hps]; simpa using hp
      rw [hk.2 _ (hlt _ hp')]
      exact hz b off hp'
    · intro ha
      have := hn ha
      rw [hps] at this
      simpa using this
    · intro p hp _
      rw [hps]
      simpa using hp
end
end Go.Abs

/-! LawAll -/

namespace Go.Abs

set_option maxRecDepth 8000
set_option linter.unusedSimpArgs false
set_option linter.unusedVariables false
open Go.Proofs

def NW (t : Tok) : Prop := t.kind = 4 → begW t.text = false

theorem begW_letter {c : UInt8} {r : Str} (h : begW (c :: r) = true) : isL c = true := by
  simp only [begW, Bool.or_eq_true, beq_iff_eq, List.cons.injEq] at h
  rcases h with ((((((h | h) | h) | h) | h) | h) | h) | h <;> rw [h.1] <;> rfl

theorem tokE_word {pos : Nat} {s : Str} {t : Tok} (h : tokE pos s = .inl t) : NW t := by
  intro hk
  cases s with
  | nil => simp only [tokE] at h; cases h
  | cons c r =>
    simp only [tokE] at h
    split at h
    · split at h
      · cases h
      · cases h; dsimp only at hk; split at hk <;> omega
    · rename_i hL
      split at h
      · split at h
        · cases h
        · split at h
          · cases h; simp at hk
          · cases h
      · split at h
        · cases h
        · rename_i hs
          cases h
          dsimp only
          obtain ⟨k, hk⟩ := Nat.exists_eq_succ_of_ne_zero hs
          rw [hk, List.take_succ_cons]
          cases hb : begW (c :: List.take k r)
          · rfl
          · exact absurd (begW_letter hb) hL

theorem lexF_word : ∀ (n pos : Nat) (s : Str) (out : List Tok), (∀ t ∈ out, NW t) → ∀ t ∈ (lexF n pos s out).1, NW t := by
  intro n
  induction n with
  | zero => intro pos s out h t ht; simp [lexF] at ht
  | succ n ih =>
    intro pos s out h
    cases s with
    | nil =>
      intro t ht
      simp only [lexF] at ht
      rcases List.mem_append.1 ht with h1 | h1
      · exact h t h1
      · simp at h1; subst h1; intro hk; simp at hk
    | cons c r =>
      simp only [lexF]
      split
      · exact ih _ _ _ h
      · split
        · exact ih _ _ _ h
        · cases ht : tokE pos (c :: r) with
          | inr e => simp
          | inl t =>
            dsimp only
            split
            · simp
            · refine ih _ _ _ ?_
              intro t' ht'
              rcases List.mem_append.1 ht' with h1 | h1
              · exact h t' h1
              · simp at h1; subst h1; exact tokE_word ht

theorem lexAll_TW (text : Str) : TW (lexAll text).1 := by
  unfold lexAll
  split
  · intro t ht; simp at ht
  · exact lexF_word _ _ _ _ (by simp)

theorem RParse_c {text : Str} {p : Pg × Int × Int} (h : parseM fuelM text = some p) (hl : text.length < 4611686018427387904) (s : St) :
    Fun Try.prog n_ref3_Parse [.str text] s (.tuple [.agg (encPg p.1), .agg (encF p.2)]) s :=
  RParse_s (m := 19998) h (lexAll_TW text) hl s

theorem ParseAll_true (text : Str) : Fun Try.prog n_law4_ParseAll [.str text] S0 (.bool true) S0 := by
  obtain ⟨p, h, hsz⟩ := parseM_t (cutM text)
  have h1 := fun s => Parse_s h (cutM_len text) s
  have h2 := fun s => RParse_c h (cutM_len text) s
  have h3 := fun s => Eq_s (a := p.1) (b := p.1) (by omega) s
  rw [Pg.beq_refl] at h3
  have e1 : (p.2.1 == p.2.1) = true := by simp
  have e2 : (p.2.2 == p.2.2) = true := by simp
  clear h
  unfold S0
  refine Fun.go has_law4_ParseAll rfl fun B Q hB hQ => ?_
  have hlt : 0 < 1 := Nat.zero_lt_one
  have hget : 0 < 1 := Nat.zero_lt_one
  have hpu : 0 < 1 := Nat.zero_lt_one
  have hinc : 0 < 1 := Nat.zero_lt_one
  repeat' (first
 | simp only [go_sem, hlt, hget, hpu, hinc, Int.reduceLE, ↓reduceIte, reduceCtorEq, Nat.reduceEqDiff, Nat.reduceLeDiff, Nat.reduceAdd, Nat.reduceMul, Nat.reduceSub, Nat.reduceLT, e1, e2]
 | (with_reducible refine CU (parsed_0 _) ?_)
 | (with_reducible refine CU (Cut_s _ _) ?_)
 | (with_reducible refine CU (h1 _) ?_)
 | (with_reducible refine CU (h2 _) ?_)
 | (with_reducible refine CU (h3 _) ?_)
 | (with_reducible first | refine CB_ofT (by assumption) fun hc => ?_ | refine CB_ofF (by assumption) fun hc => ?_ | refine CB_split (fun hc => ?_) fun hc => ?_) <;> (try simp only [hc, bs, ↓reduceIte] at h) <;> (try simp only [hc])
 | ((with_reducible first | refine leafR hQ ?_ | refine leafN hQ ?_); (try cases h); simp only [resL, oneD, Option.some.injEq, exists_eq_left', go_sem, hlt, hget, hpu, hinc, Int.reduceLE, ↓reduceIte, reduceCtorEq, Nat.reduceEqDiff, Nat.reduceLeDiff, Nat.reduceAdd, Nat.reduceMul, Nat.reduceSub, Nat.reduceLT, e1, e2]; repeat' (first | exact Ok.out | with_reducible refine And.intro ?_ ?_ | (simp; done)))
 | (cases h; replace h := hr; clear hr; (try simp only [bs, ↓reduceIte] at h))
 | (cases h; done))

end Go.Abs

/-! ParseAll -/

namespace Go.Proofs.Ytecpopiacpckiaa.parseAll
open Go.ChangeShapes Go.WideShapes Go.ChangeAt Go.RowKit Go.Abs
set_option linter.unusedVariables false

theorem own : ownKnob Try.prog.godebug = none := by kernel_rfl

theorem walk (w : World) (b : ByteArray) : Calls Try.prog 3 #[.string b] w fun e w' => e = .returned (.bool true) ∧ Kept w w' := by
  refine law_calls (args := [.str b.data.toList]) (G := fun _ _ => none) ((ParseAll_true b.data.toList).mono fun _ _ h => h.1) (by simp) rfl ?_
  intro i d v h1 h2
  cases i with
  | zero =>
    simp at h1 h2
    subst h1 h2
    have : b = ⟨⟨b.data.toList⟩⟩ := rfl
    exact RD.str _
  | succ i => simp at h1

set_option maxRecDepth 100000 in
theorem lifted (os : Os) (started : os.Started) (H : Type) (enc : TypeId × Value → H) :
    ReturnsInHanded {} Try.checked os 3 .any (Rows.parseAllSpec.pre6 enc Try.prog Try.f3 Rows.parseAllRow.domain false) (Rows.parseAllSpec.post enc Try.prog Try.f3 false true false false) := by
  refine returnsInHanded_of_change (C := Try.checked) own started (by kernel_rfl) Try.func3
    (ChangeSpec.witness6 (enc := enc) (C := Try.checked) false ⟨#[], #[.string ⟨#[]⟩], []⟩ 8 (by kernel_rfl) (by kernel_rfl) (by kernel_rfl) (by kernel_rfl)) ?_
  intro W base args ds gs before hval0 hW hcnd _
  have hval : ∀ (j : Nat) t v, Try.f3.params[j]? = some t → args[j]? = some v → Value.okWide Try.prog W .any base t v := hval0
  have hW' := hW
  obtain ⟨p, q, hA0, hV, rfl, hfz, hnd⟩ := hW
  have hA : DataW.TrodAll enc Try.prog W 0 (fun _ => true) true Try.f3.params.toList args.toList ds p := hA0
  rw [Try.params3] at hA hval
  obtain ⟨v0, d0, rfl, rfl, hd0⟩ := trodAll_one hA
  obtain ⟨s, rfl, rfl, rfl, hs⟩ := Go.ChangeMaps.open_string Try.underlying9 (hval 0 _ _ rfl rfl) hd0
  obtain ⟨rfl, rfl⟩ := trodVars_none hV
  clear hA0 hval0
  simp only [List.append_nil] at hW'
  refine (walk W s).mono fun e W' ⟨he, hg⟩ => ?_
  subst he
  exact ⟨_, rfl, post_of_kept (pa := []) (pv := []) hW' (fun _ _ _ => (trodAll_cons_mk (shut_bool Try.underlying4 _) trodAll_mk0)) (fun sp _ => (trodAll_cons_mk (Go.ChangeMaps.shut_string Try.underlying9 hs) trodAll_mk0)) (fun _ _ => rfl) rfl
    hg (ok_one (by kernel_rfl) rfl (okWide_bool_mk Try.underlying4 _))⟩

theorem over : Rows.parseAllRow.holds Try.pinned (OpenSpec.ofChange Rows.parseAllSpec) :=
  OpenClaim.holds_of_wide 3 Try.f3 rfl rfl rfl rfl rfl rfl rfl ⟨rfl, rfl, rfl, rfl, rfl⟩ rfl rfl rfl rfl rfl (by kernel_rfl) Try.func3 (by kernel_rfl)
    (of_decide_eq_true (by kernel_rfl)) (by unfold Func.isWrapper; first | (rw [if_pos (by decide +kernel)]; kernel_rfl) | (rw [if_neg (by decide +kernel)]; exact ⟨rfl, rfl⟩))
    (fun os started H enc _ => lifted os started H enc)

theorem proved : Rows.ParseAllSaid :=
  over
#print axioms proved
end Go.Proofs.Ytecpopiacpckiaa.parseAll
