/-
  What is proved here: the statement PrintLinesCardSaid: whatever the program, the law, called, gives true, and of what was there nothing turns.
  No conditions.
-/
import Derived.Test.YtcknbmdkefcinaaDoorPyE3
import Derived.RowKit3
import Derived.WalkKit
import Derived.ProofKit
import Derived.OpenShut
import Derived.ShutString
import Derived.ChangeMaps5
import Derived.ChangeStays
import Derived.KernelRfl
import Derived.Test.YtcknbmdkefcinaaDoorRows
import Derived.Lib.LaidTab
import Derived.Lib.LaidIn
import Derived.LaidSub
import Derived.Test.YtcknbmdkefcinaaDoorCards
import Derived.Test.YtcknbmdkefcinaaDoorTie
import Derived.SevenTiedAt

set_option linter.unusedSimpArgs false
set_option linter.unusedVariables false

/-! Pr4 -/

namespace Go.Abs

set_option maxRecDepth 8000
set_option linter.unusedSimpArgs false
set_option linter.unusedVariables false
open Go.Proofs

def paramS (a : Pm) : Str := (if a.ref then [114, 101, 102, 32] else []) ++ a.name
def procS (f : Pc) : Str :=
  lineS 0 ([112, 114, 111, 99, 32] ++ f.name ++ [40] ++ Lib.join (f.params.map paramS) [44, 32] ++ [41, 32, 123]) ++ (if f.vars.length = 0 then [] else lineS 1 ([118, 97, 114, 32] ++ Lib.join f.vars [44, 32] ++ [59])) ++ rowsS 1 f.body ++ lineS 0 (marksS f.fin ++ [125])
def procsS : List Pc → Str
  | [] => []
  | f :: l => procS f ++ procsS l
def globsS (l : List Str) : Str := if l.length = 0 then [] else lineS 0 ([103, 108, 111, 98, 97, 108, 32] ++ Lib.join l [44, 32] ++ [59])
def textS (p : Pg) : Str := globsS p.globals ++ procsS p.procs

/-- What is written of a procedure, of a program that may be. -/
structure Pc.PrP (f : Pc) : Prop where
  name : f.name.length ≤ 8
  params : ∀ a ∈ f.params, a.name.length ≤ 8
  vars : ∀ t ∈ f.vars, t.length ≤ 8
  fin : ∀ t ∈ f.fin, t.length ≤ 8
  body : Sm.PrRs 1 f.body
structure Pg.PrG (p : Pg) : Prop where
  globals : ∀ t ∈ p.globals, t.length ≤ 8
  procs : ∀ f ∈ p.procs, f.PrP

theorem short_len (sep : Str) {l : List Str} {n : Nat} (h : ∀ t ∈ l, t.length ≤ n) : (Lib.join l sep).length ≤ (n + sep.length) * l.length := by
  have h1 := join_len sep l
  have h2 : (l.map (·.length)).sum ≤ n * l.length := by
    clear h1
    induction l with
    | nil => simp
    | cons a l ih =>
      have := h a (List.mem_cons_self ..)
      have := ih fun t m => h t (List.mem_cons_of_mem _ m)
      simp only [List.map_cons, List.sum_cons, List.length_cons, Nat.mul_add, Nat.mul_one]; omega
  rw [Nat.add_mul]; omega
theorem params_len {l : List Pm} (h : ∀ a ∈ l, a.name.length ≤ 8) : (Lib.join (l.map paramS) [44, 32]).length ≤ 14 * l.length := by
  have := short_len [44, 32] (l := l.map paramS) (n := 12) (by
    intro t m
    obtain ⟨a, ha, rfl⟩ := List.mem_map.1 m
    have := h a ha
    unfold paramS
    split <;> simp only [List.length_append, List.length_cons, List.length_nil] <;> omega)
  simpa using this

theorem globsS_len {l : List Str} (h : ∀ t ∈ l, t.length ≤ 8) : (globsS l).length ≤ 10 * l.length + 9 := by
  have := short_len [44, 32] h
  unfold globsS
  split
  · simp
  · simp only [List.length_append, List.length_cons, List.length_nil, lineS_len] at this ⊢; omega

theorem procS_len {f : Pc} (h : f.PrP) : (procS f).length ≤ 200 * f.size := by
  have h1 := params_len h.params
  have h2 := short_len [44, 32] h.vars
  have h3 := marksS_len h.fin
  have h4 := rowsS_len f.body h.body
  have h5 := h.name
  unfold procS Pc.size
  simp only [List.length_cons, List.length_nil] at h2
  split <;> simp only [List.length_append, List.length_cons, List.length_nil, lineS_len] <;> omega
theorem procsS_len : ∀ {l : List Pc}, (∀ f ∈ l, f.PrP) → (procsS l).length ≤ 200 * Pc.sizes l
  | [], _ => by simp [procsS]
  | f :: l, h => by
    have h1 := procS_len (h f (List.mem_cons_self ..))
    have h2 := procsS_len fun t m => h t (List.mem_cons_of_mem _ m)
    simp only [procsS, Pc.sizes, List.length_append]; omega

/-! ### The walk -/

/-- A row of lines. -/
theorem prows_z {l : List Sm} (hs : Sm.sizes l ≤ 1000000) {inn : Nat} (hp : Sm.PrRs inn l) {acc : Str} (hb : acc.length + 200 * Sm.sizes l ≤ 540000000000) {s : St} {o t : Nat} (ho : s.objs[o]? = some (bobj o t acc)) (ht : s.toks[t]? = some (some (slen acc))) :
    Fun Tryd.prog n_print_writer_rows [.ptr o 0, .slice .shared 13 (l.map encSm), .int .i64 inn] s (.tuple []) ⟨s.objs.set o (bobj o t (acc ++ rowsS inn l)), s.toks.set t (some (slen (acc ++ rowsS inn l)))⟩ :=
  (prows_n _ l (Nat.le_refl _) hs inn hp acc hb).bldz (by simp [D.oks, D.ok, okrSm, Tag.ok]) rfl ho ht

/-- The first line of a writer. -/
theorem line_first (n : Nat) (m : Str) (h : n + m.length + 1 ≤ 549755813888) {s : St} {o : Nat} (ho : s.objs[o]? = some [.selfp tWriter o, .val (.slice none 0 0)]) :
    Fun Tryd.prog n_print_writer_line [.ptr o 0, .int .i64 n, .str m] s (.tuple []) ⟨s.objs.set o (bobj o s.toks.length (lineS n m)), s.toks ++ [some (slen (lineS n m))]⟩ := by
  have hlt := (List.getElem?_eq_some_iff.1 ho).1
  have := line_z (l := []) n m (by simpa using h) (s := ⟨s.objs.set o (bobj o s.toks.length []), s.toks ++ [some 0]⟩) (o := o) (t := s.toks.length) (by simp [hlt]) (by simp [slen])
  refine ACalls.tokB o 1 1 true ho rfl ?_
  refine ACalls.mono this fun d s' ⟨e1, e2⟩ => ⟨e1, ?_⟩
  rw [e2]
  simp

set_option maxHeartbeats 1600000 in
/-- What the loop over the procedures does. -/
theorem pText_loop {p : Pg} (hg : p.PrG) (hps : Pc.sizes p.procs ≤ 1000000) (hpl : p.procs.length ≤ Pc.sizes p.procs) {B : Base} {Q : Exit → Tm → St → Prop} (hB : B.s = { objs := [], toks := [] }) {R : Str} (hRn : R.length ≤ 540000000000)
    (hQ : retF { objs := [], toks := [] : St }.objs.length { objs := [], toks := [] : St }.toks.length [(2, none)] (D.str R) { objs := [], toks := [] } = Q) :
    ∀ i : List Pc × Nat × Str, (p.procs.drop i.2.1 = i.1 ∧ i.2.2 ++ procsS i.1 = R ∧ i.2.2.length + 200 * Pc.sizes i.1 ≤ 530000000000) →
    SemL Tryd.prog B 85 Q4N (inBlockQ 0 (thenQ (wpC Tryd.prog B 85 Q4S Q) Q))
      [(3, .ptr 1 0), (26, .slice .shared 5 (p.procs.map encPc)), (27, .int .i64 (p.procs.length : Int)), (28, .int .i64 (i.2.1 : Int))] ⟨[encPg p, bobj 1 0 i.2.2], [some (slen i.2.2)]⟩ := by
  have hlt : 0 < 1 := Nat.zero_lt_one
  have hget : 0 < 1 := Nat.zero_lt_one
  have hpu : 0 < 1 := Nat.zero_lt_one
  have hinc : 0 < 1 := Nat.zero_lt_one
  refine SemL.ind (ι := List Pc × Nat × Str) (fun i => p.procs.drop i.2.1 = i.1 ∧ i.2.2 ++ procsS i.1 = R ∧ i.2.2.length + 200 * Pc.sizes i.1 ≤ 530000000000) (fun i => i.1.length) (fun i => [(3, .ptr 1 0), (26, .slice .shared 5 (p.procs.map encPc)), (27, .int .i64 (p.procs.length : Int)), (28, .int .i64 (i.2.1 : Int))]) (fun i => ⟨[encPg p, bobj 1 0 i.2.2], [some (slen i.2.2)]⟩) ?_
  rintro ⟨rest, k, acc⟩ ⟨h1, h2, h3⟩ IH
  dsimp only at h1 h2 h3
  cases rest with
  | nil =>
    have hlt := drop_nil h1
    simp only [procsS, List.append_nil] at h2
    subst h2
    have es := fun st a b => String_s (s := st) (o := 1) (t := 0) (c0 := .selfp tWriter 1) acc a b (by omega)
    repeat' (first
 | simp only [go_sem, hlt, hget, hpu, hinc, Int.reduceLE, ↓reduceIte, reduceCtorEq, Nat.reduceEqDiff, Nat.reduceLeDiff, Nat.reduceAdd, Nat.reduceMul, Nat.reduceSub, Nat.reduceLT, bobj, slen]
 | (with_reducible refine CU (es _ (by with_unfolding_all rfl) (by with_unfolding_all rfl)) ?_)
 | (with_reducible first | refine CB_ofT (by assumption) fun hc => ?_ | refine CB_ofF (by assumption) fun hc => ?_ | refine CB_split (fun hc => ?_) fun hc => ?_) <;> (try simp only [hc, bs, ↓reduceIte] at h) <;> (try simp only [hc])
 | ((with_reducible first | refine leafR hQ ?_ | refine leafN hQ ?_); (try cases h); simp only [resL, oneD, Option.some.injEq, exists_eq_left', go_sem, hlt, hget, hpu, hinc, Int.reduceLE, ↓reduceIte, reduceCtorEq, Nat.reduceEqDiff, Nat.reduceLeDiff, Nat.reduceAdd, Nat.reduceMul, Nat.reduceSub, Nat.reduceLT, bobj, slen]; repeat' (first | exact Ok.out | with_reducible refine And.intro ?_ ?_ | (simp; done)))
 | (cases h; replace h := hr; clear hr; (try simp only [bs, ↓reduceIte] at h))
 | (cases h; done))
  | cons f rest =>
    obtain ⟨hget, g2, hlt, g4⟩ := drop_cons h1
    have hmem := List.mem_of_getElem? hget
    have hsz := Pc.sizes_mem hmem
    have hP := hg.procs f hmem
    have hk : k < 4611686018427387904 := by omega
    have w1 : IntKind.wrap .i64 ((k : Int) + 1) = ((k + 1 : Nat) : Int) := by rw [wrap_ok] <;> omega
    simp only [Pc.sizes] at h3
    simp only [procsS] at h2
    have lf := procS_len hP
    have hfz : f.params.length + f.vars.length + f.fin.length + Sm.sizes f.body + 1 ≤ f.size := by unfold Pc.size; omega
    repeat' (first
 | simp only [go_sem, hlt, hget, hpu, hinc, Int.reduceLE, ↓reduceIte, reduceCtorEq, Nat.reduceEqDiff, Nat.reduceLeDiff, Nat.reduceAdd, Nat.reduceMul, Nat.reduceSub, Nat.reduceLT]
 | (with_reducible first | refine CB_ofT (by assumption) fun hc => ?_ | refine CB_ofF (by assumption) fun hc => ?_ | refine CB_split (fun hc => ?_) fun hc => ?_) <;> (try simp only [hc, bs, ↓reduceIte] at h) <;> (try simp only [hc])
 | ((with_reducible first | refine leafR hQ ?_ | refine leafN hQ ?_); (try cases h); simp only [resL, oneD, Option.some.injEq, exists_eq_left', go_sem, hlt, hget, hpu, hinc, Int.reduceLE, ↓reduceIte, reduceCtorEq, Nat.reduceEqDiff, Nat.reduceLeDiff, Nat.reduceAdd, Nat.reduceMul, Nat.reduceSub, Nat.reduceLT]; repeat' (first | exact Ok.out | with_reducible refine And.intro ?_ ?_ | (simp; done)))
 | (cases h; replace h := hr; clear hr; (try simp only [bs, ↓reduceIte] at h))
 | (cases h; done))
    refine SemL.tokT 6 1 rfl ?_
    simp only [go_sem, hlt, hget, hpu, hinc, Int.reduceLE, ↓reduceIte, reduceCtorEq, Nat.reduceEqDiff, Nat.reduceLeDiff, Nat.reduceAdd, Nat.reduceMul, Nat.reduceSub, Nat.reduceLT]
    refine SemL.re _ _ 3 2 (by rw [hB]; exact Nat.le_of_ble_eq_true rfl) (by rw [hB]; exact Nat.le_of_ble_eq_true rfl) ?_ ?_ (SemL.ind (ι := List Pm × Nat × List Str) (fun i => f.params.drop i.2.1 = i.1 ∧ i.2.2 ++ i.1.map paramS = f.params.map paramS ∧ i.2.2.length = i.2.1) (fun i => i.1.length)
      (fun i => [(3, .ptr 1 0), (26, .slice .shared 5 (p.procs.map encPc)), (27, .int .i64 (p.procs.length : Int)), (28, .int .i64 (k : Int)), (5, .ptr 2 0), (6, .slice (.tok 1) 1 (i.2.2.map encStr)), (33, .slice .shared 2 (f.params.map encPm)), (34, .int .i64 (f.params.length : Int)), (35, .int .i64 (i.2.1 : Int))]) (fun i => ⟨[encPg p, bobj 1 0 acc, encPc f], [some (slen acc), some i.2.1]⟩) ?_ (f.params, 0, []) ⟨rfl, rfl, rfl⟩)
    · (simp only [go_sem, hlt, hget, hpu, hinc, Int.reduceLE, ↓reduceIte, reduceCtorEq, Nat.reduceEqDiff, Nat.reduceLeDiff, Nat.reduceAdd, Nat.reduceMul, Nat.reduceSub, Nat.reduceLT]; repeat' (first | exact Ok.out | with_reducible refine And.intro ?_ ?_))
    · (simp only [go_sem, hlt, hget, hpu, hinc, Int.reduceLE, ↓reduceIte, reduceCtorEq, Nat.reduceEqDiff, Nat.reduceLeDiff, Nat.reduceAdd, Nat.reduceMul, Nat.reduceSub, Nat.reduceLT]; repeat' (first | exact Ok.out | with_reducible refine And.intro ?_ ?_))
    rintro ⟨ps, j, out⟩ ⟨p1, p2, p3⟩ IH2
    dsimp only at p1 p2 p3
    cases ps with
    | nil =>
      have hlt := drop_nil p1
      simp only [List.map_nil, List.append_nil] at p2
      subst p2
      have lps := params_len hP.params
      have lvs := short_len [44, 32] hP.vars
      have lms := marksS_len hP.fin
      have lrs := rowsS_len f.body hP.body
      have lnm := hP.name
      simp only [List.length_cons, List.length_nil] at lvs
      have ej := fun s => Join_s (l := f.params.map paramS) (sep := [44, 32]) (by simp; omega) (by omega) (.tok 1) s
      have em := fun st => pmarks_s (by omega) hP.fin st
      have b1 : (5 : Nat) + f.name.length ≤ maxStr := by unfold maxStr; omega
      have b2 : f.name.length + 1 + 1 + 1 + 1 + 1 + 1 ≤ maxStr := by unfold maxStr; omega
      have b3 : f.name.length + 1 + 1 + 1 + 1 + 1 + 1 + (Lib.join (f.params.map paramS) [44, 32]).length ≤ maxStr := by unfold maxStr; omega
      have b4 : f.name.length + 1 + (Lib.join (f.params.map paramS) [44, 32]).length + 1 + 1 + 1 + 1 + 1 + 1 + 1 + 1 ≤ maxStr := by unfold maxStr; omega
      have b7 : (marksS f.fin).length + 1 ≤ maxStr := by unfold maxStr; omega
      have e1 := fun st a b => line_z (l := acc) 0 ([112, 114, 111, 99, 32] ++ f.name ++ [40] ++ Lib.join (f.params.map paramS) [44, 32] ++ [41, 32, 123]) (by simp only [List.length_append, List.length_cons, List.length_nil, lineS_len]; omega) (s := st) (o := 1) (t := 0) a b
      simp only [List.cons_append, List.nil_append, Int.cast_ofNat_Int] at e1
      cases cv : decide ((f.vars.length : Int) > 0) with
      | false =>
        have cv' : f.vars.length = 0 := by have := of_decide_eq_false cv; omega
        have e3 := fun st a b => prows_z (l := f.body) (by omega) hP.body (acc := acc ++ lineS 0 ([112, 114, 111, 99, 32] ++ f.name ++ [40] ++ Lib.join (f.params.map paramS) [44, 32] ++ [41, 32, 123])) (by simp only [List.length_append, List.length_cons, List.length_nil, lineS_len]; omega) (s := st) (o := 1) (t := 0) a b
        have e4 := fun st a b => line_z (l := acc ++ lineS 0 ([112, 114, 111, 99, 32] ++ f.name ++ [40] ++ Lib.join (f.params.map paramS) [44, 32] ++ [41, 32, 123]) ++ rowsS 1 f.body) 0 (marksS f.fin ++ [125]) (by simp only [List.length_append, List.length_cons, List.length_nil, lineS_len]; omega) (s := st) (o := 1) (t := 0) a b
        simp only [List.cons_append, List.nil_append, Int.cast_ofNat_Int] at e3 e4
        repeat' (first
 | simp only [go_sem, hlt, hget, hpu, hinc, Int.reduceLE, ↓reduceIte, reduceCtorEq, Nat.reduceEqDiff, Nat.reduceLeDiff, Nat.reduceAdd, Nat.reduceMul, Nat.reduceSub, Nat.reduceLT, w1, b1, b2, b3, b4, b7, cv]
 | (with_reducible refine CU (ej _) ?_)
 | (with_reducible refine CU (em _) ?_)
 | (with_reducible refine CU (e1 _ (by with_unfolding_all rfl) (by with_unfolding_all rfl)) ?_)
 | (with_reducible refine CU (e3 _ (by with_unfolding_all rfl) (by with_unfolding_all rfl)) ?_)
 | (with_reducible refine CU (e4 _ (by with_unfolding_all rfl) (by with_unfolding_all rfl)) ?_)
 | (with_reducible first | refine CB_ofT (by assumption) fun hc => ?_ | refine CB_ofF (by assumption) fun hc => ?_ | refine CB_split (fun hc => ?_) fun hc => ?_) <;> (try simp only [hc, bs, ↓reduceIte] at h) <;> (try simp only [hc])
 | ((with_reducible first | refine leafR hQ ?_ | refine leafN hQ ?_); (try cases h); simp only [resL, oneD, Option.some.injEq, exists_eq_left', go_sem, hlt, hget, hpu, hinc, Int.reduceLE, ↓reduceIte, reduceCtorEq, Nat.reduceEqDiff, Nat.reduceLeDiff, Nat.reduceAdd, Nat.reduceMul, Nat.reduceSub, Nat.reduceLT, w1, b1, b2, b3, b4, b7, cv]; repeat' (first | exact Ok.out | with_reducible refine And.intro ?_ ?_ | (simp; done)))
 | (cases h; replace h := hr; clear hr; (try simp only [bs, ↓reduceIte] at h))
 | (cases h; done))
        have hl := IH (rest, k + 1, acc ++ lineS 0 ([112, 114, 111, 99, 32] ++ f.name ++ [40] ++ Lib.join (f.params.map paramS) [44, 32] ++ [41, 32, 123]) ++ rowsS 1 f.body ++ lineS 0 (marksS f.fin ++ [125])) ⟨g2, by rw [← h2, procS, if_pos cv']; simp only [List.append_assoc, List.nil_append, List.cons_append], by rw [procS, if_pos cv'] at lf; simp only [List.length_append] at lf ⊢; omega⟩ (by simp)
        simp only [List.cons_append, List.nil_append, Int.cast_ofNat_Int] at hl
        refine SemL.re _ _ 2 1 (by rw [hB]; exact Nat.le_of_ble_eq_true rfl) (by rw [hB]; exact Nat.le_of_ble_eq_true rfl) ?_ ?_ (hl)
        · (simp only [go_sem, hlt, hget, hpu, hinc, Int.reduceLE, ↓reduceIte, reduceCtorEq, Nat.reduceEqDiff, Nat.reduceLeDiff, Nat.reduceAdd, Nat.reduceMul, Nat.reduceSub, Nat.reduceLT]; repeat' (first | exact Ok.out | with_reducible refine And.intro ?_ ?_))
        · (simp only [go_sem, hlt, hget, hpu, hinc, Int.reduceLE, ↓reduceIte, reduceCtorEq, Nat.reduceEqDiff, Nat.reduceLeDiff, Nat.reduceAdd, Nat.reduceMul, Nat.reduceSub, Nat.reduceLT]; repeat' (first | exact Ok.out | with_reducible refine And.intro ?_ ?_))
      | true =>
        have cv' : f.vars.length ≠ 0 := by have := of_decide_eq_true cv; omega
        have ej2 := fun s => Join_s (l := f.vars) (sep := [44, 32]) (by omega) (by omega) .shared s
        have b5 : (4 : Nat) + (Lib.join f.vars [44, 32]).length ≤ maxStr := by unfold maxStr; omega
        have b6 : (Lib.join f.vars [44, 32]).length + 1 + 1 + 1 + 1 + 1 ≤ maxStr := by unfold maxStr; omega
        have e2 := fun st a b => line_z (l := acc ++ lineS 0 ([112, 114, 111, 99, 32] ++ f.name ++ [40] ++ Lib.join (f.params.map paramS) [44, 32] ++ [41, 32, 123])) 1 ([118, 97, 114, 32] ++ Lib.join f.vars [44, 32] ++ [59]) (by simp only [List.length_append, List.length_cons, List.length_nil, lineS_len]; omega) (s := st) (o := 1) (t := 0) a b
        simp only [List.cons_append, List.nil_append, Int.cast_ofNat_Int] at e2
        have e3 := fun st a b => prows_z (l := f.body) (by omega) hP.body (acc := acc ++ lineS 0 ([112, 114, 111, 99, 32] ++ f.name ++ [40] ++ Lib.join (f.params.map paramS) [44, 32] ++ [41, 32, 123]) ++ lineS 1 ([118, 97, 114, 32] ++ Lib.join f.vars [44, 32] ++ [59])) (by simp only [List.length_append, List.length_cons, List.length_nil, lineS_len]; omega) (s := st) (o := 1) (t := 0) a b
        have e4 := fun st a b => line_z (l := acc ++ lineS 0 ([112, 114, 111, 99, 32] ++ f.name ++ [40] ++ Lib.join (f.params.map paramS) [44, 32] ++ [41, 32, 123]) ++ lineS 1 ([118, 97, 114, 32] ++ Lib.join f.vars [44, 32] ++ [59]) ++ rowsS 1 f.body) 0 (marksS f.fin ++ [125]) (by simp only [List.length_append, List.length_cons, List.length_nil, lineS_len]; omega) (s := st) (o := 1) (t := 0) a b
        simp only [List.cons_append, List.nil_append, Int.cast_ofNat_Int] at e3 e4
        repeat' (first
 | simp only [go_sem, hlt, hget, hpu, hinc, Int.reduceLE, ↓reduceIte, reduceCtorEq, Nat.reduceEqDiff, Nat.reduceLeDiff, Nat.reduceAdd, Nat.reduceMul, Nat.reduceSub, Nat.reduceLT, w1, b1, b2, b3, b4, b7, cv, b5, b6]
 | (with_reducible refine CU (ej _) ?_)
 | (with_reducible refine CU (em _) ?_)
 | (with_reducible refine CU (e1 _ (by with_unfolding_all rfl) (by with_unfolding_all rfl)) ?_)
 | (with_reducible refine CU (ej2 _) ?_)
 | (with_reducible refine CU (e2 _ (by with_unfolding_all rfl) (by with_unfolding_all rfl)) ?_)
 | (with_reducible refine CU (e3 _ (by with_unfolding_all rfl) (by with_unfolding_all rfl)) ?_)
 | (with_reducible refine CU (e4 _ (by with_unfolding_all rfl) (by with_unfolding_all rfl)) ?_)
 | (with_reducible first | refine CB_ofT (by assumption) fun hc => ?_ | refine CB_ofF (by assumption) fun hc => ?_ | refine CB_split (fun hc => ?_) fun hc => ?_) <;> (try simp only [hc, bs, ↓reduceIte] at h) <;> (try simp only [hc])
 | ((with_reducible first | refine leafR hQ ?_ | refine leafN hQ ?_); (try cases h); simp only [resL, oneD, Option.some.injEq, exists_eq_left', go_sem, hlt, hget, hpu, hinc, Int.reduceLE, ↓reduceIte, reduceCtorEq, Nat.reduceEqDiff, Nat.reduceLeDiff, Nat.reduceAdd, Nat.reduceMul, Nat.reduceSub, Nat.reduceLT, w1, b1, b2, b3, b4, b7, cv, b5, b6]; repeat' (first | exact Ok.out | with_reducible refine And.intro ?_ ?_ | (simp; done)))
 | (cases h; replace h := hr; clear hr; (try simp only [bs, ↓reduceIte] at h))
 | (cases h; done))
        have hl := IH (rest, k + 1, acc ++ lineS 0 ([112, 114, 111, 99, 32] ++ f.name ++ [40] ++ Lib.join (f.params.map paramS) [44, 32] ++ [41, 32, 123]) ++ lineS 1 ([118, 97, 114, 32] ++ Lib.join f.vars [44, 32] ++ [59]) ++ rowsS 1 f.body ++ lineS 0 (marksS f.fin ++ [125])) ⟨g2, by rw [← h2, procS, if_neg cv']; simp only [List.append_assoc, List.nil_append, List.cons_append], by rw [procS, if_neg cv'] at lf; simp only [List.length_append] at lf ⊢; omega⟩ (by simp)
        simp only [List.cons_append, List.nil_append, Int.cast_ofNat_Int] at hl
        refine SemL.re _ _ 2 1 (by rw [hB]; exact Nat.le_of_ble_eq_true rfl) (by rw [hB]; exact Nat.le_of_ble_eq_true rfl) ?_ ?_ (hl)
        · (simp only [go_sem, hlt, hget, hpu, hinc, Int.reduceLE, ↓reduceIte, reduceCtorEq, Nat.reduceEqDiff, Nat.reduceLeDiff, Nat.reduceAdd, Nat.reduceMul, Nat.reduceSub, Nat.reduceLT]; repeat' (first | exact Ok.out | with_reducible refine And.intro ?_ ?_))
        · (simp only [go_sem, hlt, hget, hpu, hinc, Int.reduceLE, ↓reduceIte, reduceCtorEq, Nat.reduceEqDiff, Nat.reduceLeDiff, Nat.reduceAdd, Nat.reduceMul, Nat.reduceSub, Nat.reduceLT]; repeat' (first | exact Ok.out | with_reducible refine And.intro ?_ ?_))
    | cons a ps =>
      obtain ⟨hget, q2, hlt, q4⟩ := drop_cons p1
      have hmem2 := List.mem_of_getElem? hget
      have han := hP.params a hmem2
      have hj : j < 4611686018427387904 := by omega
      have w2 : IntKind.wrap .i64 ((j : Int) + 1) = ((j + 1 : Nat) : Int) := by rw [wrap_ok] <;> omega
      have hpu : (j + 1) * 17 ≤ maxStr := by unfold maxStr; omega
      have ea : paramS a = (if a.ref = true then [114, 101, 102, 32] else []) ++ a.name := rfl
      cases hr : a.ref with
      | true =>
        rw [hr] at ea
        have m1 : (4 : Nat) + a.name.length ≤ maxStr := by unfold maxStr; omega
        repeat' (first
 | simp only [go_sem, hlt, hget, hpu, hinc, Int.reduceLE, ↓reduceIte, reduceCtorEq, Nat.reduceEqDiff, Nat.reduceLeDiff, Nat.reduceAdd, Nat.reduceMul, Nat.reduceSub, Nat.reduceLT, hr, m1, w2, p3]
 | (with_reducible refine CU (pref_s _ _) ?_)
 | (with_reducible first | refine CB_ofT (by assumption) fun hc => ?_ | refine CB_ofF (by assumption) fun hc => ?_ | refine CB_split (fun hc => ?_) fun hc => ?_) <;> (try simp only [hc, bs, ↓reduceIte] at h) <;> (try simp only [hc])
 | ((with_reducible first | refine leafR hQ ?_ | refine leafN hQ ?_); (try cases h); simp only [resL, oneD, Option.some.injEq, exists_eq_left', go_sem, hlt, hget, hpu, hinc, Int.reduceLE, ↓reduceIte, reduceCtorEq, Nat.reduceEqDiff, Nat.reduceLeDiff, Nat.reduceAdd, Nat.reduceMul, Nat.reduceSub, Nat.reduceLT, hr, m1, w2, p3]; repeat' (first | exact Ok.out | with_reducible refine And.intro ?_ ?_ | (simp; done)))
 | (cases h; replace h := hr; clear hr; (try simp only [bs, ↓reduceIte] at h))
 | (cases h; done))
        refine SemL.re _ _ 3 2 (by rw [hB]; exact Nat.le_of_ble_eq_true rfl) (by rw [hB]; exact Nat.le_of_ble_eq_true rfl) ?_ ?_ (IH2 (ps, j + 1, out ++ [paramS a]) ⟨q2, by rw [← p2]; simp, by simp [p3]⟩ (by simp))
        · (simp only [go_sem, hlt, hget, hpu, hinc, Int.reduceLE, ↓reduceIte, reduceCtorEq, Nat.reduceEqDiff, Nat.reduceLeDiff, Nat.reduceAdd, Nat.reduceMul, Nat.reduceSub, Nat.reduceLT, ea, List.cons_append, List.nil_append]; repeat' (first | exact Ok.out | with_reducible refine And.intro ?_ ?_))
        · (simp only [go_sem, hlt, hget, hpu, hinc, Int.reduceLE, ↓reduceIte, reduceCtorEq, Nat.reduceEqDiff, Nat.reduceLeDiff, Nat.reduceAdd, Nat.reduceMul, Nat.reduceSub, Nat.reduceLT, ea, List.cons_append, List.nil_append]; repeat' (first | exact Ok.out | with_reducible refine And.intro ?_ ?_))
      | false =>
        rw [hr] at ea
        have m1 : a.name.length ≤ maxStr := by unfold maxStr; omega
        repeat' (first
 | simp only [go_sem, hlt, hget, hpu, hinc, Int.reduceLE, ↓reduceIte, reduceCtorEq, Nat.reduceEqDiff, Nat.reduceLeDiff, Nat.reduceAdd, Nat.reduceMul, Nat.reduceSub, Nat.reduceLT, hr, m1, w2, p3, List.nil_append]
 | (with_reducible refine CU (pref_s _ _) ?_)
 | (with_reducible first | refine CB_ofT (by assumption) fun hc => ?_ | refine CB_ofF (by assumption) fun hc => ?_ | refine CB_split (fun hc => ?_) fun hc => ?_) <;> (try simp only [hc, bs, ↓reduceIte] at h) <;> (try simp only [hc])
 | ((with_reducible first | refine leafR hQ ?_ | refine leafN hQ ?_); (try cases h); simp only [resL, oneD, Option.some.injEq, exists_eq_left', go_sem, hlt, hget, hpu, hinc, Int.reduceLE, ↓reduceIte, reduceCtorEq, Nat.reduceEqDiff, Nat.reduceLeDiff, Nat.reduceAdd, Nat.reduceMul, Nat.reduceSub, Nat.reduceLT, hr, m1, w2, p3, List.nil_append]; repeat' (first | exact Ok.out | with_reducible refine And.intro ?_ ?_ | (simp; done)))
 | (cases h; replace h := hr; clear hr; (try simp only [bs, ↓reduceIte] at h))
 | (cases h; done))
        refine SemL.re _ _ 3 2 (by rw [hB]; exact Nat.le_of_ble_eq_true rfl) (by rw [hB]; exact Nat.le_of_ble_eq_true rfl) ?_ ?_ (IH2 (ps, j + 1, out ++ [paramS a]) ⟨q2, by rw [← p2]; simp, by simp [p3]⟩ (by simp))
        · (simp only [go_sem, hlt, hget, hpu, hinc, Int.reduceLE, ↓reduceIte, reduceCtorEq, Nat.reduceEqDiff, Nat.reduceLeDiff, Nat.reduceAdd, Nat.reduceMul, Nat.reduceSub, Nat.reduceLT, ea, List.cons_append, List.nil_append]; repeat' (first | exact Ok.out | with_reducible refine And.intro ?_ ?_))
        · (simp only [go_sem, hlt, hget, hpu, hinc, Int.reduceLE, ↓reduceIte, reduceCtorEq, Nat.reduceEqDiff, Nat.reduceLeDiff, Nat.reduceAdd, Nat.reduceMul, Nat.reduceSub, Nat.reduceLT, ea, List.cons_append, List.nil_append]; repeat' (first | exact Ok.out | with_reducible refine And.intro ?_ ?_))

theorem pText_s {p : Pg} (hf : p.FineP) (hg : p.mayP = true → p.PrG) (hs : p.size ≤ 1000000) (s : St) : Fun Tryd.prog n_print_Text [.agg (encPg p)] s (.str (if p.may then textS p else [])) s := by
  refine Fun.pure ?_ (by simp only [D.oks, D.ok, okPg]; rfl) rfl s
  have hm := fun s => tMay_s hf s
  rw [← mayP_eq]
  cases cm : p.mayP with
  | false =>
    rw [if_neg (by simp)]
    unfold S0
    refine Fun.go has_print_Text rfl fun B Q hB hQ => ?_
    have hlt : 0 < 1 := Nat.zero_lt_one
    have hget : 0 < 1 := Nat.zero_lt_one
    have hpu : 0 < 1 := Nat.zero_lt_one
    have hinc : 0 < 1 := Nat.zero_lt_one
    repeat' (first
 | simp only [go_sem, hlt, hget, hpu, hinc, Int.reduceLE, ↓reduceIte, reduceCtorEq, Nat.reduceEqDiff, Nat.reduceLeDiff, Nat.reduceAdd, Nat.reduceMul, Nat.reduceSub, Nat.reduceLT, cm]
 | (with_reducible refine CU (hm _) ?_)
 | (with_reducible first | refine CB_ofT (by assumption) fun hc => ?_ | refine CB_ofF (by assumption) fun hc => ?_ | refine CB_split (fun hc => ?_) fun hc => ?_) <;> (try simp only [hc, bs, ↓reduceIte] at h) <;> (try simp only [hc])
 | ((with_reducible first | refine leafR hQ ?_ | refine leafN hQ ?_); (try cases h); simp only [resL, oneD, Option.some.injEq, exists_eq_left', go_sem, hlt, hget, hpu, hinc, Int.reduceLE, ↓reduceIte, reduceCtorEq, Nat.reduceEqDiff, Nat.reduceLeDiff, Nat.reduceAdd, Nat.reduceMul, Nat.reduceSub, Nat.reduceLT, cm]; repeat' (first | exact Ok.out | with_reducible refine And.intro ?_ ?_ | (simp; done)))
 | (cases h; replace h := hr; clear hr; (try simp only [bs, ↓reduceIte] at h))
 | (cases h; done))
  | true =>
    rw [if_pos rfl]
    have hg := hg cm
    have hps : Pc.sizes p.procs ≤ 1000000 := by simp only [Pg.size] at hs; omega
    have hgl : p.globals.length ≤ 1000000 := by simp only [Pg.size] at hs; omega
    have hpl := Pc.sizes_len p.procs
    have lg := globsS_len hg.globals
    have lp := procsS_len hg.procs
    have ls := short_len [44, 32] hg.globals
    simp only [List.length_cons, List.length_nil] at ls
    unfold S0
    cases cg : decide ((p.globals.length : Int) > 0) with
    | true =>
      have cg' : p.globals.length ≠ 0 := by have := of_decide_eq_true cg; omega
      have eg : globsS p.globals = lineS 0 ([103, 108, 111, 98, 97, 108, 32] ++ Lib.join p.globals [44, 32] ++ [59]) := by rw [globsS, if_neg cg']
      have ej := fun s => Join_s (l := p.globals) (sep := [44, 32]) (by omega) (by omega) .shared s
      have b1 : (7 : Nat) + (Lib.join p.globals [44, 32]).length ≤ maxStr := by unfold maxStr; omega
      have b2 : (Lib.join p.globals [44, 32]).length + 1 + 1 + 1 + 1 + 1 + 1 + 1 + 1 ≤ maxStr := by unfold maxStr; omega
      have e1 := fun s a => line_first 0 ([103, 108, 111, 98, 97, 108, 32] ++ Lib.join p.globals [44, 32] ++ [59]) (by simp only [List.length_append, List.length_cons, List.length_nil]; omega) (s := s) (o := 1) a
      simp only [List.cons_append, List.nil_append, Int.cast_ofNat_Int] at e1 eg
      refine Fun.go has_print_Text rfl fun B Q hB hQ => ?_
      have hlt : 0 < 1 := Nat.zero_lt_one
      have hget : 0 < 1 := Nat.zero_lt_one
      have hpu : 0 < 1 := Nat.zero_lt_one
      have hinc : 0 < 1 := Nat.zero_lt_one
      repeat' (first
 | simp only [go_sem, hlt, hget, hpu, hinc, Int.reduceLE, ↓reduceIte, reduceCtorEq, Nat.reduceEqDiff, Nat.reduceLeDiff, Nat.reduceAdd, Nat.reduceMul, Nat.reduceSub, Nat.reduceLT, cm, cg, b1, b2]
 | (with_reducible refine CU (hm _) ?_)
 | (with_reducible refine CU (ej _) ?_)
 | (with_reducible refine CU (e1 _ (by with_unfolding_all rfl)) ?_)
 | (with_reducible first | refine CB_ofT (by assumption) fun hc => ?_ | refine CB_ofF (by assumption) fun hc => ?_ | refine CB_split (fun hc => ?_) fun hc => ?_) <;> (try simp only [hc, bs, ↓reduceIte] at h) <;> (try simp only [hc])
 | ((with_reducible first | refine leafR hQ ?_ | refine leafN hQ ?_); (try cases h); simp only [resL, oneD, Option.some.injEq, exists_eq_left', go_sem, hlt, hget, hpu, hinc, Int.reduceLE, ↓reduceIte, reduceCtorEq, Nat.reduceEqDiff, Nat.reduceLeDiff, Nat.reduceAdd, Nat.reduceMul, Nat.reduceSub, Nat.reduceLT, cm, cg, b1, b2]; repeat' (first | exact Ok.out | with_reducible refine And.intro ?_ ?_ | (simp; done)))
 | (cases h; replace h := hr; clear hr; (try simp only [bs, ↓reduceIte] at h))
 | (cases h; done))
      have hl := pText_loop hg hps hpl hB (R := textS p) (by simp only [textS, List.length_append]; omega) hQ (p.procs, 0, globsS p.globals) ⟨rfl, rfl, by dsimp only; omega⟩
      simp only [eg] at hl
      refine SemL.re _ _ 2 1 (by rw [hB]; exact Nat.le_of_ble_eq_true rfl) (by rw [hB]; exact Nat.le_of_ble_eq_true rfl) ?_ ?_ (hl)
      · (simp only [go_sem, hlt, hget, hpu, hinc, Int.reduceLE, ↓reduceIte, reduceCtorEq, Nat.reduceEqDiff, Nat.reduceLeDiff, Nat.reduceAdd, Nat.reduceMul, Nat.reduceSub, Nat.reduceLT]; repeat' (first | exact Ok.out | with_reducible refine And.intro ?_ ?_))
      · (simp only [go_sem, hlt, hget, hpu, hinc, Int.reduceLE, ↓reduceIte, reduceCtorEq, Nat.reduceEqDiff, Nat.reduceLeDiff, Nat.reduceAdd, Nat.reduceMul, Nat.reduceSub, Nat.reduceLT]; repeat' (first | exact Ok.out | with_reducible refine And.intro ?_ ?_))
    | false =>
      have cg' : p.globals.length = 0 := by have := of_decide_eq_false cg; omega
      have eg : globsS p.globals = [] := by rw [globsS, if_pos cg']
      refine Fun.go has_print_Text rfl fun B Q hB hQ => ?_
      have hlt : 0 < 1 := Nat.zero_lt_one
      have hget : 0 < 1 := Nat.zero_lt_one
      have hpu : 0 < 1 := Nat.zero_lt_one
      have hinc : 0 < 1 := Nat.zero_lt_one
      repeat' (first
 | simp only [go_sem, hlt, hget, hpu, hinc, Int.reduceLE, ↓reduceIte, reduceCtorEq, Nat.reduceEqDiff, Nat.reduceLeDiff, Nat.reduceAdd, Nat.reduceMul, Nat.reduceSub, Nat.reduceLT, cm, cg]
 | (with_reducible refine CU (hm _) ?_)
 | (with_reducible first | refine CB_ofT (by assumption) fun hc => ?_ | refine CB_ofF (by assumption) fun hc => ?_ | refine CB_split (fun hc => ?_) fun hc => ?_) <;> (try simp only [hc, bs, ↓reduceIte] at h) <;> (try simp only [hc])
 | ((with_reducible first | refine leafR hQ ?_ | refine leafN hQ ?_); (try cases h); simp only [resL, oneD, Option.some.injEq, exists_eq_left', go_sem, hlt, hget, hpu, hinc, Int.reduceLE, ↓reduceIte, reduceCtorEq, Nat.reduceEqDiff, Nat.reduceLeDiff, Nat.reduceAdd, Nat.reduceMul, Nat.reduceSub, Nat.reduceLT, cm, cg]; repeat' (first | exact Ok.out | with_reducible refine And.intro ?_ ?_ | (simp; done)))
 | (cases h; replace h := hr; clear hr; (try simp only [bs, ↓reduceIte] at h))
 | (cases h; done))
      refine SemL.tokB 1 1 1 true rfl rfl ?_
      simp only [go_sem, hlt, hget, hpu, hinc, Int.reduceLE, ↓reduceIte, reduceCtorEq, Nat.reduceEqDiff, Nat.reduceLeDiff, Nat.reduceAdd, Nat.reduceMul, Nat.reduceSub, Nat.reduceLT]
      have hl := pText_loop hg hps hpl hB (R := textS p) (by simp only [textS, List.length_append]; omega) hQ (p.procs, 0, globsS p.globals) ⟨rfl, rfl, by dsimp only; omega⟩
      simp only [eg] at hl
      refine SemL.re _ _ 2 1 (by rw [hB]; exact Nat.le_of_ble_eq_true rfl) (by rw [hB]; exact Nat.le_of_ble_eq_true rfl) ?_ ?_ (hl)
      · (simp only [go_sem, hlt, hget, hpu, hinc, Int.reduceLE, ↓reduceIte, reduceCtorEq, Nat.reduceEqDiff, Nat.reduceLeDiff, Nat.reduceAdd, Nat.reduceMul, Nat.reduceSub, Nat.reduceLT, bobj, encBy, List.map_nil, tWriter]; repeat' (first | exact Ok.out | with_reducible refine And.intro ?_ ?_))
      · (simp only [go_sem, hlt, hget, hpu, hinc, Int.reduceLE, ↓reduceIte, reduceCtorEq, Nat.reduceEqDiff, Nat.reduceLeDiff, Nat.reduceAdd, Nat.reduceMul, Nat.reduceSub, Nat.reduceLT, bobj, encBy, List.map_nil, tWriter]; repeat' (first | exact Ok.out | with_reducible refine And.intro ?_ ?_))

end Go.Abs

/-! PrMay -/

namespace Go.Abs
set_option linter.unusedSimpArgs false
set_option linter.unusedVariables false

mutual
/-- Its numbers are numbers. -/
def Sm.rng : Sm → Prop
  | ⟨_, _, _, _, _, x, _, args, thn, els⟩ => x.rng ∧ (∀ a ∈ args, a.x.rng) ∧ Sm.rngs thn ∧ Sm.rngs els
def Sm.rngs : List Sm → Prop
  | [] => True
  | s :: l => s.rng ∧ Sm.rngs l
end
def Pg.rng (p : Pg) : Prop := ∀ f ∈ p.procs, Sm.rngs f.body
theorem Sm.rng_eq (s : Sm) : s.rng ↔ s.x.rng ∧ (∀ a ∈ s.args, a.x.rng) ∧ Sm.rngs s.thn ∧ Sm.rngs s.els := by cases s; simp only [Sm.rng]

theorem one_PrO {s : Sm} (h : s.one = true) (hx : s.x.rng) (ha : ∀ a ∈ s.args, a.x.rng) : s.PrO := by
  unfold Sm.one at h
  split at h
  · cases h
  rename_i c1
  split at h
  · cases h
  rename_i c2
  split at h
  · cases h
  rename_i c3
  split at h
  · cases h
  rename_i c4
  simp only [Bool.or_eq_true, Bool.and_eq_true, decide_eq_true_eq, Bool.not_eq_true', not_or, Bool.not_eq_false, not_and, Bool.not_eq_true] at c1 c2 c3 c4
  refine ⟨fun k => may_formI (c1.1.1.2 k) hx, fun t ht => isName_len (mayNames_mem c1.1.1.1.2 ht), ?_, ?_, fun a m => ?_, by omega, fun k => ?_⟩
  · cases hn : s.hasName with
    | true => exact isName_len (c2.1 hn)
    | false =>
      by_cases e : s.name = []
      · rw [e]; simp
      · exact isName_len (c2.2 ⟨hn, by simpa using e⟩).2
  · cases hn : s.isCall with
    | true => exact isName_len (c3.1.2 hn)
    | false =>
      have : s.proc = [] := by
        have := c3.1.1
        rw [hn] at this
        simpa using this
      rw [this]; simp
  · have hm := mays_mem c4 m
    unfold Ar.may at hm
    split at hm
    · rename_i hr
      simp only [Bool.and_eq_true] at hm
      exact ⟨isName_len hm.1, fun h => by rw [hr] at h; cases h⟩
    · simp only [Bool.and_eq_true, beq_iff_eq] at hm
      exact ⟨by rw [hm.1]; simp, fun _ => may_formI hm.2 (ha a m)⟩
  · simp only [Bool.and_eq_true, Bool.or_eq_true, beq_iff_eq] at h
    rcases h.2 with h | h
    · exact List.eq_nil_of_length_eq_zero (by omega)
    · omega

mutual
theorem mayR_PrR : ∀ (s : Sm) (inn n : Nat), (inn : Int) ≤ 12 → (Sm.mayR inn n s).1 = true → s.rng → s.PrR inn
  | ⟨id, kind, labels, name, proc, x, has, args, thn, els⟩, inn, n, h12, hm, hr => by
    obtain ⟨_, _, h1, h2, h3, _⟩ := mayR_true hm
    obtain ⟨r1, r2, r3, r4⟩ := (Sm.rng_eq _).1 hr
    rw [PrR_eq]
    have t2 := mayG_true h2
    have t3 := mayG_true h3
    rw [t2.2] at h2
    rw [t3.2] at h3
    refine ⟨one_PrO h1 r1 r2, by omega, ?_, ?_⟩
    · exact mayL_PrR thn (inn + 1) _ (t2.1.imp_right fun h => by omega) (by simpa using h2) r3
    · exact mayL_PrR els (inn + 1) _ (t3.1.imp_right fun h => by omega) (by simpa using h3) r4
theorem mayL_PrR : ∀ (l : List Sm) (inn n : Nat), (l = [] ∨ (inn : Int) ≤ 12) → (Sm.mayL inn n l).1 = true → Sm.rngs l → Sm.PrRs inn l
  | [], _, _, _, _, _ => by simp only [Sm.PrRs]
  | s :: l, inn, n, h12, hm, hr => by
    have h12 : (inn : Int) ≤ 12 := h12.resolve_left (by simp)
    simp only [Sm.mayL] at hm
    simp only [Sm.rngs] at hr
    split at hm
    · cases hm
    rename_i hc
    simp only [Bool.not_eq_true', Bool.not_eq_false] at hc
    exact ⟨mayR_PrR s inn n h12 hc hr.1, mayL_PrR l inn _ (.inr h12) hm hr.2⟩
end

theorem pmayL_mem {f : Pc} : ∀ {l : List Pc} {n : Nat}, Pc.mayL n l = true → f ∈ l → (isName f.name = true ∧ mayNames f.vars = true ∧ mayNames f.fin = true ∧ Pm.mays f.params = true) ∧ ∃ n, (Sm.mayG 1 n f.body).1 = true
  | g :: l, n, h, m => by
    simp only [Pc.mayL] at h
    split at h
    · cases h
    rename_i c1
    split at h
    · cases h
    rename_i c2
    split at h
    · cases h
    rename_i c3
    simp only [Bool.or_eq_true, Bool.not_eq_true', not_or, Bool.not_eq_false] at c1 c2 c3
    rcases List.mem_cons.1 m with rfl | m
    · exact ⟨⟨c1.1.1.2, c1.1.2, c1.2, c2⟩, n, c3⟩
    · exact pmayL_mem h m

theorem may_PrG {p : Pg} (h : p.may = true) (hr : p.rng) : p.PrG := by
  rw [← mayP_eq] at h
  unfold Pg.mayP at h
  split at h
  · cases h
  rename_i c
  simp only [Bool.or_eq_true, Bool.not_eq_true', not_or, Bool.not_eq_false] at c
  refine ⟨fun t ht => isName_len (mayNames_mem c.2 ht), fun f hf => ?_⟩
  obtain ⟨⟨a, b, c, d⟩, n, e⟩ := pmayL_mem h hf
  have t := mayG_true e
  rw [t.2] at e
  exact ⟨isName_len a, fun x hx => isName_len (pmays_mem d hx), fun x hx => isName_len (mayNames_mem b hx), fun x hx => isName_len (mayNames_mem c hx), mayL_PrR f.body 1 n (.inr (by omega)) e (hr f hf)⟩

/-! ### It is asked alike -/

mutual
theorem mayR_FineD : ∀ (s : Sm) (nest : Int) (n : Nat), (Sm.mayR nest n s).1 = true → s.size < 4611686018427387000 → s.FineD
  | ⟨id, kind, labels, name, proc, x, has, args, thn, els⟩, nest, n, hm, hs => by
    obtain ⟨_, _, h1, h2, h3, _⟩ := mayR_true hm
    rw [FineD_eq]
    rw [(mayG_true h2).2] at h2
    rw [(mayG_true h3).2] at h3
    refine ⟨one_fine h1 hs, mayL_FineD thn _ _ h2 ?_, mayL_FineD els _ _ h3 ?_⟩ <;> simp only [Sm.size] at hs <;> omega
theorem mayL_FineD : ∀ (l : List Sm) (nest : Int) (n : Nat), (Sm.mayL nest n l).1 = true → Sm.sizes l < 4611686018427387000 → Sm.FineDs l
  | [], _, _, _, _ => by simp only [Sm.FineDs]
  | s :: l, nest, n, hm, hs => by
    simp only [Sm.mayL] at hm
    simp only [Sm.sizes] at hs
    split at hm
    · cases hm
    rename_i hc
    simp only [Bool.not_eq_true', Bool.not_eq_false] at hc
    exact ⟨mayR_FineD s nest n hc (by omega), mayL_FineD l nest _ hm (by omega)⟩
end
theorem may_FineP {p : Pg} (h : p.may = true) (hs : p.size < 4611686018427387000) : p.FineP := by
  have hf := may_fine h hs
  rw [← mayP_eq] at h
  unfold Pg.mayP at h
  split at h
  · cases h
  refine ⟨hf.sz, hf.glob, hf.heads, fun f m => ?_⟩
  obtain ⟨_, n, e⟩ := pmayL_mem h m
  rw [(mayG_true e).2] at e
  have := Pc.sizes_mem m
  simp only [Pg.size] at hs
  exact mayL_FineD f.body 1 n e (by unfold Pc.size at this; omega)

mutual
theorem flatS_fine {deep inn : Int} {els : Bool} {out : List It} {i : It} : ∀ s : Sm, s.FineD → i ∈ flatS deep inn els out s → i ∈ out ∨ i.s.Fine
  | ⟨id, kind, labels, name, proc, x, has, args, thn, e⟩, hf, h => by
    simp only [flatS] at h
    simp only [Sm.FineD] at hf
    have key : i ∈ out ++ [(⟨⟨id, kind, labels, name, proc, x, has, args, thn, e⟩, deep, inn, els⟩ : It)] → i ∈ out ∨ i.s.Fine := by
      intro h
      rcases List.mem_append.1 h with h | h
      · exact .inl h
      · simp at h; subst h; exact .inr hf.1
    split at h
    · rcases flatL_fine e hf.2.2 h with h | h
      · rcases flatL_fine thn hf.2.1 h with h | h
        · exact key h
        · exact .inr h
      · exact .inr h
    · exact key h
theorem flatL_fine {deep inn : Int} {els : Bool} {out : List It} {i : It} : ∀ l : List Sm, Sm.FineDs l → i ∈ flatL deep inn els out l → i ∈ out ∨ i.s.Fine
  | [], _, h => by simp only [flatL] at h; exact .inl h
  | s :: l, hf, h => by
    simp only [flatL] at h
    simp only [Sm.FineDs] at hf
    split at h
    · rcases flatL_fine l hf.2 h with h | h
      · exact flatS_fine s hf.1 h
      · exact .inr h
    · exact .inl h
end
theorem allM_fine {i : It} : ∀ (l : List Pc) (out : List It), (∀ f ∈ l, Sm.FineDs f.body) → i ∈ allM out l → i ∈ out ∨ i.s.Fine
  | [], out, _, h => by simp only [allM] at h; exact .inl h
  | f :: l, out, hf, h => by
    have key : i ∈ out ++ f.flat → i ∈ out ∨ i.s.Fine := by
      intro h
      rcases List.mem_append.1 h with h | h
      · exact .inl h
      · rcases flatL_fine _ (hf f (List.mem_cons_self ..)) h with h | h
        · simp at h
        · exact .inr h
    simp only [allM] at h
    split at h
    · exact key h
    · rcases allM_fine l _ (fun g m => hf g (List.mem_cons_of_mem _ m)) h with h | h
      · exact key h
      · exact .inr h
theorem fineP_fine {p : Pg} (h : p.FineP) : p.Fine := ⟨h.sz, h.glob, h.heads, fun i hi => (allM_fine p.procs [] h.body hi).resolve_left (by simp)⟩

end Go.Abs

/-! Fits1 -/

namespace Go.Abs

set_option maxRecDepth 8000
set_option linter.unusedSimpArgs false
set_option linter.unusedVariables false
open Go.Proofs

def weighTs : List Str → Int → Int
  | [], n => n
  | t :: l, n => if n ≤ 20000 then weighTs l (weighT t n) else n
def weighAs : List Ar → Int → Int
  | [], n => n
  | a :: l, n => if n ≤ 20000 then weighAs l (weighT a.name (weighE a.x n)) else n
def weighMs : List Pm → Int → Int
  | [], n => n
  | a :: l, n => if n ≤ 20000 then weighMs l (weighT a.name n) else n
mutual
def weighS : Sm → Int → Int
  | ⟨_, _, labels, name, proc, x, _, args, thn, els⟩, n => weighSs els (weighSs thn (weighAs args (weighT proc (weighT name (weighTs labels (weighE x n))))))
def weighSs : List Sm → Int → Int
  | [], n => n
  | s :: l, n => if n ≤ 20000 then weighSs l (weighS s n) else n
end
theorem weighS_eq (s : Sm) (n : Int) : weighS s n = weighSs s.els (weighSs s.thn (weighAs s.args (weighT s.proc (weighT s.name (weighTs s.labels (weighE s.x n)))))) := by cases s; simp only [weighS]
def weighF (f : Pc) (n : Int) : Int := weighSs f.body (weighMs f.params (weighTs f.fin (weighTs f.vars (weighT f.name n))))
def weighFs : List Pc → Int → Int
  | [], n => n
  | f :: l, n => if n ≤ 20000 then weighFs l (weighF f n) else n
def Pg.weigh (p : Pg) : Int := weighFs p.procs (weighTs p.globals 0)

theorem weighTs_in : ∀ (l : List Str) {n : Int}, 0 ≤ n → n ≤ 20001 → weighTs l n ≤ 20001 ∧ n ≤ weighTs l n ∧ (weighTs l n ≤ 20000 → n + l.length ≤ weighTs l n ∧ ∀ t ∈ l, t.length < 4611686018427387904)
  | [], n, h0, h1 => by simp only [weighTs]; exact ⟨h1, Int.le_refl _, fun _ => ⟨by simp, by simp⟩⟩
  | t :: l, n, h0, h1 => by
    simp only [weighTs]
    split
    · rename_i hc
      obtain ⟨a1, a2, a3, a4⟩ := weighT_in (t := t) h0
      obtain ⟨b1, b2, b3⟩ := weighTs_in l (n := weighT t n) a3 a1
      have := a2 hc
      refine ⟨b1, by omega, fun hw => ?_⟩
      obtain ⟨c1, c2⟩ := b3 hw
      have := a4 (by omega)
      refine ⟨by simp only [List.length_cons]; omega, fun s m => ?_⟩
      rcases List.mem_cons.1 m with rfl | m
      · omega
      · exact c2 s m
    · exact ⟨h1, Int.le_refl _, fun hw => by omega⟩
theorem weighMs_in : ∀ (l : List Pm) {n : Int}, 0 ≤ n → n ≤ 20001 → weighMs l n ≤ 20001 ∧ n ≤ weighMs l n ∧ (weighMs l n ≤ 20000 → n + l.length ≤ weighMs l n ∧ ∀ t ∈ l, t.name.length < 4611686018427387904)
  | [], n, h0, h1 => by simp only [weighMs]; exact ⟨h1, Int.le_refl _, fun _ => ⟨by simp, by simp⟩⟩
  | t :: l, n, h0, h1 => by
    simp only [weighMs]
    split
    · rename_i hc
      obtain ⟨a1, a2, a3, a4⟩ := weighT_in (t := t.name) h0
      obtain ⟨b1, b2, b3⟩ := weighMs_in l (n := weighT t.name n) a3 a1
      have := a2 hc
      refine ⟨b1, by omega, fun hw => ?_⟩
      obtain ⟨c1, c2⟩ := b3 hw
      have := a4 (by omega)
      refine ⟨by simp only [List.length_cons]; omega, fun s m => ?_⟩
      rcases List.mem_cons.1 m with rfl | m
      · omega
      · exact c2 s m
    · exact ⟨h1, Int.le_refl _, fun hw => by omega⟩
theorem weighAs_in : ∀ (l : List Ar) {n : Int}, 0 ≤ n → n ≤ 20001 → weighAs l n ≤ 20001 ∧ n ≤ weighAs l n ∧
    (weighAs l n ≤ 20000 → (Ar.sizes l : Int) ≤ 2 * (weighAs l n - n) ∧ ∀ a ∈ l, a.x.size < 4611686018427387904 ∧ a.x.texts ∧ a.name.length < 4611686018427387904)
  | [], n, h0, h1 => by simp only [weighAs]; exact ⟨h1, Int.le_refl _, fun _ => ⟨by simp [Ar.sizes], by simp⟩⟩
  | a :: l, n, h0, h1 => by
    simp only [weighAs]
    split
    · rename_i hc
      obtain ⟨a1, a2, a3, a4⟩ := weigh_in _ a.x (Nat.le_refl _) n h0
      obtain ⟨e1, e2, e3, e4⟩ := weighT_in (t := a.name) a3
      obtain ⟨b1, b2, b3⟩ := weighAs_in l (n := weighT a.name (weighE a.x n)) e3 e1
      have := a2 hc
      have : weighE a.x n ≤ weighT a.name (weighE a.x n) := by
        by_cases h : weighE a.x n ≤ 20000
        · have := e2 h; omega
        · have : weighT a.name (weighE a.x n) = 20001 := by unfold weighT; rw [if_pos (by omega)]
          omega
      refine ⟨b1, by omega, fun hw => ?_⟩
      obtain ⟨c1, c2⟩ := b3 hw
      have := e4 (by omega)
      obtain ⟨d1, d2⟩ := a4 (by omega)
      refine ⟨by simp only [Ar.sizes]; omega, fun s m => ?_⟩
      rcases List.mem_cons.1 m with rfl | m
      · exact ⟨by omega, d2, by omega⟩
      · exact c2 s m
    · exact ⟨h1, Int.le_refl _, fun hw => by omega⟩
theorem weighT_mono {t : Str} {n : Int} (h0 : 0 ≤ n) (h1 : n ≤ 20001) : n ≤ weighT t n ∧ weighT t n ≤ 20001 ∧ (weighT t n ≤ 20000 → n + 1 ≤ weighT t n ∧ t.length < 4611686018427387904) := by
  obtain ⟨e1, e2, e3, e4⟩ := weighT_in (t := t) h0
  by_cases h : n ≤ 20000
  · have := e2 h
    exact ⟨by omega, e1, fun hw => ⟨by omega, by have := e4 hw; omega⟩⟩
  · have : weighT t n = 20001 := by unfold weighT; rw [if_pos (by omega)]
    exact ⟨by omega, e1, fun hw => by omega⟩

mutual
theorem weighS_in : ∀ (s : Sm) {n : Int}, 0 ≤ n → n ≤ 20000 → weighS s n ≤ 20001 ∧ n + 1 ≤ weighS s n ∧ (weighS s n ≤ 20000 → (s.size : Int) + 1 ≤ 2 * (weighS s n - n) ∧ s.FineD)
  | ⟨id, kind, labels, name, proc, x, has, args, thn, els⟩, n, h0, h1 => by
    obtain ⟨a1, a2, a3, a4⟩ := weigh_in _ x (Nat.le_refl _) n h0
    have a2 := a2 h1
    obtain ⟨b1, b2, b3⟩ := weighTs_in labels a3 a1
    obtain ⟨c1, c2, c3⟩ := weighT_mono (t := name) (n := weighTs labels (weighE x n)) (by omega) b1
    obtain ⟨d1, d2, d3⟩ := weighT_mono (t := proc) (n := weighT name (weighTs labels (weighE x n))) (by omega) c2
    obtain ⟨e1, e2, e3⟩ := weighAs_in args (n := weighT proc (weighT name (weighTs labels (weighE x n)))) (by omega) d2
    obtain ⟨f1, f2, f3⟩ := weighSs_in thn (n := weighAs args (weighT proc (weighT name (weighTs labels (weighE x n))))) (by omega) e1
    obtain ⟨g1, g2, g3⟩ := weighSs_in els (n := weighSs thn (weighAs args (weighT proc (weighT name (weighTs labels (weighE x n)))))) (by omega) f1
    simp only [weighS, Sm.size]
    refine ⟨g1, by omega, fun hw => ?_⟩
    obtain ⟨g4, g5⟩ := g3 hw
    obtain ⟨f4, f5⟩ := f3 (by omega)
    obtain ⟨e4, e5⟩ := e3 (by omega)
    obtain ⟨d4, d5⟩ := d3 (by omega)
    obtain ⟨c4, c5⟩ := c3 (by omega)
    obtain ⟨b4, b5⟩ := b3 (by omega)
    obtain ⟨a5, a6⟩ := a4 (by omega)
    have := Ar.sizes_len args
    refine ⟨by omega, ?_⟩
    rw [FineD_eq]
    exact ⟨⟨b5, by dsimp only; omega, c5, d5, by dsimp only; omega, a6, by dsimp only; omega, e5⟩, f5, g5⟩
theorem weighSs_in : ∀ (l : List Sm) {n : Int}, 0 ≤ n → n ≤ 20001 → weighSs l n ≤ 20001 ∧ n ≤ weighSs l n ∧ (weighSs l n ≤ 20000 → (Sm.sizes l : Int) ≤ 2 * (weighSs l n - n) ∧ Sm.FineDs l)
  | [], n, h0, h1 => by simp only [weighSs]; exact ⟨h1, Int.le_refl _, fun _ => ⟨by simp [Sm.sizes], by simp only [Sm.FineDs]⟩⟩
  | s :: l, n, h0, h1 => by
    simp only [weighSs]
    split
    · rename_i hc
      obtain ⟨a1, a2, a3⟩ := weighS_in s h0 hc
      obtain ⟨b1, b2, b3⟩ := weighSs_in l (n := weighS s n) (by omega) a1
      refine ⟨b1, by omega, fun hw => ?_⟩
      obtain ⟨c1, c2⟩ := b3 hw
      obtain ⟨d1, d2⟩ := a3 (by omega)
      exact ⟨by simp only [Sm.sizes]; omega, d2, c2⟩
    · exact ⟨h1, Int.le_refl _, fun hw => by omega⟩
end

theorem weighF_in (f : Pc) {n : Int} (h0 : 0 ≤ n) (h1 : n ≤ 20000) : weighF f n ≤ 20001 ∧ n + 1 ≤ weighF f n ∧ (weighF f n ≤ 20000 → (f.size : Int) + 1 ≤ 2 * (weighF f n - n) ∧
    (f.name.length < 4611686018427387904 ∧ (∀ t ∈ f.vars, t.length < 4611686018427387904) ∧ (∀ t ∈ f.fin, t.length < 4611686018427387904) ∧ ∀ a ∈ f.params, a.name.length < 4611686018427387904) ∧ Sm.FineDs f.body) := by
  obtain ⟨c1, c2, c3⟩ := weighT_mono (t := f.name) h0 (by omega : n ≤ 20001)
  have c4 := (weighT_in (t := f.name) h0).2.1 h1
  obtain ⟨d1, d2, d3⟩ := weighTs_in f.vars (n := weighT f.name n) (by omega) c2
  obtain ⟨e1, e2, e3⟩ := weighTs_in f.fin (n := weighTs f.vars (weighT f.name n)) (by omega) d1
  obtain ⟨g1, g2, g3⟩ := weighMs_in f.params (n := weighTs f.fin (weighTs f.vars (weighT f.name n))) (by omega) e1
  obtain ⟨k1, k2, k3⟩ := weighSs_in f.body (n := weighMs f.params (weighTs f.fin (weighTs f.vars (weighT f.name n)))) (by omega) g1
  unfold weighF Pc.size
  refine ⟨k1, by omega, fun hw => ?_⟩
  obtain ⟨k4, k5⟩ := k3 hw
  obtain ⟨g4, g5⟩ := g3 (by omega)
  obtain ⟨e4, e5⟩ := e3 (by omega)
  obtain ⟨d4, d5⟩ := d3 (by omega)
  obtain ⟨_, c5⟩ := c3 (by omega)
  exact ⟨by omega, ⟨c5, d5, e5, g5⟩, k5⟩

theorem weighFs_in : ∀ (l : List Pc) {n : Int}, 0 ≤ n → n ≤ 20001 → weighFs l n ≤ 20001 ∧ n ≤ weighFs l n ∧ (weighFs l n ≤ 20000 → (Pc.sizes l : Int) ≤ 2 * (weighFs l n - n) ∧ ∀ f ∈ l,
    (f.name.length < 4611686018427387904 ∧ (∀ t ∈ f.vars, t.length < 4611686018427387904) ∧ (∀ t ∈ f.fin, t.length < 4611686018427387904) ∧ ∀ a ∈ f.params, a.name.length < 4611686018427387904) ∧ Sm.FineDs f.body)
  | [], n, h0, h1 => by simp only [weighFs]; exact ⟨h1, Int.le_refl _, fun _ => ⟨by simp [Pc.sizes], by simp⟩⟩
  | f :: l, n, h0, h1 => by
    simp only [weighFs]
    split
    · rename_i hc
      obtain ⟨a1, a2, a3⟩ := weighF_in f h0 hc
      obtain ⟨b1, b2, b3⟩ := weighFs_in l (n := weighF f n) (by omega) a1
      refine ⟨b1, by omega, fun hw => ?_⟩
      obtain ⟨c1, c2⟩ := b3 hw
      obtain ⟨d1, d2⟩ := a3 (by omega)
      refine ⟨by simp only [Pc.sizes]; omega, fun s m => ?_⟩
      rcases List.mem_cons.1 m with rfl | m
      · exact d2
      · exact c2 s m
    · exact ⟨h1, Int.le_refl _, fun hw => by omega⟩

theorem weigh_fits {p : Pg} (h : p.weigh ≤ 20000) : p.size ≤ 40001 ∧ p.FineP := by
  unfold Pg.weigh at h
  obtain ⟨a1, a2, a3⟩ := weighTs_in p.globals (n := 0) (by omega) (by omega)
  obtain ⟨b1, b2, b3⟩ := weighFs_in p.procs (n := weighTs p.globals 0) (by omega) a1
  obtain ⟨c1, c2⟩ := b3 h
  obtain ⟨d1, d2⟩ := a3 (by omega)
  have : p.size ≤ 40001 := by unfold Pg.size; omega
  exact ⟨this, by omega, d2, fun f m => (c2 f m).1, fun f m => (c2 f m).2⟩

/-! ### The walk -/

theorem weighTs_s {l : List Str} {n : Int} (h0 : 0 ≤ n) (h1 : n ≤ 20001) (s : St) : Fun Tryd.prog n_ref3_weighTexts [.slice .shared 1 (l.map encStr), .int .i64 n] s (.int .i64 (weighTs l n)) s := by
  refine Fun.pure ?_ (by simp [D.oks, D.ok, okrStr, Tag.ok]) rfl s
  unfold S0
  generalize h : weighTs l n = p
  refine Fun.go has_ref3_weighTexts rfl fun B Q hB hQ => ?_
  have hlt : 0 < 1 := Nat.zero_lt_one
  have hget : 0 < 1 := Nat.zero_lt_one
  have hpu : 0 < 1 := Nat.zero_lt_one
  have hinc : 0 < 1 := Nat.zero_lt_one
  repeat' (first
 | simp only [go_sem, hlt, hget, hpu, hinc, Int.reduceLE, ↓reduceIte, reduceCtorEq, Nat.reduceEqDiff, Nat.reduceLeDiff, Nat.reduceAdd, Nat.reduceMul, Nat.reduceSub, Nat.reduceLT]
 | (with_reducible first | refine CB_ofT (by assumption) fun hc => ?_ | refine CB_ofF (by assumption) fun hc => ?_ | refine CB_split (fun hc => ?_) fun hc => ?_) <;> (try simp only [hc, bs, ↓reduceIte] at h) <;> (try simp only [hc])
 | ((with_reducible first | refine leafR hQ ?_ | refine leafN hQ ?_); (try cases h); simp only [resL, oneD, Option.some.injEq, exists_eq_left', go_sem, hlt, hget, hpu, hinc, Int.reduceLE, ↓reduceIte, reduceCtorEq, Nat.reduceEqDiff, Nat.reduceLeDiff, Nat.reduceAdd, Nat.reduceMul, Nat.reduceSub, Nat.reduceLT]; repeat' (first | exact Ok.out | with_reducible refine And.intro ?_ ?_ | (simp; done)))
 | (cases h; replace h := hr; clear hr; (try simp only [bs, ↓reduceIte] at h))
 | (cases h; done))
  refine SemL.re _ _ 0 0 (by rw [hB]; exact Nat.le_of_ble_eq_true rfl) (by rw [hB]; exact Nat.le_of_ble_eq_true rfl) ?_ ?_ (SemL.ind (ι := List Str × Nat × Int) (fun i => l.drop i.2.1 = i.1 ∧ weighTs i.1 i.2.2 = p ∧ (i.2.1 : Int) ≤ i.2.2 ∧ i.2.2 ≤ 20001) (fun i => i.1.length)
    (fun i => [(0, .slice .shared 1 (l.map encStr)), (1, .int .i64 i.2.2), (5, .int .i64 (i.2.1 : Int))]) (fun i => ⟨[], []⟩) ?_ (l, 0, n) ⟨rfl, h, h0, h1⟩)
  · (simp only [go_sem, hlt, hget, hpu, hinc, Int.reduceLE, ↓reduceIte, reduceCtorEq, Nat.reduceEqDiff, Nat.reduceLeDiff, Nat.reduceAdd, Nat.reduceMul, Nat.reduceSub, Nat.reduceLT]; repeat' (first | exact Ok.out | with_reducible refine And.intro ?_ ?_))
  · (simp only [go_sem, hlt, hget, hpu, hinc, Int.reduceLE, ↓reduceIte, reduceCtorEq, Nat.reduceEqDiff, Nat.reduceLeDiff, Nat.reduceAdd, Nat.reduceMul, Nat.reduceSub, Nat.reduceLT]; repeat' (first | exact Ok.out | with_reducible refine And.intro ?_ ?_))
  rintro ⟨rest, k, c⟩ ⟨g1, h, g3, g4⟩ IH
  dsimp only at g1 h g3 g4
  cases rest with
  | nil =>
    have hlt := drop_nil g1
    simp only [weighTs] at h
    subst h
    repeat' (first
 | simp only [go_sem, hlt, hget, hpu, hinc, Int.reduceLE, ↓reduceIte, reduceCtorEq, Nat.reduceEqDiff, Nat.reduceLeDiff, Nat.reduceAdd, Nat.reduceMul, Nat.reduceSub, Nat.reduceLT]
 | (with_reducible first | refine CB_ofT (by assumption) fun hc => ?_ | refine CB_ofF (by assumption) fun hc => ?_ | refine CB_split (fun hc => ?_) fun hc => ?_) <;> (try simp only [hc, bs, ↓reduceIte] at h) <;> (try simp only [hc])
 | ((with_reducible first | refine leafR hQ ?_ | refine leafN hQ ?_); (try cases h); simp only [resL, oneD, Option.some.injEq, exists_eq_left', go_sem, hlt, hget, hpu, hinc, Int.reduceLE, ↓reduceIte, reduceCtorEq, Nat.reduceEqDiff, Nat.reduceLeDiff, Nat.reduceAdd, Nat.reduceMul, Nat.reduceSub, Nat.reduceLT]; repeat' (first | exact Ok.out | with_reducible refine And.intro ?_ ?_ | (simp; done)))
 | (cases h; replace h := hr; clear hr; (try simp only [bs, ↓reduceIte] at h))
 | (cases h; done))
  | cons y rest =>
    obtain ⟨hget, g2, hlt, g5⟩ := drop_cons g1
    simp only [weighTs] at h
    by_cases hc : c ≤ 20000
    · have c1 : decide (c ≤ 20000) = true := by simp; omega
      have hy := fun s => weighT_s y (n := c) (by omega) g4 s
      obtain ⟨a1, a2, a3, a4⟩ := weighT_in (t := y) (n := c) (by omega)
      have := a2 hc
      have w3 : IntKind.wrap .i64 ((k : Int) + 1) = ((k + 1 : Nat) : Int) := by rw [wrap_ok] <;> omega
      rw [if_pos hc] at h
      repeat' (first
 | simp only [go_sem, hlt, hget, hpu, hinc, Int.reduceLE, ↓reduceIte, reduceCtorEq, Nat.reduceEqDiff, Nat.reduceLeDiff, Nat.reduceAdd, Nat.reduceMul, Nat.reduceSub, Nat.reduceLT, c1, w3]
 | (with_reducible refine CU (hy _) ?_)
 | (with_reducible first | refine CB_ofT (by assumption) fun hc => ?_ | refine CB_ofF (by assumption) fun hc => ?_ | refine CB_split (fun hc => ?_) fun hc => ?_) <;> (try simp only [hc, bs, ↓reduceIte] at h) <;> (try simp only [hc])
 | ((with_reducible first | refine leafR hQ ?_ | refine leafN hQ ?_); (try cases h); simp only [resL, oneD, Option.some.injEq, exists_eq_left', go_sem, hlt, hget, hpu, hinc, Int.reduceLE, ↓reduceIte, reduceCtorEq, Nat.reduceEqDiff, Nat.reduceLeDiff, Nat.reduceAdd, Nat.reduceMul, Nat.reduceSub, Nat.reduceLT, c1, w3]; repeat' (first | exact Ok.out | with_reducible refine And.intro ?_ ?_ | (simp; done)))
 | (cases h; replace h := hr; clear hr; (try simp only [bs, ↓reduceIte] at h))
 | (cases h; done))
      refine SemL.re _ _ 0 0 (by rw [hB]; exact Nat.le_of_ble_eq_true rfl) (by rw [hB]; exact Nat.le_of_ble_eq_true rfl) ?_ ?_ (IH (rest, k + 1, weighT y c) ⟨g2, h, by dsimp only; omega, a1⟩ (Nat.lt_succ_self _))
      · (simp only [go_sem, hlt, hget, hpu, hinc, Int.reduceLE, ↓reduceIte, reduceCtorEq, Nat.reduceEqDiff, Nat.reduceLeDiff, Nat.reduceAdd, Nat.reduceMul, Nat.reduceSub, Nat.reduceLT]; repeat' (first | exact Ok.out | with_reducible refine And.intro ?_ ?_))
      · (simp only [go_sem, hlt, hget, hpu, hinc, Int.reduceLE, ↓reduceIte, reduceCtorEq, Nat.reduceEqDiff, Nat.reduceLeDiff, Nat.reduceAdd, Nat.reduceMul, Nat.reduceSub, Nat.reduceLT]; repeat' (first | exact Ok.out | with_reducible refine And.intro ?_ ?_))
    · have c1 : decide (c ≤ 20000) = false := by simp; omega
      rw [if_neg hc] at h
      subst h
      repeat' (first
 | simp only [go_sem, hlt, hget, hpu, hinc, Int.reduceLE, ↓reduceIte, reduceCtorEq, Nat.reduceEqDiff, Nat.reduceLeDiff, Nat.reduceAdd, Nat.reduceMul, Nat.reduceSub, Nat.reduceLT, c1]
 | (with_reducible first | refine CB_ofT (by assumption) fun hc => ?_ | refine CB_ofF (by assumption) fun hc => ?_ | refine CB_split (fun hc => ?_) fun hc => ?_) <;> (try simp only [hc, bs, ↓reduceIte] at h) <;> (try simp only [hc])
 | ((with_reducible first | refine leafR hQ ?_ | refine leafN hQ ?_); (try cases h); simp only [resL, oneD, Option.some.injEq, exists_eq_left', go_sem, hlt, hget, hpu, hinc, Int.reduceLE, ↓reduceIte, reduceCtorEq, Nat.reduceEqDiff, Nat.reduceLeDiff, Nat.reduceAdd, Nat.reduceMul, Nat.reduceSub, Nat.reduceLT, c1]; repeat' (first | exact Ok.out | with_reducible refine And.intro ?_ ?_ | (simp; done)))
 | (cases h; replace h := hr; clear hr; (try simp only [bs, ↓reduceIte] at h))
 | (cases h; done))

theorem weighSs_s : ∀ (m : Nat) (l : List Sm), Sm.sizes l ≤ m → ∀ {n : Int}, 0 ≤ n → n ≤ 20001 → ∀ s : St, Fun Tryd.prog n_ref3_weighStmts [.slice .shared 13 (l.map encSm), .int .i64 n] s (.int .i64 (weighSs l n)) s := by
  intro m
  induction m with
  | zero =>
    intro l h n h0 h1 s
    cases l with
    | nil =>
      have z : decide ((0 : Int) < 0) = false := rfl
      refine Fun.pure ?_ (by simp [D.oks, D.ok, D.okr, Tag.ok]) rfl s
      unfold S0
      simp only [weighSs]
      refine Fun.go has_ref3_weighStmts rfl fun B Q hB hQ => ?_
      have hlt : 0 < 1 := Nat.zero_lt_one
      have hget : 0 < 1 := Nat.zero_lt_one
      have hpu : 0 < 1 := Nat.zero_lt_one
      have hinc : 0 < 1 := Nat.zero_lt_one
      repeat' (first
 | simp only [go_sem, hlt, hget, hpu, hinc, Int.reduceLE, ↓reduceIte, reduceCtorEq, Nat.reduceEqDiff, Nat.reduceLeDiff, Nat.reduceAdd, Nat.reduceMul, Nat.reduceSub, Nat.reduceLT, z]
 | (with_reducible refine SemL.onceW ?_)
 | (with_reducible first | refine CB_ofT (by assumption) fun hc => ?_ | refine CB_ofF (by assumption) fun hc => ?_ | refine CB_split (fun hc => ?_) fun hc => ?_) <;> (try simp only [hc, bs, ↓reduceIte] at h) <;> (try simp only [hc])
 | ((with_reducible first | refine leafR hQ ?_ | refine leafN hQ ?_); (try cases h); simp only [resL, oneD, Option.some.injEq, exists_eq_left', go_sem, hlt, hget, hpu, hinc, Int.reduceLE, ↓reduceIte, reduceCtorEq, Nat.reduceEqDiff, Nat.reduceLeDiff, Nat.reduceAdd, Nat.reduceMul, Nat.reduceSub, Nat.reduceLT, z]; repeat' (first | exact Ok.out | with_reducible refine And.intro ?_ ?_ | (simp; done)))
 | (cases h; replace h := hr; clear hr; (try simp only [bs, ↓reduceIte] at h))
 | (cases h; done))
    | cons s l => simp only [Sm.sizes] at h; omega
  | succ m ih =>
    intro l h n h0 h1 s
    refine Fun.pure ?_ (by simp [D.oks, D.ok, okrSm, Tag.ok]) rfl s
    unfold S0
    generalize hp : weighSs l n = p
    refine Fun.go has_ref3_weighStmts rfl fun B Q hB hQ => ?_
    have hlt : 0 < 1 := Nat.zero_lt_one
    have hget : 0 < 1 := Nat.zero_lt_one
    have hpu : 0 < 1 := Nat.zero_lt_one
    have hinc : 0 < 1 := Nat.zero_lt_one
    repeat' (first
 | simp only [go_sem, hlt, hget, hpu, hinc, Int.reduceLE, ↓reduceIte, reduceCtorEq, Nat.reduceEqDiff, Nat.reduceLeDiff, Nat.reduceAdd, Nat.reduceMul, Nat.reduceSub, Nat.reduceLT]
 | (with_reducible first | refine CB_ofT (by assumption) fun hc => ?_ | refine CB_ofF (by assumption) fun hc => ?_ | refine CB_split (fun hc => ?_) fun hc => ?_) <;> (try simp only [hc, bs, ↓reduceIte] at h) <;> (try simp only [hc])
 | ((with_reducible first | refine leafR hQ ?_ | refine leafN hQ ?_); (try cases h); simp only [resL, oneD, Option.some.injEq, exists_eq_left', go_sem, hlt, hget, hpu, hinc, Int.reduceLE, ↓reduceIte, reduceCtorEq, Nat.reduceEqDiff, Nat.reduceLeDiff, Nat.reduceAdd, Nat.reduceMul, Nat.reduceSub, Nat.reduceLT]; repeat' (first | exact Ok.out | with_reducible refine And.intro ?_ ?_ | (simp; done)))
 | (cases h; replace h := hr; clear hr; (try simp only [bs, ↓reduceIte] at h))
 | (cases h; done))
    refine SemL.re _ _ 0 0 (by rw [hB]; exact Nat.le_of_ble_eq_true rfl) (by rw [hB]; exact Nat.le_of_ble_eq_true rfl) ?_ ?_ (SemL.ind (ι := List Sm × Nat × Int) (fun i => l.drop i.2.1 = i.1 ∧ weighSs i.1 i.2.2 = p ∧ (i.2.1 : Int) ≤ i.2.2 ∧ i.2.2 ≤ 20001) (fun i => i.1.length)
      (fun i => [(0, .slice .shared 13 (l.map encSm)), (1, .int .i64 i.2.2), (5, .int .i64 (i.2.1 : Int))]) (fun i => ⟨[], []⟩) ?_ (l, 0, n) ⟨rfl, hp, h0, h1⟩)
    · (simp only [go_sem, hlt, hget, hpu, hinc, Int.reduceLE, ↓reduceIte, reduceCtorEq, Nat.reduceEqDiff, Nat.reduceLeDiff, Nat.reduceAdd, Nat.reduceMul, Nat.reduceSub, Nat.reduceLT]; repeat' (first | exact Ok.out | with_reducible refine And.intro ?_ ?_))
    · (simp only [go_sem, hlt, hget, hpu, hinc, Int.reduceLE, ↓reduceIte, reduceCtorEq, Nat.reduceEqDiff, Nat.reduceLeDiff, Nat.reduceAdd, Nat.reduceMul, Nat.reduceSub, Nat.reduceLT]; repeat' (first | exact Ok.out | with_reducible refine And.intro ?_ ?_))
    rintro ⟨rest, k, c⟩ ⟨g1, hp, g3, g4⟩ IH
    dsimp only at g1 hp g3 g4
    cases rest with
    | nil =>
      have hlt := drop_nil g1
      simp only [weighSs] at hp
      subst hp
      repeat' (first
 | simp only [go_sem, hlt, hget, hpu, hinc, Int.reduceLE, ↓reduceIte, reduceCtorEq, Nat.reduceEqDiff, Nat.reduceLeDiff, Nat.reduceAdd, Nat.reduceMul, Nat.reduceSub, Nat.reduceLT]
 | (with_reducible first | refine CB_ofT (by assumption) fun hc => ?_ | refine CB_ofF (by assumption) fun hc => ?_ | refine CB_split (fun hc => ?_) fun hc => ?_) <;> (try simp only [hc, bs, ↓reduceIte] at h) <;> (try simp only [hc])
 | ((with_reducible first | refine leafR hQ ?_ | refine leafN hQ ?_); (try cases h); simp only [resL, oneD, Option.some.injEq, exists_eq_left', go_sem, hlt, hget, hpu, hinc, Int.reduceLE, ↓reduceIte, reduceCtorEq, Nat.reduceEqDiff, Nat.reduceLeDiff, Nat.reduceAdd, Nat.reduceMul, Nat.reduceSub, Nat.reduceLT]; repeat' (first | exact Ok.out | with_reducible refine And.intro ?_ ?_ | (simp; done)))
 | (cases h; replace h := hr; clear hr; (try simp only [bs, ↓reduceIte] at h))
 | (cases h; done))
    | cons y rest =>
      obtain ⟨hget, g2, hlt, g5⟩ := drop_cons g1
      simp only [weighSs] at hp
      by_cases hc : c ≤ 20000
      · have c1 : decide (c ≤ 20000) = true := by simp; omega
        have hmem := List.mem_of_getElem? hget
        have hsz := Sm.sizes_mem hmem
        have hsz2 : s.objs.length ≤ s.objs.length ∧ Sm.sizes y.thn < y.size ∧ Sm.sizes y.els < y.size := by cases y; simp only [Sm.size]; omega
        have w3 : IntKind.wrap .i64 ((k : Int) + 1) = ((k + 1 : Nat) : Int) := by rw [wrap_ok] <;> omega
        rw [if_pos hc] at hp
        obtain ⟨a1, a2, a3, a4⟩ := weigh_in _ y.x (Nat.le_refl _) c (by omega)
        have a2 := a2 hc
        obtain ⟨b1, b2, b3⟩ := weighTs_in y.labels a3 a1
        obtain ⟨c1', c2, c3⟩ := weighT_mono (t := y.name) (n := weighTs y.labels (weighE y.x c)) (by omega) b1
        obtain ⟨d1, d2, d3⟩ := weighT_mono (t := y.proc) (n := weighT y.name (weighTs y.labels (weighE y.x c))) (by omega) c2
        have eE := fun s => weighE_s _ y.x (Nat.le_refl _) (n := c) (by omega) hc s
        have eL := fun s => weighTs_s (l := y.labels) (n := weighE y.x c) (by omega) a1 s
        have eN := fun s => weighT_s y.name (n := weighTs y.labels (weighE y.x c)) (by omega) b1 s
        have eP := fun s => weighT_s y.proc (n := weighT y.name (weighTs y.labels (weighE y.x c))) (by omega) c2 s
        obtain ⟨r1, r2, r3⟩ := weighS_in y (n := c) (by omega) hc
        rw [weighS_eq] at hp r1 r2
        generalize hC : weighT y.proc (weighT y.name (weighTs y.labels (weighE y.x c))) = C at *
        obtain ⟨s1, s2, s3⟩ := weighAs_in y.args (n := C) (by omega) d2
        obtain ⟨t1, t2, t3⟩ := weighSs_in y.thn (n := weighAs y.args C) (by omega) s1
        have eT := fun s => ih y.thn (by omega) (n := weighAs y.args C) (by omega) s1 s
        have eS := fun s => ih y.els (by omega) (n := weighSs y.thn (weighAs y.args C)) (by omega) t1 s
        generalize hW : weighAs y.args C = W at *
        repeat' (first
 | simp only [go_sem, hlt, hget, hpu, hinc, Int.reduceLE, ↓reduceIte, reduceCtorEq, Nat.reduceEqDiff, Nat.reduceLeDiff, Nat.reduceAdd, Nat.reduceMul, Nat.reduceSub, Nat.reduceLT, c1, w3]
 | (with_reducible refine CU (eE _) ?_)
 | (with_reducible refine CU (eL _) ?_)
 | (with_reducible refine CU (eN _) ?_)
 | (with_reducible refine CU (eP _) ?_)
 | (with_reducible first | refine CB_ofT (by assumption) fun hc => ?_ | refine CB_ofF (by assumption) fun hc => ?_ | refine CB_split (fun hc => ?_) fun hc => ?_) <;> (try simp only [hc, bs, ↓reduceIte] at h) <;> (try simp only [hc])
 | ((with_reducible first | refine leafR hQ ?_ | refine leafN hQ ?_); (try cases h); simp only [resL, oneD, Option.some.injEq, exists_eq_left', go_sem, hlt, hget, hpu, hinc, Int.reduceLE, ↓reduceIte, reduceCtorEq, Nat.reduceEqDiff, Nat.reduceLeDiff, Nat.reduceAdd, Nat.reduceMul, Nat.reduceSub, Nat.reduceLT, c1, w3]; repeat' (first | exact Ok.out | with_reducible refine And.intro ?_ ?_ | (simp; done)))
 | (cases h; replace h := hr; clear hr; (try simp only [bs, ↓reduceIte] at h))
 | (cases h; done))
        refine SemL.re _ _ 1 0 (by rw [hB]; exact Nat.le_of_ble_eq_true rfl) (by rw [hB]; exact Nat.le_of_ble_eq_true rfl) ?_ ?_ (SemL.ind (ι := List Ar × Nat × Int) (fun i => y.args.drop i.2.1 = i.1 ∧ weighAs i.1 i.2.2 = W ∧ (i.2.1 : Int) ≤ i.2.2 ∧ i.2.2 ≤ 20001) (fun i => i.1.length)
          (fun i => [(0, .slice .shared 13 (l.map encSm)), (1, .int .i64 i.2.2), (5, .int .i64 (k : Int)), (6, .ptr 0 0), (7, .int .i64 (i.2.1 : Int))]) (fun i => ⟨[encSm y], []⟩) ?_ (y.args, 0, C) ⟨rfl, hW, by dsimp only; omega, d2⟩)
        · (simp only [go_sem, hlt, hget, hpu, hinc, Int.reduceLE, ↓reduceIte, reduceCtorEq, Nat.reduceEqDiff, Nat.reduceLeDiff, Nat.reduceAdd, Nat.reduceMul, Nat.reduceSub, Nat.reduceLT]; repeat' (first | exact Ok.out | with_reducible refine And.intro ?_ ?_))
        · (simp only [go_sem, hlt, hget, hpu, hinc, Int.reduceLE, ↓reduceIte, reduceCtorEq, Nat.reduceEqDiff, Nat.reduceLeDiff, Nat.reduceAdd, Nat.reduceMul, Nat.reduceSub, Nat.reduceLT]; repeat' (first | exact Ok.out | with_reducible refine And.intro ?_ ?_))
        rintro ⟨ars, j, e⟩ ⟨k1, hw, k3, k4⟩ IH2
        dsimp only at k1 hw k3 k4
        cases ars with
        | nil =>
          have hlt := drop_nil k1
          simp only [weighAs] at hw
          subst hw
          repeat' (first
 | simp only [go_sem, hlt, hget, hpu, hinc, Int.reduceLE, ↓reduceIte, reduceCtorEq, Nat.reduceEqDiff, Nat.reduceLeDiff, Nat.reduceAdd, Nat.reduceMul, Nat.reduceSub, Nat.reduceLT, w3]
 | (with_reducible refine CU (eT _) ?_)
 | (with_reducible refine CU (eS _) ?_)
 | (with_reducible first | refine CB_ofT (by assumption) fun hc => ?_ | refine CB_ofF (by assumption) fun hc => ?_ | refine CB_split (fun hc => ?_) fun hc => ?_) <;> (try simp only [hc, bs, ↓reduceIte] at h) <;> (try simp only [hc])
 | ((with_reducible first | refine leafR hQ ?_ | refine leafN hQ ?_); (try cases h); simp only [resL, oneD, Option.some.injEq, exists_eq_left', go_sem, hlt, hget, hpu, hinc, Int.reduceLE, ↓reduceIte, reduceCtorEq, Nat.reduceEqDiff, Nat.reduceLeDiff, Nat.reduceAdd, Nat.reduceMul, Nat.reduceSub, Nat.reduceLT, w3]; repeat' (first | exact Ok.out | with_reducible refine And.intro ?_ ?_ | (simp; done)))
 | (cases h; replace h := hr; clear hr; (try simp only [bs, ↓reduceIte] at h))
 | (cases h; done))
          refine SemL.re _ _ 0 0 (by rw [hB]; exact Nat.le_of_ble_eq_true rfl) (by rw [hB]; exact Nat.le_of_ble_eq_true rfl) ?_ ?_ (IH (rest, k + 1, weighSs y.els (weighSs y.thn e)) ⟨g2, hp, by dsimp only; omega, r1⟩ (Nat.lt_succ_self _))
          · (simp only [go_sem, hlt, hget, hpu, hinc, Int.reduceLE, ↓reduceIte, reduceCtorEq, Nat.reduceEqDiff, Nat.reduceLeDiff, Nat.reduceAdd, Nat.reduceMul, Nat.reduceSub, Nat.reduceLT]; repeat' (first | exact Ok.out | with_reducible refine And.intro ?_ ?_))
          · (simp only [go_sem, hlt, hget, hpu, hinc, Int.reduceLE, ↓reduceIte, reduceCtorEq, Nat.reduceEqDiff, Nat.reduceLeDiff, Nat.reduceAdd, Nat.reduceMul, Nat.reduceSub, Nat.reduceLT]; repeat' (first | exact Ok.out | with_reducible refine And.intro ?_ ?_))
        | cons a ars =>
          obtain ⟨hget, k2, hlt, k5⟩ := drop_cons k1
          simp only [weighAs] at hw
          by_cases he : e ≤ 20000
          · have e1 : decide (e ≤ 20000) = true := by simp; omega
            have w4 : IntKind.wrap .i64 ((j : Int) + 1) = ((j + 1 : Nat) : Int) := by rw [wrap_ok] <;> omega
            rw [if_pos he] at hw
            obtain ⟨u1, u2, u3, u4⟩ := weigh_in _ a.x (Nat.le_refl _) e (by omega)
            have u2 := u2 he
            obtain ⟨v1, v2, v3⟩ := weighT_mono (t := a.name) (n := weighE a.x e) u3 u1
            have eX := fun s => weighE_s _ a.x (Nat.le_refl _) (n := e) (by omega) he s
            have eM := fun s => weighT_s a.name (n := weighE a.x e) u3 u1 s
            repeat' (first
 | simp only [go_sem, hlt, hget, hpu, hinc, Int.reduceLE, ↓reduceIte, reduceCtorEq, Nat.reduceEqDiff, Nat.reduceLeDiff, Nat.reduceAdd, Nat.reduceMul, Nat.reduceSub, Nat.reduceLT, e1, w4]
 | (with_reducible refine CU (eX _) ?_)
 | (with_reducible refine CU (eM _) ?_)
 | (with_reducible first | refine CB_ofT (by assumption) fun hc => ?_ | refine CB_ofF (by assumption) fun hc => ?_ | refine CB_split (fun hc => ?_) fun hc => ?_) <;> (try simp only [hc, bs, ↓reduceIte] at h) <;> (try simp only [hc])
 | ((with_reducible first | refine leafR hQ ?_ | refine leafN hQ ?_); (try cases h); simp only [resL, oneD, Option.some.injEq, exists_eq_left', go_sem, hlt, hget, hpu, hinc, Int.reduceLE, ↓reduceIte, reduceCtorEq, Nat.reduceEqDiff, Nat.reduceLeDiff, Nat.reduceAdd, Nat.reduceMul, Nat.reduceSub, Nat.reduceLT, e1, w4]; repeat' (first | exact Ok.out | with_reducible refine And.intro ?_ ?_ | (simp; done)))
 | (cases h; replace h := hr; clear hr; (try simp only [bs, ↓reduceIte] at h))
 | (cases h; done))
            refine SemL.re _ _ 1 0 (by rw [hB]; exact Nat.le_of_ble_eq_true rfl) (by rw [hB]; exact Nat.le_of_ble_eq_true rfl) ?_ ?_ (IH2 (ars, j + 1, weighT a.name (weighE a.x e)) ⟨k2, hw, by dsimp only; omega, v2⟩ (Nat.lt_succ_self _))
            · (simp only [go_sem, hlt, hget, hpu, hinc, Int.reduceLE, ↓reduceIte, reduceCtorEq, Nat.reduceEqDiff, Nat.reduceLeDiff, Nat.reduceAdd, Nat.reduceMul, Nat.reduceSub, Nat.reduceLT]; repeat' (first | exact Ok.out | with_reducible refine And.intro ?_ ?_))
            · (simp only [go_sem, hlt, hget, hpu, hinc, Int.reduceLE, ↓reduceIte, reduceCtorEq, Nat.reduceEqDiff, Nat.reduceLeDiff, Nat.reduceAdd, Nat.reduceMul, Nat.reduceSub, Nat.reduceLT]; repeat' (first | exact Ok.out | with_reducible refine And.intro ?_ ?_))
          · have e1 : decide (e ≤ 20000) = false := by simp; omega
            rw [if_neg he] at hw
            subst hw
            repeat' (first
 | simp only [go_sem, hlt, hget, hpu, hinc, Int.reduceLE, ↓reduceIte, reduceCtorEq, Nat.reduceEqDiff, Nat.reduceLeDiff, Nat.reduceAdd, Nat.reduceMul, Nat.reduceSub, Nat.reduceLT, e1, w3]
 | (with_reducible refine CU (eT _) ?_)
 | (with_reducible refine CU (eS _) ?_)
 | (with_reducible first | refine CB_ofT (by assumption) fun hc => ?_ | refine CB_ofF (by assumption) fun hc => ?_ | refine CB_split (fun hc => ?_) fun hc => ?_) <;> (try simp only [hc, bs, ↓reduceIte] at h) <;> (try simp only [hc])
 | ((with_reducible first | refine leafR hQ ?_ | refine leafN hQ ?_); (try cases h); simp only [resL, oneD, Option.some.injEq, exists_eq_left', go_sem, hlt, hget, hpu, hinc, Int.reduceLE, ↓reduceIte, reduceCtorEq, Nat.reduceEqDiff, Nat.reduceLeDiff, Nat.reduceAdd, Nat.reduceMul, Nat.reduceSub, Nat.reduceLT, e1, w3]; repeat' (first | exact Ok.out | with_reducible refine And.intro ?_ ?_ | (simp; done)))
 | (cases h; replace h := hr; clear hr; (try simp only [bs, ↓reduceIte] at h))
 | (cases h; done))
            refine SemL.re _ _ 0 0 (by rw [hB]; exact Nat.le_of_ble_eq_true rfl) (by rw [hB]; exact Nat.le_of_ble_eq_true rfl) ?_ ?_ (IH (rest, k + 1, weighSs y.els (weighSs y.thn e)) ⟨g2, hp, by dsimp only; omega, r1⟩ (Nat.lt_succ_self _))
            · (simp only [go_sem, hlt, hget, hpu, hinc, Int.reduceLE, ↓reduceIte, reduceCtorEq, Nat.reduceEqDiff, Nat.reduceLeDiff, Nat.reduceAdd, Nat.reduceMul, Nat.reduceSub, Nat.reduceLT]; repeat' (first | exact Ok.out | with_reducible refine And.intro ?_ ?_))
            · (simp only [go_sem, hlt, hget, hpu, hinc, Int.reduceLE, ↓reduceIte, reduceCtorEq, Nat.reduceEqDiff, Nat.reduceLeDiff, Nat.reduceAdd, Nat.reduceMul, Nat.reduceSub, Nat.reduceLT]; repeat' (first | exact Ok.out | with_reducible refine And.intro ?_ ?_))
      · have c1 : decide (c ≤ 20000) = false := by simp; omega
        rw [if_neg hc] at hp
        subst hp
        repeat' (first
 | simp only [go_sem, hlt, hget, hpu, hinc, Int.reduceLE, ↓reduceIte, reduceCtorEq, Nat.reduceEqDiff, Nat.reduceLeDiff, Nat.reduceAdd, Nat.reduceMul, Nat.reduceSub, Nat.reduceLT, c1]
 | (with_reducible first | refine CB_ofT (by assumption) fun hc => ?_ | refine CB_ofF (by assumption) fun hc => ?_ | refine CB_split (fun hc => ?_) fun hc => ?_) <;> (try simp only [hc, bs, ↓reduceIte] at h) <;> (try simp only [hc])
 | ((with_reducible first | refine leafR hQ ?_ | refine leafN hQ ?_); (try cases h); simp only [resL, oneD, Option.some.injEq, exists_eq_left', go_sem, hlt, hget, hpu, hinc, Int.reduceLE, ↓reduceIte, reduceCtorEq, Nat.reduceEqDiff, Nat.reduceLeDiff, Nat.reduceAdd, Nat.reduceMul, Nat.reduceSub, Nat.reduceLT, c1]; repeat' (first | exact Ok.out | with_reducible refine And.intro ?_ ?_ | (simp; done)))
 | (cases h; replace h := hr; clear hr; (try simp only [bs, ↓reduceIte] at h))
 | (cases h; done))

end Go.Abs

/-! Fits2 -/

namespace Go.Abs

set_option maxRecDepth 8000
set_option linter.unusedSimpArgs false
set_option linter.unusedVariables false
open Go.Proofs

theorem Fits_s (p : Pg) (s : St) : Fun Tryd.prog n_ref3_Fits [.agg (encPg p)] s (.bool (decide (p.weigh ≤ 20000))) s := by
  refine Fun.pure ?_ (by simp only [D.oks, D.ok, okPg]; rfl) rfl s
  unfold S0
  generalize hp : p.weigh = W
  unfold Pg.weigh at hp
  obtain ⟨a1, a2, a3⟩ := weighTs_in p.globals (n := 0) (by omega) (by omega)
  have eG := fun s => weighTs_s (l := p.globals) (n := 0) (by omega) (by omega) s
  refine Fun.go has_ref3_Fits rfl fun B Q hB hQ => ?_
  have hlt : 0 < 1 := Nat.zero_lt_one
  have hget : 0 < 1 := Nat.zero_lt_one
  have hpu : 0 < 1 := Nat.zero_lt_one
  have hinc : 0 < 1 := Nat.zero_lt_one
  repeat' (first
 | simp only [go_sem, hlt, hget, hpu, hinc, Int.reduceLE, ↓reduceIte, reduceCtorEq, Nat.reduceEqDiff, Nat.reduceLeDiff, Nat.reduceAdd, Nat.reduceMul, Nat.reduceSub, Nat.reduceLT]
 | (with_reducible refine CU (eG _) ?_)
 | (with_reducible first | refine CB_ofT (by assumption) fun hc => ?_ | refine CB_ofF (by assumption) fun hc => ?_ | refine CB_split (fun hc => ?_) fun hc => ?_) <;> (try simp only [hc, bs, ↓reduceIte] at h) <;> (try simp only [hc])
 | ((with_reducible first | refine leafR hQ ?_ | refine leafN hQ ?_); (try cases h); simp only [resL, oneD, Option.some.injEq, exists_eq_left', go_sem, hlt, hget, hpu, hinc, Int.reduceLE, ↓reduceIte, reduceCtorEq, Nat.reduceEqDiff, Nat.reduceLeDiff, Nat.reduceAdd, Nat.reduceMul, Nat.reduceSub, Nat.reduceLT]; repeat' (first | exact Ok.out | with_reducible refine And.intro ?_ ?_ | (simp; done)))
 | (cases h; replace h := hr; clear hr; (try simp only [bs, ↓reduceIte] at h))
 | (cases h; done))
  refine SemL.re _ _ 1 0 (by rw [hB]; exact Nat.le_of_ble_eq_true rfl) (by rw [hB]; exact Nat.le_of_ble_eq_true rfl) ?_ ?_ (SemL.ind (ι := List Pc × Nat × Int) (fun i => p.procs.drop i.2.1 = i.1 ∧ weighFs i.1 i.2.2 = W ∧ (i.2.1 : Int) ≤ i.2.2 ∧ i.2.2 ≤ 20001) (fun i => i.1.length)
    (fun i => [(1, .ptr 0 0), (3, .int .i64 i.2.2), (4, .int .i64 (i.2.1 : Int))]) (fun i => ⟨[encPg p], []⟩) ?_ (p.procs, 0, weighTs p.globals 0) ⟨rfl, hp, a2, a1⟩)
  · (simp only [go_sem, hlt, hget, hpu, hinc, Int.reduceLE, ↓reduceIte, reduceCtorEq, Nat.reduceEqDiff, Nat.reduceLeDiff, Nat.reduceAdd, Nat.reduceMul, Nat.reduceSub, Nat.reduceLT]; repeat' (first | exact Ok.out | with_reducible refine And.intro ?_ ?_))
  · (simp only [go_sem, hlt, hget, hpu, hinc, Int.reduceLE, ↓reduceIte, reduceCtorEq, Nat.reduceEqDiff, Nat.reduceLeDiff, Nat.reduceAdd, Nat.reduceMul, Nat.reduceSub, Nat.reduceLT]; repeat' (first | exact Ok.out | with_reducible refine And.intro ?_ ?_))
  rintro ⟨rest, k, c⟩ ⟨g1, hp, g3, g4⟩ IH
  dsimp only at g1 hp g3 g4
  cases rest with
  | nil =>
    have hlt := drop_nil g1
    simp only [weighFs] at hp
    subst hp
    repeat' (first
 | simp only [go_sem, hlt, hget, hpu, hinc, Int.reduceLE, ↓reduceIte, reduceCtorEq, Nat.reduceEqDiff, Nat.reduceLeDiff, Nat.reduceAdd, Nat.reduceMul, Nat.reduceSub, Nat.reduceLT]
 | (with_reducible first | refine CB_ofT (by assumption) fun hc => ?_ | refine CB_ofF (by assumption) fun hc => ?_ | refine CB_split (fun hc => ?_) fun hc => ?_) <;> (try simp only [hc, bs, ↓reduceIte] at h) <;> (try simp only [hc])
 | ((with_reducible first | refine leafR hQ ?_ | refine leafN hQ ?_); (try cases h); simp only [resL, oneD, Option.some.injEq, exists_eq_left', go_sem, hlt, hget, hpu, hinc, Int.reduceLE, ↓reduceIte, reduceCtorEq, Nat.reduceEqDiff, Nat.reduceLeDiff, Nat.reduceAdd, Nat.reduceMul, Nat.reduceSub, Nat.reduceLT]; repeat' (first | exact Ok.out | with_reducible refine And.intro ?_ ?_ | (simp; done)))
 | (cases h; replace h := hr; clear hr; (try simp only [bs, ↓reduceIte] at h))
 | (cases h; done))
  | cons f rest =>
    obtain ⟨hget, g2, hlt, g5⟩ := drop_cons g1
    simp only [weighFs] at hp
    by_cases hc : c ≤ 20000
    · have c1 : decide (c ≤ 20000) = true := by simp; omega
      have w3 : IntKind.wrap .i64 ((k : Int) + 1) = ((k + 1 : Nat) : Int) := by rw [wrap_ok] <;> omega
      rw [if_pos hc] at hp
      obtain ⟨r1, r2, r3⟩ := weighF_in f (n := c) (by omega) hc
      unfold weighF at hp r1 r2
      obtain ⟨c1', c2, c3⟩ := weighT_mono (t := f.name) (n := c) (by omega) g4
      obtain ⟨d1, d2, d3⟩ := weighTs_in f.vars (n := weighT f.name c) (by omega) c2
      obtain ⟨e1, e2, e3⟩ := weighTs_in f.fin (n := weighTs f.vars (weighT f.name c)) (by omega) d1
      have eN := fun s => weighT_s f.name (n := c) (by omega) g4 s
      have eV := fun s => weighTs_s (l := f.vars) (n := weighT f.name c) (by omega) c2 s
      have eF := fun s => weighTs_s (l := f.fin) (n := weighTs f.vars (weighT f.name c)) (by omega) d1 s
      generalize hC : weighTs f.fin (weighTs f.vars (weighT f.name c)) = C at *
      obtain ⟨s1, s2, s3⟩ := weighMs_in f.params (n := C) (by omega) e1
      have eT := fun s => weighSs_s _ f.body (Nat.le_refl _) (n := weighMs f.params C) (by omega) s1 s
      generalize hM : weighMs f.params C = M at *
      repeat' (first
 | simp only [go_sem, hlt, hget, hpu, hinc, Int.reduceLE, ↓reduceIte, reduceCtorEq, Nat.reduceEqDiff, Nat.reduceLeDiff, Nat.reduceAdd, Nat.reduceMul, Nat.reduceSub, Nat.reduceLT, c1, w3]
 | (with_reducible refine CU (eN _) ?_)
 | (with_reducible refine CU (eV _) ?_)
 | (with_reducible refine CU (eF _) ?_)
 | (with_reducible first | refine CB_ofT (by assumption) fun hc => ?_ | refine CB_ofF (by assumption) fun hc => ?_ | refine CB_split (fun hc => ?_) fun hc => ?_) <;> (try simp only [hc, bs, ↓reduceIte] at h) <;> (try simp only [hc])
 | ((with_reducible first | refine leafR hQ ?_ | refine leafN hQ ?_); (try cases h); simp only [resL, oneD, Option.some.injEq, exists_eq_left', go_sem, hlt, hget, hpu, hinc, Int.reduceLE, ↓reduceIte, reduceCtorEq, Nat.reduceEqDiff, Nat.reduceLeDiff, Nat.reduceAdd, Nat.reduceMul, Nat.reduceSub, Nat.reduceLT, c1, w3]; repeat' (first | exact Ok.out | with_reducible refine And.intro ?_ ?_ | (simp; done)))
 | (cases h; replace h := hr; clear hr; (try simp only [bs, ↓reduceIte] at h))
 | (cases h; done))
      refine SemL.re _ _ 2 0 (by rw [hB]; exact Nat.le_of_ble_eq_true rfl) (by rw [hB]; exact Nat.le_of_ble_eq_true rfl) ?_ ?_ (SemL.ind (ι := List Pm × Nat × Int) (fun i => f.params.drop i.2.1 = i.1 ∧ weighMs i.1 i.2.2 = M ∧ (i.2.1 : Int) ≤ i.2.2 ∧ i.2.2 ≤ 20001) (fun i => i.1.length)
        (fun i => [(1, .ptr 0 0), (3, .int .i64 i.2.2), (4, .int .i64 (k : Int)), (5, .ptr 1 0), (6, .int .i64 (i.2.1 : Int))]) (fun i => ⟨[encPg p, encPc f], []⟩) ?_ (f.params, 0, C) ⟨rfl, hM, by dsimp only; omega, e1⟩)
      · (simp only [go_sem, hlt, hget, hpu, hinc, Int.reduceLE, ↓reduceIte, reduceCtorEq, Nat.reduceEqDiff, Nat.reduceLeDiff, Nat.reduceAdd, Nat.reduceMul, Nat.reduceSub, Nat.reduceLT]; repeat' (first | exact Ok.out | with_reducible refine And.intro ?_ ?_))
      · (simp only [go_sem, hlt, hget, hpu, hinc, Int.reduceLE, ↓reduceIte, reduceCtorEq, Nat.reduceEqDiff, Nat.reduceLeDiff, Nat.reduceAdd, Nat.reduceMul, Nat.reduceSub, Nat.reduceLT]; repeat' (first | exact Ok.out | with_reducible refine And.intro ?_ ?_))
      rintro ⟨ms, j, e⟩ ⟨k1, hw, k3, k4⟩ IH2
      dsimp only at k1 hw k3 k4
      cases ms with
      | nil =>
        have hlt := drop_nil k1
        simp only [weighMs] at hw
        subst hw
        repeat' (first
 | simp only [go_sem, hlt, hget, hpu, hinc, Int.reduceLE, ↓reduceIte, reduceCtorEq, Nat.reduceEqDiff, Nat.reduceLeDiff, Nat.reduceAdd, Nat.reduceMul, Nat.reduceSub, Nat.reduceLT, w3]
 | (with_reducible refine CU (eT _) ?_)
 | (with_reducible first | refine CB_ofT (by assumption) fun hc => ?_ | refine CB_ofF (by assumption) fun hc => ?_ | refine CB_split (fun hc => ?_) fun hc => ?_) <;> (try simp only [hc, bs, ↓reduceIte] at h) <;> (try simp only [hc])
 | ((with_reducible first | refine leafR hQ ?_ | refine leafN hQ ?_); (try cases h); simp only [resL, oneD, Option.some.injEq, exists_eq_left', go_sem, hlt, hget, hpu, hinc, Int.reduceLE, ↓reduceIte, reduceCtorEq, Nat.reduceEqDiff, Nat.reduceLeDiff, Nat.reduceAdd, Nat.reduceMul, Nat.reduceSub, Nat.reduceLT, w3]; repeat' (first | exact Ok.out | with_reducible refine And.intro ?_ ?_ | (simp; done)))
 | (cases h; replace h := hr; clear hr; (try simp only [bs, ↓reduceIte] at h))
 | (cases h; done))
        refine SemL.re _ _ 1 0 (by rw [hB]; exact Nat.le_of_ble_eq_true rfl) (by rw [hB]; exact Nat.le_of_ble_eq_true rfl) ?_ ?_ (IH (rest, k + 1, weighSs f.body e) ⟨g2, hp, by dsimp only; omega, r1⟩ (Nat.lt_succ_self _))
        · (simp only [go_sem, hlt, hget, hpu, hinc, Int.reduceLE, ↓reduceIte, reduceCtorEq, Nat.reduceEqDiff, Nat.reduceLeDiff, Nat.reduceAdd, Nat.reduceMul, Nat.reduceSub, Nat.reduceLT]; repeat' (first | exact Ok.out | with_reducible refine And.intro ?_ ?_))
        · (simp only [go_sem, hlt, hget, hpu, hinc, Int.reduceLE, ↓reduceIte, reduceCtorEq, Nat.reduceEqDiff, Nat.reduceLeDiff, Nat.reduceAdd, Nat.reduceMul, Nat.reduceSub, Nat.reduceLT]; repeat' (first | exact Ok.out | with_reducible refine And.intro ?_ ?_))
      | cons a ms =>
        obtain ⟨hget, k2, hlt, k5⟩ := drop_cons k1
        simp only [weighMs] at hw
        by_cases he : e ≤ 20000
        · have e1 : decide (e ≤ 20000) = true := by simp; omega
          have w4 : IntKind.wrap .i64 ((j : Int) + 1) = ((j + 1 : Nat) : Int) := by rw [wrap_ok] <;> omega
          rw [if_pos he] at hw
          obtain ⟨v1, v2, v3⟩ := weighT_mono (t := a.name) (n := e) (by omega) k4
          have v4 := (weighT_in (t := a.name) (n := e) (by omega)).2.1 he
          have eM := fun s => weighT_s a.name (n := e) (by omega) k4 s
          repeat' (first
 | simp only [go_sem, hlt, hget, hpu, hinc, Int.reduceLE, ↓reduceIte, reduceCtorEq, Nat.reduceEqDiff, Nat.reduceLeDiff, Nat.reduceAdd, Nat.reduceMul, Nat.reduceSub, Nat.reduceLT, e1, w4]
 | (with_reducible refine CU (eM _) ?_)
 | (with_reducible first | refine CB_ofT (by assumption) fun hc => ?_ | refine CB_ofF (by assumption) fun hc => ?_ | refine CB_split (fun hc => ?_) fun hc => ?_) <;> (try simp only [hc, bs, ↓reduceIte] at h) <;> (try simp only [hc])
 | ((with_reducible first | refine leafR hQ ?_ | refine leafN hQ ?_); (try cases h); simp only [resL, oneD, Option.some.injEq, exists_eq_left', go_sem, hlt, hget, hpu, hinc, Int.reduceLE, ↓reduceIte, reduceCtorEq, Nat.reduceEqDiff, Nat.reduceLeDiff, Nat.reduceAdd, Nat.reduceMul, Nat.reduceSub, Nat.reduceLT, e1, w4]; repeat' (first | exact Ok.out | with_reducible refine And.intro ?_ ?_ | (simp; done)))
 | (cases h; replace h := hr; clear hr; (try simp only [bs, ↓reduceIte] at h))
 | (cases h; done))
          refine SemL.re _ _ 2 0 (by rw [hB]; exact Nat.le_of_ble_eq_true rfl) (by rw [hB]; exact Nat.le_of_ble_eq_true rfl) ?_ ?_ (IH2 (ms, j + 1, weighT a.name e) ⟨k2, hw, by dsimp only; omega, v2⟩ (Nat.lt_succ_self _))
          · (simp only [go_sem, hlt, hget, hpu, hinc, Int.reduceLE, ↓reduceIte, reduceCtorEq, Nat.reduceEqDiff, Nat.reduceLeDiff, Nat.reduceAdd, Nat.reduceMul, Nat.reduceSub, Nat.reduceLT]; repeat' (first | exact Ok.out | with_reducible refine And.intro ?_ ?_))
          · (simp only [go_sem, hlt, hget, hpu, hinc, Int.reduceLE, ↓reduceIte, reduceCtorEq, Nat.reduceEqDiff, Nat.reduceLeDiff, Nat.reduceAdd, Nat.reduceMul, Nat.reduceSub, Nat.reduceLT]; repeat' (first | exact Ok.out | with_reducible refine And.intro ?_ ?_))
        · have e1 : decide (e ≤ 20000) = false := by simp; omega
          rw [if_neg he] at hw
          subst hw
          repeat' (first
 | simp only [go_sem, hlt, hget, hpu, hinc, Int.reduceLE, ↓reduceIte, reduceCtorEq, Nat.reduceEqDiff, Nat.reduceLeDiff, Nat.reduceAdd, Nat.reduceMul, Nat.reduceSub, Nat.reduceLT, e1, w3]
 | (with_reducible refine CU (eT _) ?_)
 | (with_reducible first | refine CB_ofT (by assumption) fun hc => ?_ | refine CB_ofF (by assumption) fun hc => ?_ | refine CB_split (fun hc => ?_) fun hc => ?_) <;> (try simp only [hc, bs, ↓reduceIte] at h) <;> (try simp only [hc])
 | ((with_reducible first | refine leafR hQ ?_ | refine leafN hQ ?_); (try cases h); simp only [resL, oneD, Option.some.injEq, exists_eq_left', go_sem, hlt, hget, hpu, hinc, Int.reduceLE, ↓reduceIte, reduceCtorEq, Nat.reduceEqDiff, Nat.reduceLeDiff, Nat.reduceAdd, Nat.reduceMul, Nat.reduceSub, Nat.reduceLT, e1, w3]; repeat' (first | exact Ok.out | with_reducible refine And.intro ?_ ?_ | (simp; done)))
 | (cases h; replace h := hr; clear hr; (try simp only [bs, ↓reduceIte] at h))
 | (cases h; done))
          refine SemL.re _ _ 1 0 (by rw [hB]; exact Nat.le_of_ble_eq_true rfl) (by rw [hB]; exact Nat.le_of_ble_eq_true rfl) ?_ ?_ (IH (rest, k + 1, weighSs f.body e) ⟨g2, hp, by dsimp only; omega, r1⟩ (Nat.lt_succ_self _))
          · (simp only [go_sem, hlt, hget, hpu, hinc, Int.reduceLE, ↓reduceIte, reduceCtorEq, Nat.reduceEqDiff, Nat.reduceLeDiff, Nat.reduceAdd, Nat.reduceMul, Nat.reduceSub, Nat.reduceLT]; repeat' (first | exact Ok.out | with_reducible refine And.intro ?_ ?_))
          · (simp only [go_sem, hlt, hget, hpu, hinc, Int.reduceLE, ↓reduceIte, reduceCtorEq, Nat.reduceEqDiff, Nat.reduceLeDiff, Nat.reduceAdd, Nat.reduceMul, Nat.reduceSub, Nat.reduceLT]; repeat' (first | exact Ok.out | with_reducible refine And.intro ?_ ?_))
    · have c1 : decide (c ≤ 20000) = false := by simp; omega
      rw [if_neg hc] at hp
      subst hp
      repeat' (first
 | simp only [go_sem, hlt, hget, hpu, hinc, Int.reduceLE, ↓reduceIte, reduceCtorEq, Nat.reduceEqDiff, Nat.reduceLeDiff, Nat.reduceAdd, Nat.reduceMul, Nat.reduceSub, Nat.reduceLT, c1]
 | (with_reducible first | refine CB_ofT (by assumption) fun hc => ?_ | refine CB_ofF (by assumption) fun hc => ?_ | refine CB_split (fun hc => ?_) fun hc => ?_) <;> (try simp only [hc, bs, ↓reduceIte] at h) <;> (try simp only [hc])
 | ((with_reducible first | refine leafR hQ ?_ | refine leafN hQ ?_); (try cases h); simp only [resL, oneD, Option.some.injEq, exists_eq_left', go_sem, hlt, hget, hpu, hinc, Int.reduceLE, ↓reduceIte, reduceCtorEq, Nat.reduceEqDiff, Nat.reduceLeDiff, Nat.reduceAdd, Nat.reduceMul, Nat.reduceSub, Nat.reduceLT, c1]; repeat' (first | exact Ok.out | with_reducible refine And.intro ?_ ?_ | (simp; done)))
 | (cases h; replace h := hr; clear hr; (try simp only [bs, ↓reduceIte] at h))
 | (cases h; done))

end Go.Abs

/-! Pr5 -/

namespace Go.Abs

set_option maxRecDepth 8000
set_option linter.unusedSimpArgs false
set_option linter.unusedVariables false
open Go.Proofs

def muchR (x : Ex) : Int := if arityI x.op < 2 then 7 else bindB x.op
/-! ### Texts -/

def joinF (sep : Str) : Nat → List Str → Str
  | _, [] => []
  | k, a :: l => (if k = 0 then [] else sep) ++ (a ++ joinF sep (k + 1) l)
end Go.Abs

/-! Pr6 -/

namespace Go.Abs

set_option maxRecDepth 8000
set_option linter.unusedSimpArgs false
set_option linter.unusedVariables false
open Go.Proofs

/-- A statement's first line. -/
def lineT (s : Sm) : Str := if s.kind = 6 then [119, 104, 105, 108, 101, 32, 40] ++ prE 0 s.x ++ [41, 32, 123] else if s.kind = 5 then [105, 102, 32, 40] ++ prE 0 s.x ++ [41, 32, 123] else plainS s.kind s.name s.proc s.x s.has s.args ++ [59]

end Go.Abs

/-! Pr7 -/

namespace Go.Abs

set_option maxRecDepth 8000
set_option linter.unusedSimpArgs false
set_option linter.unusedVariables false
open Go.Proofs

end Go.Abs

/-! Pr8 -/

namespace Go.Abs

set_option maxRecDepth 8000
set_option linter.unusedSimpArgs false
set_option linter.unusedVariables false
open Go.Proofs

end Go.Abs

/-! Some -/

namespace Go.Abs

set_option maxRecDepth 8000
set_option linter.unusedSimpArgs false
set_option linter.unusedVariables false
open Go.Proofs

theorem some_may : some0.may = true := by decide +kernel
theorem some_text : textS some0 = source := by decide +kernel
theorem some_rng : some0.rng := by
  intro f hf
  simp only [some0, List.mem_cons, List.not_mem_nil, or_false] at hf
  rcases hf with rfl | rfl <;> simp [Sm.rngs, Sm.rng, Ex.rng, Ex.rngs, exNum, exName, exTwo, ex0]

def prB : Pc := ⟨[112], [⟨[120], false⟩, ⟨[121], true⟩], [], [
    ⟨5, 1, [], [121], [], exTwo 8 (exName [121]) (exName [120]), false, [], [], []⟩,
    ⟨6, 5, [], [], [], exTwo 12 (exName [121]) (exNum 9), false, [], [⟨7, 10, [], [101], [], ex0, false, [], [], []⟩], []⟩,
    ⟨8, 9, [], [], [], exName [121], true, [], [], []⟩], [[101]]⟩
def stB : Sm := ⟨6, 5, [], [], [], exTwo 12 (exName [121]) (exNum 9), false, [], [⟨7, 10, [], [101], [], ex0, false, [], [], []⟩], []⟩
theorem some_prB : some0.procs[1]? = some prB := rfl
theorem some_stB : prB.body[1]? = some stB := rfl

theorem printed5_s (s : St) : Fun Tryd.prog n_law5_printed [] s (.bool true) s := by
  refine Fun.pure ?_ rfl rfl s
  have hsz : some0.size ≤ 1000000 := by decide +kernel
  have h1 := pText_s (may_FineP some_may (by omega)) (fun _ => may_PrG some_may some_rng) hsz
  rw [if_pos some_may, some_text] at h1
  have h2 := pExpr_s (x := stB.x) (by simp [stB, Ex.rng, Ex.rngs, exNum, exName, exTwo]) (by decide) (by simp [stB, Ex.texts, Ex.textss, exNum, exName, exTwo]) (by decide)
  have e : printE stB.x = [121, 32, 62, 32, 57] := by decide +kernel
  rw [e] at h2
  have b1 : (source == source) = true := beq_self_eq_true _
  have b2 : (([121, 32, 62, 32, 57] : Str) == [121, 32, 62, 32, 57]) = true := rfl
  have e1 := some_prB
  have e2 := some_stB
  have hS := fun s => Some_s s
  generalize some0 = P at *
  generalize prB = F at *
  generalize stB = T at *
  unfold S0
  refine Fun.go has_law5_printed rfl fun B Q hB hQ => ?_
  have hlt : 0 < 1 := Nat.zero_lt_one
  have hget : 0 < 1 := Nat.zero_lt_one
  have hpu : 0 < 1 := Nat.zero_lt_one
  have hinc : 0 < 1 := Nat.zero_lt_one
  repeat' (first
 | simp only [go_sem, hlt, hget, hpu, hinc, Int.reduceLE, ↓reduceIte, reduceCtorEq, Nat.reduceEqDiff, Nat.reduceLeDiff, Nat.reduceAdd, Nat.reduceMul, Nat.reduceSub, Nat.reduceLT, Int.toNat_one, e1, e2, b1, b2]
 | (with_reducible refine CU (hS _) ?_)
 | (with_reducible refine CU (h1 _) ?_)
 | (with_reducible refine CU (h2 _) ?_)
 | (with_reducible refine CU (Source_s _) ?_)
 | (with_reducible first | refine CB_ofT (by assumption) fun hc => ?_ | refine CB_ofF (by assumption) fun hc => ?_ | refine CB_split (fun hc => ?_) fun hc => ?_) <;> (try simp only [hc, bs, ↓reduceIte] at h) <;> (try simp only [hc])
 | ((with_reducible first | refine leafR hQ ?_ | refine leafN hQ ?_); (try cases h); simp only [resL, oneD, Option.some.injEq, exists_eq_left', go_sem, hlt, hget, hpu, hinc, Int.reduceLE, ↓reduceIte, reduceCtorEq, Nat.reduceEqDiff, Nat.reduceLeDiff, Nat.reduceAdd, Nat.reduceMul, Nat.reduceSub, Nat.reduceLT, Int.toNat_one, e1, e2, b1, b2]; repeat' (first | exact Ok.out | with_reducible refine And.intro ?_ ?_ | (simp; done)))
 | (cases h; replace h := hr; clear hr; (try simp only [bs, ↓reduceIte] at h))
 | (cases h; done))

end Go.Abs

/-! LawPr1 -/

namespace Go.Abs

set_option maxRecDepth 8000
set_option linter.unusedSimpArgs false
set_option linter.unusedVariables false
open Go.Proofs

end Go.Abs

/-! Binds2 -/

namespace Go.Abs
set_option linter.unusedSimpArgs false
set_option linter.unusedVariables false
open Go.Proofs

/-- The text of a row: of its first names. -/
def rowB (names : List Str) (ops : List Int) : Nat → Str
  | 0 => []
  | i + 1 => rowB names ops i ++ (if i = 0 then [] else signR (ops.getD (i - 1) 0)) ++ names.getD i []

/-- Names and signs that fit. -/
structure RowOk (names : List Str) (ops : List Int) : Prop where
  len : names.length = ops.length + 1
  most : ops.length ≤ 20
  short : ∀ x ∈ names, x.length ≤ 1
  op : ∀ o ∈ ops, (decide (5 ≤ o) && decide (o ≤ 17)) = true

/-! ### How it is parted -/

def stepB (i : Nat) (op : Int) (al : Nat × Int) : Nat × Int := if bindB op ≤ al.2 then (i, bindB op) else al
/-- Where the sign is that binds least, of like ones the last. -/
def atB : List Int → Nat → Nat × Int → Nat × Int
  | [], _, al => al
  | op :: r, i, al => atB r (i + 1) (stepB i op al)
def splitB : Nat → List Str → List Int → Ex
  | 0, _, _ => ex0
  | n + 1, names, ops => if ops.length = 0 then exName (names.getD 0 []) else
    exTwo (ops.getD (atB ops 0 (0, 9)).1 0) (splitB n (names.take ((atB ops 0 (0, 9)).1 + 1)) (ops.take (atB ops 0 (0, 9)).1)) (splitB n (names.drop ((atB ops 0 (0, 9)).1 + 1)) (ops.drop ((atB ops 0 (0, 9)).1 + 1)))

end Go.Abs

/-! Lx -/

namespace Go.Abs
set_option linter.unusedSimpArgs false
set_option linter.unusedVariables false

def isR (c : UInt8) : Bool := (c.toNat : Int) == 35

/-- A text, from a place on, is these tokens. -/
inductive Lx : Nat → Str → List Tok → Prop where
  | nil (pos : Nat) : Lx pos [] []
  | blank (pos : Nat) (c : UInt8) (r : Str) (l : List Tok) (h : isB c = true) (k : Lx (pos + 1) r l) : Lx pos (c :: r) l
  | rem (pos : Nat) (c : UInt8) (r : Str) (l : List Tok) (h : isB c = false) (h2 : isR c = true) (k : Lx (pos + lineL (c :: r)) ((c :: r).drop (lineL (c :: r))) l) : Lx pos (c :: r) l
  | tok (pos : Nat) (c : UInt8) (r : Str) (t : Tok) (l : List Tok) (h : isB c = false) (h2 : isR c = false) (ht : tokE pos (c :: r) = .inl t) (k : Lx (pos + t.text.length) ((c :: r).drop t.text.length) l) : Lx pos (c :: r) (t :: l)

def tEnd (n : Nat) : Tok := ⟨0, [], 0, (n : Nat)⟩

end Go.Abs

/-! Lx2 -/

namespace Go.Abs
set_option linter.unusedSimpArgs false
set_option linter.unusedVariables false

/-- Nothing that stands ahead goes on with that byte. -/
def stopC (c : UInt8) : Bool := !(isL c) && !(isD c) && !(c == 61) && !(c == 38) && !(c == 124)
def Stop : Str → Prop
  | [] => True
  | c :: _ => stopC c = true

/-- A token by itself, wherever it stands, with something behind it. -/
def TGood (t : Tok) : Prop := 0 < t.text.length ∧ ∀ (p : Nat) (b : Str), Stop b → tokE p (t.text ++ b) = .inl { t with pos := (p : Nat) }
end Go.Abs

/-! Tot -/

namespace Go.Abs
set_option linter.unusedSimpArgs false
set_option linter.unusedVariables false

/-- There is a result, and this holds of it. -/
def Tt {α : Type} (o : Option α) (Q : α → Prop) : Prop := ∃ a, o = some a ∧ Q a
structure Rd.Ok (r : Rd) : Prop where
  k : ∀ t ∈ r.l, 0 ≤ t.kind ∧ t.kind ≤ 4
  lt : r.i < r.l.length
  len : r.l.length ≤ 2001
  last : ∀ t, r.l[r.l.length - 1]? = some t → t.kind = 0
  n1 : r.n ≤ 201

/-- From one reader to a later one. -/
structure Rd.To (r r' : Rd) : Prop where
  ok : r'.Ok
  l : r'.l = r.l
  i : r.i ≤ r'.i
  g : r'.good = true → r.good = true
  s : r.good = false → r' = r
structure Rd.ToE (r r' : Rd) : Prop where
  to : r.To r'
  n : r'.n = r.n

/-! ### Expressions -/

def ExT (r : Rd) (p : Ex × Rd) : Prop := r.ToE p.2 ∧ (p.2.good = true → p.1.size + 3 + 4 * r.i ≤ 4 * p.2.i)

end Go.Abs

/-! Tot2 -/

namespace Go.Abs
set_option linter.unusedSimpArgs false
set_option linter.unusedVariables false

def StT (r : Rd) (p : Sm × Rd) : Prop := r.ToE p.2 ∧ (p.2.good = true → p.1.size + 1 + 8 * r.i ≤ 8 * p.2.i)

end Go.Abs

/-! Tot3 -/

namespace Go.Abs
set_option linter.unusedSimpArgs false
set_option linter.unusedVariables false

/-- What statements leave. -/
structure StQ (r r' : Rd) : Prop where
  to : r.To r'
  n : r'.good = true → r'.n ≤ 200

def RowsT (r : Rd) (p : (List Sm × List Str) × Rd) : Prop := StQ r p.2 ∧ (p.2.good = true → Sm.sizes p.1.1 + p.1.2.length + 8 * r.i ≤ 8 * p.2.i)

/-! ### The lexer's tokens -/

def TokOk (t : Tok) : Prop := 1 ≤ t.kind ∧ t.kind ≤ 4

/-! ### Texts -/

def fuelM : Nat := 20000

end Go.Abs

/-! BindsL -/

namespace Go.Abs
set_option linter.unusedSimpArgs false
set_option linter.unusedVariables false

inductive SplitR : Ex → List (Int × Str) → Ex → Prop
  | nil (x : Ex) : SplitR x [] x
  | cut (x : Ex) (p1 : List (Int × Str)) (op : Int) (y : Str) (p2 : List (Int × Str)) (t1 t2 : Ex) (h1 : SplitR x p1 t1) (h2 : SplitR (exName y) p2 t2) (l1 : ∀ q ∈ p1, bindB op ≤ bindB q.1) (l2 : ∀ q ∈ p2, bindB op < bindB q.1) :
    SplitR x (p1 ++ (op, y) :: p2) (exTwo op t1 t2)

/-- Tokens of what stands behind the first name. -/
def TailT : List (Int × Str) → List Tok → Prop
  | [], l => ∃ t r, l = t :: r ∧ t.kind = 0
  | (op, y) :: p, l => ∃ s u r, l = s :: u :: r ∧ s.kind = 4 ∧ s.text = signR op ∧ (decide (5 ≤ op) && decide (op ≤ 17)) = true ∧ u.kind = 1 ∧ u.text = y ∧ TailT p r

def KB_two (n : Nat) : Prop := ∀ (least : Int) (r : Rd) (t0 : Tok) (p : List (Int × Str)) (l : List Tok) (x : Ex × Rd), r.l.drop r.i = t0 :: l → t0.kind = 1 → TailT p l → r.code = 0 → 1 ≤ least → Rd.two n least r = some x →
  ∃ p1 p2, p = p1 ++ p2 ∧ SplitR (exName t0.text) p1 x.1 ∧ (∀ q ∈ p1, least ≤ bindB q.1) ∧ (∀ q p', p2 = q :: p' → bindB q.1 < least) ∧ x.2 = { r with i := r.i + 1 + 2 * p1.length } ∧ TailT p2 (l.drop (2 * p1.length))
def KB_twoL (n : Nat) : Prop := ∀ (least : Int) (x0 : Ex) (A : List (Int × Str)) (x : Ex) (r : Rd) (p : List (Int × Str)) (l : List Tok) (z : Ex × Rd), r.l.drop r.i = l → TailT p l → r.code = 0 → 1 ≤ least → SplitR x0 A x →
  (∀ q p', p = q :: p' → ∀ a ∈ A, bindB q.1 ≤ bindB a.1) → Rd.twoL n least x r = some z →
  ∃ p1 p2, p = p1 ++ p2 ∧ SplitR x0 (A ++ p1) z.1 ∧ (∀ q ∈ p1, least ≤ bindB q.1) ∧ (∀ q p', p2 = q :: p' → bindB q.1 < least) ∧ z.2 = { r with i := r.i + 2 * p1.length } ∧ TailT p2 (l.drop (2 * p1.length))

end Go.Abs

/-! BindsL2 -/

namespace Go.Abs
set_option linter.unusedSimpArgs false
set_option linter.unusedVariables false

/-! ### The documents' way -/

def AtB (d : List Int) (al : Nat × Int) : Prop := (d = [] ∧ al.2 = 9) ∨ ∃ o1 op o2, d = o1 ++ op :: o2 ∧ o1.length = al.1 ∧ bindB op = al.2 ∧ (∀ o ∈ o1, bindB op ≤ bindB o) ∧ ∀ o ∈ o2, bindB op < bindB o
/-! ### The text -/

def tailB : List Str → List Int → Str
  | x :: xs, op :: ops => signR op ++ (x ++ tailB xs ops)
  | _, _ => []

def NoGo : Str → Prop
  | [] => True
  | c :: _ => isL c = false ∧ isD c = false
end Go.Abs

/-! Full5 -/

namespace Go.Abs
set_option linter.unusedSimpArgs false
set_option linter.unusedVariables false

/-- Is it such a token? -/
def TokIs (t : Tok) (k : Int) (s : Str) (n : Int) : Prop := t.kind = k ∧ t.text = s ∧ t.n = n

/-- The tokens of an expression's text, and what is behind them. -/
inductive FullT : Ex → List Tok → List Tok → Prop
  | num (n : Int) (t : Tok) (l : List Tok) (h : t.kind = 2) (h2 : t.n = n) : FullT ⟨1, n, [], []⟩ (t :: l) l
  | name (s : Str) (t : Tok) (l : List Tok) (h : t.kind = 1) (h2 : t.text = s) : FullT ⟨2, 0, s, []⟩ (t :: l) l
  | neg (y : Ex) (p m q : Tok) (l r : List Tok) (hp : TokIs p 4 [40] 0) (hm : TokIs m 4 [45] 0) (hy : FullT y l (q :: r)) (hq : TokIs q 4 [41] 0) : FullT ⟨3, 0, [], [y]⟩ (p :: m :: l) r
  | no (y : Ex) (p m q : Tok) (l r : List Tok) (hp : TokIs p 4 [40] 0) (hm : TokIs m 4 [33] 0) (hy : FullT y l (q :: r)) (hq : TokIs q 4 [41] 0) : FullT ⟨4, 0, [], [y]⟩ (p :: m :: l) r
  | two (op : Int) (a b : Ex) (p o q : Tok) (l m r : List Tok) (ho : (decide (5 ≤ op) && decide (op ≤ 17)) = true) (hp : TokIs p 4 [40] 0) (ha : FullT a l (o :: m)) (hs : TokIs o 4 (signR op) 0) (hb : FullT b m (q :: r)) (hq : TokIs q 4 [41] 0) :
    FullT ⟨op, 0, [], [a, b]⟩ (p :: l) r

end Go.Abs

/-! Full6 -/

namespace Go.Abs
set_option linter.unusedSimpArgs false
set_option linter.unusedVariables false

theorem dig_byte {d : Nat} (h : d < 10) : isD (UInt8.ofNat (48 + d)) = true ∧ isL (UInt8.ofNat (48 + d)) = false ∧ ((UInt8.ofNat (48 + d)).toNat : Int) = ((48 + d : Nat) : Int) := by
  have e : (UInt8.ofNat (48 + d)).toNat = 48 + d := by simp; omega
  refine ⟨?_, ?_, by rw [e]⟩
  · simp only [isD, e, Bool.and_eq_true, decide_eq_true_eq]; omega
  · simp only [isL, e, Bool.and_eq_false_iff, decide_eq_false_iff_not]; omega

theorem digF_dig : ∀ f n, ∀ c ∈ digF f n, isD c = true
  | 0, n, c, h => by simp [digF] at h
  | f + 1, n, c, h => by
    simp only [digF] at h
    split at h
    · rename_i hc; simp only [List.mem_singleton] at h; subst h; exact (dig_byte hc).1
    · rcases List.mem_append.1 h with h | h
      · exact digF_dig f _ c h
      · simp only [List.mem_singleton] at h; subst h; exact (dig_byte (Nat.mod_lt _ (by omega))).1

end Go.Abs

/-! Full7 -/

namespace Go.Abs
set_option linter.unusedSimpArgs false
set_option linter.unusedVariables false

/-- It does not go on with a sign. -/
def Okd : Str → Prop
  | [] => False
  | d :: _ => d ≠ 61 ∧ d ≠ 38 ∧ d ≠ 124

end Go.Abs

/-! Pe1 -/

namespace Go.Abs
set_option linter.unusedSimpArgs false
set_option linter.unusedVariables false

/-- So many places on. -/
def Rd.mv (r : Rd) (k : Nat) : Rd := { r with i := r.i + k }
/-- These tokens come. -/
structure At (r : Rd) (l : List Tok) : Prop where
  d : r.l.drop r.i = l
  c : r.code = 0
  s : r.l.length < 1000000000

def Kd (t : Tok) : Prop := 0 ≤ t.kind ∧ t.kind ≤ 4
/-- A token that ends an expression, or is a sign that binds no more than that. -/
def Halt (c : Int) (m : List Tok) : Prop := ∃ t m', m = t :: m' ∧ Kd t ∧ ((opOf t).1 = 0 ∨ (opOf t).2 ≤ c)

def OneAs (x : Ex) (l : List Tok) : Prop := ∀ (r : Rd) (lr : List Tok) (n : Nat), At r (l ++ lr) → 3 * l.length ≤ n + 1 → Rd.one n r = some (x, r.mv l.length)
def TwoAs (c : Int) (x : Ex) (l : List Tok) : Prop := ∀ (r : Rd) (lr : List Tok) (n : Nat) (k : Int), At r (l ++ lr) → Halt c lr → k ≤ c → 3 * l.length ≤ n → ∃ n', n ≤ n' + 3 * l.length ∧ Rd.two n k r = Rd.twoL n' k x (r.mv l.length)

end Go.Abs

/-! Pe2 -/

namespace Go.Abs
set_option linter.unusedSimpArgs false
set_option linter.unusedVariables false

/-- How many tokens a text has. -/
def exN (least : Int) : Ex → Nat
  | ⟨op, _, _, kids⟩ => match kids with
    | [] => 1
    | [a] => 1 + exN 7 a
    | a :: b :: _ => exN (bindB op) a + 1 + exN (bindB op + 1) b + (if bindB op < least then 2 else 0)
/-- A text is lexed as these tokens, whatever is behind it (but a letter, a digit). -/
def LxS (s : Str) (pos : Nat) (l : List Tok) : Prop := ∀ r lr, NoGo r → Lx (pos + s.length) r lr → Lx pos (s ++ r) (l ++ lr)

/-- It begins as an expression, not as a call. -/
def NoCall (l : List Tok) : Prop := (∃ t l', l = t :: l' ∧ (t.kind = 2 ∨ (t.kind = 4 ∧ (t.text = [40] ∨ t.text = [45] ∨ t.text = [33])))) ∨ (∃ t, l = [t] ∧ t.kind = 1) ∨ ∃ t u l', l = t :: u :: l' ∧ t.kind = 1 ∧ (decide (5 ≤ (opOf u).1) && decide ((opOf u).1 ≤ 17)) = true
/-- What ends an expression. -/
def Ends (m : List Tok) : Prop := ∃ t m', m = t :: m' ∧ Kd t ∧ (opOf t).1 = 0
/-- Read as a whole. -/
def WholeAs (x : Ex) (l : List Tok) : Prop := ∀ (r : Rd) (lr : List Tok) (n : Nat), At r (l ++ lr) → Ends lr → 3 * l.length < n → Rd.whole n r = some (x, r.mv l.length)

end Go.Abs

/-! Ps1 -/

namespace Go.Abs
set_option linter.unusedSimpArgs false
set_option linter.unusedVariables false

/-- As these tokens, whatever is behind it. -/
def LxF (s : Str) (pos : Nat) (l : List Tok) : Prop := ∀ r lr, Lx (pos + s.length) r lr → Lx pos (s ++ r) (l ++ lr)
/-- A sign by itself. -/
def tSg (c : UInt8) (pos : Nat) : Tok := ⟨4, [c], 0, (pos : Nat)⟩
/-- A name. -/
def tNm (t : Str) (pos : Nat) : Tok := ⟨1, t, 0, (pos : Nat)⟩
/-- A word. -/
def tWd (t : Str) (pos : Nat) : Tok := ⟨3, t, 0, (pos : Nat)⟩
/-! ### Lists -/

/-- Things with commas between. -/
inductive SepG {α : Type} (G : α → List Tok → Prop) : List α → List Tok → Prop
  | one (x : α) (l : List Tok) (h : G x l) : SepG G [x] l
  | cons (x : α) (l : List Tok) (c : Tok) (hc : c.kind = 4 ∧ c.text = [44]) (xs : List α) (m : List Tok) (h : G x l) (k : SepG G xs m) : SepG G (x :: xs) (l ++ c :: m)

end Go.Abs

/-! Ps2 -/

namespace Go.Abs
set_option linter.unusedSimpArgs false
set_option linter.unusedVariables false

def GName (t : Str) (l : List Tok) : Prop := ∃ k : Tok, l = [k] ∧ k.kind = 1 ∧ k.text = t
def GParam (a : Pm) (l : List Tok) : Prop := if a.ref then ∃ w k : Tok, l = [w, k] ∧ w.kind = 3 ∧ w.text = [114, 101, 102] ∧ k.kind = 1 ∧ k.text = a.name else GName a.name l
def GArg (a : Ar) (l : List Tok) : Prop := if a.ref then ∃ w k : Tok, l = [w, k] ∧ w.kind = 3 ∧ w.text = [114, 101, 102] ∧ k.kind = 1 ∧ k.text = a.name else WholeAs a.x l ∧ NoCall l ∧ l.length = exN 0 a.x
/-- What is read of it. -/
def arZ (a : Ar) : Ar := if a.ref then ⟨true, a.name, ex0⟩ else ⟨false, [], a.x⟩

/-! ### Labels -/

inductive LabT : List Str → List Tok → Prop
  | nil : LabT [] []
  | cons (t c : Tok) (ls : List Str) (m : List Tok) (ht : t.kind = 1) (hc : c.kind = 4) (hc2 : c.text = [58]) (h : LabT ls m) : LabT (t.text :: ls) (t :: c :: m)
/-- No label comes. -/
def NoLab (l : List Tok) : Prop := ∃ t l', l = t :: l' ∧ Kd t ∧ (t.kind ≠ 1 ∨ ∃ u m, l' = u :: m ∧ (u.kind ≠ 4 ∨ u.text ≠ [58]))

end Go.Abs

/-! Ps3 -/

namespace Go.Abs
set_option linter.unusedSimpArgs false
set_option linter.unusedVariables false

mutual
/-- Without its ids. -/
def Sm.z : Sm → Sm
  | ⟨_, kind, labels, name, proc, x, has, args, thn, els⟩ => ⟨0, kind, labels, name, proc, x, has, args, Sm.zs thn, Sm.zs els⟩
def Sm.zs : List Sm → List Sm
  | [] => []
  | s :: l => s.z :: Sm.zs l
end
structure OneF (s : Sm) : Prop where
  lab : mayNames s.labels = true
  x : s.hasX = true → s.x.may = true
  x0 : s.hasX = false → s.x = ex0
  has : s.has = true → s.kind = 9
  nm : s.hasName = true → isName s.name = true
  nm0 : s.hasName = false → s.name = [] ∨ (s.isCall = true ∧ isName s.name = true)
  proc : s.isCall = true → isName s.proc = true
  call : s.isCall = false → s.proc = [] ∧ s.args = []
  args : Ar.mays s.args = true
  thn : s.thn = [] ∨ s.kind = 5 ∨ s.kind = 6
  els : s.els = [] ∨ s.kind = 5
  kind : 1 ≤ s.kind ∧ s.kind ≤ 10

theorem none_ex0 {x : Ex} (h : x.none = true) : x = ex0 := by
  obtain ⟨op, n, name, kids⟩ := x
  simp only [Ex.none, Bool.and_eq_true, beq_iff_eq] at h
  obtain ⟨⟨⟨rfl, rfl⟩, rfl⟩, h⟩ := h
  have : kids = [] := List.eq_nil_of_length_eq_zero (by omega)
  subst this; rfl
theorem one_facts {s : Sm} (h : s.one = true) : OneF s := by
  unfold Sm.one at h
  split at h
  · cases h
  rename_i c1
  split at h
  · cases h
  rename_i c2
  split at h
  · cases h
  rename_i c3
  split at h
  · cases h
  rename_i c4
  simp only [Bool.or_eq_true, Bool.and_eq_true, decide_eq_true_eq, Bool.not_eq_true', not_or, Bool.not_eq_false, not_and, Bool.not_eq_true, beq_iff_eq] at c1 c2 c3 c4 h
  refine ⟨c1.1.1.1.2, c1.1.1.2, fun k => none_ex0 (c1.1.2 k), fun k => ?_, c2.1, fun k => ?_, c3.1.2, fun k => ⟨?_, ?_⟩, c4, ?_, ?_, by omega⟩
  · have := c1.2 k; simpa using this
  · by_cases e : s.name = []
    · exact .inl e
    · exact .inr (c2.2 ⟨k, by simpa using e⟩)
  · have := c3.1.1; rw [k] at this; simpa using this
  · have := c3.2 k
    exact List.eq_nil_of_length_eq_zero (by omega)
  · rcases h.1 with (h | h) | h
    · exact .inl (List.eq_nil_of_length_eq_zero (by omega))
    · exact .inr (.inl h)
    · exact .inr (.inr h)
  · rcases h.2 with h | h
    · exact .inl (List.eq_nil_of_length_eq_zero (by omega))
    · exact .inr h
/-- The text of a statement behind its labels. -/
def bodyS (inn : Nat) (s : Sm) : Str := lineT s ++ ([10] ++ (if s.kind = 5 ∨ s.kind = 6 then
    rowsS (inn + 1) s.thn ++ ((if s.kind = 5 ∧ s.els.length ≠ 0 then List.replicate inn 32 ++ [125, 32, 101, 108, 115, 101, 32, 123, 10] ++ rowsS (inn + 1) s.els else []) ++ (List.replicate inn 32 ++ [125, 10])) else []))
/-- Nothing else comes. -/
def NoW (w : Str) (l : List Tok) : Prop := ∃ t l', l = t :: l' ∧ Kd t ∧ ((t.kind ≠ 3 ∧ t.kind ≠ 4) ∨ t.text ≠ w)
abbrev NoElse (l : List Tok) : Prop := NoW [101, 108, 115, 101] l
/-- It is read from so many statements on, to so many. -/
def StmtAs (nest : Int) (n0 n1 : Nat) (s : Sm) (l : List Tok) : Prop := ∀ (r : Rd) (lr : List Tok) (m n : Nat), At r (l ++ lr) → NoElse lr → r.n = n0 → 3 * l.length < m → l.length ≤ n →
  Rd.stmt m n nest r = some ({ s.z with labels := [] }, { r.mv l.length with n := n1 })

/-! ### One by one -/

end Go.Abs

/-! PLn -/

namespace Go.Abs
set_option linter.unusedSimpArgs false
set_option linter.unusedVariables false

/-- How many lines: is a blank ahead, has the line begun? None: a line ends in a blank, or two blanks stand in it. -/
def scan : Bool → Bool → Str → Option Nat
  | _, _, [] => some 0
  | pb, b, c :: s =>
    if (c.toNat : Int) == 10 then (if pb then none else (scan false false s).map (· + 1))
    else if (c.toNat : Int) == 32 && b && pb then none else scan ((c.toNat : Int) == 32) (b || (c.toNat : Int) != 32) s
/-- A piece of a line: is a blank at its end? -/
def seg : Bool → Str → Option Bool
  | p, [] => some p
  | p, c :: s => if (c.toNat : Int) == 10 then none else if (c.toNat : Int) == 32 && p then none else seg ((c.toNat : Int) == 32) s
theorem seg_app : ∀ (a b : Str) (p : Bool), seg p (a ++ b) = (seg p a).bind fun q => seg q b
  | [], b, p => rfl
  | c :: a, b, p => by
    simp only [List.cons_append, seg]
    split
    · rfl
    · split
      · rfl
      · exact seg_app a b _

/-- A piece without blanks. -/
def Solid (s : Str) : Prop := ∀ p, seg p s = some false
theorem Solid.of : ∀ {s : Str}, s ≠ [] → (∀ c ∈ s, (c.toNat : Int) ≠ 10 ∧ (c.toNat : Int) ≠ 32) → Solid s
  | [c], _, h, p => by
    have := h c (by simp)
    simp [seg, this.1, this.2]
  | c :: d :: s, _, h, p => by
    have := h c (by simp)
    have ih := Solid.of (s := d :: s) (by simp) (fun e he => h e (List.mem_cons_of_mem _ he)) ((c.toNat : Int) == 32)
    have e1 : ((c.toNat : Int) == 10) = false := by simp [this.1]
    have e2 : ((c.toNat : Int) == 32) = false := by simp [this.2]
    rw [seg, e1, e2]
    rw [e2] at ih
    simpa using ih
theorem Solid.app {a b : Str} (ha : Solid a) (hb : Solid b) : Solid (a ++ b) := fun p => by rw [seg_app, ha p]; exact hb false
theorem Solid.sp {a b : Str} (ha : Solid a) (hb : Solid b) : Solid (a ++ [32] ++ b) := fun p => by
  rw [List.append_assoc, seg_app, ha p, Option.bind_some, seg_app]
  exact hb true
theorem Solid.name {t : Str} (h : isName t = true) : Solid t := by
  refine Solid.of (isName_ne h) ?_
  cases t with
  | nil => cases h
  | cons c r =>
    simp only [isName] at h
    split at h
    · cases h
    rename_i hc
    split at h
    · rename_i hn
      have ld : ∀ c : UInt8, (isL c || isD c) = true → (c.toNat : Int) ≠ 10 ∧ (c.toNat : Int) ≠ 32 := by
        intro c hc
        simp only [isL, isD, Bool.or_eq_true, Bool.and_eq_true, decide_eq_true_eq] at hc
        omega
      have all : ∀ r : Str, nameT r = true → ∀ c ∈ r, (isL c || isD c) = true := by
        intro r
        induction r with
        | nil => intro _ c hc; cases hc
        | cons d r ih =>
          intro hr c hc
          simp only [nameT] at hr
          split at hr
          · cases hr
          rename_i hd
          rcases List.mem_cons.1 hc with rfl | hc
          · cases h1 : isL c <;> cases h2 : isD c <;> simp [h1, h2] at hd ⊢
          · exact ih hr c hc
      intro d hd
      rcases List.mem_cons.1 hd with rfl | hd
      · simp only [Bool.or_eq_true, not_or, Bool.not_eq_true', Bool.not_eq_false] at hc
        exact ld _ (by rw [hc.2]; rfl)
      · exact ld _ (all r hn d hd)
    · cases h
theorem Solid.dig (n : Nat) : Solid (digF 20 n) := by
  refine Solid.of ?_ (fun c hc => ?_)
  · intro h
    rw [show (20 : Nat) = 19 + 1 from rfl, digF] at h
    split at h <;> simp at h
  · have := digF_dig 20 n c hc
    simp only [isD, Bool.and_eq_true, decide_eq_true_eq] at this
    omega
theorem Solid.sign {op : Int} (h : (decide (5 ≤ op) && decide (op ≤ 17)) = true) : Solid (signR op) := by
  rcases signs h with rfl | rfl | rfl | rfl | rfl | rfl | rfl | rfl | rfl | rfl | rfl | rfl | rfl <;> exact Solid.of (by decide) (by decide)
theorem Solid.ex {x : Ex} (h : FormI x) : ∀ least, Solid (prE least x) := by
  have lit : ∀ s : Str, (s == [40] || s == [41] || s == [45] || s == [33]) = true → Solid s := by
    intro s hs
    simp only [Bool.or_eq_true, beq_iff_eq] at hs
    rcases hs with ((rfl | rfl) | rfl) | rfl <;> exact Solid.of (by decide) (by decide)
  induction h with
  | num n => intro least; rw [pr_num]; exact Solid.dig _
  | name t ht => intro least; rw [pr_name]; exact Solid.name ht
  | neg y _ ih => intro least; rw [pr_neg]; exact (lit _ (by decide)).app (ih 7)
  | no y _ ih => intro least; rw [pr_no]; exact (lit _ (by decide)).app (ih 7)
  | two op a b ho _ _ iha ihb =>
    intro least
    have hT : Solid (prT op a b) := by
      unfold prT
      have := (((iha (bindB op)).sp (Solid.sign ho)).sp (ihb (bindB op + 1)))
      simpa using this
    rw [pr_two]
    split
    · exact ((lit _ (by decide)).app hT).app (lit _ (by decide))
    · exact hT

theorem Solid.join {sep : Str} (hs : ∀ p, p = false → seg p sep = some true ∨ seg p sep = some false) : ∀ {l : List Str}, l ≠ [] → (∀ t ∈ l, Solid t) → Solid (Lib.join l sep)
  | [a], _, h => by
    have := h a (by simp)
    simpa [Lib.join, List.intercalate] using this
  | a :: b :: l, _, h => by
    have h1 := h a (by simp)
    have h2 := Solid.join hs (l := b :: l) (by simp) (fun t m => h t (List.mem_cons_of_mem _ m))
    have e : Lib.join (a :: b :: l) sep = a ++ (sep ++ Lib.join (b :: l) sep) := by simp only [Lib.join, List.intercalate_cons_cons, List.append_assoc]
    rw [e]
    intro p
    rw [seg_app, h1 p, Option.bind_some, seg_app]
    rcases hs false rfl with h | h <;> rw [h] <;> exact h2 _

/-- In brackets: what is between may be nothing. -/
theorem Solid.joined {a b : Str} (ha : Solid a) (hb : Solid b) {l : List Str} (h : ∀ t ∈ l, Solid t) : Solid (a ++ Lib.join l [44, 32] ++ b) := by
  by_cases h0 : l = []
  · subst h0
    have : Lib.join [] [44, 32] = [] := by simp [Lib.join]
    rw [this, List.append_nil]
    exact ha.app hb
  · exact (ha.app (Solid.join (fun p hp => by subst hp; exact .inl (by decide)) h0 h)).app hb

theorem Solid.marks {m : Str} (hm : Solid m) : ∀ {l : List Str}, mayNames l = true → Solid (marksS l ++ m)
  | [], _ => hm
  | t :: l, h => by
    simp only [mayNames] at h
    split at h
    · cases h
    rename_i ht
    have h1 : Solid t := Solid.name (by simpa using ht)
    have h2 := Solid.marks hm h
    have hc : Solid [58] := Solid.of (by decide) (by decide)
    have e : marksS (t :: l) ++ m = (t ++ [58]) ++ [32] ++ (marksS l ++ m) := by simp [marksS]
    rw [e]
    exact (h1.app hc).sp h2

/-! ### Lines -/

theorem scan_in : ∀ (m : Str) (p : Bool) (rest : Str), seg p m = some false → scan p true (m ++ 10 :: rest) = (scan false false rest).map (· + 1)
  | [], p, rest, h => by
    simp only [seg, Option.some.injEq] at h
    subst h
    rfl
  | c :: m, p, rest, h => by
    simp only [seg] at h
    split at h
    · cases h
    rename_i c1
    split at h
    · cases h
    rename_i c2
    simp only [List.cons_append, scan]
    rw [if_neg c1, if_neg (by simpa using c2)]
    simpa using scan_in m _ rest h
theorem scan_line (n : Nat) {m : Str} (hm : Solid m) (rest : Str) : ∀ pb, scan pb false (lineS n m ++ rest) = (scan false false rest).map (· + 1) := by
  have e : lineS n m ++ rest = List.replicate n 32 ++ (m ++ 10 :: rest) := by simp [lineS]
  rw [e]
  clear e
  induction n with
  | zero =>
    intro pb
    have h := hm true
    cases m with
    | nil => simp [seg] at h
    | cons c m =>
      simp only [seg] at h
      split at h
      · cases h
      rename_i c1
      split at h
      · cases h
      rename_i c2
      simp only [List.replicate_zero, List.nil_append, List.cons_append, scan]
      have c3 : ((c.toNat : Int) == 32) = false := by simpa using c2
      rw [if_neg c1, c3]
      simp only [Bool.false_and, Bool.false_eq_true, ↓reduceIte, Bool.false_or]
      have : ((c.toNat : Int) != 32) = true := by simpa using c3
      rw [this]
      rw [c3] at h
      exact scan_in m false rest h
  | succ n ih =>
    intro pb
    rw [List.replicate_succ, List.cons_append, scan]
    have c1 : (((32 : UInt8).toNat : Int) == 10) = false := by decide
    have c2 : (((32 : UInt8).toNat : Int) == 32) = true := by decide
    have c3 : (((32 : UInt8).toNat : Int) != 32) = false := by decide
    rw [c1, c2, c3]
    simp only [Bool.false_eq_true, ↓reduceIte, Bool.and_false, Bool.false_and, Bool.or_self]
    exact ih true

mutual
/-- How many lines statements have. -/
def linesN : Sm → Nat
  | ⟨_, kind, _, _, _, _, _, _, thn, els⟩ => 1 + (if kind = 5 ∨ kind = 6 then 1 + linesNs thn + (if els.length = 0 then 0 else 1 + linesNs els) else 0)
def linesNs : List Sm → Nat
  | [] => 0
  | s :: l => linesN s + linesNs l
end

theorem lineT_solid {s : Sm} (ho : s.one = true) (hx : s.x.rng) (ha : ∀ a ∈ s.args, a.x.rng) : Solid (lineT s) := by
  have hf := one_facts ho
  have w : ∀ t : Str, t ≠ [] → (t.all fun c => (c.toNat : Int) != 10 && (c.toNat : Int) != 32) = true → Solid t := by
    intro t h0 h
    refine Solid.of h0 fun c hc => ?_
    have := List.all_eq_true.1 h c hc
    simpa using this
  have hE : s.hasX = true → Solid (prE 0 s.x) := fun h => Solid.ex (may_formI (hf.x h) hx) 0
  unfold lineT
  split
  · rename_i k
    have := (w [119, 104, 105, 108, 101] (by decide) (by decide)).sp (((w [40] (by decide) (by decide)).app (hE (by simp [Sm.hasX, k]))).app (w [41] (by decide) (by decide)) |>.sp (w [123] (by decide) (by decide)))
    simpa using this
  split
  · rename_i k
    have := (w [105, 102] (by decide) (by decide)).sp (((w [40] (by decide) (by decide)).app (hE (by simp [Sm.hasX, k]))).app (w [41] (by decide) (by decide)) |>.sp (w [123] (by decide) (by decide)))
    simpa using this
  have semi : Solid [59] := w _ (by decide) (by decide)
  have eqs : Solid [61] := w _ (by decide) (by decide)
  refine Solid.app ?_ semi
  unfold plainS
  split
  · rename_i k
    have := ((Solid.name (hf.nm (by simp [Sm.hasName, k]))).sp eqs).sp (hE (by simp [Sm.hasX, k]))
    simpa using this
  split
  · rename_i k
    have := (w [114, 101, 97, 100] (by decide) (by decide)).sp (Solid.name (hf.nm (by simp [Sm.hasName, k])))
    simpa using this
  split
  · rename_i k
    have := (w [112, 114, 105, 110, 116] (by decide) (by decide)).sp (hE (by simp [Sm.hasX, k]))
    simpa using this
  split
  · exact w _ (by decide) (by decide)
  split
  · exact w _ (by decide) (by decide)
  split
  · rename_i k
    have := (w [103, 111, 116, 111] (by decide) (by decide)).sp (Solid.name (hf.nm (by simp [Sm.hasName, k])))
    simpa using this
  split
  · rename_i k
    split
    · rename_i kh
      have := (w [114, 101, 116, 117, 114, 110] (by decide) (by decide)).sp (hE (by simp [Sm.hasX, k, kh]))
      simpa using this
    · exact w _ (by decide) (by decide)
  · rename_i k6 k5 k1 k2 k3 k7 k8 k10 k9
    have hk := hf.kind
    have hcall : s.isCall = true := by simp only [Sm.isCall, beq_iff_eq]; omega
    have hp := Solid.name (hf.proc hcall)
    have hargs : ∀ t ∈ s.args.map argS, Solid t := by
      intro t ht
      obtain ⟨a, hm, rfl⟩ := List.mem_map.1 ht
      have hma := mays_mem hf.args hm
      unfold Ar.may at hma
      unfold argS
      split at hma
      · rename_i hr
        simp only [Bool.and_eq_true] at hma
        rw [if_pos hr]
        have := (w [114, 101, 102] (by decide) (by decide)).sp (Solid.name hma.1)
        simpa using this
      · rename_i hr
        simp only [Bool.and_eq_true] at hma
        rw [if_neg hr]
        exact Solid.ex (may_formI hma.2 (ha a hm)) 0
    have hc : Solid (s.proc ++ [40] ++ Lib.join (s.args.map argS) [44, 32] ++ [41]) := Solid.joined (hp.app (w [40] (by decide) (by decide))) (w [41] (by decide) (by decide)) hargs
    unfold callS
    split
    · simpa using hc
    · rename_i hn
      have hnm : isName s.name = true := ((hf.nm0 (by simp only [Sm.hasName, Bool.or_eq_false_iff, beq_eq_false_iff_ne]; omega)).resolve_left hn).2
      have := ((Solid.name hnm).sp eqs).sp hc
      simpa using this

mutual
theorem scan_row : ∀ (s : Sm) (inn : Nat) (nest : Int) (n0 : Nat), (Sm.mayR nest n0 s).1 = true → s.rng → ∀ rest, scan false false (rowS inn s ++ rest) = (scan false false rest).map (· + linesN s)
  | ⟨id, kind, labels, name, proc, x, has, args, thn, els⟩, inn, nest, n0, hm, hr, rest => by
    obtain ⟨_, _, ho, ht, he, _⟩ := mayR_true hm
    obtain ⟨r1, r2, r3, r4⟩ := (Sm.rng_eq _).1 hr
    have tt := (mayG_true ht).2
    have te := (mayG_true he).2
    rw [tt] at ht te he
    rw [te] at he
    dsimp only at r1 r2 r3 r4 ht he
    have hf := one_facts ho
    have hl := Solid.marks (lineT_solid ho r1 r2) hf.lab
    have i1 := fun rest => scan_rows thn (inn + 1) _ _ ht r3 rest
    have i2 := fun rest => scan_rows els (inn + 1) _ _ he r4 rest
    have hb : Solid [125] := Solid.of (by decide) (by decide)
    have hbe : Solid [125, 32, 101, 108, 115, 101, 32, 123] := by
      have := (hb.sp (Solid.of (s := [101, 108, 115, 101]) (by decide) (by decide))).sp (Solid.of (s := [123]) (by decide) (by decide))
      simpa using this
    have e : rowS inn ⟨id, kind, labels, name, proc, x, has, args, thn, els⟩ = lineS inn (marksS labels ++ lineT ⟨id, kind, labels, name, proc, x, has, args, thn, els⟩) ++ (if kind = 5 ∨ kind = 6 then
        rowsS (inn + 1) thn ++ ((if els.length = 0 then [] else lineS inn [125, 32, 101, 108, 115, 101, 32, 123] ++ rowsS (inn + 1) els) ++ lineS inn [125]) else []) := by
      have he0 : kind = 6 → els = [] := fun k => hf.els.resolve_right (by dsimp only; omega)
      rw [rowS_eq]
      unfold lineT
      dsimp only
      by_cases k6 : kind = 6
      · rw [he0 k6]; simp [k6]
      · by_cases k5 : kind = 5
        · simp [k5]
        · simp [k5, k6]
    rw [e]
    simp only [linesN]
    rw [List.append_assoc, scan_line inn hl]
    by_cases k : kind = 5 ∨ kind = 6
    · rw [if_pos k, if_pos k, List.append_assoc, i1]
      by_cases ce : els.length = 0
      · rw [if_pos ce, if_pos ce, List.nil_append, scan_line inn hb]
        simp only [Option.map_map]
        congr 1
        funext a
        simp only [Function.comp]
        omega
      · rw [if_neg ce, if_neg ce, List.append_assoc, List.append_assoc, scan_line inn hbe, i2, scan_line inn hb]
        simp only [Option.map_map]
        congr 1
        funext a
        simp only [Function.comp]
        omega
    · rw [if_neg k, if_neg k]
      rfl
theorem scan_rows : ∀ (l : List Sm) (inn : Nat) (nest : Int) (n0 : Nat), (Sm.mayL nest n0 l).1 = true → Sm.rngs l → ∀ rest, scan false false (rowsS inn l ++ rest) = (scan false false rest).map (· + linesNs l)
  | [], inn, nest, n0, _, _, rest => by simp [rowsS, linesNs]
  | s :: l, inn, nest, n0, hm, hr, rest => by
    simp only [Sm.mayL] at hm
    split at hm
    · cases hm
    rename_i hc
    simp only [Sm.rngs] at hr
    simp only [rowsS, linesNs]
    rw [List.append_assoc, scan_row s inn nest n0 (by simpa using hc) hr.1, scan_rows l inn nest _ hm hr.2, Option.map_map]
    congr 1
    funext a
    simp only [Function.comp]
    omega
end

def procL (f : Pc) : Nat := 2 + min f.vars.length 1 + linesNs f.body
def procsL : List Pc → Nat
  | [] => 0
  | f :: l => procL f + procsL l
def Pg.lines (p : Pg) : Nat := min p.globals.length 1 + procsL p.procs

theorem scan_names (w : Str) (hw : Solid w) (n : Nat) {l : List Str} (h : mayNames l = true) (rest : Str) : scan false false ((if l.length = 0 then [] else lineS n (w ++ [32] ++ Lib.join l [44, 32] ++ [59])) ++ rest) = (scan false false rest).map (· + min l.length 1) := by
  by_cases h0 : l.length = 0
  · rw [if_pos h0, h0]; simp
  · rw [if_neg h0]
    have hne : l ≠ [] := fun h => h0 (by rw [h]; rfl)
    have hs := (hw.sp (Solid.join (sep := [44, 32]) (fun p hp => by subst hp; exact .inl (by decide)) hne (fun t m => Solid.name (mayNames_mem h m)))).app (Solid.of (s := [59]) (by decide) (by decide))
    rw [scan_line n hs]
    have : min l.length 1 = 1 := by omega
    rw [this]

theorem scan_procs : ∀ (l : List Pc) (n0 : Nat), Pc.mayL n0 l = true → (∀ f ∈ l, Sm.rngs f.body) → ∀ rest, scan false false (procsS l ++ rest) = (scan false false rest).map (· + procsL l)
  | [], _, _, _, rest => by simp [procsS, procsL]
  | f :: l, n0, h, hr, rest => by
    simp only [Pc.mayL] at h
    split at h
    · cases h
    rename_i c1
    split at h
    · cases h
    rename_i c2
    split at h
    · cases h
    rename_i c3
    simp only [Bool.or_eq_true, Bool.not_eq_true', not_or, Bool.not_eq_false, decide_eq_true_eq] at c1 c2 c3
    rw [(mayG_true c3).2] at c3
    have ih := scan_procs l _ h (fun g m => hr g (List.mem_cons_of_mem _ m)) rest
    have w : ∀ t : Str, t ≠ [] → (t.all fun c => (c.toNat : Int) != 10 && (c.toNat : Int) != 32) = true → Solid t := by
      intro t h0 h
      refine Solid.of h0 fun c hc => ?_
      have := List.all_eq_true.1 h c hc
      simpa using this
    have hps : ∀ t ∈ f.params.map paramS, Solid t := by
      intro t ht
      obtain ⟨a, hm, rfl⟩ := List.mem_map.1 ht
      have hn := Solid.name (pmays_mem c2 hm)
      unfold paramS
      split
      · have := (w [114, 101, 102] (by decide) (by decide)).sp hn
        simpa using this
      · simpa using hn
    have h1 : Solid ([112, 114, 111, 99, 32] ++ f.name ++ [40] ++ Lib.join (f.params.map paramS) [44, 32] ++ [41, 32, 123]) := by
      have a1 := ((w [112, 114, 111, 99] (by decide) (by decide)).sp (Solid.name c1.1.1.2)).app (w [40] (by decide) (by decide))
      have a2 := (w [41] (by decide) (by decide)).sp (w [123] (by decide) (by decide))
      have := Solid.joined a1 a2 hps
      simpa using this
    have h2 : Solid (marksS f.fin ++ [125]) := Solid.marks (w [125] (by decide) (by decide)) c1.2
    have e : procsS (f :: l) ++ rest = lineS 0 ([112, 114, 111, 99, 32] ++ f.name ++ [40] ++ Lib.join (f.params.map paramS) [44, 32] ++ [41, 32, 123]) ++ ((if f.vars.length = 0 then [] else lineS 1 ([118, 97, 114] ++ [32] ++ Lib.join f.vars [44, 32] ++ [59])) ++ (rowsS 1 f.body ++ (lineS 0 (marksS f.fin ++ [125]) ++ (procsS l ++ rest)))) := by
      simp only [procsS, procS, List.append_assoc]
      rfl
    rw [e, scan_line 0 h1, scan_names [118, 97, 114] (w _ (by decide) (by decide)) 1 c1.1.2, scan_rows f.body 1 1 n0 c3 (hr f (List.mem_cons_self ..)), scan_line 0 h2, ih]
    simp only [Option.map_map, procsL, procL]
    congr 1
    funext a
    simp only [Function.comp]
    omega

theorem scan_text {p : Pg} (h : p.may = true) (hr : p.rng) : scan false false (textS p) = some p.lines := by
  rw [← mayP_eq] at h
  unfold Pg.mayP at h
  split at h
  · cases h
  rename_i c
  simp only [Bool.or_eq_true, Bool.not_eq_true', not_or, Bool.not_eq_false, decide_eq_true_eq] at c
  have e : textS p = (if p.globals.length = 0 then [] else lineS 0 ([103, 108, 111, 98, 97, 108] ++ [32] ++ Lib.join p.globals [44, 32] ++ [59])) ++ (procsS p.procs ++ []) := by rw [List.append_nil]; rfl
  rw [e, scan_names [103, 108, 111, 98, 97, 108] (Solid.of (by decide) (by decide)) 0 c.2, scan_procs p.procs 0 h hr]
  simp only [scan, Option.map_some, Pg.lines, Nat.zero_add]
  congr 1
  omega

/-- It ends with a line's end, or it is nothing. -/
def Ends10 (s : Str) : Prop := s = [] ∨ ∃ t, s = t ++ [10]
theorem Ends10.app {a b : Str} (ha : Ends10 a) (hb : Ends10 b) : Ends10 (a ++ b) := by
  rcases hb with rfl | ⟨t, rfl⟩
  · rw [List.append_nil]; exact ha
  · exact .inr ⟨a ++ t, by simp⟩
theorem Ends10.line (n : Nat) (m : Str) : Ends10 (lineS n m) := .inr ⟨List.replicate n 32 ++ m, rfl⟩
theorem ends_text (p : Pg) : Ends10 (textS p) := by
  unfold textS
  refine Ends10.app ?_ ?_
  · unfold globsS; split; exact .inl rfl; exact .line _ _
  · generalize p.procs = l
    induction l with
    | nil => exact .inl rfl
    | cons f l ih =>
      simp only [procsS]
      refine Ends10.app ?_ ih
      unfold procS
      exact .inr ⟨_, by unfold lineS; exact (List.append_assoc _ _ _).symm⟩

end Go.Abs

/-! LawPr4 -/

namespace Go.Abs

set_option maxRecDepth 8000
set_option linter.unusedSimpArgs false
set_option linter.unusedVariables false
open Go.Proofs

mutual
theorem linesN_le : ∀ s : Sm, linesN s ≤ 3 * s.size
  | ⟨id, kind, labels, name, proc, x, has, args, thn, els⟩ => by
    have h1 := linesNs_le thn
    have h2 := linesNs_le els
    simp only [linesN, Sm.size]
    split
    · split <;> omega
    · omega
theorem linesNs_le : ∀ l : List Sm, linesNs l ≤ 3 * Sm.sizes l
  | [] => by simp [linesNs]
  | s :: l => by
    have h1 := linesN_le s
    have h2 := linesNs_le l
    simp only [linesNs, Sm.sizes]; omega
end
theorem linesN_eq (s : Sm) : linesN s = 1 + (if s.kind = 5 ∨ s.kind = 6 then 1 + linesNs s.thn + (if s.els.length = 0 then 0 else 1 + linesNs s.els) else 0) := by cases s; simp only [linesN]

theorem lines_s : ∀ (m : Nat) (l : List Sm), Sm.sizes l ≤ m → Sm.sizes l ≤ 1000000 → ∀ s : St, Fun Tryd.prog n_law5_lines [.slice .shared 13 (l.map encSm)] s (.int .i64 (linesNs l : Nat)) s := by
  intro m
  induction m with
  | zero =>
    intro l h hs s
    cases l with
    | nil =>
      have z : decide ((0 : Int) < 0) = false := rfl
      refine Fun.pure ?_ (by simp [D.oks, D.ok, D.okr, Tag.ok]) rfl s
      unfold S0
      simp only [linesNs]
      refine Fun.go has_law5_lines rfl fun B Q hB hQ => ?_
      have hlt : 0 < 1 := Nat.zero_lt_one
      have hget : 0 < 1 := Nat.zero_lt_one
      have hpu : 0 < 1 := Nat.zero_lt_one
      have hinc : 0 < 1 := Nat.zero_lt_one
      repeat' (first
 | simp only [go_sem, hlt, hget, hpu, hinc, Int.reduceLE, ↓reduceIte, reduceCtorEq, Nat.reduceEqDiff, Nat.reduceLeDiff, Nat.reduceAdd, Nat.reduceMul, Nat.reduceSub, Nat.reduceLT, z]
 | (with_reducible refine SemL.onceW ?_)
 | (with_reducible first | refine CB_ofT (by assumption) fun hc => ?_ | refine CB_ofF (by assumption) fun hc => ?_ | refine CB_split (fun hc => ?_) fun hc => ?_) <;> (try simp only [hc, bs, ↓reduceIte] at h) <;> (try simp only [hc])
 | ((with_reducible first | refine leafR hQ ?_ | refine leafN hQ ?_); (try cases h); simp only [resL, oneD, Option.some.injEq, exists_eq_left', go_sem, hlt, hget, hpu, hinc, Int.reduceLE, ↓reduceIte, reduceCtorEq, Nat.reduceEqDiff, Nat.reduceLeDiff, Nat.reduceAdd, Nat.reduceMul, Nat.reduceSub, Nat.reduceLT, z]; repeat' (first | exact Ok.out | with_reducible refine And.intro ?_ ?_ | (simp; done)))
 | (cases h; replace h := hr; clear hr; (try simp only [bs, ↓reduceIte] at h))
 | (cases h; done))
    | cons s l => simp only [Sm.sizes] at h; omega
  | succ m ih =>
    intro l h hs s
    refine Fun.pure ?_ (by simp [D.oks, D.ok, okrSm, Tag.ok]) rfl s
    unfold S0
    generalize hp : linesNs l = R
    have hRl := linesNs_le l
    rw [hp] at hRl
    refine Fun.go has_law5_lines rfl fun B Q hB hQ => ?_
    have hlt : 0 < 1 := Nat.zero_lt_one
    have hget : 0 < 1 := Nat.zero_lt_one
    have hpu : 0 < 1 := Nat.zero_lt_one
    have hinc : 0 < 1 := Nat.zero_lt_one
    repeat' (first
 | simp only [go_sem, hlt, hget, hpu, hinc, Int.reduceLE, ↓reduceIte, reduceCtorEq, Nat.reduceEqDiff, Nat.reduceLeDiff, Nat.reduceAdd, Nat.reduceMul, Nat.reduceSub, Nat.reduceLT]
 | (with_reducible first | refine CB_ofT (by assumption) fun hc => ?_ | refine CB_ofF (by assumption) fun hc => ?_ | refine CB_split (fun hc => ?_) fun hc => ?_) <;> (try simp only [hc, bs, ↓reduceIte] at h) <;> (try simp only [hc])
 | ((with_reducible first | refine leafR hQ ?_ | refine leafN hQ ?_); (try cases h); simp only [resL, oneD, Option.some.injEq, exists_eq_left', go_sem, hlt, hget, hpu, hinc, Int.reduceLE, ↓reduceIte, reduceCtorEq, Nat.reduceEqDiff, Nat.reduceLeDiff, Nat.reduceAdd, Nat.reduceMul, Nat.reduceSub, Nat.reduceLT]; repeat' (first | exact Ok.out | with_reducible refine And.intro ?_ ?_ | (simp; done)))
 | (cases h; replace h := hr; clear hr; (try simp only [bs, ↓reduceIte] at h))
 | (cases h; done))
    refine SemL.re _ _ 0 0 (by rw [hB]; exact Nat.le_of_ble_eq_true rfl) (by rw [hB]; exact Nat.le_of_ble_eq_true rfl) ?_ ?_ (SemL.ind (ι := List Sm × Nat × Nat) (fun i => l.drop i.2.1 = i.1 ∧ i.2.2 + linesNs i.1 = R) (fun i => i.1.length)
      (fun i => [(3, .int .i64 (i.2.2 : Nat)), (6, .slice .shared 13 (l.map encSm)), (7, .int .i64 (l.length : Int)), (8, .int .i64 (i.2.1 : Int))]) (fun i => ⟨[], []⟩) ?_ (l, 0, 0) ⟨rfl, by simpa using hp⟩)
    · (simp only [go_sem, hlt, hget, hpu, hinc, Int.reduceLE, ↓reduceIte, reduceCtorEq, Nat.reduceEqDiff, Nat.reduceLeDiff, Nat.reduceAdd, Nat.reduceMul, Nat.reduceSub, Nat.reduceLT]; repeat' (first | exact Ok.out | with_reducible refine And.intro ?_ ?_))
    · (simp only [go_sem, hlt, hget, hpu, hinc, Int.reduceLE, ↓reduceIte, reduceCtorEq, Nat.reduceEqDiff, Nat.reduceLeDiff, Nat.reduceAdd, Nat.reduceMul, Nat.reduceSub, Nat.reduceLT]; repeat' (first | exact Ok.out | with_reducible refine And.intro ?_ ?_))
    rintro ⟨rest, k, c⟩ ⟨g1, hp⟩ IH
    dsimp only at g1 hp
    cases rest with
    | nil =>
      have hlt := drop_nil g1
      simp only [linesNs, Nat.add_zero] at hp
      subst hp
      repeat' (first
 | simp only [go_sem, hlt, hget, hpu, hinc, Int.reduceLE, ↓reduceIte, reduceCtorEq, Nat.reduceEqDiff, Nat.reduceLeDiff, Nat.reduceAdd, Nat.reduceMul, Nat.reduceSub, Nat.reduceLT]
 | (with_reducible first | refine CB_ofT (by assumption) fun hc => ?_ | refine CB_ofF (by assumption) fun hc => ?_ | refine CB_split (fun hc => ?_) fun hc => ?_) <;> (try simp only [hc, bs, ↓reduceIte] at h) <;> (try simp only [hc])
 | ((with_reducible first | refine leafR hQ ?_ | refine leafN hQ ?_); (try cases h); simp only [resL, oneD, Option.some.injEq, exists_eq_left', go_sem, hlt, hget, hpu, hinc, Int.reduceLE, ↓reduceIte, reduceCtorEq, Nat.reduceEqDiff, Nat.reduceLeDiff, Nat.reduceAdd, Nat.reduceMul, Nat.reduceSub, Nat.reduceLT]; repeat' (first | exact Ok.out | with_reducible refine And.intro ?_ ?_ | (simp; done)))
 | (cases h; replace h := hr; clear hr; (try simp only [bs, ↓reduceIte] at h))
 | (cases h; done))
    | cons y rest =>
      obtain ⟨hget, g2, hlt, g5⟩ := drop_cons g1
      have hmem := List.mem_of_getElem? hget
      have hsz := Sm.sizes_mem hmem
      have hlen := Sm.sizes_len l
      have hsz2 : Sm.sizes y.thn < y.size ∧ Sm.sizes y.els < y.size := by cases y; simp only [Sm.size]; omega
      have w3 : IntKind.wrap .i64 ((k : Int) + 1) = ((k + 1 : Nat) : Int) := by rw [wrap_ok] <;> omega
      simp only [linesNs, linesN_eq] at hp
      have w1 : IntKind.wrap .i64 ((c : Int) + 1) = ((c + 1 : Nat) : Int) := by rw [wrap_ok] <;> omega
      have et := fun s => ih y.thn (by omega) (by omega) s
      have ee := fun s => ih y.els (by omega) (by omega) s
      have b1 := linesNs_le y.thn
      have b2 := linesNs_le y.els
      generalize linesNs y.thn = A at *
      generalize linesNs y.els = B1 at *
      have w4 : IntKind.wrap .i64 (1 + (A : Int)) = ((1 + A : Nat) : Int) := by rw [wrap_ok] <;> omega
      have w5 : IntKind.wrap .i64 (((c + 1 : Nat) : Int) + ((1 + A : Nat) : Int)) = ((c + 1 + (1 + A) : Nat) : Int) := by rw [wrap_ok] <;> omega
      have w6 : IntKind.wrap .i64 (1 + (B1 : Int)) = ((1 + B1 : Nat) : Int) := by rw [wrap_ok] <;> omega
      by_cases k56 : y.kind = 5 ∨ y.kind = 6
      · rw [if_pos k56] at hp
        have ck : (y.kind == 5) = true ∨ ((y.kind == 5) = false ∧ (y.kind == 6) = true) := by
          by_cases h5 : y.kind = 5
          · exact .inl (by simp [h5])
          · exact .inr ⟨by simp [h5], by simp [k56.resolve_left h5]⟩
        cases ce : decide ((y.els.length : Int) > 0) with
        | true =>
          have ce' : y.els.length ≠ 0 := by have := of_decide_eq_true ce; omega
          rw [if_neg ce'] at hp
          have w7 : IntKind.wrap .i64 (((c + 1 + (1 + A) : Nat) : Int) + ((1 + B1 : Nat) : Int)) = ((c + 1 + (1 + A) + (1 + B1) : Nat) : Int) := by rw [wrap_ok] <;> omega
          rcases ck with k5 | ⟨k5, k6⟩
          · repeat' (first
 | simp only [go_sem, hlt, hget, hpu, hinc, Int.reduceLE, ↓reduceIte, reduceCtorEq, Nat.reduceEqDiff, Nat.reduceLeDiff, Nat.reduceAdd, Nat.reduceMul, Nat.reduceSub, Nat.reduceLT, k5, ce, w1, w3, w4, w5, w6, w7]
 | (with_reducible refine CU (et _) ?_)
 | (with_reducible refine CU (ee _) ?_)
 | (with_reducible first | refine CB_ofT (by assumption) fun hc => ?_ | refine CB_ofF (by assumption) fun hc => ?_ | refine CB_split (fun hc => ?_) fun hc => ?_) <;> (try simp only [hc, bs, ↓reduceIte] at h) <;> (try simp only [hc])
 | ((with_reducible first | refine leafR hQ ?_ | refine leafN hQ ?_); (try cases h); simp only [resL, oneD, Option.some.injEq, exists_eq_left', go_sem, hlt, hget, hpu, hinc, Int.reduceLE, ↓reduceIte, reduceCtorEq, Nat.reduceEqDiff, Nat.reduceLeDiff, Nat.reduceAdd, Nat.reduceMul, Nat.reduceSub, Nat.reduceLT, k5, ce, w1, w3, w4, w5, w6, w7]; repeat' (first | exact Ok.out | with_reducible refine And.intro ?_ ?_ | (simp; done)))
 | (cases h; replace h := hr; clear hr; (try simp only [bs, ↓reduceIte] at h))
 | (cases h; done))
            refine SemL.re _ _ 0 0 (by rw [hB]; exact Nat.le_of_ble_eq_true rfl) (by rw [hB]; exact Nat.le_of_ble_eq_true rfl) ?_ ?_ (IH (rest, k + 1, c + 1 + (1 + A) + (1 + B1)) ⟨g2, by dsimp only; omega⟩ (Nat.lt_succ_self _))
            · (simp only [go_sem, hlt, hget, hpu, hinc, Int.reduceLE, ↓reduceIte, reduceCtorEq, Nat.reduceEqDiff, Nat.reduceLeDiff, Nat.reduceAdd, Nat.reduceMul, Nat.reduceSub, Nat.reduceLT]; repeat' (first | exact Ok.out | with_reducible refine And.intro ?_ ?_))
            · (simp only [go_sem, hlt, hget, hpu, hinc, Int.reduceLE, ↓reduceIte, reduceCtorEq, Nat.reduceEqDiff, Nat.reduceLeDiff, Nat.reduceAdd, Nat.reduceMul, Nat.reduceSub, Nat.reduceLT]; repeat' (first | exact Ok.out | with_reducible refine And.intro ?_ ?_))
          · repeat' (first
 | simp only [go_sem, hlt, hget, hpu, hinc, Int.reduceLE, ↓reduceIte, reduceCtorEq, Nat.reduceEqDiff, Nat.reduceLeDiff, Nat.reduceAdd, Nat.reduceMul, Nat.reduceSub, Nat.reduceLT, k5, k6, ce, w1, w3, w4, w5, w6, w7]
 | (with_reducible refine CU (et _) ?_)
 | (with_reducible refine CU (ee _) ?_)
 | (with_reducible first | refine CB_ofT (by assumption) fun hc => ?_ | refine CB_ofF (by assumption) fun hc => ?_ | refine CB_split (fun hc => ?_) fun hc => ?_) <;> (try simp only [hc, bs, ↓reduceIte] at h) <;> (try simp only [hc])
 | ((with_reducible first | refine leafR hQ ?_ | refine leafN hQ ?_); (try cases h); simp only [resL, oneD, Option.some.injEq, exists_eq_left', go_sem, hlt, hget, hpu, hinc, Int.reduceLE, ↓reduceIte, reduceCtorEq, Nat.reduceEqDiff, Nat.reduceLeDiff, Nat.reduceAdd, Nat.reduceMul, Nat.reduceSub, Nat.reduceLT, k5, k6, ce, w1, w3, w4, w5, w6, w7]; repeat' (first | exact Ok.out | with_reducible refine And.intro ?_ ?_ | (simp; done)))
 | (cases h; replace h := hr; clear hr; (try simp only [bs, ↓reduceIte] at h))
 | (cases h; done))
            refine SemL.re _ _ 0 0 (by rw [hB]; exact Nat.le_of_ble_eq_true rfl) (by rw [hB]; exact Nat.le_of_ble_eq_true rfl) ?_ ?_ (IH (rest, k + 1, c + 1 + (1 + A) + (1 + B1)) ⟨g2, by dsimp only; omega⟩ (Nat.lt_succ_self _))
            · (simp only [go_sem, hlt, hget, hpu, hinc, Int.reduceLE, ↓reduceIte, reduceCtorEq, Nat.reduceEqDiff, Nat.reduceLeDiff, Nat.reduceAdd, Nat.reduceMul, Nat.reduceSub, Nat.reduceLT]; repeat' (first | exact Ok.out | with_reducible refine And.intro ?_ ?_))
            · (simp only [go_sem, hlt, hget, hpu, hinc, Int.reduceLE, ↓reduceIte, reduceCtorEq, Nat.reduceEqDiff, Nat.reduceLeDiff, Nat.reduceAdd, Nat.reduceMul, Nat.reduceSub, Nat.reduceLT]; repeat' (first | exact Ok.out | with_reducible refine And.intro ?_ ?_))
        | false =>
          have ce' : y.els.length = 0 := by have := of_decide_eq_false ce; omega
          rw [if_pos ce'] at hp
          rcases ck with k5 | ⟨k5, k6⟩
          · repeat' (first
 | simp only [go_sem, hlt, hget, hpu, hinc, Int.reduceLE, ↓reduceIte, reduceCtorEq, Nat.reduceEqDiff, Nat.reduceLeDiff, Nat.reduceAdd, Nat.reduceMul, Nat.reduceSub, Nat.reduceLT, k5, ce, w1, w3, w4, w5, w6]
 | (with_reducible refine CU (et _) ?_)
 | (with_reducible refine CU (ee _) ?_)
 | (with_reducible first | refine CB_ofT (by assumption) fun hc => ?_ | refine CB_ofF (by assumption) fun hc => ?_ | refine CB_split (fun hc => ?_) fun hc => ?_) <;> (try simp only [hc, bs, ↓reduceIte] at h) <;> (try simp only [hc])
 | ((with_reducible first | refine leafR hQ ?_ | refine leafN hQ ?_); (try cases h); simp only [resL, oneD, Option.some.injEq, exists_eq_left', go_sem, hlt, hget, hpu, hinc, Int.reduceLE, ↓reduceIte, reduceCtorEq, Nat.reduceEqDiff, Nat.reduceLeDiff, Nat.reduceAdd, Nat.reduceMul, Nat.reduceSub, Nat.reduceLT, k5, ce, w1, w3, w4, w5, w6]; repeat' (first | exact Ok.out | with_reducible refine And.intro ?_ ?_ | (simp; done)))
 | (cases h; replace h := hr; clear hr; (try simp only [bs, ↓reduceIte] at h))
 | (cases h; done))
            refine SemL.re _ _ 0 0 (by rw [hB]; exact Nat.le_of_ble_eq_true rfl) (by rw [hB]; exact Nat.le_of_ble_eq_true rfl) ?_ ?_ (IH (rest, k + 1, c + 1 + (1 + A)) ⟨g2, by dsimp only; omega⟩ (Nat.lt_succ_self _))
            · (simp only [go_sem, hlt, hget, hpu, hinc, Int.reduceLE, ↓reduceIte, reduceCtorEq, Nat.reduceEqDiff, Nat.reduceLeDiff, Nat.reduceAdd, Nat.reduceMul, Nat.reduceSub, Nat.reduceLT]; repeat' (first | exact Ok.out | with_reducible refine And.intro ?_ ?_))
            · (simp only [go_sem, hlt, hget, hpu, hinc, Int.reduceLE, ↓reduceIte, reduceCtorEq, Nat.reduceEqDiff, Nat.reduceLeDiff, Nat.reduceAdd, Nat.reduceMul, Nat.reduceSub, Nat.reduceLT]; repeat' (first | exact Ok.out | with_reducible refine And.intro ?_ ?_))
          · repeat' (first
 | simp only [go_sem, hlt, hget, hpu, hinc, Int.reduceLE, ↓reduceIte, reduceCtorEq, Nat.reduceEqDiff, Nat.reduceLeDiff, Nat.reduceAdd, Nat.reduceMul, Nat.reduceSub, Nat.reduceLT, k5, k6, ce, w1, w3, w4, w5, w6]
 | (with_reducible refine CU (et _) ?_)
 | (with_reducible refine CU (ee _) ?_)
 | (with_reducible first | refine CB_ofT (by assumption) fun hc => ?_ | refine CB_ofF (by assumption) fun hc => ?_ | refine CB_split (fun hc => ?_) fun hc => ?_) <;> (try simp only [hc, bs, ↓reduceIte] at h) <;> (try simp only [hc])
 | ((with_reducible first | refine leafR hQ ?_ | refine leafN hQ ?_); (try cases h); simp only [resL, oneD, Option.some.injEq, exists_eq_left', go_sem, hlt, hget, hpu, hinc, Int.reduceLE, ↓reduceIte, reduceCtorEq, Nat.reduceEqDiff, Nat.reduceLeDiff, Nat.reduceAdd, Nat.reduceMul, Nat.reduceSub, Nat.reduceLT, k5, k6, ce, w1, w3, w4, w5, w6]; repeat' (first | exact Ok.out | with_reducible refine And.intro ?_ ?_ | (simp; done)))
 | (cases h; replace h := hr; clear hr; (try simp only [bs, ↓reduceIte] at h))
 | (cases h; done))
            refine SemL.re _ _ 0 0 (by rw [hB]; exact Nat.le_of_ble_eq_true rfl) (by rw [hB]; exact Nat.le_of_ble_eq_true rfl) ?_ ?_ (IH (rest, k + 1, c + 1 + (1 + A)) ⟨g2, by dsimp only; omega⟩ (Nat.lt_succ_self _))
            · (simp only [go_sem, hlt, hget, hpu, hinc, Int.reduceLE, ↓reduceIte, reduceCtorEq, Nat.reduceEqDiff, Nat.reduceLeDiff, Nat.reduceAdd, Nat.reduceMul, Nat.reduceSub, Nat.reduceLT]; repeat' (first | exact Ok.out | with_reducible refine And.intro ?_ ?_))
            · (simp only [go_sem, hlt, hget, hpu, hinc, Int.reduceLE, ↓reduceIte, reduceCtorEq, Nat.reduceEqDiff, Nat.reduceLeDiff, Nat.reduceAdd, Nat.reduceMul, Nat.reduceSub, Nat.reduceLT]; repeat' (first | exact Ok.out | with_reducible refine And.intro ?_ ?_))
      · rw [if_neg k56] at hp
        have k5 : (y.kind == 5) = false := by simp; exact fun h => k56 (.inl h)
        have k6 : (y.kind == 6) = false := by simp; exact fun h => k56 (.inr h)
        repeat' (first
 | simp only [go_sem, hlt, hget, hpu, hinc, Int.reduceLE, ↓reduceIte, reduceCtorEq, Nat.reduceEqDiff, Nat.reduceLeDiff, Nat.reduceAdd, Nat.reduceMul, Nat.reduceSub, Nat.reduceLT, k5, k6, w1, w3]
 | (with_reducible first | refine CB_ofT (by assumption) fun hc => ?_ | refine CB_ofF (by assumption) fun hc => ?_ | refine CB_split (fun hc => ?_) fun hc => ?_) <;> (try simp only [hc, bs, ↓reduceIte] at h) <;> (try simp only [hc])
 | ((with_reducible first | refine leafR hQ ?_ | refine leafN hQ ?_); (try cases h); simp only [resL, oneD, Option.some.injEq, exists_eq_left', go_sem, hlt, hget, hpu, hinc, Int.reduceLE, ↓reduceIte, reduceCtorEq, Nat.reduceEqDiff, Nat.reduceLeDiff, Nat.reduceAdd, Nat.reduceMul, Nat.reduceSub, Nat.reduceLT, k5, k6, w1, w3]; repeat' (first | exact Ok.out | with_reducible refine And.intro ?_ ?_ | (simp; done)))
 | (cases h; replace h := hr; clear hr; (try simp only [bs, ↓reduceIte] at h))
 | (cases h; done))
        refine SemL.re _ _ 0 0 (by rw [hB]; exact Nat.le_of_ble_eq_true rfl) (by rw [hB]; exact Nat.le_of_ble_eq_true rfl) ?_ ?_ (IH (rest, k + 1, c + 1) ⟨g2, by dsimp only; omega⟩ (Nat.lt_succ_self _))
        · (simp only [go_sem, hlt, hget, hpu, hinc, Int.reduceLE, ↓reduceIte, reduceCtorEq, Nat.reduceEqDiff, Nat.reduceLeDiff, Nat.reduceAdd, Nat.reduceMul, Nat.reduceSub, Nat.reduceLT]; repeat' (first | exact Ok.out | with_reducible refine And.intro ?_ ?_))
        · (simp only [go_sem, hlt, hget, hpu, hinc, Int.reduceLE, ↓reduceIte, reduceCtorEq, Nat.reduceEqDiff, Nat.reduceLeDiff, Nat.reduceAdd, Nat.reduceMul, Nat.reduceSub, Nat.reduceLT]; repeat' (first | exact Ok.out | with_reducible refine And.intro ?_ ?_))

theorem procsL_le : ∀ l : List Pc, procsL l ≤ 3 * Pc.sizes l
  | [] => by simp [procsL]
  | f :: l => by
    have := procsL_le l
    have := linesNs_le f.body
    simp only [procsL, procL, Pc.sizes, Pc.size]; omega

/-- What is behind the loop over the signs. -/
theorem printLines_loop {T : Str} {R : Nat} (hT : T.length < 1000000000) (hR : R < 2000000000) (he : Ends10 T) {B : Base} {Q : Exit → Tm → St → Prop} {p : Pg} (hB : B.s = { objs := [], toks := [] })
    (hQ : retF { objs := [], toks := [] : St }.objs.length { objs := [], toks := [] : St }.toks.length [(2, none)] (D.bool true) { objs := [], toks := [] } = Q) :
    ∀ i : Str × Nat × Nat × Bool × Bool, (T.drop i.2.1 = i.1 ∧ (∃ k, scan i.2.2.2.1 i.2.2.2.2 i.1 = some k ∧ i.2.2.1 + k = R) ∧ i.2.1 ≤ T.length ∧ (i.2.1 = 0 → i.2.2.2.1 = false) ∧ ∀ c0, 0 < i.2.1 → T[i.2.1 - 1]? = some c0 → i.2.2.2.1 = ((c0.toNat : Int) == 32)) →
    SemL Tryd.prog B 104 Q1Q (inBlockQ 2 (thenQ (wpC Tryd.prog B 104 Q1V Q) Q))
      [(3, .int .i64 (R : Nat)), (6, .str T), (7, .int .i64 (i.2.2.1 : Nat)), (8, .bool i.2.2.2.2), (9, .int .i64 (i.2.1 : Nat))] ⟨[encPg p], []⟩ := by
  have hlt : 0 < 1 := Nat.zero_lt_one
  have hget : 0 < 1 := Nat.zero_lt_one
  have hpu : 0 < 1 := Nat.zero_lt_one
  have hinc : 0 < 1 := Nat.zero_lt_one
  refine SemL.ind (ι := Str × Nat × Nat × Bool × Bool) (fun i => T.drop i.2.1 = i.1 ∧ (∃ k, scan i.2.2.2.1 i.2.2.2.2 i.1 = some k ∧ i.2.2.1 + k = R) ∧ i.2.1 ≤ T.length ∧ (i.2.1 = 0 → i.2.2.2.1 = false) ∧ ∀ c0, 0 < i.2.1 → T[i.2.1 - 1]? = some c0 → i.2.2.2.1 = ((c0.toNat : Int) == 32)) (fun i => i.1.length)
    (fun i => [(3, .int .i64 (R : Nat)), (6, .str T), (7, .int .i64 (i.2.2.1 : Nat)), (8, .bool i.2.2.2.2), (9, .int .i64 (i.2.1 : Nat))]) (fun i => ⟨[encPg p], []⟩) ?_
  rintro ⟨rest, i, n, pb, b⟩ ⟨g1, ⟨k, h, hk⟩, g3, g4, g5⟩ IH
  dsimp only at g1 h hk g3 g4 g5
  cases rest with
  | nil =>
    have hlt := drop_nil g1
    simp only [scan, Option.some.injEq] at h
    have hn : n = R := by omega
    subst hn
    have e1 : ((n : Int) == (n : Int)) = true := beq_self_eq_true _
    have hi : i = T.length := by
      have := List.drop_eq_nil_iff.1 g1
      omega
    rcases he with rfl | ⟨t, rfl⟩
    · have e2 : (([] : Str) == []) = true := rfl
      simp only [List.length_nil] at hi
      subst hi
      have d1 : decide (((0 : Nat) : Int) < ((0 : Nat) : Int)) = false := rfl
      have d2 : decide ((0 : Int) < 0) = false := rfl
      repeat' (first
 | simp only [go_sem, hlt, hget, hpu, hinc, Int.reduceLE, ↓reduceIte, reduceCtorEq, Nat.reduceEqDiff, Nat.reduceLeDiff, Nat.reduceAdd, Nat.reduceMul, Nat.reduceSub, Nat.reduceLT, e1, e2, d1, d2]
 | (with_reducible first | refine CB_ofT (by assumption) fun hc => ?_ | refine CB_ofF (by assumption) fun hc => ?_ | refine CB_split (fun hc => ?_) fun hc => ?_) <;> (try simp only [hc, bs, ↓reduceIte] at h) <;> (try simp only [hc])
 | ((with_reducible first | refine leafR hQ ?_ | refine leafN hQ ?_); (try cases h); simp only [resL, oneD, Option.some.injEq, exists_eq_left', go_sem, hlt, hget, hpu, hinc, Int.reduceLE, ↓reduceIte, reduceCtorEq, Nat.reduceEqDiff, Nat.reduceLeDiff, Nat.reduceAdd, Nat.reduceMul, Nat.reduceSub, Nat.reduceLT, e1, e2, d1, d2]; repeat' (first | exact Ok.out | with_reducible refine And.intro ?_ ?_ | (simp; done)))
 | (cases h; replace h := hr; clear hr; (try simp only [bs, ↓reduceIte] at h))
 | (cases h; done))
    · have hT : t.length + 1 < 1000000000 := by simpa using hT
      have d1 : decide ((i : Int) < ((t.length + 1 : Nat) : Int)) = false := by simp at hi ⊢; omega
      have e2 : ((t ++ [10] : Str) == []) = false := by simp
      have w1 : IntKind.wrap .i64 (((t ++ [10] : Str).length : Int) - 1) = ((t.length : Nat) : Int) := by simp only [List.length_append, List.length_cons, List.length_nil]; rw [wrap_ok] <;> omega
      have w1' : IntKind.wrap .i64 (((t.length + 1 : Nat) : Int) - 1) = ((t.length : Nat) : Int) := by rw [wrap_ok] <;> omega
      have e3 : (t ++ [10] : Str)[t.length]? = some 10 := by simp
      have e4 : (((10 : UInt8).toNat : Int) == 10) = true := by decide
      have e5 : ((10 : Int) == 10) = true := by decide
      repeat' (first
 | simp only [go_sem, hlt, hget, hpu, hinc, Int.reduceLE, ↓reduceIte, reduceCtorEq, Nat.reduceEqDiff, Nat.reduceLeDiff, Nat.reduceAdd, Nat.reduceMul, Nat.reduceSub, Nat.reduceLT, e1, e2, d1, w1, w1', e3, e4, e5]
 | (with_reducible first | refine CB_ofT (by assumption) fun hc => ?_ | refine CB_ofF (by assumption) fun hc => ?_ | refine CB_split (fun hc => ?_) fun hc => ?_) <;> (try simp only [hc, bs, ↓reduceIte] at h) <;> (try simp only [hc])
 | ((with_reducible first | refine leafR hQ ?_ | refine leafN hQ ?_); (try cases h); simp only [resL, oneD, Option.some.injEq, exists_eq_left', go_sem, hlt, hget, hpu, hinc, Int.reduceLE, ↓reduceIte, reduceCtorEq, Nat.reduceEqDiff, Nat.reduceLeDiff, Nat.reduceAdd, Nat.reduceMul, Nat.reduceSub, Nat.reduceLT, e1, e2, d1, w1, w1', e3, e4, e5]; repeat' (first | exact Ok.out | with_reducible refine And.intro ?_ ?_ | (simp; done)))
 | (cases h; replace h := hr; clear hr; (try simp only [bs, ↓reduceIte] at h))
 | (cases h; done))
  | cons c rest =>
    obtain ⟨hget, g2, hlt, g6⟩ := drop_cons g1
    have w3 : IntKind.wrap .i64 ((i : Int) + 1) = ((i + 1 : Nat) : Int) := by rw [wrap_ok] <;> omega
    have hnext : ∀ c0, 0 < i + 1 → T[i + 1 - 1]? = some c0 → ((c.toNat : Int) == 32) = ((c0.toNat : Int) == 32) := by
      intro c0 _ h0
      rw [Nat.add_sub_cancel, hget] at h0
      cases h0; rfl
    simp only [scan] at h
    have w4 : IntKind.wrap .i64 ((n : Int) + 1) = ((n + 1 : Nat) : Int) := by rw [wrap_ok] <;> omega
    cases c10 : (c.toNat : Int) == 10 with
    | true =>
      rw [c10, if_pos rfl] at h
      have c32 : ((c.toNat : Int) == 32) = false := by simp at c10 ⊢; omega
      cases pb with
      | true => simp at h
      | false =>
        simp only [Bool.false_eq_true, ↓reduceIte, Option.map_eq_some_iff] at h
        obtain ⟨k', h, rfl⟩ := h
        have IH' := IH (rest, i + 1, n + 1, false, false) ⟨g2, ⟨k', h, by dsimp only; omega⟩, by dsimp only; omega, fun h => by simp at h, fun c0 h1 h2 => by rw [← hnext c0 h1 h2, c32]⟩ (Nat.lt_succ_self _)
        by_cases i0 : i = 0
        · have d0 : decide ((i : Int) > 0) = false := by simp; omega
          repeat' (first
 | simp only [go_sem, hlt, hget, hpu, hinc, Int.reduceLE, ↓reduceIte, reduceCtorEq, Nat.reduceEqDiff, Nat.reduceLeDiff, Nat.reduceAdd, Nat.reduceMul, Nat.reduceSub, Nat.reduceLT, c10, d0, w3, w4]
 | (with_reducible first | refine CB_ofT (by assumption) fun hc => ?_ | refine CB_ofF (by assumption) fun hc => ?_ | refine CB_split (fun hc => ?_) fun hc => ?_) <;> (try simp only [hc, bs, ↓reduceIte] at h) <;> (try simp only [hc])
 | ((with_reducible first | refine leafR hQ ?_ | refine leafN hQ ?_); (try cases h); simp only [resL, oneD, Option.some.injEq, exists_eq_left', go_sem, hlt, hget, hpu, hinc, Int.reduceLE, ↓reduceIte, reduceCtorEq, Nat.reduceEqDiff, Nat.reduceLeDiff, Nat.reduceAdd, Nat.reduceMul, Nat.reduceSub, Nat.reduceLT, c10, d0, w3, w4]; repeat' (first | exact Ok.out | with_reducible refine And.intro ?_ ?_ | (simp; done)))
 | (cases h; replace h := hr; clear hr; (try simp only [bs, ↓reduceIte] at h))
 | (cases h; done))
          refine SemL.re _ _ 1 0 (by rw [hB]; exact Nat.le_of_ble_eq_true rfl) (by rw [hB]; exact Nat.le_of_ble_eq_true rfl) ?_ ?_ (IH')
          · (simp only [go_sem, hlt, hget, hpu, hinc, Int.reduceLE, ↓reduceIte, reduceCtorEq, Nat.reduceEqDiff, Nat.reduceLeDiff, Nat.reduceAdd, Nat.reduceMul, Nat.reduceSub, Nat.reduceLT]; repeat' (first | exact Ok.out | with_reducible refine And.intro ?_ ?_))
          · (simp only [go_sem, hlt, hget, hpu, hinc, Int.reduceLE, ↓reduceIte, reduceCtorEq, Nat.reduceEqDiff, Nat.reduceLeDiff, Nat.reduceAdd, Nat.reduceMul, Nat.reduceSub, Nat.reduceLT]; repeat' (first | exact Ok.out | with_reducible refine And.intro ?_ ?_))
        · have d0 : decide ((i : Int) > 0) = true := by simp; omega
          obtain ⟨c0, hc0⟩ : ∃ c0, T[i - 1]? = some c0 := ⟨_, List.getElem?_eq_getElem (by omega)⟩
          have p0 : ((c0.toNat : Int) == 32) = false := (g5 c0 (by omega) hc0).symm
          have w5 : IntKind.wrap .i64 ((i : Int) - 1) = ((i - 1 : Nat) : Int) := by rw [wrap_ok] <;> omega
          repeat' (first
 | simp only [go_sem, hlt, hget, hpu, hinc, Int.reduceLE, ↓reduceIte, reduceCtorEq, Nat.reduceEqDiff, Nat.reduceLeDiff, Nat.reduceAdd, Nat.reduceMul, Nat.reduceSub, Nat.reduceLT, c10, d0, w3, w4, w5, hc0, p0]
 | (with_reducible first | refine CB_ofT (by assumption) fun hc => ?_ | refine CB_ofF (by assumption) fun hc => ?_ | refine CB_split (fun hc => ?_) fun hc => ?_) <;> (try simp only [hc, bs, ↓reduceIte] at h) <;> (try simp only [hc])
 | ((with_reducible first | refine leafR hQ ?_ | refine leafN hQ ?_); (try cases h); simp only [resL, oneD, Option.some.injEq, exists_eq_left', go_sem, hlt, hget, hpu, hinc, Int.reduceLE, ↓reduceIte, reduceCtorEq, Nat.reduceEqDiff, Nat.reduceLeDiff, Nat.reduceAdd, Nat.reduceMul, Nat.reduceSub, Nat.reduceLT, c10, d0, w3, w4, w5, hc0, p0]; repeat' (first | exact Ok.out | with_reducible refine And.intro ?_ ?_ | (simp; done)))
 | (cases h; replace h := hr; clear hr; (try simp only [bs, ↓reduceIte] at h))
 | (cases h; done))
          refine SemL.re _ _ 1 0 (by rw [hB]; exact Nat.le_of_ble_eq_true rfl) (by rw [hB]; exact Nat.le_of_ble_eq_true rfl) ?_ ?_ (IH')
          · (simp only [go_sem, hlt, hget, hpu, hinc, Int.reduceLE, ↓reduceIte, reduceCtorEq, Nat.reduceEqDiff, Nat.reduceLeDiff, Nat.reduceAdd, Nat.reduceMul, Nat.reduceSub, Nat.reduceLT]; repeat' (first | exact Ok.out | with_reducible refine And.intro ?_ ?_))
          · (simp only [go_sem, hlt, hget, hpu, hinc, Int.reduceLE, ↓reduceIte, reduceCtorEq, Nat.reduceEqDiff, Nat.reduceLeDiff, Nat.reduceAdd, Nat.reduceMul, Nat.reduceSub, Nat.reduceLT]; repeat' (first | exact Ok.out | with_reducible refine And.intro ?_ ?_))
    | false =>
      rw [c10, if_neg (by simp)] at h
      split at h
      · cases h
      rename_i hcond
      have hnb : ((c.toNat : Int) == 32 && b && pb) = false := by simpa using hcond
      have IH' := IH (rest, i + 1, n, (c.toNat : Int) == 32, b || (c.toNat : Int) != 32) ⟨g2, ⟨k, h, hk⟩, by dsimp only; omega, fun h => by simp at h, hnext⟩ (Nat.lt_succ_self _)
      cases c32 : (c.toNat : Int) == 32 with
      | false =>
        have c32' : ((c.toNat : Int) != 32) = true := by simpa using c32
        rw [c32, c32'] at IH'
        cases b with
        | true =>
          try simp only [Bool.or_true, Bool.or_false, Bool.true_or, Bool.false_or] at IH'
          repeat' (first
 | simp only [go_sem, hlt, hget, hpu, hinc, Int.reduceLE, ↓reduceIte, reduceCtorEq, Nat.reduceEqDiff, Nat.reduceLeDiff, Nat.reduceAdd, Nat.reduceMul, Nat.reduceSub, Nat.reduceLT, c10, c32, c32', w3]
 | (with_reducible first | refine CB_ofT (by assumption) fun hc => ?_ | refine CB_ofF (by assumption) fun hc => ?_ | refine CB_split (fun hc => ?_) fun hc => ?_) <;> (try simp only [hc, bs, ↓reduceIte] at h) <;> (try simp only [hc])
 | ((with_reducible first | refine leafR hQ ?_ | refine leafN hQ ?_); (try cases h); simp only [resL, oneD, Option.some.injEq, exists_eq_left', go_sem, hlt, hget, hpu, hinc, Int.reduceLE, ↓reduceIte, reduceCtorEq, Nat.reduceEqDiff, Nat.reduceLeDiff, Nat.reduceAdd, Nat.reduceMul, Nat.reduceSub, Nat.reduceLT, c10, c32, c32', w3]; repeat' (first | exact Ok.out | with_reducible refine And.intro ?_ ?_ | (simp; done)))
 | (cases h; replace h := hr; clear hr; (try simp only [bs, ↓reduceIte] at h))
 | (cases h; done))
          refine SemL.re _ _ 1 0 (by rw [hB]; exact Nat.le_of_ble_eq_true rfl) (by rw [hB]; exact Nat.le_of_ble_eq_true rfl) ?_ ?_ (IH')
          · (simp only [go_sem, hlt, hget, hpu, hinc, Int.reduceLE, ↓reduceIte, reduceCtorEq, Nat.reduceEqDiff, Nat.reduceLeDiff, Nat.reduceAdd, Nat.reduceMul, Nat.reduceSub, Nat.reduceLT]; repeat' (first | exact Ok.out | with_reducible refine And.intro ?_ ?_))
          · (simp only [go_sem, hlt, hget, hpu, hinc, Int.reduceLE, ↓reduceIte, reduceCtorEq, Nat.reduceEqDiff, Nat.reduceLeDiff, Nat.reduceAdd, Nat.reduceMul, Nat.reduceSub, Nat.reduceLT]; repeat' (first | exact Ok.out | with_reducible refine And.intro ?_ ?_))
        | false =>
          try simp only [Bool.or_true, Bool.or_false, Bool.true_or, Bool.false_or] at IH'
          repeat' (first
 | simp only [go_sem, hlt, hget, hpu, hinc, Int.reduceLE, ↓reduceIte, reduceCtorEq, Nat.reduceEqDiff, Nat.reduceLeDiff, Nat.reduceAdd, Nat.reduceMul, Nat.reduceSub, Nat.reduceLT, c10, c32, c32', w3]
 | (with_reducible first | refine CB_ofT (by assumption) fun hc => ?_ | refine CB_ofF (by assumption) fun hc => ?_ | refine CB_split (fun hc => ?_) fun hc => ?_) <;> (try simp only [hc, bs, ↓reduceIte] at h) <;> (try simp only [hc])
 | ((with_reducible first | refine leafR hQ ?_ | refine leafN hQ ?_); (try cases h); simp only [resL, oneD, Option.some.injEq, exists_eq_left', go_sem, hlt, hget, hpu, hinc, Int.reduceLE, ↓reduceIte, reduceCtorEq, Nat.reduceEqDiff, Nat.reduceLeDiff, Nat.reduceAdd, Nat.reduceMul, Nat.reduceSub, Nat.reduceLT, c10, c32, c32', w3]; repeat' (first | exact Ok.out | with_reducible refine And.intro ?_ ?_ | (simp; done)))
 | (cases h; replace h := hr; clear hr; (try simp only [bs, ↓reduceIte] at h))
 | (cases h; done))
          refine SemL.re _ _ 1 0 (by rw [hB]; exact Nat.le_of_ble_eq_true rfl) (by rw [hB]; exact Nat.le_of_ble_eq_true rfl) ?_ ?_ (IH')
          · (simp only [go_sem, hlt, hget, hpu, hinc, Int.reduceLE, ↓reduceIte, reduceCtorEq, Nat.reduceEqDiff, Nat.reduceLeDiff, Nat.reduceAdd, Nat.reduceMul, Nat.reduceSub, Nat.reduceLT]; repeat' (first | exact Ok.out | with_reducible refine And.intro ?_ ?_))
          · (simp only [go_sem, hlt, hget, hpu, hinc, Int.reduceLE, ↓reduceIte, reduceCtorEq, Nat.reduceEqDiff, Nat.reduceLeDiff, Nat.reduceAdd, Nat.reduceMul, Nat.reduceSub, Nat.reduceLT]; repeat' (first | exact Ok.out | with_reducible refine And.intro ?_ ?_))
      | true =>
        have c32' : ((c.toNat : Int) != 32) = false := by simpa using c32
        rw [c32, c32'] at IH'
        rw [c32] at hnb
        cases b with
        | false =>
          try simp only [Bool.or_true, Bool.or_false, Bool.true_or, Bool.false_or] at IH'
          repeat' (first
 | simp only [go_sem, hlt, hget, hpu, hinc, Int.reduceLE, ↓reduceIte, reduceCtorEq, Nat.reduceEqDiff, Nat.reduceLeDiff, Nat.reduceAdd, Nat.reduceMul, Nat.reduceSub, Nat.reduceLT, c10, c32, c32', w3]
 | (with_reducible first | refine CB_ofT (by assumption) fun hc => ?_ | refine CB_ofF (by assumption) fun hc => ?_ | refine CB_split (fun hc => ?_) fun hc => ?_) <;> (try simp only [hc, bs, ↓reduceIte] at h) <;> (try simp only [hc])
 | ((with_reducible first | refine leafR hQ ?_ | refine leafN hQ ?_); (try cases h); simp only [resL, oneD, Option.some.injEq, exists_eq_left', go_sem, hlt, hget, hpu, hinc, Int.reduceLE, ↓reduceIte, reduceCtorEq, Nat.reduceEqDiff, Nat.reduceLeDiff, Nat.reduceAdd, Nat.reduceMul, Nat.reduceSub, Nat.reduceLT, c10, c32, c32', w3]; repeat' (first | exact Ok.out | with_reducible refine And.intro ?_ ?_ | (simp; done)))
 | (cases h; replace h := hr; clear hr; (try simp only [bs, ↓reduceIte] at h))
 | (cases h; done))
          refine SemL.re _ _ 1 0 (by rw [hB]; exact Nat.le_of_ble_eq_true rfl) (by rw [hB]; exact Nat.le_of_ble_eq_true rfl) ?_ ?_ (IH')
          · (simp only [go_sem, hlt, hget, hpu, hinc, Int.reduceLE, ↓reduceIte, reduceCtorEq, Nat.reduceEqDiff, Nat.reduceLeDiff, Nat.reduceAdd, Nat.reduceMul, Nat.reduceSub, Nat.reduceLT]; repeat' (first | exact Ok.out | with_reducible refine And.intro ?_ ?_))
          · (simp only [go_sem, hlt, hget, hpu, hinc, Int.reduceLE, ↓reduceIte, reduceCtorEq, Nat.reduceEqDiff, Nat.reduceLeDiff, Nat.reduceAdd, Nat.reduceMul, Nat.reduceSub, Nat.reduceLT]; repeat' (first | exact Ok.out | with_reducible refine And.intro ?_ ?_))
        | true =>
          have hpb : pb = false := by simpa using hnb
          subst hpb
          try simp only [Bool.or_true, Bool.or_false, Bool.true_or, Bool.false_or] at IH'
          by_cases i0 : i = 0
          · have d0 : decide ((i : Int) > 0) = false := by simp; omega
            repeat' (first
 | simp only [go_sem, hlt, hget, hpu, hinc, Int.reduceLE, ↓reduceIte, reduceCtorEq, Nat.reduceEqDiff, Nat.reduceLeDiff, Nat.reduceAdd, Nat.reduceMul, Nat.reduceSub, Nat.reduceLT, c10, c32, c32', d0, w3]
 | (with_reducible first | refine CB_ofT (by assumption) fun hc => ?_ | refine CB_ofF (by assumption) fun hc => ?_ | refine CB_split (fun hc => ?_) fun hc => ?_) <;> (try simp only [hc, bs, ↓reduceIte] at h) <;> (try simp only [hc])
 | ((with_reducible first | refine leafR hQ ?_ | refine leafN hQ ?_); (try cases h); simp only [resL, oneD, Option.some.injEq, exists_eq_left', go_sem, hlt, hget, hpu, hinc, Int.reduceLE, ↓reduceIte, reduceCtorEq, Nat.reduceEqDiff, Nat.reduceLeDiff, Nat.reduceAdd, Nat.reduceMul, Nat.reduceSub, Nat.reduceLT, c10, c32, c32', d0, w3]; repeat' (first | exact Ok.out | with_reducible refine And.intro ?_ ?_ | (simp; done)))
 | (cases h; replace h := hr; clear hr; (try simp only [bs, ↓reduceIte] at h))
 | (cases h; done))
            refine SemL.re _ _ 1 0 (by rw [hB]; exact Nat.le_of_ble_eq_true rfl) (by rw [hB]; exact Nat.le_of_ble_eq_true rfl) ?_ ?_ (IH')
            · (simp only [go_sem, hlt, hget, hpu, hinc, Int.reduceLE, ↓reduceIte, reduceCtorEq, Nat.reduceEqDiff, Nat.reduceLeDiff, Nat.reduceAdd, Nat.reduceMul, Nat.reduceSub, Nat.reduceLT]; repeat' (first | exact Ok.out | with_reducible refine And.intro ?_ ?_))
            · (simp only [go_sem, hlt, hget, hpu, hinc, Int.reduceLE, ↓reduceIte, reduceCtorEq, Nat.reduceEqDiff, Nat.reduceLeDiff, Nat.reduceAdd, Nat.reduceMul, Nat.reduceSub, Nat.reduceLT]; repeat' (first | exact Ok.out | with_reducible refine And.intro ?_ ?_))
          · have d0 : decide ((i : Int) > 0) = true := by simp; omega
            obtain ⟨c0, hc0⟩ : ∃ c0, T[i - 1]? = some c0 := ⟨_, List.getElem?_eq_getElem (by omega)⟩
            have p0 : ((c0.toNat : Int) == 32) = false := (g5 c0 (by omega) hc0).symm
            have w5 : IntKind.wrap .i64 ((i : Int) - 1) = ((i - 1 : Nat) : Int) := by rw [wrap_ok] <;> omega
            repeat' (first
 | simp only [go_sem, hlt, hget, hpu, hinc, Int.reduceLE, ↓reduceIte, reduceCtorEq, Nat.reduceEqDiff, Nat.reduceLeDiff, Nat.reduceAdd, Nat.reduceMul, Nat.reduceSub, Nat.reduceLT, c10, c32, c32', d0, w3, w5, hc0, p0]
 | (with_reducible first | refine CB_ofT (by assumption) fun hc => ?_ | refine CB_ofF (by assumption) fun hc => ?_ | refine CB_split (fun hc => ?_) fun hc => ?_) <;> (try simp only [hc, bs, ↓reduceIte] at h) <;> (try simp only [hc])
 | ((with_reducible first | refine leafR hQ ?_ | refine leafN hQ ?_); (try cases h); simp only [resL, oneD, Option.some.injEq, exists_eq_left', go_sem, hlt, hget, hpu, hinc, Int.reduceLE, ↓reduceIte, reduceCtorEq, Nat.reduceEqDiff, Nat.reduceLeDiff, Nat.reduceAdd, Nat.reduceMul, Nat.reduceSub, Nat.reduceLT, c10, c32, c32', d0, w3, w5, hc0, p0]; repeat' (first | exact Ok.out | with_reducible refine And.intro ?_ ?_ | (simp; done)))
 | (cases h; replace h := hr; clear hr; (try simp only [bs, ↓reduceIte] at h))
 | (cases h; done))
            refine SemL.re _ _ 1 0 (by rw [hB]; exact Nat.le_of_ble_eq_true rfl) (by rw [hB]; exact Nat.le_of_ble_eq_true rfl) ?_ ?_ (IH')
            · (simp only [go_sem, hlt, hget, hpu, hinc, Int.reduceLE, ↓reduceIte, reduceCtorEq, Nat.reduceEqDiff, Nat.reduceLeDiff, Nat.reduceAdd, Nat.reduceMul, Nat.reduceSub, Nat.reduceLT]; repeat' (first | exact Ok.out | with_reducible refine And.intro ?_ ?_))
            · (simp only [go_sem, hlt, hget, hpu, hinc, Int.reduceLE, ↓reduceIte, reduceCtorEq, Nat.reduceEqDiff, Nat.reduceLeDiff, Nat.reduceAdd, Nat.reduceMul, Nat.reduceSub, Nat.reduceLT]; repeat' (first | exact Ok.out | with_reducible refine And.intro ?_ ?_))

theorem printLines_s {p : Pg} (hr : p.rng) (s : St) : Fun Tryd.prog n_law5_PrintLines [.agg (encPg p)] s (.bool true) s := by
  refine Fun.pure ?_ (by simp only [D.oks, D.ok, okPg]; rfl) rfl s
  have h0 := fun s => printed5_s s
  have hf := fun s => Fits_s p s
  unfold S0
  cases c : decide (p.weigh ≤ 20000) with
  | false =>
    refine Fun.go has_law5_PrintLines rfl fun B Q hB hQ => ?_
    have hlt : 0 < 1 := Nat.zero_lt_one
    have hget : 0 < 1 := Nat.zero_lt_one
    have hpu : 0 < 1 := Nat.zero_lt_one
    have hinc : 0 < 1 := Nat.zero_lt_one
    repeat' (first
 | simp only [go_sem, hlt, hget, hpu, hinc, Int.reduceLE, ↓reduceIte, reduceCtorEq, Nat.reduceEqDiff, Nat.reduceLeDiff, Nat.reduceAdd, Nat.reduceMul, Nat.reduceSub, Nat.reduceLT, c]
 | (with_reducible refine CU (h0 _) ?_)
 | (with_reducible refine CU (hf _) ?_)
 | (with_reducible first | refine CB_ofT (by assumption) fun hc => ?_ | refine CB_ofF (by assumption) fun hc => ?_ | refine CB_split (fun hc => ?_) fun hc => ?_) <;> (try simp only [hc, bs, ↓reduceIte] at h) <;> (try simp only [hc])
 | ((with_reducible first | refine leafR hQ ?_ | refine leafN hQ ?_); (try cases h); simp only [resL, oneD, Option.some.injEq, exists_eq_left', go_sem, hlt, hget, hpu, hinc, Int.reduceLE, ↓reduceIte, reduceCtorEq, Nat.reduceEqDiff, Nat.reduceLeDiff, Nat.reduceAdd, Nat.reduceMul, Nat.reduceSub, Nat.reduceLT, c]; repeat' (first | exact Ok.out | with_reducible refine And.intro ?_ ?_ | (simp; done)))
 | (cases h; replace h := hr; clear hr; (try simp only [bs, ↓reduceIte] at h))
 | (cases h; done))
  | true =>
  obtain ⟨hs, hP⟩ := weigh_fits (of_decide_eq_true c)
  have m1 := fun s => May_s (fineP_fine hP) s
  cases c2 : p.may with
  | false =>
    refine Fun.go has_law5_PrintLines rfl fun B Q hB hQ => ?_
    have hlt : 0 < 1 := Nat.zero_lt_one
    have hget : 0 < 1 := Nat.zero_lt_one
    have hpu : 0 < 1 := Nat.zero_lt_one
    have hinc : 0 < 1 := Nat.zero_lt_one
    repeat' (first
 | simp only [go_sem, hlt, hget, hpu, hinc, Int.reduceLE, ↓reduceIte, reduceCtorEq, Nat.reduceEqDiff, Nat.reduceLeDiff, Nat.reduceAdd, Nat.reduceMul, Nat.reduceSub, Nat.reduceLT, c, c2]
 | (with_reducible refine CU (h0 _) ?_)
 | (with_reducible refine CU (hf _) ?_)
 | (with_reducible refine CU (m1 _) ?_)
 | (with_reducible first | refine CB_ofT (by assumption) fun hc => ?_ | refine CB_ofF (by assumption) fun hc => ?_ | refine CB_split (fun hc => ?_) fun hc => ?_) <;> (try simp only [hc, bs, ↓reduceIte] at h) <;> (try simp only [hc])
 | ((with_reducible first | refine leafR hQ ?_ | refine leafN hQ ?_); (try cases h); simp only [resL, oneD, Option.some.injEq, exists_eq_left', go_sem, hlt, hget, hpu, hinc, Int.reduceLE, ↓reduceIte, reduceCtorEq, Nat.reduceEqDiff, Nat.reduceLeDiff, Nat.reduceAdd, Nat.reduceMul, Nat.reduceSub, Nat.reduceLT, c, c2]; repeat' (first | exact Ok.out | with_reducible refine And.intro ?_ ?_ | (simp; done)))
 | (cases h; replace h := hr; clear hr; (try simp only [bs, ↓reduceIte] at h))
 | (cases h; done))
  | true =>
    have h1 := fun s => pText_s hP (fun h => may_PrG (by rw [← mayP_eq]; exact h) hr) (by omega) s
    rw [if_pos c2] at h1
    have hscan := scan_text c2 hr
    have hends := ends_text p
    have hG := may_PrG c2 hr
    have hl1 := globsS_len hG.globals
    have hl2 := procsS_len hG.procs
    have hl3 := procsL_le p.procs
    have hlen : (textS p).length < 1000000000 := by
      have : (textS p).length = (globsS p.globals).length + (procsS p.procs).length := by simp [textS]
      simp only [Pg.size] at hs
      omega
    have hR : p.lines < 2000000000 := by simp only [Pg.lines]; simp only [Pg.size] at hs; omega
    have hps : Pc.sizes p.procs ≤ 1000000 := by simp only [Pg.size] at hs; omega
    have hpl := Pc.sizes_len p.procs
    have hmin : ∀ n : Nat, (if (1 : Int) < (n : Int) then (1 : Int) else (n : Int)) = ((min n 1 : Nat) : Int) := by intro n; split <;> omega
    have hw : min p.globals.length 1 + procsL p.procs = p.lines := rfl
    generalize textS p = T at *
    generalize p.lines = R at *
    refine Fun.go has_law5_PrintLines rfl fun B Q hB hQ => ?_
    have hlt : 0 < 1 := Nat.zero_lt_one
    have hget : 0 < 1 := Nat.zero_lt_one
    have hpu : 0 < 1 := Nat.zero_lt_one
    have hinc : 0 < 1 := Nat.zero_lt_one
    repeat' (first
 | simp only [go_sem, hlt, hget, hpu, hinc, Int.reduceLE, ↓reduceIte, reduceCtorEq, Nat.reduceEqDiff, Nat.reduceLeDiff, Nat.reduceAdd, Nat.reduceMul, Nat.reduceSub, Nat.reduceLT, c, c2, hmin]
 | (with_reducible refine CU (h0 _) ?_)
 | (with_reducible refine CU (hf _) ?_)
 | (with_reducible refine CU (m1 _) ?_)
 | (with_reducible first | refine CB_ofT (by assumption) fun hc => ?_ | refine CB_ofF (by assumption) fun hc => ?_ | refine CB_split (fun hc => ?_) fun hc => ?_) <;> (try simp only [hc, bs, ↓reduceIte] at h) <;> (try simp only [hc])
 | ((with_reducible first | refine leafR hQ ?_ | refine leafN hQ ?_); (try cases h); simp only [resL, oneD, Option.some.injEq, exists_eq_left', go_sem, hlt, hget, hpu, hinc, Int.reduceLE, ↓reduceIte, reduceCtorEq, Nat.reduceEqDiff, Nat.reduceLeDiff, Nat.reduceAdd, Nat.reduceMul, Nat.reduceSub, Nat.reduceLT, c, c2, hmin]; repeat' (first | exact Ok.out | with_reducible refine And.intro ?_ ?_ | (simp; done)))
 | (cases h; replace h := hr; clear hr; (try simp only [bs, ↓reduceIte] at h))
 | (cases h; done))
    refine SemL.re _ _ 1 0 (by rw [hB]; exact Nat.le_of_ble_eq_true rfl) (by rw [hB]; exact Nat.le_of_ble_eq_true rfl) ?_ ?_ (SemL.ind (ι := List Pc × Nat × Nat) (fun i => p.procs.drop i.2.1 = i.1 ∧ i.2.2 + procsL i.1 = R) (fun i => i.1.length)
      (fun i => [(1, .ptr 0 0), (3, .int .i64 (i.2.2 : Nat)), (23, .slice .shared 5 (p.procs.map encPc)), (24, .int .i64 (p.procs.length : Int)), (25, .int .i64 (i.2.1 : Int))]) (fun i => ⟨[encPg p], []⟩) ?_ (p.procs, 0, min p.globals.length 1) ⟨rfl, hw⟩)
    · (simp only [go_sem, hlt, hget, hpu, hinc, Int.reduceLE, ↓reduceIte, reduceCtorEq, Nat.reduceEqDiff, Nat.reduceLeDiff, Nat.reduceAdd, Nat.reduceMul, Nat.reduceSub, Nat.reduceLT]; repeat' (first | exact Ok.out | with_reducible refine And.intro ?_ ?_))
    · (simp only [go_sem, hlt, hget, hpu, hinc, Int.reduceLE, ↓reduceIte, reduceCtorEq, Nat.reduceEqDiff, Nat.reduceLeDiff, Nat.reduceAdd, Nat.reduceMul, Nat.reduceSub, Nat.reduceLT]; repeat' (first | exact Ok.out | with_reducible refine And.intro ?_ ?_))
    rintro ⟨rest, k, n⟩ ⟨g1, hp⟩ IH
    dsimp only at g1 hp
    cases rest with
    | nil =>
      have hlt := drop_nil g1
      simp only [procsL, Nat.add_zero] at hp
      subst hp
      repeat' (first
 | simp only [go_sem, hlt, hget, hpu, hinc, Int.reduceLE, ↓reduceIte, reduceCtorEq, Nat.reduceEqDiff, Nat.reduceLeDiff, Nat.reduceAdd, Nat.reduceMul, Nat.reduceSub, Nat.reduceLT]
 | (with_reducible refine CU (h1 _) ?_)
 | (with_reducible first | refine CB_ofT (by assumption) fun hc => ?_ | refine CB_ofF (by assumption) fun hc => ?_ | refine CB_split (fun hc => ?_) fun hc => ?_) <;> (try simp only [hc, bs, ↓reduceIte] at h) <;> (try simp only [hc])
 | ((with_reducible first | refine leafR hQ ?_ | refine leafN hQ ?_); (try cases h); simp only [resL, oneD, Option.some.injEq, exists_eq_left', go_sem, hlt, hget, hpu, hinc, Int.reduceLE, ↓reduceIte, reduceCtorEq, Nat.reduceEqDiff, Nat.reduceLeDiff, Nat.reduceAdd, Nat.reduceMul, Nat.reduceSub, Nat.reduceLT]; repeat' (first | exact Ok.out | with_reducible refine And.intro ?_ ?_ | (simp; done)))
 | (cases h; replace h := hr; clear hr; (try simp only [bs, ↓reduceIte] at h))
 | (cases h; done))
      refine SemL.re _ _ 1 0 (by rw [hB]; exact Nat.le_of_ble_eq_true rfl) (by rw [hB]; exact Nat.le_of_ble_eq_true rfl) ?_ ?_ (printLines_loop (p := p) hlen hR hends hB hQ (T, 0, 0, false, false) ⟨rfl, ⟨n, hscan, by simp⟩, Nat.zero_le _, fun _ => rfl, fun c0 h => by simp at h⟩)
      · (simp only [go_sem, hlt, hget, hpu, hinc, Int.reduceLE, ↓reduceIte, reduceCtorEq, Nat.reduceEqDiff, Nat.reduceLeDiff, Nat.reduceAdd, Nat.reduceMul, Nat.reduceSub, Nat.reduceLT]; repeat' (first | exact Ok.out | with_reducible refine And.intro ?_ ?_))
      · (simp only [go_sem, hlt, hget, hpu, hinc, Int.reduceLE, ↓reduceIte, reduceCtorEq, Nat.reduceEqDiff, Nat.reduceLeDiff, Nat.reduceAdd, Nat.reduceMul, Nat.reduceSub, Nat.reduceLT]; repeat' (first | exact Ok.out | with_reducible refine And.intro ?_ ?_))
    | cons f rest =>
      obtain ⟨hget, g2, hlt, g5⟩ := drop_cons g1
      have hmem := List.mem_of_getElem? hget
      have hsz := Pc.sizes_mem hmem
      have hfz : Sm.sizes f.body + 1 ≤ f.size := by unfold Pc.size; omega
      have el := fun s => lines_s _ f.body (Nat.le_refl _) (by omega) s
      simp only [procsL, procL] at hp
      have hbl := linesNs_le f.body
      generalize linesNs f.body = A at *
      have w3 : IntKind.wrap .i64 ((k : Int) + 1) = ((k + 1 : Nat) : Int) := by rw [wrap_ok] <;> omega
      have w4 : IntKind.wrap .i64 (2 + ((min f.vars.length 1 : Nat) : Int)) = ((2 + min f.vars.length 1 : Nat) : Int) := by rw [wrap_ok] <;> omega
      have w5 : IntKind.wrap .i64 (((2 + min f.vars.length 1 : Nat) : Int) + (A : Int)) = ((2 + min f.vars.length 1 + A : Nat) : Int) := by rw [wrap_ok] <;> omega
      have w6 : IntKind.wrap .i64 ((n : Int) + ((2 + min f.vars.length 1 + A : Nat) : Int)) = ((n + (2 + min f.vars.length 1 + A) : Nat) : Int) := by rw [wrap_ok] <;> omega
      repeat' (first
 | simp only [go_sem, hlt, hget, hpu, hinc, Int.reduceLE, ↓reduceIte, reduceCtorEq, Nat.reduceEqDiff, Nat.reduceLeDiff, Nat.reduceAdd, Nat.reduceMul, Nat.reduceSub, Nat.reduceLT, hmin, w3, w4, w5, w6]
 | (with_reducible refine CU (el _) ?_)
 | (with_reducible first | refine CB_ofT (by assumption) fun hc => ?_ | refine CB_ofF (by assumption) fun hc => ?_ | refine CB_split (fun hc => ?_) fun hc => ?_) <;> (try simp only [hc, bs, ↓reduceIte] at h) <;> (try simp only [hc])
 | ((with_reducible first | refine leafR hQ ?_ | refine leafN hQ ?_); (try cases h); simp only [resL, oneD, Option.some.injEq, exists_eq_left', go_sem, hlt, hget, hpu, hinc, Int.reduceLE, ↓reduceIte, reduceCtorEq, Nat.reduceEqDiff, Nat.reduceLeDiff, Nat.reduceAdd, Nat.reduceMul, Nat.reduceSub, Nat.reduceLT, hmin, w3, w4, w5, w6]; repeat' (first | exact Ok.out | with_reducible refine And.intro ?_ ?_ | (simp; done)))
 | (cases h; replace h := hr; clear hr; (try simp only [bs, ↓reduceIte] at h))
 | (cases h; done))
      refine SemL.re _ _ 1 0 (by rw [hB]; exact Nat.le_of_ble_eq_true rfl) (by rw [hB]; exact Nat.le_of_ble_eq_true rfl) ?_ ?_ (IH (rest, k + 1, n + (2 + min f.vars.length 1 + A)) ⟨g2, by dsimp only; omega⟩ (Nat.lt_succ_self _))
      · (simp only [go_sem, hlt, hget, hpu, hinc, Int.reduceLE, ↓reduceIte, reduceCtorEq, Nat.reduceEqDiff, Nat.reduceLeDiff, Nat.reduceAdd, Nat.reduceMul, Nat.reduceSub, Nat.reduceLT]; repeat' (first | exact Ok.out | with_reducible refine And.intro ?_ ?_))
      · (simp only [go_sem, hlt, hget, hpu, hinc, Int.reduceLE, ↓reduceIte, reduceCtorEq, Nat.reduceEqDiff, Nat.reduceLeDiff, Nat.reduceAdd, Nat.reduceMul, Nat.reduceSub, Nat.reduceLT]; repeat' (first | exact Ok.out | with_reducible refine And.intro ?_ ?_))

end Go.Abs

/-! Glue2 -/

namespace Go.Abs

def M0 : Map := ⟨fun _ _ => none, fun _ => (0, none), fun _ => none⟩

/-- Of what was there nothing turns. -/
def Kept (w w' : World) : Prop := w.keptBut w' (fun _ => False) ∧ ∀ a : Addr, a.block < w.heap.size → w'.frozen? a = w.frozen? a

theorem Kept.frame {w w' : World} (h : Kept w w') (may : MemPlace → Prop) : w.keptBut w' may := World.keptBut_mono (fun _ f => f.elim) h.1

theorem Ext.toKept {M M' : Map} {s' : St} {w w' : World} (e : Ext M S0 w M' s' w') : Kept w w' := by
  have hh : ∀ b, b < w.heap.size → w'.heap[b]? = w.heap[b]? := fun b hb =>
    e.kept b hb (fun o ho => by simp [S0] at ho) (fun t c z hl => by obtain ⟨n, hn⟩ := hl; simp [S0] at hn)
  refine ⟨⟨e.os, e.output, fun i hi => ?_⟩, fun a ha => ?_⟩
  · rw [hh i hi]
    exact (World.keptBut_refl w (fun _ => False)).2.2 i hi
  · simp only [World.frozen?, hh _ ha]

theorem rel0 (G : Nat → Nat → Option Value) (w : World) (h : ∀ b o v, G b o = some v → w.cell? ⟨b, o, none⟩ = some v ∧ v.oneCell' = true) : Rel ⟨G, fun _ => (0, none), fun _ => none⟩ S0 w :=
  ⟨h, fun o ds e => by simp [S0] at e, fun o ho => by simp [S0] at ho, fun o o' ho => by simp [S0] at ho, fun t n e => by simp [S0] at e,
    fun t b c z o hl => by obtain ⟨n, hn⟩ := hl; simp [S0] at hn, fun t t' b c z c' z' hl => by obtain ⟨n, hn⟩ := hl; simp [S0] at hn⟩

/-- The listed variables hold what they hold, in a world. -/
def LaidW (w : World) : Prop := ∀ g cs, tabs g = some cs → ∃ T fr, w.heap[g]? = some (.cells cs T fr)
theorem laid0 (G : Nat → Nat → Option Value) {w : World} (h : LaidW w) : Laid ⟨G, fun _ => (0, none), fun _ => none⟩ S0 w :=
  fun g cs hg => ⟨h g cs hg, fun o ho => by simp [S0] at ho, fun t c z hl => by obtain ⟨n, hn⟩ := hl; simp [S0] at hn⟩

/-- A law is called. -/
theorem law_calls {P : Program} {f : FuncId} {args : List D} {vargs : Array Value} {w : World} {G : Nat → Nat → Option Value} (h : ACalls P f args S0 fun d _ => d = .bool true)
    (hG : ∀ b o v, G b o = some v → w.cell? ⟨b, o, none⟩ = some v ∧ v.oneCell' = true) (hl : vargs.size = args.length)
    (ha : ∀ (i : Nat) (d : D) (v : Value), args[i]? = some d → vargs[i]? = some v → RD ⟨G, fun _ => (0, none), fun _ => none⟩ S0 d v) (hlaid : LaidW w) :
    Calls P f vargs w fun e w' => e = .returned (.bool true) ∧ Kept w w' := by
  refine (h _ w vargs (rel0 G w hG) (laid0 G hlaid) hl ha).mono fun e w' hw => ?_
  obtain ⟨M', d, v, s', rfl, rfl, he, _, hv⟩ := hw
  rw [hv.bool_inv]
  exact ⟨rfl, he.toKept⟩

section
variable {P : Program} {H : Type} {enc : TypeId × Value → H}

/-- The row's closing condition, where nothing turns of what was there. -/
theorem post_of_kept {f : Func} {s : ChangeSpec} {apart fresh handsOn again : Bool} {W W' : World} {args : Array Value} {v : Value} {ds gs : List (DataW H)} {before pa pv : List MemPlace}
    (hW : DataW.Whole enc P f.params.toList s.vars apart W args.toList ds gs before)
    (hres : ∀ (b : Nat) (sp : Nat → Bool) (hd : Bool), DataW.TrodAll enc P W' b sp hd f.resultTypes.toList (v.resultList f.resultTypes.size) (s.fn H (ds ++ gs)).results [])
    (hargs : ∀ sp : Nat → Bool, (∀ p ∈ before, sp p.block = true) → DataW.TrodAll enc P W' 0 sp true f.params.toList args.toList (s.fn H (ds ++ gs)).args pa)
    (hvars : ∀ sp : Nat → Bool, (∀ p ∈ before, sp p.block = true) → DataW.TrodVars enc P W' sp s.vars (s.fn H (ds ++ gs)).vars pv)
    (hps : before = pa ++ pv) (hk : Kept W W')
    (hok : ∀ (j : Nat) (t : TypeId) (r : Value), f.resultTypes[j]? = some t → (v.resultList f.resultTypes.size)[j]? = some r → Value.okWide P W' .any 0 t r) :
    s.post enc P f apart fresh handsOn again W args v W' := by
  have hlt : ∀ p ∈ before, p.block < W.heap.size := fun p hp => hW.lt p hp
  have hold : ∀ p ∈ before, (fun b => decide (b < W.heap.size)) p.block = true := fun p hp => by simpa using hlt p hp
  refine ⟨ds, gs, before, [], pa, pv, hW, hres _ _ _, hargs _ hold, hvars _ hold, World.keptBut_mono (fun p hp => ⟨hp, ?_⟩) (hk.frame (· ∈ before)), fun _ => ?_⟩
  · rw [hps, List.mem_append] at hp
    exact Or.inr hp
  · obtain ⟨_, _, _, _, _, hz, hn⟩ := hW
    refine ⟨hok, _, _, ([] ++ pa) ++ pv, ⟨[] ++ pa, pv, ChangeShapes.trodAll_append (hargs _ (fun _ _ => rfl)) (hres _ _ _), hvars _ (fun _ _ => rfl), rfl, ?_, ?_⟩, ?_⟩
    · intro b off hp
      have hp' : MemPlace.cell b off ∈ before := by rw [hps]; simpa using hp
      rw [hk.2 _ (hlt _ hp')]
      exact hz b off hp'
    · intro ha
      have := hn ha
      rw [hps] at this
      simpa using this
    · intro p hp _
      rw [hps]
      simpa using hp
end
end Go.Abs

/-! Join -/

namespace Go.Abs
open Go.RowKit Go.ChangeShapes Go.WideShapes

/-- All that can be read. -/
def memG (w : World) (b o : Nat) : Option Value :=
  match w.cell? ⟨b, o, none⟩ with
  | some v => if v.oneCell' = true then some v else none
  | none => none
theorem memG_ok {w : World} (b o : Nat) (v : Value) (h : memG w b o = some v) : w.cell? ⟨b, o, none⟩ = some v ∧ v.oneCell' = true := by
  unfold memG at h
  split at h
  · split at h
    · cases h; exact ⟨‹_›, ‹_›⟩
    · cases h
  · cases h
/-- All of it is fixed. -/
def memM (w : World) : Map := ⟨memG w, fun _ => (0, none), fun _ => none⟩

theorem Kept.sameAt {w w' : World} (h : Kept w w') {p : MemPlace} (hp : p.block < w.heap.size) : w.sameAt w' p := by
  have hk := h.1.2.2 p.block hp
  cases p with
  | cell b off =>
    simp only [MemPlace.block] at hk hp
    simp only [World.sameAt, World.cell?]
    split at hk
    · rename_i c t fr c' t' fr' e e'
      rw [e, e']
      simp only [hk.2.2.2 off (fun f => f)]
    · rename_i es clock es' clock' e e'
      rw [e, e']
    · rw [hk]
  | map b =>
    simp only [MemPlace.block] at hk hp
    simp only [World.sameAt]
    split at hk
    · rename_i c t fr c' t' fr' e e'
      rw [e, e']
      obtain ⟨rfl, rfl, hs, hc⟩ := hk
      have : c' = c := by
        apply Array.ext_getElem?
        intro i
        exact hc i (fun f => f)
      rw [this]
    · rename_i es clock es' clock' e e'
      rcases hk with f | ⟨rfl, rfl⟩
      · exact f.elim
      · rw [e, e']
    · exact hk

section
variable {P : Program} {H : Type} {enc : TypeId × Value → H} {T : TypeId → Prop}

theorem args_again (K : Kids P T) (hz : ∀ {t e : TypeId}, T t → P.underlying t = some (.slice e) → 0 < P.cellsOf e) {W W' : World} (hk : Kept W W') {sp : Nat → Bool} :
    ∀ {ts : List TypeId} {vs : List Value} {ds : List (DataW H)} {ps : List MemPlace}, (∀ t ∈ ts, T t) → (∀ p ∈ ps, p.block < W.heap.size) → (∀ p ∈ ps, sp p.block = true) →
      DataW.TrodAll enc P W 0 (fun _ => true) true ts vs ds ps → DataW.TrodAll enc P W' 0 sp true ts vs ds ps
  | [], [], [], _, _, _, _, h => h
  | t :: ts, v :: vs, d :: ds, ps, hT, hlt, hs, ⟨p, q, ⟨n, h1⟩, h2, e⟩ => by
    subst e
    refine ⟨p, q, ⟨n, DataW.trod_stays K hz (fun f => by cases f) (hT t (List.mem_cons_self ..)) h1 (fun x hx => hk.sameAt (hlt x (List.mem_append_left _ hx))) (fun x hx => hs x (List.mem_append_left _ hx))⟩, ?_, rfl⟩
    exact args_again K hz hk (fun t ht => hT t (List.mem_cons_of_mem _ ht)) (fun x hx => hlt x (List.mem_append_right _ hx)) (fun x hx => hs x (List.mem_append_right _ hx)) h2
  | [], [], _ :: _, _, _, _, _, h => h.elim
  | [], _ :: _, _, _, _, _, _, h => h.elim
  | _ :: _, [], _, _, _, _, _, h => h.elim
  | _ :: _, _ :: _, [], _, _, _, _, h => h.elim

/-- The row's closing condition. -/
theorem law_post (K : Kids P T) (hz : ∀ {t e : TypeId}, T t → P.underlying t = some (.slice e) → 0 < P.cellsOf e) {f : Func} {s : ChangeSpec} {apart fresh handsOn again : Bool} {tb : TypeId} {W W' : World} {args : Array Value} {ds gs : List (DataW H)} {before : List MemPlace}
    (hT : ∀ t ∈ f.params.toList, T t) (hb : P.underlying tb = some .bool) (hr : f.resultTypes = #[tb]) (hvars : s.vars = []) (hW : DataW.Whole enc P f.params.toList s.vars apart W args.toList ds gs before)
    (hfn : s.fn H (ds ++ gs) = { results := [.lit (.bool true)], args := ds }) (hk : Kept W W') : s.post enc P f apart fresh handsOn again W args (.bool true) W' := by
  have hW' := hW
  have hlt : ∀ p ∈ before, p.block < W.heap.size := fun p hp => hW.lt p hp
  obtain ⟨p, q, hA, hV, rfl, hfz, hnd⟩ := hW
  rw [hvars] at hV
  obtain ⟨rfl, rfl⟩ := trodVars_none hV
  simp only [List.append_nil] at hlt hfn
  refine post_of_kept (pa := p) (pv := []) hW' (fun b sp hd => ?_) (fun sp hsp => ?_) (fun sp hsp => ?_) rfl hk (ok_one hr rfl (okWide_bool_mk hb _))
  · rw [List.append_nil, hfn, hr]
    exact trodAll_cons_mk (shut_bool hb _) trodAll_mk0
  · rw [List.append_nil, hfn]
    simp only [List.append_nil] at hsp
    exact args_again K hz hk hT hlt hsp hA
  · rw [List.append_nil, hfn, hvars]
    rfl

/-- A law is called with arguments that can be read. -/
theorem law_run {f : FuncId} {args : List D} {vargs : Array Value} {w : World} (h : ACalls P f args S0 fun d _ => d = .bool true) (hl : vargs.size = args.length)
    (ha : ∀ (i : Nat) (d : D) (v : Value), args[i]? = some d → vargs[i]? = some v → RD (memM w) S0 d v) (hlaid : LaidW w) : Calls P f vargs w fun e w' => e = .returned (.bool true) ∧ Kept w w' :=
  law_calls (G := memG w) h memG_ok hl ha hlaid
end

end Go.Abs

/-! Join2 -/

namespace Go.Abs
set_option linter.unusedSimpArgs false
set_option linter.unusedVariables false
open Go.RowKit Go.ChangeShapes Go.WideShapes

end Go.Abs

/-! Join3 -/

namespace Go.Abs
set_option linter.unusedSimpArgs false
set_option linter.unusedVariables false
open Go.RowKit Go.ChangeShapes Go.WideShapes

/-- A row of cells is these. -/
def Rowed (W : World) (ds : List D) (cs : List Value) : Prop := ds.length = cs.length ∧ (∀ (i : Nat) (d : D) (v : Value), ds[i]? = some d → cs[i]? = some v → RD (memM W) S0 d v) ∧ ∀ v ∈ cs, v.oneCell' = true

theorem Rowed.one {W : World} {d : D} {v : Value} (h : RD (memM W) S0 d v) (hv : v.oneCell' = true) : Rowed W [d] [v] := by
  refine ⟨rfl, fun i d' v' h1 h2 => ?_, fun u hu => by simp at hu; subst hu; exact hv⟩
  cases i with
  | zero => simp at h1 h2; subst h1 h2; exact h
  | succ i => simp at h1
theorem Rowed.app {W : World} {ds ds' : List D} {cs cs' : List Value} (h : Rowed W ds cs) (h' : Rowed W ds' cs') : Rowed W (ds ++ ds') (cs ++ cs') := by
  obtain ⟨a1, a2, a3⟩ := h
  obtain ⟨b1, b2, b3⟩ := h'
  refine ⟨by simp [a1, b1], fun i d v h1 h2 => ?_, fun v hv => ?_⟩
  · by_cases hi : i < ds.length
    · rw [List.getElem?_append_left hi] at h1
      rw [List.getElem?_append_left (by omega)] at h2
      exact a2 i d v h1 h2
    · rw [List.getElem?_append_right (by omega)] at h1
      rw [List.getElem?_append_right (by omega), ← a1] at h2
      exact b2 _ d v h1 h2
  · rcases List.mem_append.1 hv with hv | hv
    · exact a3 v hv
    · exact b3 v hv
/-- A part, then the rest. -/
theorem Rowed.at {W : World} {ds ds' : List D} {cs : List Value} {o n : Nat} (h : Rowed W ds ((cs.drop o).take n)) (h' : Rowed W ds' (cs.drop (o + n))) : Rowed W (ds ++ ds') (cs.drop o) := by
  have e : cs.drop o = (cs.drop o).take n ++ cs.drop (o + n) := by rw [← List.drop_drop, List.take_append_drop]
  rw [e]
  exact h.app h'
theorem Rowed.end {W : World} {cs : List Value} {o : Nat} (h : cs.length = o) : Rowed W [] (cs.drop o) := by
  rw [← h, List.drop_length]
  exact ⟨rfl, fun i d v h => by simp at h, fun v hv => by cases hv⟩

section
variable {H : Type} {enc : TypeId × Value → H} {P : Program} {W : World} {sp : Nat → Bool}

def structOf (P : Program) (t : TypeId) : List (TypeId × Nat) :=
  match P.underlying t with
  | some (.struct fs) => fs.toList.map fun f => (f.type, f.offset)
  | _ => []

theorem struct_fields {t : TypeId} {l : List (TypeId × Nat)} {fuel : Nat} {cs : List Value} {x : DataW H × List MemPlace} (h : structOf P t = l) (hne : l ≠ []) (ht : DataW.trod enc P W 0 sp true fuel t cs = some x) :
    ∃ n, fuel = n + 1 ∧ cs.length = P.cellsOf t ∧ ∀ (i : Nat) (f : TypeId × Nat), l[i]? = some f → ∃ y, DataW.trod enc P W 0 sp true n f.1 ((cs.drop f.2).take (P.cellsOf f.1)) = some y := by
  unfold structOf at h
  split at h
  · rename_i fs hu
    obtain ⟨xs, n, e, _, hl, hlen, hf⟩ := DataW.trod_struct hu ht
    refine ⟨n, e, hl, fun i f hi => ?_⟩
    subst h
    rw [List.getElem?_map, Option.map_eq_some_iff] at hi
    obtain ⟨g, hg, rfl⟩ := hi
    have hg' : fs[i]? = some g := by simpa using hg
    have hi : i < xs.length := by rw [hlen]; exact (Array.getElem?_eq_some_iff.1 hg').1
    exact ⟨xs[i], by rw [hf i g hg', List.getElem?_eq_getElem hi]⟩
  · exact absurd h.symm hne

theorem structOf_some {t : TypeId} {l : List (TypeId × Nat)} (h : structOf P t = l) (hne : l ≠ []) : ∃ fs, P.underlying t = some (.struct fs) := by
  unfold structOf at h
  split at h
  · exact ⟨_, ‹_›⟩
  · exact absurd h.symm hne

theorem choose_list {α : Type} {Q : Nat → α → Prop} : ∀ n, (∀ i, i < n → ∃ y, Q i y) → ∃ ys : List α, ys.length = n ∧ ∀ i y, ys[i]? = some y → Q i y
  | 0, _ => ⟨[], rfl, fun i y h => by simp at h⟩
  | n + 1, h => by
    obtain ⟨ys, h1, h2⟩ := choose_list n fun i hi => h i (by omega)
    obtain ⟨y, hy⟩ := h n (by omega)
    refine ⟨ys ++ [y], by simp [h1], fun i z hz => ?_⟩
    by_cases hi : i < ys.length
    · rw [List.getElem?_append_left hi] at hz; exact h2 i z hz
    · rw [List.getElem?_append_right (by omega)] at hz
      have : i - ys.length = 0 := by
        rcases Nat.eq_zero_or_pos (i - ys.length) with h | h
        · exact h
        · rw [List.getElem?_eq_none (by simp only [List.length_cons, List.length_nil]; omega)] at hz; cases hz
      rw [this] at hz
      simp at hz
      subst hz
      have : i = n := by omega
      subst this
      exact hy

/-- A list of things that can be read. -/
theorem rd_slice {α : Type} (en : α → List D) (good : α → Prop) {z : Nat} {t e : TypeId} {fuel : Nat} {cs : List Value} {x : DataW H × List MemPlace} (ht : P.underlying t = some (.slice e)) (hz : P.cellsOf e = z) (hz0 : 0 < z) (hen : ∀ y, (en y).length = z)
    (hel : ∀ n < fuel, ∀ cs x, DataW.trod enc P W 0 sp true n e cs = some x → ∃ y, Rowed W (en y) cs ∧ good y) (h : DataW.trod enc P W 0 sp true fuel t cs = some x) :
    ∃ ys : List α, Rowed W [.slice .shared z (ys.map en)] cs ∧ ∀ y ∈ ys, good y := by
  rcases DataW.trod_slice ht h with ⟨rfl, _⟩ | ⟨a, len, cap, elems, rest, n, hn, rfl, _, hb, hl, hm, hlen, hcell, _, _⟩
  · exact ⟨[], Rowed.one (.snil _ _ _ rfl trivial) rfl, fun y hy => by cases hy⟩
  · by_cases h0 : len = 0
    · subst h0
      exact ⟨[], Rowed.one (.semp _ _ _) rfl, fun y hy => by cases hy⟩
    · obtain ⟨ys, hys, hall⟩ := choose_list (Q := fun i y => good y ∧ ∃ cs', W.cells? 0 (a.add (i * z)) z = some cs' ∧ Rowed W (en y) cs') len fun i hi => by
        have hc := hcell i hi
        rw [List.getElem?_eq_getElem (by omega), hz, Option.bind_eq_some_iff] at hc
        obtain ⟨cs', h1, h2⟩ := hc
        obtain ⟨y, h3, h4⟩ := hel n (by omega) _ _ h2
        exact ⟨y, h4, cs', h1, h3⟩
      have cell : ∀ i y, ys[i]? = some y → ∀ (j : Nat) d, (en y)[j]? = some d → ∃ v, W.cell? ((a.add (i * z)).add j) = some v ∧ RD (memM W) S0 d v ∧ v.oneCell' = true := by
        intro i y hy j d hd
        obtain ⟨_, cs', h1, h2, h3, h4⟩ := hall i y hy
        obtain ⟨_, k1, k2⟩ := World.cells?_some h1
        have hj : j < z := by rw [← hen y]; exact (List.getElem?_eq_some_iff.1 hd).1
        have hv : cs'[j]? = some cs'[j] := List.getElem?_eq_getElem (by omega)
        exact ⟨cs'[j], by rw [k2 j hj, hv], h3 j d _ hd hv, h4 _ (List.getElem_mem _)⟩
      obtain ⟨b, off, spot⟩ := a
      have hspot : spot = none := by
        have hy : ys[0]? = some (ys[0]'(by omega)) := List.getElem?_eq_getElem (by omega)
        obtain ⟨d, hd⟩ : ∃ d, (en (ys[0]'(by omega)))[0]? = some d := ⟨_, List.getElem?_eq_getElem (show 0 < (en (ys[0]'(by omega))).length by rw [hen]; exact hz0)⟩
        obtain ⟨v, hv, _⟩ := cell 0 _ hy 0 _ hd
        have := World.cell?_spot hv
        simpa [Addr.add] using this
      subst hspot
      have e : (ys.map en).length = len := by simp [hys]
      have := RD.slice (M := memM W) (s := S0) .shared z (ys.map en) b off cap (by omega) (fun row hr => by obtain ⟨y, _, rfl⟩ := List.mem_map.1 hr; exact hen y)
        (fun i row j d h1 h2 => by
          rw [List.getElem?_map, Option.map_eq_some_iff] at h1
          obtain ⟨y, h1, rfl⟩ := h1
          obtain ⟨v, hv, _, h4⟩ := cell i y h1 j d h2
          rw [add_plain, add_plain] at hv
          refine ⟨v, ?_⟩
          show memG W b (off + (i * z + j)) = _
          unfold memG
          rw [show off + (i * z + j) = off + i * z + j by omega, hv]
          simp [h4])
        (fun i row j d u h1 h2 hu => by
          rw [List.getElem?_map, Option.map_eq_some_iff] at h1
          obtain ⟨y, h1, rfl⟩ := h1
          obtain ⟨v, hv, h3, h4⟩ := cell i y h1 j d h2
          rw [add_plain, add_plain] at hv
          obtain ⟨hu, _⟩ := memG_ok _ _ _ hu
          rw [show off + (i * z + j) = off + i * z + j by omega, hv] at hu
          cases hu
          exact h3) trivial
      rw [e] at this
      refine ⟨ys, Rowed.one this rfl, fun y hy => ?_⟩
      obtain ⟨i, hi⟩ := List.getElem?_of_mem hy
      exact (hall i y hi).1

theorem rd_i64 {t : TypeId} {fuel : Nat} {cs : List Value} {x : DataW H × List MemPlace} (ht : P.underlying t = some (.int .i64)) (h : DataW.trod enc P W 0 sp true fuel t cs = some x) : ∃ n : Int, Rowed W [.int .i64 n] cs ∧ n ≤ 9223372036854775807 ∧ -9223372036854775808 ≤ n := by
  obtain ⟨n, rfl, _, hw⟩ := DataW.trod_int ht h
  simp [Lit.wf, IntKind.min, IntKind.max, IntKind.signed, IntKind.bits] at hw
  exact ⟨n, Rowed.one (.int _ _) rfl, by omega, by omega⟩
theorem rd_bool {t : TypeId} {fuel : Nat} {cs : List Value} {x : DataW H × List MemPlace} (ht : P.underlying t = some .bool) (h : DataW.trod enc P W 0 sp true fuel t cs = some x) : ∃ b : Bool, Rowed W [.bool b] cs := by
  obtain ⟨n, rfl, _⟩ := DataW.trod_bool ht h
  exact ⟨n, Rowed.one (.bool _) rfl⟩
theorem rd_str {t : TypeId} {fuel : Nat} {cs : List Value} {x : DataW H × List MemPlace} (ht : P.underlying t = some .string) (h : DataW.trod enc P W 0 sp true fuel t cs = some x) : ∃ s : Str, Rowed W (encStr s) cs ∧ s.length ≤ maxLen := by
  obtain ⟨s, rfl, _, hm⟩ := DataW.trod_string ht h
  obtain ⟨⟨l⟩⟩ := s
  exact ⟨l, Rowed.one (.str l) rfl, hm⟩

/-- Expressions. -/
theorem rd_ex {tE tI tN tS tK : TypeId} (hE : structOf P tE = [(tI, 0), (tN, 1), (tS, 2), (tK, 3)]) (hEc : P.cellsOf tE = 4) (hI : P.underlying tI = some (.int .i64)) (hN : P.underlying tN = some (.int .i64)) (hS : P.underlying tS = some .string) (hK : P.underlying tK = some (.slice tE))
    (cI : P.cellsOf tI = 1) (cN : P.cellsOf tN = 1) (cS : P.cellsOf tS = 1) (cK : P.cellsOf tK = 1) :
    ∀ (fuel : Nat) (cs : List Value) (x : DataW H × List MemPlace), DataW.trod enc P W 0 sp true fuel tE cs = some x → ∃ y : Ex, Rowed W (encEx y) cs ∧ y.rng := by
  intro fuel
  induction fuel using Nat.strongRecOn with
  | _ fuel ih =>
    intro cs x h
    obtain ⟨n, rfl, hl, hf⟩ := struct_fields hE (by simp) h
    obtain ⟨y0, h0⟩ := hf 0 _ rfl
    obtain ⟨y1, h1⟩ := hf 1 _ rfl
    obtain ⟨y2, h2⟩ := hf 2 _ rfl
    obtain ⟨y3, h3⟩ := hf 3 _ rfl
    dsimp only at h0 h1 h2 h3
    rw [cI] at h0
    rw [cN] at h1
    rw [cS] at h2
    rw [cK] at h3
    obtain ⟨op, r0, _⟩ := rd_i64 hI h0
    obtain ⟨m, r1, hm, _⟩ := rd_i64 hN h1
    obtain ⟨s, r2, _⟩ := rd_str hS h2
    obtain ⟨ks, r3, hg⟩ := rd_slice (W := W) encEx Ex.rng hK hEc (by decide) lenEx (fun k hk cs x hx => ih k (by omega) cs x hx) h3
    refine ⟨⟨op, m, s, ks⟩, ?_, hm, ?_⟩
    · have := r0.at (r1.at (r2.at (r3.at (Rowed.end (by rw [hl, hEc])))))
      rw [encEx_eq]
      simpa [encStr] using this
    · clear r3
      induction ks with
      | nil => exact trivial
      | cons k ks ihk => exact ⟨hg k (by simp), ihk fun y hy => hg y (by simp [hy])⟩

/-- Of a whole argument. -/
theorem Rowed.agg {ds : List D} {v : Value} (h : Rowed W ds v.cells.toList) (hv : ∃ vs, v = .agg vs) : RD (memM W) S0 (.agg ds) v := by
  obtain ⟨vs, rfl⟩ := hv
  obtain ⟨h1, h2, h3⟩ := h
  have e : (Value.agg vs).cells = vs := rfl
  rw [e] at h1 h2 h3
  refine .agg ds vs (by simpa using h1) (fun v hv => h3 v (by simpa using hv)) fun i d v hd hv => h2 i d v hd (by simpa using hv)
end

end Go.Abs

/-! Join4 -/

namespace Go.Abs
set_option linter.unusedSimpArgs false
set_option linter.unusedVariables false
open Go.Proofs Go.RowKit Go.ChangeShapes Go.WideShapes

section
variable {H : Type} {enc : TypeId × Value → H} {W : World} {sp : Nat → Bool}

theorem rdp_ex (fuel : Nat) (cs : List Value) (x : DataW H × List MemPlace) (h : DataW.trod enc Tryd.prog W 0 sp true fuel 31 cs = some x) : ∃ y : Ex, Rowed W (encEx y) cs ∧ y.rng :=
  rd_ex (tE := 31) (tI := 3) (tN := 2) (tS := 9) (tK := 29) (by kernel_rfl) (by kernel_rfl) (by kernel_rfl) (by kernel_rfl) (by kernel_rfl) (by kernel_rfl) (by kernel_rfl) (by kernel_rfl) (by kernel_rfl) (by kernel_rfl) _ _ _ h
theorem ut_strs : Tryd.prog.underlying 22 = some (.slice 9) := by kernel_rfl
theorem ut_str : Tryd.prog.underlying 9 = some .string := by kernel_rfl
theorem ut_int : Tryd.prog.underlying 3 = some (.int .i64) := by kernel_rfl
theorem ut_bool : Tryd.prog.underlying 4 = some .bool := by kernel_rfl
theorem ct_str : Tryd.prog.cellsOf 9 = 1 := by kernel_rfl
theorem ct_int : Tryd.prog.cellsOf 3 = 1 := by kernel_rfl
theorem ct_bool : Tryd.prog.cellsOf 4 = 1 := by kernel_rfl
theorem ct_strs : Tryd.prog.cellsOf 22 = 1 := by kernel_rfl
theorem ct_ex : Tryd.prog.cellsOf 31 = 4 := by kernel_rfl
theorem rdp_strs {fuel : Nat} {cs : List Value} {x : DataW H × List MemPlace} (h : DataW.trod enc Tryd.prog W 0 sp true fuel 22 cs = some x) : ∃ l : List Str, Rowed W [.slice .shared 1 (l.map encStr)] cs := by
  obtain ⟨l, h, _⟩ := rd_slice (W := W) encStr (fun _ => True) ut_strs ct_str (by decide) (fun _ => rfl) (fun k hk cs x hx => by
    obtain ⟨s, hs, _⟩ := rd_str ut_str hx
    exact ⟨s, hs, trivial⟩) h
  exact ⟨l, h⟩

theorem rdp_pm {fuel : Nat} {cs : List Value} {x : DataW H × List MemPlace} (h : DataW.trod enc Tryd.prog W 0 sp true fuel 60 cs = some x) : ∃ y : Pm, Rowed W (encPm y) cs := by
  obtain ⟨n, rfl, hl, hf⟩ := struct_fields (l := [(9, 0), (4, 1)]) (by kernel_rfl) (by simp) h
  have hc : Tryd.prog.cellsOf 60 = 2 := by kernel_rfl
  obtain ⟨y0, h0⟩ := hf 0 _ rfl
  obtain ⟨y1, h1⟩ := hf 1 _ rfl
  dsimp only at h0 h1
  rw [ct_str] at h0
  rw [ct_bool] at h1
  obtain ⟨s, r0, _⟩ := rd_str ut_str h0
  obtain ⟨b, r1⟩ := rd_bool ut_bool h1
  refine ⟨⟨s, b⟩, ?_⟩
  have := r0.at (r1.at (Rowed.end (by rw [hl, hc])))
  simpa [encStr, encPm] using this

theorem rdp_ar {fuel : Nat} {cs : List Value} {x : DataW H × List MemPlace} (h : DataW.trod enc Tryd.prog W 0 sp true fuel 98 cs = some x) : ∃ y : Ar, Rowed W (encAr y) cs ∧ y.x.rng := by
  obtain ⟨n, rfl, hl, hf⟩ := struct_fields (l := [(4, 0), (9, 1), (31, 2)]) (by kernel_rfl) (by simp) h
  have hc : Tryd.prog.cellsOf 98 = 6 := by kernel_rfl
  obtain ⟨y0, h0⟩ := hf 0 _ rfl
  obtain ⟨y1, h1⟩ := hf 1 _ rfl
  obtain ⟨y2, h2⟩ := hf 2 _ rfl
  dsimp only at h0 h1 h2
  rw [ct_bool] at h0
  rw [ct_str] at h1
  rw [ct_ex] at h2
  obtain ⟨b, r0⟩ := rd_bool ut_bool h0
  obtain ⟨s, r1, _⟩ := rd_str ut_str h1
  obtain ⟨e, r2, hr⟩ := rdp_ex _ _ _ h2
  refine ⟨⟨b, s, e⟩, ?_, hr⟩
  have := r0.at (r1.at (r2.at (Rowed.end (by rw [hl, hc]))))
  rw [encEx_eq] at this
  simpa [encStr, encAr] using this

theorem rngs_all : ∀ {l : List Sm}, (∀ s ∈ l, s.rng) → Sm.rngs l
  | [], _ => trivial
  | s :: l, h => ⟨h s (List.mem_cons_self ..), rngs_all fun t m => h t (List.mem_cons_of_mem _ m)⟩

theorem rdp_sm : ∀ (fuel : Nat) (cs : List Value) (x : DataW H × List MemPlace), DataW.trod enc Tryd.prog W 0 sp true fuel 57 cs = some x → ∃ y : Sm, Rowed W (encSm y) cs ∧ y.rng := by
  intro fuel
  induction fuel using Nat.strongRecOn with
  | _ fuel ih =>
    intro cs x h
    obtain ⟨n, rfl, hl, hf⟩ := struct_fields (l := [(3, 0), (3, 1), (22, 2), (9, 3), (9, 4), (31, 5), (4, 9), (55, 10), (36, 11), (36, 12)]) (by kernel_rfl) (by simp) h
    have hc : Tryd.prog.cellsOf 57 = 13 := by kernel_rfl
    have ca : Tryd.prog.cellsOf 55 = 1 := by kernel_rfl
    have cs' : Tryd.prog.cellsOf 36 = 1 := by kernel_rfl
    have ua : Tryd.prog.underlying 55 = some (.slice 98) := by kernel_rfl
    have us : Tryd.prog.underlying 36 = some (.slice 57) := by kernel_rfl
    have ca6 : Tryd.prog.cellsOf 98 = 6 := by kernel_rfl
    obtain ⟨y0, h0⟩ := hf 0 _ rfl
    obtain ⟨y1, h1⟩ := hf 1 _ rfl
    obtain ⟨y2, h2⟩ := hf 2 _ rfl
    obtain ⟨y3, h3⟩ := hf 3 _ rfl
    obtain ⟨y4, h4⟩ := hf 4 _ rfl
    obtain ⟨y5, h5⟩ := hf 5 _ rfl
    obtain ⟨y6, h6⟩ := hf 6 _ rfl
    obtain ⟨y7, h7⟩ := hf 7 _ rfl
    obtain ⟨y8, h8⟩ := hf 8 _ rfl
    obtain ⟨y9, h9⟩ := hf 9 _ rfl
    dsimp only at h0 h1 h2 h3 h4 h5 h6 h7 h8 h9
    rw [ct_int] at h0 h1
    rw [ct_strs] at h2
    rw [ct_str] at h3 h4
    rw [ct_ex] at h5
    rw [ct_bool] at h6
    rw [ca] at h7
    rw [cs'] at h8 h9
    obtain ⟨id, r0, _⟩ := rd_i64 ut_int h0
    obtain ⟨kind, r1, _⟩ := rd_i64 ut_int h1
    obtain ⟨labels, r2⟩ := rdp_strs h2
    obtain ⟨name, r3, _⟩ := rd_str ut_str h3
    obtain ⟨proc, r4, _⟩ := rd_str ut_str h4
    obtain ⟨e, r5, hr⟩ := rdp_ex _ _ _ h5
    obtain ⟨b, r6⟩ := rd_bool ut_bool h6
    obtain ⟨args, r7, ha⟩ := rd_slice (W := W) encAr (fun a => a.x.rng) ua ca6 (by decide) (fun _ => rfl) (fun k hk cs x hx => rdp_ar hx) h7
    obtain ⟨thn, r8, ht⟩ := rd_slice (W := W) encSm Sm.rng us hc (by decide) lenSm (fun k hk cs x hx => ih k (by omega) cs x hx) h8
    obtain ⟨els, r9, he⟩ := rd_slice (W := W) encSm Sm.rng us hc (by decide) lenSm (fun k hk cs x hx => ih k (by omega) cs x hx) h9
    refine ⟨⟨id, kind, labels, name, proc, e, b, args, thn, els⟩, ?_, hr, ha, rngs_all ht, rngs_all he⟩
    have := r0.at (r1.at (r2.at (r3.at (r4.at (r5.at (r6.at (r7.at (r8.at (r9.at (Rowed.end (by rw [hl, hc])))))))))))
    rw [encEx_eq] at this
    rw [encSm_eq]
    simpa [encStr] using this

theorem rdp_pc {fuel : Nat} {cs : List Value} {x : DataW H × List MemPlace} (h : DataW.trod enc Tryd.prog W 0 sp true fuel 38 cs = some x) : ∃ y : Pc, Rowed W (encPc y) cs ∧ Sm.rngs y.body := by
  obtain ⟨n, rfl, hl, hf⟩ := struct_fields (l := [(9, 0), (35, 1), (22, 2), (36, 3), (22, 4)]) (by kernel_rfl) (by simp) h
  have hc : Tryd.prog.cellsOf 38 = 5 := by kernel_rfl
  have cp : Tryd.prog.cellsOf 35 = 1 := by kernel_rfl
  have cs' : Tryd.prog.cellsOf 36 = 1 := by kernel_rfl
  have up : Tryd.prog.underlying 35 = some (.slice 60) := by kernel_rfl
  have us : Tryd.prog.underlying 36 = some (.slice 57) := by kernel_rfl
  have cp2 : Tryd.prog.cellsOf 60 = 2 := by kernel_rfl
  have cs13 : Tryd.prog.cellsOf 57 = 13 := by kernel_rfl
  obtain ⟨y0, h0⟩ := hf 0 _ rfl
  obtain ⟨y1, h1⟩ := hf 1 _ rfl
  obtain ⟨y2, h2⟩ := hf 2 _ rfl
  obtain ⟨y3, h3⟩ := hf 3 _ rfl
  obtain ⟨y4, h4⟩ := hf 4 _ rfl
  dsimp only at h0 h1 h2 h3 h4
  rw [ct_str] at h0
  rw [cp] at h1
  rw [ct_strs] at h2 h4
  rw [cs'] at h3
  obtain ⟨name, r0, _⟩ := rd_str ut_str h0
  obtain ⟨ps, r1, _⟩ := rd_slice (W := W) encPm (fun _ => True) up cp2 (by decide) (fun _ => rfl) (fun k hk cs x hx => by
    obtain ⟨y, hy⟩ := rdp_pm hx
    exact ⟨y, hy, trivial⟩) h1
  obtain ⟨vars, r2⟩ := rdp_strs h2
  obtain ⟨body, r3, hb⟩ := rd_slice (W := W) encSm Sm.rng us cs13 (by decide) lenSm (fun k hk cs x hx => rdp_sm k cs x hx) h3
  obtain ⟨fin, r4⟩ := rdp_strs h4
  refine ⟨⟨name, ps, vars, body, fin⟩, ?_, rngs_all hb⟩
  have := r0.at (r1.at (r2.at (r3.at (r4.at (Rowed.end (by rw [hl, hc]))))))
  simpa [encStr, encPc] using this

theorem rdp_pg {fuel : Nat} {cs : List Value} {x : DataW H × List MemPlace} (h : DataW.trod enc Tryd.prog W 0 sp true fuel 25 cs = some x) : ∃ y : Pg, Rowed W (encPg y) cs ∧ y.rng := by
  obtain ⟨n, rfl, hl, hf⟩ := struct_fields (l := [(22, 0), (23, 1)]) (by kernel_rfl) (by simp) h
  have hc : Tryd.prog.cellsOf 25 = 2 := by kernel_rfl
  have cp : Tryd.prog.cellsOf 23 = 1 := by kernel_rfl
  have up : Tryd.prog.underlying 23 = some (.slice 38) := by kernel_rfl
  have cp5 : Tryd.prog.cellsOf 38 = 5 := by kernel_rfl
  obtain ⟨y0, h0⟩ := hf 0 _ rfl
  obtain ⟨y1, h1⟩ := hf 1 _ rfl
  dsimp only at h0 h1
  rw [ct_strs] at h0
  rw [cp] at h1
  obtain ⟨globals, r0⟩ := rdp_strs h0
  obtain ⟨procs, r1, hp⟩ := rd_slice (W := W) encPc (fun f => Sm.rngs f.body) up cp5 (by decide) (fun _ => rfl) (fun k hk cs x hx => rdp_pc hx) h1
  refine ⟨⟨globals, procs⟩, ?_, hp⟩
  have := r0.at (r1.at (Rowed.end (by rw [hl, hc])))
  simpa [encPg] using this
end

end Go.Abs

/-! Laid5 -/

namespace Go.Proofs.YtcknbmdkefcinaaDoor
open Go.ChangeShapes Go.WideShapes Go.ChangeAt Go.RowKit Go.Abs
set_option linter.unusedVariables false

theorem own : ownKnob Tryd.prog.godebug = none := by kernel_rfl
theorem kids : Kids Tryd.prog (· < Tryd.prog.types.size) := kids_rows (by kernel_rfl) (by kernel_rfl)
theorem full : ∀ {t e : TypeId}, t < Tryd.prog.types.size → Tryd.prog.underlying t = some (.slice e) → 0 < Tryd.prog.cellsOf e := fun {t e} => slices_full_of Tryd.prog (by kernel_rfl) t e

/-- The variables that the rows list. -/
def laid3 : List (String × DataW Unit) := [("math/bits.deBruijn32tab", Rows.laid_math_bits_deBruijn32tab), ("math/bits.deBruijn64tab", Rows.laid_math_bits_deBruijn64tab), ("internal/strconv.uint64pow10", Rows.laid_internal_strconv_uint64pow10)]

theorem laid_pow : (Rows.laid_internal_strconv_uint64pow10 : DataW Unit) = Lib.tabData .u64 Lib.pow10Tab := by kernel_rfl

theorem laidW_of {W : World} (h : laidMetH Tryd.prog laid3 W) : LaidW W := by
  have h1 : laidMet Tryd.prog [("internal/strconv.uint64pow10", Lib.tabData .u64 Lib.pow10Tab)] W := by
    have := (laidMetH_iff.1 h).1.filter fun x => x.1 == "internal/strconv.uint64pow10"
    rw [← laid_pow]
    exact this
  have ht : Lib.TabIs Tryd.prog W "internal/strconv.uint64pow10" .u64 Lib.pow10Tab :=
    Lib.tabIs_of_head (g := gPow) (t := 159) (e := 135) (n := 20) (by kernel_rfl) (by kernel_rfl) (by kernel_rfl) (by kernel_rfl) (by kernel_rfl) (by kernel_rfl) h1
  have hg : Tryd.prog.globalNamed "internal/strconv.uint64pow10" = some gPow := by kernel_rfl
  unfold Lib.TabIs World.var? at ht
  rw [hg] at ht
  simp only [Option.bind_some] at ht
  intro g cs hcs
  unfold tabs at hcs
  split at hcs
  · rename_i hgg
    subst hgg
    cases hcs
    split at ht
    · rename_i cs' T fr e
      cases ht
      exact ⟨T, fr, e⟩
    · cases ht
  · cases hcs

/-- A table's cells. -/
def tabCells : DataW Unit → Array Value
  | .agg l => (l.map fun | .lit (.int k n) => Value.int k n | _ => .int .i64 0).toArray
  | _ => #[]
/-- A world in which the tables are laid. -/
noncomputable def laidWorld (os : Os) : World :=
  let w0 := World.holding Tryd.prog os ⟨#[], #[], []⟩
  let lay := fun (h : Array Obj) (g : Nat) (d : DataW Unit) => h.modify g fun
      | .cells _ t frozen => .cells (tabCells d) t frozen
      | o => o
  { w0 with heap := lay (lay (lay w0.heap 1 Rows.laid_internal_strconv_uint64pow10) 2 Rows.laid_math_bits_deBruijn32tab) 3 Rows.laid_math_bits_deBruijn64tab }
theorem laid_met (os : Os) (args : Array Value) : laidMetH Tryd.prog laid3 ((laidWorld os).forCall (fun _ _ => 0) ⟨#[], args, []⟩).memory :=
  laidMetH_iff.2 ⟨(LaidIn.of_run [2, 3, 1] 8 (by kernel_rfl) (by kernel_rfl) (by kernel_rfl) (by kernel_rfl)).met, fun x hx => by
    have : laid3.filter (fun x => x.2.handleName?.isSome) = [] := by kernel_rfl
    rw [this] at hx; cases hx⟩

end Go.Proofs.YtcknbmdkefcinaaDoor

/-! PrintLines -/

namespace Go.Proofs.YtcknbmdkefcinaaDoor.printLines
open Go.ChangeShapes Go.WideShapes Go.ChangeAt Go.RowKit Go.Abs
set_option linter.unusedVariables false

theorem walk (w : World) (hL : LaidW w) (x : Pg) (hr : x.rng) (v : Value) (hv : RD (memM w) S0 (.agg (encPg x)) v) : Calls Tryd.prog 6 #[v] w fun e w' => e = .returned (.bool true) ∧ Kept w w' := by
  refine law_run (args := [.agg (encPg x)]) ((printLines_s hr S0).mono fun _ _ h => h.1) rfl ?_ hL
  intro i d v h1 h2
  match i, h1, h2 with
  | 0, h1, h2 => simp at h1 h2; subst h1 h2; exact hv

set_option maxRecDepth 100000 in
theorem lifted (os : Os) (started : os.Started) (H : Type) (enc : TypeId × Value → H) :
    ReturnsInHanded {} Tryd.checked os 6 .any (fun w args => (Rows.printLinesSpec.pre enc Tryd.prog Tryd.f6 Rows.printLinesRow.domain false w args ∧ laidMetH Tryd.prog laid3 w) ∧ sizedMet enc Tryd.prog Tryd.f6 (OpenSpec.ofChange Rows.printLinesSpec) false w args)
      (Rows.printLinesSpec.post enc Tryd.prog Tryd.f6 false true false false) := by
  refine returnsInHanded_of_change_and (C := Tryd.checked) (X := fun w _ => laidMetH Tryd.prog laid3 w) (fun _ _ _ hh h => h.of_heap hh) own started (by kernel_rfl) Tryd.func6
    (ChangeSpec.witness_at (enc := enc) (C := Tryd.checked) (os := os) (X := fun w _ => laidMetH Tryd.prog laid3 w) false (laidWorld os) #[.agg #[.slice none 0 0, .slice none 0 0]] 8 rfl (by kernel_rfl) (by kernel_rfl) (by kernel_rfl) (by kernel_rfl) (by kernel_rfl) (laid_met os _)) ?_
  intro W base args ds gs before hval0 hW hcnd _ hL _
  have hval : ∀ (j : Nat) t v, Tryd.f6.params[j]? = some t → args[j]? = some v → Value.okWide Tryd.prog W .any base t v := hval0
  have hW' := hW
  obtain ⟨p, q, hA0, hV, rfl, hfz, hnd⟩ := hW
  have hA : DataW.TrodAll enc Tryd.prog W 0 (fun _ => true) true Tryd.f6.params.toList args.toList ds p := hA0
  rw [Tryd.params6] at hA hval
  obtain ⟨v0, d0, rfl, rfl, hd0⟩ := trodAll_one hA
  obtain ⟨rfl, rfl⟩ := trodVars_none hV
  have hgo : ∃ x : Pg, RD (memM W) S0 (.agg (encPg x)) v0 ∧ x.rng := by
    obtain ⟨fuel, hf⟩ := hd0
    obtain ⟨y, h1, h2⟩ := rdp_pg hf
    obtain ⟨fs, hfs⟩ := structOf_some (P := Tryd.prog) (t := 25) (l := [(22, 0), (23, 1)]) (by kernel_rfl) (by simp)
    obtain ⟨cs, e, _⟩ := okWide_struct hfs (hval 0 25 _ rfl rfl)
    exact ⟨y, h1.agg ⟨cs, e⟩, h2⟩
  obtain ⟨x, hv, hr⟩ := hgo
  refine (walk W (laidW_of hL) x hr v0 hv).mono fun e W' ⟨he, hg⟩ => ?_
  subst he
  exact ⟨_, rfl, law_post kids full (by rw [Tryd.params6]; decide) Tryd.underlying4 (by kernel_rfl) rfl hW' rfl hg⟩

theorem over : Rows.PrintLinesSaid :=
  OpenClaim.holds_of_wide 6 Tryd.f6 rfl rfl rfl rfl rfl rfl rfl ⟨rfl, rfl, rfl, rfl, rfl⟩ rfl rfl rfl rfl rfl (by kernel_rfl) Tryd.func6 (by kernel_rfl)
    (of_decide_eq_true (by kernel_rfl)) (by unfold Func.isWrapper; first | (rw [if_pos (by decide +kernel)]; kernel_rfl) | (rw [if_neg (by decide +kernel)]; exact ⟨rfl, rfl⟩))
    (fun os started H enc _ => lifted os started H enc)

theorem proved : Rows.PrintLinesCardSaid :=
  Claim7.holds_tied_plain_at .later [] [.data, .data, .data] true (true, "c4602d4ef5bdffa21f560167e243406d26df7374ad6c9b92d056c6ba37991ec5") false
    over (fun _ h => by cases h) (by kernel_rfl) (fun _ h => by cases h) printLines_row_tie rfl ⟨rfl, rfl⟩ (by kernel_rfl) rfl
    (fun f fn hf hfn => by
      obtain rfl : f = 6 := Option.some.inj ((show Tryd.prog.funcNamed "whittler/whittlerlaw5.PrintLines" = some 6 by kernel_rfl).symm.trans hf) |>.symm
      obtain rfl : fn = Tryd.f6 := (Option.some.inj (Tryd.func6.symm.trans hfn)).symm
      exact ⟨by kernel_rfl, fun j t ht => by
        rw [Tryd.params6] at ht
        have h3 : t = 25 := by
          rcases j with _ | j
          · simpa using ht.symm
          · simp at ht
        subst h3
        exact (show Tryd.prog.wantsStandIn 25 = false by kernel_rfl)⟩)
    (by kernel_rfl)
#print axioms proved
end Go.Proofs.YtcknbmdkefcinaaDoor.printLines
