/-
  What is proved here: part 4 of the road to the claim (Bld, Pr2, Pr3, Own, MayEq2, Pr4, PrMay, Fits1, Fits2, Pr5, Pr6, Pr7, Pr8, Some, LawPr1, Binds2, Lx, Lx2, Tot, Tot2, Tot3, BindsL, BindsL2, Full5, Full6, Full7, Pe1, Pe2, Ps1, Ps2, Ps3).
  No conditions.
-/
import Derived.Test.YtcknbmdkefcinaaDoorPyD3

set_option linter.unusedSimpArgs false
set_option linter.unusedVariables false

/-! Bld -/

namespace Go.Abs

set_option maxRecDepth 8000
set_option linter.unusedSimpArgs false
set_option linter.unusedVariables false
open Go.Proofs

def tWriter : TypeId := 68
theorem writer_lies : liesAt Tryd.prog Tryd.prog.depth tWriter (2 / Tryd.prog.cellsOf tWriter) 0 66 1 = true := by kernel_rfl

/-- A builder's object. -/
def bobj (o t : Nat) (l : Str) : List D := [.selfp tWriter o, .slice (.tok t true) 1 (encBy l)]
def bst (l : Str) : St := ⟨[bobj 0 0 l], [some l.length]⟩

theorem encBy_app (a b : Str) : encBy (a ++ b) = encBy a ++ encBy b := by simp [encBy]
theorem encBy_len (a : Str) : (encBy a).length = a.length := by simp [encBy]
theorem okrBy (n m : Nat) (l : Str) : D.okr n m (encBy l) = true := by
  simp [encBy, okr_eq, oks_eq, D.ok]
theorem renrBy (os ts : List Nat) (l : Str) : D.renr os ts (encBy l) = encBy l := renr_ok00 _ _ _ (okrBy 0 0 l)
theorem fgrBy (n m : Nat) (l : Str) : D.fgr n m (encBy l) = encBy l := fgr_ok n m _ (okrBy 0 0 l)

theorem appB_by {l m : Str} {t : Nat} {y : Bool} {g : Tag} {s : St} (h1 : l.length + m.length ≤ 549755813888) (h2 : s.toks[t]? = some (some l.length)) :
    appB (.slice (.tok t y) 1 (encBy l)) (.slice g 1 (encBy m)) s = some (.slice (.tok t y) 1 (encBy (l ++ m)), ⟨s.objs, s.toks.set t (some (l ++ m).length)⟩) := by
  have h3 : ((encBy l).length + (encBy m).length) * 2 ≤ maxStr := by simp only [encBy_len, maxStr]; omega
  cases m with
  | nil =>
    have : s.toks.set t (some l.length) = s.toks := by
      apply List.ext_getElem?
      intro i
      rw [List.getElem?_set]
      split
      · rename_i hi; subst hi; rw [h2, if_pos (List.getElem?_eq_some_iff.1 h2).1]
      · rfl
    simp only [encBy_len] at h3
    simp [appB, encBy, this]
    simpa [encBy] using h3
  | cons c m =>
    have e : encBy (c :: m) = [.int .u8 c.toNat] :: encBy m := rfl
    rw [e] at h3
    simp only [appB, e]
    rw [if_pos ⟨.inr trivial, .inr trivial, h3⟩]
    have h4 : s.toks[t]? = some (some (encBy l).length) := by rw [encBy_len]; exact h2
    simp only [h4, and_self, ↓reduceIte, encBy_app, e, List.length_append, List.length_cons, encBy_len]

theorem appB_str {l m : Str} {t : Nat} {y : Bool} {g : Tag} {s : St} (h1 : l.length + m.length ≤ 549755813888) (h2 : s.toks[t]? = some (some l.length)) :
    appB (.slice (.tok t y) 1 (encBy l)) (.slice g 1 (m.map fun c => [.int .u8 c.toNat])) s = some (.slice (.tok t y) 1 (encBy (l ++ m)), ⟨s.objs, s.toks.set t (some (l ++ m).length)⟩) := appB_by h1 h2
theorem appB_one {l : Str} {c : UInt8} {t : Nat} {y : Bool} {g : Tag} {s : St} (h1 : l.length + 1 ≤ 549755813888) (h2 : s.toks[t]? = some (some l.length)) :
    appB (.slice (.tok t y) 1 (encBy l)) (.slice g 1 [[.int .u8 c.toNat]]) s = some (.slice (.tok t y) 1 (encBy (l ++ [c])), ⟨s.objs, s.toks.set t (some (l ++ [c]).length)⟩) := appB_by (m := [c]) h1 h2
@[go_sem] theorem fgs_bobj {n m o t : Nat} {l : Str} (ho : o < n) (ht : t < m) : D.fgs n m (bobj o t l) = bobj o t l := by
  simp [bobj, D.fgs, D.fg, Tag.fg, ho, ht, fgrBy]
attribute [go_sem] fgrBy
/-- The methods in any state. -/
theorem Fun.bld {P : Program} {f : Nat} {args : List D} {l l' : Str} {d : D} (h : Fun P f (.ptr 0 0 :: args) (bst l) d (bst l')) (ha : D.oks 0 0 args = true) (hd : D.ok 0 0 d = true)
    {s : St} {o t : Nat} (ho : s.objs[o]? = some (bobj o t l)) (ht : s.toks[t]? = some (some l.length)) : Fun P f (.ptr o 0 :: args) s d ⟨s.objs.set o (bobj o t l'), s.toks.set t (some l'.length)⟩ := by
  refine ACalls.frame [o] [t] h (by simp) (by simp) (by simpa using (List.getElem?_eq_some_iff.1 ho).1) (by simpa using (List.getElem?_eq_some_iff.1 ht).1) rfl (fun i o' ds e1 e2 => ?_) rfl (fun i t' e1 => ?_)
    (by simp [D.rens, D.ren, rens_ok00 _ _ _ ha]) (by simp [D.oks, D.ok, oks_mono (Nat.zero_le 1) (Nat.zero_le 1) _ ha]) ?_
  · cases i with
    | zero =>
      simp [bst] at e1 e2; subst e1; subst e2
      exact ⟨by simp [bobj, D.rens, D.ren, Tag.ren, renrBy, ho], by simp [bobj, D.oks, D.ok, Tag.ok, okrBy]⟩
    | succ i => simp at e1
  · cases i with
    | zero => simp at e1; subst e1; simp [bst, ht]
    | succ i => simp at e1
  · rintro _ _ ⟨rfl, rfl⟩
    refine ⟨by simp [D.back, ren_ok00 _ _ _ hd], ?_⟩
    simp [St.back, plug, bst, allNums, D.rens, D.ren, Tag.ren, renrBy, bobj]

theorem WriteString_0 (l m : Str) (h : l.length + m.length ≤ 549755813888) : Fun Tryd.prog n_strings_Builder_WriteString [.ptr 0 0, .str m] (bst l) (.tuple [.int .i64 m.length, .val .nilIface]) (bst (l ++ m)) := by
  have hc := copyCheck_s (T := tWriter) (s := bst l) (o := 0) (r := [.slice (.tok 0 true) 1 (encBy l)]) rfl rfl writer_lies
  have ha := appB_str (l := l) (m := m) (t := 0) (y := true) (g := .shared) (s := bst l) h rfl
  simp only [bst, bobj] at hc ha
  unfold bst bobj
  refine Fun.go has_strings_Builder_WriteString rfl fun B Q hB hQ => ?_
  have hlt : 0 < 1 := Nat.zero_lt_one
  have hget : 0 < 1 := Nat.zero_lt_one
  have hpu : 0 < 1 := Nat.zero_lt_one
  have hinc : 0 < 1 := Nat.zero_lt_one
  repeat' (first
 | simp only [go_sem, hlt, hget, hpu, hinc, Int.reduceLE, ↓reduceIte, reduceCtorEq, Nat.reduceEqDiff, Nat.reduceLeDiff, Nat.reduceAdd, Nat.reduceMul, Nat.reduceSub, Nat.reduceLT, ha]
 | (with_reducible refine CU (hc) ?_)
 | (with_reducible first | refine CB_ofT (by assumption) fun hc => ?_ | refine CB_ofF (by assumption) fun hc => ?_ | refine CB_split (fun hc => ?_) fun hc => ?_) <;> (try simp only [hc, bs, ↓reduceIte] at h) <;> (try simp only [hc])
 | ((with_reducible first | refine leafR hQ ?_ | refine leafN hQ ?_); (try cases h); simp only [resL, oneD, Option.some.injEq, exists_eq_left', go_sem, hlt, hget, hpu, hinc, Int.reduceLE, ↓reduceIte, reduceCtorEq, Nat.reduceEqDiff, Nat.reduceLeDiff, Nat.reduceAdd, Nat.reduceMul, Nat.reduceSub, Nat.reduceLT, ha]; repeat' (first | exact Ok.out | with_reducible refine And.intro ?_ ?_ | (simp; done)))
 | (cases h; replace h := hr; clear hr; (try simp only [bs, ↓reduceIte] at h))
 | (cases h; done))

theorem WriteByte_0 (l : Str) (c : UInt8) (h : l.length + 1 ≤ 549755813888) : Fun Tryd.prog n_strings_Builder_WriteByte [.ptr 0 0, .int .u8 c.toNat] (bst l) (.val .nilIface) (bst (l ++ [c])) := by
  have hc := copyCheck_s (T := tWriter) (s := bst l) (o := 0) (r := [.slice (.tok 0 true) 1 (encBy l)]) rfl rfl writer_lies
  have ha := appB_one (l := l) (c := c) (t := 0) (y := true) (g := .full) (s := bst l) h rfl
  simp only [bst, bobj] at hc ha
  unfold bst bobj
  refine Fun.go has_strings_Builder_WriteByte rfl fun B Q hB hQ => ?_
  have hlt : 0 < 1 := Nat.zero_lt_one
  have hget : 0 < 1 := Nat.zero_lt_one
  have hpu : 0 < 1 := Nat.zero_lt_one
  have hinc : 0 < 1 := Nat.zero_lt_one
  repeat' (first
 | simp only [go_sem, hlt, hget, hpu, hinc, Int.reduceLE, ↓reduceIte, reduceCtorEq, Nat.reduceEqDiff, Nat.reduceLeDiff, Nat.reduceAdd, Nat.reduceMul, Nat.reduceSub, Nat.reduceLT, ha]
 | (with_reducible refine CU (hc) ?_)
 | (with_reducible first | refine CB_ofT (by assumption) fun hc => ?_ | refine CB_ofF (by assumption) fun hc => ?_ | refine CB_split (fun hc => ?_) fun hc => ?_) <;> (try simp only [hc, bs, ↓reduceIte] at h) <;> (try simp only [hc])
 | ((with_reducible first | refine leafR hQ ?_ | refine leafN hQ ?_); (try cases h); simp only [resL, oneD, Option.some.injEq, exists_eq_left', go_sem, hlt, hget, hpu, hinc, Int.reduceLE, ↓reduceIte, reduceCtorEq, Nat.reduceEqDiff, Nat.reduceLeDiff, Nat.reduceAdd, Nat.reduceMul, Nat.reduceSub, Nat.reduceLT, ha]; repeat' (first | exact Ok.out | with_reducible refine And.intro ?_ ?_ | (simp; done)))
 | (cases h; replace h := hr; clear hr; (try simp only [bs, ↓reduceIte] at h))
 | (cases h; done))

theorem WriteString_s {l : Str} {k : Nat} (m : Str) (hk : k = l.length) (h : k + m.length ≤ 549755813888) {s : St} {o t : Nat} (ho : s.objs[o]? = some (bobj o t l)) (ht : s.toks[t]? = some (some k)) :
    Fun Tryd.prog n_strings_Builder_WriteString [.ptr o 0, .str m] s (.tuple [.int .i64 m.length, .val .nilIface]) ⟨s.objs.set o (bobj o t (l ++ m)), s.toks.set t (some (k + m.length))⟩ := by
  subst hk
  have := (WriteString_0 l m h).bld rfl rfl ho ht
  rw [List.length_append] at this
  exact this
theorem WriteByte_s {l : Str} {k : Nat} (c : UInt8) (hk : k = l.length) (h : k + 1 ≤ 549755813888) {s : St} {o t : Nat} (ho : s.objs[o]? = some (bobj o t l)) (ht : s.toks[t]? = some (some k)) :
    Fun Tryd.prog n_strings_Builder_WriteByte [.ptr o 0, .int .u8 c.toNat] s (.val .nilIface) ⟨s.objs.set o (bobj o t (l ++ [c])), s.toks.set t (some (k + 1))⟩ := by
  subst hk
  have := (WriteByte_0 l c h).bld rfl rfl ho ht
  rw [List.length_append] at this
  exact this

/-- A line. -/
def lineS (n : Nat) (m : Str) : Str := List.replicate n 32 ++ m ++ [10]
theorem lineS_len (n : Nat) (m : Str) : (lineS n m).length = n + m.length + 1 := by simp [lineS]; omega

theorem line_0 (m : Str) (n : Nat) (l : Str) (h : l.length + n + m.length + 1 ≤ 549755813888) : Fun Tryd.prog n_print_writer_line [.ptr 0 0, .int .i64 n, .str m] (bst l) (.tuple []) (bst (l ++ lineS n m)) := by
  have z0 : decide ((0 : Int) > 0) = false := rfl
  unfold bst
  refine Fun.go has_print_writer_line rfl fun B Q hB hQ => ?_
  have hlt : 0 < 1 := Nat.zero_lt_one
  have hget : 0 < 1 := Nat.zero_lt_one
  have hpu : 0 < 1 := Nat.zero_lt_one
  have hinc : 0 < 1 := Nat.zero_lt_one
  repeat' (first
 | simp only [go_sem, hlt, hget, hpu, hinc, Int.reduceLE, ↓reduceIte, reduceCtorEq, Nat.reduceEqDiff, Nat.reduceLeDiff, Nat.reduceAdd, Nat.reduceMul, Nat.reduceSub, Nat.reduceLT]
 | (with_reducible first | refine CB_ofT (by assumption) fun hc => ?_ | refine CB_ofF (by assumption) fun hc => ?_ | refine CB_split (fun hc => ?_) fun hc => ?_) <;> (try simp only [hc, bs, ↓reduceIte] at h) <;> (try simp only [hc])
 | ((with_reducible first | refine leafR hQ ?_ | refine leafN hQ ?_); (try cases h); simp only [resL, oneD, Option.some.injEq, exists_eq_left', go_sem, hlt, hget, hpu, hinc, Int.reduceLE, ↓reduceIte, reduceCtorEq, Nat.reduceEqDiff, Nat.reduceLeDiff, Nat.reduceAdd, Nat.reduceMul, Nat.reduceSub, Nat.reduceLT]; repeat' (first | exact Ok.out | with_reducible refine And.intro ?_ ?_ | (simp; done)))
 | (cases h; replace h := hr; clear hr; (try simp only [bs, ↓reduceIte] at h))
 | (cases h; done))
  refine SemL.re _ _ 1 1 (by rw [hB]; exact Nat.le_of_ble_eq_true rfl) (by rw [hB]; exact Nat.le_of_ble_eq_true rfl) ?_ ?_ (SemL.ind (ι := Nat × Str × Nat) (fun i => i.2.1 ++ lineS i.1 m = l ++ lineS n m ∧ i.2.2 = i.2.1.length ∧ i.2.2 + i.1 + m.length + 1 ≤ 549755813888) (fun i => i.1)
    (fun i => [(0, .ptr 0 0), (1, .int .i64 (i.1 : Int)), (2, .str m)]) (fun i => ⟨[bobj 0 0 i.2.1], [some i.2.2]⟩) ?_ (n, l, l.length) ⟨rfl, rfl, h⟩)
  · (simp only [go_sem, hlt, hget, hpu, hinc, Int.reduceLE, ↓reduceIte, reduceCtorEq, Nat.reduceEqDiff, Nat.reduceLeDiff, Nat.reduceAdd, Nat.reduceMul, Nat.reduceSub, Nat.reduceLT]; repeat' (first | exact Ok.out | with_reducible refine And.intro ?_ ?_))
  · (simp only [go_sem, hlt, hget, hpu, hinc, Int.reduceLE, ↓reduceIte, reduceCtorEq, Nat.reduceEqDiff, Nat.reduceLeDiff, Nat.reduceAdd, Nat.reduceMul, Nat.reduceSub, Nat.reduceLT]; repeat' (first | exact Ok.out | with_reducible refine And.intro ?_ ?_))
  rintro ⟨k, acc, j⟩ ⟨h1, h2, h3⟩ IH
  dsimp only at h1 h2 h3
  cases k with
  | zero =>
    have e1 := fun (s : St) a b => WriteString_s (l := acc) m h2 (by omega) (s := s) (o := 0) (t := 0) a b
    have e2 := fun (s : St) a b => WriteByte_s (l := acc ++ m) (k := j + m.length) 10 (by simp; omega) (by omega) (s := s) (o := 0) (t := 0) a b
    simp only [show ((UInt8.toNat 10 : Nat) : Int) = 10 from rfl] at e2
    have e : acc ++ m ++ [10] = l ++ lineS n m := by rw [← h1]; simp [lineS]
    have e' : j + m.length + 1 = (l ++ lineS n m).length := by rw [← e]; simp; omega
    rw [← e', ← e] at hQ
    repeat' (first
 | simp only [go_sem, hlt, hget, hpu, hinc, Int.reduceLE, ↓reduceIte, reduceCtorEq, Nat.reduceEqDiff, Nat.reduceLeDiff, Nat.reduceAdd, Nat.reduceMul, Nat.reduceSub, Nat.reduceLT, z0]
 | (with_reducible refine CU (e1 _ rfl rfl) ?_)
 | (with_reducible refine CU (e2 _ rfl rfl) ?_)
 | (with_reducible first | refine CB_ofT (by assumption) fun hc => ?_ | refine CB_ofF (by assumption) fun hc => ?_ | refine CB_split (fun hc => ?_) fun hc => ?_) <;> (try simp only [hc, bs, ↓reduceIte] at h) <;> (try simp only [hc])
 | ((with_reducible first | refine leafR hQ ?_ | refine leafN hQ ?_); (try cases h); simp only [resL, oneD, Option.some.injEq, exists_eq_left', go_sem, hlt, hget, hpu, hinc, Int.reduceLE, ↓reduceIte, reduceCtorEq, Nat.reduceEqDiff, Nat.reduceLeDiff, Nat.reduceAdd, Nat.reduceMul, Nat.reduceSub, Nat.reduceLT, z0]; repeat' (first | exact Ok.out | with_reducible refine And.intro ?_ ?_ | (simp; done)))
 | (cases h; replace h := hr; clear hr; (try simp only [bs, ↓reduceIte] at h))
 | (cases h; done))
  | succ k =>
    have hlt : decide (((k + 1 : Nat) : Int) > 0) = true := by simp
    have e2 := fun (s : St) a b => WriteByte_s (l := acc) 32 h2 (by omega) (s := s) (o := 0) (t := 0) a b
    simp only [show ((UInt8.toNat 32 : Nat) : Int) = 32 from rfl] at e2
    have hw : IntKind.wrap .i64 (((k + 1 : Nat) : Int) - 1) = (k : Int) := by rw [wrap_ok] <;> omega
    repeat' (first
 | simp only [go_sem, hlt, hget, hpu, hinc, Int.reduceLE, ↓reduceIte, reduceCtorEq, Nat.reduceEqDiff, Nat.reduceLeDiff, Nat.reduceAdd, Nat.reduceMul, Nat.reduceSub, Nat.reduceLT, hw]
 | (with_reducible refine CU (e2 _ rfl rfl) ?_)
 | (with_reducible first | refine CB_ofT (by assumption) fun hc => ?_ | refine CB_ofF (by assumption) fun hc => ?_ | refine CB_split (fun hc => ?_) fun hc => ?_) <;> (try simp only [hc, bs, ↓reduceIte] at h) <;> (try simp only [hc])
 | ((with_reducible first | refine leafR hQ ?_ | refine leafN hQ ?_); (try cases h); simp only [resL, oneD, Option.some.injEq, exists_eq_left', go_sem, hlt, hget, hpu, hinc, Int.reduceLE, ↓reduceIte, reduceCtorEq, Nat.reduceEqDiff, Nat.reduceLeDiff, Nat.reduceAdd, Nat.reduceMul, Nat.reduceSub, Nat.reduceLT, hw]; repeat' (first | exact Ok.out | with_reducible refine And.intro ?_ ?_ | (simp; done)))
 | (cases h; replace h := hr; clear hr; (try simp only [bs, ↓reduceIte] at h))
 | (cases h; done))
    refine SemL.re _ _ 1 1 (by rw [hB]; exact Nat.le_of_ble_eq_true rfl) (by rw [hB]; exact Nat.le_of_ble_eq_true rfl) ?_ ?_ (IH (k, acc ++ [32], j + 1) ⟨by rw [← h1]; simp [lineS, List.replicate_succ], by simp [h2], by dsimp only; omega⟩ (Nat.lt_succ_self _))
    · (simp only [go_sem, hlt, hget, hpu, hinc, Int.reduceLE, ↓reduceIte, reduceCtorEq, Nat.reduceEqDiff, Nat.reduceLeDiff, Nat.reduceAdd, Nat.reduceMul, Nat.reduceSub, Nat.reduceLT]; repeat' (first | exact Ok.out | with_reducible refine And.intro ?_ ?_))
    · (simp only [go_sem, hlt, hget, hpu, hinc, Int.reduceLE, ↓reduceIte, reduceCtorEq, Nat.reduceEqDiff, Nat.reduceLeDiff, Nat.reduceAdd, Nat.reduceMul, Nat.reduceSub, Nat.reduceLT]; repeat' (first | exact Ok.out | with_reducible refine And.intro ?_ ?_))

end Go.Abs

/-! Pr2 -/

namespace Go.Abs

set_option maxRecDepth 8000
set_option linter.unusedSimpArgs false
set_option linter.unusedVariables false
open Go.Proofs

def marksS : List Str → Str
  | [] => []
  | s :: l => s ++ [58, 32] ++ marksS l
theorem marksS_len : ∀ {l : List Str}, (∀ t ∈ l, t.length ≤ 8) → (marksS l).length ≤ 10 * l.length
  | [], _ => Nat.le_refl _
  | s :: l, h => by
    have := h s (List.mem_cons_self ..)
    have := marksS_len fun t m => h t (List.mem_cons_of_mem _ m)
    simp only [marksS, List.length_append, List.length_cons, List.length_nil]; omega

theorem pref_s (b : Bool) (s : St) : Fun Tryd.prog n_print_ref [.bool b] s (.str (if b then [114, 101, 102, 32] else [])) s := by
  refine Fun.pure ?_ rfl rfl s
  unfold S0
  cases b
  · refine Fun.go has_print_ref rfl fun B Q hB hQ => ?_
    have hlt : 0 < 1 := Nat.zero_lt_one
    have hget : 0 < 1 := Nat.zero_lt_one
    have hpu : 0 < 1 := Nat.zero_lt_one
    have hinc : 0 < 1 := Nat.zero_lt_one
    repeat' (first
 | simp only [go_sem, hlt, hget, hpu, hinc, Int.reduceLE, ↓reduceIte, reduceCtorEq, Nat.reduceEqDiff, Nat.reduceLeDiff, Nat.reduceAdd, Nat.reduceMul, Nat.reduceSub, Nat.reduceLT]
 | (with_reducible first | refine CB_ofT (by assumption) fun hc => ?_ | refine CB_ofF (by assumption) fun hc => ?_ | refine CB_split (fun hc => ?_) fun hc => ?_) <;> (try simp only [hc, bs, ↓reduceIte] at h) <;> (try simp only [hc])
 | ((with_reducible first | refine leafR hQ ?_ | refine leafN hQ ?_); (try cases h); simp only [resL, oneD, Option.some.injEq, exists_eq_left', go_sem, hlt, hget, hpu, hinc, Int.reduceLE, ↓reduceIte, reduceCtorEq, Nat.reduceEqDiff, Nat.reduceLeDiff, Nat.reduceAdd, Nat.reduceMul, Nat.reduceSub, Nat.reduceLT]; repeat' (first | exact Ok.out | with_reducible refine And.intro ?_ ?_ | (simp; done)))
 | (cases h; replace h := hr; clear hr; (try simp only [bs, ↓reduceIte] at h))
 | (cases h; done))
  · refine Fun.go has_print_ref rfl fun B Q hB hQ => ?_
    have hlt : 0 < 1 := Nat.zero_lt_one
    have hget : 0 < 1 := Nat.zero_lt_one
    have hpu : 0 < 1 := Nat.zero_lt_one
    have hinc : 0 < 1 := Nat.zero_lt_one
    repeat' (first
 | simp only [go_sem, hlt, hget, hpu, hinc, Int.reduceLE, ↓reduceIte, reduceCtorEq, Nat.reduceEqDiff, Nat.reduceLeDiff, Nat.reduceAdd, Nat.reduceMul, Nat.reduceSub, Nat.reduceLT]
 | (with_reducible first | refine CB_ofT (by assumption) fun hc => ?_ | refine CB_ofF (by assumption) fun hc => ?_ | refine CB_split (fun hc => ?_) fun hc => ?_) <;> (try simp only [hc, bs, ↓reduceIte] at h) <;> (try simp only [hc])
 | ((with_reducible first | refine leafR hQ ?_ | refine leafN hQ ?_); (try cases h); simp only [resL, oneD, Option.some.injEq, exists_eq_left', go_sem, hlt, hget, hpu, hinc, Int.reduceLE, ↓reduceIte, reduceCtorEq, Nat.reduceEqDiff, Nat.reduceLeDiff, Nat.reduceAdd, Nat.reduceMul, Nat.reduceSub, Nat.reduceLT]; repeat' (first | exact Ok.out | with_reducible refine And.intro ?_ ?_ | (simp; done)))
 | (cases h; replace h := hr; clear hr; (try simp only [bs, ↓reduceIte] at h))
 | (cases h; done))

theorem pmarks_s {l : List Str} (hn : l.length ≤ 10000000) (h : ∀ t ∈ l, t.length ≤ 8) (s : St) : Fun Tryd.prog n_print_marks [.slice .shared 1 (l.map encStr)] s (.str (marksS l)) s := by
  refine Fun.pure ?_ (by simp [D.oks, D.ok, okrStr, Tag.ok]) rfl s
  unfold S0
  generalize hR : marksS l = R
  have hlen := marksS_len h
  rw [hR] at hlen
  refine Fun.go has_print_marks rfl fun B Q hB hQ => ?_
  have hlt : 0 < 1 := Nat.zero_lt_one
  have hget : 0 < 1 := Nat.zero_lt_one
  have hpu : 0 < 1 := Nat.zero_lt_one
  have hinc : 0 < 1 := Nat.zero_lt_one
  repeat' (first
 | simp only [go_sem, hlt, hget, hpu, hinc, Int.reduceLE, ↓reduceIte, reduceCtorEq, Nat.reduceEqDiff, Nat.reduceLeDiff, Nat.reduceAdd, Nat.reduceMul, Nat.reduceSub, Nat.reduceLT]
 | (with_reducible first | refine CB_ofT (by assumption) fun hc => ?_ | refine CB_ofF (by assumption) fun hc => ?_ | refine CB_split (fun hc => ?_) fun hc => ?_) <;> (try simp only [hc, bs, ↓reduceIte] at h) <;> (try simp only [hc])
 | ((with_reducible first | refine leafR hQ ?_ | refine leafN hQ ?_); (try cases h); simp only [resL, oneD, Option.some.injEq, exists_eq_left', go_sem, hlt, hget, hpu, hinc, Int.reduceLE, ↓reduceIte, reduceCtorEq, Nat.reduceEqDiff, Nat.reduceLeDiff, Nat.reduceAdd, Nat.reduceMul, Nat.reduceSub, Nat.reduceLT]; repeat' (first | exact Ok.out | with_reducible refine And.intro ?_ ?_ | (simp; done)))
 | (cases h; replace h := hr; clear hr; (try simp only [bs, ↓reduceIte] at h))
 | (cases h; done))
  refine SemL.re _ _ 1 0 (by rw [hB]; exact Nat.le_of_ble_eq_true rfl) (by rw [hB]; exact Nat.le_of_ble_eq_true rfl) ?_ ?_ (SemL.ind (ι := List Str × Nat × Str) (fun i => l.drop i.2.1 = i.1 ∧ i.2.2 ++ marksS i.1 = R) (fun i => i.1.length)
    (fun i => [(3, .str i.2.2), (6, .slice .shared 1 (l.map encStr)), (7, .int .i64 (l.length : Int)), (8, .int .i64 (i.2.1 : Int))]) (fun i => ⟨[], []⟩) ?_ (l, 0, []) ⟨rfl, hR⟩)
  · (simp only [go_sem, hlt, hget, hpu, hinc, Int.reduceLE, ↓reduceIte, reduceCtorEq, Nat.reduceEqDiff, Nat.reduceLeDiff, Nat.reduceAdd, Nat.reduceMul, Nat.reduceSub, Nat.reduceLT]; repeat' (first | exact Ok.out | with_reducible refine And.intro ?_ ?_))
  · (simp only [go_sem, hlt, hget, hpu, hinc, Int.reduceLE, ↓reduceIte, reduceCtorEq, Nat.reduceEqDiff, Nat.reduceLeDiff, Nat.reduceAdd, Nat.reduceMul, Nat.reduceSub, Nat.reduceLT]; repeat' (first | exact Ok.out | with_reducible refine And.intro ?_ ?_))
  rintro ⟨rest, k, acc⟩ ⟨h1, h2⟩ IH
  dsimp only at h1 h2
  cases rest with
  | nil =>
    have hlt := drop_nil h1
    simp only [marksS, List.append_nil] at h2
    repeat' (first
 | simp only [go_sem, hlt, hget, hpu, hinc, Int.reduceLE, ↓reduceIte, reduceCtorEq, Nat.reduceEqDiff, Nat.reduceLeDiff, Nat.reduceAdd, Nat.reduceMul, Nat.reduceSub, Nat.reduceLT, h2]
 | (with_reducible first | refine CB_ofT (by assumption) fun hc => ?_ | refine CB_ofF (by assumption) fun hc => ?_ | refine CB_split (fun hc => ?_) fun hc => ?_) <;> (try simp only [hc, bs, ↓reduceIte] at h) <;> (try simp only [hc])
 | ((with_reducible first | refine leafR hQ ?_ | refine leafN hQ ?_); (try cases h); simp only [resL, oneD, Option.some.injEq, exists_eq_left', go_sem, hlt, hget, hpu, hinc, Int.reduceLE, ↓reduceIte, reduceCtorEq, Nat.reduceEqDiff, Nat.reduceLeDiff, Nat.reduceAdd, Nat.reduceMul, Nat.reduceSub, Nat.reduceLT, h2]; repeat' (first | exact Ok.out | with_reducible refine And.intro ?_ ?_ | (simp; done)))
 | (cases h; replace h := hr; clear hr; (try simp only [bs, ↓reduceIte] at h))
 | (cases h; done))
  | cons t rest =>
    obtain ⟨hget, g2, hlt, g4⟩ := drop_cons h1
    have hpu : k < 4611686018427387904 := by omega
    have w1 : IntKind.wrap .i64 ((k : Int) + 1) = ((k + 1 : Nat) : Int) := by rw [wrap_ok] <;> omega
    have hal : acc.length + t.length + 2 ≤ R.length := by rw [← h2]; simp only [marksS, List.length_append, List.length_cons, List.length_nil]; omega
    have m1 : t.length + 1 + 1 ≤ maxStr := by unfold maxStr; omega
    have m2 : acc.length + (t.length + 1 + 1) ≤ maxStr := by unfold maxStr; omega
    repeat' (first
 | simp only [go_sem, hlt, hget, hpu, hinc, Int.reduceLE, ↓reduceIte, reduceCtorEq, Nat.reduceEqDiff, Nat.reduceLeDiff, Nat.reduceAdd, Nat.reduceMul, Nat.reduceSub, Nat.reduceLT, w1, m1, m2]
 | (with_reducible first | refine CB_ofT (by assumption) fun hc => ?_ | refine CB_ofF (by assumption) fun hc => ?_ | refine CB_split (fun hc => ?_) fun hc => ?_) <;> (try simp only [hc, bs, ↓reduceIte] at h) <;> (try simp only [hc])
 | ((with_reducible first | refine leafR hQ ?_ | refine leafN hQ ?_); (try cases h); simp only [resL, oneD, Option.some.injEq, exists_eq_left', go_sem, hlt, hget, hpu, hinc, Int.reduceLE, ↓reduceIte, reduceCtorEq, Nat.reduceEqDiff, Nat.reduceLeDiff, Nat.reduceAdd, Nat.reduceMul, Nat.reduceSub, Nat.reduceLT, w1, m1, m2]; repeat' (first | exact Ok.out | with_reducible refine And.intro ?_ ?_ | (simp; done)))
 | (cases h; replace h := hr; clear hr; (try simp only [bs, ↓reduceIte] at h))
 | (cases h; done))
    refine SemL.re _ _ 1 0 (by rw [hB]; exact Nat.le_of_ble_eq_true rfl) (by rw [hB]; exact Nat.le_of_ble_eq_true rfl) ?_ ?_ (IH (rest, k + 1, acc ++ (t ++ [58, 32])) ⟨g2, by rw [← h2]; simp [marksS]⟩ (by simp))
    · (simp only [go_sem, hlt, hget, hpu, hinc, Int.reduceLE, ↓reduceIte, reduceCtorEq, Nat.reduceEqDiff, Nat.reduceLeDiff, Nat.reduceAdd, Nat.reduceMul, Nat.reduceSub, Nat.reduceLT]; repeat' (first | exact Ok.out | with_reducible refine And.intro ?_ ?_))
    · (simp only [go_sem, hlt, hget, hpu, hinc, Int.reduceLE, ↓reduceIte, reduceCtorEq, Nat.reduceEqDiff, Nat.reduceLeDiff, Nat.reduceAdd, Nat.reduceMul, Nat.reduceSub, Nat.reduceLT]; repeat' (first | exact Ok.out | with_reducible refine And.intro ?_ ?_))

/-! ### Plain statements -/

def argS (a : Ar) : Str := if a.ref then [114, 101, 102, 32] ++ a.name else prE 0 a.x
def callS (name proc : Str) (args : List Ar) : Str := (if name = [] then [] else name ++ [32, 61, 32]) ++ (proc ++ [40] ++ Lib.join (args.map argS) [44, 32] ++ [41])
def plainS (kind : Int) (name proc : Str) (x : Ex) (has : Bool) (args : List Ar) : Str :=
  if kind = 1 then name ++ [32, 61, 32] ++ prE 0 x else if kind = 2 then [114, 101, 97, 100, 32] ++ name else if kind = 3 then [112, 114, 105, 110, 116, 32] ++ prE 0 x else if kind = 7 then [98, 114, 101, 97, 107] else if kind = 8 then [99, 111, 110, 116, 105, 110, 117, 101]
  else if kind = 10 then [103, 111, 116, 111, 32] ++ name else if kind = 9 then (if has then [114, 101, 116, 117, 114, 110, 32] ++ prE 0 x else [114, 101, 116, 117, 114, 110]) else callS name proc args

/-- What is written of a statement that may be. -/
structure Sm.PrO (s : Sm) : Prop where
  x : s.hasX = true → FormI s.x
  lab : ∀ t ∈ s.labels, t.length ≤ 8
  name : s.name.length ≤ 8
  proc : s.proc.length ≤ 8
  args : ∀ a ∈ s.args, a.name.length ≤ 8 ∧ (a.ref = false → FormI a.x)
  kind : 1 ≤ s.kind ∧ s.kind ≤ 10
  els : s.kind = 6 → s.els = []

theorem join_len (sep : Str) : ∀ l : List Str, (Lib.join l sep).length ≤ (l.map (·.length)).sum + sep.length * l.length
  | [] => by simp [Lib.join]
  | [a] => by simp [Lib.join, List.intercalate]
  | a :: b :: l => by
    have := join_len sep (b :: l)
    simp only [Lib.join, List.intercalate_cons_cons, List.length_append, List.map_cons, List.sum_cons, List.length_cons, Nat.mul_add] at this ⊢
    omega

theorem argsS_len : ∀ {l : List Ar}, (∀ a ∈ l, a.name.length ≤ 8 ∧ (a.ref = false → FormI a.x)) → ((l.map argS).map (·.length)).sum ≤ 25 * Ar.sizes l
  | [], _ => by simp
  | a :: l, h => by
    have h1 := h a (List.mem_cons_self ..)
    have := argsS_len fun t m => h t (List.mem_cons_of_mem _ m)
    have h2 : (argS a).length ≤ 25 * (1 + a.x.size) := by
      unfold argS
      split
      · simp only [List.length_append, List.length_cons, List.length_nil]; omega
      · rename_i c
        have := prE_len (h1.2 (by simpa using c)) 0
        have := nodes_size a.x.size a.x (Nat.le_refl _)
        omega
    simp only [List.map_cons, List.sum_cons, Ar.sizes] at this ⊢
    omega

theorem args_len {l : List Ar} (h : ∀ a ∈ l, a.name.length ≤ 8 ∧ (a.ref = false → FormI a.x)) : (Lib.join (l.map argS) [44, 32]).length ≤ 27 * Ar.sizes l := by
  have h1 := join_len [44, 32] (l.map argS)
  have h2 := argsS_len h
  have h3 := Ar.sizes_len l
  simp only [List.length_map, List.length_cons, List.length_nil] at h1 h3
  omega

theorem pplain_s {s : Sm} (h : s.PrO) (hs : s.size ≤ 1000000) (st : St) : Fun Tryd.prog n_print_plain [.agg (encSm s)] st (.str (plainS s.kind s.name s.proc s.x s.has s.args)) st := by
  refine Fun.pure ?_ (by simp [D.oks, D.ok, okSm]) rfl st
  obtain ⟨id, kind, labels, name, proc, x, has, args, thn, els⟩ := s
  obtain ⟨hx, _, hname, hproc, hargs, _, _⟩ := h
  dsimp only at hx hname hproc hargs ⊢
  simp only [Sm.size] at hs
  have hns := nodes_size x.size x (Nat.le_refl _)
  have hxn : x.nodes ≤ 1000000 := by omega
  unfold S0
  unfold plainS
  simp only [← beq_iff_eq (α := Int)]
  have hal := args_len hargs
  have k1 : (kind == 1) = true → FormI x := fun k => hx (by simp [Sm.hasX, k])
  have k3 : (kind == 3) = true → FormI x := fun k => hx (by simp [Sm.hasX, k])
  have k9 : (kind == 9) = true → has = true → FormI x := fun k h => hx (by simp [Sm.hasX, k, h])
  cases c1 : kind == 1 with
  | true =>
    have e1 := fun s => pexpr_s (k1 c1) hxn (least := 0) s
    simp only [encEx_eq] at e1
    have := prE_len (k1 c1) 0
    have m1 : name.length + 1 + 1 + 1 ≤ maxStr := by unfold maxStr; omega
    have m2 : name.length + 1 + 1 + 1 + (prE 0 x).length ≤ maxStr := by unfold maxStr; omega
    refine Fun.go has_print_plain rfl fun B Q hB hQ => ?_
    have hlt : 0 < 1 := Nat.zero_lt_one
    have hget : 0 < 1 := Nat.zero_lt_one
    have hpu : 0 < 1 := Nat.zero_lt_one
    have hinc : 0 < 1 := Nat.zero_lt_one
    repeat' (first
 | simp only [go_sem, hlt, hget, hpu, hinc, Int.reduceLE, ↓reduceIte, reduceCtorEq, Nat.reduceEqDiff, Nat.reduceLeDiff, Nat.reduceAdd, Nat.reduceMul, Nat.reduceSub, Nat.reduceLT, c1, m1, m2]
 | (with_reducible refine CU (e1 _) ?_)
 | (with_reducible first | refine CB_ofT (by assumption) fun hc => ?_ | refine CB_ofF (by assumption) fun hc => ?_ | refine CB_split (fun hc => ?_) fun hc => ?_) <;> (try simp only [hc, bs, ↓reduceIte] at h) <;> (try simp only [hc])
 | ((with_reducible first | refine leafR hQ ?_ | refine leafN hQ ?_); (try cases h); simp only [resL, oneD, Option.some.injEq, exists_eq_left', go_sem, hlt, hget, hpu, hinc, Int.reduceLE, ↓reduceIte, reduceCtorEq, Nat.reduceEqDiff, Nat.reduceLeDiff, Nat.reduceAdd, Nat.reduceMul, Nat.reduceSub, Nat.reduceLT, c1, m1, m2]; repeat' (first | exact Ok.out | with_reducible refine And.intro ?_ ?_ | (simp; done)))
 | (cases h; replace h := hr; clear hr; (try simp only [bs, ↓reduceIte] at h))
 | (cases h; done))
  | false =>
  cases c2 : kind == 2 with
  | true =>
    have m1 : (5 : Nat) + name.length ≤ maxStr := by unfold maxStr; omega
    refine Fun.go has_print_plain rfl fun B Q hB hQ => ?_
    have hlt : 0 < 1 := Nat.zero_lt_one
    have hget : 0 < 1 := Nat.zero_lt_one
    have hpu : 0 < 1 := Nat.zero_lt_one
    have hinc : 0 < 1 := Nat.zero_lt_one
    repeat' (first
 | simp only [go_sem, hlt, hget, hpu, hinc, Int.reduceLE, ↓reduceIte, reduceCtorEq, Nat.reduceEqDiff, Nat.reduceLeDiff, Nat.reduceAdd, Nat.reduceMul, Nat.reduceSub, Nat.reduceLT, c1, c2, m1]
 | (with_reducible first | refine CB_ofT (by assumption) fun hc => ?_ | refine CB_ofF (by assumption) fun hc => ?_ | refine CB_split (fun hc => ?_) fun hc => ?_) <;> (try simp only [hc, bs, ↓reduceIte] at h) <;> (try simp only [hc])
 | ((with_reducible first | refine leafR hQ ?_ | refine leafN hQ ?_); (try cases h); simp only [resL, oneD, Option.some.injEq, exists_eq_left', go_sem, hlt, hget, hpu, hinc, Int.reduceLE, ↓reduceIte, reduceCtorEq, Nat.reduceEqDiff, Nat.reduceLeDiff, Nat.reduceAdd, Nat.reduceMul, Nat.reduceSub, Nat.reduceLT, c1, c2, m1]; repeat' (first | exact Ok.out | with_reducible refine And.intro ?_ ?_ | (simp; done)))
 | (cases h; replace h := hr; clear hr; (try simp only [bs, ↓reduceIte] at h))
 | (cases h; done))
  | false =>
  cases c3 : kind == 3 with
  | true =>
    have e1 := fun s => pexpr_s (k3 c3) hxn (least := 0) s
    simp only [encEx_eq] at e1
    have := prE_len (k3 c3) 0
    have m1 : (6 : Nat) + (prE 0 x).length ≤ maxStr := by unfold maxStr; omega
    refine Fun.go has_print_plain rfl fun B Q hB hQ => ?_
    have hlt : 0 < 1 := Nat.zero_lt_one
    have hget : 0 < 1 := Nat.zero_lt_one
    have hpu : 0 < 1 := Nat.zero_lt_one
    have hinc : 0 < 1 := Nat.zero_lt_one
    repeat' (first
 | simp only [go_sem, hlt, hget, hpu, hinc, Int.reduceLE, ↓reduceIte, reduceCtorEq, Nat.reduceEqDiff, Nat.reduceLeDiff, Nat.reduceAdd, Nat.reduceMul, Nat.reduceSub, Nat.reduceLT, c1, c2, c3, m1]
 | (with_reducible refine CU (e1 _) ?_)
 | (with_reducible first | refine CB_ofT (by assumption) fun hc => ?_ | refine CB_ofF (by assumption) fun hc => ?_ | refine CB_split (fun hc => ?_) fun hc => ?_) <;> (try simp only [hc, bs, ↓reduceIte] at h) <;> (try simp only [hc])
 | ((with_reducible first | refine leafR hQ ?_ | refine leafN hQ ?_); (try cases h); simp only [resL, oneD, Option.some.injEq, exists_eq_left', go_sem, hlt, hget, hpu, hinc, Int.reduceLE, ↓reduceIte, reduceCtorEq, Nat.reduceEqDiff, Nat.reduceLeDiff, Nat.reduceAdd, Nat.reduceMul, Nat.reduceSub, Nat.reduceLT, c1, c2, c3, m1]; repeat' (first | exact Ok.out | with_reducible refine And.intro ?_ ?_ | (simp; done)))
 | (cases h; replace h := hr; clear hr; (try simp only [bs, ↓reduceIte] at h))
 | (cases h; done))
  | false =>
  cases c7 : kind == 7 with
  | true =>
    refine Fun.go has_print_plain rfl fun B Q hB hQ => ?_
    have hlt : 0 < 1 := Nat.zero_lt_one
    have hget : 0 < 1 := Nat.zero_lt_one
    have hpu : 0 < 1 := Nat.zero_lt_one
    have hinc : 0 < 1 := Nat.zero_lt_one
    repeat' (first
 | simp only [go_sem, hlt, hget, hpu, hinc, Int.reduceLE, ↓reduceIte, reduceCtorEq, Nat.reduceEqDiff, Nat.reduceLeDiff, Nat.reduceAdd, Nat.reduceMul, Nat.reduceSub, Nat.reduceLT, c1, c2, c3, c7]
 | (with_reducible first | refine CB_ofT (by assumption) fun hc => ?_ | refine CB_ofF (by assumption) fun hc => ?_ | refine CB_split (fun hc => ?_) fun hc => ?_) <;> (try simp only [hc, bs, ↓reduceIte] at h) <;> (try simp only [hc])
 | ((with_reducible first | refine leafR hQ ?_ | refine leafN hQ ?_); (try cases h); simp only [resL, oneD, Option.some.injEq, exists_eq_left', go_sem, hlt, hget, hpu, hinc, Int.reduceLE, ↓reduceIte, reduceCtorEq, Nat.reduceEqDiff, Nat.reduceLeDiff, Nat.reduceAdd, Nat.reduceMul, Nat.reduceSub, Nat.reduceLT, c1, c2, c3, c7]; repeat' (first | exact Ok.out | with_reducible refine And.intro ?_ ?_ | (simp; done)))
 | (cases h; replace h := hr; clear hr; (try simp only [bs, ↓reduceIte] at h))
 | (cases h; done))
  | false =>
  cases c8 : kind == 8 with
  | true =>
    refine Fun.go has_print_plain rfl fun B Q hB hQ => ?_
    have hlt : 0 < 1 := Nat.zero_lt_one
    have hget : 0 < 1 := Nat.zero_lt_one
    have hpu : 0 < 1 := Nat.zero_lt_one
    have hinc : 0 < 1 := Nat.zero_lt_one
    repeat' (first
 | simp only [go_sem, hlt, hget, hpu, hinc, Int.reduceLE, ↓reduceIte, reduceCtorEq, Nat.reduceEqDiff, Nat.reduceLeDiff, Nat.reduceAdd, Nat.reduceMul, Nat.reduceSub, Nat.reduceLT, c1, c2, c3, c7, c8]
 | (with_reducible first | refine CB_ofT (by assumption) fun hc => ?_ | refine CB_ofF (by assumption) fun hc => ?_ | refine CB_split (fun hc => ?_) fun hc => ?_) <;> (try simp only [hc, bs, ↓reduceIte] at h) <;> (try simp only [hc])
 | ((with_reducible first | refine leafR hQ ?_ | refine leafN hQ ?_); (try cases h); simp only [resL, oneD, Option.some.injEq, exists_eq_left', go_sem, hlt, hget, hpu, hinc, Int.reduceLE, ↓reduceIte, reduceCtorEq, Nat.reduceEqDiff, Nat.reduceLeDiff, Nat.reduceAdd, Nat.reduceMul, Nat.reduceSub, Nat.reduceLT, c1, c2, c3, c7, c8]; repeat' (first | exact Ok.out | with_reducible refine And.intro ?_ ?_ | (simp; done)))
 | (cases h; replace h := hr; clear hr; (try simp only [bs, ↓reduceIte] at h))
 | (cases h; done))
  | false =>
  cases c10 : kind == 10 with
  | true =>
    have m1 : (5 : Nat) + name.length ≤ maxStr := by unfold maxStr; omega
    refine Fun.go has_print_plain rfl fun B Q hB hQ => ?_
    have hlt : 0 < 1 := Nat.zero_lt_one
    have hget : 0 < 1 := Nat.zero_lt_one
    have hpu : 0 < 1 := Nat.zero_lt_one
    have hinc : 0 < 1 := Nat.zero_lt_one
    repeat' (first
 | simp only [go_sem, hlt, hget, hpu, hinc, Int.reduceLE, ↓reduceIte, reduceCtorEq, Nat.reduceEqDiff, Nat.reduceLeDiff, Nat.reduceAdd, Nat.reduceMul, Nat.reduceSub, Nat.reduceLT, c1, c2, c3, c7, c8, c10, m1]
 | (with_reducible first | refine CB_ofT (by assumption) fun hc => ?_ | refine CB_ofF (by assumption) fun hc => ?_ | refine CB_split (fun hc => ?_) fun hc => ?_) <;> (try simp only [hc, bs, ↓reduceIte] at h) <;> (try simp only [hc])
 | ((with_reducible first | refine leafR hQ ?_ | refine leafN hQ ?_); (try cases h); simp only [resL, oneD, Option.some.injEq, exists_eq_left', go_sem, hlt, hget, hpu, hinc, Int.reduceLE, ↓reduceIte, reduceCtorEq, Nat.reduceEqDiff, Nat.reduceLeDiff, Nat.reduceAdd, Nat.reduceMul, Nat.reduceSub, Nat.reduceLT, c1, c2, c3, c7, c8, c10, m1]; repeat' (first | exact Ok.out | with_reducible refine And.intro ?_ ?_ | (simp; done)))
 | (cases h; replace h := hr; clear hr; (try simp only [bs, ↓reduceIte] at h))
 | (cases h; done))
  | false =>
  cases c9 : kind == 9 with
  | true =>
    cases hh : has with
    | true =>
      have e1 := fun s => pexpr_s (k9 c9 hh) hxn (least := 0) s
      simp only [encEx_eq] at e1
      have := prE_len (k9 c9 hh) 0
      have m1 : (7 : Nat) + (prE 0 x).length ≤ maxStr := by unfold maxStr; omega
      refine Fun.go has_print_plain rfl fun B Q hB hQ => ?_
      have hlt : 0 < 1 := Nat.zero_lt_one
      have hget : 0 < 1 := Nat.zero_lt_one
      have hpu : 0 < 1 := Nat.zero_lt_one
      have hinc : 0 < 1 := Nat.zero_lt_one
      repeat' (first
 | simp only [go_sem, hlt, hget, hpu, hinc, Int.reduceLE, ↓reduceIte, reduceCtorEq, Nat.reduceEqDiff, Nat.reduceLeDiff, Nat.reduceAdd, Nat.reduceMul, Nat.reduceSub, Nat.reduceLT, c1, c2, c3, c7, c8, c10, c9, m1]
 | (with_reducible refine CU (e1 _) ?_)
 | (with_reducible first | refine CB_ofT (by assumption) fun hc => ?_ | refine CB_ofF (by assumption) fun hc => ?_ | refine CB_split (fun hc => ?_) fun hc => ?_) <;> (try simp only [hc, bs, ↓reduceIte] at h) <;> (try simp only [hc])
 | ((with_reducible first | refine leafR hQ ?_ | refine leafN hQ ?_); (try cases h); simp only [resL, oneD, Option.some.injEq, exists_eq_left', go_sem, hlt, hget, hpu, hinc, Int.reduceLE, ↓reduceIte, reduceCtorEq, Nat.reduceEqDiff, Nat.reduceLeDiff, Nat.reduceAdd, Nat.reduceMul, Nat.reduceSub, Nat.reduceLT, c1, c2, c3, c7, c8, c10, c9, m1]; repeat' (first | exact Ok.out | with_reducible refine And.intro ?_ ?_ | (simp; done)))
 | (cases h; replace h := hr; clear hr; (try simp only [bs, ↓reduceIte] at h))
 | (cases h; done))
    | false =>
      refine Fun.go has_print_plain rfl fun B Q hB hQ => ?_
      have hlt : 0 < 1 := Nat.zero_lt_one
      have hget : 0 < 1 := Nat.zero_lt_one
      have hpu : 0 < 1 := Nat.zero_lt_one
      have hinc : 0 < 1 := Nat.zero_lt_one
      repeat' (first
 | simp only [go_sem, hlt, hget, hpu, hinc, Int.reduceLE, ↓reduceIte, reduceCtorEq, Nat.reduceEqDiff, Nat.reduceLeDiff, Nat.reduceAdd, Nat.reduceMul, Nat.reduceSub, Nat.reduceLT, c1, c2, c3, c7, c8, c10, c9]
 | (with_reducible first | refine CB_ofT (by assumption) fun hc => ?_ | refine CB_ofF (by assumption) fun hc => ?_ | refine CB_split (fun hc => ?_) fun hc => ?_) <;> (try simp only [hc, bs, ↓reduceIte] at h) <;> (try simp only [hc])
 | ((with_reducible first | refine leafR hQ ?_ | refine leafN hQ ?_); (try cases h); simp only [resL, oneD, Option.some.injEq, exists_eq_left', go_sem, hlt, hget, hpu, hinc, Int.reduceLE, ↓reduceIte, reduceCtorEq, Nat.reduceEqDiff, Nat.reduceLeDiff, Nat.reduceAdd, Nat.reduceMul, Nat.reduceSub, Nat.reduceLT, c1, c2, c3, c7, c8, c10, c9]; repeat' (first | exact Ok.out | with_reducible refine And.intro ?_ ?_ | (simp; done)))
 | (cases h; replace h := hr; clear hr; (try simp only [bs, ↓reduceIte] at h))
 | (cases h; done))
  | false =>
    have hjl : (args.map argS).length ≤ 140737488355328 := by simp; have := Ar.sizes_len args; omega
    have hjm : (Lib.join (args.map argS) [44, 32]).length ≤ 140737488355328 := by omega
    have ej := fun s => Join_s (l := args.map argS) (sep := [44, 32]) hjl hjm (.tok 0) s
    have asz := Ar.sizes_len args
    have m1 : proc.length + 1 ≤ maxStr := by unfold maxStr; omega
    have m2 : proc.length + 1 + (Lib.join (args.map argS) [44, 32]).length ≤ maxStr := by unfold maxStr; omega
    have m3 : proc.length + 1 + (Lib.join (args.map argS) [44, 32]).length + 1 ≤ maxStr := by unfold maxStr; omega
    have m4 : name.length + 1 + 1 + 1 ≤ maxStr := by unfold maxStr; omega
    have m5 : name.length + 1 + 1 + 1 + (proc.length + 1 + (Lib.join (args.map argS) [44, 32]).length + 1) ≤ maxStr := by unfold maxStr; omega
    refine Fun.go has_print_plain rfl fun B Q hB hQ => ?_
    have hlt : 0 < 1 := Nat.zero_lt_one
    have hget : 0 < 1 := Nat.zero_lt_one
    have hpu : 0 < 1 := Nat.zero_lt_one
    have hinc : 0 < 1 := Nat.zero_lt_one
    repeat' (first
 | simp only [go_sem, hlt, hget, hpu, hinc, Int.reduceLE, ↓reduceIte, reduceCtorEq, Nat.reduceEqDiff, Nat.reduceLeDiff, Nat.reduceAdd, Nat.reduceMul, Nat.reduceSub, Nat.reduceLT, c1, c2, c3, c7, c8, c10, c9]
 | (with_reducible first | refine CB_ofT (by assumption) fun hc => ?_ | refine CB_ofF (by assumption) fun hc => ?_ | refine CB_split (fun hc => ?_) fun hc => ?_) <;> (try simp only [hc, bs, ↓reduceIte] at h) <;> (try simp only [hc])
 | ((with_reducible first | refine leafR hQ ?_ | refine leafN hQ ?_); (try cases h); simp only [resL, oneD, Option.some.injEq, exists_eq_left', go_sem, hlt, hget, hpu, hinc, Int.reduceLE, ↓reduceIte, reduceCtorEq, Nat.reduceEqDiff, Nat.reduceLeDiff, Nat.reduceAdd, Nat.reduceMul, Nat.reduceSub, Nat.reduceLT, c1, c2, c3, c7, c8, c10, c9]; repeat' (first | exact Ok.out | with_reducible refine And.intro ?_ ?_ | (simp; done)))
 | (cases h; replace h := hr; clear hr; (try simp only [bs, ↓reduceIte] at h))
 | (cases h; done))
    refine SemL.tokT 3 1 rfl ?_
    simp only [go_sem, hlt, hget, hpu, hinc, Int.reduceLE, ↓reduceIte, reduceCtorEq, Nat.reduceEqDiff, Nat.reduceLeDiff, Nat.reduceAdd, Nat.reduceMul, Nat.reduceSub, Nat.reduceLT]
    refine SemL.re _ _ 1 1 (by rw [hB]; exact Nat.le_of_ble_eq_true rfl) (by rw [hB]; exact Nat.le_of_ble_eq_true rfl) ?_ ?_ (SemL.ind (ι := List Ar × Nat × List Str) (fun i => args.drop i.2.1 = i.1 ∧ i.2.2 ++ i.1.map argS = args.map argS ∧ i.2.2.length = i.2.1) (fun i => i.1.length)
      (fun i => [(1, .ptr 0 0), (3, .slice (.tok 0) 1 (i.2.2.map encStr)), (47, .slice .shared 6 (args.map encAr)), (48, .int .i64 (args.length : Int)), (49, .int .i64 (i.2.1 : Int))]) (fun i => ⟨[encSm ⟨id, kind, labels, name, proc, x, has, args, thn, els⟩], [some i.2.1]⟩) ?_ (args, 0, []) ⟨rfl, rfl, rfl⟩)
    · (simp only [go_sem, hlt, hget, hpu, hinc, Int.reduceLE, ↓reduceIte, reduceCtorEq, Nat.reduceEqDiff, Nat.reduceLeDiff, Nat.reduceAdd, Nat.reduceMul, Nat.reduceSub, Nat.reduceLT]; repeat' (first | exact Ok.out | with_reducible refine And.intro ?_ ?_))
    · (simp only [go_sem, hlt, hget, hpu, hinc, Int.reduceLE, ↓reduceIte, reduceCtorEq, Nat.reduceEqDiff, Nat.reduceLeDiff, Nat.reduceAdd, Nat.reduceMul, Nat.reduceSub, Nat.reduceLT]; repeat' (first | exact Ok.out | with_reducible refine And.intro ?_ ?_))
    rintro ⟨rest, k, acc⟩ ⟨h1, h2, h3⟩ IH
    dsimp only at h1 h2 h3
    cases rest with
    | nil =>
      have hlt := drop_nil h1
      simp only [List.map_nil, List.append_nil] at h2
      subst h2
      cases cn : name == [] with
      | true =>
        have ec : callS name proc args = proc ++ [40] ++ Lib.join (args.map argS) [44, 32] ++ [41] := by rw [callS, if_pos (by simpa using cn), List.nil_append]
        repeat' (first
 | simp only [go_sem, hlt, hget, hpu, hinc, Int.reduceLE, ↓reduceIte, reduceCtorEq, Nat.reduceEqDiff, Nat.reduceLeDiff, Nat.reduceAdd, Nat.reduceMul, Nat.reduceSub, Nat.reduceLT, m1, m2, m3, cn, ec]
 | (with_reducible refine CU (ej _) ?_)
 | (with_reducible first | refine CB_ofT (by assumption) fun hc => ?_ | refine CB_ofF (by assumption) fun hc => ?_ | refine CB_split (fun hc => ?_) fun hc => ?_) <;> (try simp only [hc, bs, ↓reduceIte] at h) <;> (try simp only [hc])
 | ((with_reducible first | refine leafR hQ ?_ | refine leafN hQ ?_); (try cases h); simp only [resL, oneD, Option.some.injEq, exists_eq_left', go_sem, hlt, hget, hpu, hinc, Int.reduceLE, ↓reduceIte, reduceCtorEq, Nat.reduceEqDiff, Nat.reduceLeDiff, Nat.reduceAdd, Nat.reduceMul, Nat.reduceSub, Nat.reduceLT, m1, m2, m3, cn, ec]; repeat' (first | exact Ok.out | with_reducible refine And.intro ?_ ?_ | (simp; done)))
 | (cases h; replace h := hr; clear hr; (try simp only [bs, ↓reduceIte] at h))
 | (cases h; done))
      | false =>
        have ec : callS name proc args = name ++ [32, 61, 32] ++ (proc ++ [40] ++ Lib.join (args.map argS) [44, 32] ++ [41]) := by rw [callS, if_neg (by simpa using cn)]
        repeat' (first
 | simp only [go_sem, hlt, hget, hpu, hinc, Int.reduceLE, ↓reduceIte, reduceCtorEq, Nat.reduceEqDiff, Nat.reduceLeDiff, Nat.reduceAdd, Nat.reduceMul, Nat.reduceSub, Nat.reduceLT, m1, m2, m3, m4, m5, cn, ec]
 | (with_reducible refine CU (ej _) ?_)
 | (with_reducible first | refine CB_ofT (by assumption) fun hc => ?_ | refine CB_ofF (by assumption) fun hc => ?_ | refine CB_split (fun hc => ?_) fun hc => ?_) <;> (try simp only [hc, bs, ↓reduceIte] at h) <;> (try simp only [hc])
 | ((with_reducible first | refine leafR hQ ?_ | refine leafN hQ ?_); (try cases h); simp only [resL, oneD, Option.some.injEq, exists_eq_left', go_sem, hlt, hget, hpu, hinc, Int.reduceLE, ↓reduceIte, reduceCtorEq, Nat.reduceEqDiff, Nat.reduceLeDiff, Nat.reduceAdd, Nat.reduceMul, Nat.reduceSub, Nat.reduceLT, m1, m2, m3, m4, m5, cn, ec]; repeat' (first | exact Ok.out | with_reducible refine And.intro ?_ ?_ | (simp; done)))
 | (cases h; replace h := hr; clear hr; (try simp only [bs, ↓reduceIte] at h))
 | (cases h; done))
    | cons a rest =>
      obtain ⟨hget, g2, hlt, g4⟩ := drop_cons h1
      have hmem := List.mem_of_getElem? hget
      obtain ⟨ha1, ha2⟩ := hargs a hmem
      have hsz := Ar.sizes_mem hmem
      have han := nodes_size a.x.size a.x (Nat.le_refl _)
      have hk : k < 4611686018427387904 := by omega
      have w1 : IntKind.wrap .i64 ((k : Int) + 1) = ((k + 1 : Nat) : Int) := by rw [wrap_ok] <;> omega
      have hpu : (k + 1) * 17 ≤ maxStr := by unfold maxStr; omega
      cases hr : a.ref with
      | true =>
        have m1 : (4 : Nat) + a.name.length ≤ maxStr := by unfold maxStr; omega
        have ea : argS a = [114, 101, 102, 32] ++ a.name := by simp only [argS, hr, ↓reduceIte]
        repeat' (first
 | simp only [go_sem, hlt, hget, hpu, hinc, Int.reduceLE, ↓reduceIte, reduceCtorEq, Nat.reduceEqDiff, Nat.reduceLeDiff, Nat.reduceAdd, Nat.reduceMul, Nat.reduceSub, Nat.reduceLT, hr, m1, w1, h3]
 | (with_reducible refine CU (pref_s _ _) ?_)
 | (with_reducible first | refine CB_ofT (by assumption) fun hc => ?_ | refine CB_ofF (by assumption) fun hc => ?_ | refine CB_split (fun hc => ?_) fun hc => ?_) <;> (try simp only [hc, bs, ↓reduceIte] at h) <;> (try simp only [hc])
 | ((with_reducible first | refine leafR hQ ?_ | refine leafN hQ ?_); (try cases h); simp only [resL, oneD, Option.some.injEq, exists_eq_left', go_sem, hlt, hget, hpu, hinc, Int.reduceLE, ↓reduceIte, reduceCtorEq, Nat.reduceEqDiff, Nat.reduceLeDiff, Nat.reduceAdd, Nat.reduceMul, Nat.reduceSub, Nat.reduceLT, hr, m1, w1, h3]; repeat' (first | exact Ok.out | with_reducible refine And.intro ?_ ?_ | (simp; done)))
 | (cases h; replace h := hr; clear hr; (try simp only [bs, ↓reduceIte] at h))
 | (cases h; done))
        refine SemL.re _ _ 1 1 (by rw [hB]; exact Nat.le_of_ble_eq_true rfl) (by rw [hB]; exact Nat.le_of_ble_eq_true rfl) ?_ ?_ (IH (rest, k + 1, acc ++ [argS a]) ⟨g2, by rw [← h2]; simp, by simp [h3]⟩ (by simp))
        · (simp only [go_sem, hlt, hget, hpu, hinc, Int.reduceLE, ↓reduceIte, reduceCtorEq, Nat.reduceEqDiff, Nat.reduceLeDiff, Nat.reduceAdd, Nat.reduceMul, Nat.reduceSub, Nat.reduceLT, ea, List.cons_append, List.nil_append]; repeat' (first | exact Ok.out | with_reducible refine And.intro ?_ ?_))
        · (simp only [go_sem, hlt, hget, hpu, hinc, Int.reduceLE, ↓reduceIte, reduceCtorEq, Nat.reduceEqDiff, Nat.reduceLeDiff, Nat.reduceAdd, Nat.reduceMul, Nat.reduceSub, Nat.reduceLT, ea, List.cons_append, List.nil_append]; repeat' (first | exact Ok.out | with_reducible refine And.intro ?_ ?_))
      | false =>
        have e1 := fun s => pexpr_s (ha2 hr) (by omega) (least := 0) s
        have ea : argS a = prE 0 a.x := by simp only [argS, hr, Bool.false_eq_true, ↓reduceIte]
        repeat' (first
 | simp only [go_sem, hlt, hget, hpu, hinc, Int.reduceLE, ↓reduceIte, reduceCtorEq, Nat.reduceEqDiff, Nat.reduceLeDiff, Nat.reduceAdd, Nat.reduceMul, Nat.reduceSub, Nat.reduceLT, hr, w1, h3]
 | (with_reducible refine CU (e1 _) ?_)
 | (with_reducible first | refine CB_ofT (by assumption) fun hc => ?_ | refine CB_ofF (by assumption) fun hc => ?_ | refine CB_split (fun hc => ?_) fun hc => ?_) <;> (try simp only [hc, bs, ↓reduceIte] at h) <;> (try simp only [hc])
 | ((with_reducible first | refine leafR hQ ?_ | refine leafN hQ ?_); (try cases h); simp only [resL, oneD, Option.some.injEq, exists_eq_left', go_sem, hlt, hget, hpu, hinc, Int.reduceLE, ↓reduceIte, reduceCtorEq, Nat.reduceEqDiff, Nat.reduceLeDiff, Nat.reduceAdd, Nat.reduceMul, Nat.reduceSub, Nat.reduceLT, hr, w1, h3]; repeat' (first | exact Ok.out | with_reducible refine And.intro ?_ ?_ | (simp; done)))
 | (cases h; replace h := hr; clear hr; (try simp only [bs, ↓reduceIte] at h))
 | (cases h; done))
        refine SemL.re _ _ 1 1 (by rw [hB]; exact Nat.le_of_ble_eq_true rfl) (by rw [hB]; exact Nat.le_of_ble_eq_true rfl) ?_ ?_ (IH (rest, k + 1, acc ++ [argS a]) ⟨g2, by rw [← h2]; simp, by simp [h3]⟩ (by simp))
        · (simp only [go_sem, hlt, hget, hpu, hinc, Int.reduceLE, ↓reduceIte, reduceCtorEq, Nat.reduceEqDiff, Nat.reduceLeDiff, Nat.reduceAdd, Nat.reduceMul, Nat.reduceSub, Nat.reduceLT, ea, List.cons_append, List.nil_append]; repeat' (first | exact Ok.out | with_reducible refine And.intro ?_ ?_))
        · (simp only [go_sem, hlt, hget, hpu, hinc, Int.reduceLE, ↓reduceIte, reduceCtorEq, Nat.reduceEqDiff, Nat.reduceLeDiff, Nat.reduceAdd, Nat.reduceMul, Nat.reduceSub, Nat.reduceLT, ea, List.cons_append, List.nil_append]; repeat' (first | exact Ok.out | with_reducible refine And.intro ?_ ?_))

end Go.Abs

/-! Pr3 -/

namespace Go.Abs

set_option maxRecDepth 8000
set_option linter.unusedSimpArgs false
set_option linter.unusedVariables false
open Go.Proofs

mutual
/-- A statement's lines. -/
def rowS (inn : Nat) : Sm → Str
  | ⟨id, kind, labels, name, proc, x, has, args, thn, els⟩ =>
    if kind = 6 then lineS inn (marksS labels ++ [119, 104, 105, 108, 101, 32, 40] ++ prE 0 x ++ [41, 32, 123]) ++ rowsS (inn + 1) thn ++ lineS inn [125]
    else if kind = 5 then lineS inn (marksS labels ++ [105, 102, 32, 40] ++ prE 0 x ++ [41, 32, 123]) ++ rowsS (inn + 1) thn ++ (if els.length = 0 then [] else lineS inn [125, 32, 101, 108, 115, 101, 32, 123] ++ rowsS (inn + 1) els) ++ lineS inn [125]
    else lineS inn (marksS labels ++ plainS kind name proc x has args ++ [59])
def rowsS (inn : Nat) : List Sm → Str
  | [] => []
  | s :: l => rowS inn s ++ rowsS inn l
end
theorem rowS_eq (inn : Nat) (s : Sm) : rowS inn s = if s.kind = 6 then lineS inn (marksS s.labels ++ [119, 104, 105, 108, 101, 32, 40] ++ prE 0 s.x ++ [41, 32, 123]) ++ rowsS (inn + 1) s.thn ++ lineS inn [125]
    else if s.kind = 5 then lineS inn (marksS s.labels ++ [105, 102, 32, 40] ++ prE 0 s.x ++ [41, 32, 123]) ++ rowsS (inn + 1) s.thn ++ (if s.els.length = 0 then [] else lineS inn [125, 32, 101, 108, 115, 101, 32, 123] ++ rowsS (inn + 1) s.els) ++ lineS inn [125]
    else lineS inn (marksS s.labels ++ plainS s.kind s.name s.proc s.x s.has s.args ++ [59]) := by
  cases s; simp only [rowS]

mutual
/-- It can be written, so far in. -/
def Sm.PrR (inn : Nat) : Sm → Prop
  | ⟨id, kind, labels, name, proc, x, has, args, thn, els⟩ => Sm.PrO ⟨id, kind, labels, name, proc, x, has, args, thn, els⟩ ∧ inn ≤ 12 ∧ Sm.PrRs (inn + 1) thn ∧ Sm.PrRs (inn + 1) els
def Sm.PrRs (inn : Nat) : List Sm → Prop
  | [] => True
  | s :: l => s.PrR inn ∧ Sm.PrRs inn l
end
theorem PrR_eq (inn : Nat) (s : Sm) : s.PrR inn ↔ s.PrO ∧ inn ≤ 12 ∧ Sm.PrRs (inn + 1) s.thn ∧ Sm.PrRs (inn + 1) s.els := by cases s; simp only [Sm.PrR]
theorem PrRs_mem {inn : Nat} {s : Sm} : ∀ {l : List Sm}, Sm.PrRs inn l → s ∈ l → s.PrR inn
  | y :: l, h, m => by
    simp only [Sm.PrRs] at h
    rcases List.mem_cons.1 m with rfl | m
    · exact h.1
    · exact PrRs_mem h.2 m

theorem plainS_len {s : Sm} (h : s.PrO) : (plainS s.kind s.name s.proc s.x s.has s.args).length ≤ 25 * s.x.size + 27 * Ar.sizes s.args + 30 := by
  obtain ⟨hx, _, hname, hproc, hargs, _, _⟩ := h
  have hal := args_len hargs
  have hns := nodes_size s.x.size s.x (Nat.le_refl _)
  unfold plainS
  split
  · rename_i k
    have := prE_len (hx (by simp [Sm.hasX, k])) 0
    simp only [List.length_append, List.length_cons, List.length_nil]; omega
  split
  · simp only [List.length_append, List.length_cons, List.length_nil]; omega
  split
  · rename_i k
    have := prE_len (hx (by simp [Sm.hasX, k])) 0
    simp only [List.length_append, List.length_cons, List.length_nil]; omega
  split
  · simp only [List.length_append, List.length_cons, List.length_nil]; omega
  split
  · simp only [List.length_append, List.length_cons, List.length_nil]; omega
  split
  · simp only [List.length_append, List.length_cons, List.length_nil]; omega
  split
  · rename_i k
    split
    · rename_i kh
      have := prE_len (hx (by simp [Sm.hasX, k, kh])) 0
      simp only [List.length_append, List.length_cons, List.length_nil]; omega
    · simp only [List.length_append, List.length_cons, List.length_nil]; omega
  · unfold callS
    split <;> simp only [List.length_append, List.length_cons, List.length_nil] <;> omega

mutual
theorem rowS_len : ∀ {inn : Nat} (s : Sm), s.PrR inn → (rowS inn s).length ≤ 200 * s.size
  | inn, ⟨id, kind, labels, name, proc, x, has, args, thn, els⟩, h => by
    obtain ⟨ho, hi, ht, he⟩ := (PrR_eq _ _).1 h
    have h1 := rowsS_len thn ht
    have h2 := rowsS_len els he
    have h3 := marksS_len ho.lab
    have h4 := plainS_len ho
    have h6 := nodes_size x.size x (Nat.le_refl _)
    dsimp only at h3 h4
    simp only [rowS, Sm.size]
    split
    · rename_i k
      have h5 := prE_len (ho.x (by simp [Sm.hasX, k])) 0
      dsimp only at h5
      simp only [List.length_append, List.length_cons, List.length_nil, lineS_len]; omega
    split
    · rename_i k
      have h5 := prE_len (ho.x (by simp [Sm.hasX, k])) 0
      dsimp only at h5
      split <;> simp only [List.length_append, List.length_cons, List.length_nil, lineS_len] <;> omega
    · simp only [List.length_append, List.length_cons, List.length_nil, lineS_len]; omega
theorem rowsS_len : ∀ {inn : Nat} (l : List Sm), Sm.PrRs inn l → (rowsS inn l).length ≤ 200 * Sm.sizes l
  | _, [], _ => by simp [rowsS, Sm.sizes]
  | inn, s :: l, h => by
    simp only [Sm.PrRs] at h
    have h1 := rowS_len s h.1
    have h2 := rowsS_len l h.2
    simp only [rowsS, Sm.sizes, List.length_append]; omega
end

/-! ### The walk -/

def slen (l : Str) : Nat := l.length
theorem Fun.bldz {P : Program} {f : Nat} {args : List D} {l l' : Str} {d : D} (h : Fun P f (.ptr 0 0 :: args) ⟨[bobj 0 0 l], [some (slen l)]⟩ d ⟨[bobj 0 0 l'], [some (slen l')]⟩) (ha : D.oks 0 0 args = true) (hd : D.ok 0 0 d = true)
    {s : St} {o t : Nat} (ho : s.objs[o]? = some (bobj o t l)) (ht : s.toks[t]? = some (some (slen l))) : Fun P f (.ptr o 0 :: args) s d ⟨s.objs.set o (bobj o t l'), s.toks.set t (some (slen l'))⟩ := Fun.bld h ha hd ho ht
theorem line_z {l : Str} (n : Nat) (m : Str) (h : l.length + n + m.length + 1 ≤ 549755813888) {s : St} {o t : Nat} (ho : s.objs[o]? = some (bobj o t l)) (ht : s.toks[t]? = some (some (slen l))) :
    Fun Tryd.prog n_print_writer_line [.ptr o 0, .int .i64 n, .str m] s (.tuple []) ⟨s.objs.set o (bobj o t (l ++ lineS n m)), s.toks.set t (some (slen (l ++ lineS n m)))⟩ := (line_0 m n l h).bld rfl rfl ho ht

theorem prows_n : ∀ (m : Nat) (l : List Sm), Sm.sizes l ≤ m → Sm.sizes l ≤ 1000000 → ∀ (inn : Nat), Sm.PrRs inn l → ∀ acc : Str, acc.length + 200 * Sm.sizes l ≤ 540000000000 →
    Fun Tryd.prog n_print_writer_rows [.ptr 0 0, .slice .shared 13 (l.map encSm), .int .i64 inn] ⟨[bobj 0 0 acc], [some (slen acc)]⟩ (.tuple []) ⟨[bobj 0 0 (acc ++ rowsS inn l)], [some (slen (acc ++ rowsS inn l))]⟩ := by
  intro m
  induction m with
  | zero =>
    intro l h hs inn hp acc hb
    cases l with
    | nil =>
      have z : decide ((0 : Int) < 0) = false := rfl
      simp only [rowsS, List.append_nil]
      refine Fun.go has_print_writer_rows rfl fun B Q hB hQ => ?_
      have hlt : 0 < 1 := Nat.zero_lt_one
      have hget : 0 < 1 := Nat.zero_lt_one
      have hpu : 0 < 1 := Nat.zero_lt_one
      have hinc : 0 < 1 := Nat.zero_lt_one
      repeat' (first
 | simp only [go_sem, hlt, hget, hpu, hinc, Int.reduceLE, ↓reduceIte, reduceCtorEq, Nat.reduceEqDiff, Nat.reduceLeDiff, Nat.reduceAdd, Nat.reduceMul, Nat.reduceSub, Nat.reduceLT, z]
 | (with_reducible refine SemL.onceW ?_)
 | (with_reducible first | refine CB_ofT (by assumption) fun hc => ?_ | refine CB_ofF (by assumption) fun hc => ?_ | refine CB_split (fun hc => ?_) fun hc => ?_) <;> (try simp only [hc, bs, ↓reduceIte] at h) <;> (try simp only [hc])
 | ((with_reducible first | refine leafR hQ ?_ | refine leafN hQ ?_); (try cases h); simp only [resL, oneD, Option.some.injEq, exists_eq_left', go_sem, hlt, hget, hpu, hinc, Int.reduceLE, ↓reduceIte, reduceCtorEq, Nat.reduceEqDiff, Nat.reduceLeDiff, Nat.reduceAdd, Nat.reduceMul, Nat.reduceSub, Nat.reduceLT, z]; repeat' (first | exact Ok.out | with_reducible refine And.intro ?_ ?_ | (simp; done)))
 | (cases h; replace h := hr; clear hr; (try simp only [bs, ↓reduceIte] at h))
 | (cases h; done))
    | cons s l => simp only [Sm.sizes] at h; omega
  | succ m ih =>
    intro l h hs inn hp acc0 hb
    generalize hR : acc0 ++ rowsS inn l = R
    have hlen := Sm.sizes_len l
    refine Fun.go has_print_writer_rows rfl fun B Q hB hQ => ?_
    have hlt : 0 < 1 := Nat.zero_lt_one
    have hget : 0 < 1 := Nat.zero_lt_one
    have hpu : 0 < 1 := Nat.zero_lt_one
    have hinc : 0 < 1 := Nat.zero_lt_one
    repeat' (first
 | simp only [go_sem, hlt, hget, hpu, hinc, Int.reduceLE, ↓reduceIte, reduceCtorEq, Nat.reduceEqDiff, Nat.reduceLeDiff, Nat.reduceAdd, Nat.reduceMul, Nat.reduceSub, Nat.reduceLT]
 | (with_reducible first | refine CB_ofT (by assumption) fun hc => ?_ | refine CB_ofF (by assumption) fun hc => ?_ | refine CB_split (fun hc => ?_) fun hc => ?_) <;> (try simp only [hc, bs, ↓reduceIte] at h) <;> (try simp only [hc])
 | ((with_reducible first | refine leafR hQ ?_ | refine leafN hQ ?_); (try cases h); simp only [resL, oneD, Option.some.injEq, exists_eq_left', go_sem, hlt, hget, hpu, hinc, Int.reduceLE, ↓reduceIte, reduceCtorEq, Nat.reduceEqDiff, Nat.reduceLeDiff, Nat.reduceAdd, Nat.reduceMul, Nat.reduceSub, Nat.reduceLT]; repeat' (first | exact Ok.out | with_reducible refine And.intro ?_ ?_ | (simp; done)))
 | (cases h; replace h := hr; clear hr; (try simp only [bs, ↓reduceIte] at h))
 | (cases h; done))
    refine SemL.re _ _ 1 1 (by rw [hB]; exact Nat.le_of_ble_eq_true rfl) (by rw [hB]; exact Nat.le_of_ble_eq_true rfl) ?_ ?_ (SemL.ind (ι := List Sm × Nat × Str) (fun i => l.drop i.2.1 = i.1 ∧ i.2.2 ++ rowsS inn i.1 = R ∧ i.2.2.length + 200 * Sm.sizes i.1 ≤ 540000000000) (fun i => i.1.length)
      (fun i => [(0, .ptr 0 0), (2, .int .i64 (inn : Int)), (9, .slice .shared 13 (l.map encSm)), (10, .int .i64 (l.length : Int)), (11, .int .i64 (i.2.1 : Int))]) (fun i => ⟨[bobj 0 0 i.2.2], [some (slen i.2.2)]⟩) ?_ (l, 0, acc0) ⟨rfl, hR, hb⟩)
    · (simp only [go_sem, hlt, hget, hpu, hinc, Int.reduceLE, ↓reduceIte, reduceCtorEq, Nat.reduceEqDiff, Nat.reduceLeDiff, Nat.reduceAdd, Nat.reduceMul, Nat.reduceSub, Nat.reduceLT]; repeat' (first | exact Ok.out | with_reducible refine And.intro ?_ ?_))
    · (simp only [go_sem, hlt, hget, hpu, hinc, Int.reduceLE, ↓reduceIte, reduceCtorEq, Nat.reduceEqDiff, Nat.reduceLeDiff, Nat.reduceAdd, Nat.reduceMul, Nat.reduceSub, Nat.reduceLT]; repeat' (first | exact Ok.out | with_reducible refine And.intro ?_ ?_))
    rintro ⟨rest, k, acc⟩ ⟨h1, h2, h3⟩ IH
    dsimp only at h1 h2 h3
    cases rest with
    | nil =>
      have hlt := drop_nil h1
      simp only [rowsS, List.append_nil] at h2
      repeat' (first
 | simp only [go_sem, hlt, hget, hpu, hinc, Int.reduceLE, ↓reduceIte, reduceCtorEq, Nat.reduceEqDiff, Nat.reduceLeDiff, Nat.reduceAdd, Nat.reduceMul, Nat.reduceSub, Nat.reduceLT, h2]
 | (with_reducible first | refine CB_ofT (by assumption) fun hc => ?_ | refine CB_ofF (by assumption) fun hc => ?_ | refine CB_split (fun hc => ?_) fun hc => ?_) <;> (try simp only [hc, bs, ↓reduceIte] at h) <;> (try simp only [hc])
 | ((with_reducible first | refine leafR hQ ?_ | refine leafN hQ ?_); (try cases h); simp only [resL, oneD, Option.some.injEq, exists_eq_left', go_sem, hlt, hget, hpu, hinc, Int.reduceLE, ↓reduceIte, reduceCtorEq, Nat.reduceEqDiff, Nat.reduceLeDiff, Nat.reduceAdd, Nat.reduceMul, Nat.reduceSub, Nat.reduceLT, h2]; repeat' (first | exact Ok.out | with_reducible refine And.intro ?_ ?_ | (simp; done)))
 | (cases h; replace h := hr; clear hr; (try simp only [bs, ↓reduceIte] at h))
 | (cases h; done))
    | cons s rest =>
      obtain ⟨hget, g2, hlt, g4⟩ := drop_cons h1
      have hmem := List.mem_of_getElem? hget
      have hsz := Sm.sizes_mem hmem
      have hPR := PrRs_mem hp hmem
      obtain ⟨ho, hin, hpt, hpe⟩ := (PrR_eq _ _).1 hPR
      have hk : k < 4611686018427387904 := by omega
      have hsz2 : s.labels.length + s.x.size + Ar.sizes s.args + Sm.sizes s.thn + Sm.sizes s.els + 1 ≤ s.size := by cases s; simp only [Sm.size]; omega
      have w1 : IntKind.wrap .i64 ((k : Int) + 1) = ((k + 1 : Nat) : Int) := by rw [wrap_ok] <;> omega
      have w2 : IntKind.wrap .i64 ((inn : Int) + 1) = ((inn + 1 : Nat) : Int) := by rw [wrap_ok] <;> omega
      simp only [Sm.sizes] at h3
      have lm := marksS_len ho.lab
      have lp := plainS_len ho
      have lt := rowsS_len s.thn hpt
      have le := rowsS_len s.els hpe
      have ln := nodes_size s.x.size s.x (Nat.le_refl _)
      have em := fun st => pmarks_s (by omega) ho.lab st
      have hrow := rowS_eq inn s
      have lr := rowS_len s hPR
      simp only [rowsS] at h2
      cases c6 : s.kind == 6 with
      | true =>
        have hx : FormI s.x := ho.x (by simp [Sm.hasX, c6])
        have lx := prE_len hx 0
        have ee := fun st => pexpr_s hx (by omega) (least := 0) st
        have b1 : (marksS s.labels).length + 1 + 1 + 1 + 1 + 1 + 1 + 1 ≤ maxStr := by unfold maxStr; omega
        have b2 : (marksS s.labels).length + 1 + 1 + 1 + 1 + 1 + 1 + 1 + (prE 0 s.x).length ≤ maxStr := by unfold maxStr; omega
        have b3 : (marksS s.labels).length + 1 + 1 + 1 + 1 + 1 + 1 + 1 + (prE 0 s.x).length + 1 + 1 + 1 ≤ maxStr := by unfold maxStr; omega
        have e1 := fun st a b => line_z (l := acc) inn (marksS s.labels ++ [119, 104, 105, 108, 101, 32, 40] ++ prE 0 s.x ++ [41, 32, 123]) (by simp only [List.length_append, List.length_cons, List.length_nil]; omega) (s := st) (o := 0) (t := 0) a b
        have e2 := fun st a b => (ih s.thn (by omega) (by omega) (inn + 1) hpt (acc ++ lineS inn (marksS s.labels ++ [119, 104, 105, 108, 101, 32, 40] ++ prE 0 s.x ++ [41, 32, 123])) (by simp only [List.length_append, List.length_cons, List.length_nil, lineS_len]; omega)).bldz (by simp [D.oks, D.ok, okrSm, Tag.ok]) rfl (s := st) (o := 0) (t := 0) a b
        have e3 := fun st a b => line_z (l := acc ++ lineS inn (marksS s.labels ++ [119, 104, 105, 108, 101, 32, 40] ++ prE 0 s.x ++ [41, 32, 123]) ++ rowsS (inn + 1) s.thn) inn [125] (by simp only [List.length_append, List.length_cons, List.length_nil, lineS_len]; omega) (s := st) (o := 0) (t := 0) a b
        rw [if_pos (by simpa using c6)] at hrow
        repeat' (first
 | simp only [go_sem, hlt, hget, hpu, hinc, Int.reduceLE, ↓reduceIte, reduceCtorEq, Nat.reduceEqDiff, Nat.reduceLeDiff, Nat.reduceAdd, Nat.reduceMul, Nat.reduceSub, Nat.reduceLT, c6, b1, b2, b3, w1, w2]
 | (with_reducible refine CU (em _) ?_)
 | (with_reducible refine CU (ee _) ?_)
 | (with_reducible refine CU (e1 _ (by with_unfolding_all rfl) (by with_unfolding_all rfl)) ?_)
 | (with_reducible refine CU (e2 _ (by with_unfolding_all rfl) (by with_unfolding_all rfl)) ?_)
 | (with_reducible refine CU (e3 _ (by with_unfolding_all rfl) (by with_unfolding_all rfl)) ?_)
 | (with_reducible first | refine CB_ofT (by assumption) fun hc => ?_ | refine CB_ofF (by assumption) fun hc => ?_ | refine CB_split (fun hc => ?_) fun hc => ?_) <;> (try simp only [hc, bs, ↓reduceIte] at h) <;> (try simp only [hc])
 | ((with_reducible first | refine leafR hQ ?_ | refine leafN hQ ?_); (try cases h); simp only [resL, oneD, Option.some.injEq, exists_eq_left', go_sem, hlt, hget, hpu, hinc, Int.reduceLE, ↓reduceIte, reduceCtorEq, Nat.reduceEqDiff, Nat.reduceLeDiff, Nat.reduceAdd, Nat.reduceMul, Nat.reduceSub, Nat.reduceLT, c6, b1, b2, b3, w1, w2]; repeat' (first | exact Ok.out | with_reducible refine And.intro ?_ ?_ | (simp; done)))
 | (cases h; replace h := hr; clear hr; (try simp only [bs, ↓reduceIte] at h))
 | (cases h; done))
        refine SemL.re _ _ 1 1 (by rw [hB]; exact Nat.le_of_ble_eq_true rfl) (by rw [hB]; exact Nat.le_of_ble_eq_true rfl) ?_ ?_ (IH (rest, k + 1, acc ++ lineS inn (marksS s.labels ++ [119, 104, 105, 108, 101, 32, 40] ++ prE 0 s.x ++ [41, 32, 123]) ++ rowsS (inn + 1) s.thn ++ lineS inn [125]) ⟨g2, by rw [← h2, hrow]; simp only [List.append_assoc], by rw [hrow] at lr; simp only [List.length_append] at lr ⊢; omega⟩ (by simp))
        · (simp only [go_sem, hlt, hget, hpu, hinc, Int.reduceLE, ↓reduceIte, reduceCtorEq, Nat.reduceEqDiff, Nat.reduceLeDiff, Nat.reduceAdd, Nat.reduceMul, Nat.reduceSub, Nat.reduceLT]; repeat' (first | exact Ok.out | with_reducible refine And.intro ?_ ?_))
        · (simp only [go_sem, hlt, hget, hpu, hinc, Int.reduceLE, ↓reduceIte, reduceCtorEq, Nat.reduceEqDiff, Nat.reduceLeDiff, Nat.reduceAdd, Nat.reduceMul, Nat.reduceSub, Nat.reduceLT]; repeat' (first | exact Ok.out | with_reducible refine And.intro ?_ ?_))
      | false =>
      cases c5 : s.kind == 5 with
      | true =>
        have hx : FormI s.x := ho.x (by simp [Sm.hasX, c5])
        have lx := prE_len hx 0
        have ee := fun st => pexpr_s hx (by omega) (least := 0) st
        have b1 : (marksS s.labels).length + 1 + 1 + 1 + 1 ≤ maxStr := by unfold maxStr; omega
        have b2 : (marksS s.labels).length + 1 + 1 + 1 + 1 + (prE 0 s.x).length ≤ maxStr := by unfold maxStr; omega
        have b3 : (marksS s.labels).length + 1 + 1 + 1 + 1 + (prE 0 s.x).length + 1 + 1 + 1 ≤ maxStr := by unfold maxStr; omega
        have e1 := fun st a b => line_z (l := acc) inn (marksS s.labels ++ [105, 102, 32, 40] ++ prE 0 s.x ++ [41, 32, 123]) (by simp only [List.length_append, List.length_cons, List.length_nil]; omega) (s := st) (o := 0) (t := 0) a b
        have e2 := fun st a b => (ih s.thn (by omega) (by omega) (inn + 1) hpt (acc ++ lineS inn (marksS s.labels ++ [105, 102, 32, 40] ++ prE 0 s.x ++ [41, 32, 123])) (by simp only [List.length_append, List.length_cons, List.length_nil, lineS_len]; omega)).bldz (by simp [D.oks, D.ok, okrSm, Tag.ok]) rfl (s := st) (o := 0) (t := 0) a b
        rw [if_neg (by simpa using c6), if_pos (by simpa using c5)] at hrow
        cases ce : decide ((s.els.length : Int) > 0) with
        | true =>
          have ce' : s.els.length ≠ 0 := by have := of_decide_eq_true ce; omega
          rw [if_neg ce'] at hrow
          have e3 := fun st a b => line_z (l := acc ++ lineS inn (marksS s.labels ++ [105, 102, 32, 40] ++ prE 0 s.x ++ [41, 32, 123]) ++ rowsS (inn + 1) s.thn) inn [125, 32, 101, 108, 115, 101, 32, 123] (by simp only [List.length_append, List.length_cons, List.length_nil, lineS_len]; omega) (s := st) (o := 0) (t := 0) a b
          have e4 := fun st a b => (ih s.els (by omega) (by omega) (inn + 1) hpe (acc ++ lineS inn (marksS s.labels ++ [105, 102, 32, 40] ++ prE 0 s.x ++ [41, 32, 123]) ++ rowsS (inn + 1) s.thn ++ lineS inn [125, 32, 101, 108, 115, 101, 32, 123]) (by simp only [List.length_append, List.length_cons, List.length_nil, lineS_len]; omega)).bldz (by simp [D.oks, D.ok, okrSm, Tag.ok]) rfl (s := st) (o := 0) (t := 0) a b
          have e5 := fun st a b => line_z (l := acc ++ lineS inn (marksS s.labels ++ [105, 102, 32, 40] ++ prE 0 s.x ++ [41, 32, 123]) ++ rowsS (inn + 1) s.thn ++ lineS inn [125, 32, 101, 108, 115, 101, 32, 123] ++ rowsS (inn + 1) s.els) inn [125] (by simp only [List.length_append, List.length_cons, List.length_nil, lineS_len]; omega) (s := st) (o := 0) (t := 0) a b
          repeat' (first
 | simp only [go_sem, hlt, hget, hpu, hinc, Int.reduceLE, ↓reduceIte, reduceCtorEq, Nat.reduceEqDiff, Nat.reduceLeDiff, Nat.reduceAdd, Nat.reduceMul, Nat.reduceSub, Nat.reduceLT, c6, c5, ce, b1, b2, b3, w1, w2]
 | (with_reducible refine CU (em _) ?_)
 | (with_reducible refine CU (ee _) ?_)
 | (with_reducible refine CU (e1 _ (by with_unfolding_all rfl) (by with_unfolding_all rfl)) ?_)
 | (with_reducible refine CU (e2 _ (by with_unfolding_all rfl) (by with_unfolding_all rfl)) ?_)
 | (with_reducible refine CU (e3 _ (by with_unfolding_all rfl) (by with_unfolding_all rfl)) ?_)
 | (with_reducible refine CU (e4 _ (by with_unfolding_all rfl) (by with_unfolding_all rfl)) ?_)
 | (with_reducible refine CU (e5 _ (by with_unfolding_all rfl) (by with_unfolding_all rfl)) ?_)
 | (with_reducible first | refine CB_ofT (by assumption) fun hc => ?_ | refine CB_ofF (by assumption) fun hc => ?_ | refine CB_split (fun hc => ?_) fun hc => ?_) <;> (try simp only [hc, bs, ↓reduceIte] at h) <;> (try simp only [hc])
 | ((with_reducible first | refine leafR hQ ?_ | refine leafN hQ ?_); (try cases h); simp only [resL, oneD, Option.some.injEq, exists_eq_left', go_sem, hlt, hget, hpu, hinc, Int.reduceLE, ↓reduceIte, reduceCtorEq, Nat.reduceEqDiff, Nat.reduceLeDiff, Nat.reduceAdd, Nat.reduceMul, Nat.reduceSub, Nat.reduceLT, c6, c5, ce, b1, b2, b3, w1, w2]; repeat' (first | exact Ok.out | with_reducible refine And.intro ?_ ?_ | (simp; done)))
 | (cases h; replace h := hr; clear hr; (try simp only [bs, ↓reduceIte] at h))
 | (cases h; done))
          refine SemL.re _ _ 1 1 (by rw [hB]; exact Nat.le_of_ble_eq_true rfl) (by rw [hB]; exact Nat.le_of_ble_eq_true rfl) ?_ ?_ (IH (rest, k + 1, acc ++ lineS inn (marksS s.labels ++ [105, 102, 32, 40] ++ prE 0 s.x ++ [41, 32, 123]) ++ rowsS (inn + 1) s.thn ++ lineS inn [125, 32, 101, 108, 115, 101, 32, 123] ++ rowsS (inn + 1) s.els ++ lineS inn [125]) ⟨g2, by rw [← h2, hrow]; simp only [List.append_assoc], by rw [hrow] at lr; simp only [List.length_append] at lr ⊢; omega⟩ (by simp))
          · (simp only [go_sem, hlt, hget, hpu, hinc, Int.reduceLE, ↓reduceIte, reduceCtorEq, Nat.reduceEqDiff, Nat.reduceLeDiff, Nat.reduceAdd, Nat.reduceMul, Nat.reduceSub, Nat.reduceLT]; repeat' (first | exact Ok.out | with_reducible refine And.intro ?_ ?_))
          · (simp only [go_sem, hlt, hget, hpu, hinc, Int.reduceLE, ↓reduceIte, reduceCtorEq, Nat.reduceEqDiff, Nat.reduceLeDiff, Nat.reduceAdd, Nat.reduceMul, Nat.reduceSub, Nat.reduceLT]; repeat' (first | exact Ok.out | with_reducible refine And.intro ?_ ?_))
        | false =>
          have ce' : s.els.length = 0 := by have := of_decide_eq_false ce; omega
          rw [if_pos ce'] at hrow
          have e3 := fun st a b => line_z (l := acc ++ lineS inn (marksS s.labels ++ [105, 102, 32, 40] ++ prE 0 s.x ++ [41, 32, 123]) ++ rowsS (inn + 1) s.thn) inn [125] (by simp only [List.length_append, List.length_cons, List.length_nil, lineS_len]; omega) (s := st) (o := 0) (t := 0) a b
          repeat' (first
 | simp only [go_sem, hlt, hget, hpu, hinc, Int.reduceLE, ↓reduceIte, reduceCtorEq, Nat.reduceEqDiff, Nat.reduceLeDiff, Nat.reduceAdd, Nat.reduceMul, Nat.reduceSub, Nat.reduceLT, c6, c5, ce, b1, b2, b3, w1, w2]
 | (with_reducible refine CU (em _) ?_)
 | (with_reducible refine CU (ee _) ?_)
 | (with_reducible refine CU (e1 _ (by with_unfolding_all rfl) (by with_unfolding_all rfl)) ?_)
 | (with_reducible refine CU (e2 _ (by with_unfolding_all rfl) (by with_unfolding_all rfl)) ?_)
 | (with_reducible refine CU (e3 _ (by with_unfolding_all rfl) (by with_unfolding_all rfl)) ?_)
 | (with_reducible first | refine CB_ofT (by assumption) fun hc => ?_ | refine CB_ofF (by assumption) fun hc => ?_ | refine CB_split (fun hc => ?_) fun hc => ?_) <;> (try simp only [hc, bs, ↓reduceIte] at h) <;> (try simp only [hc])
 | ((with_reducible first | refine leafR hQ ?_ | refine leafN hQ ?_); (try cases h); simp only [resL, oneD, Option.some.injEq, exists_eq_left', go_sem, hlt, hget, hpu, hinc, Int.reduceLE, ↓reduceIte, reduceCtorEq, Nat.reduceEqDiff, Nat.reduceLeDiff, Nat.reduceAdd, Nat.reduceMul, Nat.reduceSub, Nat.reduceLT, c6, c5, ce, b1, b2, b3, w1, w2]; repeat' (first | exact Ok.out | with_reducible refine And.intro ?_ ?_ | (simp; done)))
 | (cases h; replace h := hr; clear hr; (try simp only [bs, ↓reduceIte] at h))
 | (cases h; done))
          refine SemL.re _ _ 1 1 (by rw [hB]; exact Nat.le_of_ble_eq_true rfl) (by rw [hB]; exact Nat.le_of_ble_eq_true rfl) ?_ ?_ (IH (rest, k + 1, acc ++ lineS inn (marksS s.labels ++ [105, 102, 32, 40] ++ prE 0 s.x ++ [41, 32, 123]) ++ rowsS (inn + 1) s.thn ++ lineS inn [125]) ⟨g2, by rw [← h2, hrow]; simp only [List.append_assoc, List.nil_append], by rw [hrow] at lr; simp only [List.length_append] at lr ⊢; omega⟩ (by simp))
          · (simp only [go_sem, hlt, hget, hpu, hinc, Int.reduceLE, ↓reduceIte, reduceCtorEq, Nat.reduceEqDiff, Nat.reduceLeDiff, Nat.reduceAdd, Nat.reduceMul, Nat.reduceSub, Nat.reduceLT]; repeat' (first | exact Ok.out | with_reducible refine And.intro ?_ ?_))
          · (simp only [go_sem, hlt, hget, hpu, hinc, Int.reduceLE, ↓reduceIte, reduceCtorEq, Nat.reduceEqDiff, Nat.reduceLeDiff, Nat.reduceAdd, Nat.reduceMul, Nat.reduceSub, Nat.reduceLT]; repeat' (first | exact Ok.out | with_reducible refine And.intro ?_ ?_))
      | false =>
        have ep := fun st => pplain_s ho (by omega) st
        have b1 : (marksS s.labels).length + (plainS s.kind s.name s.proc s.x s.has s.args).length ≤ maxStr := by unfold maxStr; omega
        have b2 : (marksS s.labels).length + (plainS s.kind s.name s.proc s.x s.has s.args).length + 1 ≤ maxStr := by unfold maxStr; omega
        have e1 := fun st a b => line_z (l := acc) inn (marksS s.labels ++ plainS s.kind s.name s.proc s.x s.has s.args ++ [59]) (by simp only [List.length_append, List.length_cons, List.length_nil]; omega) (s := st) (o := 0) (t := 0) a b
        rw [if_neg (by simpa using c6), if_neg (by simpa using c5)] at hrow
        repeat' (first
 | simp only [go_sem, hlt, hget, hpu, hinc, Int.reduceLE, ↓reduceIte, reduceCtorEq, Nat.reduceEqDiff, Nat.reduceLeDiff, Nat.reduceAdd, Nat.reduceMul, Nat.reduceSub, Nat.reduceLT, c6, c5, b1, b2, w1, w2]
 | (with_reducible refine CU (em _) ?_)
 | (with_reducible refine CU (ep _) ?_)
 | (with_reducible refine CU (e1 _ (by with_unfolding_all rfl) (by with_unfolding_all rfl)) ?_)
 | (with_reducible first | refine CB_ofT (by assumption) fun hc => ?_ | refine CB_ofF (by assumption) fun hc => ?_ | refine CB_split (fun hc => ?_) fun hc => ?_) <;> (try simp only [hc, bs, ↓reduceIte] at h) <;> (try simp only [hc])
 | ((with_reducible first | refine leafR hQ ?_ | refine leafN hQ ?_); (try cases h); simp only [resL, oneD, Option.some.injEq, exists_eq_left', go_sem, hlt, hget, hpu, hinc, Int.reduceLE, ↓reduceIte, reduceCtorEq, Nat.reduceEqDiff, Nat.reduceLeDiff, Nat.reduceAdd, Nat.reduceMul, Nat.reduceSub, Nat.reduceLT, c6, c5, b1, b2, w1, w2]; repeat' (first | exact Ok.out | with_reducible refine And.intro ?_ ?_ | (simp; done)))
 | (cases h; replace h := hr; clear hr; (try simp only [bs, ↓reduceIte] at h))
 | (cases h; done))
        refine SemL.re _ _ 1 1 (by rw [hB]; exact Nat.le_of_ble_eq_true rfl) (by rw [hB]; exact Nat.le_of_ble_eq_true rfl) ?_ ?_ (IH (rest, k + 1, acc ++ lineS inn (marksS s.labels ++ plainS s.kind s.name s.proc s.x s.has s.args ++ [59])) ⟨g2, by rw [← h2, hrow]; simp only [List.append_assoc], by rw [hrow] at lr; simp only [List.length_append] at lr ⊢; omega⟩ (by simp))
        · (simp only [go_sem, hlt, hget, hpu, hinc, Int.reduceLE, ↓reduceIte, reduceCtorEq, Nat.reduceEqDiff, Nat.reduceLeDiff, Nat.reduceAdd, Nat.reduceMul, Nat.reduceSub, Nat.reduceLT]; repeat' (first | exact Ok.out | with_reducible refine And.intro ?_ ?_))
        · (simp only [go_sem, hlt, hget, hpu, hinc, Int.reduceLE, ↓reduceIte, reduceCtorEq, Nat.reduceEqDiff, Nat.reduceLeDiff, Nat.reduceAdd, Nat.reduceMul, Nat.reduceSub, Nat.reduceLT]; repeat' (first | exact Ok.out | with_reducible refine And.intro ?_ ?_))

end Go.Abs

/-! Own -/

namespace Go.Abs

theorem Rel.ownO {M : Map} {s : St} {w : World} (r : Rel M s w) (o i z' : Nat) (y : Bool) {cs : List D} (hc : s.objs[o]? = some cs) (hi : cs[i]? = some (.val (.slice none 0 0))) :
    Rel (M.setT s.toks.length none) ⟨s.objs.set o (cs.set i (.slice (.tok s.toks.length y) z' [])), s.toks ++ [some 0]⟩ w ∧ Le M s (M.setT s.toks.length none) ⟨s.objs.set o (cs.set i (.slice (.tok s.toks.length y) z' [])), s.toks ++ [some 0]⟩ ∧
    Ext M s w (M.setT s.toks.length none) ⟨s.objs.set o (cs.set i (.slice (.tok s.toks.length y) z' [])), s.toks ++ [some 0]⟩ w := by
  obtain ⟨r', le⟩ := r.blank
  have le' : Le M s (M.setT s.toks.length none) ⟨s.objs.set o (cs.set i (.slice (.tok s.toks.length y) z' [])), s.toks ++ [some 0]⟩ := ⟨le.G, by simp, le.loc, le.t, le.tk⟩
  have le2 : Le (M.setT s.toks.length none) { s with toks := s.toks ++ [some 0] } (M.setT s.toks.length none) ⟨s.objs.set o (cs.set i (.slice (.tok s.toks.length y) z' [])), s.toks ++ [some 0]⟩ :=
    ⟨fun _ _ _ h => h, by simp, fun _ _ => rfl, Nat.le_refl _, fun t n' _ e => ⟨n', e, Nat.le_refl _, fun _ => rfl⟩⟩
  refine ⟨⟨r'.comm, fun o' ds e => ?_, fun o ho => r'.objG o (by simpa using ho), fun o o' ho ho' => r'.inj o o' (by simpa using ho) (by simpa using ho'), r'.tok,
      fun t b c z o hv e ho => r'.tokObj t b c z o hv e (by simpa using ho), r'.tokInj⟩, le', ?_⟩
  · simp only [List.getElem?_set] at e
    split at e
    · rename_i ho
      subst ho
      split at e
      · cases e
        obtain ⟨vs, T, g1, g2, g3, g4⟩ := r.obj o cs hc
        refine ⟨vs, T, g1, by simpa using g2, g3, fun j d v e1 e2 => ?_⟩
        rw [List.getElem?_set] at e1
        split at e1
        · rename_i hj
          subst hj
          split at e1
          · cases e1
            exact ((g4 i _ v hi e2).ownB (z' := z') (y := y)).mono le2
          · cases e1
        · exact (g4 j d v e1 e2).mono le'
      · cases e
    · obtain ⟨vs, T, g1, g2, g3, g4⟩ := r'.obj o' ds e
      exact ⟨vs, T, g1, g2, g3, fun i d v e1 e2 => (g4 i d v e1 e2).mono le2⟩
  · refine (ext_blank (Ext.refl M s w) le).trans ⟨le2, fun _ _ _ _ => rfl, fun o h1 h2 => ?_, fun t b c z hl e => .inl ⟨hl, c, z, e⟩, fun _ _ h => (h rfl).elim, Nat.le_refl _, rfl, rfl, rfl⟩
    simp at h2
    exact absurd h2 (Nat.not_lt.2 h1)

theorem SemL.tokB {P : Program} {B : Base} {nt : Nat} {a : AC} {Q : Exit → Tm → St → Prop} {tm : Tm} {s : St} (o i z' : Nat) (y : Bool) {cs : List D} (hc : s.objs[o]? = some cs) (hi : cs[i]? = some (.val (.slice none 0 0)))
    (h : SemL P B nt a Q tm ⟨s.objs.set o (cs.set i (.slice (.tok s.toks.length y) z' [])), s.toks ++ [some 0]⟩) : SemL P B nt a Q tm s := by
  intro c hcc act w hh
  obtain ⟨M, e, r, ht, h1, h2⟩ := hh
  obtain ⟨r2, le', ee⟩ := r.ownO o i z' y hc hi
  exact h c hcc act w ⟨_, e.trans ee, r2, fun k => (ht k).mono le', h1, h2⟩

theorem ACalls.tokB {P : Program} {f : FuncId} {args : List D} {s : St} {Q : D → St → Prop} (o i z' : Nat) (y : Bool) {cs : List D} (hc : s.objs[o]? = some cs) (hi : cs[i]? = some (.val (.slice none 0 0)))
    (h : ACalls P f args ⟨s.objs.set o (cs.set i (.slice (.tok s.toks.length y) z' [])), s.toks ++ [some 0]⟩ Q) : ACalls P f args s Q := by
  intro M w vargs r hd hl ha
  obtain ⟨r2, le', ee⟩ := r.ownO o i z' y hc hi
  refine (h _ w vargs r2 (hd.ext ee) hl fun i d v e1 e2 => (ha i d v e1 e2).mono le').mono fun e w' ⟨M', d, v, s', h1, h2, h3, h4⟩ => ⟨M', d, v, s', h1, h2, ee.trans h3, h4⟩

end Go.Abs

/-! MayEq2 -/

namespace Go.Abs
set_option linter.unusedSimpArgs false
set_option linter.unusedVariables false

theorem itmays_app : ∀ (a b : List It) (n : Nat), It.mays n (a ++ b) = (It.mays n a && It.mays (n + a.length) b)
  | [], b, n => by simp [It.mays]
  | i :: a, b, n => by
    simp only [List.cons_append, It.mays, itmays_app a b (n + 1), List.length_cons]
    have : n + 1 + a.length = n + (a.length + 1) := by omega
    rw [this]
    split <;> simp

theorem itmays_one (n : Nat) (i : It) : It.mays n [i] = true ↔ i.s.id = ((n + 1 : Nat) : Int) ∧ i.deep ≤ 12 ∧ i.s.one = true := by
  simp only [It.mays]
  split
  · rename_i h
    simp only [Bool.or_eq_true, bne_iff_ne, ne_eq, decide_eq_true_eq, Bool.not_eq_true'] at h
    refine ⟨fun h => (Bool.false_ne_true h).elim, fun ⟨h1, h2, h3⟩ => ?_⟩
    rcases h with (h | h) | h
    · exact (h h1).elim
    · omega
    · rw [h] at h3; cases h3
  · rename_i h
    simp only [Bool.or_eq_true, bne_iff_ne, ne_eq, decide_eq_true_eq, Bool.not_eq_true', not_or, Decidable.not_not, Bool.not_eq_false] at h
    exact ⟨fun _ => ⟨h.1.1, by omega, h.2⟩, fun _ => rfl⟩

mutual
theorem flatS_pre (deep inn : Int) (els : Bool) : ∀ (s : Sm) (out : List It), ∃ new, flatS deep inn els out s = out ++ (⟨s, deep, inn, els⟩ :: new)
  | ⟨id, kind, labels, name, proc, x, has, args, thn, e⟩, out => by
    simp only [flatS]
    split
    · obtain ⟨n1, h1⟩ := flatL_pre (deep + 1) id false thn (out ++ [⟨⟨id, kind, labels, name, proc, x, has, args, thn, e⟩, deep, inn, els⟩])
      obtain ⟨n2, h2⟩ := flatL_pre (deep + 1) id true e (flatL (deep + 1) id false (out ++ [⟨⟨id, kind, labels, name, proc, x, has, args, thn, e⟩, deep, inn, els⟩]) thn)
      rw [h2, h1]
      exact ⟨n1 ++ n2, by simp⟩
    · exact ⟨[], rfl⟩
theorem flatL_pre (deep inn : Int) (els : Bool) : ∀ (l : List Sm) (out : List It), ∃ new, flatL deep inn els out l = out ++ new
  | [], out => ⟨[], by simp [flatL]⟩
  | s :: l, out => by
    simp only [flatL]
    split
    · obtain ⟨n1, h1⟩ := flatS_pre deep inn els s out
      obtain ⟨n2, h2⟩ := flatL_pre deep inn els l (flatS deep inn els out s)
      rw [h2, h1]
      exact ⟨⟨s, deep, inn, els⟩ :: n1 ++ n2, by simp⟩
    · exact ⟨[], by simp⟩
end

theorem mayR_true {nest : Int} {n : Nat} {s : Sm} (h : (Sm.mayR nest n s).1 = true) :
    n + 1 ≤ 200 ∧ s.id = ((n + 1 : Nat) : Int) ∧ s.one = true ∧ (Sm.mayG (nest + 1) (n + 1) s.thn).1 = true ∧ (Sm.mayG (nest + 1) (Sm.mayG (nest + 1) (n + 1) s.thn).2 s.els).1 = true ∧
    (Sm.mayR nest n s).2 = (Sm.mayG (nest + 1) (Sm.mayG (nest + 1) (n + 1) s.thn).2 s.els).2 := by
  rw [mayR_eq] at h ⊢
  split at h
  · cases h
  rename_i h1
  simp only [Bool.or_eq_true, bne_iff_ne, ne_eq, decide_eq_true_eq, Bool.not_eq_true', not_or, Decidable.not_not, Bool.not_eq_false] at h1
  split at h
  · cases h
  rename_i h2
  have h2' : (Sm.mayG (nest + 1) (n + 1) s.thn).1 = true := by simpa using h2
  refine ⟨by omega, h1.1.1.2, ?_, h2', h, ?_⟩
  · rw [one_fields, h1.1.2, h1.2]; rfl
  · rw [if_neg (by simp only [Bool.or_eq_true, bne_iff_ne, ne_eq, decide_eq_true_eq, Bool.not_eq_true', not_or, Decidable.not_not, Bool.not_eq_false]; exact h1), if_neg h2]

theorem mayG_true {nest : Int} {n : Nat} {l : List Sm} (h : (Sm.mayG nest n l).1 = true) : (l = [] ∨ nest ≤ 12) ∧ Sm.mayG nest n l = Sm.mayL nest n l := by
  unfold Sm.mayG gate at *
  split at h
  · cases h
  · rename_i hc
    rw [if_neg hc]
    refine ⟨?_, rfl⟩
    simp only [Bool.and_eq_true, decide_eq_true_eq, not_and] at hc
    cases l with
    | nil => exact .inl rfl
    | cons s l => right; simp only [List.length_cons] at hc; omega

mutual
/-- What the program lets pass the documents let pass, too. -/
theorem mayR_flat : ∀ (s : Sm) (nest inn : Int) (els : Bool) (n : Nat) (out : List It), nest ≤ 12 → out.length ≤ n → n ≤ 200 → (Sm.mayR nest n s).1 = true →
    ∃ new, flatS nest inn els out s = out ++ new ∧ It.mays n new = true ∧ n + new.length = (Sm.mayR nest n s).2 ∧ (Sm.mayR nest n s).2 ≤ 200
  | ⟨id, kind, labels, name, proc, x, has, args, thn, e⟩, nest, inn, els, n, out, h12, ho, hn, h => by
    obtain ⟨h1, h2, h3, h4, h5, h6⟩ := mayR_true h
    dsimp only at h2 h4 h5 h6
    rw [h6]
    obtain ⟨g1, e1⟩ := mayG_true h4
    rw [e1] at h4 h5 ⊢
    obtain ⟨g2, e2⟩ := mayG_true h5
    rw [e2] at h5 ⊢
    have hit : It.mays n [(⟨⟨id, kind, labels, name, proc, x, has, args, thn, e⟩, nest, inn, els⟩ : It)] = true := (itmays_one _ _).2 ⟨h2, h12, h3⟩
    obtain ⟨n1, k1, k2, k3, k4⟩ := mayL_flat thn (nest + 1) id false (n + 1) (out ++ [⟨⟨id, kind, labels, name, proc, x, has, args, thn, e⟩, nest, inn, els⟩]) g1 (by simp; omega) h1 h4
    obtain ⟨n2, j1, j2, j3, j4⟩ := mayL_flat e (nest + 1) id true _ (out ++ [⟨⟨id, kind, labels, name, proc, x, has, args, thn, e⟩, nest, inn, els⟩] ++ n1) g2 (by simp; omega) k4 h5
    simp only [flatS]
    rw [if_pos (by simpa using h12), k1, j1]
    refine ⟨⟨⟨id, kind, labels, name, proc, x, has, args, thn, e⟩, nest, inn, els⟩ :: (n1 ++ n2), by simp, ?_, ?_, j4⟩
    · have : (⟨⟨id, kind, labels, name, proc, x, has, args, thn, e⟩, nest, inn, els⟩ : It) :: (n1 ++ n2) = [⟨⟨id, kind, labels, name, proc, x, has, args, thn, e⟩, nest, inn, els⟩] ++ n1 ++ n2 := by simp
      rw [this, itmays_app, itmays_app, hit, Bool.true_and]
      have e3 : n + ([(⟨⟨id, kind, labels, name, proc, x, has, args, thn, e⟩, nest, inn, els⟩ : It)] ++ n1).length = (Sm.mayL (nest + 1) (n + 1) thn).2 := by simp; omega
      rw [e3, j2]
      have e4 : n + [(⟨⟨id, kind, labels, name, proc, x, has, args, thn, e⟩, nest, inn, els⟩ : It)].length = n + 1 := rfl
      rw [e4, k2]; rfl
    · simp only [List.length_cons, List.length_append]; omega
theorem mayL_flat : ∀ (l : List Sm) (nest inn : Int) (els : Bool) (n : Nat) (out : List It), (l = [] ∨ nest ≤ 12) → out.length ≤ n → n ≤ 200 → (Sm.mayL nest n l).1 = true →
    ∃ new, flatL nest inn els out l = out ++ new ∧ It.mays n new = true ∧ n + new.length = (Sm.mayL nest n l).2 ∧ (Sm.mayL nest n l).2 ≤ 200
  | [], nest, inn, els, n, out, h12, ho, hn, h => ⟨[], by simp [flatL], rfl, by simp [Sm.mayL], by simpa [Sm.mayL] using hn⟩
  | s :: l, nest, inn, els, n, out, h12, ho, hn, h => by
    have h12' : nest ≤ 12 := h12.resolve_left (by simp)
    simp only [Sm.mayL] at h ⊢
    split at h
    · cases h
    rename_i hc
    rw [if_neg hc]
    obtain ⟨n1, k1, k2, k3, k4⟩ := mayR_flat s nest inn els n out h12' ho hn (by simpa using hc)
    obtain ⟨n2, j1, j2, j3, j4⟩ := mayL_flat l nest inn els _ (out ++ n1) (.inr h12') (by simp; omega) k4 h
    simp only [flatL]
    rw [if_pos (by simp only [decide_eq_true_eq]; omega), k1, j1]
    refine ⟨n1 ++ n2, by simp, ?_, by simp; omega, j4⟩
    rw [itmays_app, k2, k3, j2]; rfl
end

mutual
/-- What the documents let pass the program lets pass, too. -/
theorem flat_mayR : ∀ (s : Sm) (nest inn : Int) (els : Bool) (n : Nat) (out new : List It), flatS nest inn els out s = out ++ new → It.mays n new = true → out.length ≤ n → n + new.length ≤ 200 →
    Sm.mayR nest n s = (true, n + new.length) ∧ nest ≤ 12
  | ⟨id, kind, labels, name, proc, x, has, args, thn, e⟩, nest, inn, els, n, out, new, hfl, hm, ho, hn => by
    obtain ⟨n0, h0⟩ := flatS_pre nest inn els ⟨id, kind, labels, name, proc, x, has, args, thn, e⟩ out
    have e0 : new = ⟨⟨id, kind, labels, name, proc, x, has, args, thn, e⟩, nest, inn, els⟩ :: n0 := List.append_cancel_left (hfl.symm.trans h0)
    subst e0
    have hcons : (⟨⟨id, kind, labels, name, proc, x, has, args, thn, e⟩, nest, inn, els⟩ : It) :: n0 = [⟨⟨id, kind, labels, name, proc, x, has, args, thn, e⟩, nest, inn, els⟩] ++ n0 := rfl
    rw [hcons, itmays_app, Bool.and_eq_true] at hm
    obtain ⟨hm1, hm2⟩ := hm
    obtain ⟨c1, c2, c3⟩ := (itmays_one _ _).1 hm1
    dsimp only at c1 c2 c3
    simp only [List.length_cons] at hn ⊢
    have hfl' : flatL (nest + 1) id true (flatL (nest + 1) id false (out ++ [⟨⟨id, kind, labels, name, proc, x, has, args, thn, e⟩, nest, inn, els⟩]) thn) e = out ++ ([⟨⟨id, kind, labels, name, proc, x, has, args, thn, e⟩, nest, inn, els⟩] ++ n0) := by
      simp only [flatS] at hfl
      rw [if_pos (by simpa using c2)] at hfl
      exact hfl
    obtain ⟨n1, g1⟩ := flatL_pre (nest + 1) id false thn (out ++ [⟨⟨id, kind, labels, name, proc, x, has, args, thn, e⟩, nest, inn, els⟩])
    obtain ⟨n2, g2⟩ := flatL_pre (nest + 1) id true e (flatL (nest + 1) id false (out ++ [⟨⟨id, kind, labels, name, proc, x, has, args, thn, e⟩, nest, inn, els⟩]) thn)
    have en : n0 = n1 ++ n2 := by
      rw [g2, g1] at hfl'
      simp only [List.append_assoc, List.append_cancel_left_eq] at hfl'
      exact hfl'.symm
    subst en
    have hm2' : It.mays (n + 1) (n1 ++ n2) = true := hm2
    rw [itmays_app, Bool.and_eq_true] at hm2'
    simp only [List.length_append] at hn ⊢
    obtain ⟨r1, r2⟩ := flat_mayL thn (nest + 1) id false (n + 1) _ n1 g1 hm2'.1 (by simp; omega) (by omega)
    obtain ⟨q1, q2⟩ := flat_mayL e (nest + 1) id true (n + 1 + n1.length) _ n2 g2 hm2'.2 (by rw [g1]; simp; omega) (by omega)
    refine ⟨?_, c2⟩
    have gg : ∀ {l : List Sm} {m : Nat} {r : Bool × Nat}, Sm.mayL (nest + 1) m l = r → (l = [] ∨ nest + 1 ≤ 12) → Sm.mayG (nest + 1) m l = r := by
      intro l m r h1 h2
      unfold Sm.mayG gate
      rw [if_neg]
      · exact h1
      · simp only [Bool.and_eq_true, decide_eq_true_eq, not_and]
        rcases h2 with h2 | h2
        · subst h2; simp
        · omega
    have t1 := gg r1 r2
    have t2 := gg q1 q2
    rw [mayR_eq]
    dsimp only
    rw [t1]
    dsimp only
    rw [t2]
    rw [one_fields, Bool.and_eq_true] at c3
    rw [if_neg]
    · simp; omega
    · simp only [Bool.or_eq_true, bne_iff_ne, ne_eq, decide_eq_true_eq, Bool.not_eq_true', not_or, Decidable.not_not, Bool.not_eq_false]
      exact ⟨⟨⟨by omega, c1⟩, c3.1⟩, c3.2⟩
theorem flat_mayL : ∀ (l : List Sm) (nest inn : Int) (els : Bool) (n : Nat) (out new : List It), flatL nest inn els out l = out ++ new → It.mays n new = true → out.length ≤ n → n + new.length ≤ 200 →
    Sm.mayL nest n l = (true, n + new.length) ∧ (l = [] ∨ nest ≤ 12)
  | [], nest, inn, els, n, out, new, hfl, hm, ho, hn => by
    simp only [flatL] at hfl
    have : new = [] := by simpa using hfl
    subst this
    exact ⟨by simp [Sm.mayL], .inl rfl⟩
  | s :: l, nest, inn, els, n, out, new, hfl, hm, ho, hn => by
    simp only [flatL] at hfl
    rw [if_pos (by simp only [decide_eq_true_eq]; omega)] at hfl
    obtain ⟨n1, g1⟩ := flatS_pre nest inn els s out
    obtain ⟨n2, g2⟩ := flatL_pre nest inn els l (flatS nest inn els out s)
    have en : new = (⟨s, nest, inn, els⟩ :: n1) ++ n2 := by
      rw [g2, g1, List.append_assoc, List.append_cancel_left_eq] at hfl
      exact hfl.symm
    subst en
    rw [itmays_app, Bool.and_eq_true] at hm
    rw [List.length_append] at hn ⊢
    obtain ⟨r1, r2⟩ := flat_mayR s nest inn els n out _ g1 hm.1 ho (by omega)
    obtain ⟨q1, q2⟩ := flat_mayL l nest inn els (n + (⟨s, nest, inn, els⟩ :: n1 : List It).length) _ n2 g2 hm.2 (by rw [g1, List.length_append]; omega) (by omega)
    refine ⟨?_, .inr r2⟩
    simp only [Sm.mayL, r1, Bool.not_true, Bool.false_eq_true, ↓reduceIte, q1]
    congr 1; omega
end

theorem procs_all : ∀ (l : List Pc) (out : List It), out.length ≤ 200 → (Pc.mayL out.length l = true ↔ Pc.heads l = true ∧ ∃ new, allM out l = out ++ new ∧ (out ++ new).length ≤ 200 ∧ It.mays out.length new = true)
  | [], out, ho => by simp [Pc.mayL, Pc.heads, allM, It.mays]; exact ho
  | f :: l, out, ho => by
    have hpre : ∀ (l : List Pc) (out : List It), ∃ new, allM out l = out ++ new := by
      intro l
      induction l with
      | nil => intro out; exact ⟨[], by simp [allM]⟩
      | cons f l ih =>
        intro out
        simp only [allM]
        split
        · exact ⟨_, rfl⟩
        · obtain ⟨n1, h1⟩ := ih (out ++ f.flat)
          exact ⟨f.flat ++ n1, by rw [h1, List.append_assoc]⟩
    simp only [Pc.mayL, Pc.heads]
    have hcond : (decide ((f.params.length : Int) > 8) || decide ((f.vars.length : Int) > 16) || !(isName f.name) || !(mayNames f.vars) || !(mayNames f.fin)) = (!(isName f.name) || decide ((f.params.length : Int) > 8) || decide ((f.vars.length : Int) > 16) || !(mayNames f.vars) || !(mayNames f.fin)) := by
      cases isName f.name <;> simp
    rw [hcond]
    split
    · simp
    split
    · simp
    have hg : Sm.mayG 1 out.length f.body = Sm.mayL 1 out.length f.body := by unfold Sm.mayG gate; rw [if_neg (by simp)]
    rw [hg]
    constructor
    · intro h
      split at h
      · cases h
      rename_i hc
      obtain ⟨n1, k1, k2, k3, k4⟩ := mayL_flat f.body 1 0 false out.length [] (.inr (by omega)) (by simp) ho (by simpa using hc)
      have hfl : f.flat = n1 := by unfold Pc.flat; rw [k1]; rfl
      rw [← k3, ← List.length_append] at h
      obtain ⟨hh, n2, j1, j2, j3⟩ := (procs_all l (out ++ n1) (by rw [List.length_append]; omega)).1 h
      refine ⟨hh, n1 ++ n2, ?_, by simpa using j2, ?_⟩
      · simp only [allM, hfl]
        rw [if_neg (by simp only [List.length_append, decide_eq_true_eq]; omega), j1, List.append_assoc]
      · rw [itmays_app, k2, ← List.length_append, j3]; rfl
    · rintro ⟨hh, new, j1, j2, j3⟩
      simp only [allM] at j1
      split at j1
      · rename_i hc
        have : new = f.flat := (List.append_cancel_left j1).symm
        subst this
        simp only [decide_eq_true_eq] at hc
        omega
      rename_i hc
      simp only [decide_eq_true_eq] at hc
      obtain ⟨n2, g2⟩ := hpre l (out ++ f.flat)
      have en : new = f.flat ++ n2 := by
        rw [g2, List.append_assoc] at j1
        exact (List.append_cancel_left j1).symm
      subst en
      rw [itmays_app, Bool.and_eq_true] at j3
      rw [List.length_append, List.length_append] at j2
      obtain ⟨r1, _⟩ := flat_mayL f.body 1 0 false out.length [] f.flat (by unfold Pc.flat; rfl) j3.1 (by simp) (by omega)
      rw [r1]
      simp only [Bool.not_true, Bool.false_eq_true, ↓reduceIte]
      rw [← List.length_append]
      exact (procs_all l (out ++ f.flat) (by rw [List.length_append]; omega)).2 ⟨hh, n2, g2, by simp; omega, by rw [List.length_append]; exact j3.2⟩

theorem mayP_eq (p : Pg) : p.mayP = p.may := by
  have h := procs_all p.procs [] (by simp)
  unfold Pg.mayP Pg.may
  split
  · rfl
  · have e : Pc.mayL 0 p.procs = (if !(Pc.heads p.procs) then false else if decide ((p.all.length : Int) > 200) then false else It.mays 0 p.all) := by
      rw [Bool.eq_iff_iff]
      have h' : Pc.mayL 0 p.procs = true ↔ _ := h
      rw [h']
      have ha : p.all = allM [] p.procs := rfl
      constructor
      · rintro ⟨h1, new, h2, h3, h4⟩
        rw [ha, h2, h1]
        simp only [List.nil_append] at h3 ⊢
        simp only [Bool.not_true, Bool.false_eq_true, ↓reduceIte]
        rw [if_neg (by simp only [decide_eq_true_eq]; omega)]
        exact h4
      · intro h1
        cases hh : Pc.heads p.procs
        · rw [hh] at h1; simp at h1
        · rw [hh] at h1
          simp only [Bool.not_true, Bool.false_eq_true, ↓reduceIte] at h1
          split at h1
          · cases h1
          · rename_i hc
            simp only [decide_eq_true_eq] at hc
            exact ⟨rfl, p.all, by rw [ha]; rfl, by simp; omega, h1⟩
    exact e

end Go.Abs

/-! Pr4 -/

namespace Go.Abs

set_option maxRecDepth 8000
set_option linter.unusedSimpArgs false
set_option linter.unusedVariables false
open Go.Proofs

def paramS (a : Pm) : Str := (if a.ref then [114, 101, 102, 32] else []) ++ a.name
def procS (f : Pc) : Str :=
  lineS 0 ([112, 114, 111, 99, 32] ++ f.name ++ [40] ++ Lib.join (f.params.map paramS) [44, 32] ++ [41, 32, 123]) ++ (if f.vars.length = 0 then [] else lineS 1 ([118, 97, 114, 32] ++ Lib.join f.vars [44, 32] ++ [59])) ++ rowsS 1 f.body ++ lineS 0 (marksS f.fin ++ [125])
def procsS : List Pc → Str
  | [] => []
  | f :: l => procS f ++ procsS l
def globsS (l : List Str) : Str := if l.length = 0 then [] else lineS 0 ([103, 108, 111, 98, 97, 108, 32] ++ Lib.join l [44, 32] ++ [59])
def textS (p : Pg) : Str := globsS p.globals ++ procsS p.procs

/-- What is written of a procedure, of a program that may be. -/
structure Pc.PrP (f : Pc) : Prop where
  name : f.name.length ≤ 8
  params : ∀ a ∈ f.params, a.name.length ≤ 8
  vars : ∀ t ∈ f.vars, t.length ≤ 8
  fin : ∀ t ∈ f.fin, t.length ≤ 8
  body : Sm.PrRs 1 f.body
structure Pg.PrG (p : Pg) : Prop where
  globals : ∀ t ∈ p.globals, t.length ≤ 8
  procs : ∀ f ∈ p.procs, f.PrP

theorem short_len (sep : Str) {l : List Str} {n : Nat} (h : ∀ t ∈ l, t.length ≤ n) : (Lib.join l sep).length ≤ (n + sep.length) * l.length := by
  have h1 := join_len sep l
  have h2 : (l.map (·.length)).sum ≤ n * l.length := by
    clear h1
    induction l with
    | nil => simp
    | cons a l ih =>
      have := h a (List.mem_cons_self ..)
      have := ih fun t m => h t (List.mem_cons_of_mem _ m)
      simp only [List.map_cons, List.sum_cons, List.length_cons, Nat.mul_add, Nat.mul_one]; omega
  rw [Nat.add_mul]; omega
theorem params_len {l : List Pm} (h : ∀ a ∈ l, a.name.length ≤ 8) : (Lib.join (l.map paramS) [44, 32]).length ≤ 14 * l.length := by
  have := short_len [44, 32] (l := l.map paramS) (n := 12) (by
    intro t m
    obtain ⟨a, ha, rfl⟩ := List.mem_map.1 m
    have := h a ha
    unfold paramS
    split <;> simp only [List.length_append, List.length_cons, List.length_nil] <;> omega)
  simpa using this

theorem globsS_len {l : List Str} (h : ∀ t ∈ l, t.length ≤ 8) : (globsS l).length ≤ 10 * l.length + 9 := by
  have := short_len [44, 32] h
  unfold globsS
  split
  · simp
  · simp only [List.length_append, List.length_cons, List.length_nil, lineS_len] at this ⊢; omega

theorem procS_len {f : Pc} (h : f.PrP) : (procS f).length ≤ 200 * f.size := by
  have h1 := params_len h.params
  have h2 := short_len [44, 32] h.vars
  have h3 := marksS_len h.fin
  have h4 := rowsS_len f.body h.body
  have h5 := h.name
  unfold procS Pc.size
  simp only [List.length_cons, List.length_nil] at h2
  split <;> simp only [List.length_append, List.length_cons, List.length_nil, lineS_len] <;> omega
theorem procsS_len : ∀ {l : List Pc}, (∀ f ∈ l, f.PrP) → (procsS l).length ≤ 200 * Pc.sizes l
  | [], _ => by simp [procsS]
  | f :: l, h => by
    have h1 := procS_len (h f (List.mem_cons_self ..))
    have h2 := procsS_len fun t m => h t (List.mem_cons_of_mem _ m)
    simp only [procsS, Pc.sizes, List.length_append]; omega

/-! ### The walk -/

/-- A row of lines. -/
theorem prows_z {l : List Sm} (hs : Sm.sizes l ≤ 1000000) {inn : Nat} (hp : Sm.PrRs inn l) {acc : Str} (hb : acc.length + 200 * Sm.sizes l ≤ 540000000000) {s : St} {o t : Nat} (ho : s.objs[o]? = some (bobj o t acc)) (ht : s.toks[t]? = some (some (slen acc))) :
    Fun Tryd.prog n_print_writer_rows [.ptr o 0, .slice .shared 13 (l.map encSm), .int .i64 inn] s (.tuple []) ⟨s.objs.set o (bobj o t (acc ++ rowsS inn l)), s.toks.set t (some (slen (acc ++ rowsS inn l)))⟩ :=
  (prows_n _ l (Nat.le_refl _) hs inn hp acc hb).bldz (by simp [D.oks, D.ok, okrSm, Tag.ok]) rfl ho ht

/-- The first line of a writer. -/
theorem line_first (n : Nat) (m : Str) (h : n + m.length + 1 ≤ 549755813888) {s : St} {o : Nat} (ho : s.objs[o]? = some [.selfp tWriter o, .val (.slice none 0 0)]) :
    Fun Tryd.prog n_print_writer_line [.ptr o 0, .int .i64 n, .str m] s (.tuple []) ⟨s.objs.set o (bobj o s.toks.length (lineS n m)), s.toks ++ [some (slen (lineS n m))]⟩ := by
  have hlt := (List.getElem?_eq_some_iff.1 ho).1
  have := line_z (l := []) n m (by simpa using h) (s := ⟨s.objs.set o (bobj o s.toks.length []), s.toks ++ [some 0]⟩) (o := o) (t := s.toks.length) (by simp [hlt]) (by simp [slen])
  refine ACalls.tokB o 1 1 true ho rfl ?_
  refine ACalls.mono this fun d s' ⟨e1, e2⟩ => ⟨e1, ?_⟩
  rw [e2]
  simp

set_option maxHeartbeats 1600000 in
/-- What the loop over the procedures does. -/
theorem pText_loop {p : Pg} (hg : p.PrG) (hps : Pc.sizes p.procs ≤ 1000000) (hpl : p.procs.length ≤ Pc.sizes p.procs) {B : Base} {Q : Exit → Tm → St → Prop} (hB : B.s = { objs := [], toks := [] }) {R : Str} (hRn : R.length ≤ 540000000000)
    (hQ : retF { objs := [], toks := [] : St }.objs.length { objs := [], toks := [] : St }.toks.length [(2, none)] (D.str R) { objs := [], toks := [] } = Q) :
    ∀ i : List Pc × Nat × Str, (p.procs.drop i.2.1 = i.1 ∧ i.2.2 ++ procsS i.1 = R ∧ i.2.2.length + 200 * Pc.sizes i.1 ≤ 530000000000) →
    SemL Tryd.prog B 85 Q33 (inBlockQ 0 (thenQ (wpC Tryd.prog B 85 Q38 Q) Q))
      [(3, .ptr 1 0), (26, .slice .shared 5 (p.procs.map encPc)), (27, .int .i64 (p.procs.length : Int)), (28, .int .i64 (i.2.1 : Int))] ⟨[encPg p, bobj 1 0 i.2.2], [some (slen i.2.2)]⟩ := by
  have hlt : 0 < 1 := Nat.zero_lt_one
  have hget : 0 < 1 := Nat.zero_lt_one
  have hpu : 0 < 1 := Nat.zero_lt_one
  have hinc : 0 < 1 := Nat.zero_lt_one
  refine SemL.ind (ι := List Pc × Nat × Str) (fun i => p.procs.drop i.2.1 = i.1 ∧ i.2.2 ++ procsS i.1 = R ∧ i.2.2.length + 200 * Pc.sizes i.1 ≤ 530000000000) (fun i => i.1.length) (fun i => [(3, .ptr 1 0), (26, .slice .shared 5 (p.procs.map encPc)), (27, .int .i64 (p.procs.length : Int)), (28, .int .i64 (i.2.1 : Int))]) (fun i => ⟨[encPg p, bobj 1 0 i.2.2], [some (slen i.2.2)]⟩) ?_
  rintro ⟨rest, k, acc⟩ ⟨h1, h2, h3⟩ IH
  dsimp only at h1 h2 h3
  cases rest with
  | nil =>
    have hlt := drop_nil h1
    simp only [procsS, List.append_nil] at h2
    subst h2
    have es := fun st a b => String_s (s := st) (o := 1) (t := 0) (c0 := .selfp tWriter 1) acc a b (by omega)
    repeat' (first
 | simp only [go_sem, hlt, hget, hpu, hinc, Int.reduceLE, ↓reduceIte, reduceCtorEq, Nat.reduceEqDiff, Nat.reduceLeDiff, Nat.reduceAdd, Nat.reduceMul, Nat.reduceSub, Nat.reduceLT, bobj, slen]
 | (with_reducible refine CU (es _ (by with_unfolding_all rfl) (by with_unfolding_all rfl)) ?_)
 | (with_reducible first | refine CB_ofT (by assumption) fun hc => ?_ | refine CB_ofF (by assumption) fun hc => ?_ | refine CB_split (fun hc => ?_) fun hc => ?_) <;> (try simp only [hc, bs, ↓reduceIte] at h) <;> (try simp only [hc])
 | ((with_reducible first | refine leafR hQ ?_ | refine leafN hQ ?_); (try cases h); simp only [resL, oneD, Option.some.injEq, exists_eq_left', go_sem, hlt, hget, hpu, hinc, Int.reduceLE, ↓reduceIte, reduceCtorEq, Nat.reduceEqDiff, Nat.reduceLeDiff, Nat.reduceAdd, Nat.reduceMul, Nat.reduceSub, Nat.reduceLT, bobj, slen]; repeat' (first | exact Ok.out | with_reducible refine And.intro ?_ ?_ | (simp; done)))
 | (cases h; replace h := hr; clear hr; (try simp only [bs, ↓reduceIte] at h))
 | (cases h; done))
  | cons f rest =>
    obtain ⟨hget, g2, hlt, g4⟩ := drop_cons h1
    have hmem := List.mem_of_getElem? hget
    have hsz := Pc.sizes_mem hmem
    have hP := hg.procs f hmem
    have hk : k < 4611686018427387904 := by omega
    have w1 : IntKind.wrap .i64 ((k : Int) + 1) = ((k + 1 : Nat) : Int) := by rw [wrap_ok] <;> omega
    simp only [Pc.sizes] at h3
    simp only [procsS] at h2
    have lf := procS_len hP
    have hfz : f.params.length + f.vars.length + f.fin.length + Sm.sizes f.body + 1 ≤ f.size := by unfold Pc.size; omega
    repeat' (first
 | simp only [go_sem, hlt, hget, hpu, hinc, Int.reduceLE, ↓reduceIte, reduceCtorEq, Nat.reduceEqDiff, Nat.reduceLeDiff, Nat.reduceAdd, Nat.reduceMul, Nat.reduceSub, Nat.reduceLT]
 | (with_reducible first | refine CB_ofT (by assumption) fun hc => ?_ | refine CB_ofF (by assumption) fun hc => ?_ | refine CB_split (fun hc => ?_) fun hc => ?_) <;> (try simp only [hc, bs, ↓reduceIte] at h) <;> (try simp only [hc])
 | ((with_reducible first | refine leafR hQ ?_ | refine leafN hQ ?_); (try cases h); simp only [resL, oneD, Option.some.injEq, exists_eq_left', go_sem, hlt, hget, hpu, hinc, Int.reduceLE, ↓reduceIte, reduceCtorEq, Nat.reduceEqDiff, Nat.reduceLeDiff, Nat.reduceAdd, Nat.reduceMul, Nat.reduceSub, Nat.reduceLT]; repeat' (first | exact Ok.out | with_reducible refine And.intro ?_ ?_ | (simp; done)))
 | (cases h; replace h := hr; clear hr; (try simp only [bs, ↓reduceIte] at h))
 | (cases h; done))
    refine SemL.tokT 6 1 rfl ?_
    simp only [go_sem, hlt, hget, hpu, hinc, Int.reduceLE, ↓reduceIte, reduceCtorEq, Nat.reduceEqDiff, Nat.reduceLeDiff, Nat.reduceAdd, Nat.reduceMul, Nat.reduceSub, Nat.reduceLT]
    refine SemL.re _ _ 3 2 (by rw [hB]; exact Nat.le_of_ble_eq_true rfl) (by rw [hB]; exact Nat.le_of_ble_eq_true rfl) ?_ ?_ (SemL.ind (ι := List Pm × Nat × List Str) (fun i => f.params.drop i.2.1 = i.1 ∧ i.2.2 ++ i.1.map paramS = f.params.map paramS ∧ i.2.2.length = i.2.1) (fun i => i.1.length)
      (fun i => [(3, .ptr 1 0), (26, .slice .shared 5 (p.procs.map encPc)), (27, .int .i64 (p.procs.length : Int)), (28, .int .i64 (k : Int)), (5, .ptr 2 0), (6, .slice (.tok 1) 1 (i.2.2.map encStr)), (33, .slice .shared 2 (f.params.map encPm)), (34, .int .i64 (f.params.length : Int)), (35, .int .i64 (i.2.1 : Int))]) (fun i => ⟨[encPg p, bobj 1 0 acc, encPc f], [some (slen acc), some i.2.1]⟩) ?_ (f.params, 0, []) ⟨rfl, rfl, rfl⟩)
    · (simp only [go_sem, hlt, hget, hpu, hinc, Int.reduceLE, ↓reduceIte, reduceCtorEq, Nat.reduceEqDiff, Nat.reduceLeDiff, Nat.reduceAdd, Nat.reduceMul, Nat.reduceSub, Nat.reduceLT]; repeat' (first | exact Ok.out | with_reducible refine And.intro ?_ ?_))
    · (simp only [go_sem, hlt, hget, hpu, hinc, Int.reduceLE, ↓reduceIte, reduceCtorEq, Nat.reduceEqDiff, Nat.reduceLeDiff, Nat.reduceAdd, Nat.reduceMul, Nat.reduceSub, Nat.reduceLT]; repeat' (first | exact Ok.out | with_reducible refine And.intro ?_ ?_))
    rintro ⟨ps, j, out⟩ ⟨p1, p2, p3⟩ IH2
    dsimp only at p1 p2 p3
    cases ps with
    | nil =>
      have hlt := drop_nil p1
      simp only [List.map_nil, List.append_nil] at p2
      subst p2
      have lps := params_len hP.params
      have lvs := short_len [44, 32] hP.vars
      have lms := marksS_len hP.fin
      have lrs := rowsS_len f.body hP.body
      have lnm := hP.name
      simp only [List.length_cons, List.length_nil] at lvs
      have ej := fun s => Join_s (l := f.params.map paramS) (sep := [44, 32]) (by simp; omega) (by omega) (.tok 1) s
      have em := fun st => pmarks_s (by omega) hP.fin st
      have b1 : (5 : Nat) + f.name.length ≤ maxStr := by unfold maxStr; omega
      have b2 : f.name.length + 1 + 1 + 1 + 1 + 1 + 1 ≤ maxStr := by unfold maxStr; omega
      have b3 : f.name.length + 1 + 1 + 1 + 1 + 1 + 1 + (Lib.join (f.params.map paramS) [44, 32]).length ≤ maxStr := by unfold maxStr; omega
      have b4 : f.name.length + 1 + (Lib.join (f.params.map paramS) [44, 32]).length + 1 + 1 + 1 + 1 + 1 + 1 + 1 + 1 ≤ maxStr := by unfold maxStr; omega
      have b7 : (marksS f.fin).length + 1 ≤ maxStr := by unfold maxStr; omega
      have e1 := fun st a b => line_z (l := acc) 0 ([112, 114, 111, 99, 32] ++ f.name ++ [40] ++ Lib.join (f.params.map paramS) [44, 32] ++ [41, 32, 123]) (by simp only [List.length_append, List.length_cons, List.length_nil, lineS_len]; omega) (s := st) (o := 1) (t := 0) a b
      simp only [List.cons_append, List.nil_append, Int.cast_ofNat_Int] at e1
      cases cv : decide ((f.vars.length : Int) > 0) with
      | false =>
        have cv' : f.vars.length = 0 := by have := of_decide_eq_false cv; omega
        have e3 := fun st a b => prows_z (l := f.body) (by omega) hP.body (acc := acc ++ lineS 0 ([112, 114, 111, 99, 32] ++ f.name ++ [40] ++ Lib.join (f.params.map paramS) [44, 32] ++ [41, 32, 123])) (by simp only [List.length_append, List.length_cons, List.length_nil, lineS_len]; omega) (s := st) (o := 1) (t := 0) a b
        have e4 := fun st a b => line_z (l := acc ++ lineS 0 ([112, 114, 111, 99, 32] ++ f.name ++ [40] ++ Lib.join (f.params.map paramS) [44, 32] ++ [41, 32, 123]) ++ rowsS 1 f.body) 0 (marksS f.fin ++ [125]) (by simp only [List.length_append, List.length_cons, List.length_nil, lineS_len]; omega) (s := st) (o := 1) (t := 0) a b
        simp only [List.cons_append, List.nil_append, Int.cast_ofNat_Int] at e3 e4
        repeat' (first
 | simp only [go_sem, hlt, hget, hpu, hinc, Int.reduceLE, ↓reduceIte, reduceCtorEq, Nat.reduceEqDiff, Nat.reduceLeDiff, Nat.reduceAdd, Nat.reduceMul, Nat.reduceSub, Nat.reduceLT, w1, b1, b2, b3, b4, b7, cv]
 | (with_reducible refine CU (ej _) ?_)
 | (with_reducible refine CU (em _) ?_)
 | (with_reducible refine CU (e1 _ (by with_unfolding_all rfl) (by with_unfolding_all rfl)) ?_)
 | (with_reducible refine CU (e3 _ (by with_unfolding_all rfl) (by with_unfolding_all rfl)) ?_)
 | (with_reducible refine CU (e4 _ (by with_unfolding_all rfl) (by with_unfolding_all rfl)) ?_)
 | (with_reducible first | refine CB_ofT (by assumption) fun hc => ?_ | refine CB_ofF (by assumption) fun hc => ?_ | refine CB_split (fun hc => ?_) fun hc => ?_) <;> (try simp only [hc, bs, ↓reduceIte] at h) <;> (try simp only [hc])
 | ((with_reducible first | refine leafR hQ ?_ | refine leafN hQ ?_); (try cases h); simp only [resL, oneD, Option.some.injEq, exists_eq_left', go_sem, hlt, hget, hpu, hinc, Int.reduceLE, ↓reduceIte, reduceCtorEq, Nat.reduceEqDiff, Nat.reduceLeDiff, Nat.reduceAdd, Nat.reduceMul, Nat.reduceSub, Nat.reduceLT, w1, b1, b2, b3, b4, b7, cv]; repeat' (first | exact Ok.out | with_reducible refine And.intro ?_ ?_ | (simp; done)))
 | (cases h; replace h := hr; clear hr; (try simp only [bs, ↓reduceIte] at h))
 | (cases h; done))
        have hl := IH (rest, k + 1, acc ++ lineS 0 ([112, 114, 111, 99, 32] ++ f.name ++ [40] ++ Lib.join (f.params.map paramS) [44, 32] ++ [41, 32, 123]) ++ rowsS 1 f.body ++ lineS 0 (marksS f.fin ++ [125])) ⟨g2, by rw [← h2, procS, if_pos cv']; simp only [List.append_assoc, List.nil_append, List.cons_append], by rw [procS, if_pos cv'] at lf; simp only [List.length_append] at lf ⊢; omega⟩ (by simp)
        simp only [List.cons_append, List.nil_append, Int.cast_ofNat_Int] at hl
        refine SemL.re _ _ 2 1 (by rw [hB]; exact Nat.le_of_ble_eq_true rfl) (by rw [hB]; exact Nat.le_of_ble_eq_true rfl) ?_ ?_ (hl)
        · (simp only [go_sem, hlt, hget, hpu, hinc, Int.reduceLE, ↓reduceIte, reduceCtorEq, Nat.reduceEqDiff, Nat.reduceLeDiff, Nat.reduceAdd, Nat.reduceMul, Nat.reduceSub, Nat.reduceLT]; repeat' (first | exact Ok.out | with_reducible refine And.intro ?_ ?_))
        · (simp only [go_sem, hlt, hget, hpu, hinc, Int.reduceLE, ↓reduceIte, reduceCtorEq, Nat.reduceEqDiff, Nat.reduceLeDiff, Nat.reduceAdd, Nat.reduceMul, Nat.reduceSub, Nat.reduceLT]; repeat' (first | exact Ok.out | with_reducible refine And.intro ?_ ?_))
      | true =>
        have cv' : f.vars.length ≠ 0 := by have := of_decide_eq_true cv; omega
        have ej2 := fun s => Join_s (l := f.vars) (sep := [44, 32]) (by omega) (by omega) .shared s
        have b5 : (4 : Nat) + (Lib.join f.vars [44, 32]).length ≤ maxStr := by unfold maxStr; omega
        have b6 : (Lib.join f.vars [44, 32]).length + 1 + 1 + 1 + 1 + 1 ≤ maxStr := by unfold maxStr; omega
        have e2 := fun st a b => line_z (l := acc ++ lineS 0 ([112, 114, 111, 99, 32] ++ f.name ++ [40] ++ Lib.join (f.params.map paramS) [44, 32] ++ [41, 32, 123])) 1 ([118, 97, 114, 32] ++ Lib.join f.vars [44, 32] ++ [59]) (by simp only [List.length_append, List.length_cons, List.length_nil, lineS_len]; omega) (s := st) (o := 1) (t := 0) a b
        simp only [List.cons_append, List.nil_append, Int.cast_ofNat_Int] at e2
        have e3 := fun st a b => prows_z (l := f.body) (by omega) hP.body (acc := acc ++ lineS 0 ([112, 114, 111, 99, 32] ++ f.name ++ [40] ++ Lib.join (f.params.map paramS) [44, 32] ++ [41, 32, 123]) ++ lineS 1 ([118, 97, 114, 32] ++ Lib.join f.vars [44, 32] ++ [59])) (by simp only [List.length_append, List.length_cons, List.length_nil, lineS_len]; omega) (s := st) (o := 1) (t := 0) a b
        have e4 := fun st a b => line_z (l := acc ++ lineS 0 ([112, 114, 111, 99, 32] ++ f.name ++ [40] ++ Lib.join (f.params.map paramS) [44, 32] ++ [41, 32, 123]) ++ lineS 1 ([118, 97, 114, 32] ++ Lib.join f.vars [44, 32] ++ [59]) ++ rowsS 1 f.body) 0 (marksS f.fin ++ [125]) (by simp only [List.length_append, List.length_cons, List.length_nil, lineS_len]; omega) (s := st) (o := 1) (t := 0) a b
        simp only [List.cons_append, List.nil_append, Int.cast_ofNat_Int] at e3 e4
        repeat' (first
 | simp only [go_sem, hlt, hget, hpu, hinc, Int.reduceLE, ↓reduceIte, reduceCtorEq, Nat.reduceEqDiff, Nat.reduceLeDiff, Nat.reduceAdd, Nat.reduceMul, Nat.reduceSub, Nat.reduceLT, w1, b1, b2, b3, b4, b7, cv, b5, b6]
 | (with_reducible refine CU (ej _) ?_)
 | (with_reducible refine CU (em _) ?_)
 | (with_reducible refine CU (e1 _ (by with_unfolding_all rfl) (by with_unfolding_all rfl)) ?_)
 | (with_reducible refine CU (ej2 _) ?_)
 | (with_reducible refine CU (e2 _ (by with_unfolding_all rfl) (by with_unfolding_all rfl)) ?_)
 | (with_reducible refine CU (e3 _ (by with_unfolding_all rfl) (by with_unfolding_all rfl)) ?_)
 | (with_reducible refine CU (e4 _ (by with_unfolding_all rfl) (by with_unfolding_all rfl)) ?_)
 | (with_reducible first | refine CB_ofT (by assumption) fun hc => ?_ | refine CB_ofF (by assumption) fun hc => ?_ | refine CB_split (fun hc => ?_) fun hc => ?_) <;> (try simp only [hc, bs, ↓reduceIte] at h) <;> (try simp only [hc])
 | ((with_reducible first | refine leafR hQ ?_ | refine leafN hQ ?_); (try cases h); simp only [resL, oneD, Option.some.injEq, exists_eq_left', go_sem, hlt, hget, hpu, hinc, Int.reduceLE, ↓reduceIte, reduceCtorEq, Nat.reduceEqDiff, Nat.reduceLeDiff, Nat.reduceAdd, Nat.reduceMul, Nat.reduceSub, Nat.reduceLT, w1, b1, b2, b3, b4, b7, cv, b5, b6]; repeat' (first | exact Ok.out | with_reducible refine And.intro ?_ ?_ | (simp; done)))
 | (cases h; replace h := hr; clear hr; (try simp only [bs, ↓reduceIte] at h))
 | (cases h; done))
        have hl := IH (rest, k + 1, acc ++ lineS 0 ([112, 114, 111, 99, 32] ++ f.name ++ [40] ++ Lib.join (f.params.map paramS) [44, 32] ++ [41, 32, 123]) ++ lineS 1 ([118, 97, 114, 32] ++ Lib.join f.vars [44, 32] ++ [59]) ++ rowsS 1 f.body ++ lineS 0 (marksS f.fin ++ [125])) ⟨g2, by rw [← h2, procS, if_neg cv']; simp only [List.append_assoc, List.nil_append, List.cons_append], by rw [procS, if_neg cv'] at lf; simp only [List.length_append] at lf ⊢; omega⟩ (by simp)
        simp only [List.cons_append, List.nil_append, Int.cast_ofNat_Int] at hl
        refine SemL.re _ _ 2 1 (by rw [hB]; exact Nat.le_of_ble_eq_true rfl) (by rw [hB]; exact Nat.le_of_ble_eq_true rfl) ?_ ?_ (hl)
        · (simp only [go_sem, hlt, hget, hpu, hinc, Int.reduceLE, ↓reduceIte, reduceCtorEq, Nat.reduceEqDiff, Nat.reduceLeDiff, Nat.reduceAdd, Nat.reduceMul, Nat.reduceSub, Nat.reduceLT]; repeat' (first | exact Ok.out | with_reducible refine And.intro ?_ ?_))
        · (simp only [go_sem, hlt, hget, hpu, hinc, Int.reduceLE, ↓reduceIte, reduceCtorEq, Nat.reduceEqDiff, Nat.reduceLeDiff, Nat.reduceAdd, Nat.reduceMul, Nat.reduceSub, Nat.reduceLT]; repeat' (first | exact Ok.out | with_reducible refine And.intro ?_ ?_))
    | cons a ps =>
      obtain ⟨hget, q2, hlt, q4⟩ := drop_cons p1
      have hmem2 := List.mem_of_getElem? hget
      have han := hP.params a hmem2
      have hj : j < 4611686018427387904 := by omega
      have w2 : IntKind.wrap .i64 ((j : Int) + 1) = ((j + 1 : Nat) : Int) := by rw [wrap_ok] <;> omega
      have hpu : (j + 1) * 17 ≤ maxStr := by unfold maxStr; omega
      have ea : paramS a = (if a.ref = true then [114, 101, 102, 32] else []) ++ a.name := rfl
      cases hr : a.ref with
      | true =>
        rw [hr] at ea
        have m1 : (4 : Nat) + a.name.length ≤ maxStr := by unfold maxStr; omega
        repeat' (first
 | simp only [go_sem, hlt, hget, hpu, hinc, Int.reduceLE, ↓reduceIte, reduceCtorEq, Nat.reduceEqDiff, Nat.reduceLeDiff, Nat.reduceAdd, Nat.reduceMul, Nat.reduceSub, Nat.reduceLT, hr, m1, w2, p3]
 | (with_reducible refine CU (pref_s _ _) ?_)
 | (with_reducible first | refine CB_ofT (by assumption) fun hc => ?_ | refine CB_ofF (by assumption) fun hc => ?_ | refine CB_split (fun hc => ?_) fun hc => ?_) <;> (try simp only [hc, bs, ↓reduceIte] at h) <;> (try simp only [hc])
 | ((with_reducible first | refine leafR hQ ?_ | refine leafN hQ ?_); (try cases h); simp only [resL, oneD, Option.some.injEq, exists_eq_left', go_sem, hlt, hget, hpu, hinc, Int.reduceLE, ↓reduceIte, reduceCtorEq, Nat.reduceEqDiff, Nat.reduceLeDiff, Nat.reduceAdd, Nat.reduceMul, Nat.reduceSub, Nat.reduceLT, hr, m1, w2, p3]; repeat' (first | exact Ok.out | with_reducible refine And.intro ?_ ?_ | (simp; done)))
 | (cases h; replace h := hr; clear hr; (try simp only [bs, ↓reduceIte] at h))
 | (cases h; done))
        refine SemL.re _ _ 3 2 (by rw [hB]; exact Nat.le_of_ble_eq_true rfl) (by rw [hB]; exact Nat.le_of_ble_eq_true rfl) ?_ ?_ (IH2 (ps, j + 1, out ++ [paramS a]) ⟨q2, by rw [← p2]; simp, by simp [p3]⟩ (by simp))
        · (simp only [go_sem, hlt, hget, hpu, hinc, Int.reduceLE, ↓reduceIte, reduceCtorEq, Nat.reduceEqDiff, Nat.reduceLeDiff, Nat.reduceAdd, Nat.reduceMul, Nat.reduceSub, Nat.reduceLT, ea, List.cons_append, List.nil_append]; repeat' (first | exact Ok.out | with_reducible refine And.intro ?_ ?_))
        · (simp only [go_sem, hlt, hget, hpu, hinc, Int.reduceLE, ↓reduceIte, reduceCtorEq, Nat.reduceEqDiff, Nat.reduceLeDiff, Nat.reduceAdd, Nat.reduceMul, Nat.reduceSub, Nat.reduceLT, ea, List.cons_append, List.nil_append]; repeat' (first | exact Ok.out | with_reducible refine And.intro ?_ ?_))
      | false =>
        rw [hr] at ea
        have m1 : a.name.length ≤ maxStr := by unfold maxStr; omega
        repeat' (first
 | simp only [go_sem, hlt, hget, hpu, hinc, Int.reduceLE, ↓reduceIte, reduceCtorEq, Nat.reduceEqDiff, Nat.reduceLeDiff, Nat.reduceAdd, Nat.reduceMul, Nat.reduceSub, Nat.reduceLT, hr, m1, w2, p3, List.nil_append]
 | (with_reducible refine CU (pref_s _ _) ?_)
 | (with_reducible first | refine CB_ofT (by assumption) fun hc => ?_ | refine CB_ofF (by assumption) fun hc => ?_ | refine CB_split (fun hc => ?_) fun hc => ?_) <;> (try simp only [hc, bs, ↓reduceIte] at h) <;> (try simp only [hc])
 | ((with_reducible first | refine leafR hQ ?_ | refine leafN hQ ?_); (try cases h); simp only [resL, oneD, Option.some.injEq, exists_eq_left', go_sem, hlt, hget, hpu, hinc, Int.reduceLE, ↓reduceIte, reduceCtorEq, Nat.reduceEqDiff, Nat.reduceLeDiff, Nat.reduceAdd, Nat.reduceMul, Nat.reduceSub, Nat.reduceLT, hr, m1, w2, p3, List.nil_append]; repeat' (first | exact Ok.out | with_reducible refine And.intro ?_ ?_ | (simp; done)))
 | (cases h; replace h := hr; clear hr; (try simp only [bs, ↓reduceIte] at h))
 | (cases h; done))
        refine SemL.re _ _ 3 2 (by rw [hB]; exact Nat.le_of_ble_eq_true rfl) (by rw [hB]; exact Nat.le_of_ble_eq_true rfl) ?_ ?_ (IH2 (ps, j + 1, out ++ [paramS a]) ⟨q2, by rw [← p2]; simp, by simp [p3]⟩ (by simp))
        · (simp only [go_sem, hlt, hget, hpu, hinc, Int.reduceLE, ↓reduceIte, reduceCtorEq, Nat.reduceEqDiff, Nat.reduceLeDiff, Nat.reduceAdd, Nat.reduceMul, Nat.reduceSub, Nat.reduceLT, ea, List.cons_append, List.nil_append]; repeat' (first | exact Ok.out | with_reducible refine And.intro ?_ ?_))
        · (simp only [go_sem, hlt, hget, hpu, hinc, Int.reduceLE, ↓reduceIte, reduceCtorEq, Nat.reduceEqDiff, Nat.reduceLeDiff, Nat.reduceAdd, Nat.reduceMul, Nat.reduceSub, Nat.reduceLT, ea, List.cons_append, List.nil_append]; repeat' (first | exact Ok.out | with_reducible refine And.intro ?_ ?_))

theorem pText_s {p : Pg} (hf : p.FineP) (hg : p.mayP = true → p.PrG) (hs : p.size ≤ 1000000) (s : St) : Fun Tryd.prog n_print_Text [.agg (encPg p)] s (.str (if p.may then textS p else [])) s := by
  refine Fun.pure ?_ (by simp only [D.oks, D.ok, okPg]; rfl) rfl s
  have hm := fun s => tMay_s hf s
  rw [← mayP_eq]
  cases cm : p.mayP with
  | false =>
    rw [if_neg (by simp)]
    unfold S0
    refine Fun.go has_print_Text rfl fun B Q hB hQ => ?_
    have hlt : 0 < 1 := Nat.zero_lt_one
    have hget : 0 < 1 := Nat.zero_lt_one
    have hpu : 0 < 1 := Nat.zero_lt_one
    have hinc : 0 < 1 := Nat.zero_lt_one
    repeat' (first
 | simp only [go_sem, hlt, hget, hpu, hinc, Int.reduceLE, ↓reduceIte, reduceCtorEq, Nat.reduceEqDiff, Nat.reduceLeDiff, Nat.reduceAdd, Nat.reduceMul, Nat.reduceSub, Nat.reduceLT, cm]
 | (with_reducible refine CU (hm _) ?_)
 | (with_reducible first | refine CB_ofT (by assumption) fun hc => ?_ | refine CB_ofF (by assumption) fun hc => ?_ | refine CB_split (fun hc => ?_) fun hc => ?_) <;> (try simp only [hc, bs, ↓reduceIte] at h) <;> (try simp only [hc])
 | ((with_reducible first | refine leafR hQ ?_ | refine leafN hQ ?_); (try cases h); simp only [resL, oneD, Option.some.injEq, exists_eq_left', go_sem, hlt, hget, hpu, hinc, Int.reduceLE, ↓reduceIte, reduceCtorEq, Nat.reduceEqDiff, Nat.reduceLeDiff, Nat.reduceAdd, Nat.reduceMul, Nat.reduceSub, Nat.reduceLT, cm]; repeat' (first | exact Ok.out | with_reducible refine And.intro ?_ ?_ | (simp; done)))
 | (cases h; replace h := hr; clear hr; (try simp only [bs, ↓reduceIte] at h))
 | (cases h; done))
  | true =>
    rw [if_pos rfl]
    have hg := hg cm
    have hps : Pc.sizes p.procs ≤ 1000000 := by simp only [Pg.size] at hs; omega
    have hgl : p.globals.length ≤ 1000000 := by simp only [Pg.size] at hs; omega
    have hpl := Pc.sizes_len p.procs
    have lg := globsS_len hg.globals
    have lp := procsS_len hg.procs
    have ls := short_len [44, 32] hg.globals
    simp only [List.length_cons, List.length_nil] at ls
    unfold S0
    cases cg : decide ((p.globals.length : Int) > 0) with
    | true =>
      have cg' : p.globals.length ≠ 0 := by have := of_decide_eq_true cg; omega
      have eg : globsS p.globals = lineS 0 ([103, 108, 111, 98, 97, 108, 32] ++ Lib.join p.globals [44, 32] ++ [59]) := by rw [globsS, if_neg cg']
      have ej := fun s => Join_s (l := p.globals) (sep := [44, 32]) (by omega) (by omega) .shared s
      have b1 : (7 : Nat) + (Lib.join p.globals [44, 32]).length ≤ maxStr := by unfold maxStr; omega
      have b2 : (Lib.join p.globals [44, 32]).length + 1 + 1 + 1 + 1 + 1 + 1 + 1 + 1 ≤ maxStr := by unfold maxStr; omega
      have e1 := fun s a => line_first 0 ([103, 108, 111, 98, 97, 108, 32] ++ Lib.join p.globals [44, 32] ++ [59]) (by simp only [List.length_append, List.length_cons, List.length_nil]; omega) (s := s) (o := 1) a
      simp only [List.cons_append, List.nil_append, Int.cast_ofNat_Int] at e1 eg
      refine Fun.go has_print_Text rfl fun B Q hB hQ => ?_
      have hlt : 0 < 1 := Nat.zero_lt_one
      have hget : 0 < 1 := Nat.zero_lt_one
      have hpu : 0 < 1 := Nat.zero_lt_one
      have hinc : 0 < 1 := Nat.zero_lt_one
      repeat' (first
 | simp only [go_sem, hlt, hget, hpu, hinc, Int.reduceLE, ↓reduceIte, reduceCtorEq, Nat.reduceEqDiff, Nat.reduceLeDiff, Nat.reduceAdd, Nat.reduceMul, Nat.reduceSub, Nat.reduceLT, cm, cg, b1, b2]
 | (with_reducible refine CU (hm _) ?_)
 | (with_reducible refine CU (ej _) ?_)
 | (with_reducible refine CU (e1 _ (by with_unfolding_all rfl)) ?_)
 | (with_reducible first | refine CB_ofT (by assumption) fun hc => ?_ | refine CB_ofF (by assumption) fun hc => ?_ | refine CB_split (fun hc => ?_) fun hc => ?_) <;> (try simp only [hc, bs, ↓reduceIte] at h) <;> (try simp only [hc])
 | ((with_reducible first | refine leafR hQ ?_ | refine leafN hQ ?_); (try cases h); simp only [resL, oneD, Option.some.injEq, exists_eq_left', go_sem, hlt, hget, hpu, hinc, Int.reduceLE, ↓reduceIte, reduceCtorEq, Nat.reduceEqDiff, Nat.reduceLeDiff, Nat.reduceAdd, Nat.reduceMul, Nat.reduceSub, Nat.reduceLT, cm, cg, b1, b2]; repeat' (first | exact Ok.out | with_reducible refine And.intro ?_ ?_ | (simp; done)))
 | (cases h; replace h := hr; clear hr; (try simp only [bs, ↓reduceIte] at h))
 | (cases h; done))
      have hl := pText_loop hg hps hpl hB (R := textS p) (by simp only [textS, List.length_append]; omega) hQ (p.procs, 0, globsS p.globals) ⟨rfl, rfl, by dsimp only; omega⟩
      simp only [eg] at hl
      refine SemL.re _ _ 2 1 (by rw [hB]; exact Nat.le_of_ble_eq_true rfl) (by rw [hB]; exact Nat.le_of_ble_eq_true rfl) ?_ ?_ (hl)
      · (simp only [go_sem, hlt, hget, hpu, hinc, Int.reduceLE, ↓reduceIte, reduceCtorEq, Nat.reduceEqDiff, Nat.reduceLeDiff, Nat.reduceAdd, Nat.reduceMul, Nat.reduceSub, Nat.reduceLT]; repeat' (first | exact Ok.out | with_reducible refine And.intro ?_ ?_))
      · (simp only [go_sem, hlt, hget, hpu, hinc, Int.reduceLE, ↓reduceIte, reduceCtorEq, Nat.reduceEqDiff, Nat.reduceLeDiff, Nat.reduceAdd, Nat.reduceMul, Nat.reduceSub, Nat.reduceLT]; repeat' (first | exact Ok.out | with_reducible refine And.intro ?_ ?_))
    | false =>
      have cg' : p.globals.length = 0 := by have := of_decide_eq_false cg; omega
      have eg : globsS p.globals = [] := by rw [globsS, if_pos cg']
      refine Fun.go has_print_Text rfl fun B Q hB hQ => ?_
      have hlt : 0 < 1 := Nat.zero_lt_one
      have hget : 0 < 1 := Nat.zero_lt_one
      have hpu : 0 < 1 := Nat.zero_lt_one
      have hinc : 0 < 1 := Nat.zero_lt_one
      repeat' (first
 | simp only [go_sem, hlt, hget, hpu, hinc, Int.reduceLE, ↓reduceIte, reduceCtorEq, Nat.reduceEqDiff, Nat.reduceLeDiff, Nat.reduceAdd, Nat.reduceMul, Nat.reduceSub, Nat.reduceLT, cm, cg]
 | (with_reducible refine CU (hm _) ?_)
 | (with_reducible first | refine CB_ofT (by assumption) fun hc => ?_ | refine CB_ofF (by assumption) fun hc => ?_ | refine CB_split (fun hc => ?_) fun hc => ?_) <;> (try simp only [hc, bs, ↓reduceIte] at h) <;> (try simp only [hc])
 | ((with_reducible first | refine leafR hQ ?_ | refine leafN hQ ?_); (try cases h); simp only [resL, oneD, Option.some.injEq, exists_eq_left', go_sem, hlt, hget, hpu, hinc, Int.reduceLE, ↓reduceIte, reduceCtorEq, Nat.reduceEqDiff, Nat.reduceLeDiff, Nat.reduceAdd, Nat.reduceMul, Nat.reduceSub, Nat.reduceLT, cm, cg]; repeat' (first | exact Ok.out | with_reducible refine And.intro ?_ ?_ | (simp; done)))
 | (cases h; replace h := hr; clear hr; (try simp only [bs, ↓reduceIte] at h))
 | (cases h; done))
      refine SemL.tokB 1 1 1 true rfl rfl ?_
      simp only [go_sem, hlt, hget, hpu, hinc, Int.reduceLE, ↓reduceIte, reduceCtorEq, Nat.reduceEqDiff, Nat.reduceLeDiff, Nat.reduceAdd, Nat.reduceMul, Nat.reduceSub, Nat.reduceLT]
      have hl := pText_loop hg hps hpl hB (R := textS p) (by simp only [textS, List.length_append]; omega) hQ (p.procs, 0, globsS p.globals) ⟨rfl, rfl, by dsimp only; omega⟩
      simp only [eg] at hl
      refine SemL.re _ _ 2 1 (by rw [hB]; exact Nat.le_of_ble_eq_true rfl) (by rw [hB]; exact Nat.le_of_ble_eq_true rfl) ?_ ?_ (hl)
      · (simp only [go_sem, hlt, hget, hpu, hinc, Int.reduceLE, ↓reduceIte, reduceCtorEq, Nat.reduceEqDiff, Nat.reduceLeDiff, Nat.reduceAdd, Nat.reduceMul, Nat.reduceSub, Nat.reduceLT, bobj, encBy, List.map_nil, tWriter]; repeat' (first | exact Ok.out | with_reducible refine And.intro ?_ ?_))
      · (simp only [go_sem, hlt, hget, hpu, hinc, Int.reduceLE, ↓reduceIte, reduceCtorEq, Nat.reduceEqDiff, Nat.reduceLeDiff, Nat.reduceAdd, Nat.reduceMul, Nat.reduceSub, Nat.reduceLT, bobj, encBy, List.map_nil, tWriter]; repeat' (first | exact Ok.out | with_reducible refine And.intro ?_ ?_))

end Go.Abs

/-! PrMay -/

namespace Go.Abs
set_option linter.unusedSimpArgs false
set_option linter.unusedVariables false

mutual
/-- Its numbers are numbers. -/
def Sm.rng : Sm → Prop
  | ⟨_, _, _, _, _, x, _, args, thn, els⟩ => x.rng ∧ (∀ a ∈ args, a.x.rng) ∧ Sm.rngs thn ∧ Sm.rngs els
def Sm.rngs : List Sm → Prop
  | [] => True
  | s :: l => s.rng ∧ Sm.rngs l
end
def Pg.rng (p : Pg) : Prop := ∀ f ∈ p.procs, Sm.rngs f.body
theorem Sm.rng_eq (s : Sm) : s.rng ↔ s.x.rng ∧ (∀ a ∈ s.args, a.x.rng) ∧ Sm.rngs s.thn ∧ Sm.rngs s.els := by cases s; simp only [Sm.rng]

theorem one_PrO {s : Sm} (h : s.one = true) (hx : s.x.rng) (ha : ∀ a ∈ s.args, a.x.rng) : s.PrO := by
  unfold Sm.one at h
  split at h
  · cases h
  rename_i c1
  split at h
  · cases h
  rename_i c2
  split at h
  · cases h
  rename_i c3
  split at h
  · cases h
  rename_i c4
  simp only [Bool.or_eq_true, Bool.and_eq_true, decide_eq_true_eq, Bool.not_eq_true', not_or, Bool.not_eq_false, not_and, Bool.not_eq_true] at c1 c2 c3 c4
  refine ⟨fun k => may_formI (c1.1.1.2 k) hx, fun t ht => isName_len (mayNames_mem c1.1.1.1.2 ht), ?_, ?_, fun a m => ?_, by omega, fun k => ?_⟩
  · cases hn : s.hasName with
    | true => exact isName_len (c2.1 hn)
    | false =>
      by_cases e : s.name = []
      · rw [e]; simp
      · exact isName_len (c2.2 ⟨hn, by simpa using e⟩).2
  · cases hn : s.isCall with
    | true => exact isName_len (c3.1.2 hn)
    | false =>
      have : s.proc = [] := by
        have := c3.1.1
        rw [hn] at this
        simpa using this
      rw [this]; simp
  · have hm := mays_mem c4 m
    unfold Ar.may at hm
    split at hm
    · rename_i hr
      simp only [Bool.and_eq_true] at hm
      exact ⟨isName_len hm.1, fun h => by rw [hr] at h; cases h⟩
    · simp only [Bool.and_eq_true, beq_iff_eq] at hm
      exact ⟨by rw [hm.1]; simp, fun _ => may_formI hm.2 (ha a m)⟩
  · simp only [Bool.and_eq_true, Bool.or_eq_true, beq_iff_eq] at h
    rcases h.2 with h | h
    · exact List.eq_nil_of_length_eq_zero (by omega)
    · omega

mutual
theorem mayR_PrR : ∀ (s : Sm) (inn n : Nat), (inn : Int) ≤ 12 → (Sm.mayR inn n s).1 = true → s.rng → s.PrR inn
  | ⟨id, kind, labels, name, proc, x, has, args, thn, els⟩, inn, n, h12, hm, hr => by
    obtain ⟨_, _, h1, h2, h3, _⟩ := mayR_true hm
    obtain ⟨r1, r2, r3, r4⟩ := (Sm.rng_eq _).1 hr
    rw [PrR_eq]
    have t2 := mayG_true h2
    have t3 := mayG_true h3
    rw [t2.2] at h2
    rw [t3.2] at h3
    refine ⟨one_PrO h1 r1 r2, by omega, ?_, ?_⟩
    · exact mayL_PrR thn (inn + 1) _ (t2.1.imp_right fun h => by omega) (by simpa using h2) r3
    · exact mayL_PrR els (inn + 1) _ (t3.1.imp_right fun h => by omega) (by simpa using h3) r4
theorem mayL_PrR : ∀ (l : List Sm) (inn n : Nat), (l = [] ∨ (inn : Int) ≤ 12) → (Sm.mayL inn n l).1 = true → Sm.rngs l → Sm.PrRs inn l
  | [], _, _, _, _, _ => by simp only [Sm.PrRs]
  | s :: l, inn, n, h12, hm, hr => by
    have h12 : (inn : Int) ≤ 12 := h12.resolve_left (by simp)
    simp only [Sm.mayL] at hm
    simp only [Sm.rngs] at hr
    split at hm
    · cases hm
    rename_i hc
    simp only [Bool.not_eq_true', Bool.not_eq_false] at hc
    exact ⟨mayR_PrR s inn n h12 hc hr.1, mayL_PrR l inn _ (.inr h12) hm hr.2⟩
end

theorem pmayL_mem {f : Pc} : ∀ {l : List Pc} {n : Nat}, Pc.mayL n l = true → f ∈ l → (isName f.name = true ∧ mayNames f.vars = true ∧ mayNames f.fin = true ∧ Pm.mays f.params = true) ∧ ∃ n, (Sm.mayG 1 n f.body).1 = true
  | g :: l, n, h, m => by
    simp only [Pc.mayL] at h
    split at h
    · cases h
    rename_i c1
    split at h
    · cases h
    rename_i c2
    split at h
    · cases h
    rename_i c3
    simp only [Bool.or_eq_true, Bool.not_eq_true', not_or, Bool.not_eq_false] at c1 c2 c3
    rcases List.mem_cons.1 m with rfl | m
    · exact ⟨⟨c1.1.1.2, c1.1.2, c1.2, c2⟩, n, c3⟩
    · exact pmayL_mem h m

theorem may_PrG {p : Pg} (h : p.may = true) (hr : p.rng) : p.PrG := by
  rw [← mayP_eq] at h
  unfold Pg.mayP at h
  split at h
  · cases h
  rename_i c
  simp only [Bool.or_eq_true, Bool.not_eq_true', not_or, Bool.not_eq_false] at c
  refine ⟨fun t ht => isName_len (mayNames_mem c.2 ht), fun f hf => ?_⟩
  obtain ⟨⟨a, b, c, d⟩, n, e⟩ := pmayL_mem h hf
  have t := mayG_true e
  rw [t.2] at e
  exact ⟨isName_len a, fun x hx => isName_len (pmays_mem d hx), fun x hx => isName_len (mayNames_mem b hx), fun x hx => isName_len (mayNames_mem c hx), mayL_PrR f.body 1 n (.inr (by omega)) e (hr f hf)⟩

/-! ### It is asked alike -/

mutual
theorem mayR_FineD : ∀ (s : Sm) (nest : Int) (n : Nat), (Sm.mayR nest n s).1 = true → s.size < 4611686018427387000 → s.FineD
  | ⟨id, kind, labels, name, proc, x, has, args, thn, els⟩, nest, n, hm, hs => by
    obtain ⟨_, _, h1, h2, h3, _⟩ := mayR_true hm
    rw [FineD_eq]
    rw [(mayG_true h2).2] at h2
    rw [(mayG_true h3).2] at h3
    refine ⟨one_fine h1 hs, mayL_FineD thn _ _ h2 ?_, mayL_FineD els _ _ h3 ?_⟩ <;> simp only [Sm.size] at hs <;> omega
theorem mayL_FineD : ∀ (l : List Sm) (nest : Int) (n : Nat), (Sm.mayL nest n l).1 = true → Sm.sizes l < 4611686018427387000 → Sm.FineDs l
  | [], _, _, _, _ => by simp only [Sm.FineDs]
  | s :: l, nest, n, hm, hs => by
    simp only [Sm.mayL] at hm
    simp only [Sm.sizes] at hs
    split at hm
    · cases hm
    rename_i hc
    simp only [Bool.not_eq_true', Bool.not_eq_false] at hc
    exact ⟨mayR_FineD s nest n hc (by omega), mayL_FineD l nest _ hm (by omega)⟩
end
theorem may_FineP {p : Pg} (h : p.may = true) (hs : p.size < 4611686018427387000) : p.FineP := by
  have hf := may_fine h hs
  rw [← mayP_eq] at h
  unfold Pg.mayP at h
  split at h
  · cases h
  refine ⟨hf.sz, hf.glob, hf.heads, fun f m => ?_⟩
  obtain ⟨_, n, e⟩ := pmayL_mem h m
  rw [(mayG_true e).2] at e
  have := Pc.sizes_mem m
  simp only [Pg.size] at hs
  exact mayL_FineD f.body 1 n e (by unfold Pc.size at this; omega)

mutual
theorem flatS_fine {deep inn : Int} {els : Bool} {out : List It} {i : It} : ∀ s : Sm, s.FineD → i ∈ flatS deep inn els out s → i ∈ out ∨ i.s.Fine
  | ⟨id, kind, labels, name, proc, x, has, args, thn, e⟩, hf, h => by
    simp only [flatS] at h
    simp only [Sm.FineD] at hf
    have key : i ∈ out ++ [(⟨⟨id, kind, labels, name, proc, x, has, args, thn, e⟩, deep, inn, els⟩ : It)] → i ∈ out ∨ i.s.Fine := by
      intro h
      rcases List.mem_append.1 h with h | h
      · exact .inl h
      · simp at h; subst h; exact .inr hf.1
    split at h
    · rcases flatL_fine e hf.2.2 h with h | h
      · rcases flatL_fine thn hf.2.1 h with h | h
        · exact key h
        · exact .inr h
      · exact .inr h
    · exact key h
theorem flatL_fine {deep inn : Int} {els : Bool} {out : List It} {i : It} : ∀ l : List Sm, Sm.FineDs l → i ∈ flatL deep inn els out l → i ∈ out ∨ i.s.Fine
  | [], _, h => by simp only [flatL] at h; exact .inl h
  | s :: l, hf, h => by
    simp only [flatL] at h
    simp only [Sm.FineDs] at hf
    split at h
    · rcases flatL_fine l hf.2 h with h | h
      · exact flatS_fine s hf.1 h
      · exact .inr h
    · exact .inl h
end
theorem allM_fine {i : It} : ∀ (l : List Pc) (out : List It), (∀ f ∈ l, Sm.FineDs f.body) → i ∈ allM out l → i ∈ out ∨ i.s.Fine
  | [], out, _, h => by simp only [allM] at h; exact .inl h
  | f :: l, out, hf, h => by
    have key : i ∈ out ++ f.flat → i ∈ out ∨ i.s.Fine := by
      intro h
      rcases List.mem_append.1 h with h | h
      · exact .inl h
      · rcases flatL_fine _ (hf f (List.mem_cons_self ..)) h with h | h
        · simp at h
        · exact .inr h
    simp only [allM] at h
    split at h
    · exact key h
    · rcases allM_fine l _ (fun g m => hf g (List.mem_cons_of_mem _ m)) h with h | h
      · exact key h
      · exact .inr h
theorem fineP_fine {p : Pg} (h : p.FineP) : p.Fine := ⟨h.sz, h.glob, h.heads, fun i hi => (allM_fine p.procs [] h.body hi).resolve_left (by simp)⟩

end Go.Abs

/-! Fits1 -/

namespace Go.Abs

set_option maxRecDepth 8000
set_option linter.unusedSimpArgs false
set_option linter.unusedVariables false
open Go.Proofs

def weighTs : List Str → Int → Int
  | [], n => n
  | t :: l, n => if n ≤ 20000 then weighTs l (weighT t n) else n
def weighAs : List Ar → Int → Int
  | [], n => n
  | a :: l, n => if n ≤ 20000 then weighAs l (weighT a.name (weighE a.x n)) else n
def weighMs : List Pm → Int → Int
  | [], n => n
  | a :: l, n => if n ≤ 20000 then weighMs l (weighT a.name n) else n
mutual
def weighS : Sm → Int → Int
  | ⟨_, _, labels, name, proc, x, _, args, thn, els⟩, n => weighSs els (weighSs thn (weighAs args (weighT proc (weighT name (weighTs labels (weighE x n))))))
def weighSs : List Sm → Int → Int
  | [], n => n
  | s :: l, n => if n ≤ 20000 then weighSs l (weighS s n) else n
end
theorem weighS_eq (s : Sm) (n : Int) : weighS s n = weighSs s.els (weighSs s.thn (weighAs s.args (weighT s.proc (weighT s.name (weighTs s.labels (weighE s.x n)))))) := by cases s; simp only [weighS]
def weighF (f : Pc) (n : Int) : Int := weighSs f.body (weighMs f.params (weighTs f.fin (weighTs f.vars (weighT f.name n))))
def weighFs : List Pc → Int → Int
  | [], n => n
  | f :: l, n => if n ≤ 20000 then weighFs l (weighF f n) else n
def Pg.weigh (p : Pg) : Int := weighFs p.procs (weighTs p.globals 0)

theorem weighTs_in : ∀ (l : List Str) {n : Int}, 0 ≤ n → n ≤ 20001 → weighTs l n ≤ 20001 ∧ n ≤ weighTs l n ∧ (weighTs l n ≤ 20000 → n + l.length ≤ weighTs l n ∧ ∀ t ∈ l, t.length < 4611686018427387904)
  | [], n, h0, h1 => by simp only [weighTs]; exact ⟨h1, Int.le_refl _, fun _ => ⟨by simp, by simp⟩⟩
  | t :: l, n, h0, h1 => by
    simp only [weighTs]
    split
    · rename_i hc
      obtain ⟨a1, a2, a3, a4⟩ := weighT_in (t := t) h0
      obtain ⟨b1, b2, b3⟩ := weighTs_in l (n := weighT t n) a3 a1
      have := a2 hc
      refine ⟨b1, by omega, fun hw => ?_⟩
      obtain ⟨c1, c2⟩ := b3 hw
      have := a4 (by omega)
      refine ⟨by simp only [List.length_cons]; omega, fun s m => ?_⟩
      rcases List.mem_cons.1 m with rfl | m
      · omega
      · exact c2 s m
    · exact ⟨h1, Int.le_refl _, fun hw => by omega⟩
theorem weighMs_in : ∀ (l : List Pm) {n : Int}, 0 ≤ n → n ≤ 20001 → weighMs l n ≤ 20001 ∧ n ≤ weighMs l n ∧ (weighMs l n ≤ 20000 → n + l.length ≤ weighMs l n ∧ ∀ t ∈ l, t.name.length < 4611686018427387904)
  | [], n, h0, h1 => by simp only [weighMs]; exact ⟨h1, Int.le_refl _, fun _ => ⟨by simp, by simp⟩⟩
  | t :: l, n, h0, h1 => by
    simp only [weighMs]
    split
    · rename_i hc
      obtain ⟨a1, a2, a3, a4⟩ := weighT_in (t := t.name) h0
      obtain ⟨b1, b2, b3⟩ := weighMs_in l (n := weighT t.name n) a3 a1
      have := a2 hc
      refine ⟨b1, by omega, fun hw => ?_⟩
      obtain ⟨c1, c2⟩ := b3 hw
      have := a4 (by omega)
      refine ⟨by simp only [List.length_cons]; omega, fun s m => ?_⟩
      rcases List.mem_cons.1 m with rfl | m
      · omega
      · exact c2 s m
    · exact ⟨h1, Int.le_refl _, fun hw => by omega⟩
theorem weighAs_in : ∀ (l : List Ar) {n : Int}, 0 ≤ n → n ≤ 20001 → weighAs l n ≤ 20001 ∧ n ≤ weighAs l n ∧
    (weighAs l n ≤ 20000 → (Ar.sizes l : Int) ≤ 2 * (weighAs l n - n) ∧ ∀ a ∈ l, a.x.size < 4611686018427387904 ∧ a.x.texts ∧ a.name.length < 4611686018427387904)
  | [], n, h0, h1 => by simp only [weighAs]; exact ⟨h1, Int.le_refl _, fun _ => ⟨by simp [Ar.sizes], by simp⟩⟩
  | a :: l, n, h0, h1 => by
    simp only [weighAs]
    split
    · rename_i hc
      obtain ⟨a1, a2, a3, a4⟩ := weigh_in _ a.x (Nat.le_refl _) n h0
      obtain ⟨e1, e2, e3, e4⟩ := weighT_in (t := a.name) a3
      obtain ⟨b1, b2, b3⟩ := weighAs_in l (n := weighT a.name (weighE a.x n)) e3 e1
      have := a2 hc
      have : weighE a.x n ≤ weighT a.name (weighE a.x n) := by
        by_cases h : weighE a.x n ≤ 20000
        · have := e2 h; omega
        · have : weighT a.name (weighE a.x n) = 20001 := by unfold weighT; rw [if_pos (by omega)]
          omega
      refine ⟨b1, by omega, fun hw => ?_⟩
      obtain ⟨c1, c2⟩ := b3 hw
      have := e4 (by omega)
      obtain ⟨d1, d2⟩ := a4 (by omega)
      refine ⟨by simp only [Ar.sizes]; omega, fun s m => ?_⟩
      rcases List.mem_cons.1 m with rfl | m
      · exact ⟨by omega, d2, by omega⟩
      · exact c2 s m
    · exact ⟨h1, Int.le_refl _, fun hw => by omega⟩
theorem weighT_mono {t : Str} {n : Int} (h0 : 0 ≤ n) (h1 : n ≤ 20001) : n ≤ weighT t n ∧ weighT t n ≤ 20001 ∧ (weighT t n ≤ 20000 → n + 1 ≤ weighT t n ∧ t.length < 4611686018427387904) := by
  obtain ⟨e1, e2, e3, e4⟩ := weighT_in (t := t) h0
  by_cases h : n ≤ 20000
  · have := e2 h
    exact ⟨by omega, e1, fun hw => ⟨by omega, by have := e4 hw; omega⟩⟩
  · have : weighT t n = 20001 := by unfold weighT; rw [if_pos (by omega)]
    exact ⟨by omega, e1, fun hw => by omega⟩

mutual
theorem weighS_in : ∀ (s : Sm) {n : Int}, 0 ≤ n → n ≤ 20000 → weighS s n ≤ 20001 ∧ n + 1 ≤ weighS s n ∧ (weighS s n ≤ 20000 → (s.size : Int) + 1 ≤ 2 * (weighS s n - n) ∧ s.FineD)
  | ⟨id, kind, labels, name, proc, x, has, args, thn, els⟩, n, h0, h1 => by
    obtain ⟨a1, a2, a3, a4⟩ := weigh_in _ x (Nat.le_refl _) n h0
    have a2 := a2 h1
    obtain ⟨b1, b2, b3⟩ := weighTs_in labels a3 a1
    obtain ⟨c1, c2, c3⟩ := weighT_mono (t := name) (n := weighTs labels (weighE x n)) (by omega) b1
    obtain ⟨d1, d2, d3⟩ := weighT_mono (t := proc) (n := weighT name (weighTs labels (weighE x n))) (by omega) c2
    obtain ⟨e1, e2, e3⟩ := weighAs_in args (n := weighT proc (weighT name (weighTs labels (weighE x n)))) (by omega) d2
    obtain ⟨f1, f2, f3⟩ := weighSs_in thn (n := weighAs args (weighT proc (weighT name (weighTs labels (weighE x n))))) (by omega) e1
    obtain ⟨g1, g2, g3⟩ := weighSs_in els (n := weighSs thn (weighAs args (weighT proc (weighT name (weighTs labels (weighE x n)))))) (by omega) f1
    simp only [weighS, Sm.size]
    refine ⟨g1, by omega, fun hw => ?_⟩
    obtain ⟨g4, g5⟩ := g3 hw
    obtain ⟨f4, f5⟩ := f3 (by omega)
    obtain ⟨e4, e5⟩ := e3 (by omega)
    obtain ⟨d4, d5⟩ := d3 (by omega)
    obtain ⟨c4, c5⟩ := c3 (by omega)
    obtain ⟨b4, b5⟩ := b3 (by omega)
    obtain ⟨a5, a6⟩ := a4 (by omega)
    have := Ar.sizes_len args
    refine ⟨by omega, ?_⟩
    rw [FineD_eq]
    exact ⟨⟨b5, by dsimp only; omega, c5, d5, by dsimp only; omega, a6, by dsimp only; omega, e5⟩, f5, g5⟩
theorem weighSs_in : ∀ (l : List Sm) {n : Int}, 0 ≤ n → n ≤ 20001 → weighSs l n ≤ 20001 ∧ n ≤ weighSs l n ∧ (weighSs l n ≤ 20000 → (Sm.sizes l : Int) ≤ 2 * (weighSs l n - n) ∧ Sm.FineDs l)
  | [], n, h0, h1 => by simp only [weighSs]; exact ⟨h1, Int.le_refl _, fun _ => ⟨by simp [Sm.sizes], by simp only [Sm.FineDs]⟩⟩
  | s :: l, n, h0, h1 => by
    simp only [weighSs]
    split
    · rename_i hc
      obtain ⟨a1, a2, a3⟩ := weighS_in s h0 hc
      obtain ⟨b1, b2, b3⟩ := weighSs_in l (n := weighS s n) (by omega) a1
      refine ⟨b1, by omega, fun hw => ?_⟩
      obtain ⟨c1, c2⟩ := b3 hw
      obtain ⟨d1, d2⟩ := a3 (by omega)
      exact ⟨by simp only [Sm.sizes]; omega, d2, c2⟩
    · exact ⟨h1, Int.le_refl _, fun hw => by omega⟩
end

theorem weighF_in (f : Pc) {n : Int} (h0 : 0 ≤ n) (h1 : n ≤ 20000) : weighF f n ≤ 20001 ∧ n + 1 ≤ weighF f n ∧ (weighF f n ≤ 20000 → (f.size : Int) + 1 ≤ 2 * (weighF f n - n) ∧
    (f.name.length < 4611686018427387904 ∧ (∀ t ∈ f.vars, t.length < 4611686018427387904) ∧ (∀ t ∈ f.fin, t.length < 4611686018427387904) ∧ ∀ a ∈ f.params, a.name.length < 4611686018427387904) ∧ Sm.FineDs f.body) := by
  obtain ⟨c1, c2, c3⟩ := weighT_mono (t := f.name) h0 (by omega : n ≤ 20001)
  have c4 := (weighT_in (t := f.name) h0).2.1 h1
  obtain ⟨d1, d2, d3⟩ := weighTs_in f.vars (n := weighT f.name n) (by omega) c2
  obtain ⟨e1, e2, e3⟩ := weighTs_in f.fin (n := weighTs f.vars (weighT f.name n)) (by omega) d1
  obtain ⟨g1, g2, g3⟩ := weighMs_in f.params (n := weighTs f.fin (weighTs f.vars (weighT f.name n))) (by omega) e1
  obtain ⟨k1, k2, k3⟩ := weighSs_in f.body (n := weighMs f.params (weighTs f.fin (weighTs f.vars (weighT f.name n)))) (by omega) g1
  unfold weighF Pc.size
  refine ⟨k1, by omega, fun hw => ?_⟩
  obtain ⟨k4, k5⟩ := k3 hw
  obtain ⟨g4, g5⟩ := g3 (by omega)
  obtain ⟨e4, e5⟩ := e3 (by omega)
  obtain ⟨d4, d5⟩ := d3 (by omega)
  obtain ⟨_, c5⟩ := c3 (by omega)
  exact ⟨by omega, ⟨c5, d5, e5, g5⟩, k5⟩

theorem weighFs_in : ∀ (l : List Pc) {n : Int}, 0 ≤ n → n ≤ 20001 → weighFs l n ≤ 20001 ∧ n ≤ weighFs l n ∧ (weighFs l n ≤ 20000 → (Pc.sizes l : Int) ≤ 2 * (weighFs l n - n) ∧ ∀ f ∈ l,
    (f.name.length < 4611686018427387904 ∧ (∀ t ∈ f.vars, t.length < 4611686018427387904) ∧ (∀ t ∈ f.fin, t.length < 4611686018427387904) ∧ ∀ a ∈ f.params, a.name.length < 4611686018427387904) ∧ Sm.FineDs f.body)
  | [], n, h0, h1 => by simp only [weighFs]; exact ⟨h1, Int.le_refl _, fun _ => ⟨by simp [Pc.sizes], by simp⟩⟩
  | f :: l, n, h0, h1 => by
    simp only [weighFs]
    split
    · rename_i hc
      obtain ⟨a1, a2, a3⟩ := weighF_in f h0 hc
      obtain ⟨b1, b2, b3⟩ := weighFs_in l (n := weighF f n) (by omega) a1
      refine ⟨b1, by omega, fun hw => ?_⟩
      obtain ⟨c1, c2⟩ := b3 hw
      obtain ⟨d1, d2⟩ := a3 (by omega)
      refine ⟨by simp only [Pc.sizes]; omega, fun s m => ?_⟩
      rcases List.mem_cons.1 m with rfl | m
      · exact d2
      · exact c2 s m
    · exact ⟨h1, Int.le_refl _, fun hw => by omega⟩

theorem weigh_fits {p : Pg} (h : p.weigh ≤ 20000) : p.size ≤ 40001 ∧ p.FineP := by
  unfold Pg.weigh at h
  obtain ⟨a1, a2, a3⟩ := weighTs_in p.globals (n := 0) (by omega) (by omega)
  obtain ⟨b1, b2, b3⟩ := weighFs_in p.procs (n := weighTs p.globals 0) (by omega) a1
  obtain ⟨c1, c2⟩ := b3 h
  obtain ⟨d1, d2⟩ := a3 (by omega)
  have : p.size ≤ 40001 := by unfold Pg.size; omega
  exact ⟨this, by omega, d2, fun f m => (c2 f m).1, fun f m => (c2 f m).2⟩

/-! ### The walk -/

theorem weighTs_s {l : List Str} {n : Int} (h0 : 0 ≤ n) (h1 : n ≤ 20001) (s : St) : Fun Tryd.prog n_ref3_weighTexts [.slice .shared 1 (l.map encStr), .int .i64 n] s (.int .i64 (weighTs l n)) s := by
  refine Fun.pure ?_ (by simp [D.oks, D.ok, okrStr, Tag.ok]) rfl s
  unfold S0
  generalize h : weighTs l n = p
  refine Fun.go has_ref3_weighTexts rfl fun B Q hB hQ => ?_
  have hlt : 0 < 1 := Nat.zero_lt_one
  have hget : 0 < 1 := Nat.zero_lt_one
  have hpu : 0 < 1 := Nat.zero_lt_one
  have hinc : 0 < 1 := Nat.zero_lt_one
  repeat' (first
 | simp only [go_sem, hlt, hget, hpu, hinc, Int.reduceLE, ↓reduceIte, reduceCtorEq, Nat.reduceEqDiff, Nat.reduceLeDiff, Nat.reduceAdd, Nat.reduceMul, Nat.reduceSub, Nat.reduceLT]
 | (with_reducible first | refine CB_ofT (by assumption) fun hc => ?_ | refine CB_ofF (by assumption) fun hc => ?_ | refine CB_split (fun hc => ?_) fun hc => ?_) <;> (try simp only [hc, bs, ↓reduceIte] at h) <;> (try simp only [hc])
 | ((with_reducible first | refine leafR hQ ?_ | refine leafN hQ ?_); (try cases h); simp only [resL, oneD, Option.some.injEq, exists_eq_left', go_sem, hlt, hget, hpu, hinc, Int.reduceLE, ↓reduceIte, reduceCtorEq, Nat.reduceEqDiff, Nat.reduceLeDiff, Nat.reduceAdd, Nat.reduceMul, Nat.reduceSub, Nat.reduceLT]; repeat' (first | exact Ok.out | with_reducible refine And.intro ?_ ?_ | (simp; done)))
 | (cases h; replace h := hr; clear hr; (try simp only [bs, ↓reduceIte] at h))
 | (cases h; done))
  refine SemL.re _ _ 0 0 (by rw [hB]; exact Nat.le_of_ble_eq_true rfl) (by rw [hB]; exact Nat.le_of_ble_eq_true rfl) ?_ ?_ (SemL.ind (ι := List Str × Nat × Int) (fun i => l.drop i.2.1 = i.1 ∧ weighTs i.1 i.2.2 = p ∧ (i.2.1 : Int) ≤ i.2.2 ∧ i.2.2 ≤ 20001) (fun i => i.1.length)
    (fun i => [(0, .slice .shared 1 (l.map encStr)), (1, .int .i64 i.2.2), (5, .int .i64 (i.2.1 : Int))]) (fun i => ⟨[], []⟩) ?_ (l, 0, n) ⟨rfl, h, h0, h1⟩)
  · (simp only [go_sem, hlt, hget, hpu, hinc, Int.reduceLE, ↓reduceIte, reduceCtorEq, Nat.reduceEqDiff, Nat.reduceLeDiff, Nat.reduceAdd, Nat.reduceMul, Nat.reduceSub, Nat.reduceLT]; repeat' (first | exact Ok.out | with_reducible refine And.intro ?_ ?_))
  · (simp only [go_sem, hlt, hget, hpu, hinc, Int.reduceLE, ↓reduceIte, reduceCtorEq, Nat.reduceEqDiff, Nat.reduceLeDiff, Nat.reduceAdd, Nat.reduceMul, Nat.reduceSub, Nat.reduceLT]; repeat' (first | exact Ok.out | with_reducible refine And.intro ?_ ?_))
  rintro ⟨rest, k, c⟩ ⟨g1, h, g3, g4⟩ IH
  dsimp only at g1 h g3 g4
  cases rest with
  | nil =>
    have hlt := drop_nil g1
    simp only [weighTs] at h
    subst h
    repeat' (first
 | simp only [go_sem, hlt, hget, hpu, hinc, Int.reduceLE, ↓reduceIte, reduceCtorEq, Nat.reduceEqDiff, Nat.reduceLeDiff, Nat.reduceAdd, Nat.reduceMul, Nat.reduceSub, Nat.reduceLT]
 | (with_reducible first | refine CB_ofT (by assumption) fun hc => ?_ | refine CB_ofF (by assumption) fun hc => ?_ | refine CB_split (fun hc => ?_) fun hc => ?_) <;> (try simp only [hc, bs, ↓reduceIte] at h) <;> (try simp only [hc])
 | ((with_reducible first | refine leafR hQ ?_ | refine leafN hQ ?_); (try cases h); simp only [resL, oneD, Option.some.injEq, exists_eq_left', go_sem, hlt, hget, hpu, hinc, Int.reduceLE, ↓reduceIte, reduceCtorEq, Nat.reduceEqDiff, Nat.reduceLeDiff, Nat.reduceAdd, Nat.reduceMul, Nat.reduceSub, Nat.reduceLT]; repeat' (first | exact Ok.out | with_reducible refine And.intro ?_ ?_ | (simp; done)))
 | (cases h; replace h := hr; clear hr; (try simp only [bs, ↓reduceIte] at h))
 | (cases h; done))
  | cons y rest =>
    obtain ⟨hget, g2, hlt, g5⟩ := drop_cons g1
    simp only [weighTs] at h
    by_cases hc : c ≤ 20000
    · have c1 : decide (c ≤ 20000) = true := by simp; omega
      have hy := fun s => weighT_s y (n := c) (by omega) g4 s
      obtain ⟨a1, a2, a3, a4⟩ := weighT_in (t := y) (n := c) (by omega)
      have := a2 hc
      have w3 : IntKind.wrap .i64 ((k : Int) + 1) = ((k + 1 : Nat) : Int) := by rw [wrap_ok] <;> omega
      rw [if_pos hc] at h
      repeat' (first
 | simp only [go_sem, hlt, hget, hpu, hinc, Int.reduceLE, ↓reduceIte, reduceCtorEq, Nat.reduceEqDiff, Nat.reduceLeDiff, Nat.reduceAdd, Nat.reduceMul, Nat.reduceSub, Nat.reduceLT, c1, w3]
 | (with_reducible refine CU (hy _) ?_)
 | (with_reducible first | refine CB_ofT (by assumption) fun hc => ?_ | refine CB_ofF (by assumption) fun hc => ?_ | refine CB_split (fun hc => ?_) fun hc => ?_) <;> (try simp only [hc, bs, ↓reduceIte] at h) <;> (try simp only [hc])
 | ((with_reducible first | refine leafR hQ ?_ | refine leafN hQ ?_); (try cases h); simp only [resL, oneD, Option.some.injEq, exists_eq_left', go_sem, hlt, hget, hpu, hinc, Int.reduceLE, ↓reduceIte, reduceCtorEq, Nat.reduceEqDiff, Nat.reduceLeDiff, Nat.reduceAdd, Nat.reduceMul, Nat.reduceSub, Nat.reduceLT, c1, w3]; repeat' (first | exact Ok.out | with_reducible refine And.intro ?_ ?_ | (simp; done)))
 | (cases h; replace h := hr; clear hr; (try simp only [bs, ↓reduceIte] at h))
 | (cases h; done))
      refine SemL.re _ _ 0 0 (by rw [hB]; exact Nat.le_of_ble_eq_true rfl) (by rw [hB]; exact Nat.le_of_ble_eq_true rfl) ?_ ?_ (IH (rest, k + 1, weighT y c) ⟨g2, h, by dsimp only; omega, a1⟩ (Nat.lt_succ_self _))
      · (simp only [go_sem, hlt, hget, hpu, hinc, Int.reduceLE, ↓reduceIte, reduceCtorEq, Nat.reduceEqDiff, Nat.reduceLeDiff, Nat.reduceAdd, Nat.reduceMul, Nat.reduceSub, Nat.reduceLT]; repeat' (first | exact Ok.out | with_reducible refine And.intro ?_ ?_))
      · (simp only [go_sem, hlt, hget, hpu, hinc, Int.reduceLE, ↓reduceIte, reduceCtorEq, Nat.reduceEqDiff, Nat.reduceLeDiff, Nat.reduceAdd, Nat.reduceMul, Nat.reduceSub, Nat.reduceLT]; repeat' (first | exact Ok.out | with_reducible refine And.intro ?_ ?_))
    · have c1 : decide (c ≤ 20000) = false := by simp; omega
      rw [if_neg hc] at h
      subst h
      repeat' (first
 | simp only [go_sem, hlt, hget, hpu, hinc, Int.reduceLE, ↓reduceIte, reduceCtorEq, Nat.reduceEqDiff, Nat.reduceLeDiff, Nat.reduceAdd, Nat.reduceMul, Nat.reduceSub, Nat.reduceLT, c1]
 | (with_reducible first | refine CB_ofT (by assumption) fun hc => ?_ | refine CB_ofF (by assumption) fun hc => ?_ | refine CB_split (fun hc => ?_) fun hc => ?_) <;> (try simp only [hc, bs, ↓reduceIte] at h) <;> (try simp only [hc])
 | ((with_reducible first | refine leafR hQ ?_ | refine leafN hQ ?_); (try cases h); simp only [resL, oneD, Option.some.injEq, exists_eq_left', go_sem, hlt, hget, hpu, hinc, Int.reduceLE, ↓reduceIte, reduceCtorEq, Nat.reduceEqDiff, Nat.reduceLeDiff, Nat.reduceAdd, Nat.reduceMul, Nat.reduceSub, Nat.reduceLT, c1]; repeat' (first | exact Ok.out | with_reducible refine And.intro ?_ ?_ | (simp; done)))
 | (cases h; replace h := hr; clear hr; (try simp only [bs, ↓reduceIte] at h))
 | (cases h; done))

theorem weighSs_s : ∀ (m : Nat) (l : List Sm), Sm.sizes l ≤ m → ∀ {n : Int}, 0 ≤ n → n ≤ 20001 → ∀ s : St, Fun Tryd.prog n_ref3_weighStmts [.slice .shared 13 (l.map encSm), .int .i64 n] s (.int .i64 (weighSs l n)) s := by
  intro m
  induction m with
  | zero =>
    intro l h n h0 h1 s
    cases l with
    | nil =>
      have z : decide ((0 : Int) < 0) = false := rfl
      refine Fun.pure ?_ (by simp [D.oks, D.ok, D.okr, Tag.ok]) rfl s
      unfold S0
      simp only [weighSs]
      refine Fun.go has_ref3_weighStmts rfl fun B Q hB hQ => ?_
      have hlt : 0 < 1 := Nat.zero_lt_one
      have hget : 0 < 1 := Nat.zero_lt_one
      have hpu : 0 < 1 := Nat.zero_lt_one
      have hinc : 0 < 1 := Nat.zero_lt_one
      repeat' (first
 | simp only [go_sem, hlt, hget, hpu, hinc, Int.reduceLE, ↓reduceIte, reduceCtorEq, Nat.reduceEqDiff, Nat.reduceLeDiff, Nat.reduceAdd, Nat.reduceMul, Nat.reduceSub, Nat.reduceLT, z]
 | (with_reducible refine SemL.onceW ?_)
 | (with_reducible first | refine CB_ofT (by assumption) fun hc => ?_ | refine CB_ofF (by assumption) fun hc => ?_ | refine CB_split (fun hc => ?_) fun hc => ?_) <;> (try simp only [hc, bs, ↓reduceIte] at h) <;> (try simp only [hc])
 | ((with_reducible first | refine leafR hQ ?_ | refine leafN hQ ?_); (try cases h); simp only [resL, oneD, Option.some.injEq, exists_eq_left', go_sem, hlt, hget, hpu, hinc, Int.reduceLE, ↓reduceIte, reduceCtorEq, Nat.reduceEqDiff, Nat.reduceLeDiff, Nat.reduceAdd, Nat.reduceMul, Nat.reduceSub, Nat.reduceLT, z]; repeat' (first | exact Ok.out | with_reducible refine And.intro ?_ ?_ | (simp; done)))
 | (cases h; replace h := hr; clear hr; (try simp only [bs, ↓reduceIte] at h))
 | (cases h; done))
    | cons s l => simp only [Sm.sizes] at h; omega
  | succ m ih =>
    intro l h n h0 h1 s
    refine Fun.pure ?_ (by simp [D.oks, D.ok, okrSm, Tag.ok]) rfl s
    unfold S0
    generalize hp : weighSs l n = p
    refine Fun.go has_ref3_weighStmts rfl fun B Q hB hQ => ?_
    have hlt : 0 < 1 := Nat.zero_lt_one
    have hget : 0 < 1 := Nat.zero_lt_one
    have hpu : 0 < 1 := Nat.zero_lt_one
    have hinc : 0 < 1 := Nat.zero_lt_one
    repeat' (first
 | simp only [go_sem, hlt, hget, hpu, hinc, Int.reduceLE, ↓reduceIte, reduceCtorEq, Nat.reduceEqDiff, Nat.reduceLeDiff, Nat.reduceAdd, Nat.reduceMul, Nat.reduceSub, Nat.reduceLT]
 | (with_reducible first | refine CB_ofT (by assumption) fun hc => ?_ | refine CB_ofF (by assumption) fun hc => ?_ | refine CB_split (fun hc => ?_) fun hc => ?_) <;> (try simp only [hc, bs, ↓reduceIte] at h) <;> (try simp only [hc])
 | ((with_reducible first | refine leafR hQ ?_ | refine leafN hQ ?_); (try cases h); simp only [resL, oneD, Option.some.injEq, exists_eq_left', go_sem, hlt, hget, hpu, hinc, Int.reduceLE, ↓reduceIte, reduceCtorEq, Nat.reduceEqDiff, Nat.reduceLeDiff, Nat.reduceAdd, Nat.reduceMul, Nat.reduceSub, Nat.reduceLT]; repeat' (first | exact Ok.out | with_reducible refine And.intro ?_ ?_ | (simp; done)))
 | (cases h; replace h := hr; clear hr; (try simp only [bs, ↓reduceIte] at h))
 | (cases h; done))
    refine SemL.re _ _ 0 0 (by rw [hB]; exact Nat.le_of_ble_eq_true rfl) (by rw [hB]; exact Nat.le_of_ble_eq_true rfl) ?_ ?_ (SemL.ind (ι := List Sm × Nat × Int) (fun i => l.drop i.2.1 = i.1 ∧ weighSs i.1 i.2.2 = p ∧ (i.2.1 : Int) ≤ i.2.2 ∧ i.2.2 ≤ 20001) (fun i => i.1.length)
      (fun i => [(0, .slice .shared 13 (l.map encSm)), (1, .int .i64 i.2.2), (5, .int .i64 (i.2.1 : Int))]) (fun i => ⟨[], []⟩) ?_ (l, 0, n) ⟨rfl, hp, h0, h1⟩)
    · (simp only [go_sem, hlt, hget, hpu, hinc, Int.reduceLE, ↓reduceIte, reduceCtorEq, Nat.reduceEqDiff, Nat.reduceLeDiff, Nat.reduceAdd, Nat.reduceMul, Nat.reduceSub, Nat.reduceLT]; repeat' (first | exact Ok.out | with_reducible refine And.intro ?_ ?_))
    · (simp only [go_sem, hlt, hget, hpu, hinc, Int.reduceLE, ↓reduceIte, reduceCtorEq, Nat.reduceEqDiff, Nat.reduceLeDiff, Nat.reduceAdd, Nat.reduceMul, Nat.reduceSub, Nat.reduceLT]; repeat' (first | exact Ok.out | with_reducible refine And.intro ?_ ?_))
    rintro ⟨rest, k, c⟩ ⟨g1, hp, g3, g4⟩ IH
    dsimp only at g1 hp g3 g4
    cases rest with
    | nil =>
      have hlt := drop_nil g1
      simp only [weighSs] at hp
      subst hp
      repeat' (first
 | simp only [go_sem, hlt, hget, hpu, hinc, Int.reduceLE, ↓reduceIte, reduceCtorEq, Nat.reduceEqDiff, Nat.reduceLeDiff, Nat.reduceAdd, Nat.reduceMul, Nat.reduceSub, Nat.reduceLT]
 | (with_reducible first | refine CB_ofT (by assumption) fun hc => ?_ | refine CB_ofF (by assumption) fun hc => ?_ | refine CB_split (fun hc => ?_) fun hc => ?_) <;> (try simp only [hc, bs, ↓reduceIte] at h) <;> (try simp only [hc])
 | ((with_reducible first | refine leafR hQ ?_ | refine leafN hQ ?_); (try cases h); simp only [resL, oneD, Option.some.injEq, exists_eq_left', go_sem, hlt, hget, hpu, hinc, Int.reduceLE, ↓reduceIte, reduceCtorEq, Nat.reduceEqDiff, Nat.reduceLeDiff, Nat.reduceAdd, Nat.reduceMul, Nat.reduceSub, Nat.reduceLT]; repeat' (first | exact Ok.out | with_reducible refine And.intro ?_ ?_ | (simp; done)))
 | (cases h; replace h := hr; clear hr; (try simp only [bs, ↓reduceIte] at h))
 | (cases h; done))
    | cons y rest =>
      obtain ⟨hget, g2, hlt, g5⟩ := drop_cons g1
      simp only [weighSs] at hp
      by_cases hc : c ≤ 20000
      · have c1 : decide (c ≤ 20000) = true := by simp; omega
        have hmem := List.mem_of_getElem? hget
        have hsz := Sm.sizes_mem hmem
        have hsz2 : s.objs.length ≤ s.objs.length ∧ Sm.sizes y.thn < y.size ∧ Sm.sizes y.els < y.size := by cases y; simp only [Sm.size]; omega
        have w3 : IntKind.wrap .i64 ((k : Int) + 1) = ((k + 1 : Nat) : Int) := by rw [wrap_ok] <;> omega
        rw [if_pos hc] at hp
        obtain ⟨a1, a2, a3, a4⟩ := weigh_in _ y.x (Nat.le_refl _) c (by omega)
        have a2 := a2 hc
        obtain ⟨b1, b2, b3⟩ := weighTs_in y.labels a3 a1
        obtain ⟨c1', c2, c3⟩ := weighT_mono (t := y.name) (n := weighTs y.labels (weighE y.x c)) (by omega) b1
        obtain ⟨d1, d2, d3⟩ := weighT_mono (t := y.proc) (n := weighT y.name (weighTs y.labels (weighE y.x c))) (by omega) c2
        have eE := fun s => weighE_s _ y.x (Nat.le_refl _) (n := c) (by omega) hc s
        have eL := fun s => weighTs_s (l := y.labels) (n := weighE y.x c) (by omega) a1 s
        have eN := fun s => weighT_s y.name (n := weighTs y.labels (weighE y.x c)) (by omega) b1 s
        have eP := fun s => weighT_s y.proc (n := weighT y.name (weighTs y.labels (weighE y.x c))) (by omega) c2 s
        obtain ⟨r1, r2, r3⟩ := weighS_in y (n := c) (by omega) hc
        rw [weighS_eq] at hp r1 r2
        generalize hC : weighT y.proc (weighT y.name (weighTs y.labels (weighE y.x c))) = C at *
        obtain ⟨s1, s2, s3⟩ := weighAs_in y.args (n := C) (by omega) d2
        obtain ⟨t1, t2, t3⟩ := weighSs_in y.thn (n := weighAs y.args C) (by omega) s1
        have eT := fun s => ih y.thn (by omega) (n := weighAs y.args C) (by omega) s1 s
        have eS := fun s => ih y.els (by omega) (n := weighSs y.thn (weighAs y.args C)) (by omega) t1 s
        generalize hW : weighAs y.args C = W at *
        repeat' (first
 | simp only [go_sem, hlt, hget, hpu, hinc, Int.reduceLE, ↓reduceIte, reduceCtorEq, Nat.reduceEqDiff, Nat.reduceLeDiff, Nat.reduceAdd, Nat.reduceMul, Nat.reduceSub, Nat.reduceLT, c1, w3]
 | (with_reducible refine CU (eE _) ?_)
 | (with_reducible refine CU (eL _) ?_)
 | (with_reducible refine CU (eN _) ?_)
 | (with_reducible refine CU (eP _) ?_)
 | (with_reducible first | refine CB_ofT (by assumption) fun hc => ?_ | refine CB_ofF (by assumption) fun hc => ?_ | refine CB_split (fun hc => ?_) fun hc => ?_) <;> (try simp only [hc, bs, ↓reduceIte] at h) <;> (try simp only [hc])
 | ((with_reducible first | refine leafR hQ ?_ | refine leafN hQ ?_); (try cases h); simp only [resL, oneD, Option.some.injEq, exists_eq_left', go_sem, hlt, hget, hpu, hinc, Int.reduceLE, ↓reduceIte, reduceCtorEq, Nat.reduceEqDiff, Nat.reduceLeDiff, Nat.reduceAdd, Nat.reduceMul, Nat.reduceSub, Nat.reduceLT, c1, w3]; repeat' (first | exact Ok.out | with_reducible refine And.intro ?_ ?_ | (simp; done)))
 | (cases h; replace h := hr; clear hr; (try simp only [bs, ↓reduceIte] at h))
 | (cases h; done))
        refine SemL.re _ _ 1 0 (by rw [hB]; exact Nat.le_of_ble_eq_true rfl) (by rw [hB]; exact Nat.le_of_ble_eq_true rfl) ?_ ?_ (SemL.ind (ι := List Ar × Nat × Int) (fun i => y.args.drop i.2.1 = i.1 ∧ weighAs i.1 i.2.2 = W ∧ (i.2.1 : Int) ≤ i.2.2 ∧ i.2.2 ≤ 20001) (fun i => i.1.length)
          (fun i => [(0, .slice .shared 13 (l.map encSm)), (1, .int .i64 i.2.2), (5, .int .i64 (k : Int)), (6, .ptr 0 0), (7, .int .i64 (i.2.1 : Int))]) (fun i => ⟨[encSm y], []⟩) ?_ (y.args, 0, C) ⟨rfl, hW, by dsimp only; omega, d2⟩)
        · (simp only [go_sem, hlt, hget, hpu, hinc, Int.reduceLE, ↓reduceIte, reduceCtorEq, Nat.reduceEqDiff, Nat.reduceLeDiff, Nat.reduceAdd, Nat.reduceMul, Nat.reduceSub, Nat.reduceLT]; repeat' (first | exact Ok.out | with_reducible refine And.intro ?_ ?_))
        · (simp only [go_sem, hlt, hget, hpu, hinc, Int.reduceLE, ↓reduceIte, reduceCtorEq, Nat.reduceEqDiff, Nat.reduceLeDiff, Nat.reduceAdd, Nat.reduceMul, Nat.reduceSub, Nat.reduceLT]; repeat' (first | exact Ok.out | with_reducible refine And.intro ?_ ?_))
        rintro ⟨ars, j, e⟩ ⟨k1, hw, k3, k4⟩ IH2
        dsimp only at k1 hw k3 k4
        cases ars with
        | nil =>
          have hlt := drop_nil k1
          simp only [weighAs] at hw
          subst hw
          repeat' (first
 | simp only [go_sem, hlt, hget, hpu, hinc, Int.reduceLE, ↓reduceIte, reduceCtorEq, Nat.reduceEqDiff, Nat.reduceLeDiff, Nat.reduceAdd, Nat.reduceMul, Nat.reduceSub, Nat.reduceLT, w3]
 | (with_reducible refine CU (eT _) ?_)
 | (with_reducible refine CU (eS _) ?_)
 | (with_reducible first | refine CB_ofT (by assumption) fun hc => ?_ | refine CB_ofF (by assumption) fun hc => ?_ | refine CB_split (fun hc => ?_) fun hc => ?_) <;> (try simp only [hc, bs, ↓reduceIte] at h) <;> (try simp only [hc])
 | ((with_reducible first | refine leafR hQ ?_ | refine leafN hQ ?_); (try cases h); simp only [resL, oneD, Option.some.injEq, exists_eq_left', go_sem, hlt, hget, hpu, hinc, Int.reduceLE, ↓reduceIte, reduceCtorEq, Nat.reduceEqDiff, Nat.reduceLeDiff, Nat.reduceAdd, Nat.reduceMul, Nat.reduceSub, Nat.reduceLT, w3]; repeat' (first | exact Ok.out | with_reducible refine And.intro ?_ ?_ | (simp; done)))
 | (cases h; replace h := hr; clear hr; (try simp only [bs, ↓reduceIte] at h))
 | (cases h; done))
          refine SemL.re _ _ 0 0 (by rw [hB]; exact Nat.le_of_ble_eq_true rfl) (by rw [hB]; exact Nat.le_of_ble_eq_true rfl) ?_ ?_ (IH (rest, k + 1, weighSs y.els (weighSs y.thn e)) ⟨g2, hp, by dsimp only; omega, r1⟩ (Nat.lt_succ_self _))
          · (simp only [go_sem, hlt, hget, hpu, hinc, Int.reduceLE, ↓reduceIte, reduceCtorEq, Nat.reduceEqDiff, Nat.reduceLeDiff, Nat.reduceAdd, Nat.reduceMul, Nat.reduceSub, Nat.reduceLT]; repeat' (first | exact Ok.out | with_reducible refine And.intro ?_ ?_))
          · (simp only [go_sem, hlt, hget, hpu, hinc, Int.reduceLE, ↓reduceIte, reduceCtorEq, Nat.reduceEqDiff, Nat.reduceLeDiff, Nat.reduceAdd, Nat.reduceMul, Nat.reduceSub, Nat.reduceLT]; repeat' (first | exact Ok.out | with_reducible refine And.intro ?_ ?_))
        | cons a ars =>
          obtain ⟨hget, k2, hlt, k5⟩ := drop_cons k1
          simp only [weighAs] at hw
          by_cases he : e ≤ 20000
          · have e1 : decide (e ≤ 20000) = true := by simp; omega
            have w4 : IntKind.wrap .i64 ((j : Int) + 1) = ((j + 1 : Nat) : Int) := by rw [wrap_ok] <;> omega
            rw [if_pos he] at hw
            obtain ⟨u1, u2, u3, u4⟩ := weigh_in _ a.x (Nat.le_refl _) e (by omega)
            have u2 := u2 he
            obtain ⟨v1, v2, v3⟩ := weighT_mono (t := a.name) (n := weighE a.x e) u3 u1
            have eX := fun s => weighE_s _ a.x (Nat.le_refl _) (n := e) (by omega) he s
            have eM := fun s => weighT_s a.name (n := weighE a.x e) u3 u1 s
            repeat' (first
 | simp only [go_sem, hlt, hget, hpu, hinc, Int.reduceLE, ↓reduceIte, reduceCtorEq, Nat.reduceEqDiff, Nat.reduceLeDiff, Nat.reduceAdd, Nat.reduceMul, Nat.reduceSub, Nat.reduceLT, e1, w4]
 | (with_reducible refine CU (eX _) ?_)
 | (with_reducible refine CU (eM _) ?_)
 | (with_reducible first | refine CB_ofT (by assumption) fun hc => ?_ | refine CB_ofF (by assumption) fun hc => ?_ | refine CB_split (fun hc => ?_) fun hc => ?_) <;> (try simp only [hc, bs, ↓reduceIte] at h) <;> (try simp only [hc])
 | ((with_reducible first | refine leafR hQ ?_ | refine leafN hQ ?_); (try cases h); simp only [resL, oneD, Option.some.injEq, exists_eq_left', go_sem, hlt, hget, hpu, hinc, Int.reduceLE, ↓reduceIte, reduceCtorEq, Nat.reduceEqDiff, Nat.reduceLeDiff, Nat.reduceAdd, Nat.reduceMul, Nat.reduceSub, Nat.reduceLT, e1, w4]; repeat' (first | exact Ok.out | with_reducible refine And.intro ?_ ?_ | (simp; done)))
 | (cases h; replace h := hr; clear hr; (try simp only [bs, ↓reduceIte] at h))
 | (cases h; done))
            refine SemL.re _ _ 1 0 (by rw [hB]; exact Nat.le_of_ble_eq_true rfl) (by rw [hB]; exact Nat.le_of_ble_eq_true rfl) ?_ ?_ (IH2 (ars, j + 1, weighT a.name (weighE a.x e)) ⟨k2, hw, by dsimp only; omega, v2⟩ (Nat.lt_succ_self _))
            · (simp only [go_sem, hlt, hget, hpu, hinc, Int.reduceLE, ↓reduceIte, reduceCtorEq, Nat.reduceEqDiff, Nat.reduceLeDiff, Nat.reduceAdd, Nat.reduceMul, Nat.reduceSub, Nat.reduceLT]; repeat' (first | exact Ok.out | with_reducible refine And.intro ?_ ?_))
            · (simp only [go_sem, hlt, hget, hpu, hinc, Int.reduceLE, ↓reduceIte, reduceCtorEq, Nat.reduceEqDiff, Nat.reduceLeDiff, Nat.reduceAdd, Nat.reduceMul, Nat.reduceSub, Nat.reduceLT]; repeat' (first | exact Ok.out | with_reducible refine And.intro ?_ ?_))
          · have e1 : decide (e ≤ 20000) = false := by simp; omega
            rw [if_neg he] at hw
            subst hw
            repeat' (first
 | simp only [go_sem, hlt, hget, hpu, hinc, Int.reduceLE, ↓reduceIte, reduceCtorEq, Nat.reduceEqDiff, Nat.reduceLeDiff, Nat.reduceAdd, Nat.reduceMul, Nat.reduceSub, Nat.reduceLT, e1, w3]
 | (with_reducible refine CU (eT _) ?_)
 | (with_reducible refine CU (eS _) ?_)
 | (with_reducible first | refine CB_ofT (by assumption) fun hc => ?_ | refine CB_ofF (by assumption) fun hc => ?_ | refine CB_split (fun hc => ?_) fun hc => ?_) <;> (try simp only [hc, bs, ↓reduceIte] at h) <;> (try simp only [hc])
 | ((with_reducible first | refine leafR hQ ?_ | refine leafN hQ ?_); (try cases h); simp only [resL, oneD, Option.some.injEq, exists_eq_left', go_sem, hlt, hget, hpu, hinc, Int.reduceLE, ↓reduceIte, reduceCtorEq, Nat.reduceEqDiff, Nat.reduceLeDiff, Nat.reduceAdd, Nat.reduceMul, Nat.reduceSub, Nat.reduceLT, e1, w3]; repeat' (first | exact Ok.out | with_reducible refine And.intro ?_ ?_ | (simp; done)))
 | (cases h; replace h := hr; clear hr; (try simp only [bs, ↓reduceIte] at h))
 | (cases h; done))
            refine SemL.re _ _ 0 0 (by rw [hB]; exact Nat.le_of_ble_eq_true rfl) (by rw [hB]; exact Nat.le_of_ble_eq_true rfl) ?_ ?_ (IH (rest, k + 1, weighSs y.els (weighSs y.thn e)) ⟨g2, hp, by dsimp only; omega, r1⟩ (Nat.lt_succ_self _))
            · (simp only [go_sem, hlt, hget, hpu, hinc, Int.reduceLE, ↓reduceIte, reduceCtorEq, Nat.reduceEqDiff, Nat.reduceLeDiff, Nat.reduceAdd, Nat.reduceMul, Nat.reduceSub, Nat.reduceLT]; repeat' (first | exact Ok.out | with_reducible refine And.intro ?_ ?_))
            · (simp only [go_sem, hlt, hget, hpu, hinc, Int.reduceLE, ↓reduceIte, reduceCtorEq, Nat.reduceEqDiff, Nat.reduceLeDiff, Nat.reduceAdd, Nat.reduceMul, Nat.reduceSub, Nat.reduceLT]; repeat' (first | exact Ok.out | with_reducible refine And.intro ?_ ?_))
      · have c1 : decide (c ≤ 20000) = false := by simp; omega
        rw [if_neg hc] at hp
        subst hp
        repeat' (first
 | simp only [go_sem, hlt, hget, hpu, hinc, Int.reduceLE, ↓reduceIte, reduceCtorEq, Nat.reduceEqDiff, Nat.reduceLeDiff, Nat.reduceAdd, Nat.reduceMul, Nat.reduceSub, Nat.reduceLT, c1]
 | (with_reducible first | refine CB_ofT (by assumption) fun hc => ?_ | refine CB_ofF (by assumption) fun hc => ?_ | refine CB_split (fun hc => ?_) fun hc => ?_) <;> (try simp only [hc, bs, ↓reduceIte] at h) <;> (try simp only [hc])
 | ((with_reducible first | refine leafR hQ ?_ | refine leafN hQ ?_); (try cases h); simp only [resL, oneD, Option.some.injEq, exists_eq_left', go_sem, hlt, hget, hpu, hinc, Int.reduceLE, ↓reduceIte, reduceCtorEq, Nat.reduceEqDiff, Nat.reduceLeDiff, Nat.reduceAdd, Nat.reduceMul, Nat.reduceSub, Nat.reduceLT, c1]; repeat' (first | exact Ok.out | with_reducible refine And.intro ?_ ?_ | (simp; done)))
 | (cases h; replace h := hr; clear hr; (try simp only [bs, ↓reduceIte] at h))
 | (cases h; done))

end Go.Abs

/-! Fits2 -/

namespace Go.Abs

set_option maxRecDepth 8000
set_option linter.unusedSimpArgs false
set_option linter.unusedVariables false
open Go.Proofs

theorem Fits_s (p : Pg) (s : St) : Fun Tryd.prog n_ref3_Fits [.agg (encPg p)] s (.bool (decide (p.weigh ≤ 20000))) s := by
  refine Fun.pure ?_ (by simp only [D.oks, D.ok, okPg]; rfl) rfl s
  unfold S0
  generalize hp : p.weigh = W
  unfold Pg.weigh at hp
  obtain ⟨a1, a2, a3⟩ := weighTs_in p.globals (n := 0) (by omega) (by omega)
  have eG := fun s => weighTs_s (l := p.globals) (n := 0) (by omega) (by omega) s
  refine Fun.go has_ref3_Fits rfl fun B Q hB hQ => ?_
  have hlt : 0 < 1 := Nat.zero_lt_one
  have hget : 0 < 1 := Nat.zero_lt_one
  have hpu : 0 < 1 := Nat.zero_lt_one
  have hinc : 0 < 1 := Nat.zero_lt_one
  repeat' (first
 | simp only [go_sem, hlt, hget, hpu, hinc, Int.reduceLE, ↓reduceIte, reduceCtorEq, Nat.reduceEqDiff, Nat.reduceLeDiff, Nat.reduceAdd, Nat.reduceMul, Nat.reduceSub, Nat.reduceLT]
 | (with_reducible refine CU (eG _) ?_)
 | (with_reducible first | refine CB_ofT (by assumption) fun hc => ?_ | refine CB_ofF (by assumption) fun hc => ?_ | refine CB_split (fun hc => ?_) fun hc => ?_) <;> (try simp only [hc, bs, ↓reduceIte] at h) <;> (try simp only [hc])
 | ((with_reducible first | refine leafR hQ ?_ | refine leafN hQ ?_); (try cases h); simp only [resL, oneD, Option.some.injEq, exists_eq_left', go_sem, hlt, hget, hpu, hinc, Int.reduceLE, ↓reduceIte, reduceCtorEq, Nat.reduceEqDiff, Nat.reduceLeDiff, Nat.reduceAdd, Nat.reduceMul, Nat.reduceSub, Nat.reduceLT]; repeat' (first | exact Ok.out | with_reducible refine And.intro ?_ ?_ | (simp; done)))
 | (cases h; replace h := hr; clear hr; (try simp only [bs, ↓reduceIte] at h))
 | (cases h; done))
  refine SemL.re _ _ 1 0 (by rw [hB]; exact Nat.le_of_ble_eq_true rfl) (by rw [hB]; exact Nat.le_of_ble_eq_true rfl) ?_ ?_ (SemL.ind (ι := List Pc × Nat × Int) (fun i => p.procs.drop i.2.1 = i.1 ∧ weighFs i.1 i.2.2 = W ∧ (i.2.1 : Int) ≤ i.2.2 ∧ i.2.2 ≤ 20001) (fun i => i.1.length)
    (fun i => [(1, .ptr 0 0), (3, .int .i64 i.2.2), (4, .int .i64 (i.2.1 : Int))]) (fun i => ⟨[encPg p], []⟩) ?_ (p.procs, 0, weighTs p.globals 0) ⟨rfl, hp, a2, a1⟩)
  · (simp only [go_sem, hlt, hget, hpu, hinc, Int.reduceLE, ↓reduceIte, reduceCtorEq, Nat.reduceEqDiff, Nat.reduceLeDiff, Nat.reduceAdd, Nat.reduceMul, Nat.reduceSub, Nat.reduceLT]; repeat' (first | exact Ok.out | with_reducible refine And.intro ?_ ?_))
  · (simp only [go_sem, hlt, hget, hpu, hinc, Int.reduceLE, ↓reduceIte, reduceCtorEq, Nat.reduceEqDiff, Nat.reduceLeDiff, Nat.reduceAdd, Nat.reduceMul, Nat.reduceSub, Nat.reduceLT]; repeat' (first | exact Ok.out | with_reducible refine And.intro ?_ ?_))
  rintro ⟨rest, k, c⟩ ⟨g1, hp, g3, g4⟩ IH
  dsimp only at g1 hp g3 g4
  cases rest with
  | nil =>
    have hlt := drop_nil g1
    simp only [weighFs] at hp
    subst hp
    repeat' (first
 | simp only [go_sem, hlt, hget, hpu, hinc, Int.reduceLE, ↓reduceIte, reduceCtorEq, Nat.reduceEqDiff, Nat.reduceLeDiff, Nat.reduceAdd, Nat.reduceMul, Nat.reduceSub, Nat.reduceLT]
 | (with_reducible first | refine CB_ofT (by assumption) fun hc => ?_ | refine CB_ofF (by assumption) fun hc => ?_ | refine CB_split (fun hc => ?_) fun hc => ?_) <;> (try simp only [hc, bs, ↓reduceIte] at h) <;> (try simp only [hc])
 | ((with_reducible first | refine leafR hQ ?_ | refine leafN hQ ?_); (try cases h); simp only [resL, oneD, Option.some.injEq, exists_eq_left', go_sem, hlt, hget, hpu, hinc, Int.reduceLE, ↓reduceIte, reduceCtorEq, Nat.reduceEqDiff, Nat.reduceLeDiff, Nat.reduceAdd, Nat.reduceMul, Nat.reduceSub, Nat.reduceLT]; repeat' (first | exact Ok.out | with_reducible refine And.intro ?_ ?_ | (simp; done)))
 | (cases h; replace h := hr; clear hr; (try simp only [bs, ↓reduceIte] at h))
 | (cases h; done))
  | cons f rest =>
    obtain ⟨hget, g2, hlt, g5⟩ := drop_cons g1
    simp only [weighFs] at hp
    by_cases hc : c ≤ 20000
    · have c1 : decide (c ≤ 20000) = true := by simp; omega
      have w3 : IntKind.wrap .i64 ((k : Int) + 1) = ((k + 1 : Nat) : Int) := by rw [wrap_ok] <;> omega
      rw [if_pos hc] at hp
      obtain ⟨r1, r2, r3⟩ := weighF_in f (n := c) (by omega) hc
      unfold weighF at hp r1 r2
      obtain ⟨c1', c2, c3⟩ := weighT_mono (t := f.name) (n := c) (by omega) g4
      obtain ⟨d1, d2, d3⟩ := weighTs_in f.vars (n := weighT f.name c) (by omega) c2
      obtain ⟨e1, e2, e3⟩ := weighTs_in f.fin (n := weighTs f.vars (weighT f.name c)) (by omega) d1
      have eN := fun s => weighT_s f.name (n := c) (by omega) g4 s
      have eV := fun s => weighTs_s (l := f.vars) (n := weighT f.name c) (by omega) c2 s
      have eF := fun s => weighTs_s (l := f.fin) (n := weighTs f.vars (weighT f.name c)) (by omega) d1 s
      generalize hC : weighTs f.fin (weighTs f.vars (weighT f.name c)) = C at *
      obtain ⟨s1, s2, s3⟩ := weighMs_in f.params (n := C) (by omega) e1
      have eT := fun s => weighSs_s _ f.body (Nat.le_refl _) (n := weighMs f.params C) (by omega) s1 s
      generalize hM : weighMs f.params C = M at *
      repeat' (first
 | simp only [go_sem, hlt, hget, hpu, hinc, Int.reduceLE, ↓reduceIte, reduceCtorEq, Nat.reduceEqDiff, Nat.reduceLeDiff, Nat.reduceAdd, Nat.reduceMul, Nat.reduceSub, Nat.reduceLT, c1, w3]
 | (with_reducible refine CU (eN _) ?_)
 | (with_reducible refine CU (eV _) ?_)
 | (with_reducible refine CU (eF _) ?_)
 | (with_reducible first | refine CB_ofT (by assumption) fun hc => ?_ | refine CB_ofF (by assumption) fun hc => ?_ | refine CB_split (fun hc => ?_) fun hc => ?_) <;> (try simp only [hc, bs, ↓reduceIte] at h) <;> (try simp only [hc])
 | ((with_reducible first | refine leafR hQ ?_ | refine leafN hQ ?_); (try cases h); simp only [resL, oneD, Option.some.injEq, exists_eq_left', go_sem, hlt, hget, hpu, hinc, Int.reduceLE, ↓reduceIte, reduceCtorEq, Nat.reduceEqDiff, Nat.reduceLeDiff, Nat.reduceAdd, Nat.reduceMul, Nat.reduceSub, Nat.reduceLT, c1, w3]; repeat' (first | exact Ok.out | with_reducible refine And.intro ?_ ?_ | (simp; done)))
 | (cases h; replace h := hr; clear hr; (try simp only [bs, ↓reduceIte] at h))
 | (cases h; done))
      refine SemL.re _ _ 2 0 (by rw [hB]; exact Nat.le_of_ble_eq_true rfl) (by rw [hB]; exact Nat.le_of_ble_eq_true rfl) ?_ ?_ (SemL.ind (ι := List Pm × Nat × Int) (fun i => f.params.drop i.2.1 = i.1 ∧ weighMs i.1 i.2.2 = M ∧ (i.2.1 : Int) ≤ i.2.2 ∧ i.2.2 ≤ 20001) (fun i => i.1.length)
        (fun i => [(1, .ptr 0 0), (3, .int .i64 i.2.2), (4, .int .i64 (k : Int)), (5, .ptr 1 0), (6, .int .i64 (i.2.1 : Int))]) (fun i => ⟨[encPg p, encPc f], []⟩) ?_ (f.params, 0, C) ⟨rfl, hM, by dsimp only; omega, e1⟩)
      · (simp only [go_sem, hlt, hget, hpu, hinc, Int.reduceLE, ↓reduceIte, reduceCtorEq, Nat.reduceEqDiff, Nat.reduceLeDiff, Nat.reduceAdd, Nat.reduceMul, Nat.reduceSub, Nat.reduceLT]; repeat' (first | exact Ok.out | with_reducible refine And.intro ?_ ?_))
      · (simp only [go_sem, hlt, hget, hpu, hinc, Int.reduceLE, ↓reduceIte, reduceCtorEq, Nat.reduceEqDiff, Nat.reduceLeDiff, Nat.reduceAdd, Nat.reduceMul, Nat.reduceSub, Nat.reduceLT]; repeat' (first | exact Ok.out | with_reducible refine And.intro ?_ ?_))
      rintro ⟨ms, j, e⟩ ⟨k1, hw, k3, k4⟩ IH2
      dsimp only at k1 hw k3 k4
      cases ms with
      | nil =>
        have hlt := drop_nil k1
        simp only [weighMs] at hw
        subst hw
        repeat' (first
 | simp only [go_sem, hlt, hget, hpu, hinc, Int.reduceLE, ↓reduceIte, reduceCtorEq, Nat.reduceEqDiff, Nat.reduceLeDiff, Nat.reduceAdd, Nat.reduceMul, Nat.reduceSub, Nat.reduceLT, w3]
 | (with_reducible refine CU (eT _) ?_)
 | (with_reducible first | refine CB_ofT (by assumption) fun hc => ?_ | refine CB_ofF (by assumption) fun hc => ?_ | refine CB_split (fun hc => ?_) fun hc => ?_) <;> (try simp only [hc, bs, ↓reduceIte] at h) <;> (try simp only [hc])
 | ((with_reducible first | refine leafR hQ ?_ | refine leafN hQ ?_); (try cases h); simp only [resL, oneD, Option.some.injEq, exists_eq_left', go_sem, hlt, hget, hpu, hinc, Int.reduceLE, ↓reduceIte, reduceCtorEq, Nat.reduceEqDiff, Nat.reduceLeDiff, Nat.reduceAdd, Nat.reduceMul, Nat.reduceSub, Nat.reduceLT, w3]; repeat' (first | exact Ok.out | with_reducible refine And.intro ?_ ?_ | (simp; done)))
 | (cases h; replace h := hr; clear hr; (try simp only [bs, ↓reduceIte] at h))
 | (cases h; done))
        refine SemL.re _ _ 1 0 (by rw [hB]; exact Nat.le_of_ble_eq_true rfl) (by rw [hB]; exact Nat.le_of_ble_eq_true rfl) ?_ ?_ (IH (rest, k + 1, weighSs f.body e) ⟨g2, hp, by dsimp only; omega, r1⟩ (Nat.lt_succ_self _))
        · (simp only [go_sem, hlt, hget, hpu, hinc, Int.reduceLE, ↓reduceIte, reduceCtorEq, Nat.reduceEqDiff, Nat.reduceLeDiff, Nat.reduceAdd, Nat.reduceMul, Nat.reduceSub, Nat.reduceLT]; repeat' (first | exact Ok.out | with_reducible refine And.intro ?_ ?_))
        · (simp only [go_sem, hlt, hget, hpu, hinc, Int.reduceLE, ↓reduceIte, reduceCtorEq, Nat.reduceEqDiff, Nat.reduceLeDiff, Nat.reduceAdd, Nat.reduceMul, Nat.reduceSub, Nat.reduceLT]; repeat' (first | exact Ok.out | with_reducible refine And.intro ?_ ?_))
      | cons a ms =>
        obtain ⟨hget, k2, hlt, k5⟩ := drop_cons k1
        simp only [weighMs] at hw
        by_cases he : e ≤ 20000
        · have e1 : decide (e ≤ 20000) = true := by simp; omega
          have w4 : IntKind.wrap .i64 ((j : Int) + 1) = ((j + 1 : Nat) : Int) := by rw [wrap_ok] <;> omega
          rw [if_pos he] at hw
          obtain ⟨v1, v2, v3⟩ := weighT_mono (t := a.name) (n := e) (by omega) k4
          have v4 := (weighT_in (t := a.name) (n := e) (by omega)).2.1 he
          have eM := fun s => weighT_s a.name (n := e) (by omega) k4 s
          repeat' (first
 | simp only [go_sem, hlt, hget, hpu, hinc, Int.reduceLE, ↓reduceIte, reduceCtorEq, Nat.reduceEqDiff, Nat.reduceLeDiff, Nat.reduceAdd, Nat.reduceMul, Nat.reduceSub, Nat.reduceLT, e1, w4]
 | (with_reducible refine CU (eM _) ?_)
 | (with_reducible first | refine CB_ofT (by assumption) fun hc => ?_ | refine CB_ofF (by assumption) fun hc => ?_ | refine CB_split (fun hc => ?_) fun hc => ?_) <;> (try simp only [hc, bs, ↓reduceIte] at h) <;> (try simp only [hc])
 | ((with_reducible first | refine leafR hQ ?_ | refine leafN hQ ?_); (try cases h); simp only [resL, oneD, Option.some.injEq, exists_eq_left', go_sem, hlt, hget, hpu, hinc, Int.reduceLE, ↓reduceIte, reduceCtorEq, Nat.reduceEqDiff, Nat.reduceLeDiff, Nat.reduceAdd, Nat.reduceMul, Nat.reduceSub, Nat.reduceLT, e1, w4]; repeat' (first | exact Ok.out | with_reducible refine And.intro ?_ ?_ | (simp; done)))
 | (cases h; replace h := hr; clear hr; (try simp only [bs, ↓reduceIte] at h))
 | (cases h; done))
          refine SemL.re _ _ 2 0 (by rw [hB]; exact Nat.le_of_ble_eq_true rfl) (by rw [hB]; exact Nat.le_of_ble_eq_true rfl) ?_ ?_ (IH2 (ms, j + 1, weighT a.name e) ⟨k2, hw, by dsimp only; omega, v2⟩ (Nat.lt_succ_self _))
          · (simp only [go_sem, hlt, hget, hpu, hinc, Int.reduceLE, ↓reduceIte, reduceCtorEq, Nat.reduceEqDiff, Nat.reduceLeDiff, Nat.reduceAdd, Nat.reduceMul, Nat.reduceSub, Nat.reduceLT]; repeat' (first | exact Ok.out | with_reducible refine And.intro ?_ ?_))
          · (simp only [go_sem, hlt, hget, hpu, hinc, Int.reduceLE, ↓reduceIte, reduceCtorEq, Nat.reduceEqDiff, Nat.reduceLeDiff, Nat.reduceAdd, Nat.reduceMul, Nat.reduceSub, Nat.reduceLT]; repeat' (first | exact Ok.out | with_reducible refine And.intro ?_ ?_))
        · have e1 : decide (e ≤ 20000) = false := by simp; omega
          rw [if_neg he] at hw
          subst hw
          repeat' (first
 | simp only [go_sem, hlt, hget, hpu, hinc, Int.reduceLE, ↓reduceIte, reduceCtorEq, Nat.reduceEqDiff, Nat.reduceLeDiff, Nat.reduceAdd, Nat.reduceMul, Nat.reduceSub, Nat.reduceLT, e1, w3]
 | (with_reducible refine CU (eT _) ?_)
 | (with_reducible first | refine CB_ofT (by assumption) fun hc => ?_ | refine CB_ofF (by assumption) fun hc => ?_ | refine CB_split (fun hc => ?_) fun hc => ?_) <;> (try simp only [hc, bs, ↓reduceIte] at h) <;> (try simp only [hc])
 | ((with_reducible first | refine leafR hQ ?_ | refine leafN hQ ?_); (try cases h); simp only [resL, oneD, Option.some.injEq, exists_eq_left', go_sem, hlt, hget, hpu, hinc, Int.reduceLE, ↓reduceIte, reduceCtorEq, Nat.reduceEqDiff, Nat.reduceLeDiff, Nat.reduceAdd, Nat.reduceMul, Nat.reduceSub, Nat.reduceLT, e1, w3]; repeat' (first | exact Ok.out | with_reducible refine And.intro ?_ ?_ | (simp; done)))
 | (cases h; replace h := hr; clear hr; (try simp only [bs, ↓reduceIte] at h))
 | (cases h; done))
          refine SemL.re _ _ 1 0 (by rw [hB]; exact Nat.le_of_ble_eq_true rfl) (by rw [hB]; exact Nat.le_of_ble_eq_true rfl) ?_ ?_ (IH (rest, k + 1, weighSs f.body e) ⟨g2, hp, by dsimp only; omega, r1⟩ (Nat.lt_succ_self _))
          · (simp only [go_sem, hlt, hget, hpu, hinc, Int.reduceLE, ↓reduceIte, reduceCtorEq, Nat.reduceEqDiff, Nat.reduceLeDiff, Nat.reduceAdd, Nat.reduceMul, Nat.reduceSub, Nat.reduceLT]; repeat' (first | exact Ok.out | with_reducible refine And.intro ?_ ?_))
          · (simp only [go_sem, hlt, hget, hpu, hinc, Int.reduceLE, ↓reduceIte, reduceCtorEq, Nat.reduceEqDiff, Nat.reduceLeDiff, Nat.reduceAdd, Nat.reduceMul, Nat.reduceSub, Nat.reduceLT]; repeat' (first | exact Ok.out | with_reducible refine And.intro ?_ ?_))
    · have c1 : decide (c ≤ 20000) = false := by simp; omega
      rw [if_neg hc] at hp
      subst hp
      repeat' (first
 | simp only [go_sem, hlt, hget, hpu, hinc, Int.reduceLE, ↓reduceIte, reduceCtorEq, Nat.reduceEqDiff, Nat.reduceLeDiff, Nat.reduceAdd, Nat.reduceMul, Nat.reduceSub, Nat.reduceLT, c1]
 | (with_reducible first | refine CB_ofT (by assumption) fun hc => ?_ | refine CB_ofF (by assumption) fun hc => ?_ | refine CB_split (fun hc => ?_) fun hc => ?_) <;> (try simp only [hc, bs, ↓reduceIte] at h) <;> (try simp only [hc])
 | ((with_reducible first | refine leafR hQ ?_ | refine leafN hQ ?_); (try cases h); simp only [resL, oneD, Option.some.injEq, exists_eq_left', go_sem, hlt, hget, hpu, hinc, Int.reduceLE, ↓reduceIte, reduceCtorEq, Nat.reduceEqDiff, Nat.reduceLeDiff, Nat.reduceAdd, Nat.reduceMul, Nat.reduceSub, Nat.reduceLT, c1]; repeat' (first | exact Ok.out | with_reducible refine And.intro ?_ ?_ | (simp; done)))
 | (cases h; replace h := hr; clear hr; (try simp only [bs, ↓reduceIte] at h))
 | (cases h; done))

end Go.Abs

/-! Pr5 -/

namespace Go.Abs

set_option maxRecDepth 8000
set_option linter.unusedSimpArgs false
set_option linter.unusedVariables false
open Go.Proofs

def muchR (x : Ex) : Int := if arityI x.op < 2 then 7 else bindB x.op
/-! ### Texts -/

def joinF (sep : Str) : Nat → List Str → Str
  | _, [] => []
  | k, a :: l => (if k = 0 then [] else sep) ++ (a ++ joinF sep (k + 1) l)
end Go.Abs

/-! Pr6 -/

namespace Go.Abs

set_option maxRecDepth 8000
set_option linter.unusedSimpArgs false
set_option linter.unusedVariables false
open Go.Proofs

/-- A statement's first line. -/
def lineT (s : Sm) : Str := if s.kind = 6 then [119, 104, 105, 108, 101, 32, 40] ++ prE 0 s.x ++ [41, 32, 123] else if s.kind = 5 then [105, 102, 32, 40] ++ prE 0 s.x ++ [41, 32, 123] else plainS s.kind s.name s.proc s.x s.has s.args ++ [59]

end Go.Abs

/-! Pr7 -/

namespace Go.Abs

set_option maxRecDepth 8000
set_option linter.unusedSimpArgs false
set_option linter.unusedVariables false
open Go.Proofs

theorem rowS_line (inn : Nat) (s : Sm) : rowS inn s = List.replicate inn 32 ++ marksS s.labels ++ lineT s ++ [10] ++ (if s.kind = 5 ∨ s.kind = 6 then
    rowsS (inn + 1) s.thn ++ (if s.kind = 5 ∧ s.els.length ≠ 0 then List.replicate inn 32 ++ [125, 32, 101, 108, 115, 101, 32, 123, 10] ++ rowsS (inn + 1) s.els else []) ++ (List.replicate inn 32 ++ [125, 10]) else []) := by
  rw [rowS_eq]
  unfold lineT lineS
  by_cases c6 : s.kind = 6
  · simp [c6]
  · by_cases c5 : s.kind = 5
    · by_cases ce : s.els.length = 0
      · simp only [c5, ce, Int.reduceEq, ↓reduceIte, true_or, ne_eq, not_true_eq_false, and_false, List.append_assoc, List.cons_append, List.nil_append]
      · simp only [c5, ce, Int.reduceEq, ↓reduceIte, true_or, ne_eq, not_false_eq_true, and_true, List.append_assoc, List.cons_append, List.nil_append]
    · simp only [c6, c5, ↓reduceIte, or_self, List.append_assoc, List.cons_append, List.nil_append, List.append_nil]

end Go.Abs

/-! Pr8 -/

namespace Go.Abs

set_option maxRecDepth 8000
set_option linter.unusedSimpArgs false
set_option linter.unusedVariables false
open Go.Proofs

end Go.Abs

/-! Some -/

namespace Go.Abs

set_option maxRecDepth 8000
set_option linter.unusedSimpArgs false
set_option linter.unusedVariables false
open Go.Proofs

theorem some_may : some0.may = true := by decide +kernel
theorem some_text : textS some0 = source := by decide +kernel
theorem some_rng : some0.rng := by
  intro f hf
  simp only [some0, List.mem_cons, List.not_mem_nil, or_false] at hf
  rcases hf with rfl | rfl <;> simp [Sm.rngs, Sm.rng, Ex.rng, Ex.rngs, exNum, exName, exTwo, ex0]

def prB : Pc := ⟨[112], [⟨[120], false⟩, ⟨[121], true⟩], [], [
    ⟨5, 1, [], [121], [], exTwo 8 (exName [121]) (exName [120]), false, [], [], []⟩,
    ⟨6, 5, [], [], [], exTwo 12 (exName [121]) (exNum 9), false, [], [⟨7, 10, [], [101], [], ex0, false, [], [], []⟩], []⟩,
    ⟨8, 9, [], [], [], exName [121], true, [], [], []⟩], [[101]]⟩
def stB : Sm := ⟨6, 5, [], [], [], exTwo 12 (exName [121]) (exNum 9), false, [], [⟨7, 10, [], [101], [], ex0, false, [], [], []⟩], []⟩
theorem some_prB : some0.procs[1]? = some prB := rfl
theorem some_stB : prB.body[1]? = some stB := rfl

theorem printed5_s (s : St) : Fun Tryd.prog n_law5_printed [] s (.bool true) s := by
  refine Fun.pure ?_ rfl rfl s
  have hsz : some0.size ≤ 1000000 := by decide +kernel
  have h1 := pText_s (may_FineP some_may (by omega)) (fun _ => may_PrG some_may some_rng) hsz
  rw [if_pos some_may, some_text] at h1
  have h2 := pExpr_s (x := stB.x) (by simp [stB, Ex.rng, Ex.rngs, exNum, exName, exTwo]) (by decide) (by simp [stB, Ex.texts, Ex.textss, exNum, exName, exTwo]) (by decide)
  have e : printE stB.x = [121, 32, 62, 32, 57] := by decide +kernel
  rw [e] at h2
  have b1 : (source == source) = true := beq_self_eq_true _
  have b2 : (([121, 32, 62, 32, 57] : Str) == [121, 32, 62, 32, 57]) = true := rfl
  have e1 := some_prB
  have e2 := some_stB
  have hS := fun s => Some_s s
  generalize some0 = P at *
  generalize prB = F at *
  generalize stB = T at *
  unfold S0
  refine Fun.go has_law5_printed rfl fun B Q hB hQ => ?_
  have hlt : 0 < 1 := Nat.zero_lt_one
  have hget : 0 < 1 := Nat.zero_lt_one
  have hpu : 0 < 1 := Nat.zero_lt_one
  have hinc : 0 < 1 := Nat.zero_lt_one
  repeat' (first
 | simp only [go_sem, hlt, hget, hpu, hinc, Int.reduceLE, ↓reduceIte, reduceCtorEq, Nat.reduceEqDiff, Nat.reduceLeDiff, Nat.reduceAdd, Nat.reduceMul, Nat.reduceSub, Nat.reduceLT, Int.toNat_one, e1, e2, b1, b2]
 | (with_reducible refine CU (hS _) ?_)
 | (with_reducible refine CU (h1 _) ?_)
 | (with_reducible refine CU (h2 _) ?_)
 | (with_reducible refine CU (Source_s _) ?_)
 | (with_reducible first | refine CB_ofT (by assumption) fun hc => ?_ | refine CB_ofF (by assumption) fun hc => ?_ | refine CB_split (fun hc => ?_) fun hc => ?_) <;> (try simp only [hc, bs, ↓reduceIte] at h) <;> (try simp only [hc])
 | ((with_reducible first | refine leafR hQ ?_ | refine leafN hQ ?_); (try cases h); simp only [resL, oneD, Option.some.injEq, exists_eq_left', go_sem, hlt, hget, hpu, hinc, Int.reduceLE, ↓reduceIte, reduceCtorEq, Nat.reduceEqDiff, Nat.reduceLeDiff, Nat.reduceAdd, Nat.reduceMul, Nat.reduceSub, Nat.reduceLT, Int.toNat_one, e1, e2, b1, b2]; repeat' (first | exact Ok.out | with_reducible refine And.intro ?_ ?_ | (simp; done)))
 | (cases h; replace h := hr; clear hr; (try simp only [bs, ↓reduceIte] at h))
 | (cases h; done))

end Go.Abs

/-! LawPr1 -/

namespace Go.Abs

set_option maxRecDepth 8000
set_option linter.unusedSimpArgs false
set_option linter.unusedVariables false
open Go.Proofs

end Go.Abs

/-! Binds2 -/

namespace Go.Abs
set_option linter.unusedSimpArgs false
set_option linter.unusedVariables false
open Go.Proofs

/-- The text of a row: of its first names. -/
def rowB (names : List Str) (ops : List Int) : Nat → Str
  | 0 => []
  | i + 1 => rowB names ops i ++ (if i = 0 then [] else signR (ops.getD (i - 1) 0)) ++ names.getD i []

/-- Names and signs that fit. -/
structure RowOk (names : List Str) (ops : List Int) : Prop where
  len : names.length = ops.length + 1
  most : ops.length ≤ 20
  short : ∀ x ∈ names, x.length ≤ 1
  op : ∀ o ∈ ops, (decide (5 ≤ o) && decide (o ≤ 17)) = true

/-! ### How it is parted -/

def stepB (i : Nat) (op : Int) (al : Nat × Int) : Nat × Int := if bindB op ≤ al.2 then (i, bindB op) else al
/-- Where the sign is that binds least, of like ones the last. -/
def atB : List Int → Nat → Nat × Int → Nat × Int
  | [], _, al => al
  | op :: r, i, al => atB r (i + 1) (stepB i op al)
def splitB : Nat → List Str → List Int → Ex
  | 0, _, _ => ex0
  | n + 1, names, ops => if ops.length = 0 then exName (names.getD 0 []) else
    exTwo (ops.getD (atB ops 0 (0, 9)).1 0) (splitB n (names.take ((atB ops 0 (0, 9)).1 + 1)) (ops.take (atB ops 0 (0, 9)).1)) (splitB n (names.drop ((atB ops 0 (0, 9)).1 + 1)) (ops.drop ((atB ops 0 (0, 9)).1 + 1)))

end Go.Abs

/-! Lx -/

namespace Go.Abs
set_option linter.unusedSimpArgs false
set_option linter.unusedVariables false

def isR (c : UInt8) : Bool := (c.toNat : Int) == 35

/-- A text, from a place on, is these tokens. -/
inductive Lx : Nat → Str → List Tok → Prop where
  | nil (pos : Nat) : Lx pos [] []
  | blank (pos : Nat) (c : UInt8) (r : Str) (l : List Tok) (h : isB c = true) (k : Lx (pos + 1) r l) : Lx pos (c :: r) l
  | rem (pos : Nat) (c : UInt8) (r : Str) (l : List Tok) (h : isB c = false) (h2 : isR c = true) (k : Lx (pos + lineL (c :: r)) ((c :: r).drop (lineL (c :: r))) l) : Lx pos (c :: r) l
  | tok (pos : Nat) (c : UInt8) (r : Str) (t : Tok) (l : List Tok) (h : isB c = false) (h2 : isR c = false) (ht : tokE pos (c :: r) = .inl t) (k : Lx (pos + t.text.length) ((c :: r).drop t.text.length) l) : Lx pos (c :: r) (t :: l)

theorem signL_le : ∀ s : Str, signL s ≤ s.length
  | [] => Nat.le_refl _
  | [c] => by simp only [signL]; split <;> simp
  | c :: d :: r => by simp only [signL, List.length_cons]; split; omega; split; omega; omega

/-- What a token is of its text. -/
theorem tokE_text {pos : Nat} {s : Str} {t : Tok} (h : tokE pos s = .inl t) : t.pos = pos ∧ 0 < t.text.length ∧ ∃ rest, s = t.text ++ rest := by
  cases s with
  | nil => simp only [tokE] at h; cases h
  | cons c r =>
    simp only [tokE] at h
    cases hL : isL c
    · simp only [hL, Bool.false_eq_true, ↓reduceIte] at h
      cases hD : isD c
      · simp only [hD, Bool.false_eq_true, ↓reduceIte] at h
        split at h
        · cases h
        · cases h
          have := signL_le (c :: r)
          exact ⟨rfl, by simp only [List.length_take]; simp only [List.length_cons] at this ⊢; omega, (c :: r).drop (signL (c :: r)), by simp⟩
      · have k0 : 0 < runD (c :: r) := by simp [runD, hD]
        simp only [hD, ↓reduceIte] at h
        split at h
        · cases h
        · split at h
          · cases h
            exact ⟨rfl, by simp only [List.length_take, List.length_cons]; omega, (c :: r).drop (runD (c :: r)), by simp⟩
          · cases h
    · have k0 : 0 < runL (c :: r) := by simp [runL, hL]
      simp only [hL, ↓reduceIte] at h
      split at h
      · cases h
      · cases h
        exact ⟨rfl, by simp only [List.length_take, List.length_cons]; omega, (c :: r).drop (runL (c :: r)), by simp⟩

theorem tokE_ln {pos : Nat} {s : Str} {t : Tok} (h : tokE pos s = .inl t) : t.text.length ≤ s.length := by
  obtain ⟨_, _, rest, e⟩ := tokE_text h
  rw [e]; simp

def tEnd (n : Nat) : Tok := ⟨0, [], 0, (n : Nat)⟩

end Go.Abs

/-! Lx2 -/

namespace Go.Abs
set_option linter.unusedSimpArgs false
set_option linter.unusedVariables false

/-- Nothing that stands ahead goes on with that byte. -/
def stopC (c : UInt8) : Bool := !(isL c) && !(isD c) && !(c == 61) && !(c == 38) && !(c == 124)
def Stop : Str → Prop
  | [] => True
  | c :: _ => stopC c = true

/-- A token by itself, wherever it stands, with something behind it. -/
def TGood (t : Tok) : Prop := 0 < t.text.length ∧ ∀ (p : Nat) (b : Str), Stop b → tokE p (t.text ++ b) = .inl { t with pos := (p : Nat) }
/-- The first byte of a token. -/
theorem tokE_first {pos : Nat} {s : Str} {t : Tok} (h : tokE pos s = .inl t) : ∃ c r, s = c :: r ∧ isB c = false ∧ isR c = false := by
  cases s with
  | nil => simp only [tokE] at h; cases h
  | cons c r =>
    refine ⟨c, r, rfl, ?_⟩
    simp only [tokE] at h
    cases hL : isL c
    · cases hD : isD c
      · simp only [hL, hD, Bool.false_eq_true, ↓reduceIte] at h
        have hs : signL (c :: r) ≠ 0 := by
          intro h0; rw [if_pos h0] at h; cases h
        have hc : ∀ n : Int, (c.toNat : Int) = n → n = 32 ∨ n = 9 ∨ n = 10 ∨ n = 13 ∨ n = 35 → False := by
          intro n hn hh
          have hcs : c = 32 ∨ c = 9 ∨ c = 10 ∨ c = 13 ∨ c = 35 := by
            have : ∀ k : UInt8, (c.toNat : Int) = (k.toNat : Int) → c = k := by
              intro k hk
              have : c.toNat = k.toNat := by omega
              exact UInt8.toNat_inj.1 this
            rcases hh with h | h | h | h | h
            · exact .inl (this 32 (by rw [hn, h]; rfl))
            · exact .inr (.inl (this 9 (by rw [hn, h]; rfl)))
            · exact .inr (.inr (.inl (this 10 (by rw [hn, h]; rfl))))
            · exact .inr (.inr (.inr (.inl (this 13 (by rw [hn, h]; rfl)))))
            · exact .inr (.inr (.inr (.inr (this 35 (by rw [hn, h]; rfl)))))
          apply hs
          cases r with
          | nil => rcases hcs with rfl | rfl | rfl | rfl | rfl <;> decide
          | cons d r =>
            have h1 : sign2 [c, d] = false := by
              cases hx : sign2 [c, d]
              · rfl
              · simp only [sign2, Bool.or_eq_true, beq_iff_eq, List.cons.injEq, and_true] at hx
                rcases hcs with rfl | rfl | rfl | rfl | rfl <;> simp at hx
            have h2 : sign1 c = false := by rcases hcs with rfl | rfl | rfl | rfl | rfl <;> decide
            simp only [signL, h1, h2, Bool.false_eq_true, ↓reduceIte]
        refine ⟨?_, ?_⟩
        · cases hb : isB c
          · rfl
          · simp only [isB, Bool.or_eq_true, beq_iff_eq] at hb
            exact (hc _ rfl (by omega)).elim
        · cases hb : isR c
          · rfl
          · simp only [isR, beq_iff_eq] at hb
            exact (hc _ rfl (by omega)).elim
      · simp only [isD, Bool.and_eq_true, decide_eq_true_eq] at hD
        refine ⟨?_, ?_⟩
        · simp only [isB, Bool.or_eq_false_iff, beq_eq_false_iff_ne, ne_eq]; omega
        · simp only [isR, beq_eq_false_iff_ne, ne_eq]; omega
    · simp only [isL, Bool.and_eq_true, decide_eq_true_eq] at hL
      refine ⟨?_, ?_⟩
      · simp only [isB, Bool.or_eq_false_iff, beq_eq_false_iff_ne, ne_eq]; omega
      · simp only [isR, beq_eq_false_iff_ne, ne_eq]; omega

theorem Lx.tok' {pos : Nat} {s : Str} {t : Tok} {l : List Tok} (ht : tokE pos s = .inl t) (k : Lx (pos + t.text.length) (s.drop t.text.length) l) : Lx pos s (t :: l) := by
  obtain ⟨c, r, rfl, h1, h2⟩ := tokE_first ht
  exact .tok _ _ _ _ _ h1 h2 ht k
end Go.Abs

/-! Tot -/

namespace Go.Abs
set_option linter.unusedSimpArgs false
set_option linter.unusedVariables false

/-- There is a result, and this holds of it. -/
def Tt {α : Type} (o : Option α) (Q : α → Prop) : Prop := ∃ a, o = some a ∧ Q a
structure Rd.Ok (r : Rd) : Prop where
  k : ∀ t ∈ r.l, 0 ≤ t.kind ∧ t.kind ≤ 4
  lt : r.i < r.l.length
  len : r.l.length ≤ 2001
  last : ∀ t, r.l[r.l.length - 1]? = some t → t.kind = 0
  n1 : r.n ≤ 201

/-- From one reader to a later one. -/
structure Rd.To (r r' : Rd) : Prop where
  ok : r'.Ok
  l : r'.l = r.l
  i : r.i ≤ r'.i
  g : r'.good = true → r.good = true
  s : r.good = false → r' = r
structure Rd.ToE (r r' : Rd) : Prop where
  to : r.To r'
  n : r'.n = r.n

/-! ### Expressions -/

def ExT (r : Rd) (p : Ex × Rd) : Prop := r.ToE p.2 ∧ (p.2.good = true → p.1.size + 3 + 4 * r.i ≤ 4 * p.2.i)

end Go.Abs

/-! Tot2 -/

namespace Go.Abs
set_option linter.unusedSimpArgs false
set_option linter.unusedVariables false

def StT (r : Rd) (p : Sm × Rd) : Prop := r.ToE p.2 ∧ (p.2.good = true → p.1.size + 1 + 8 * r.i ≤ 8 * p.2.i)

end Go.Abs

/-! Tot3 -/

namespace Go.Abs
set_option linter.unusedSimpArgs false
set_option linter.unusedVariables false

/-- What statements leave. -/
structure StQ (r r' : Rd) : Prop where
  to : r.To r'
  n : r'.good = true → r'.n ≤ 200

def RowsT (r : Rd) (p : (List Sm × List Str) × Rd) : Prop := StQ r p.2 ∧ (p.2.good = true → Sm.sizes p.1.1 + p.1.2.length + 8 * r.i ≤ 8 * p.2.i)

/-! ### The lexer's tokens -/

def TokOk (t : Tok) : Prop := 1 ≤ t.kind ∧ t.kind ≤ 4

theorem tokE_ok {pos : Nat} {s : Str} {t : Tok} (h : tokE pos s = .inl t) : TokOk t := by
  cases s with
  | nil => simp only [tokE] at h; cases h
  | cons c r =>
    simp only [tokE] at h
    split at h
    · split at h
      · cases h
      · cases h; simp only [TokOk]; split <;> omega
    · split at h
      · split at h
        · cases h
        · split at h
          · cases h; simp [TokOk]
          · cases h
      · split at h
        · cases h
        · cases h; simp [TokOk]

/-! ### Texts -/

def fuelM : Nat := 20000

end Go.Abs

/-! BindsL -/

namespace Go.Abs
set_option linter.unusedSimpArgs false
set_option linter.unusedVariables false

inductive SplitR : Ex → List (Int × Str) → Ex → Prop
  | nil (x : Ex) : SplitR x [] x
  | cut (x : Ex) (p1 : List (Int × Str)) (op : Int) (y : Str) (p2 : List (Int × Str)) (t1 t2 : Ex) (h1 : SplitR x p1 t1) (h2 : SplitR (exName y) p2 t2) (l1 : ∀ q ∈ p1, bindB op ≤ bindB q.1) (l2 : ∀ q ∈ p2, bindB op < bindB q.1) :
    SplitR x (p1 ++ (op, y) :: p2) (exTwo op t1 t2)

/-- Tokens of what stands behind the first name. -/
def TailT : List (Int × Str) → List Tok → Prop
  | [], l => ∃ t r, l = t :: r ∧ t.kind = 0
  | (op, y) :: p, l => ∃ s u r, l = s :: u :: r ∧ s.kind = 4 ∧ s.text = signR op ∧ (decide (5 ≤ op) && decide (op ≤ 17)) = true ∧ u.kind = 1 ∧ u.text = y ∧ TailT p r

theorem drop_get {α : Type} {l r : List α} {i : Nat} {x : α} (h : l.drop i = x :: r) : l[i]? = some x ∧ l.drop (i + 1) = r := by
  obtain ⟨a, b, _, _⟩ := drop_cons h
  exact ⟨a, b⟩

def KB_two (n : Nat) : Prop := ∀ (least : Int) (r : Rd) (t0 : Tok) (p : List (Int × Str)) (l : List Tok) (x : Ex × Rd), r.l.drop r.i = t0 :: l → t0.kind = 1 → TailT p l → r.code = 0 → 1 ≤ least → Rd.two n least r = some x →
  ∃ p1 p2, p = p1 ++ p2 ∧ SplitR (exName t0.text) p1 x.1 ∧ (∀ q ∈ p1, least ≤ bindB q.1) ∧ (∀ q p', p2 = q :: p' → bindB q.1 < least) ∧ x.2 = { r with i := r.i + 1 + 2 * p1.length } ∧ TailT p2 (l.drop (2 * p1.length))
def KB_twoL (n : Nat) : Prop := ∀ (least : Int) (x0 : Ex) (A : List (Int × Str)) (x : Ex) (r : Rd) (p : List (Int × Str)) (l : List Tok) (z : Ex × Rd), r.l.drop r.i = l → TailT p l → r.code = 0 → 1 ≤ least → SplitR x0 A x →
  (∀ q p', p = q :: p' → ∀ a ∈ A, bindB q.1 ≤ bindB a.1) → Rd.twoL n least x r = some z →
  ∃ p1 p2, p = p1 ++ p2 ∧ SplitR x0 (A ++ p1) z.1 ∧ (∀ q ∈ p1, least ≤ bindB q.1) ∧ (∀ q p', p2 = q :: p' → bindB q.1 < least) ∧ z.2 = { r with i := r.i + 2 * p1.length } ∧ TailT p2 (l.drop (2 * p1.length))

end Go.Abs

/-! BindsL2 -/

namespace Go.Abs
set_option linter.unusedSimpArgs false
set_option linter.unusedVariables false

/-! ### The documents' way -/

def AtB (d : List Int) (al : Nat × Int) : Prop := (d = [] ∧ al.2 = 9) ∨ ∃ o1 op o2, d = o1 ++ op :: o2 ∧ o1.length = al.1 ∧ bindB op = al.2 ∧ (∀ o ∈ o1, bindB op ≤ bindB o) ∧ ∀ o ∈ o2, bindB op < bindB o
/-! ### The text -/

def tailB : List Str → List Int → Str
  | x :: xs, op :: ops => signR op ++ (x ++ tailB xs ops)
  | _, _ => []

def NoGo : Str → Prop
  | [] => True
  | c :: _ => isL c = false ∧ isD c = false
end Go.Abs

/-! Full5 -/

namespace Go.Abs
set_option linter.unusedSimpArgs false
set_option linter.unusedVariables false

/-- Is it such a token? -/
def TokIs (t : Tok) (k : Int) (s : Str) (n : Int) : Prop := t.kind = k ∧ t.text = s ∧ t.n = n

/-- The tokens of an expression's text, and what is behind them. -/
inductive FullT : Ex → List Tok → List Tok → Prop
  | num (n : Int) (t : Tok) (l : List Tok) (h : t.kind = 2) (h2 : t.n = n) : FullT ⟨1, n, [], []⟩ (t :: l) l
  | name (s : Str) (t : Tok) (l : List Tok) (h : t.kind = 1) (h2 : t.text = s) : FullT ⟨2, 0, s, []⟩ (t :: l) l
  | neg (y : Ex) (p m q : Tok) (l r : List Tok) (hp : TokIs p 4 [40] 0) (hm : TokIs m 4 [45] 0) (hy : FullT y l (q :: r)) (hq : TokIs q 4 [41] 0) : FullT ⟨3, 0, [], [y]⟩ (p :: m :: l) r
  | no (y : Ex) (p m q : Tok) (l r : List Tok) (hp : TokIs p 4 [40] 0) (hm : TokIs m 4 [33] 0) (hy : FullT y l (q :: r)) (hq : TokIs q 4 [41] 0) : FullT ⟨4, 0, [], [y]⟩ (p :: m :: l) r
  | two (op : Int) (a b : Ex) (p o q : Tok) (l m r : List Tok) (ho : (decide (5 ≤ op) && decide (op ≤ 17)) = true) (hp : TokIs p 4 [40] 0) (ha : FullT a l (o :: m)) (hs : TokIs o 4 (signR op) 0) (hb : FullT b m (q :: r)) (hq : TokIs q 4 [41] 0) :
    FullT ⟨op, 0, [], [a, b]⟩ (p :: l) r

end Go.Abs

/-! Full6 -/

namespace Go.Abs
set_option linter.unusedSimpArgs false
set_option linter.unusedVariables false

theorem dig_byte {d : Nat} (h : d < 10) : isD (UInt8.ofNat (48 + d)) = true ∧ isL (UInt8.ofNat (48 + d)) = false ∧ ((UInt8.ofNat (48 + d)).toNat : Int) = ((48 + d : Nat) : Int) := by
  have e : (UInt8.ofNat (48 + d)).toNat = 48 + d := by simp; omega
  refine ⟨?_, ?_, by rw [e]⟩
  · simp only [isD, e, Bool.and_eq_true, decide_eq_true_eq]; omega
  · simp only [isL, e, Bool.and_eq_false_iff, decide_eq_false_iff_not]; omega

theorem digF_dig : ∀ f n, ∀ c ∈ digF f n, isD c = true
  | 0, n, c, h => by simp [digF] at h
  | f + 1, n, c, h => by
    simp only [digF] at h
    split at h
    · rename_i hc; simp only [List.mem_singleton] at h; subst h; exact (dig_byte hc).1
    · rcases List.mem_append.1 h with h | h
      · exact digF_dig f _ c h
      · simp only [List.mem_singleton] at h; subst h; exact (dig_byte (Nat.mod_lt _ (by omega))).1

theorem runD_all' {b : Str} (hb : NoGo b) : ∀ s : Str, (∀ c ∈ s, isD c = true) → runD (s ++ b) = s.length
  | [], _ => by
    cases b with
    | nil => rfl
    | cons c r => simp only [NoGo] at hb; simp [runD, hb.2]
  | c :: s, h => by simp only [List.cons_append, runD, h c (by simp), ↓reduceIte, List.length_cons, runD_all' hb s (fun d hd => h d (by simp [hd]))]

theorem worth_app : ∀ (s : Str) (a : Int) (c : UInt8), worth a (s ++ [c]) = (worth a s).bind fun n => worth n [c]
  | [], a, c => by simp [worth]
  | d :: s, a, c => by
    simp only [List.cons_append, worth]
    split
    · rfl
    · exact worth_app s _ c

theorem digF_worth : ∀ f n, n < 10 ^ f → n ≤ 9223372036854775807 → 0 < f → worth 0 (digF f n) = some (n : Int)
  | 0, n, _, _, h => by omega
  | f + 1, n, hn, hm, _ => by
    simp only [digF]
    split
    · have := (dig_byte (d := n) (by omega)).2.2
      simp only [worth, this]
      rw [if_neg (by omega)]
      congr 1; omega
    · have hf0 : 0 < f := by
        cases f with
        | zero => simp at hn; omega
        | succ f => omega
      have := (dig_byte (d := n % 10) (by omega)).2.2
      rw [worth_app, digF_worth f (n / 10) (by rw [Nat.pow_succ] at hn; omega) (by omega) hf0]
      simp only [Option.bind_some, worth, this]
      rw [if_neg (by omega)]
      congr 1; omega

theorem digF_first : ∀ f n, 10 ≤ n → n < 10 ^ f → ∃ d r, 1 ≤ d ∧ d < 10 ∧ digF f n = UInt8.ofNat (48 + d) :: r
  | 0, n, h, hn => by simp at hn; omega
  | f + 1, n, h, hn => by
    simp only [digF]
    rw [if_neg (by omega)]
    by_cases h1 : n / 10 < 10
    · cases f with
      | zero => simp at hn; omega
      | succ f => simp only [digF, if_pos h1, List.cons_append, List.nil_append]; exact ⟨n / 10, _, by omega, h1, rfl⟩
    · obtain ⟨d, r, k1, k2, k3⟩ := digF_first f (n / 10) (by omega) (by rw [Nat.pow_succ] at hn; omega)
      rw [k3]
      exact ⟨d, _, k1, k2, rfl⟩

theorem tokE_num {n : Nat} (hn : n ≤ 9223372036854775807) (pos : Nat) {r : Str} (hr : NoGo r) : tokE pos (digF 20 n ++ r) = .inl ⟨2, digF 20 n, n, pos⟩ := by
  have hrun := runD_all' hr (digF 20 n) (digF_dig 20 n)
  have hw := digF_worth 20 n (by omega) hn (by omega)
  have hfirst : ∃ c s, digF 20 n = c :: s ∧ isD c = true ∧ isL c = false ∧ ¬ (s.length + 1 > 1 ∧ (c.toNat : Int) = 48) := by
    by_cases h : n < 10
    · obtain ⟨b1, b2, b3⟩ := dig_byte h
      exact ⟨_, [], by simp only [digF, if_pos h], b1, b2, by simp⟩
    · obtain ⟨d, s, k1, k2, k3⟩ := digF_first 20 n (by omega) (by omega)
      obtain ⟨b1, b2, b3⟩ := dig_byte k2
      exact ⟨_, s, k3, b1, b2, by rw [b3]; omega⟩
  obtain ⟨c, s, e, h1, h2, h3⟩ := hfirst
  rw [e] at hrun hw ⊢
  have ht : (c :: s ++ r).take (c :: s).length = c :: s := List.take_left' rfl
  rw [List.cons_append] at hrun ht ⊢
  simp only [tokE, h1, h2, Bool.false_eq_true, ↓reduceIte, hrun, ht, hw]
  rw [if_neg (by simpa using h3)]

end Go.Abs

/-! Full7 -/

namespace Go.Abs
set_option linter.unusedSimpArgs false
set_option linter.unusedVariables false

/-- It does not go on with a sign. -/
def Okd : Str → Prop
  | [] => False
  | d :: _ => d ≠ 61 ∧ d ≠ 38 ∧ d ≠ 124

theorem sign2_okd {c d : UInt8} {r : Str} (h : Okd (d :: r)) : sign2 [c, d] = false := by
  obtain ⟨a, b, e⟩ := h
  simp [sign2, a, b, e]

theorem okd_of {d : UInt8} {r : Str} (h : isL d = true ∨ isD d = true ∨ d = 40) : Okd (d :: r) := by
  refine ⟨?_, ?_, ?_⟩ <;> rintro rfl <;> rcases h with h | h | h <;> first | exact absurd h (by decide) | cases h

theorem tokE_sign' {op : Int} (h : (decide (5 ≤ op) && decide (op ≤ 17)) = true) (pos : Nat) {r : Str} (hr : Okd r) : tokE pos (signR op ++ r) = .inl ⟨4, signR op, 0, pos⟩ := by
  cases r with
  | nil => exact hr.elim
  | cons c r =>
    have s2 := fun a => sign2_okd (c := a) hr
    rcases signs h with rfl | rfl | rfl | rfl | rfl | rfl | rfl | rfl | rfl | rfl | rfl | rfl | rfl
    all_goals simp (decide := true) [signR, tokE, signL, s2]

theorem tokE_open (pos : Nat) (r : Str) : tokE pos (40 :: r) = .inl ⟨4, [40], 0, pos⟩ := by
  cases r with
  | nil => simp (decide := true) [tokE, signL]
  | cons d r => 
    have : sign2 [40, d] = false := by simp (decide := true) [sign2]
    simp (decide := true) [tokE, signL, this]
theorem tokE_shut (pos : Nat) (r : Str) : tokE pos (41 :: r) = .inl ⟨4, [41], 0, pos⟩ := by
  cases r with
  | nil => simp (decide := true) [tokE, signL]
  | cons d r => 
    have : sign2 [41, d] = false := by simp (decide := true) [sign2]
    simp (decide := true) [tokE, signL, this]
theorem tokE_minus (pos : Nat) (r : Str) : tokE pos (45 :: r) = .inl ⟨4, [45], 0, pos⟩ := by
  cases r with
  | nil => simp (decide := true) [tokE, signL]
  | cons d r => 
    have : sign2 [45, d] = false := by simp (decide := true) [sign2]
    simp (decide := true) [tokE, signL, this]
theorem tokE_not (pos : Nat) {r : Str} (hr : Okd r) : tokE pos (33 :: r) = .inl ⟨4, [33], 0, pos⟩ := by
  cases r with
  | nil => exact hr.elim
  | cons d r => 
    have := sign2_okd (c := 33) hr
    simp (decide := true) [tokE, signL, this]

theorem nameT_run {b : Str} (hb : NoGo b) : ∀ s : Str, nameT s = true → runL (s ++ b) = s.length
  | [], _ => by
    cases b with
    | nil => rfl
    | cons c r => simp only [NoGo] at hb; simp [runL, hb.1, hb.2]
  | c :: s, h => by
    simp only [nameT] at h
    split at h
    · cases h
    · rename_i hc
      have : (isL c || isD c) = true := by cases h1 : isL c <;> cases h2 : isD c <;> simp [h1, h2] at hc ⊢
      simp only [List.cons_append, runL, this, ↓reduceIte, List.length_cons, nameT_run hb s h]

theorem tokE_nm {t : Str} (ht : isName t = true) (pos : Nat) {r : Str} (hr : NoGo r) : tokE pos (t ++ r) = .inl ⟨1, t, 0, pos⟩ ∧ ∃ c s, t = c :: s ∧ isL c = true := by
  cases t with
  | nil => cases ht
  | cons c s =>
    have hlen := isName_len ht
    simp only [isName] at ht
    split at ht
    · cases ht
    · rename_i hc
      simp only [Bool.or_eq_true, not_or, Bool.not_eq_true', Bool.not_eq_false] at hc
      split at ht
      · rename_i hn
        have hw : isWord (c :: s) = false := by simpa using ht
        have hrun : runL (c :: (s ++ r)) = (c :: s).length := by simp only [runL, hc.2, Bool.true_or, ↓reduceIte, nameT_run hr s hn, List.length_cons]
        have htk : (c :: (s ++ r)).take (c :: s).length = c :: s := by rw [← List.cons_append]; exact List.take_left' rfl
        refine ⟨?_, c, s, rfl, hc.2⟩
        rw [List.cons_append]
        simp only [tokE, hc.2, ↓reduceIte, hrun, htk, hw, Bool.false_eq_true]
        rw [if_neg (by omega)]
      · cases ht

end Go.Abs

/-! Pe1 -/

namespace Go.Abs
set_option linter.unusedSimpArgs false
set_option linter.unusedVariables false

/-- So many places on. -/
def Rd.mv (r : Rd) (k : Nat) : Rd := { r with i := r.i + k }
theorem mv_mv (r : Rd) (a b : Nat) : (r.mv a).mv b = r.mv (a + b) := by simp [Rd.mv, Nat.add_assoc]

/-- These tokens come. -/
structure At (r : Rd) (l : List Tok) : Prop where
  d : r.l.drop r.i = l
  c : r.code = 0
  s : r.l.length < 1000000000

theorem At.app {r : Rd} {a b : List Tok} (h : At r (a ++ b)) : At (r.mv a.length) b := by
  refine ⟨?_, h.c, h.s⟩
  have := h.d
  show r.l.drop (r.i + a.length) = b
  rw [← List.drop_drop, this, List.drop_left]
theorem At.one {r : Rd} {t : Tok} {m : List Tok} (h : At r (t :: m)) : At (r.mv 1) m := At.app (a := [t]) h
theorem At.get {r : Rd} {t : Tok} {m : List Tok} (h : At r (t :: m)) : r.l[r.i]? = some t := (drop_get h.d).1
theorem At.good {r : Rd} {l : List Tok} (h : At r l) : r.good = true := by simp [h.c]
theorem At.lt {r : Rd} {t : Tok} {m : List Tok} (h : At r (t :: m)) : r.i < 1000000000 := by
  have := (List.getElem?_eq_some_iff.1 h.get).1
  have := h.s
  omega
theorem At.getO {r : Rd} {t : Tok} {m : List Tok} (h : At r (t :: m)) : Go.Abs.getO r.l r.i = some t := by
  unfold Go.Abs.getO
  rw [if_pos (by have := h.lt; omega), h.get]

def Kd (t : Tok) : Prop := 0 ≤ t.kind ∧ t.kind ≤ 4
theorem Kd.of {t : Tok} {k : Int} (h : t.kind = k) (h0 : (decide (0 ≤ k) && decide (k ≤ 4)) = true := by decide) : Kd t := by
  simp only [Bool.and_eq_true, decide_eq_true_eq] at h0
  exact ⟨by omega, by omega⟩
theorem At.peek {r : Rd} {t : Tok} {m : List Tok} (h : At r (t :: m)) (hk : Kd t) : r.peek = some t := by
  unfold Rd.peek
  rw [h.getO, Option.bind_some, if_pos]
  simp only [Bool.and_eq_true, decide_eq_true_eq]
  exact hk
theorem At.is {r : Rd} {t : Tok} {m : List Tok} (h : At r (t :: m)) (hk : Kd t) (s : Str) : r.is s = some ((t.kind == 3 || t.kind == 4) && t.text == s) := by
  unfold Rd.is
  rw [h.peek hk]; rfl
theorem At.take_yes {r : Rd} {t : Tok} {m : List Tok} (h : At r (t :: m)) {s : Str} (hk : t.kind = 3 ∨ t.kind = 4) (ht : t.text = s) : r.take s = some (true, r.mv 1) := by
  unfold Rd.take
  rw [h.good, h.is (by rcases hk with h | h <;> exact Kd.of h)]
  have : ((t.kind == 3 || t.kind == 4) && t.text == s) = true := by rcases hk with h | h <;> simp [h, ht]
  rw [this]; rfl
theorem At.take_no {r : Rd} {t : Tok} {m : List Tok} (h : At r (t :: m)) {s : Str} (hk : Kd t) (ht : (t.kind ≠ 3 ∧ t.kind ≠ 4) ∨ t.text ≠ s) : r.take s = some (false, r) := by
  unfold Rd.take
  rw [h.good, h.is hk]
  have : ((t.kind == 3 || t.kind == 4) && t.text == s) = false := by
    rcases ht with ⟨h1, h2⟩ | h
    · simp [h1, h2]
    · simp [h]
  rw [this]; rfl
theorem At.want {r : Rd} {t : Tok} {m : List Tok} (h : At r (t :: m)) {s : Str} (hk : t.kind = 3 ∨ t.kind = 4) (ht : t.text = s) : r.want s = some (r.mv 1) := by
  unfold Rd.want
  rw [h.take_yes hk ht]; rfl
theorem At.name {r : Rd} {t : Tok} {m : List Tok} (h : At r (t :: m)) (hk : t.kind = 1) : r.name true = some (t.text, r.mv 1) := by
  unfold Rd.name
  rw [h.peek (Kd.of hk), h.good]
  have : (t.kind != 1) = false := by simp [hk]
  simp only [Option.bind_some, this, Bool.not_true, Bool.or_self, Bool.false_eq_true, ↓reduceIte]
  rfl

/-- A token that ends an expression, or is a sign that binds no more than that. -/
def Halt (c : Int) (m : List Tok) : Prop := ∃ t m', m = t :: m' ∧ Kd t ∧ ((opOf t).1 = 0 ∨ (opOf t).2 ≤ c)

theorem twoL_halt {n : Nat} {k c : Int} {x : Ex} {r : Rd} {m : List Tok} (h : At r m) (hm : Halt c m) (hc : c < k) (hn : 0 < n) : Rd.twoL n k x r = some (x, r) := by
  obtain ⟨t, m', rfl, hk, hop⟩ := hm
  cases n with
  | zero => omega
  | succ n =>
    simp only [Rd.twoL]
    rw [if_pos h.good, h.peek hk, Option.bind_some, if_pos]
    rcases hop with h | h
    · simp [h]
    · simp; omega

def OneAs (x : Ex) (l : List Tok) : Prop := ∀ (r : Rd) (lr : List Tok) (n : Nat), At r (l ++ lr) → 3 * l.length ≤ n + 1 → Rd.one n r = some (x, r.mv l.length)
def TwoAs (c : Int) (x : Ex) (l : List Tok) : Prop := ∀ (r : Rd) (lr : List Tok) (n : Nat) (k : Int), At r (l ++ lr) → Halt c lr → k ≤ c → 3 * l.length ≤ n → ∃ n', n ≤ n' + 3 * l.length ∧ Rd.two n k r = Rd.twoL n' k x (r.mv l.length)

theorem OneAs.two {x : Ex} {l : List Tok} (h : OneAs x l) (hl : 0 < l.length) (c : Int) : TwoAs c x l := by
  intro r lr n k hA _ _ hn
  cases n with
  | zero => omega
  | succ n =>
    refine ⟨n, by omega, ?_⟩
    simp only [Rd.two]
    rw [h r lr n hA (by omega)]
    rfl

theorem one_num {t : Tok} (hk : t.kind = 2) : OneAs ⟨1, t.n, [], []⟩ [t] := by
  intro r lr n hA hn
  cases n with
  | zero => simp at hn
  | succ n =>
    simp only [List.cons_append, List.nil_append] at hA
    simp only [Rd.one]
    rw [hA.peek (Kd.of hk), hA.good]
    have k2 : (t.kind == 2) = true := by simp [hk]
    simp only [Option.bind_some, k2, Bool.not_true, Bool.false_eq_true, ↓reduceIte]
    rfl
theorem one_name {t : Tok} (hk : t.kind = 1) : OneAs ⟨2, 0, t.text, []⟩ [t] := by
  intro r lr n hA hn
  cases n with
  | zero => simp at hn
  | succ n =>
    simp only [List.cons_append, List.nil_append] at hA
    simp only [Rd.one]
    rw [hA.peek (Kd.of hk), hA.good]
    have k2 : (t.kind == 2) = false := by simp [hk]
    have k1 : (t.kind == 1) = true := by simp [hk]
    simp only [Option.bind_some, k2, k1, Bool.not_true, Bool.false_eq_true, ↓reduceIte]
    rfl
theorem one_neg {y : Ex} {l : List Tok} {t : Tok} (hk : t.kind = 4) (ht : t.text = [45]) (hy : OneAs y l) : OneAs ⟨3, 0, [], [y]⟩ (t :: l) := by
  intro r lr n hA hn
  simp only [List.length_cons] at hn
  cases n with
  | zero => omega
  | succ n =>
    simp only [List.cons_append] at hA
    simp only [Rd.one]
    have k2 : (t.kind == 2) = false := by simp [hk]
    have k1 : (t.kind == 1) = false := by simp [hk]
    rw [hA.peek (Kd.of hk), hA.good]
    simp only [Option.bind_some, k2, k1, Bool.not_true, Bool.false_eq_true, ↓reduceIte]
    rw [hA.take_no (Kd.of hk) (.inr (by rw [ht]; decide))]
    simp only [Option.bind_some, Bool.false_eq_true, ↓reduceIte]
    rw [hA.take_yes (.inr hk) ht]
    simp only [Option.bind_some, ↓reduceIte]
    rw [hy _ lr n hA.one (by omega)]
    simp only [Option.bind_some, mv_mv, List.length_cons, Nat.add_comm]
theorem one_not {y : Ex} {l : List Tok} {t : Tok} (hk : t.kind = 4) (ht : t.text = [33]) (hy : OneAs y l) : OneAs ⟨4, 0, [], [y]⟩ (t :: l) := by
  intro r lr n hA hn
  simp only [List.length_cons] at hn
  cases n with
  | zero => omega
  | succ n =>
    simp only [List.cons_append] at hA
    simp only [Rd.one]
    have k2 : (t.kind == 2) = false := by simp [hk]
    have k1 : (t.kind == 1) = false := by simp [hk]
    rw [hA.peek (Kd.of hk), hA.good]
    simp only [Option.bind_some, k2, k1, Bool.not_true, Bool.false_eq_true, ↓reduceIte]
    rw [hA.take_no (Kd.of hk) (.inr (by rw [ht]; decide))]
    simp only [Option.bind_some, Bool.false_eq_true, ↓reduceIte]
    rw [hA.take_no (Kd.of hk) (.inr (by rw [ht]; decide))]
    simp only [Option.bind_some, Bool.false_eq_true, ↓reduceIte]
    rw [hA.take_yes (.inr hk) ht]
    simp only [Option.bind_some, ↓reduceIte]
    rw [hy _ lr n hA.one (by omega)]
    simp only [Option.bind_some, mv_mv, List.length_cons, Nat.add_comm]

theorem halt_sign {t : Tok} {m : List Tok} (hk : t.kind = 4) {s : Str} (ht : t.text = s) (hs : (s == [41] || s == [59] || s == [44] || s == [123] || s == [125]) = true) (c : Int) : Halt c (t :: m) := by
  refine ⟨t, m, rfl, Kd.of hk, .inl ?_⟩
  simp only [Bool.or_eq_true, beq_iff_eq] at hs
  rcases hs with (((rfl | rfl) | rfl) | rfl) | rfl <;> simp (decide := true) [opOf, hk, ht]
theorem one_shut {c : Int} {x : Ex} {l : List Tok} {p q : Tok} (hx : TwoAs c x l) (hc : 1 ≤ c) (hp : p.kind = 4) (hpt : p.text = [40]) (hq : q.kind = 4) (hqt : q.text = [41]) : OneAs x (p :: (l ++ [q])) := by
  intro r lr n hA hn
  simp only [List.length_cons, List.length_append, List.length_nil] at hn
  cases n with
  | zero => omega
  | succ n =>
    simp only [List.cons_append, List.append_assoc, List.nil_append] at hA
    simp only [Rd.one]
    have k2 : (p.kind == 2) = false := by simp [hp]
    have k1 : (p.kind == 1) = false := by simp [hp]
    rw [hA.peek (Kd.of hp), hA.good]
    simp only [Option.bind_some, k2, k1, Bool.not_true, Bool.false_eq_true, ↓reduceIte]
    rw [hA.take_yes (.inr hp) hpt]
    simp only [Option.bind_some, ↓reduceIte]
    obtain ⟨n', h1, h2⟩ := hx _ (q :: lr) n 1 hA.one (halt_sign hq hqt rfl _) hc (by omega)
    rw [h2, twoL_halt hA.one.app (halt_sign hq hqt rfl 0) (by omega) (by omega)]
    simp only [Option.bind_some]
    rw [hA.one.app.want (.inr hq) hqt]
    simp only [Option.bind_some, mv_mv, List.length_cons, List.length_append, List.length_nil]
    congr 3
    omega

theorem two_two {op : Int} (hop : (decide (5 ≤ op) && decide (op ≤ 17)) = true) {a b : Ex} {la lb : List Tok} {o : Tok} (ha : TwoAs (bindB op) a la) (hk : o.kind = 4) (ht : o.text = signR op) (hb : TwoAs (bindB op + 1) b lb) {c : Int} (hc : c ≤ bindB op) :
    TwoAs c ⟨op, 0, [], [a, b]⟩ (la ++ o :: lb) := by
  intro r lr n k hA hh hkc hn
  have hB := bindB_pos hop
  have ho : opOf o = (op, bindB op) := by rw [binds_op o hk, ht, hB.2.2]; rfl
  simp only [List.length_append, List.length_cons] at hn ⊢
  simp only [List.append_assoc, List.cons_append] at hA
  obtain ⟨n1, h1, h2⟩ := ha r (o :: (lb ++ lr)) n k hA ⟨o, _, rfl, Kd.of hk, .inr (by rw [ho]; exact Int.le_refl _)⟩ (by omega) (by omega)
  rw [h2]
  cases n1 with
  | zero => omega
  | succ n1 =>
    refine ⟨n1, by omega, ?_⟩
    have hA1 := hA.app
    have o0 : (op == 0) = false := by
      simp only [Bool.and_eq_true, decide_eq_true_eq] at hop
      exact beq_eq_false_iff_ne.2 (by omega)
    have hcn : (decide (bindB op < k) || op == 0) = false := by simp [o0]; omega
    rw [Rd.twoL, if_pos hA1.good, hA1.peek (Kd.of hk), Option.bind_some, ho, if_neg (by rw [hcn]; simp)]
    have hA2 : At ({ r.mv la.length with i := (r.mv la.length).i + 1 } : Rd) (lb ++ lr) := hA1.one
    have hh' : Halt (bindB op) lr := by
      obtain ⟨t, m', e, h1, h2⟩ := hh
      exact ⟨t, m', e, h1, h2.imp_right fun h => by omega⟩
    have hh'' : Halt (bindB op + 1) lr := by
      obtain ⟨t, m', e, h1, h2⟩ := hh
      exact ⟨t, m', e, h1, h2.imp_right fun h => by omega⟩
    obtain ⟨n3, h3, h4⟩ := hb _ lr n1 (bindB op + 1) hA2 hh'' (Int.le_refl _) (by omega)
    rw [h4, twoL_halt hA2.app hh' (by omega) (by omega), Option.bind_some]
    have : (Rd.mv { r.mv la.length with i := (r.mv la.length).i + 1 } lb.length) = r.mv (la.length + (lb.length + 1)) := by simp [Rd.mv]; omega
    rw [this]

end Go.Abs

/-! Pe2 -/

namespace Go.Abs
set_option linter.unusedSimpArgs false
set_option linter.unusedVariables false

/-- How many tokens a text has. -/
def exN (least : Int) : Ex → Nat
  | ⟨op, _, _, kids⟩ => match kids with
    | [] => 1
    | [a] => 1 + exN 7 a
    | a :: b :: _ => exN (bindB op) a + 1 + exN (bindB op + 1) b + (if bindB op < least then 2 else 0)
theorem exN_le {x : Ex} (h : FormI x) : ∀ least, 0 < exN least x ∧ exN least x ≤ 3 * x.nodes := by
  induction h with
  | num n => intro least; simp [exN, Ex.nodes, Ex.nodess]
  | name n => intro least; simp [exN, Ex.nodes, Ex.nodess]
  | neg y hy ih => intro least; have := ih 7; simp only [exN, Ex.nodes, Ex.nodess]; omega
  | no y hy ih => intro least; have := ih 7; simp only [exN, Ex.nodes, Ex.nodess]; omega
  | two op a b ho ha hb iha ihb =>
    intro least
    have := iha (bindB op); have := ihb (bindB op + 1)
    simp only [exN, Ex.nodes, Ex.nodess]
    split <;> omega

/-- A text is lexed as these tokens, whatever is behind it (but a letter, a digit). -/
def LxS (s : Str) (pos : Nat) (l : List Tok) : Prop := ∀ r lr, NoGo r → Lx (pos + s.length) r lr → Lx pos (s ++ r) (l ++ lr)

theorem prE_first {x : Ex} (h : FormI x) : ∀ least, ∃ c s, prE least x = c :: s ∧ (isL c = true ∨ isD c = true ∨ c = 40 ∨ c = 45 ∨ c = 33) := by
  induction h with
  | num n h0 h1 =>
    intro least
    obtain ⟨c, s, e, hd⟩ : ∃ c s, digF 20 n.toNat = c :: s ∧ isD c = true := by
      cases h : digF 20 n.toNat with
      | nil =>
        exfalso
        rw [show (20 : Nat) = 19 + 1 from rfl, digF] at h
        split at h <;> simp at h
      | cons c s => exact ⟨c, s, rfl, digF_dig 20 n.toNat c (by rw [h]; simp)⟩
    exact ⟨c, s, by rw [pr_num]; exact e, .inr (.inl hd)⟩
  | name t ht =>
    intro least
    obtain ⟨_, c, s, e, hc⟩ := tokE_nm ht 0 (r := []) trivial
    exact ⟨c, s, by rw [pr_name]; exact e, .inl hc⟩
  | neg y hy => intro least; exact ⟨45, _, by rw [pr_neg]; rfl, by simp⟩
  | no y hy => intro least; exact ⟨33, _, by rw [pr_no]; rfl, by simp⟩
  | two op a b ho ha hb iha ihb =>
    intro least
    rw [pr_two]
    split
    · exact ⟨40, _, rfl, by simp⟩
    · obtain ⟨c, s, e, h⟩ := iha (bindB op)
      exact ⟨c, s ++ ([32] ++ signR op ++ [32] ++ prE (bindB op + 1) b), by unfold prT; rw [e]; simp, h⟩
theorem prE_okd {x : Ex} (h : FormI x) (least : Int) (r : Str) : Okd (prE least x ++ r) := by
  obtain ⟨c, s, e, h⟩ := prE_first h least
  rw [e]
  rcases h with h | h | h | h | h
  · exact okd_of (.inl h)
  · exact okd_of (.inr (.inl h))
  · exact okd_of (.inr (.inr h))
  · subst h; exact ⟨by decide, by decide, by decide⟩
  · subst h; exact ⟨by decide, by decide, by decide⟩

theorem LxS.shut {s : Str} {pos : Nat} {l : List Tok} (h : LxS s (pos + 1) l) : LxS ([40] ++ s ++ [41]) pos (⟨4, [40], 0, (pos : Nat)⟩ :: (l ++ [⟨4, [41], 0, ((pos + 1 + s.length : Nat) : Int)⟩])) := by
  intro r lr hr hl
  simp only [List.cons_append, List.append_assoc, List.nil_append]
  refine .tok' (tokE_open _ _) ?_
  refine h (41 :: r) _ ⟨by decide, by decide⟩ ?_
  refine .tok' (tokE_shut _ _) ?_
  have : pos + 1 + s.length + 1 = pos + ([40] ++ s ++ [41]).length := by simp; omega
  simpa [this] using hl

theorem LxS.sign {s t : Str} {pos : Nat} {l m : List Tok} {op : Int} (ho : (decide (5 ≤ op) && decide (op ≤ 17)) = true) (h : LxS s pos l) (k : LxS t (pos + s.length + 1 + (signR op).length + 1) m) :
    LxS (s ++ [32] ++ signR op ++ [32] ++ t) pos (l ++ ⟨4, signR op, 0, ((pos + s.length + 1 : Nat) : Int)⟩ :: m) := by
  intro r lr hr hl
  simp only [List.cons_append, List.append_assoc, List.nil_append]
  refine h _ _ ⟨by decide, by decide⟩ ?_
  refine .blank _ _ _ _ (by decide) ?_
  refine .tok' (tokE_sign' ho _ ⟨by decide, by decide, by decide⟩) ?_
  dsimp only
  rw [List.drop_left]
  refine .blank _ _ _ _ (by decide) ?_
  refine k r lr hr ?_
  have : pos + s.length + 1 + (signR op).length + 1 + t.length = pos + (s ++ [32] ++ signR op ++ [32] ++ t).length := by simp; omega
  rw [this]; exact hl

/-- It begins as an expression, not as a call. -/
def NoCall (l : List Tok) : Prop := (∃ t l', l = t :: l' ∧ (t.kind = 2 ∨ (t.kind = 4 ∧ (t.text = [40] ∨ t.text = [45] ∨ t.text = [33])))) ∨ (∃ t, l = [t] ∧ t.kind = 1) ∨ ∃ t u l', l = t :: u :: l' ∧ t.kind = 1 ∧ (decide (5 ≤ (opOf u).1) && decide ((opOf u).1 ≤ 17)) = true
theorem NoCall.sign {la lb : List Tok} {o : Tok} (h : NoCall la) {op : Int} (hop : (decide (5 ≤ op) && decide (op ≤ 17)) = true) (hk : o.kind = 4) (ho : o.text = signR op) : NoCall (la ++ o :: lb) := by
  rcases h with ⟨t, l', rfl, h⟩ | ⟨t, rfl, h⟩ | ⟨t, u, l', rfl, h⟩
  · exact .inl ⟨t, _, rfl, h⟩
  · refine .inr (.inr ⟨t, o, lb, rfl, h, ?_⟩)
    have hB := bindB_pos hop
    have : opOf o = (op, bindB op) := by rw [binds_op o hk, ho, hB.2.2]; rfl
    rw [this]; exact hop
  · exact .inr (.inr ⟨t, u, _, rfl, h⟩)

theorem pr_as {x : Ex} (h : FormI x) : ∀ least : Int, ∀ pos : Nat, ∃ l, l.length = exN least x ∧ LxS (prE least x) pos l ∧ TwoAs least x l ∧ (least = 7 → OneAs x l) ∧ NoCall l := by
  induction h with
  | num n h0 h1 =>
    intro least pos
    have e := Int.toNat_of_nonneg h0
    have h1' : OneAs ⟨1, n, [], []⟩ [⟨2, digF 20 n.toNat, n.toNat, (pos : Nat)⟩] := by
      have := one_num (t := ⟨2, digF 20 n.toNat, n.toNat, (pos : Nat)⟩) rfl
      dsimp only at this
      rw [e] at this
      simpa [e] using this
    refine ⟨[⟨2, digF 20 n.toNat, n.toNat, (pos : Nat)⟩], by simp [exN], fun r lr hr hl => ?_, h1'.two (by simp) _, fun _ => h1', .inl ⟨_, _, rfl, .inl rfl⟩⟩
    rw [pr_num] at hl ⊢
    refine .tok' (tokE_num (by omega) pos hr) ?_
    simpa using hl
  | name t ht =>
    intro least pos
    have h1' : OneAs ⟨2, 0, t, []⟩ [⟨1, t, 0, (pos : Nat)⟩] := one_name (t := ⟨1, t, 0, (pos : Nat)⟩) rfl
    refine ⟨[⟨1, t, 0, (pos : Nat)⟩], by simp [exN], fun r lr hr hl => ?_, h1'.two (by simp) _, fun _ => h1', .inr (.inl ⟨_, rfl, rfl⟩)⟩
    rw [pr_name] at hl ⊢
    refine .tok' (tokE_nm ht pos hr).1 ?_
    simpa using hl
  | neg y hy ih =>
    intro least pos
    obtain ⟨l, g1, g2, g3, g4, _⟩ := ih 7 (pos + 1)
    have h1' := one_neg (t := ⟨4, [45], 0, (pos : Nat)⟩) rfl rfl (g4 rfl)
    refine ⟨⟨4, [45], 0, (pos : Nat)⟩ :: l, by simp only [exN, List.length_cons]; omega, fun r lr hr hl => ?_, h1'.two (by simp) _, fun _ => h1', .inl ⟨_, _, rfl, .inr ⟨rfl, .inr (.inl rfl)⟩⟩⟩
    rw [pr_neg] at hl ⊢
    simp only [List.cons_append, List.nil_append, List.length_cons] at hl ⊢
    refine .tok' (tokE_minus _ _) ?_
    refine g2 r lr hr ?_
    have : pos + 1 + (prE 7 y).length = pos + ((prE 7 y).length + 1) := by omega
    rw [this]; exact hl
  | no y hy ih =>
    intro least pos
    obtain ⟨l, g1, g2, g3, g4, _⟩ := ih 7 (pos + 1)
    have h1' := one_not (t := ⟨4, [33], 0, (pos : Nat)⟩) rfl rfl (g4 rfl)
    refine ⟨⟨4, [33], 0, (pos : Nat)⟩ :: l, by simp only [exN, List.length_cons]; omega, fun r lr hr hl => ?_, h1'.two (by simp) _, fun _ => h1', .inl ⟨_, _, rfl, .inr ⟨rfl, .inr (.inr rfl)⟩⟩⟩
    rw [pr_no] at hl ⊢
    simp only [List.cons_append, List.nil_append, List.length_cons] at hl ⊢
    refine .tok' (tokE_not _ (prE_okd hy 7 r)) ?_
    refine g2 r lr hr ?_
    have : pos + 1 + (prE 7 y).length = pos + ((prE 7 y).length + 1) := by omega
    rw [this]; exact hl
  | two op a b ho ha hb iha ihb =>
    have hB := bindB_pos ho
    have key : ∀ pos : Nat, ∃ l, l.length = exN (bindB op) a + 1 + exN (bindB op + 1) b ∧ LxS (prT op a b) pos l ∧ (∀ c, c ≤ bindB op → TwoAs c ⟨op, 0, [], [a, b]⟩ l) ∧ NoCall l := by
      intro pos
      obtain ⟨l, g1, g2, g3, g4, g5⟩ := iha (bindB op) pos
      obtain ⟨m, k1, k2, k3, k4⟩ := ihb (bindB op + 1) (pos + (prE (bindB op) a).length + 1 + (signR op).length + 1)
      exact ⟨_, by simp only [List.length_append, List.length_cons]; omega, LxS.sign ho g2 k2, fun c hc => two_two ho g3 rfl rfl k3 hc, g5.sign ho rfl rfl⟩
    intro least pos
    rw [pr_two]
    simp only [exN]
    by_cases hl : bindB op < least
    · rw [if_pos hl, if_pos hl]
      obtain ⟨l, g1, g2, g3, _⟩ := key (pos + 1)
      have h1' := one_shut (p := ⟨4, [40], 0, (pos : Nat)⟩) (q := ⟨4, [41], 0, ((pos + 1 + (prT op a b).length : Nat) : Int)⟩) (g3 1 hB.1) (by omega) rfl rfl rfl rfl
      exact ⟨_, by simp only [List.length_append, List.length_cons, List.length_nil]; omega, g2.shut, h1'.two (by simp) _, fun _ => h1', .inl ⟨_, _, rfl, .inr ⟨rfl, .inl rfl⟩⟩⟩
    · rw [if_neg hl, if_neg hl]
      obtain ⟨l, g1, g2, g3, g4⟩ := key pos
      exact ⟨l, by omega, g2, g3 _ (by omega), fun h => by omega, g4⟩

/-- Nothing binds less than 1. -/
theorem pr_01 {x : Ex} (h : FormI x) : prE 0 x = prE 1 x ∧ exN 0 x = exN 1 x := by
  cases h with
  | num n => rw [pr_num, pr_num]; exact ⟨rfl, rfl⟩
  | name n => rw [pr_name, pr_name]; exact ⟨rfl, rfl⟩
  | neg n => rw [pr_neg, pr_neg]; exact ⟨rfl, rfl⟩
  | no n => rw [pr_no, pr_no]; exact ⟨rfl, rfl⟩
  | two op a b ho =>
    have := bindB_pos ho
    rw [pr_two, pr_two, if_neg (by omega), if_neg (by omega)]
    refine ⟨rfl, ?_⟩
    simp only [exN]
    rw [if_neg (by omega), if_neg (by omega)]

/-- What ends an expression. -/
def Ends (m : List Tok) : Prop := ∃ t m', m = t :: m' ∧ Kd t ∧ (opOf t).1 = 0
theorem Ends.halt {m : List Tok} (h : Ends m) (c : Int) : Halt c m := by
  obtain ⟨t, m', h1, h2, h3⟩ := h
  exact ⟨t, m', h1, h2, .inl h3⟩

/-- Read as a whole. -/
def WholeAs (x : Ex) (l : List Tok) : Prop := ∀ (r : Rd) (lr : List Tok) (n : Nat), At r (l ++ lr) → Ends lr → 3 * l.length < n → Rd.whole n r = some (x, r.mv l.length)

theorem whole_as {x : Ex} {l : List Tok} {c : Int} (h : TwoAs c x l) (hc : 1 ≤ c) (hk : ∀ t ∈ l, Kd t) (hl : 0 < l.length) (hd : x.depth ≤ 20) (hs : x.size < 1000000000) : WholeAs x l := by
  intro r lr n hA he hn
  obtain ⟨n', h1, h2⟩ := h r lr n 1 hA (he.halt _) hc (by omega)
  unfold Rd.whole
  obtain ⟨t, l', rfl⟩ : ∃ t l', l = t :: l' := by
    cases l with
    | nil => simp at hl
    | cons t l' => exact ⟨t, l', rfl⟩
  have hA' : At r (t :: (l' ++ lr)) := hA
  rw [hA'.peek (hk t (by simp)), Option.bind_some, h2, twoL_halt hA.app (he.halt 0) (by omega) (by omega), Option.bind_some]
  dsimp only
  rw [if_pos hA.app.good]
  unfold depthO
  rw [if_pos (by omega), Option.bind_some, if_neg (by simp only [decide_eq_true_eq]; omega)]

/-- The lexer's tokens have kinds. -/
theorem Lx.kd {pos : Nat} {s : Str} {l : List Tok} (h : Lx pos s l) : ∀ t ∈ l, Kd t := by
  induction h with
  | nil => intro t h; cases h
  | blank _ _ _ _ _ _ ih => exact ih
  | rem _ _ _ _ _ _ _ ih => exact ih
  | tok pos c r t l _ _ ht _ ih =>
    intro u hu
    rcases List.mem_cons.1 hu with rfl | hu
    · have := tokE_ok ht; unfold TokOk at this; exact ⟨by omega, by omega⟩
    · exact ih u hu

/-- An expression's text in a whole. -/
theorem pr_whole {x : Ex} (h : FormI x) (hd : x.depth ≤ 20) (hs : x.size < 1000000000) (pos : Nat) : ∃ l, l.length = exN 0 x ∧ LxS (prE 0 x) pos l ∧ WholeAs x l ∧ NoCall l := by
  obtain ⟨e1, e2⟩ := pr_01 h
  obtain ⟨l, g1, g2, g3, _, g5⟩ := pr_as h 1 pos
  refine ⟨l, by rw [e2]; exact g1, by rw [e1]; exact g2, whole_as g3 (by omega) ?_ (by have := (exN_le h 1).1; omega) hd hs, g5⟩
  have : Lx pos (prE 1 x ++ []) (l ++ []) := g2 [] [] trivial (.nil _)
  simpa using this.kd

end Go.Abs

/-! Ps1 -/

namespace Go.Abs
set_option linter.unusedSimpArgs false
set_option linter.unusedVariables false

/-- As these tokens, whatever is behind it. -/
def LxF (s : Str) (pos : Nat) (l : List Tok) : Prop := ∀ r lr, Lx (pos + s.length) r lr → Lx pos (s ++ r) (l ++ lr)
theorem LxF.nil (pos : Nat) : LxF [] pos [] := fun r lr h => h
theorem LxF.app {s t : Str} {pos : Nat} {l m : List Tok} (h : LxF s pos l) (k : LxF t (pos + s.length) m) : LxF (s ++ t) pos (l ++ m) := by
  intro r lr hl
  rw [List.append_assoc, List.append_assoc]
  refine h _ _ (k _ _ ?_)
  rw [List.length_append, ← Nat.add_assoc] at hl
  exact hl
theorem LxF.blank {c : UInt8} (h : isB c = true) {t : Str} {pos : Nat} {l : List Tok} (k : LxF t (pos + 1) l) : LxF (c :: t) pos l := by
  intro r lr hl
  refine .blank _ _ _ _ h (k _ _ ?_)
  have : pos + 1 + t.length = pos + (c :: t).length := by simp; omega
  rw [this]; exact hl
theorem LxF.blanks : ∀ (n : Nat) {t : Str} {pos : Nat} {l : List Tok}, LxF t (pos + n) l → LxF (List.replicate n 32 ++ t) pos l
  | 0, t, pos, l, k => k
  | n + 1, t, pos, l, k => by
    rw [List.replicate_succ, List.cons_append]
    exact .blank (by decide) (LxF.blanks n (by rw [Nat.add_right_comm]; exact k))
/-- A text that needs an end, and one. -/
theorem LxS.then {s t : Str} {c : UInt8} {pos : Nat} {l m : List Tok} (h : LxS s pos l) (k : LxF (c :: t) (pos + s.length) m) (hc : isL c = false ∧ isD c = false := by decide) : LxF (s ++ c :: t) pos (l ++ m) := by
  intro r lr hl
  rw [List.append_assoc, List.append_assoc]
  refine h _ _ hc (k _ _ ?_)
  rw [List.length_append, ← Nat.add_assoc] at hl
  exact hl
theorem LxS.behind {s t : Str} {pos : Nat} {l m : List Tok} (h : LxF s pos l) (k : LxS t (pos + s.length) m) : LxS (s ++ t) pos (l ++ m) := by
  intro r lr hr hl
  rw [List.append_assoc, List.append_assoc]
  refine h _ _ (k _ _ hr ?_)
  rw [List.length_append, ← Nat.add_assoc] at hl
  exact hl
theorem LxF.s {s : Str} {pos : Nat} {l : List Tok} (h : LxF s pos l) : LxS s pos l := fun r lr _ hl => h r lr hl

/-- A sign by itself. -/
def tSg (c : UInt8) (pos : Nat) : Tok := ⟨4, [c], 0, (pos : Nat)⟩
theorem tokE_sg {c : UInt8} (hc : (c == 40 || c == 41 || c == 44 || c == 58 || c == 59 || c == 123 || c == 125) = true) (pos : Nat) (r : Str) : tokE pos (c :: r) = .inl (tSg c pos) := by
  simp only [Bool.or_eq_true, beq_iff_eq] at hc
  cases r with
  | nil => rcases hc with (((((rfl | rfl) | rfl) | rfl) | rfl) | rfl) | rfl <;> simp (decide := true) [tokE, signL, tSg]
  | cons d r =>
    rcases hc with (((((rfl | rfl) | rfl) | rfl) | rfl) | rfl) | rfl
    all_goals
      have := fun a b c : UInt8 => (rfl : sign2 [a, b] = sign2 [a, b])
      simp (decide := true) [tokE, signL, tSg, sign2]
theorem LxF.sg {c : UInt8} {t : Str} {pos : Nat} {l : List Tok} (k : LxF t (pos + 1) l) (hc : (c == 40 || c == 41 || c == 44 || c == 58 || c == 59 || c == 123 || c == 125) = true := by decide) : LxF (c :: t) pos (tSg c pos :: l) := by
  intro r lr hl
  simp only [List.cons_append]
  refine .tok' (tokE_sg hc pos _) ?_
  refine k r lr ?_
  have : pos + (tSg c pos).text.length + t.length = pos + (c :: t).length := by simp [tSg]; omega
  have e : (tSg c pos).text.length = 1 := rfl
  rw [e] at this
  rw [this]; exact hl
/-- A sign of equality, and a blank. -/
theorem LxF.eq {t : Str} {pos : Nat} {l : List Tok} (k : LxF t (pos + 2) l) : LxF (61 :: 32 :: t) pos (tSg 61 pos :: l) := by
  intro r lr hl
  simp only [List.cons_append]
  have : tokE pos (61 :: 32 :: (t ++ r)) = .inl (tSg 61 pos) := by simp (decide := true) [tokE, signL, tSg]
  refine .tok' this ?_
  refine .blank _ _ _ _ (by decide) ?_
  refine k r lr ?_
  have : pos + (tSg 61 pos).text.length + 1 + t.length = pos + (61 :: 32 :: t).length := by simp [tSg]; omega
  have e : (tSg 61 pos).text.length = 1 := rfl
  rw [e] at this
  have e2 : pos + 2 + t.length = pos + 1 + 1 + t.length := by omega
  rw [e2, this]; exact hl

/-- A name. -/
def tNm (t : Str) (pos : Nat) : Tok := ⟨1, t, 0, (pos : Nat)⟩
theorem LxS.nm {t : Str} (ht : isName t = true) (pos : Nat) : LxS t pos [tNm t pos] := by
  intro r lr hr hl
  refine .tok' (tokE_nm ht pos hr).1 ?_
  simpa [tNm] using hl
/-- A word. -/
def tWd (t : Str) (pos : Nat) : Tok := ⟨3, t, 0, (pos : Nat)⟩
theorem LxS.wd {w : Str} (pos : Nat) (h : (isWord w && w.all isL && !w.isEmpty && decide (w.length ≤ 8)) = true := by decide) : LxS w pos [tWd w pos] := by
  intro r lr hnr hl
  simp only [Bool.and_eq_true, decide_eq_true_eq, Bool.not_eq_true', List.isEmpty_eq_false_iff] at h
  obtain ⟨⟨⟨hw, ha⟩, h0⟩, h8⟩ := h
  have hrun : ∀ s : Str, s.all isL = true → runL (s ++ r) = s.length := by
    intro s
    induction s with
    | nil =>
      intro _
      cases r with
      | nil => rfl
      | cons c r => simp only [NoGo] at hnr; simp [runL, hnr.1, hnr.2]
    | cons d s ih =>
      intro hs
      simp only [List.all_cons, Bool.and_eq_true] at hs
      simp only [List.cons_append, runL, hs.1, Bool.true_or, ↓reduceIte, List.length_cons, ih hs.2]
  obtain ⟨d, s, rfl⟩ : ∃ d s, w = d :: s := by
    cases w with
    | nil => exact absurd rfl h0
    | cons d s => exact ⟨d, s, rfl⟩
  have hd : isL d = true := by
    simp only [List.all_cons, Bool.and_eq_true] at ha
    exact ha.1
  have hr := hrun _ ha
  have htk : (d :: s ++ r).take (d :: s).length = d :: s := List.take_left' rfl
  have : tokE pos (d :: s ++ r) = .inl (tWd (d :: s) pos) := by
    rw [List.cons_append] at hr htk ⊢
    simp only [tokE, hd, ↓reduceIte, hr, htk, hw]
    rw [if_neg (by omega)]
    rfl
  refine .tok' this ?_
  simpa [tWd] using hl

/-! ### Lists -/

/-- Things with commas between. -/
inductive SepG {α : Type} (G : α → List Tok → Prop) : List α → List Tok → Prop
  | one (x : α) (l : List Tok) (h : G x l) : SepG G [x] l
  | cons (x : α) (l : List Tok) (c : Tok) (hc : c.kind = 4 ∧ c.text = [44]) (xs : List α) (m : List Tok) (h : G x l) (k : SepG G xs m) : SepG G (x :: xs) (l ++ c :: m)

theorem LxS.join {α : Type} (f : α → Str) (G : α → List Tok → Prop) : ∀ (xs : List α) (pos : Nat), xs ≠ [] → (∀ x ∈ xs, ∀ pos, ∃ l, LxS (f x) pos l ∧ G x l) →
    ∃ l, LxS (Lib.join (xs.map f) [44, 32]) pos l ∧ SepG G xs l
  | [x], pos, _, h => by
    obtain ⟨l, h1, h2⟩ := h x (by simp) pos
    refine ⟨l, ?_, .one x l h2⟩
    simpa [Lib.join, List.intercalate] using h1
  | x :: y :: xs, pos, _, h => by
    obtain ⟨l, h1, h2⟩ := h x (by simp) pos
    obtain ⟨m, k1, k2⟩ := LxS.join f G (y :: xs) (pos + (f x).length + 2) (by simp) (fun z hz => h z (List.mem_cons_of_mem _ hz))
    refine ⟨l ++ tSg 44 (pos + (f x).length) :: m, ?_, .cons x l _ ⟨rfl, rfl⟩ _ m h2 k2⟩
    have e : Lib.join ((x :: y :: xs).map f) [44, 32] = f x ++ 44 :: (32 :: Lib.join ((y :: xs).map f) [44, 32]) := by
      simp only [Lib.join, List.map_cons, List.intercalate_cons_cons, List.append_assoc, List.cons_append, List.nil_append]
    rw [e]
    intro r lr hr hl
    rw [List.append_assoc, List.append_assoc]
    refine h1 _ _ ⟨by decide, by decide⟩ ?_
    refine .tok' (tokE_sg (by decide) _ _) ?_
    refine .blank _ _ _ _ (by decide) ?_
    have e2 : pos + (f x).length + (tSg 44 (pos + (f x).length)).text.length + 1 = pos + (f x).length + 2 := rfl
    refine k1 r lr hr ?_
    have : pos + (f x).length + 2 + (Lib.join ((y :: xs).map f) [44, 32]).length = pos + (f x ++ 44 :: (32 :: Lib.join ((y :: xs).map f) [44, 32])).length := by simp; omega
    rw [this]; exact hl

end Go.Abs

/-! Ps2 -/

namespace Go.Abs
set_option linter.unusedSimpArgs false
set_option linter.unusedVariables false

theorem At.name' {r : Rd} {t : Tok} {m : List Tok} (h : At r (t :: m)) (hk : t.kind = 1) {b : Bool} (hb : b = true) : r.name b = some (t.text, r.mv 1) := by rw [hb]; exact h.name hk
theorem push_ok {α : Type} {k : Nat} {l : List α} {x : α} (hl : l.length ≤ 1000000) (hk : k ≤ 1000) : push k l x = some (l ++ [x]) := by
  unfold push
  rw [if_pos]
  have : (l.length + 1) * k ≤ 1000001 * 1000 := Nat.mul_le_mul (by omega) hk
  unfold maxStr; omega

def GName (t : Str) (l : List Tok) : Prop := ∃ k : Tok, l = [k] ∧ k.kind = 1 ∧ k.text = t
theorem kd4 {t : Tok} (h : t.kind = 4) : Kd t := Kd.of h
theorem kd1 {t : Tok} (h : t.kind = 1) : Kd t := Kd.of h

theorem names_as {xs : List Str} {l : List Tok} (h : SepG GName xs l) : ∀ (r : Rd) (q : Tok) (lr : List Tok) (out : List Str) (n : Nat) (most : Int), At r (l ++ q :: lr) → q.kind = 4 → q.text = [59] → ((out.length + xs.length : Nat) : Int) ≤ most → most ≤ 1000 → xs.length ≤ n →
    Rd.names n out most r = some (out ++ xs, r.mv (l.length + 1)) := by
  induction h with
  | one x l hx =>
    intro r q lr out n most hA hq ht hm hm2 hn
    obtain ⟨k, rfl, hk, rfl⟩ := hx
    simp only [List.length_cons, List.length_nil] at hm hn
    cases n with
    | zero => omega
    | succ n =>
      have hA : At r (k :: q :: lr) := hA
      have hA1 := hA.one
      rw [Rd.names, if_pos hA.good, hA.name' hk (by simp only [decide_eq_true_eq]; omega), Option.bind_some, push_ok (by omega) (by omega), Option.bind_some, hA1.take_no (kd4 hq) (.inr (by rw [ht]; decide)), Option.bind_some]
      simp only [Bool.not_false, ↓reduceIte]
      rw [hA1.want (.inr hq) ht]
      rfl
  | cons x l c hc xs m hx _ ih =>
    intro r q lr out n most hA hq ht hm hm2 hn
    obtain ⟨k, rfl, hk, rfl⟩ := hx
    simp only [List.length_cons] at hm hn
    cases n with
    | zero => omega
    | succ n =>
      have hA : At r (k :: c :: (m ++ q :: lr)) := by simpa using hA
      have hA1 := hA.one
      rw [Rd.names, if_pos hA.good, hA.name' hk (by simp only [decide_eq_true_eq]; omega), Option.bind_some, push_ok (by omega) (by omega), Option.bind_some, hA1.take_yes (.inr hc.1) hc.2, Option.bind_some]
      simp only [Bool.not_true, Bool.false_eq_true, ↓reduceIte]
      rw [ih _ q lr (out ++ [k.text]) n most hA1.one hq ht (by simp only [List.length_append, List.length_cons, List.length_nil]; omega) hm2 (by omega)]
      simp only [List.append_assoc, List.cons_append, List.nil_append, mv_mv, List.length_append, List.length_cons, List.length_nil]
      congr 3
      omega

def GParam (a : Pm) (l : List Tok) : Prop := if a.ref then ∃ w k : Tok, l = [w, k] ∧ w.kind = 3 ∧ w.text = [114, 101, 102] ∧ k.kind = 1 ∧ k.text = a.name else GName a.name l
theorem params_as {xs : List Pm} {l : List Tok} (h : SepG GParam xs l) : ∀ (r : Rd) (q : Tok) (lr : List Tok) (out : List Pm) (n : Nat), At r (l ++ q :: lr) → q.kind = 4 → q.text = [41] → out.length + xs.length ≤ 8 → xs.length ≤ n →
    Rd.params n out r = some (out ++ xs, r.mv l.length) := by
  -- one of them
  have step : ∀ (x : Pm) (l : List Tok), GParam x l → ∀ (r : Rd) (q : Tok) (lr : List Tok) (out : List Pm), At r (l ++ q :: lr) → out.length < 8 → (r.take [114, 101, 102]).bind (fun p => (p.2.name (decide ((out.length : Int) < 8))).bind fun y => (push 25 out ⟨y.1, p.1⟩).bind fun o => some (o, y.2)) = some (out ++ [x], r.mv l.length) := by
    intro x l hx r q lr out hA ho
    obtain ⟨nm, rf⟩ := x
    unfold GParam at hx
    split at hx
    · rename_i hr
      obtain ⟨w, k, rfl, w1, w2, k1, k2⟩ := hx
      have hA : At r (w :: k :: q :: lr) := hA
      dsimp only at hr k2
      subst hr k2
      rw [hA.take_yes (.inl w1) w2, Option.bind_some]
      dsimp only
      rw [hA.one.name' k1 (by simp only [decide_eq_true_eq]; omega), Option.bind_some]
      dsimp only
      rw [push_ok (by omega) (by omega), Option.bind_some, mv_mv]
      rfl
    · rename_i hr
      obtain ⟨k, rfl, k1, k2⟩ := hx
      have hA : At r (k :: q :: lr) := hA
      have hr : rf = false := by simpa using hr
      dsimp only at k2
      subst hr k2
      rw [hA.take_no (kd1 k1) (.inl (by omega)), Option.bind_some]
      dsimp only
      rw [hA.name' k1 (by simp only [decide_eq_true_eq]; omega), Option.bind_some]
      dsimp only
      rw [push_ok (by omega) (by omega), Option.bind_some]
      rfl
  have glue : ∀ (out : List Pm) (r : Rd) (n : Nat), r.good = true → Rd.params (n + 1) out r = ((r.take [114, 101, 102]).bind (fun p => (p.2.name (decide ((out.length : Int) < 8))).bind fun y => (push 25 out ⟨y.1, p.1⟩).bind fun o => some (o, y.2))).bind fun o => (o.2.take [44]).bind fun c => if !c.1 then some (o.1, c.2) else Rd.params n o.1 c.2 := by
    intro out r n hg
    rw [Rd.params, if_pos hg]
    simp only [Option.bind_assoc, Option.bind_some]
  induction h with
  | one x l hx =>
    intro r q lr out n hA hq ht hm hn
    simp only [List.length_cons, List.length_nil] at hm hn
    cases n with
    | zero => omega
    | succ n =>
      rw [glue _ _ _ hA.good, step x l hx r q lr out hA (by omega), Option.bind_some]
      dsimp only
      rw [hA.app.take_no (kd4 hq) (.inr (by rw [ht]; decide)), Option.bind_some]
      rfl
  | cons x l c hc xs m hx _ ih =>
    intro r q lr out n hA hq ht hm hn
    simp only [List.length_cons] at hm hn
    cases n with
    | zero => omega
    | succ n =>
      have hA : At r (l ++ c :: (m ++ q :: lr)) := by simpa using hA
      rw [glue _ _ _ hA.good, step x l hx r c _ out hA (by omega), Option.bind_some]
      dsimp only
      rw [hA.app.take_yes (.inr hc.1) hc.2, Option.bind_some]
      simp only [Bool.not_true, Bool.false_eq_true, ↓reduceIte]
      rw [ih _ q lr _ n hA.app.one hq ht (by simp only [List.length_append, List.length_cons, List.length_nil]; omega) (by omega)]
      simp only [List.append_assoc, List.cons_append, List.nil_append, mv_mv, List.length_append, List.length_cons, List.length_nil]
      congr 3
      omega

/-- What an expression begins with is no word, and none of these signs. -/
theorem NoCall.first {l : List Tok} (h : NoCall l) : ∃ t l', l = t :: l' ∧ Kd t ∧ ∀ s : Str, (s == [40] || s == [45] || s == [33]) = false → (t.kind ≠ 3 ∧ t.kind ≠ 4) ∨ t.text ≠ s := by
  rcases h with ⟨t, l', rfl, h⟩ | ⟨t, rfl, h⟩ | ⟨t, u, l', rfl, h, _⟩
  · refine ⟨t, l', rfl, by rcases h with h | h; exact Kd.of h; exact Kd.of h.1, fun s hs => ?_⟩
    rcases h with h | ⟨h, h2⟩
    · exact .inl (by omega)
    · right
      rintro rfl
      rcases h2 with h2 | h2 | h2 <;> simp [h2] at hs
  · exact ⟨t, [], rfl, kd1 h, fun s _ => .inl (by omega)⟩
  · exact ⟨t, _, rfl, kd1 h, fun s _ => .inl (by omega)⟩

def GArg (a : Ar) (l : List Tok) : Prop := if a.ref then ∃ w k : Tok, l = [w, k] ∧ w.kind = 3 ∧ w.text = [114, 101, 102] ∧ k.kind = 1 ∧ k.text = a.name else WholeAs a.x l ∧ NoCall l ∧ l.length = exN 0 a.x
/-- What is read of it. -/
def arZ (a : Ar) : Ar := if a.ref then ⟨true, a.name, ex0⟩ else ⟨false, [], a.x⟩

theorem ends_sign {t : Tok} {m : List Tok} (hk : t.kind = 4) {s : Str} (ht : t.text = s) (hs : (s == [41] || s == [59] || s == [44] || s == [123] || s == [125]) = true) : Ends (t :: m) := by
  refine ⟨t, m, rfl, kd4 hk, ?_⟩
  simp only [Bool.or_eq_true, beq_iff_eq] at hs
  rcases hs with (((rfl | rfl) | rfl) | rfl) | rfl <;> simp (decide := true) [opOf, hk, ht]

theorem args_as {xs : List Ar} {l : List Tok} (h : SepG GArg xs l) : ∀ (r : Rd) (q : Tok) (lr : List Tok) (out : List Ar) (m n : Nat), At r (l ++ q :: lr) → q.kind = 4 → q.text = [41] → out.length + xs.length ≤ 1000000 → xs.length ≤ n → 3 * l.length < m →
    Rd.callL m n out r = some (out ++ xs.map arZ, r.mv l.length) := by
  have step : ∀ (x : Ar) (l : List Tok), GArg x l → ∀ (r : Rd) (q : Tok) (lr : List Tok) (out : List Ar) (m n : Nat), At r (l ++ q :: lr) → q.kind = 4 → (q.text = [41] ∨ q.text = [44]) → out.length < 1000000 → 3 * l.length < m →
      Rd.callL m (n + 1) out r = ((r.mv l.length).take [44]).bind fun c => if !c.1 then some (out ++ [arZ x], c.2) else Rd.callL m n (out ++ [arZ x]) c.2 := by
    intro x l hx r q lr out m n hA hq hqt ho hm
    obtain ⟨rf, nm, e⟩ := x
    rw [Rd.callL, if_pos hA.good]
    unfold GArg at hx
    split at hx
    · rename_i hr
      obtain ⟨w, k, rfl, w1, w2, k1, k2⟩ := hx
      have hA : At r (w :: k :: q :: lr) := hA
      dsimp only at hr k2
      subst hr k2
      rw [hA.take_yes (.inl w1) w2, Option.bind_some]
      simp only [↓reduceIte]
      rw [hA.one.name k1, Option.bind_some]
      dsimp only
      rw [push_ok (by omega) (by omega), Option.bind_some, mv_mv]
      rfl
    · rename_i hr
      obtain ⟨h1, h2, _⟩ := hx
      have hr : rf = false := by simpa using hr
      subst hr
      obtain ⟨t, l', rfl, hk, hs⟩ := h2.first
      have hA' : At r (t :: (l' ++ q :: lr)) := hA
      rw [hA'.take_no hk (hs _ (by decide)), Option.bind_some]
      simp only [Bool.false_eq_true, ↓reduceIte]
      rw [h1 r (q :: lr) m hA (by rcases hqt with h | h <;> exact ends_sign hq h (by decide)) hm, Option.bind_some]
      dsimp only
      rw [push_ok (by omega) (by omega), Option.bind_some]
      rfl
  induction h with
  | one x l hx =>
    intro r q lr out m n hA hq ht hm hn hf
    simp only [List.length_cons, List.length_nil] at hm hn
    cases n with
    | zero => omega
    | succ n =>
      rw [step x l hx r q lr out m n hA hq (.inl ht) (by omega) hf, hA.app.take_no (kd4 hq) (.inr (by rw [ht]; decide)), Option.bind_some]
      rfl
  | cons x l c hc xs k hx _ ih =>
    intro r q lr out m n hA hq ht hm hn hf
    simp only [List.length_cons, List.length_append] at hm hn hf
    cases n with
    | zero => omega
    | succ n =>
      have hA : At r (l ++ c :: (k ++ q :: lr)) := by simpa using hA
      rw [step x l hx r c _ out m n hA hc.1 (.inr hc.2) (by omega) (by omega), hA.app.take_yes (.inr hc.1) hc.2, Option.bind_some]
      simp only [Bool.not_true, Bool.false_eq_true, ↓reduceIte]
      rw [ih _ q lr _ m n hA.app.one hq ht (by simp only [List.length_append, List.length_cons, List.length_nil]; omega) (by omega) (by omega)]
      simp only [List.append_assoc, List.cons_append, List.nil_append, mv_mv, List.length_append, List.length_cons, List.length_nil, List.map_cons]
      congr 3
      omega

/-! ### Labels -/

inductive LabT : List Str → List Tok → Prop
  | nil : LabT [] []
  | cons (t c : Tok) (ls : List Str) (m : List Tok) (ht : t.kind = 1) (hc : c.kind = 4) (hc2 : c.text = [58]) (h : LabT ls m) : LabT (t.text :: ls) (t :: c :: m)
/-- No label comes. -/
def NoLab (l : List Tok) : Prop := ∃ t l', l = t :: l' ∧ Kd t ∧ (t.kind ≠ 1 ∨ ∃ u m, l' = u :: m ∧ (u.kind ≠ 4 ∨ u.text ≠ [58]))

theorem At.ahead_no {r : Rd} {l : List Tok} (h : At r l) {s : Str} (hl : ∃ t l', l = t :: l' ∧ Kd t ∧ (t.kind ≠ 1 ∨ ∃ u m, l' = u :: m ∧ (u.kind ≠ 4 ∨ u.text ≠ s))) : r.ahead s = some false := by
  obtain ⟨t, l', rfl, hk, hl⟩ := hl
  unfold Rd.ahead
  rw [if_pos h.good, h.peek hk, Option.bind_some]
  by_cases h1 : t.kind = 1
  · rcases hl with hl | ⟨u, m, rfl, hl⟩
    · exact absurd h1 hl
    · have hg : Go.Abs.getO r.l (r.i + 1) = some u := h.one.getO
      have k1 : (t.kind == 1) = true := by simp [h1]
      rw [if_pos k1, hg, Option.bind_some]
      rcases hl with hl | hl <;> simp [hl]
  · have k1 : (t.kind == 1) = false := by simp [h1]
    rw [if_neg (by simp [h1])]
theorem At.ahead_yes {r : Rd} {t u : Tok} {m : List Tok} (h : At r (t :: u :: m)) {s : Str} (ht : t.kind = 1) (hu : u.kind = 4) (hs : u.text = s) : r.ahead s = some true := by
  unfold Rd.ahead
  have hg : Go.Abs.getO r.l (r.i + 1) = some u := h.one.getO
  have k1 : (t.kind == 1) = true := by simp [ht]
  rw [if_pos h.good, h.peek (kd1 ht), Option.bind_some, if_pos k1, hg, Option.bind_some]
  simp [hu, hs]

theorem labels_as {ls : List Str} {l : List Tok} (h : LabT ls l) : ∀ (r : Rd) (lr : List Tok) (out : List Str) (n : Nat), At r (l ++ lr) → NoLab lr → out.length + ls.length ≤ 1000000 → ls.length < n → Rd.labels n out r = some (out ++ ls, r.mv l.length) := by
  induction h with
  | nil =>
    intro r lr out n hA hN ho hn
    cases n with
    | zero => omega
    | succ n =>
      have hA : At r lr := hA
      rw [Rd.labels, hA.ahead_no hN, Option.bind_some]
      simp [Rd.mv]
  | cons t c ls m ht hc hc2 _ ih =>
    intro r lr out n hA hN ho hn
    simp only [List.length_cons] at ho hn
    cases n with
    | zero => omega
    | succ n =>
      have hA : At r (t :: c :: (m ++ lr)) := hA
      rw [Rd.labels, hA.ahead_yes ht hc hc2, Option.bind_some]
      simp only [↓reduceIte]
      rw [hA.peek (kd1 ht), Option.bind_some, push_ok (by omega) (by omega), Option.bind_some]
      have hA2 : At ({ r with i := r.i + 2 } : Rd) (m ++ lr) := hA.one.one
      rw [ih _ lr _ n hA2 hN (by simp only [List.length_append, List.length_cons, List.length_nil]; omega) (by omega)]
      simp only [List.append_assoc, List.cons_append, List.nil_append, Rd.mv, List.length_cons]
      congr 3
      omega

end Go.Abs

/-! Ps3 -/

namespace Go.Abs
set_option linter.unusedSimpArgs false
set_option linter.unusedVariables false

mutual
/-- Without its ids. -/
def Sm.z : Sm → Sm
  | ⟨_, kind, labels, name, proc, x, has, args, thn, els⟩ => ⟨0, kind, labels, name, proc, x, has, args, Sm.zs thn, Sm.zs els⟩
def Sm.zs : List Sm → List Sm
  | [] => []
  | s :: l => s.z :: Sm.zs l
end
theorem z_eq (s : Sm) : s.z = ⟨0, s.kind, s.labels, s.name, s.proc, s.x, s.has, s.args, Sm.zs s.thn, Sm.zs s.els⟩ := by cases s; simp only [Sm.z]

structure OneF (s : Sm) : Prop where
  lab : mayNames s.labels = true
  x : s.hasX = true → s.x.may = true
  x0 : s.hasX = false → s.x = ex0
  has : s.has = true → s.kind = 9
  nm : s.hasName = true → isName s.name = true
  nm0 : s.hasName = false → s.name = [] ∨ (s.isCall = true ∧ isName s.name = true)
  proc : s.isCall = true → isName s.proc = true
  call : s.isCall = false → s.proc = [] ∧ s.args = []
  args : Ar.mays s.args = true
  thn : s.thn = [] ∨ s.kind = 5 ∨ s.kind = 6
  els : s.els = [] ∨ s.kind = 5
  kind : 1 ≤ s.kind ∧ s.kind ≤ 10

theorem none_ex0 {x : Ex} (h : x.none = true) : x = ex0 := by
  obtain ⟨op, n, name, kids⟩ := x
  simp only [Ex.none, Bool.and_eq_true, beq_iff_eq] at h
  obtain ⟨⟨⟨rfl, rfl⟩, rfl⟩, h⟩ := h
  have : kids = [] := List.eq_nil_of_length_eq_zero (by omega)
  subst this; rfl
theorem one_facts {s : Sm} (h : s.one = true) : OneF s := by
  unfold Sm.one at h
  split at h
  · cases h
  rename_i c1
  split at h
  · cases h
  rename_i c2
  split at h
  · cases h
  rename_i c3
  split at h
  · cases h
  rename_i c4
  simp only [Bool.or_eq_true, Bool.and_eq_true, decide_eq_true_eq, Bool.not_eq_true', not_or, Bool.not_eq_false, not_and, Bool.not_eq_true, beq_iff_eq] at c1 c2 c3 c4 h
  refine ⟨c1.1.1.1.2, c1.1.1.2, fun k => none_ex0 (c1.1.2 k), fun k => ?_, c2.1, fun k => ?_, c3.1.2, fun k => ⟨?_, ?_⟩, c4, ?_, ?_, by omega⟩
  · have := c1.2 k; simpa using this
  · by_cases e : s.name = []
    · exact .inl e
    · exact .inr (c2.2 ⟨k, by simpa using e⟩)
  · have := c3.1.1; rw [k] at this; simpa using this
  · have := c3.2 k
    exact List.eq_nil_of_length_eq_zero (by omega)
  · rcases h.1 with (h | h) | h
    · exact .inl (List.eq_nil_of_length_eq_zero (by omega))
    · exact .inr (.inl h)
    · exact .inr (.inr h)
  · rcases h.2 with h | h
    · exact .inl (List.eq_nil_of_length_eq_zero (by omega))
    · exact .inr h
theorem arZ_may {a : Ar} (h : a.may = true) : arZ a = a := by
  obtain ⟨rf, nm, x⟩ := a
  unfold Ar.may at h
  unfold arZ
  dsimp only at h ⊢
  split at h
  · rename_i hr
    simp only [Bool.and_eq_true] at h
    rw [if_pos hr, none_ex0 h.2, hr]
  · rename_i hr
    simp only [Bool.and_eq_true, beq_iff_eq] at h
    rw [if_neg hr, h.1]
    simp at hr
    rw [hr]
theorem arZs_may {l : List Ar} (h : Ar.mays l = true) : l.map arZ = l := by
  induction l with
  | nil => rfl
  | cons a l ih =>
    simp only [Ar.mays] at h
    split at h
    · cases h
    · rename_i hc
      rw [List.map_cons, ih h, arZ_may (by simpa using hc)]

/-- The text of a statement behind its labels. -/
def bodyS (inn : Nat) (s : Sm) : Str := lineT s ++ ([10] ++ (if s.kind = 5 ∨ s.kind = 6 then
    rowsS (inn + 1) s.thn ++ ((if s.kind = 5 ∧ s.els.length ≠ 0 then List.replicate inn 32 ++ [125, 32, 101, 108, 115, 101, 32, 123, 10] ++ rowsS (inn + 1) s.els else []) ++ (List.replicate inn 32 ++ [125, 10])) else []))
theorem rowS_body (inn : Nat) (s : Sm) : rowS inn s = List.replicate inn 32 ++ (marksS s.labels ++ bodyS inn s) := by
  rw [rowS_line]; unfold bodyS
  simp only [List.append_assoc]

theorem At.n {r : Rd} {l : List Tok} (h : At r l) (k : Nat) : At ({ r with n := k } : Rd) l := ⟨h.d, h.c, h.s⟩
/-- Nothing else comes. -/
def NoW (w : Str) (l : List Tok) : Prop := ∃ t l', l = t :: l' ∧ Kd t ∧ ((t.kind ≠ 3 ∧ t.kind ≠ 4) ∨ t.text ≠ w)
abbrev NoElse (l : List Tok) : Prop := NoW [101, 108, 115, 101] l
/-- It is read from so many statements on, to so many. -/
def StmtAs (nest : Int) (n0 n1 : Nat) (s : Sm) (l : List Tok) : Prop := ∀ (r : Rd) (lr : List Tok) (m n : Nat), At r (l ++ lr) → NoElse lr → r.n = n0 → 3 * l.length < m → l.length ≤ n →
  Rd.stmt m n nest r = some ({ s.z with labels := [] }, { r.mv l.length with n := n1 })

theorem st_step {r : Rd} {t : Tok} {lr : List Tok} {m n : Nat} {nest : Int} {n0 : Nat} (hA : At r (t :: lr)) (hk : Kd t) (hn : r.n = n0) (h200 : n0 + 1 ≤ 200) (h12 : nest ≤ 12)
    (hb : (if t.kind == 1 then true else if t.kind != 3 then false
    else t.text == [105, 102] || t.text == [119, 104, 105, 108, 101] || t.text == [98, 114, 101, 97, 107] || t.text == [99, 111, 110, 116, 105, 110, 117, 101] || t.text == [114, 101, 116, 117, 114, 110] || t.text == [103, 111, 116, 111] || t.text == [114, 101, 97, 100] || t.text == [112, 114, 105, 110, 116]) = true) :
    Rd.stmt m (n + 1) nest r = (if t.kind == 1 then Rd.named m { r with n := n0 + 1 }
        else if t.text == [105, 102] then Rd.choice m n nest { r with n := n0 + 1, i := r.i + 1 }
        else if t.text == [119, 104, 105, 108, 101] then (Rd.head m { r with n := n0 + 1, i := r.i + 1 }).bind fun x => (Rd.block m n nest x.2).bind fun b => some (⟨0, 6, [], [], [], x.1, false, [], b.1, []⟩, b.2)
        else (Rd.plain m t.text { r with n := n0 + 1, i := r.i + 1 }).bind fun s => (s.2.want [59]).bind fun r => some (s.1, r)) := by
  rw [Rd.stmt]
  unfold Rd.begins
  rw [hA.peek hk, Option.bind_some, hb, Option.bind_some]
  simp only [Bool.not_true, Bool.false_eq_true, ↓reduceIte]
  have hi : inc r.n = some (n0 + 1) := by unfold inc; rw [hn, if_pos (by omega)]
  rw [hi, Option.bind_some, if_neg (by simp only [Bool.or_eq_true, decide_eq_true_eq]; omega), (hA.n (n0 + 1)).peek hk, Option.bind_some]

/-- A word that begins a statement. -/
theorem st_word {r : Rd} {t : Tok} {lr : List Tok} {m n : Nat} {nest : Int} {n0 : Nat} {w : Str} (hA : At r (t :: lr)) (hk : t.kind = 3) (ht : t.text = w) (hn : r.n = n0) (h200 : n0 + 1 ≤ 200) (h12 : nest ≤ 12)
    (hb : (w == [98, 114, 101, 97, 107] || w == [99, 111, 110, 116, 105, 110, 117, 101] || w == [114, 101, 116, 117, 114, 110] || w == [103, 111, 116, 111] || w == [114, 101, 97, 100] || w == [112, 114, 105, 110, 116]) = true) :
    Rd.stmt m (n + 1) nest r = (Rd.plain m w { r.mv 1 with n := n0 + 1 }).bind fun s => (s.2.want [59]).bind fun r => some (s.1, r) := by
  have k1 : (t.kind == 1) = false := by simp [hk]
  have k3 : (t.kind != 3) = false := by simp [hk]
  have hw : w ≠ [105, 102] ∧ w ≠ [119, 104, 105, 108, 101] := by
    simp only [Bool.or_eq_true, beq_iff_eq] at hb
    rcases hb with ((((rfl | rfl) | rfl) | rfl) | rfl) | rfl <;> exact ⟨by decide, by decide⟩
  rw [st_step hA (Kd.of hk) hn h200 h12 (by rw [k1, k3, ht]; simp only [Bool.false_eq_true, ↓reduceIte]; simp only [Bool.or_eq_true] at hb ⊢; rcases hb with ((((h | h) | h) | h) | h) | h <;> simp [h]), k1, ht]
  simp only [Bool.false_eq_true, ↓reduceIte, beq_iff_eq, hw.1, hw.2]
  rfl

theorem mayG_nil (nest : Int) (n : Nat) : Sm.mayG nest n [] = (true, n) := by simp [Sm.mayG, gate, Sm.mayL]
theorem mayR_simple {nest : Int} {n0 : Nat} {s : Sm} (h : (Sm.mayR nest n0 s).1 = true) (ht : s.thn = []) (he : s.els = []) : (Sm.mayR nest n0 s).2 = n0 + 1 := by
  obtain ⟨_, _, _, _, _, h6⟩ := mayR_true h
  rw [h6, ht, he, mayG_nil, mayG_nil]

/-! ### One by one -/

theorem read_assign {nest : Int} {n0 : Nat} (h200 : n0 + 1 ≤ 200) (h12 : nest ≤ 12) {x : Ex} {t e q : Tok} {lx : List Tok} (ht : t.kind = 1) (he : e.kind = 4) (he2 : e.text = [61]) (hx : WholeAs x lx) (hc : NoCall lx) (hq : q.kind = 4) (hq2 : q.text = [59]) :
    ∀ (r : Rd) (lr : List Tok) (m n : Nat), At r (t :: e :: (lx ++ q :: lr)) → r.n = n0 → 3 * lx.length < m → 0 < n → Rd.stmt m n nest r = some (⟨0, 1, [], t.text, [], x, false, [], [], []⟩, { r.mv (lx.length + 3) with n := n0 + 1 }) := by
  intro r lr m n hA hn hm h0
  cases n with
  | zero => omega
  | succ n =>
    have k1 : (t.kind == 1) = true := by simp [ht]
    rw [st_step hA (kd1 ht) hn h200 h12 (by rw [k1]; rfl), if_pos k1]
    have hA := hA.n (n0 + 1)
    have hA1 := hA.one
    have hA2 := hA1.one
    unfold Rd.named
    rw [hA.name ht, Option.bind_some, hA1.is (kd4 he), Option.bind_some]
    have b0 : ((e.kind == 3 || e.kind == 4) && e.text == [40]) = false := by rw [he2]; simp
    dsimp only
    rw [b0]
    simp only [Bool.false_eq_true, ↓reduceIte]
    rw [hA1.want (.inr he) he2, Option.bind_some]
    have hno : ((({ r with n := n0 + 1 } : Rd).mv 1).mv 1).ahead [40] = some false := by
      refine hA2.ahead_no ?_
      rcases hc with ⟨a, l', rfl, h⟩ | ⟨a, rfl, h⟩ | ⟨a, u, l', rfl, h, h2⟩
      · exact ⟨a, _, rfl, by rcases h with h | h; exact Kd.of h; exact Kd.of h.1, .inl (by rcases h with h | h; omega; omega)⟩
      · exact ⟨a, _, rfl, kd1 h, .inr ⟨q, lr, rfl, .inr (by rw [hq2]; decide)⟩⟩
      · refine ⟨a, _, rfl, kd1 h, .inr ⟨u, _, rfl, .inr ?_⟩⟩
        intro hu
        by_cases hk : u.kind = 4
        · have : opOf u = (0, 0) := by simp (decide := true) [opOf, hk, hu]
          rw [this] at h2; simp at h2
        · have : opOf u = (0, 0) := by simp [opOf, hk]
          rw [this] at h2; simp at h2
    rw [hno, Option.bind_some]
    simp only [Bool.false_eq_true, ↓reduceIte]
    rw [hx _ (q :: lr) m hA2 (ends_sign hq hq2 (by decide)) hm, Option.bind_some]
    dsimp only
    rw [hA2.app.want (.inr hq) hq2, Option.bind_some]
    simp only [Rd.mv]
    congr 3
    omega

theorem args_first {xs : List Ar} {l : List Tok} (h : SepG GArg xs l) : ∃ t l', l = t :: l' ∧ Kd t ∧ ((t.kind ≠ 3 ∧ t.kind ≠ 4) ∨ t.text ≠ [41]) := by
  have one : ∀ (x : Ar) (l : List Tok), GArg x l → ∃ t l', l = t :: l' ∧ Kd t ∧ ((t.kind ≠ 3 ∧ t.kind ≠ 4) ∨ t.text ≠ [41]) := by
    intro x l hx
    unfold GArg at hx
    split at hx
    · obtain ⟨w, k, rfl, w1, w2, _⟩ := hx
      exact ⟨w, [k], rfl, Kd.of w1, .inr (by rw [w2]; decide)⟩
    · obtain ⟨t, l', e, hk, hs⟩ := hx.2.1.first
      exact ⟨t, l', e, hk, hs _ (by decide)⟩
  cases h with
  | one x l hx => exact one x l hx
  | cons x l c hc xs m hx k =>
    obtain ⟨t, l', rfl, h⟩ := one x l hx
    exact ⟨t, _, rfl, h⟩
theorem argT_len {xs : List Ar} {l : List Tok} (h : SepG GArg xs l) : xs.length ≤ l.length := by
  have one : ∀ (x : Ar) (l : List Tok), GArg x l → 0 < l.length := by
    intro x l hx
    obtain ⟨t, l', rfl, _⟩ := args_first (SepG.one x l hx)
    simp
  induction h with
  | one x l hx => have := one x l hx; simp only [List.length_cons, List.length_nil]; omega
  | cons x l c hc xs m hx k ih => simp only [List.length_cons, List.length_append]; omega

theorem read_call {nm pr : Str} {args : List Ar} {p q c : Tok} {la : List Tok} (hp : p.kind = 4) (hp2 : p.text = [40]) (ha : (args = [] ∧ la = []) ∨ SepG GArg args la) (hz : args.map arZ = args) (hq : q.kind = 4) (hq2 : q.text = [41]) (hc : c.kind = 4) (hc2 : c.text = [59]) (hal : args.length ≤ 1000000) :
    ∀ (r : Rd) (lr : List Tok) (m : Nat), At r (p :: (la ++ q :: c :: lr)) → 3 * la.length < m → Rd.call m nm pr r = some (⟨0, 4, [], nm, pr, ex0, false, args, [], []⟩, r.mv (la.length + 3)) := by
  intro r lr m hA hm
  unfold Rd.call
  rw [hA.want (.inr hp) hp2, Option.bind_some]
  have hA1 := hA.one
  rcases ha with ⟨rfl, rfl⟩ | ha
  · have hA1 : At (r.mv 1) (q :: c :: lr) := hA1
    unfold Rd.other
    rw [if_pos hA1.good, hA1.is (kd4 hq), Option.bind_some, Option.bind_some]
    have b0 : ((q.kind == 3 || q.kind == 4) && q.text == [41]) = true := by simp [hq, hq2]
    rw [b0]
    simp only [Bool.not_true, Bool.false_eq_true, ↓reduceIte]
    rw [hA1.want (.inr hq) hq2, Option.bind_some, hA1.one.want (.inr hc) hc2, Option.bind_some]
    rfl
  · have hlen := argT_len ha
    obtain ⟨t, l', e, hk, hne⟩ := args_first ha
    have hA1' : At (r.mv 1) (t :: (l' ++ q :: c :: lr)) := by rw [e] at hA1; exact hA1
    unfold Rd.other
    rw [if_pos hA1'.good, hA1'.is hk, Option.bind_some, Option.bind_some]
    have b0 : ((t.kind == 3 || t.kind == 4) && t.text == [41]) = false := by
      rcases hne with ⟨h1, h2⟩ | h
      · simp [h1, h2]
      · simp [h]
    rw [b0]
    simp only [Bool.not_false, ↓reduceIte]
    rw [args_as ha _ q (c :: lr) [] m m hA1 hq hq2 (by simpa using hal) (by omega) hm, Option.bind_some]
    dsimp only
    rw [hA1.app.want (.inr hq) hq2, Option.bind_some, hA1.app.one.want (.inr hc) hc2, Option.bind_some, hz]
    simp only [List.nil_append, mv_mv]
    congr 3
    omega

theorem read_calls {nest : Int} {n0 : Nat} (h200 : n0 + 1 ≤ 200) (h12 : nest ≤ 12) {args : List Ar} {t p q c : Tok} {la : List Tok} (ht : t.kind = 1) (hp : p.kind = 4) (hp2 : p.text = [40]) (ha : (args = [] ∧ la = []) ∨ SepG GArg args la) (hz : args.map arZ = args) (hq : q.kind = 4) (hq2 : q.text = [41]) (hc : c.kind = 4) (hc2 : c.text = [59]) (hal : args.length ≤ 1000000) :
    ∀ (r : Rd) (lr : List Tok) (m n : Nat), At r (t :: p :: (la ++ q :: c :: lr)) → r.n = n0 → 3 * la.length < m → 0 < n → Rd.stmt m n nest r = some (⟨0, 4, [], [], t.text, ex0, false, args, [], []⟩, { r.mv (la.length + 4) with n := n0 + 1 }) := by
  intro r lr m n hA hn hm h0
  cases n with
  | zero => omega
  | succ n =>
    have k1 : (t.kind == 1) = true := by simp [ht]
    rw [st_step hA (kd1 ht) hn h200 h12 (by rw [k1]; rfl), if_pos k1]
    have hA := hA.n (n0 + 1)
    have hA1 := hA.one
    unfold Rd.named
    rw [hA.name ht, Option.bind_some]
    dsimp only
    rw [hA1.is (kd4 hp), Option.bind_some]
    have b0 : ((p.kind == 3 || p.kind == 4) && p.text == [40]) = true := by simp [hp, hp2]
    rw [if_pos b0, read_call hp hp2 ha hz hq hq2 hc hc2 hal _ lr m hA1 hm]
    simp only [Rd.mv]
    congr 3
    omega
theorem read_callto {nest : Int} {n0 : Nat} (h200 : n0 + 1 ≤ 200) (h12 : nest ≤ 12) {args : List Ar} {s e t p q c : Tok} {la : List Tok} (hs : s.kind = 1) (he : e.kind = 4) (he2 : e.text = [61]) (ht : t.kind = 1) (hp : p.kind = 4) (hp2 : p.text = [40]) (ha : (args = [] ∧ la = []) ∨ SepG GArg args la) (hz : args.map arZ = args) (hq : q.kind = 4) (hq2 : q.text = [41]) (hc : c.kind = 4) (hc2 : c.text = [59]) (hal : args.length ≤ 1000000) :
    ∀ (r : Rd) (lr : List Tok) (m n : Nat), At r (s :: e :: t :: p :: (la ++ q :: c :: lr)) → r.n = n0 → 3 * la.length < m → 0 < n → Rd.stmt m n nest r = some (⟨0, 4, [], s.text, t.text, ex0, false, args, [], []⟩, { r.mv (la.length + 6) with n := n0 + 1 }) := by
  intro r lr m n hA hn hm h0
  cases n with
  | zero => omega
  | succ n =>
    have k1 : (s.kind == 1) = true := by simp [hs]
    rw [st_step hA (kd1 hs) hn h200 h12 (by rw [k1]; rfl), if_pos k1]
    have hA := hA.n (n0 + 1)
    have hA1 := hA.one
    have hA2 := hA1.one
    unfold Rd.named
    rw [hA.name hs, Option.bind_some]
    dsimp only
    rw [hA1.is (kd4 he), Option.bind_some]
    have b0 : ((e.kind == 3 || e.kind == 4) && e.text == [40]) = false := by rw [he2]; simp
    rw [if_neg (by rw [b0]; simp), hA1.want (.inr he) he2, Option.bind_some, hA2.ahead_yes ht hp hp2, Option.bind_some]
    simp only [↓reduceIte]
    rw [hA2.name ht, Option.bind_some]
    dsimp only
    rw [read_call hp hp2 ha hz hq hq2 hc hc2 hal _ lr m hA2.one hm]
    simp only [Rd.mv]
    congr 3
    omega

/-- A word and a semicolon. -/
theorem read_word {nest : Int} {n0 : Nat} (h200 : n0 + 1 ≤ 200) (h12 : nest ≤ 12) {w q : Tok} (hw : w.kind = 3) {k : Int} (hk : (k = 7 ∧ w.text = [98, 114, 101, 97, 107]) ∨ (k = 8 ∧ w.text = [99, 111, 110, 116, 105, 110, 117, 101]) ∨ (k = 9 ∧ w.text = [114, 101, 116, 117, 114, 110])) (hq : q.kind = 4) (hq2 : q.text = [59]) :
    ∀ (r : Rd) (lr : List Tok) (m n : Nat), At r (w :: q :: lr) → r.n = n0 → 0 < n → Rd.stmt m n nest r = some (⟨0, k, [], [], [], ex0, false, [], [], []⟩, { r.mv 2 with n := n0 + 1 }) := by
  intro r lr m n hA hn h0
  cases n with
  | zero => omega
  | succ n =>
    have hA1 : At ({ r.mv 1 with n := n0 + 1 } : Rd) (q :: lr) := hA.one.n (n0 + 1)
    rcases hk with ⟨rfl, h⟩ | ⟨rfl, h⟩ | ⟨rfl, h⟩
    · rw [st_word hA hw h hn h200 h12 (by decide)]
      unfold Rd.plain
      simp only [beq_self_eq_true, ↓reduceIte, Option.bind_some]
      rw [hA1.want (.inr hq) hq2]; rfl
    · rw [st_word hA hw h hn h200 h12 (by decide)]
      unfold Rd.plain
      rw [if_neg (by decide), if_pos (by decide), Option.bind_some]
      dsimp only
      rw [hA1.want (.inr hq) hq2]; rfl
    · rw [st_word hA hw h hn h200 h12 (by decide)]
      unfold Rd.plain
      rw [if_neg (by decide), if_neg (by decide), if_pos (by decide), hA1.is (kd4 hq), Option.bind_some]
      have b0 : ((q.kind == 3 || q.kind == 4) && q.text == [59]) = true := by simp [hq, hq2]
      rw [b0]
      simp only [Bool.not_true, Bool.false_eq_true, ↓reduceIte, Option.bind_some]
      rw [hA1.want (.inr hq) hq2]; rfl
/-- A word, a name, a semicolon. -/
theorem read_wname {nest : Int} {n0 : Nat} (h200 : n0 + 1 ≤ 200) (h12 : nest ≤ 12) {w t q : Tok} (hw : w.kind = 3) {k : Int} (hk : (k = 10 ∧ w.text = [103, 111, 116, 111]) ∨ (k = 2 ∧ w.text = [114, 101, 97, 100])) (ht : t.kind = 1) (hq : q.kind = 4) (hq2 : q.text = [59]) :
    ∀ (r : Rd) (lr : List Tok) (m n : Nat), At r (w :: t :: q :: lr) → r.n = n0 → 0 < n → Rd.stmt m n nest r = some (⟨0, k, [], t.text, [], ex0, false, [], [], []⟩, { r.mv 3 with n := n0 + 1 }) := by
  intro r lr m n hA hn h0
  cases n with
  | zero => omega
  | succ n =>
    have hA1 : At ({ r.mv 1 with n := n0 + 1 } : Rd) (t :: q :: lr) := hA.one.n (n0 + 1)
    rcases hk with ⟨rfl, h⟩ | ⟨rfl, h⟩
    · rw [st_word hA hw h hn h200 h12 (by decide)]
      unfold Rd.plain
      rw [if_neg (by decide), if_neg (by decide), if_neg (by decide), if_pos (by decide), hA1.name ht, Option.bind_some, Option.bind_some]
      dsimp only
      rw [hA1.one.want (.inr hq) hq2]; rfl
    · rw [st_word hA hw h hn h200 h12 (by decide)]
      unfold Rd.plain
      rw [if_neg (by decide), if_neg (by decide), if_neg (by decide), if_neg (by decide), if_pos (by decide), hA1.name ht, Option.bind_some, Option.bind_some]
      dsimp only
      rw [hA1.one.want (.inr hq) hq2]; rfl
/-- A word, an expression, a semicolon. -/
theorem read_wexpr {nest : Int} {n0 : Nat} (h200 : n0 + 1 ≤ 200) (h12 : nest ≤ 12) {w q : Tok} {x : Ex} {lx : List Tok} (hw : w.kind = 3) {k : Int} {b : Bool} (hk : (k = 3 ∧ b = false ∧ w.text = [112, 114, 105, 110, 116]) ∨ (k = 9 ∧ b = true ∧ w.text = [114, 101, 116, 117, 114, 110])) (hx : WholeAs x lx) (hc : NoCall lx) (hq : q.kind = 4) (hq2 : q.text = [59]) :
    ∀ (r : Rd) (lr : List Tok) (m n : Nat), At r (w :: (lx ++ q :: lr)) → r.n = n0 → 3 * lx.length < m → 0 < n → Rd.stmt m n nest r = some (⟨0, k, [], [], [], x, b, [], [], []⟩, { r.mv (lx.length + 2) with n := n0 + 1 }) := by
  intro r lr m n hA hn hm h0
  cases n with
  | zero => omega
  | succ n =>
    have hA1 : At ({ r.mv 1 with n := n0 + 1 } : Rd) (lx ++ q :: lr) := hA.one.n (n0 + 1)
    have fin : ∀ r' : Rd, r' = ({ r.mv 1 with n := n0 + 1 } : Rd).mv lx.length → r'.want [59] = some { r.mv (lx.length + 2) with n := n0 + 1 } := by
      intro r' e
      rw [e, hA1.app.want (.inr hq) hq2]
      simp only [Rd.mv]
      congr 2
      omega
    rcases hk with ⟨rfl, rfl, h⟩ | ⟨rfl, rfl, h⟩
    · rw [st_word hA hw h hn h200 h12 (by decide)]
      unfold Rd.plain
      rw [if_neg (by decide), if_neg (by decide), if_neg (by decide), if_neg (by decide), if_neg (by decide), if_pos (by decide), hx _ (q :: lr) m hA1 (ends_sign hq hq2 (by decide)) hm, Option.bind_some, Option.bind_some]
      dsimp only
      rw [fin _ rfl]; rfl
    · rw [st_word hA hw h hn h200 h12 (by decide)]
      unfold Rd.plain
      obtain ⟨t, l', e, hk, hs⟩ := hc.first
      have hA1' : At ({ r.mv 1 with n := n0 + 1 } : Rd) (t :: (l' ++ q :: lr)) := by rw [e] at hA1; exact hA1
      have b0 : ((t.kind == 3 || t.kind == 4) && t.text == [59]) = false := by
        rcases hs [59] (by decide) with ⟨h1, h2⟩ | h
        · simp [h1, h2]
        · simp [h]
      rw [if_neg (by decide), if_neg (by decide), if_pos (by decide), hA1'.is hk, Option.bind_some, b0]
      simp only [Bool.not_false, ↓reduceIte]
      rw [hx _ (q :: lr) m hA1 (ends_sign hq hq2 (by decide)) hm, Option.bind_some, Option.bind_some]
      dsimp only
      rw [fin _ rfl]; rfl

end Go.Abs
