/-
  What is proved here: the statement ParseMoreSaid: whatever the arguments, the law, called, gives true, and of what was there nothing turns.
  No conditions.
-/
import Derived.Test.YtecpopiacpckiaaPxN3
import Derived.KernelRfl
import Derived.RowKit3
import Derived.WalkKit
import Derived.ProofKit
import Derived.OpenShut
import Derived.ShutString
import Derived.ChangeMaps5
import Derived.ChangeStays
import Derived.Test.YtecpopiacpckiaaRows

/-! RefMay3 -/

namespace Go.Abs

set_option maxRecDepth 8000
set_option linter.unusedSimpArgs false
set_option linter.unusedVariables false
open Go.Proofs

def encIt (i : It) : List D := [.int .i64 i.s.id, .int .i64 i.s.kind, .slice .shared 1 (i.s.labels.map encStr), .str i.s.name, .str i.s.proc,
      .int .i64 i.s.x.op, .int .i64 i.s.x.n, .str i.s.x.name, .slice .shared 4 (i.s.x.kids.map encEx), .bool i.s.has, .slice .shared 6 (i.s.args.map encAr), .slice .shared 13 (i.s.thn.map encSm), .slice .shared 13 (i.s.els.map encSm), .int .i64 i.deep, .int .i64 i.inn, .bool i.els]
theorem okIt (i : It) : D.oks 0 0 (encIt i) = true := by simp [encIt, D.oks, D.ok, Tag.ok, okrStr, okrEx, okrAr, okrSm]
theorem okrIt (l : List It) : D.okr 0 0 (l.map encIt) = true := okr_map okIt l
theorem fgrIt (n m : Nat) (l : List It) : D.fgr n m (l.map encIt) = l.map encIt := fgr_map okIt n m l
theorem fgsIt (n m : Nat) (i : It) : D.fgs n m (encIt i) = encIt i := fgs_ok n m _ (okIt i)
theorem lenIt (x : It) : (encIt x).length = 16 := nd rfl
theorem takeIt (x : It) : List.take 13 (encIt x) = encSm x.s := by simp only [encIt, encSm_eq]; rfl
theorem cellIt_0 (x : It) : (encIt x)[0]? = some (.int .i64 x.s.id) := nd rfl
theorem cellIt_13 (x : It) : (encIt x)[13]? = some (.int .i64 x.deep) := nd rfl
theorem mkIt (s : Sm) (d n : Int) (e : Bool) : encIt ⟨s, d, n, e⟩ = [.int .i64 s.id, .int .i64 s.kind, .slice .shared 1 (s.labels.map encStr), .str s.name, .str s.proc,
      .int .i64 s.x.op, .int .i64 s.x.n, .str s.x.name, .slice .shared 4 (s.x.kids.map encEx), .bool s.has, .slice .shared 6 (s.args.map encAr), .slice .shared 13 (s.thn.map encSm), .slice .shared 13 (s.els.map encSm), .int .i64 d, .int .i64 n, .bool e] := nd rfl
attribute [go_sem] fgrIt fgsIt lenIt takeIt cellIt_0 cellIt_13
theorem flatS_eq (deep inn : Int) (els : Bool) (out : List It) (s : Sm) :
    flatS deep inn els out s = if decide (deep ≤ 12) then flatL (deep + 1) s.id true (flatL (deep + 1) s.id false (out ++ [⟨s, deep, inn, els⟩]) s.thn) s.els else out ++ [⟨s, deep, inn, els⟩] := by
  cases s; simp only [flatS]

mutual
theorem flatS_len (deep inn : Int) (els : Bool) (out : List It) (h : out.length ≤ 200) : ∀ s : Sm, (flatS deep inn els out s).length ≤ 201
  | ⟨id, kind, labels, name, proc, x, has, args, thn, e⟩ => by
    simp only [flatS]
    have h1 : (out ++ [(⟨⟨id, kind, labels, name, proc, x, has, args, thn, e⟩, deep, inn, els⟩ : It)]).length ≤ 201 := by simp; omega
    split
    · exact flatL_len _ _ _ _ (flatL_len _ _ _ _ h1 thn) e
    · exact h1
theorem flatL_len (deep inn : Int) (els : Bool) (out : List It) (h : out.length ≤ 201) : ∀ l : List Sm, (flatL deep inn els out l).length ≤ 201
  | [] => by simpa only [flatL] using h
  | s :: l => by
    simp only [flatL]
    split
    · rename_i hc
      simp only [decide_eq_true_eq] at hc
      exact flatL_len deep inn els _ (flatS_len _ _ _ _ (by omega) s) l
    · exact h
end

abbrev C_flat (N : Nat) : Prop := ∀ (l : List Sm) (deep inn : Int) (els : Bool) (out : List It), Sm.sizes l < N → 0 ≤ deep → deep ≤ 13 → out.length ≤ 201 → ∀ {s : St} {t : Nat}, s.toks[t]? = some (some out.length) →
  Fun Try.prog n_ref3_flat [.slice .shared 13 (l.map encSm), .int .i64 deep, .int .i64 inn, .bool els, .slice (.tok t) 16 (out.map encIt)] s (.slice (.tok t) 16 ((flatL deep inn els out l).map encIt)) ⟨s.objs, s.toks.set t (some (flatL deep inn els out l).length)⟩

theorem flat_0 {N : Nat} (hN : N < 4611686018427387904) (ih : C_flat N) {l : List Sm} {deep inn : Int} {els : Bool} {out : List It} (hs : Sm.sizes l < N + 1) (hd0 : 0 ≤ deep) (hd : deep ≤ 13) (ho : out.length ≤ 201) :
    Fun Try.prog n_ref3_flat [.slice .shared 13 (l.map encSm), .int .i64 deep, .int .i64 inn, .bool els, .slice (.tok 0) 16 (out.map encIt)] ⟨[], [some out.length]⟩ (.slice (.tok 0) 16 ((flatL deep inn els out l).map encIt)) ⟨[], [some (flatL deep inn els out l).length]⟩ := by
  generalize hR : flatL deep inn els out l = R
  refine Fun.go has_ref3_flat rfl fun B Q hB hQ => ?_
  have hlt : 0 < 1 := Nat.zero_lt_one
  have hget : 0 < 1 := Nat.zero_lt_one
  have hpu : 0 < 1 := Nat.zero_lt_one
  have hinc : 0 < 1 := Nat.zero_lt_one
  repeat' (first
 | simp only [go_sem, hlt, hget, hpu, hinc, Int.reduceLE, ↓reduceIte, reduceCtorEq, Nat.reduceEqDiff, Nat.reduceLeDiff, Nat.reduceAdd, Nat.reduceMul, Nat.reduceSub, Nat.reduceLT]
 | (with_reducible first | refine CB_ofT (by assumption) fun hc => ?_ | refine CB_ofF (by assumption) fun hc => ?_ | refine CB_split (fun hc => ?_) fun hc => ?_) <;> (try simp only [hc, bs, ↓reduceIte] at h) <;> (try simp only [hc])
 | ((with_reducible first | refine leafR hQ ?_ | refine leafN hQ ?_); (try cases h); simp only [resL, oneD, Option.some.injEq, exists_eq_left', go_sem, hlt, hget, hpu, hinc, Int.reduceLE, ↓reduceIte, reduceCtorEq, Nat.reduceEqDiff, Nat.reduceLeDiff, Nat.reduceAdd, Nat.reduceMul, Nat.reduceSub, Nat.reduceLT]; repeat' (first | exact Ok.out | with_reducible refine And.intro ?_ ?_ | (simp; done)))
 | (cases h; replace h := hr; clear hr; (try simp only [bs, ↓reduceIte] at h))
 | (cases h; done))
  refine SemL.re _ _ 0 1 (by rw [hB]; exact Nat.le_of_ble_eq_true rfl) (by rw [hB]; exact Nat.le_of_ble_eq_true rfl) ?_ ?_ (SemL.ind (ι := List Sm × Nat × List It × Nat) (fun i => l.drop i.2.1 = i.1 ∧ flatL deep inn els i.2.2.1 i.1 = R ∧ i.2.2.1.length ≤ 201 ∧ i.2.2.2 = i.2.2.1.length) (fun i => i.1.length)
    (fun i => [(0, .slice .shared 13 (l.map encSm)), (1, .int .i64 deep), (2, .int .i64 inn), (3, .bool els), (4, .slice (.tok 0) 16 (i.2.2.1.map encIt)), (11, .int .i64 (i.2.1 : Int))]) (fun i => ⟨[], [some i.2.2.2]⟩) ?_ (l, 0, out, out.length) ⟨rfl, hR, ho, rfl⟩)
  · (simp only [go_sem, hlt, hget, hpu, hinc, Int.reduceLE, ↓reduceIte, reduceCtorEq, Nat.reduceEqDiff, Nat.reduceLeDiff, Nat.reduceAdd, Nat.reduceMul, Nat.reduceSub, Nat.reduceLT]; repeat' (first | exact Ok.out | with_reducible refine And.intro ?_ ?_))
  · (simp only [go_sem, hlt, hget, hpu, hinc, Int.reduceLE, ↓reduceIte, reduceCtorEq, Nat.reduceEqDiff, Nat.reduceLeDiff, Nat.reduceAdd, Nat.reduceMul, Nat.reduceSub, Nat.reduceLT]; repeat' (first | exact Ok.out | with_reducible refine And.intro ?_ ?_))
  rintro ⟨rest, k, out, n⟩ ⟨h1, h2, h3, h4⟩ IH
  dsimp only at h1 h2 h3 h4
  subst h4
  have hlen : l.length < 4611686018427387904 := by have := Sm.sizes_len l; omega
  cases rest with
  | nil =>
    have hlt := drop_nil h1
    simp only [flatL] at h2
    subst h2
    repeat' (first
 | simp only [go_sem, hlt, hget, hpu, hinc, Int.reduceLE, ↓reduceIte, reduceCtorEq, Nat.reduceEqDiff, Nat.reduceLeDiff, Nat.reduceAdd, Nat.reduceMul, Nat.reduceSub, Nat.reduceLT]
 | (with_reducible first | refine CB_ofT (by assumption) fun hc => ?_ | refine CB_ofF (by assumption) fun hc => ?_ | refine CB_split (fun hc => ?_) fun hc => ?_) <;> (try simp only [hc, bs, ↓reduceIte] at h) <;> (try simp only [hc])
 | ((with_reducible first | refine leafR hQ ?_ | refine leafN hQ ?_); (try cases h); simp only [resL, oneD, Option.some.injEq, exists_eq_left', go_sem, hlt, hget, hpu, hinc, Int.reduceLE, ↓reduceIte, reduceCtorEq, Nat.reduceEqDiff, Nat.reduceLeDiff, Nat.reduceAdd, Nat.reduceMul, Nat.reduceSub, Nat.reduceLT]; repeat' (first | exact Ok.out | with_reducible refine And.intro ?_ ?_ | (simp; done)))
 | (cases h; replace h := hr; clear hr; (try simp only [bs, ↓reduceIte] at h))
 | (cases h; done))
  | cons v rest =>
    obtain ⟨hget, g2, hlt, g4⟩ := drop_cons h1
    have hk2 : k < 4611686018427387904 := by omega
    have hv := Sm.sizes_mem (List.mem_of_getElem? hget)
    have hvs : Sm.sizes v.thn < N ∧ Sm.sizes v.els < N := by
      obtain ⟨_, _, _, _, _, _, _, _, _, _⟩ := v
      simp only [Sm.size] at hv ⊢; omega
    simp only [flatL] at h2
    by_cases hc : out.length ≤ 200
    · have c1 : decide ((out.length : Int) ≤ 200) = true := by simp; omega
      simp only [c1, ↓reduceIte, flatS_eq] at h2
      have hpu : (out.length + 1) * 233 ≤ maxStr := by unfold maxStr; omega
      have hl2 : (out ++ [(⟨v, deep, inn, els⟩ : It)]).length ≤ 201 := by simp; omega
      have hw : IntKind.wrap .i64 (deep + 1) = deep + 1 := wrap_ok (by omega) (by omega)
      by_cases hd12 : deep ≤ 12
      · have c2 : decide (deep ≤ 12) = true := by simp; omega
        simp only [c2, ↓reduceIte] at h2
        have f1 := fun {s : St} {t : Nat} (ht : s.toks[t]? = some (some (out ++ [(⟨v, deep, inn, els⟩ : It)]).length)) => ih v.thn (deep + 1) v.id false _ hvs.1 (by omega) (by omega) hl2 ht
        have f2 := fun {s : St} {t : Nat} (ht : s.toks[t]? = some (some (flatL (deep + 1) v.id false (out ++ [(⟨v, deep, inn, els⟩ : It)]) v.thn).length)) => ih v.els (deep + 1) v.id true _ hvs.2 (by omega) (by omega) (flatL_len _ _ _ _ hl2 _) ht
        simp only [List.map_append, List.map_cons, List.map_nil, mkIt, List.length_append, List.length_cons, List.length_nil] at f1
        repeat' (first
 | simp only [go_sem, hlt, hget, hpu, hinc, Int.reduceLE, ↓reduceIte, reduceCtorEq, Nat.reduceEqDiff, Nat.reduceLeDiff, Nat.reduceAdd, Nat.reduceMul, Nat.reduceSub, Nat.reduceLT, c1, c2, hw, encSm_eq]
 | (with_reducible refine CU (f1 (by with_unfolding_all rfl)) ?_)
 | (with_reducible refine CU (f2 (by with_unfolding_all rfl)) ?_)
 | (with_reducible first | refine CB_ofT (by assumption) fun hc => ?_ | refine CB_ofF (by assumption) fun hc => ?_ | refine CB_split (fun hc => ?_) fun hc => ?_) <;> (try simp only [hc, bs, ↓reduceIte] at h) <;> (try simp only [hc])
 | ((with_reducible first | refine leafR hQ ?_ | refine leafN hQ ?_); (try cases h); simp only [resL, oneD, Option.some.injEq, exists_eq_left', go_sem, hlt, hget, hpu, hinc, Int.reduceLE, ↓reduceIte, reduceCtorEq, Nat.reduceEqDiff, Nat.reduceLeDiff, Nat.reduceAdd, Nat.reduceMul, Nat.reduceSub, Nat.reduceLT, c1, c2, hw, encSm_eq]; repeat' (first | exact Ok.out | with_reducible refine And.intro ?_ ?_ | (simp; done)))
 | (cases h; replace h := hr; clear hr; (try simp only [bs, ↓reduceIte] at h))
 | (cases h; done))
        refine SemL.re _ _ 0 1 (by rw [hB]; exact Nat.le_of_ble_eq_true rfl) (by rw [hB]; exact Nat.le_of_ble_eq_true rfl) ?_ ?_ (IH (rest, k + 1, _, _) ⟨g2, h2, flatL_len _ _ _ _ (flatL_len _ _ _ _ hl2 _) _, rfl⟩ (Nat.lt_succ_self _))
        · (simp only [go_sem, hlt, hget, hpu, hinc, Int.reduceLE, ↓reduceIte, reduceCtorEq, Nat.reduceEqDiff, Nat.reduceLeDiff, Nat.reduceAdd, Nat.reduceMul, Nat.reduceSub, Nat.reduceLT, wrap_inc hk2]; repeat' (first | exact Ok.out | with_reducible refine And.intro ?_ ?_))
        · (simp only [go_sem, hlt, hget, hpu, hinc, Int.reduceLE, ↓reduceIte, reduceCtorEq, Nat.reduceEqDiff, Nat.reduceLeDiff, Nat.reduceAdd, Nat.reduceMul, Nat.reduceSub, Nat.reduceLT, wrap_inc hk2]; repeat' (first | exact Ok.out | with_reducible refine And.intro ?_ ?_))
      · have c2 : decide (deep ≤ 12) = false := by simp; omega
        simp only [c2, Bool.false_eq_true, ↓reduceIte] at h2
        repeat' (first
 | simp only [go_sem, hlt, hget, hpu, hinc, Int.reduceLE, ↓reduceIte, reduceCtorEq, Nat.reduceEqDiff, Nat.reduceLeDiff, Nat.reduceAdd, Nat.reduceMul, Nat.reduceSub, Nat.reduceLT, c1, c2, encSm_eq]
 | (with_reducible first | refine CB_ofT (by assumption) fun hc => ?_ | refine CB_ofF (by assumption) fun hc => ?_ | refine CB_split (fun hc => ?_) fun hc => ?_) <;> (try simp only [hc, bs, ↓reduceIte] at h) <;> (try simp only [hc])
 | ((with_reducible first | refine leafR hQ ?_ | refine leafN hQ ?_); (try cases h); simp only [resL, oneD, Option.some.injEq, exists_eq_left', go_sem, hlt, hget, hpu, hinc, Int.reduceLE, ↓reduceIte, reduceCtorEq, Nat.reduceEqDiff, Nat.reduceLeDiff, Nat.reduceAdd, Nat.reduceMul, Nat.reduceSub, Nat.reduceLT, c1, c2, encSm_eq]; repeat' (first | exact Ok.out | with_reducible refine And.intro ?_ ?_ | (simp; done)))
 | (cases h; replace h := hr; clear hr; (try simp only [bs, ↓reduceIte] at h))
 | (cases h; done))
        refine SemL.re _ _ 0 1 (by rw [hB]; exact Nat.le_of_ble_eq_true rfl) (by rw [hB]; exact Nat.le_of_ble_eq_true rfl) ?_ ?_ (IH (rest, k + 1, out ++ [⟨v, deep, inn, els⟩], out.length + 1) ⟨g2, h2, hl2, by simp⟩ (Nat.lt_succ_self _))
        · (simp only [go_sem, hlt, hget, hpu, hinc, Int.reduceLE, ↓reduceIte, reduceCtorEq, Nat.reduceEqDiff, Nat.reduceLeDiff, Nat.reduceAdd, Nat.reduceMul, Nat.reduceSub, Nat.reduceLT, wrap_inc hk2, mkIt, List.map_append, List.map_cons, List.map_nil]; repeat' (first | exact Ok.out | with_reducible refine And.intro ?_ ?_))
        · (simp only [go_sem, hlt, hget, hpu, hinc, Int.reduceLE, ↓reduceIte, reduceCtorEq, Nat.reduceEqDiff, Nat.reduceLeDiff, Nat.reduceAdd, Nat.reduceMul, Nat.reduceSub, Nat.reduceLT, wrap_inc hk2, mkIt, List.map_append, List.map_cons, List.map_nil]; repeat' (first | exact Ok.out | with_reducible refine And.intro ?_ ?_))
    · have c1 : decide ((out.length : Int) ≤ 200) = false := by simp; omega
      simp only [c1, Bool.false_eq_true, ↓reduceIte] at h2
      subst h2
      repeat' (first
 | simp only [go_sem, hlt, hget, hpu, hinc, Int.reduceLE, ↓reduceIte, reduceCtorEq, Nat.reduceEqDiff, Nat.reduceLeDiff, Nat.reduceAdd, Nat.reduceMul, Nat.reduceSub, Nat.reduceLT, c1]
 | (with_reducible first | refine CB_ofT (by assumption) fun hc => ?_ | refine CB_ofF (by assumption) fun hc => ?_ | refine CB_split (fun hc => ?_) fun hc => ?_) <;> (try simp only [hc, bs, ↓reduceIte] at h) <;> (try simp only [hc])
 | ((with_reducible first | refine leafR hQ ?_ | refine leafN hQ ?_); (try cases h); simp only [resL, oneD, Option.some.injEq, exists_eq_left', go_sem, hlt, hget, hpu, hinc, Int.reduceLE, ↓reduceIte, reduceCtorEq, Nat.reduceEqDiff, Nat.reduceLeDiff, Nat.reduceAdd, Nat.reduceMul, Nat.reduceSub, Nat.reduceLT, c1]; repeat' (first | exact Ok.out | with_reducible refine And.intro ?_ ?_ | (simp; done)))
 | (cases h; replace h := hr; clear hr; (try simp only [bs, ↓reduceIte] at h))
 | (cases h; done))

theorem flat_all : ∀ N, N < 4611686018427387904 → C_flat N := by
  intro N
  induction N with
  | zero => exact fun _ l deep inn els out h => absurd h (Nat.not_lt_zero _)
  | succ N ih =>
    intro h l deep inn els out hs hd0 hd ho s t ht
    exact (flat_0 (by omega) (ih (by omega)) hs hd0 hd ho).tokF (pre := [_, _, _, _]) (post := []) (by simp [D.oks, D.ok, Tag.ok, okrSm]) rfl (okrIt out) (okrIt _) ht

theorem flat_nil {l : List Sm} (hs : Sm.sizes l < 4611686018427387000) (s : St) :
    Fun Try.prog n_ref3_flat [.slice .shared 13 (l.map encSm), .int .i64 1, .int .i64 0, .bool false, .slice .full 0 []] s (.slice .shared 16 ((flatL 1 0 false [] l).map encIt)) s := by
  refine Fun.pure ?_ (by simp [D.oks, D.ok, Tag.ok, okrSm, D.okr]) (by simp [D.ok, Tag.ok, okrIt]) s
  obtain ⟨N, hN⟩ : ∃ N, N = Sm.sizes l := ⟨_, rfl⟩
  have ih := flat_all N (by omega)
  replace hs : Sm.sizes l < N + 1 ∧ N < 4611686018427387000 := by omega
  obtain ⟨hs, hN⟩ := hs
  generalize hR : flatL 1 0 false [] l = R
  obtain ⟨deep, hdeep⟩ : ∃ d : Int, d = 1 := ⟨_, rfl⟩
  obtain ⟨inn, hinn⟩ : ∃ d : Int, d = 0 := ⟨_, rfl⟩
  obtain ⟨els, hels⟩ : ∃ d : Bool, d = false := ⟨_, rfl⟩
  rw [← hdeep, ← hinn, ← hels] at hR
  rw [← hdeep, ← hinn, ← hels]
  have hd0 : 0 ≤ deep := by omega
  have hd : deep ≤ 13 := by omega
  clear hdeep hinn hels
  have ho : ([] : List It).length ≤ 201 := Nat.zero_le _
  unfold S0
  refine Fun.go has_ref3_flat rfl fun B Q hB hQ => ?_
  have hlt : 0 < 1 := Nat.zero_lt_one
  have hget : 0 < 1 := Nat.zero_lt_one
  have hpu : 0 < 1 := Nat.zero_lt_one
  have hinc : 0 < 1 := Nat.zero_lt_one
  repeat' (first
 | simp only [go_sem, hlt, hget, hpu, hinc, Int.reduceLE, ↓reduceIte, reduceCtorEq, Nat.reduceEqDiff, Nat.reduceLeDiff, Nat.reduceAdd, Nat.reduceMul, Nat.reduceSub, Nat.reduceLT]
 | (with_reducible first | refine CB_ofT (by assumption) fun hc => ?_ | refine CB_ofF (by assumption) fun hc => ?_ | refine CB_split (fun hc => ?_) fun hc => ?_) <;> (try simp only [hc, bs, ↓reduceIte] at h) <;> (try simp only [hc])
 | ((with_reducible first | refine leafR hQ ?_ | refine leafN hQ ?_); (try cases h); simp only [resL, oneD, Option.some.injEq, exists_eq_left', go_sem, hlt, hget, hpu, hinc, Int.reduceLE, ↓reduceIte, reduceCtorEq, Nat.reduceEqDiff, Nat.reduceLeDiff, Nat.reduceAdd, Nat.reduceMul, Nat.reduceSub, Nat.reduceLT]; repeat' (first | exact Ok.out | with_reducible refine And.intro ?_ ?_ | (simp; done)))
 | (cases h; replace h := hr; clear hr; (try simp only [bs, ↓reduceIte] at h))
 | (cases h; done))
  refine SemL.tokT 4 16 rfl ?_
  simp only [go_sem, hlt, hget, hpu, hinc, Int.reduceLE, ↓reduceIte, reduceCtorEq, Nat.reduceEqDiff, Nat.reduceLeDiff, Nat.reduceAdd, Nat.reduceMul, Nat.reduceSub, Nat.reduceLT]
  refine SemL.re _ _ 0 1 (by rw [hB]; exact Nat.le_of_ble_eq_true rfl) (by rw [hB]; exact Nat.le_of_ble_eq_true rfl) ?_ ?_ (SemL.ind (ι := List Sm × Nat × List It × Nat) (fun i => l.drop i.2.1 = i.1 ∧ flatL deep inn els i.2.2.1 i.1 = R ∧ i.2.2.1.length ≤ 201 ∧ i.2.2.2 = i.2.2.1.length) (fun i => i.1.length)
    (fun i => [(0, .slice .shared 13 (l.map encSm)), (1, .int .i64 deep), (2, .int .i64 inn), (3, .bool els), (4, .slice (.tok 0) 16 (i.2.2.1.map encIt)), (11, .int .i64 (i.2.1 : Int))]) (fun i => ⟨[], [some i.2.2.2]⟩) ?_ (l, 0, [], 0) ⟨rfl, hR, ho, rfl⟩)
  · (simp only [go_sem, hlt, hget, hpu, hinc, Int.reduceLE, ↓reduceIte, reduceCtorEq, Nat.reduceEqDiff, Nat.reduceLeDiff, Nat.reduceAdd, Nat.reduceMul, Nat.reduceSub, Nat.reduceLT]; repeat' (first | exact Ok.out | with_reducible refine And.intro ?_ ?_))
  · (simp only [go_sem, hlt, hget, hpu, hinc, Int.reduceLE, ↓reduceIte, reduceCtorEq, Nat.reduceEqDiff, Nat.reduceLeDiff, Nat.reduceAdd, Nat.reduceMul, Nat.reduceSub, Nat.reduceLT]; repeat' (first | exact Ok.out | with_reducible refine And.intro ?_ ?_))
  rintro ⟨rest, k, out, n⟩ ⟨h1, h2, h3, h4⟩ IH
  dsimp only at h1 h2 h3 h4
  subst h4
  have hlen : l.length < 4611686018427387904 := by have := Sm.sizes_len l; omega
  cases rest with
  | nil =>
    have hlt := drop_nil h1
    simp only [flatL] at h2
    subst h2
    repeat' (first
 | simp only [go_sem, hlt, hget, hpu, hinc, Int.reduceLE, ↓reduceIte, reduceCtorEq, Nat.reduceEqDiff, Nat.reduceLeDiff, Nat.reduceAdd, Nat.reduceMul, Nat.reduceSub, Nat.reduceLT]
 | (with_reducible first | refine CB_ofT (by assumption) fun hc => ?_ | refine CB_ofF (by assumption) fun hc => ?_ | refine CB_split (fun hc => ?_) fun hc => ?_) <;> (try simp only [hc, bs, ↓reduceIte] at h) <;> (try simp only [hc])
 | ((with_reducible first | refine leafR hQ ?_ | refine leafN hQ ?_); (try cases h); simp only [resL, oneD, Option.some.injEq, exists_eq_left', go_sem, hlt, hget, hpu, hinc, Int.reduceLE, ↓reduceIte, reduceCtorEq, Nat.reduceEqDiff, Nat.reduceLeDiff, Nat.reduceAdd, Nat.reduceMul, Nat.reduceSub, Nat.reduceLT]; repeat' (first | exact Ok.out | with_reducible refine And.intro ?_ ?_ | (simp; done)))
 | (cases h; replace h := hr; clear hr; (try simp only [bs, ↓reduceIte] at h))
 | (cases h; done))
  | cons v rest =>
    obtain ⟨hget, g2, hlt, g4⟩ := drop_cons h1
    have hk2 : k < 4611686018427387904 := by omega
    have hv := Sm.sizes_mem (List.mem_of_getElem? hget)
    have hvs : Sm.sizes v.thn < N ∧ Sm.sizes v.els < N := by
      obtain ⟨_, _, _, _, _, _, _, _, _, _⟩ := v
      simp only [Sm.size] at hv ⊢; omega
    simp only [flatL] at h2
    by_cases hc : out.length ≤ 200
    · have c1 : decide ((out.length : Int) ≤ 200) = true := by simp; omega
      simp only [c1, ↓reduceIte, flatS_eq] at h2
      have hpu : (out.length + 1) * 233 ≤ maxStr := by unfold maxStr; omega
      have hl2 : (out ++ [(⟨v, deep, inn, els⟩ : It)]).length ≤ 201 := by simp; omega
      have hw : IntKind.wrap .i64 (deep + 1) = deep + 1 := wrap_ok (by omega) (by omega)
      by_cases hd12 : deep ≤ 12
      · have c2 : decide (deep ≤ 12) = true := by simp; omega
        simp only [c2, ↓reduceIte] at h2
        have f1 := fun {s : St} {t : Nat} (ht : s.toks[t]? = some (some (out ++ [(⟨v, deep, inn, els⟩ : It)]).length)) => ih v.thn (deep + 1) v.id false _ hvs.1 (by omega) (by omega) hl2 ht
        have f2 := fun {s : St} {t : Nat} (ht : s.toks[t]? = some (some (flatL (deep + 1) v.id false (out ++ [(⟨v, deep, inn, els⟩ : It)]) v.thn).length)) => ih v.els (deep + 1) v.id true _ hvs.2 (by omega) (by omega) (flatL_len _ _ _ _ hl2 _) ht
        simp only [List.map_append, List.map_cons, List.map_nil, mkIt, List.length_append, List.length_cons, List.length_nil] at f1
        repeat' (first
 | simp only [go_sem, hlt, hget, hpu, hinc, Int.reduceLE, ↓reduceIte, reduceCtorEq, Nat.reduceEqDiff, Nat.reduceLeDiff, Nat.reduceAdd, Nat.reduceMul, Nat.reduceSub, Nat.reduceLT, c1, c2, hw, encSm_eq]
 | (with_reducible refine CU (f1 (by with_unfolding_all rfl)) ?_)
 | (with_reducible refine CU (f2 (by with_unfolding_all rfl)) ?_)
 | (with_reducible first | refine CB_ofT (by assumption) fun hc => ?_ | refine CB_ofF (by assumption) fun hc => ?_ | refine CB_split (fun hc => ?_) fun hc => ?_) <;> (try simp only [hc, bs, ↓reduceIte] at h) <;> (try simp only [hc])
 | ((with_reducible first | refine leafR hQ ?_ | refine leafN hQ ?_); (try cases h); simp only [resL, oneD, Option.some.injEq, exists_eq_left', go_sem, hlt, hget, hpu, hinc, Int.reduceLE, ↓reduceIte, reduceCtorEq, Nat.reduceEqDiff, Nat.reduceLeDiff, Nat.reduceAdd, Nat.reduceMul, Nat.reduceSub, Nat.reduceLT, c1, c2, hw, encSm_eq]; repeat' (first | exact Ok.out | with_reducible refine And.intro ?_ ?_ | (simp; done)))
 | (cases h; replace h := hr; clear hr; (try simp only [bs, ↓reduceIte] at h))
 | (cases h; done))
        refine SemL.re _ _ 0 1 (by rw [hB]; exact Nat.le_of_ble_eq_true rfl) (by rw [hB]; exact Nat.le_of_ble_eq_true rfl) ?_ ?_ (IH (rest, k + 1, _, _) ⟨g2, h2, flatL_len _ _ _ _ (flatL_len _ _ _ _ hl2 _) _, rfl⟩ (Nat.lt_succ_self _))
        · (simp only [go_sem, hlt, hget, hpu, hinc, Int.reduceLE, ↓reduceIte, reduceCtorEq, Nat.reduceEqDiff, Nat.reduceLeDiff, Nat.reduceAdd, Nat.reduceMul, Nat.reduceSub, Nat.reduceLT, wrap_inc hk2]; repeat' (first | exact Ok.out | with_reducible refine And.intro ?_ ?_))
        · (simp only [go_sem, hlt, hget, hpu, hinc, Int.reduceLE, ↓reduceIte, reduceCtorEq, Nat.reduceEqDiff, Nat.reduceLeDiff, Nat.reduceAdd, Nat.reduceMul, Nat.reduceSub, Nat.reduceLT, wrap_inc hk2]; repeat' (first | exact Ok.out | with_reducible refine And.intro ?_ ?_))
      · have c2 : decide (deep ≤ 12) = false := by simp; omega
        simp only [c2, Bool.false_eq_true, ↓reduceIte] at h2
        repeat' (first
 | simp only [go_sem, hlt, hget, hpu, hinc, Int.reduceLE, ↓reduceIte, reduceCtorEq, Nat.reduceEqDiff, Nat.reduceLeDiff, Nat.reduceAdd, Nat.reduceMul, Nat.reduceSub, Nat.reduceLT, c1, c2, encSm_eq]
 | (with_reducible first | refine CB_ofT (by assumption) fun hc => ?_ | refine CB_ofF (by assumption) fun hc => ?_ | refine CB_split (fun hc => ?_) fun hc => ?_) <;> (try simp only [hc, bs, ↓reduceIte] at h) <;> (try simp only [hc])
 | ((with_reducible first | refine leafR hQ ?_ | refine leafN hQ ?_); (try cases h); simp only [resL, oneD, Option.some.injEq, exists_eq_left', go_sem, hlt, hget, hpu, hinc, Int.reduceLE, ↓reduceIte, reduceCtorEq, Nat.reduceEqDiff, Nat.reduceLeDiff, Nat.reduceAdd, Nat.reduceMul, Nat.reduceSub, Nat.reduceLT, c1, c2, encSm_eq]; repeat' (first | exact Ok.out | with_reducible refine And.intro ?_ ?_ | (simp; done)))
 | (cases h; replace h := hr; clear hr; (try simp only [bs, ↓reduceIte] at h))
 | (cases h; done))
        refine SemL.re _ _ 0 1 (by rw [hB]; exact Nat.le_of_ble_eq_true rfl) (by rw [hB]; exact Nat.le_of_ble_eq_true rfl) ?_ ?_ (IH (rest, k + 1, out ++ [⟨v, deep, inn, els⟩], out.length + 1) ⟨g2, h2, hl2, by simp⟩ (Nat.lt_succ_self _))
        · (simp only [go_sem, hlt, hget, hpu, hinc, Int.reduceLE, ↓reduceIte, reduceCtorEq, Nat.reduceEqDiff, Nat.reduceLeDiff, Nat.reduceAdd, Nat.reduceMul, Nat.reduceSub, Nat.reduceLT, wrap_inc hk2, mkIt, List.map_append, List.map_cons, List.map_nil]; repeat' (first | exact Ok.out | with_reducible refine And.intro ?_ ?_))
        · (simp only [go_sem, hlt, hget, hpu, hinc, Int.reduceLE, ↓reduceIte, reduceCtorEq, Nat.reduceEqDiff, Nat.reduceLeDiff, Nat.reduceAdd, Nat.reduceMul, Nat.reduceSub, Nat.reduceLT, wrap_inc hk2, mkIt, List.map_append, List.map_cons, List.map_nil]; repeat' (first | exact Ok.out | with_reducible refine And.intro ?_ ?_))
    · have c1 : decide ((out.length : Int) ≤ 200) = false := by simp; omega
      simp only [c1, Bool.false_eq_true, ↓reduceIte] at h2
      subst h2
      repeat' (first
 | simp only [go_sem, hlt, hget, hpu, hinc, Int.reduceLE, ↓reduceIte, reduceCtorEq, Nat.reduceEqDiff, Nat.reduceLeDiff, Nat.reduceAdd, Nat.reduceMul, Nat.reduceSub, Nat.reduceLT, c1]
 | (with_reducible first | refine CB_ofT (by assumption) fun hc => ?_ | refine CB_ofF (by assumption) fun hc => ?_ | refine CB_split (fun hc => ?_) fun hc => ?_) <;> (try simp only [hc, bs, ↓reduceIte] at h) <;> (try simp only [hc])
 | ((with_reducible first | refine leafR hQ ?_ | refine leafN hQ ?_); (try cases h); simp only [resL, oneD, Option.some.injEq, exists_eq_left', go_sem, hlt, hget, hpu, hinc, Int.reduceLE, ↓reduceIte, reduceCtorEq, Nat.reduceEqDiff, Nat.reduceLeDiff, Nat.reduceAdd, Nat.reduceMul, Nat.reduceSub, Nat.reduceLT, c1]; repeat' (first | exact Ok.out | with_reducible refine And.intro ?_ ?_ | (simp; done)))
 | (cases h; replace h := hr; clear hr; (try simp only [bs, ↓reduceIte] at h))
 | (cases h; done))

theorem Flat_s {f : Pc} (hs : Sm.sizes f.body < 4611686018427387000) (s : St) : Fun Try.prog n_ref3_Flat [.agg (encPc f)] s (.slice .shared 16 (f.flat.map encIt)) s := by
  refine Fun.pure ?_ (by simp only [D.oks, D.ok, okPc]; rfl) (by simp [D.ok, Tag.ok, okrIt]) s
  have h := fun s => flat_nil hs s
  unfold S0
  refine Fun.go has_ref3_Flat rfl fun B Q hB hQ => ?_
  have hlt : 0 < 1 := Nat.zero_lt_one
  have hget : 0 < 1 := Nat.zero_lt_one
  have hpu : 0 < 1 := Nat.zero_lt_one
  have hinc : 0 < 1 := Nat.zero_lt_one
  repeat' (first
 | simp only [go_sem, hlt, hget, hpu, hinc, Int.reduceLE, ↓reduceIte, reduceCtorEq, Nat.reduceEqDiff, Nat.reduceLeDiff, Nat.reduceAdd, Nat.reduceMul, Nat.reduceSub, Nat.reduceLT, Pc.flat]
 | (with_reducible refine CU (h _) ?_)
 | (with_reducible first | refine CB_ofT (by assumption) fun hc => ?_ | refine CB_ofF (by assumption) fun hc => ?_ | refine CB_split (fun hc => ?_) fun hc => ?_) <;> (try simp only [hc, bs, ↓reduceIte] at h) <;> (try simp only [hc])
 | ((with_reducible first | refine leafR hQ ?_ | refine leafN hQ ?_); (try cases h); simp only [resL, oneD, Option.some.injEq, exists_eq_left', go_sem, hlt, hget, hpu, hinc, Int.reduceLE, ↓reduceIte, reduceCtorEq, Nat.reduceEqDiff, Nat.reduceLeDiff, Nat.reduceAdd, Nat.reduceMul, Nat.reduceSub, Nat.reduceLT, Pc.flat]; repeat' (first | exact Ok.out | with_reducible refine And.intro ?_ ?_ | (simp; done)))
 | (cases h; replace h := hr; clear hr; (try simp only [bs, ↓reduceIte] at h))
 | (cases h; done))

end Go.Abs

/-! RefMay4 -/

namespace Go.Abs

set_option maxRecDepth 8000
set_option linter.unusedSimpArgs false
set_option linter.unusedVariables false
open Go.Proofs

theorem Pc.flat_len (f : Pc) : f.flat.length ≤ 201 := flatL_len _ _ _ _ (Nat.zero_le _) _

theorem All_s {p : Pg} (hs : Pc.sizes p.procs < 4611686018427387000) (s : St) : Fun Try.prog n_ref3_All [.agg (encPg p)] s (.slice .shared 16 (p.all.map encIt)) s := by
  refine Fun.pure ?_ (by simp only [D.oks, D.ok, okPg]; rfl) (by simp [D.ok, Tag.ok, okrIt]) s
  have hlen : p.procs.length < 4611686018427387904 := by have := Pc.sizes_len p.procs; omega
  generalize hR : p.all = R
  unfold Pg.all at hR
  unfold S0
  refine Fun.go has_ref3_All rfl fun B Q hB hQ => ?_
  have hlt : 0 < 1 := Nat.zero_lt_one
  have hget : 0 < 1 := Nat.zero_lt_one
  have hpu : 0 < 1 := Nat.zero_lt_one
  have hinc : 0 < 1 := Nat.zero_lt_one
  repeat' (first
 | simp only [go_sem, hlt, hget, hpu, hinc, Int.reduceLE, ↓reduceIte, reduceCtorEq, Nat.reduceEqDiff, Nat.reduceLeDiff, Nat.reduceAdd, Nat.reduceMul, Nat.reduceSub, Nat.reduceLT]
 | (with_reducible first | refine CB_ofT (by assumption) fun hc => ?_ | refine CB_ofF (by assumption) fun hc => ?_ | refine CB_split (fun hc => ?_) fun hc => ?_) <;> (try simp only [hc, bs, ↓reduceIte] at h) <;> (try simp only [hc])
 | ((with_reducible first | refine leafR hQ ?_ | refine leafN hQ ?_); (try cases h); simp only [resL, oneD, Option.some.injEq, exists_eq_left', go_sem, hlt, hget, hpu, hinc, Int.reduceLE, ↓reduceIte, reduceCtorEq, Nat.reduceEqDiff, Nat.reduceLeDiff, Nat.reduceAdd, Nat.reduceMul, Nat.reduceSub, Nat.reduceLT]; repeat' (first | exact Ok.out | with_reducible refine And.intro ?_ ?_ | (simp; done)))
 | (cases h; replace h := hr; clear hr; (try simp only [bs, ↓reduceIte] at h))
 | (cases h; done))
  refine SemL.tokT 3 16 rfl ?_
  simp only [go_sem, hlt, hget, hpu, hinc, Int.reduceLE, ↓reduceIte, reduceCtorEq, Nat.reduceEqDiff, Nat.reduceLeDiff, Nat.reduceAdd, Nat.reduceMul, Nat.reduceSub, Nat.reduceLT]
  refine SemL.re _ _ 1 1 (by rw [hB]; exact Nat.le_of_ble_eq_true rfl) (by rw [hB]; exact Nat.le_of_ble_eq_true rfl) ?_ ?_ (SemL.ind (ι := List Pc × Nat × List It × Nat) (fun i => p.procs.drop i.2.1 = i.1 ∧ allM i.2.2.1 i.1 = R ∧ i.2.2.1.length ≤ 200 ∧ i.2.2.2 = i.2.2.1.length) (fun i => i.1.length)
    (fun i => [(1, .ptr 0 0), (3, .slice (.tok 0) 16 (i.2.2.1.map encIt)), (7, .slice .shared 5 (p.procs.map encPc)), (8, .int .i64 (p.procs.length : Int)), (9, .int .i64 (i.2.1 : Int))]) (fun i => ⟨[encPg p], [some i.2.2.2]⟩) ?_ (p.procs, 0, [], 0) ⟨rfl, hR, Nat.zero_le _, rfl⟩)
  · (simp only [go_sem, hlt, hget, hpu, hinc, Int.reduceLE, ↓reduceIte, reduceCtorEq, Nat.reduceEqDiff, Nat.reduceLeDiff, Nat.reduceAdd, Nat.reduceMul, Nat.reduceSub, Nat.reduceLT]; repeat' (first | exact Ok.out | with_reducible refine And.intro ?_ ?_))
  · (simp only [go_sem, hlt, hget, hpu, hinc, Int.reduceLE, ↓reduceIte, reduceCtorEq, Nat.reduceEqDiff, Nat.reduceLeDiff, Nat.reduceAdd, Nat.reduceMul, Nat.reduceSub, Nat.reduceLT]; repeat' (first | exact Ok.out | with_reducible refine And.intro ?_ ?_))
  rintro ⟨rest, k, out, n⟩ ⟨h1, h, h3, h4⟩ IH
  dsimp only at h1 h h3 h4
  subst h4
  cases rest with
  | nil =>
    have hlt := drop_nil h1
    simp only [allM] at h
    subst h
    repeat' (first
 | simp only [go_sem, hlt, hget, hpu, hinc, Int.reduceLE, ↓reduceIte, reduceCtorEq, Nat.reduceEqDiff, Nat.reduceLeDiff, Nat.reduceAdd, Nat.reduceMul, Nat.reduceSub, Nat.reduceLT]
 | (with_reducible first | refine CB_ofT (by assumption) fun hc => ?_ | refine CB_ofF (by assumption) fun hc => ?_ | refine CB_split (fun hc => ?_) fun hc => ?_) <;> (try simp only [hc, bs, ↓reduceIte] at h) <;> (try simp only [hc])
 | ((with_reducible first | refine leafR hQ ?_ | refine leafN hQ ?_); (try cases h); simp only [resL, oneD, Option.some.injEq, exists_eq_left', go_sem, hlt, hget, hpu, hinc, Int.reduceLE, ↓reduceIte, reduceCtorEq, Nat.reduceEqDiff, Nat.reduceLeDiff, Nat.reduceAdd, Nat.reduceMul, Nat.reduceSub, Nat.reduceLT]; repeat' (first | exact Ok.out | with_reducible refine And.intro ?_ ?_ | (simp; done)))
 | (cases h; replace h := hr; clear hr; (try simp only [bs, ↓reduceIte] at h))
 | (cases h; done))
  | cons f rest =>
    obtain ⟨hget, g2, hlt, g4⟩ := drop_cons h1
    have hk2 : k < 4611686018427387904 := by omega
    have hf := Pc.sizes_mem (List.mem_of_getElem? hget)
    have hb : Sm.sizes f.body < 4611686018427387000 := by simp only [Pc.size] at hf; omega
    have hfl := fun s => Flat_s hb s
    have h201 := f.flat_len
    have hpu : (out.length + f.flat.length) * 233 ≤ maxStr := by unfold maxStr; omega
    simp only [allM, List.length_append] at h
    have hap := fun (o : List (List D)) => app_tokN (size := 16) (bytes := 232) (t := 0) (rows := out.map encIt) (new := f.flat.map encIt) (g := .shared) (s := ⟨o, [some out.length]⟩) (by simpa using hpu) (by simp)
    repeat' (first
 | simp only [go_sem, hlt, hget, hpu, hinc, Int.reduceLE, ↓reduceIte, reduceCtorEq, Nat.reduceEqDiff, Nat.reduceLeDiff, Nat.reduceAdd, Nat.reduceMul, Nat.reduceSub, Nat.reduceLT, hap]
 | (with_reducible refine CU (hfl _) ?_)
 | (with_reducible first | refine CB_ofT (by assumption) fun hc => ?_ | refine CB_ofF (by assumption) fun hc => ?_ | refine CB_split (fun hc => ?_) fun hc => ?_) <;> (try simp only [hc, bs, ↓reduceIte] at h) <;> (try simp only [hc])
 | ((with_reducible first | refine leafR hQ ?_ | refine leafN hQ ?_); (try cases h); simp only [resL, oneD, Option.some.injEq, exists_eq_left', go_sem, hlt, hget, hpu, hinc, Int.reduceLE, ↓reduceIte, reduceCtorEq, Nat.reduceEqDiff, Nat.reduceLeDiff, Nat.reduceAdd, Nat.reduceMul, Nat.reduceSub, Nat.reduceLT, hap]; repeat' (first | exact Ok.out | with_reducible refine And.intro ?_ ?_ | (simp; done)))
 | (cases h; replace h := hr; clear hr; (try simp only [bs, ↓reduceIte] at h))
 | (cases h; done))
    refine SemL.re _ _ 1 1 (by rw [hB]; exact Nat.le_of_ble_eq_true rfl) (by rw [hB]; exact Nat.le_of_ble_eq_true rfl) ?_ ?_ (IH (rest, k + 1, out ++ f.flat, out.length + f.flat.length) ⟨g2, h, by rename_i hc; simp only [decide_eq_false_iff_not] at hc; simp only [List.length_append]; omega, by simp⟩ (Nat.lt_succ_self _))
    · (simp only [go_sem, hlt, hget, hpu, hinc, Int.reduceLE, ↓reduceIte, reduceCtorEq, Nat.reduceEqDiff, Nat.reduceLeDiff, Nat.reduceAdd, Nat.reduceMul, Nat.reduceSub, Nat.reduceLT, wrap_inc hk2]; repeat' (first | exact Ok.out | with_reducible refine And.intro ?_ ?_))
    · (simp only [go_sem, hlt, hget, hpu, hinc, Int.reduceLE, ↓reduceIte, reduceCtorEq, Nat.reduceEqDiff, Nat.reduceLeDiff, Nat.reduceAdd, Nat.reduceMul, Nat.reduceSub, Nat.reduceLT, wrap_inc hk2]; repeat' (first | exact Ok.out | with_reducible refine And.intro ?_ ?_))

/-- What a program's texts and lists are. -/
structure Pg.Fine (p : Pg) : Prop where
  sz : p.size < 4611686018427387000
  glob : ∀ t ∈ p.globals, t.length < 4611686018427387904
  heads : ∀ f ∈ p.procs, f.name.length < 4611686018427387904 ∧ (∀ t ∈ f.vars, t.length < 4611686018427387904) ∧ (∀ t ∈ f.fin, t.length < 4611686018427387904) ∧ ∀ a ∈ f.params, a.name.length < 4611686018427387904
  items : ∀ i ∈ p.all, i.s.Fine

end Go.Abs

/-! More1 -/

namespace Go.Abs
set_option linter.unusedSimpArgs false
set_option linter.unusedVariables false

/-- The tokens: kinds, texts. -/
def moreK : List (Int × Str) :=
  [(3, [112, 114, 111, 99]), (1, [109, 111, 114, 101]), (4, [40]), (3, [114, 101, 102]), (1, [97]), (4, [41]), (4, [123]), (3, [118, 97, 114]), (1, [98]), (4, [59]), (1, [98]), (4, [61]), (1, [97]), (4, [59]), (1, [108]), (4, [58]), (4, [125]), (0, [])]

section
variable {l : List Tok} {N : Nat} {f : Int}

abbrev stM (l : List Tok) (N : Nat) (f : Int) (n k : Nat) : Rd := ⟨l, N + k, 0, f, n⟩
/-- They stand there. -/
def MoreAt (l : List Tok) (N : Nat) : Prop := N < 1000000 ∧ ∀ (k : Nat) (x : Int × Str), moreK[k]? = some x → ∃ t, l[N + k]? = some t ∧ t.kind = x.1 ∧ t.text = x.2

theorem MoreAt.get (h : MoreAt l N) {k : Nat} {x : Int × Str} (hx : moreK[k]? = some x) : ∃ t, getO l (N + k) = some t ∧ t.kind = x.1 ∧ t.text = x.2 ∧ l[N + k]? = some t := by
  obtain ⟨t, h1, h2, h3⟩ := h.2 k x hx
  have hk : k < moreK.length := (List.getElem?_eq_some_iff.1 hx).1
  have : moreK.length = 18 := rfl
  exact ⟨t, by have := h.1; simp only [getO]; rw [if_pos (by omega)]; exact h1, h2, h3, h1⟩
theorem MoreAt.peek (h : MoreAt l N) (n : Nat) {k : Nat} {x : Int × Str} (hx : moreK[k]? = some x) (h0 : 0 ≤ x.1) (h4 : x.1 ≤ 4) : ∃ t, (stM l N f n k).peek = some t ∧ t.kind = x.1 ∧ t.text = x.2 ∧ l[N + k]? = some t := by
  obtain ⟨t, h1, h2, h3, h5⟩ := h.get hx
  refine ⟨t, ?_, h2, h3, h5⟩
  simp only [Rd.peek, h1, Option.bind_some, h2, h0, h4, decide_true, Bool.and_self, ↓reduceIte]
theorem MoreAt.name (h : MoreAt l N) (n : Nat) {k : Nat} {x : Int × Str} (hx : moreK[k]? = some x) (hk : x.1 = 1) : (stM l N f n k).name true = some (x.2, stM l N f n (k + 1)) := by
  obtain ⟨t, h1, h2, h3, _⟩ := h.peek (f := f) n hx (by omega) (by omega)
  have e : (t.kind != 1) = false := by rw [h2, hk]; rfl
  simp only [Rd.name, h1, Option.bind_some, e, h3]
  rfl
theorem MoreAt.is (h : MoreAt l N) (n : Nat) {k : Nat} {x : Int × Str} (hx : moreK[k]? = some x) (h0 : 0 ≤ x.1) (h4 : x.1 ≤ 4) (s : Str) : (stM l N f n k).is s = some ((x.1 == 3 || x.1 == 4) && x.2 == s) := by
  obtain ⟨t, h1, h2, h3, _⟩ := h.peek (f := f) n hx h0 h4
  simp only [Rd.is, h1, Option.bind_some, h2, h3]
theorem MoreAt.take (h : MoreAt l N) (n : Nat) {k : Nat} {x : Int × Str} (hx : moreK[k]? = some x) (h0 : 0 ≤ x.1) (h4 : x.1 ≤ 4) (s : Str) : (stM l N f n k).take s = some (if (x.1 == 3 || x.1 == 4) && x.2 == s then (true, stM l N f n (k + 1)) else (false, stM l N f n k)) := by
  have h1 := h.is (f := f) n hx h0 h4 s
  have hg : (stM l N f n k).good = true := rfl
  simp only [Rd.take, hg, Bool.not_true, Bool.false_eq_true, ↓reduceIte, h1, Option.bind_some]
  cases (x.1 == 3 || x.1 == 4) && x.2 == s <;> rfl
theorem MoreAt.takeY (h : MoreAt l N) (n : Nat) {k : Nat} {x : Int × Str} (hx : moreK[k]? = some x) (h0 : 0 ≤ x.1) (h4 : x.1 ≤ 4) {s : Str} (hs : ((x.1 == 3 || x.1 == 4) && x.2 == s) = true) : (stM l N f n k).take s = some (true, stM l N f n (k + 1)) := by
  rw [h.take n hx h0 h4, if_pos hs]
theorem MoreAt.takeN (h : MoreAt l N) (n : Nat) {k : Nat} {x : Int × Str} (hx : moreK[k]? = some x) (h0 : 0 ≤ x.1) (h4 : x.1 ≤ 4) {s : Str} (hs : ((x.1 == 3 || x.1 == 4) && x.2 == s) = false) : (stM l N f n k).take s = some (false, stM l N f n k) := by
  rw [h.take n hx h0 h4, hs]; rfl
theorem MoreAt.want (h : MoreAt l N) (n : Nat) {k : Nat} {x : Int × Str} (hx : moreK[k]? = some x) (h0 : 0 ≤ x.1) (h4 : x.1 ≤ 4) {s : Str} (hs : ((x.1 == 3 || x.1 == 4) && x.2 == s) = true) : (stM l N f n k).want s = some (stM l N f n (k + 1)) := by
  have h1 := h.take (f := f) n hx h0 h4 s
  simp only [Rd.want, h1, hs, ↓reduceIte, Option.bind_some]
  rfl
theorem MoreAt.ahead (h : MoreAt l N) (n : Nat) {k : Nat} {x y : Int × Str} (hx : moreK[k]? = some x) (hy : moreK[k + 1]? = some y) (hk : x.1 = 1) (s : Str) : (stM l N f n k).ahead s = some (y.1 == 4 && y.2 == s) := by
  obtain ⟨t, h1, h2, h3, _⟩ := h.peek (f := f) n hx (by omega) (by omega)
  obtain ⟨u, g1, g2, g3, _⟩ := h.get hy
  have hg : (stM l N f n k).good = true := rfl
  have e : (t.kind == 1) = true := by rw [h2, hk]; rfl
  have e2 : N + k + 1 = N + (k + 1) := by omega
  simp only [Rd.ahead, hg, ↓reduceIte, h1, Option.bind_some, e]
  rw [e2, g1, Option.bind_some, g2, g3]
theorem MoreAt.ahead0 (h : MoreAt l N) (n : Nat) {k : Nat} {x : Int × Str} (hx : moreK[k]? = some x) (h0 : 0 ≤ x.1) (h4 : x.1 ≤ 4) (hk : x.1 ≠ 1) (s : Str) : (stM l N f n k).ahead s = some false := by
  obtain ⟨t, h1, h2, h3, _⟩ := h.peek (f := f) n hx h0 h4
  have hg : (stM l N f n k).good = true := rfl
  have e : (t.kind == 1) = false := by rw [h2]; simpa using hk
  simp only [Rd.ahead, hg, ↓reduceIte, h1, Option.bind_some, e, Bool.false_eq_true]

def moreS (id : Int) : Sm := ⟨id, 1, [], [98], [], ⟨2, 0, [97], []⟩, false, [], [], []⟩
def moreP (id : Int) : Pc := ⟨[109, 111, 114, 101], [⟨[97], true⟩], [[98]], [moreS id], [[108]]⟩

theorem push_small {α : Type} {k : Nat} {L : List α} {x : α} (h : L.length ≤ 100) (hk : k ≤ 1000) : push k L x = some (L ++ [x]) := by
  unfold push
  rw [if_pos]
  have : (L.length + 1) * k ≤ 101 * 1000 := Nat.mul_le_mul (by omega) hk
  unfold maxStr; omega

theorem more_params (h : MoreAt l N) (n j : Nat) : Rd.params (j + 2) [] (stM l N f n 3) = some ([⟨[97], true⟩], stM l N f n 5) := by
  have hg : (stM l N f n 3).good = true := rfl
  simp only [Rd.params, hg, ↓reduceIte]
  rw [h.takeY (f := f) n (k := 3) rfl (by decide) (by decide) (by decide), Option.bind_some]
  dsimp only
  rw [show (decide ((([] : List Pm).length : Int) < 8)) = true from rfl, h.name (f := f) n (k := 4) rfl rfl, Option.bind_some, push_small (by simp) (by omega), Option.bind_some]
  dsimp only
  rw [h.takeN (f := f) n (k := 5) rfl (by decide) (by decide) (by decide), Option.bind_some]
  rfl

theorem more_vars (h : MoreAt l N) (n m j : Nat) : Rd.vars (m + 2) (j + 2) [] (stM l N f n 7) = some ([[98]], stM l N f n 10) := by
  have e1 : Rd.names (m + 2) [] 16 (stM l N f n 8) = some ([[98]], stM l N f n 10) := by
    have hg : (stM l N f n 8).good = true := rfl
    simp only [Rd.names, hg, ↓reduceIte]
    rw [show (decide ((([] : List Str).length : Int) < 16)) = true from rfl, h.name (f := f) n (k := 8) rfl rfl, Option.bind_some, push_small (by simp) (by omega), Option.bind_some]
    dsimp only
    rw [h.takeN (f := f) n (k := 9) rfl (by decide) (by decide) (by decide), Option.bind_some]
    dsimp only
    rw [if_pos (by decide), h.want (f := f) n (k := 9) rfl (by decide) (by decide) (by decide), Option.bind_some]
    rfl
  simp only [Rd.vars]
  rw [h.takeY (f := f) n (k := 7) rfl (by decide) (by decide) (by decide), Option.bind_some]
  dsimp only
  rw [if_pos rfl, e1, Option.bind_some]
  dsimp only
  rw [h.takeN (f := f) n (k := 10) rfl (by decide) (by decide) (by decide), Option.bind_some]
  rfl

theorem more_whole (h : MoreAt l N) (n j : Nat) : Rd.whole (j + 3) (stM l N f n 12) = some (⟨2, 0, [97], []⟩, stM l N f n 13) := by
  obtain ⟨t, h1, h2, h3, _⟩ := h.peek (f := f) n (k := 12) rfl (by decide) (by decide)
  obtain ⟨u, g1, g2, g3, _⟩ := h.peek (f := f) n (k := 13) rfl (by decide) (by decide)
  have hg : (stM l N f n 12).good = true := rfl
  have hg3 : (stM l N f n 13).good = true := rfl
  have e1 : Rd.one (j + 2) (stM l N f n 12) = some (⟨2, 0, [97], []⟩, stM l N f n 13) := by
    have a1 : (t.kind == 2) = false := by rw [h2]; rfl
    have a2 : (t.kind == 1) = true := by rw [h2]; rfl
    simp only [Rd.one, h1, Option.bind_some, hg, Bool.not_true, Bool.false_eq_true, ↓reduceIte, a1, a2, h3]
  have e2 : Rd.twoL (j + 2) 1 ⟨2, 0, [97], []⟩ (stM l N f n 13) = some (⟨2, 0, [97], []⟩, stM l N f n 13) := by
    have op : opOf u = (0, 0) := by simp only [opOf, g2, g3]; decide
    simp only [Rd.twoL, hg3, ↓reduceIte, g1, Option.bind_some, op]
    rfl
  simp only [Rd.whole, h1, Option.bind_some, Rd.two, e1, e2, hg3, ↓reduceIte]
  have e3 : depthO ⟨2, 0, [97], []⟩ = some 1 := rfl
  rw [e3, Option.bind_some]
  rfl

theorem more_named (h : MoreAt l N) (n j : Nat) : Rd.named (j + 3) (stM l N f n 10) = some (moreS 0, stM l N f n 14) := by
  unfold Rd.named
  rw [h.name (f := f) n (k := 10) rfl rfl, Option.bind_some]
  dsimp only
  rw [h.is (f := f) n (k := 11) rfl (by decide) (by decide), Option.bind_some, if_neg (by decide), h.want (f := f) n (k := 11) rfl (by decide) (by decide) (by decide), Option.bind_some,
    h.ahead (f := f) n (k := 12) rfl rfl rfl, Option.bind_some, if_neg (by decide), more_whole h, Option.bind_some]
  dsimp only
  rw [h.want (f := f) n (k := 13) rfl (by decide) (by decide) (by decide), Option.bind_some]
  rfl

theorem more_stmt (h : MoreAt l N) {n : Nat} (hn : n < 200) (j i : Nat) : Rd.stmt (j + 3) (i + 1) 1 (stM l N f n 10) = some (moreS 0, stM l N f (n + 1) 14) := by
  obtain ⟨t, h1, h2, h3, _⟩ := h.peek (f := f) n (k := 10) rfl (by decide) (by decide)
  obtain ⟨u, g1, g2, g3, _⟩ := h.peek (f := f) (n + 1) (k := 10) rfl (by decide) (by decide)
  have a2 : (t.kind == 1) = true := by rw [h2]; rfl
  have b2 : (u.kind == 1) = true := by rw [g2]; rfl
  have e1 : (stM l N f n 10).begins = some true := by simp only [Rd.begins, h1, Option.bind_some, a2, ↓reduceIte]
  have e2 : inc (stM l N f n 10).n = some (n + 1) := by simp only [inc]; rw [if_pos (by omega)]
  have e3 : (decide (((n + 1 : Nat) : Int) > 200) || decide ((1 : Int) > 12)) = false := by simp; omega
  simp only [Rd.stmt, e1, Option.bind_some, Bool.not_true, Bool.false_eq_true, ↓reduceIte, e2, e3]
  rw [g1, Option.bind_some, b2, if_pos rfl]
  exact more_named h (n + 1) j

theorem more_full (h : MoreAt l N) (j i : Nat) : ∃ t, l[N + 10]? = some t ∧ Rd.stmt (j + 3) (i + 1) 1 (stM l N f 200 10) = some (sm0, ⟨l, N + 10, 4, t.pos, 201⟩) := by
  obtain ⟨t, h1, h2, h3, h5⟩ := h.peek (f := f) 200 (k := 10) rfl (by decide) (by decide)
  obtain ⟨u, g1, g2, g3, g5⟩ := h.peek (f := f) 201 (k := 10) rfl (by decide) (by decide)
  rw [h5] at g5
  cases g5
  refine ⟨t, h5, ?_⟩
  have a2 : (t.kind == 1) = true := by rw [h2]; rfl
  have e1 : (stM l N f 200 10).begins = some true := by simp only [Rd.begins, h1, Option.bind_some, a2, ↓reduceIte]
  have e2 : inc (stM l N f 200 10).n = some 201 := rfl
  have e3 : (decide (((201 : Nat) : Int) > 200) || decide ((1 : Int) > 12)) = true := rfl
  simp only [Rd.stmt, e1, Option.bind_some, Bool.not_true, Bool.false_eq_true, ↓reduceIte, e2, e3]
  have hg : (stM l N f 201 10).good = true := rfl
  simp only [Rd.bad, hg, ↓reduceIte, g1, Option.bind_some]

theorem more_labels (h : MoreAt l N) (n j : Nat) : Rd.labels (j + 1) [] (stM l N f n 10) = some ([], stM l N f n 10) := by
  simp only [Rd.labels]
  rw [h.ahead (f := f) n (k := 10) rfl rfl rfl, Option.bind_some, if_neg (by decide)]
theorem more_labels2 (h : MoreAt l N) (n j : Nat) : Rd.labels (j + 2) [] (stM l N f n 14) = some ([[108]], stM l N f n 16) := by
  obtain ⟨t, h1, h2, h3, h5⟩ := h.peek (f := f) n (k := 14) rfl (by decide) (by decide)
  simp only [Rd.labels]
  rw [h.ahead (f := f) n (k := 14) rfl rfl rfl, Option.bind_some, if_pos (by decide), h1, Option.bind_some, h3, push_small (by simp) (by omega), Option.bind_some]
  have e : (⟨l, N + 14 + 2, 0, f, n⟩ : Rd) = stM l N f n 16 := rfl
  dsimp only
  rw [e, h.ahead0 (f := f) n (k := 16) rfl (by decide) (by decide) (by decide), Option.bind_some, if_neg (by decide)]
  rfl

theorem more_rows (h : MoreAt l N) {n : Nat} (hn : n < 200) (j i : Nat) : Rd.rows (j + 3) (i + 4) 1 true (stM l N f n 10) = some (([moreS 0], [[108]]), stM l N f (n + 1) 17) := by
  have hg : (stM l N f n 10).good = true := rfl
  have hg2 : (stM l N f (n + 1) 14).good = true := rfl
  simp only [Rd.rows]
  rw [show i + 3 = (i + 2) + 1 from rfl]
  rw [Rd.rowsL, if_pos hg, more_labels h n (j + 2), Option.bind_some]
  dsimp only
  rw [h.is (f := f) n (k := 10) rfl (by decide) (by decide), Option.bind_some, if_neg (by decide), more_stmt h hn j (i + 1), Option.bind_some]
  dsimp only
  rw [push_small (by simp) (by omega), Option.bind_some]
  rw [show i + 2 = (i + 1) + 1 from rfl]
  rw [Rd.rowsL, if_pos hg2, more_labels2 h (n + 1) (j + 1), Option.bind_some]
  dsimp only
  rw [h.is (f := f) (n + 1) (k := 16) rfl (by decide) (by decide), Option.bind_some, if_pos (by decide)]
  rfl

theorem more_rows_full (h : MoreAt l N) (j i : Nat) : ∃ t, l[N + 10]? = some t ∧ Rd.rows (j + 3) (i + 4) 1 true (stM l N f 200 10) = some (([], []), ⟨l, N + 10, 4, t.pos, 201⟩) := by
  obtain ⟨t, ht, hs⟩ := more_full (f := f) h j (i + 1)
  refine ⟨t, ht, ?_⟩
  have hg : (stM l N f 200 10).good = true := rfl
  have hg2 : ¬ (⟨l, N + 10, 4, t.pos, 201⟩ : Rd).good = true := by simp [Rd.good]
  simp only [Rd.rows]
  rw [show i + 3 = (i + 2) + 1 from rfl]
  rw [Rd.rowsL, if_pos hg, more_labels h 200 (j + 2), Option.bind_some]
  dsimp only
  rw [h.is (f := f) 200 (k := 10) rfl (by decide) (by decide), Option.bind_some, if_neg (by decide), hs, Option.bind_some]
  dsimp only
  rw [push_small (by simp) (by omega), Option.bind_some]
  rw [show i + 2 = (i + 1) + 1 from rfl]
  rw [Rd.rowsL, if_neg hg2]

theorem more_pre (h : MoreAt l N) (n j : Nat) {g : Str → List Pm → Rd → Option (Pc × Rd)} (hg : g = Rd.procB (j + 4)) : Rd.proc (j + 4) (stM l N f n 1) = g [109, 111, 114, 101] [⟨[97], true⟩] (stM l N f n 7) := by
  subst hg
  unfold Rd.proc
  rw [h.name (f := f) n (k := 1) rfl rfl, Option.bind_some]
  dsimp only
  rw [h.want (f := f) n (k := 2) rfl (by decide) (by decide) (by decide), Option.bind_some]
  have hg : (stM l N f n 3).good = true := rfl
  have e : (stM l N f n 3).other [41] = some true := by
    unfold Rd.other
    rw [if_pos hg, h.is (f := f) n (k := 3) rfl (by decide) (by decide), Option.bind_some]
    rfl
  rw [e, Option.bind_some, if_pos rfl, more_params h n (j + 2), Option.bind_some]
  dsimp only
  rw [h.want (f := f) n (k := 5) rfl (by decide) (by decide) (by decide), Option.bind_some, h.want (f := f) n (k := 6) rfl (by decide) (by decide) (by decide), Option.bind_some]

theorem more_proc (h : MoreAt l N) {n : Nat} (hn : n < 200) (j : Nat) : Rd.proc (j + 4) (stM l N f n 1) = some (moreP 0, stM l N f (n + 1) 17) := by
  rw [more_pre h n j rfl]
  unfold Rd.procB
  rw [more_vars h n (j + 2) (j + 2), Option.bind_some]
  dsimp only
  rw [more_rows h hn (j + 1) j, Option.bind_some]
  rfl
theorem more_proc_full (h : MoreAt l N) (j : Nat) : ∃ t c, l[N + 10]? = some t ∧ Rd.proc (j + 4) (stM l N f 200 1) = some (c, ⟨l, N + 10, 4, t.pos, 201⟩) := by
  obtain ⟨t, ht, hs⟩ := more_rows_full (f := f) h (j + 1) j
  refine ⟨t, ⟨[109, 111, 114, 101], [⟨[97], true⟩], [[98]], [], []⟩, ht, ?_⟩
  rw [more_pre h 200 j rfl]
  unfold Rd.procB
  rw [more_vars h 200 (j + 2) (j + 2), Option.bind_some]
  dsimp only
  rw [hs, Option.bind_some]
end

end Go.Abs

/-! Lx -/

namespace Go.Abs
set_option linter.unusedSimpArgs false
set_option linter.unusedVariables false

def isR (c : UInt8) : Bool := (c.toNat : Int) == 35

/-- A text, from a place on, is these tokens. -/
inductive Lx : Nat → Str → List Tok → Prop where
  | nil (pos : Nat) : Lx pos [] []
  | blank (pos : Nat) (c : UInt8) (r : Str) (l : List Tok) (h : isB c = true) (k : Lx (pos + 1) r l) : Lx pos (c :: r) l
  | rem (pos : Nat) (c : UInt8) (r : Str) (l : List Tok) (h : isB c = false) (h2 : isR c = true) (k : Lx (pos + lineL (c :: r)) ((c :: r).drop (lineL (c :: r))) l) : Lx pos (c :: r) l
  | tok (pos : Nat) (c : UInt8) (r : Str) (t : Tok) (l : List Tok) (h : isB c = false) (h2 : isR c = false) (ht : tokE pos (c :: r) = .inl t) (k : Lx (pos + t.text.length) ((c :: r).drop t.text.length) l) : Lx pos (c :: r) (t :: l)

theorem runL_le : ∀ s : Str, runL s ≤ s.length
  | [] => Nat.le_refl _
  | c :: r => by simp only [runL, List.length_cons]; split; have := runL_le r; omega; omega
theorem runD_le : ∀ s : Str, runD s ≤ s.length
  | [] => Nat.le_refl _
  | c :: r => by simp only [runD, List.length_cons]; split; have := runD_le r; omega; omega
theorem lineL_le : ∀ s : Str, lineL s ≤ s.length
  | [] => Nat.le_refl _
  | c :: r => by simp only [lineL, List.length_cons]; split; have := lineL_le r; omega; omega
theorem signL_le : ∀ s : Str, signL s ≤ s.length
  | [] => Nat.le_refl _
  | [c] => by simp only [signL]; split <;> simp
  | c :: d :: r => by simp only [signL, List.length_cons]; split; omega; split; omega; omega

/-- What a token is of its text. -/
theorem tokE_text {pos : Nat} {s : Str} {t : Tok} (h : tokE pos s = .inl t) : t.pos = pos ∧ 0 < t.text.length ∧ ∃ rest, s = t.text ++ rest := by
  cases s with
  | nil => simp only [tokE] at h; cases h
  | cons c r =>
    simp only [tokE] at h
    cases hL : isL c
    · simp only [hL, Bool.false_eq_true, ↓reduceIte] at h
      cases hD : isD c
      · simp only [hD, Bool.false_eq_true, ↓reduceIte] at h
        split at h
        · cases h
        · cases h
          have := signL_le (c :: r)
          exact ⟨rfl, by simp only [List.length_take]; simp only [List.length_cons] at this ⊢; omega, (c :: r).drop (signL (c :: r)), by simp⟩
      · have k0 : 0 < runD (c :: r) := by simp [runD, hD]
        simp only [hD, ↓reduceIte] at h
        split at h
        · cases h
        · split at h
          · cases h
            exact ⟨rfl, by simp only [List.length_take, List.length_cons]; omega, (c :: r).drop (runD (c :: r)), by simp⟩
          · cases h
    · have k0 : 0 < runL (c :: r) := by simp [runL, hL]
      simp only [hL, ↓reduceIte] at h
      split at h
      · cases h
      · cases h
        exact ⟨rfl, by simp only [List.length_take, List.length_cons]; omega, (c :: r).drop (runL (c :: r)), by simp⟩

theorem tokE_er {pos : Nat} {s : Str} {e : Int} (h : tokE pos s = .inr e) : e = 2 ∨ e = 4 := by
  cases s with
  | nil => simp only [tokE] at h; cases h; exact .inl rfl
  | cons c r =>
    simp only [tokE] at h
    repeat' split at h
    all_goals first | (cases h; simp; done) | cases h

theorem tokE_ln {pos : Nat} {s : Str} {t : Tok} (h : tokE pos s = .inl t) : t.text.length ≤ s.length := by
  obtain ⟨_, _, rest, e⟩ := tokE_text h
  rw [e]; simp

/-- What the lexer makes of such a text. -/
theorem lexF_Lx {pos : Nat} {s : Str} {l : List Tok} (h : Lx pos s l) : ∀ (n : Nat) (out : List Tok), s.length < n → out.length + l.length ≤ 2000 → lexF n pos s out = (out ++ l ++ [⟨0, [], 0, (pos + s.length : Nat)⟩], 0, 0) := by
  induction h with
  | nil pos =>
    intro n out hn ho
    cases n with
    | zero => omega
    | succ n => simp [lexF]
  | blank pos c r l h k ih =>
    intro n out hn ho
    cases n with
    | zero => omega
    | succ n =>
      simp only [List.length_cons] at hn
      simp only [lexF, h, ↓reduceIte]
      rw [ih n out (by omega) ho]
      simp only [List.length_cons]
      have : pos + 1 + r.length = pos + (r.length + 1) := by omega
      rw [this]
  | rem pos c r l h h2 k ih =>
    intro n out hn ho
    cases n with
    | zero => omega
    | succ n =>
      have h3 : ((c.toNat : Int) == 35) = true := h2
      simp only [lexF, h, h3, Bool.false_eq_true, ↓reduceIte]
      have hp : 0 < lineL (c :: r) := by
        have : ((c.toNat : Int) != 10) = true := by simp only [beq_iff_eq] at h3; simp [h3]
        simp [lineL, this]
      have hle := lineL_le (c :: r)
      rw [ih n out (by rw [List.length_drop]; omega) ho]
      have : pos + lineL (c :: r) + ((c :: r).drop (lineL (c :: r))).length = pos + (c :: r).length := by rw [List.length_drop]; omega
      rw [this]
  | tok pos c r t l h h2 ht k ih =>
    intro n out hn ho
    cases n with
    | zero => omega
    | succ n =>
      have h3 : ((c.toNat : Int) == 35) = false := h2
      simp only [List.length_cons] at ho
      have hne : ¬ out.length = 2000 := by omega
      simp only [lexF, h, h3, Bool.false_eq_true, ↓reduceIte, ht, if_neg hne]
      obtain ⟨_, hp, _⟩ := tokE_text ht
      have hle := tokE_ln ht
      rw [ih n _ (by rw [List.length_drop]; omega) (by simp; omega)]
      have : pos + t.text.length + ((c :: r).drop t.text.length).length = pos + (c :: r).length := by rw [List.length_drop]; omega
      rw [this]
      simp

/-- A text of which the lexer makes tokens is one. -/
theorem Lx_of : ∀ (n pos : Nat) (s : Str) (out : List Tok), s.length < n → (lexF n pos s out).2.1 = 0 → out.length ≤ 2000 → ∃ l, Lx pos s l ∧ out.length + l.length ≤ 2000 := by
  intro n
  induction n with
  | zero => intro pos s out hn; omega
  | succ n ih =>
    intro pos s out hn h ho
    cases s with
    | nil => exact ⟨[], .nil _, by simpa using ho⟩
    | cons c r =>
      simp only [List.length_cons] at hn
      simp only [lexF] at h
      cases hb : isB c
      · simp only [hb, Bool.false_eq_true, ↓reduceIte] at h
        cases h3 : ((c.toNat : Int) == 35)
        · simp only [h3, Bool.false_eq_true, ↓reduceIte] at h
          cases ht : tokE pos (c :: r) with
          | inr e => simp only [ht] at h; have := tokE_er ht; omega
          | inl t =>
            simp only [ht] at h
            split at h
            · cases h
            · rename_i h2
              obtain ⟨_, hp, _⟩ := tokE_text ht
              obtain ⟨l, hl, hlen⟩ := ih _ _ _ (by rw [List.length_drop, List.length_cons]; omega) h (by simp; omega)
              refine ⟨t :: l, .tok _ _ _ _ _ hb h3 ht hl, ?_⟩
              simp only [List.length_append, List.length_cons, List.length_nil] at hlen ⊢
              omega
        · simp only [h3, ↓reduceIte] at h
          have hp : 0 < lineL (c :: r) := by
            have : ((c.toNat : Int) != 10) = true := by simp only [beq_iff_eq] at h3; simp [h3]
            simp [lineL, this]
          obtain ⟨l, hl, hlen⟩ := ih _ _ _ (by rw [List.length_drop, List.length_cons]; omega) h ho
          exact ⟨l, .rem _ _ _ _ hb h3 hl, hlen⟩
      · simp only [hb, ↓reduceIte] at h
        obtain ⟨l, hl, hlen⟩ := ih _ _ _ (by omega) h ho
        exact ⟨l, .blank _ _ _ _ hb hl, hlen⟩

def tEnd (n : Nat) : Tok := ⟨0, [], 0, (n : Nat)⟩

theorem lexAll_Lx {s : Str} {l : List Tok} (h : Lx 0 s l) (hs : s.length ≤ 100000) (hl : l.length ≤ 2000) : lexAll s = (l ++ [tEnd s.length], 0, 0) := by
  unfold lexAll
  rw [if_neg (by omega), lexF_Lx h _ _ (Nat.lt_succ_self _) (by simpa using hl)]
  simp [tEnd]
theorem Lx_lexAll {s : Str} (h : (lexAll s).2.1 = 0) : ∃ l, Lx 0 s l ∧ s.length ≤ 100000 ∧ l.length ≤ 2000 ∧ lexAll s = (l ++ [tEnd s.length], 0, 0) := by
  unfold lexAll at h
  split at h
  · cases h
  · rename_i hs
    obtain ⟨l, hl, hlen⟩ := Lx_of _ _ _ _ (Nat.lt_succ_self _) h (Nat.zero_le _)
    have hlen : l.length ≤ 2000 := by simpa using hlen
    exact ⟨l, hl, by omega, hlen, lexAll_Lx hl (by omega) hlen⟩

end Go.Abs

/-! Lx2 -/

namespace Go.Abs
set_option linter.unusedSimpArgs false
set_option linter.unusedVariables false

/-- Nothing that stands ahead goes on with that byte. -/
def stopC (c : UInt8) : Bool := !(isL c) && !(isD c) && !(c == 61) && !(c == 38) && !(c == 124)
def Stop : Str → Prop
  | [] => True
  | c :: _ => stopC c = true

theorem runL_app {b : Str} (hb : Stop b) : ∀ s : Str, runL (s ++ b) = runL s
  | [] => by
    cases b with
    | nil => rfl
    | cons c r =>
      simp only [Stop, stopC, Bool.and_eq_true, Bool.not_eq_true'] at hb
      simp only [List.nil_append, runL, hb.1.1.1.1, hb.1.1.1.2, Bool.or_self, Bool.false_eq_true, ↓reduceIte]
  | c :: s => by simp only [List.cons_append, runL, runL_app hb s]
theorem runD_app {b : Str} (hb : Stop b) : ∀ s : Str, runD (s ++ b) = runD s
  | [] => by
    cases b with
    | nil => rfl
    | cons c r =>
      simp only [Stop, stopC, Bool.and_eq_true, Bool.not_eq_true'] at hb
      simp only [List.nil_append, runD, hb.1.1.1.2, Bool.false_eq_true, ↓reduceIte]
  | c :: s => by simp only [List.cons_append, runD, runD_app hb s]
theorem sign2_stop {c d : UInt8} (h : stopC d = true) : sign2 [c, d] = false := by
  simp only [stopC, Bool.and_eq_true, Bool.not_eq_true', beq_eq_false_iff_ne, ne_eq] at h
  cases hs : sign2 [c, d]
  · rfl
  · exfalso
    simp only [sign2, Bool.or_eq_true, beq_iff_eq, List.cons.injEq, and_true] at hs
    obtain ⟨⟨_, h1⟩, h2⟩ := h
    obtain ⟨_, h0⟩ := ‹_ ∧ ¬ d = 61›
    rcases hs with ((((hs | hs) | hs) | hs) | hs) | hs
    · exact h0 hs.2
    · exact h0 hs.2
    · exact h0 hs.2
    · exact h0 hs.2
    · exact h1 hs.2
    · exact h2 hs.2
theorem signL_app {b : Str} (hb : Stop b) : ∀ s : Str, s ≠ [] → signL (s ++ b) = signL s
  | [], h => absurd rfl h
  | [c], _ => by
    cases b with
    | nil => rfl
    | cons d r =>
      simp only [List.cons_append, List.nil_append, signL, sign2_stop (c := c) hb, Bool.false_eq_true, ↓reduceIte]
  | c :: d :: s, _ => by simp only [List.cons_append, signL]
theorem lineL_app {b : Str} (hb : b = [] ∨ ∃ r, b = 10 :: r) : ∀ s : Str, lineL (s ++ b) = lineL s
  | [] => by rcases hb with rfl | ⟨r, rfl⟩ <;> rfl
  | c :: s => by simp only [List.cons_append, lineL, lineL_app hb s]

theorem take_app {α : Type} {s b : List α} {k : Nat} (h : k ≤ s.length) : (s ++ b).take k = s.take k := List.take_append_of_le_length h

/-- A token with something behind it that it does not go on with. -/
theorem tokE_app {pos : Nat} {s b : Str} {t : Tok} (hb : Stop b) (h : tokE pos s = .inl t) : tokE pos (s ++ b) = .inl t := by
  cases s with
  | nil => simp only [tokE] at h; cases h
  | cons c r =>
    have h1 := runL_app hb (c :: r)
    have h2 := runD_app hb (c :: r)
    have h3 := signL_app hb (c :: r) (by simp)
    have l1 := runL_le (c :: r)
    have l2 := runD_le (c :: r)
    have l3 := signL_le (c :: r)
    rw [List.cons_append] at h1 h2 h3 ⊢
    simp only [tokE] at h ⊢
    rw [h1, h2, h3, ← List.cons_append, take_app l1, take_app l2, take_app l3]
    exact h

theorem tokE_at {pos : Nat} {s : Str} {t : Tok} (p : Nat) (h : tokE pos s = .inl t) : tokE p s = .inl { t with pos := (p : Nat) } := by
  cases s with
  | nil => simp only [tokE] at h; cases h
  | cons c r =>
    simp only [tokE] at h ⊢
    cases hL : isL c
    · simp only [hL, Bool.false_eq_true, ↓reduceIte] at h ⊢
      cases hD : isD c
      · simp only [hD, Bool.false_eq_true, ↓reduceIte] at h ⊢
        split at h
        · cases h
        · rename_i h0; cases h; rw [if_neg h0]
      · simp only [hD, ↓reduceIte] at h ⊢
        split at h
        · cases h
        · rename_i h0
          rw [if_neg h0]
          split at h
          · rename_i n hn; cases h; simp only [hn]
          · cases h
    · simp only [hL, ↓reduceIte] at h ⊢
      split at h
      · cases h
      · rename_i h0; cases h; rw [if_neg h0]

/-- A token by itself, wherever it stands, with something behind it. -/
def TGood (t : Tok) : Prop := 0 < t.text.length ∧ ∀ (p : Nat) (b : Str), Stop b → tokE p (t.text ++ b) = .inl { t with pos := (p : Nat) }
/-- The first byte of a token. -/
theorem tokE_first {pos : Nat} {s : Str} {t : Tok} (h : tokE pos s = .inl t) : ∃ c r, s = c :: r ∧ isB c = false ∧ isR c = false := by
  cases s with
  | nil => simp only [tokE] at h; cases h
  | cons c r =>
    refine ⟨c, r, rfl, ?_⟩
    simp only [tokE] at h
    cases hL : isL c
    · cases hD : isD c
      · simp only [hL, hD, Bool.false_eq_true, ↓reduceIte] at h
        have hs : signL (c :: r) ≠ 0 := by
          intro h0; rw [if_pos h0] at h; cases h
        have hc : ∀ n : Int, (c.toNat : Int) = n → n = 32 ∨ n = 9 ∨ n = 10 ∨ n = 13 ∨ n = 35 → False := by
          intro n hn hh
          have hcs : c = 32 ∨ c = 9 ∨ c = 10 ∨ c = 13 ∨ c = 35 := by
            have : ∀ k : UInt8, (c.toNat : Int) = (k.toNat : Int) → c = k := by
              intro k hk
              have : c.toNat = k.toNat := by omega
              exact UInt8.toNat_inj.1 this
            rcases hh with h | h | h | h | h
            · exact .inl (this 32 (by rw [hn, h]; rfl))
            · exact .inr (.inl (this 9 (by rw [hn, h]; rfl)))
            · exact .inr (.inr (.inl (this 10 (by rw [hn, h]; rfl))))
            · exact .inr (.inr (.inr (.inl (this 13 (by rw [hn, h]; rfl)))))
            · exact .inr (.inr (.inr (.inr (this 35 (by rw [hn, h]; rfl)))))
          apply hs
          cases r with
          | nil => rcases hcs with rfl | rfl | rfl | rfl | rfl <;> decide
          | cons d r =>
            have h1 : sign2 [c, d] = false := by
              cases hx : sign2 [c, d]
              · rfl
              · simp only [sign2, Bool.or_eq_true, beq_iff_eq, List.cons.injEq, and_true] at hx
                rcases hcs with rfl | rfl | rfl | rfl | rfl <;> simp at hx
            have h2 : sign1 c = false := by rcases hcs with rfl | rfl | rfl | rfl | rfl <;> decide
            simp only [signL, h1, h2, Bool.false_eq_true, ↓reduceIte]
        refine ⟨?_, ?_⟩
        · cases hb : isB c
          · rfl
          · simp only [isB, Bool.or_eq_true, beq_iff_eq] at hb
            exact (hc _ rfl (by omega)).elim
        · cases hb : isR c
          · rfl
          · simp only [isR, beq_iff_eq] at hb
            exact (hc _ rfl (by omega)).elim
      · simp only [isD, Bool.and_eq_true, decide_eq_true_eq] at hD
        refine ⟨?_, ?_⟩
        · simp only [isB, Bool.or_eq_false_iff, beq_eq_false_iff_ne, ne_eq]; omega
        · simp only [isR, beq_eq_false_iff_ne, ne_eq]; omega
    · simp only [isL, Bool.and_eq_true, decide_eq_true_eq] at hL
      refine ⟨?_, ?_⟩
      · simp only [isB, Bool.or_eq_false_iff, beq_eq_false_iff_ne, ne_eq]; omega
      · simp only [isR, beq_eq_false_iff_ne, ne_eq]; omega

theorem Lx.tok' {pos : Nat} {s : Str} {t : Tok} {l : List Tok} (ht : tokE pos s = .inl t) (k : Lx (pos + t.text.length) (s.drop t.text.length) l) : Lx pos s (t :: l) := by
  obtain ⟨c, r, rfl, h1, h2⟩ := tokE_first ht
  exact .tok _ _ _ _ _ h1 h2 ht k
/-- A line behind a text. -/
theorem Lx.app {pos : Nat} {a : Str} {l : List Tok} (h : Lx pos a l) {b : Str} {l' : List Tok} (hb : b = [] ∨ ∃ r, b = 10 :: r) : Lx (pos + a.length) b l' → Lx pos (a ++ b) (l ++ l') := by
  have hst : Stop b := by rcases hb with rfl | ⟨r, rfl⟩; exact trivial; exact (by decide : stopC 10 = true)
  induction h with
  | nil pos => intro k; simpa using k
  | blank pos c r l h k ih =>
    intro k2
    rw [List.cons_append]
    refine .blank _ _ _ _ h (ih ?_)
    have : pos + 1 + r.length = pos + (c :: r).length := by simp only [List.length_cons]; omega
    rw [this]; exact k2
  | rem pos c r l h h2 k ih =>
    intro k2
    have e := lineL_app hb (c :: r)
    have hle := lineL_le (c :: r)
    have e2 : (c :: r ++ b).drop (lineL (c :: r)) = (c :: r).drop (lineL (c :: r)) ++ b := List.drop_append_of_le_length hle
    rw [List.cons_append] at e e2 ⊢
    refine .rem _ _ _ _ h h2 ?_
    rw [e, e2]
    refine ih ?_
    have : pos + lineL (c :: r) + ((c :: r).drop (lineL (c :: r))).length = pos + (c :: r).length := by rw [List.length_drop]; omega
    rw [this]; exact k2
  | tok pos c r t l h h2 ht k ih =>
    intro k2
    have hle := tokE_ln ht
    refine Lx.tok' (tokE_app hst ht) ?_
    have e2 : (c :: r ++ b).drop t.text.length = (c :: r).drop t.text.length ++ b := List.drop_append_of_le_length hle
    rw [e2]
    refine ih ?_
    have : pos + t.text.length + ((c :: r).drop t.text.length).length = pos + (c :: r).length := by rw [List.length_drop]; omega
    rw [this]; exact k2

/-- A text elsewhere. -/
theorem Lx.shift {pos : Nat} {s : Str} {l : List Tok} (h : Lx pos s l) (d : Nat) : Lx (pos + d) s (l.map fun t => { t with pos := t.pos + (d : Int) }) := by
  induction h with
  | nil pos => exact .nil _
  | blank pos c r l h k ih =>
    refine .blank _ _ _ _ h ?_
    have : pos + d + 1 = pos + 1 + d := by omega
    rw [this]; exact ih
  | rem pos c r l h h2 k ih =>
    refine .rem _ _ _ _ h h2 ?_
    have : pos + d + lineL (c :: r) = pos + lineL (c :: r) + d := by omega
    rw [this]; exact ih
  | tok pos c r t l h h2 ht k ih =>
    rw [List.map_cons]
    obtain ⟨e, _⟩ := tokE_text ht
    have e2 : ({ t with pos := t.pos + (d : Int) } : Tok) = { t with pos := ((pos + d : Nat) : Int) } := by rw [e]; congr 1
    rw [e2]
    refine Lx.tok' (tokE_at (pos + d) ht) ?_
    dsimp only
    have : pos + d + t.text.length = pos + t.text.length + d := by omega
    rw [this]; exact ih

end Go.Abs

/-! Sim -/

namespace Go.Abs
set_option linter.unusedSimpArgs false
set_option linter.unusedVariables false

/-- Two tokens that a reader does not tell from each other. -/
structure TEq (t t' : Tok) : Prop where
  k : t'.kind = t.kind
  x : t'.text = t.text
  n : t'.n = t.n

/-- A token at which the first row ends, or a body; one at which the second row goes on otherwise. -/
def Quiet (t : Tok) : Prop := t.kind = 0 ∨ t.kind = 4 ∧ t.text = [125]
def Quiet' (t : Tok) : Prop := t.kind = 0 ∨ t.kind = 3 ∧ t.text = [112, 114, 111, 99]

/-- Two rows that agree below a place, or everywhere. -/
structure Env (l l' : List Tok) (N : Nat) (A : Prop) : Prop where
  low : ∀ (i : Nat) (t : Tok), l[i]? = some t → (A ∨ i < N) → ∃ t', l'[i]? = some t' ∧ TEq t t'
  at' : ¬ A → ∃ t t', l[N]? = some t ∧ l'[N]? = some t' ∧ Quiet t ∧ Quiet' t'

section
variable {l l' : List Tok} {N : Nat} {A : Prop}

structure Rel2 (l l' : List Tok) (r r' : Rd) : Prop where
  el : r.l = l
  el' : r'.l = l'
  ei : r'.i = r.i
  en : r'.n = r.n
  ec : r'.code = r.code
  ef : r.code = 0 ∨ (r.code = 3 ∨ r.code = 4) ∧ ∃ (j : Nat) (t t' : Tok), l[j]? = some t ∧ l'[j]? = some t' ∧ r.fat = t.pos ∧ r'.fat = t'.pos

def Cnd (N : Nat) (A : Prop) (r : Rd) : Prop := A ∨ r.good = true ∧ r.i ≤ N
def SR (l l' : List Tok) (N : Nat) (A : Prop) (r r' : Rd) : Prop := Cnd N A r → Rel2 l l' r r'

def Sim {α : Type} (l l' : List Tok) (N : Nat) (A : Prop) (r : Rd) (o o' : Option (α × Rd)) : Prop :=
  ∀ p, o = some p → r.i ≤ p.2.i ∧ (p.2.good = true → r.good = true) ∧ (Cnd N A p.2 → ∃ q', o' = some (p.1, q') ∧ Rel2 l l' p.2 q')

theorem Cnd.back {r q : Rd} (h : Cnd N A q) (hi : r.i ≤ q.i) (hg : q.good = true → r.good = true) : Cnd N A r := by
  rcases h with h | h
  · exact .inl h
  · exact .inr ⟨hg h.1, Nat.le_trans hi h.2⟩

theorem Sim.bind {α β : Type} {r : Rd} {o o' : Option (α × Rd)} {f f' : α × Rd → Option (β × Rd)} (h : Sim l l' N A r o o') (k : ∀ a q q', SR l l' N A q q' → Sim l l' N A q (f (a, q)) (f' (a, q'))) :
    Sim l l' N A r (o.bind f) (o'.bind f') := by
  intro p hp
  rw [Option.bind_eq_some_iff] at hp
  obtain ⟨⟨a, q⟩, h1, h2⟩ := hp
  obtain ⟨m1, m2, m3⟩ := h _ h1
  dsimp only at m1 m2 m3
  by_cases hc : Cnd N A q
  · obtain ⟨q', e, rel⟩ := m3 hc
    obtain ⟨n1, n2, n3⟩ := k a q q' (fun _ => rel) _ h2
    refine ⟨Nat.le_trans m1 n1, fun g => m2 (n2 g), fun c => ?_⟩
    obtain ⟨s', e2, rel2⟩ := n3 c
    exact ⟨s', by rw [e]; exact e2, rel2⟩
  · obtain ⟨n1, n2, n3⟩ := k a q q (fun c => absurd c hc) _ h2
    exact ⟨Nat.le_trans m1 n1, fun g => m2 (n2 g), fun c => absurd (c.back n1 n2) hc⟩

/-- The same for a reader alone. -/
def SimR (l l' : List Tok) (N : Nat) (A : Prop) (r : Rd) (o o' : Option Rd) : Prop :=
  ∀ p, o = some p → r.i ≤ p.i ∧ (p.good = true → r.good = true) ∧ (Cnd N A p → ∃ q', o' = some q' ∧ Rel2 l l' p q')

theorem SimR.bind {β : Type} {r : Rd} {o o' : Option Rd} {f : Rd → Option (β × Rd)} (h : SimR l l' N A r o o') (k : ∀ q q', SR l l' N A q q' → Sim l l' N A q (f q) (f q')) :
    Sim l l' N A r (o.bind f) (o'.bind f) := by
  intro p hp
  rw [Option.bind_eq_some_iff] at hp
  obtain ⟨q, h1, h2⟩ := hp
  obtain ⟨m1, m2, m3⟩ := h _ h1
  by_cases hc : Cnd N A q
  · obtain ⟨q', e, rel⟩ := m3 hc
    obtain ⟨n1, n2, n3⟩ := k q q' (fun _ => rel) _ h2
    refine ⟨Nat.le_trans m1 n1, fun g => m2 (n2 g), fun c => ?_⟩
    obtain ⟨s', e2, rel2⟩ := n3 c
    exact ⟨s', by rw [e]; exact e2, rel2⟩
  · obtain ⟨n1, n2, n3⟩ := k q q (fun c => absurd c hc) _ h2
    exact ⟨Nat.le_trans m1 n1, fun g => m2 (n2 g), fun c => absurd (c.back n1 n2) hc⟩

theorem Sim.bindR {α : Type} {r : Rd} {o o' : Option (α × Rd)} {f : α × Rd → Option Rd} (h : Sim l l' N A r o o') (k : ∀ a q q', SR l l' N A q q' → SimR l l' N A q (f (a, q)) (f (a, q'))) :
    SimR l l' N A r (o.bind f) (o'.bind f) := by
  intro p hp
  rw [Option.bind_eq_some_iff] at hp
  obtain ⟨⟨a, q⟩, h1, h2⟩ := hp
  obtain ⟨m1, m2, m3⟩ := h _ h1
  dsimp only at m1 m2 m3
  by_cases hc : Cnd N A q
  · obtain ⟨q', e, rel⟩ := m3 hc
    obtain ⟨n1, n2, n3⟩ := k a q q' (fun _ => rel) _ h2
    refine ⟨Nat.le_trans m1 n1, fun g => m2 (n2 g), fun c => ?_⟩
    obtain ⟨s', e2, rel2⟩ := n3 c
    exact ⟨s', by rw [e]; exact e2, rel2⟩
  · obtain ⟨n1, n2, n3⟩ := k a q q (fun c => absurd c hc) _ h2
    exact ⟨Nat.le_trans m1 n1, fun g => m2 (n2 g), fun c => absurd (c.back n1 n2) hc⟩

theorem Sim.ret {α : Type} {r r' : Rd} (a : α) (h : SR l l' N A r r') : Sim l l' N A r (some (a, r)) (some (a, r')) := by
  intro p hp
  cases hp
  exact ⟨Nat.le_refl _, id, fun c => ⟨r', rfl, h c⟩⟩
theorem Sim.non {α : Type} {r : Rd} {o' : Option (α × Rd)} : Sim l l' N A r none o' := fun p hp => by cases hp
/-- What is asked on the way, and answered alike. -/
theorem Sim.ask {α β : Type} {r : Rd} {o o' : Option α} {f f' : α → Option (β × Rd)} (h : ∀ a, o = some a → Cnd N A r → o' = some a) (k : ∀ a, o = some a → Sim l l' N A r (f a) (f' a)) : Sim l l' N A r (o.bind f) (o'.bind f') := by
  intro p hp
  rw [Option.bind_eq_some_iff] at hp
  obtain ⟨a, h1, h2⟩ := hp
  obtain ⟨n1, n2, n3⟩ := k a h1 _ h2
  refine ⟨n1, n2, fun c => ?_⟩
  rw [h a h1 (c.back n1 n2)]
  exact n3 c
theorem Sim.same {α β : Type} {r : Rd} {o : Option α} {f f' : α → Option (β × Rd)} (k : ∀ a, o = some a → Sim l l' N A r (f a) (f' a)) : Sim l l' N A r (o.bind f) (o.bind f') := Sim.ask (fun a h _ => h) k
theorem Sim.ite {α : Type} {r : Rd} {c : Prop} [Decidable c] {a b a' b' : Option (α × Rd)} (h1 : c → Sim l l' N A r a a') (h2 : ¬ c → Sim l l' N A r b b') : Sim l l' N A r (if c then a else b) (if c then a' else b') := by
  by_cases h : c
  · rw [if_pos h, if_pos h]; exact h1 h
  · rw [if_neg h, if_neg h]; exact h2 h
theorem SimR.ret {r r' : Rd} (h : SR l l' N A r r') : SimR l l' N A r (some r) (some r') := by
  intro p hp
  cases hp
  exact ⟨Nat.le_refl _, id, fun c => ⟨r', rfl, h c⟩⟩
theorem SimR.eite {r : Rd} {c : Prop} [Decidable c] {a b a' b' : Option Rd} (h1 : c → SimR l l' N A r a a') (h2 : ¬ c → SimR l l' N A r b b') : SimR l l' N A r (if c then a else b) (if c then a' else b') := by
  by_cases h : c
  · rw [if_pos h, if_pos h]; exact h1 h
  · rw [if_neg h, if_neg h]; exact h2 h
/-- Where both say whether all went well. -/
theorem Sim.iteG {α : Type} {r r' : Rd} (hr : SR l l' N A r r') {a b a' b' : Option (α × Rd)} (h1 : r.good = true → Sim l l' N A r a a') (h2 : r.good = false → Sim l l' N A r b b') :
    Sim l l' N A r (if r.good = true then a else b) (if r'.good = true then a' else b') := by
  by_cases hc : Cnd N A r
  · have e : r'.good = r.good := by simp only [Rd.good, (hr hc).ec]
    rw [e]
    cases h : r.good
    · exact h2 h
    · exact h1 h
  · intro p hp
    have key : r.i ≤ p.2.i ∧ (p.2.good = true → r.good = true) := by
      cases h : r.good
      · rw [h] at hp; have := h2 h p hp; exact ⟨this.1, fun g => by rw [← h]; exact this.2.1 g⟩
      · rw [h] at hp; exact ⟨(h1 h p hp).1, fun _ => rfl⟩
    exact ⟨key.1, key.2, fun c => absurd (c.back key.1 key.2) hc⟩

/-! ### The basic methods -/

theorem SR.goods {r r' : Rd} (h : SR l l' N A r r') (hc : Cnd N A r) : r'.good = r.good := by simp only [Rd.good, (h hc).ec]
theorem SR.set {r r' : Rd} (h : SR l l' N A r r') (j : Nat) (hj : r.i ≤ j) : SR l l' N A { r with i := j } { r' with i := j } := by
  intro hc
  have := h (hc.back (r := r) hj id)
  exact ⟨this.el, this.el', rfl, this.en, this.ec, this.ef⟩
theorem Sim.on {α : Type} {r r' : Rd} (a : α) (h : SR l l' N A r r') (j j' : Nat) (hj : r.i ≤ j) (e : Cnd N A r → j' = j) : Sim l l' N A r (some (a, { r with i := j })) (some (a, { r' with i := j' })) := by
  intro p hp
  cases hp
  refine ⟨hj, id, fun c => ?_⟩
  have hc : Cnd N A r := c.back hj id
  rw [e hc]
  exact ⟨_, rfl, h.set j hj c⟩

theorem getO_eq {l : List Tok} {i : Nat} {t : Tok} (h : i < 4611686018427387904) (e : l[i]? = some t) : getO l i = some t := by simp [getO, h, e]

/-- What stands next, below the place. -/
theorem peek_low (E : Env l l' N A) {r r' : Rd} (h : SR l l' N A r r') (hc : Cnd N A r) (hi : A ∨ r.i < N) {t : Tok} (ht : r.peek = some t) : ∃ t', r'.peek = some t' ∧ TEq t t' := by
  obtain ⟨h1, h2, h3, h4⟩ := peek_get ht
  have R := h hc
  rw [R.el] at h2
  obtain ⟨t', e, te⟩ := E.low _ _ h2 hi
  refine ⟨t', ?_, te⟩
  simp only [Rd.peek, R.ei, R.el', getO_eq h1 e, Option.bind_some, te.k, h3, h4, decide_true, Bool.and_self, ↓reduceIte]

/-- What stands at the place. -/
theorem peek_at (E : Env l l' N A) {r r' : Rd} (h : SR l l' N A r r') (hc : Cnd N A r) (hA : ¬ A) (hi : r.i = N) {t : Tok} (ht : r.peek = some t) : Quiet t ∧ ∃ t', r'.peek = some t' ∧ Quiet' t' := by
  obtain ⟨h1, h2, h3, h4⟩ := peek_get ht
  have R := h hc
  obtain ⟨u, u', e1, e2, q1, q2⟩ := E.at' hA
  rw [R.el, hi, e1] at h2
  cases h2
  refine ⟨q1, u', ?_, q2⟩
  have hk : 0 ≤ u'.kind ∧ u'.kind ≤ 4 := by rcases q2 with q | q <;> omega
  rw [hi] at h1
  simp only [Rd.peek, R.ei, R.el', hi, getO_eq h1 e2, Option.bind_some, hk.1, hk.2, decide_true, Bool.and_self, ↓reduceIte]

theorem Cnd.cases {r : Rd} (hc : Cnd N A r) : (A ∨ r.i < N) ∨ (¬ A ∧ r.i = N) := by
  by_cases hA : A
  · exact .inl (.inl hA)
  · rcases hc with h | h
    · exact absurd h hA
    · rcases Nat.lt_or_eq_of_le h.2 with h | h
      · exact .inl (.inr h)
      · exact .inr ⟨hA, h⟩

theorem is_sim (E : Env l l' N A) {r r' : Rd} (h : SR l l' N A r r') {s : Str} (h1 : s ≠ [125]) (h2 : s ≠ [112, 114, 111, 99]) {b : Bool} (hb : r.is s = some b) (hc : Cnd N A r) : r'.is s = some b := by
  unfold Rd.is at hb ⊢
  rw [Option.bind_eq_some_iff] at hb
  obtain ⟨t, ht, hb⟩ := hb
  cases hb
  rcases hc.cases with hi | ⟨hA, hi⟩
  · obtain ⟨t', e, te⟩ := peek_low E h hc hi ht
    rw [e, Option.bind_some, te.k, te.x]
  · obtain ⟨q, t', e, q'⟩ := peek_at E h hc hA hi ht
    rw [e, Option.bind_some]
    have a1 : ((t.kind == 3 || t.kind == 4) && t.text == s) = false := by
      rcases q with q | ⟨_, q⟩
      · simp [q]
      · have : (t.text == s) = false := by rw [q]; simpa using fun e => h1 e.symm
        simp [this]
    have a2 : ((t'.kind == 3 || t'.kind == 4) && t'.text == s) = false := by
      rcases q' with q | ⟨_, q⟩
      · simp [q]
      · have : (t'.text == s) = false := by rw [q]; simpa using fun e => h2 e.symm
        simp [this]
    rw [a1, a2]

/-- Any sign or word but those two: where it is taken it stands below the place. -/
theorem take_sim (E : Env l l' N A) {r r' : Rd} (h : SR l l' N A r r') {s : Str} (h1 : s ≠ [125]) (h2 : s ≠ [112, 114, 111, 99]) : Sim l l' N A r (r.take s) (r'.take s) := by
  unfold Rd.take
  by_cases hc : Cnd N A r
  · rw [h.goods hc]
    refine Sim.ite (fun _ => Sim.ret _ h) (fun _ => ?_)
    refine Sim.ask (fun b hb hc => is_sim E h h1 h2 hb hc) fun b _ => Sim.ite (fun _ => Sim.ret _ h) fun _ => Sim.on _ h _ _ (Nat.le_succ _) fun hc => by rw [(h hc).ei]
  · intro p hp
    have key : r.i ≤ p.2.i ∧ (p.2.good = true → r.good = true) := by
      split at hp
      · cases hp; exact ⟨Nat.le_refl _, id⟩
      · rw [Option.bind_eq_some_iff] at hp
        obtain ⟨b, _, hp⟩ := hp
        split at hp
        · cases hp; exact ⟨Nat.le_refl _, id⟩
        · cases hp; exact ⟨Nat.le_succ _, id⟩
    exact ⟨key.1, key.2, fun c => absurd (c.back key.1 key.2) hc⟩

theorem bad_sim (E : Env l l' N A) {r r' : Rd} (h : SR l l' N A r r') {c : Int} (hc0 : c = 3 ∨ c = 4) : SimR l l' N A r (r.bad c) (r'.bad c) := by
  intro p hp
  unfold Rd.bad at hp
  cases hg : r.good
  · simp only [hg, Bool.false_eq_true, ↓reduceIte] at hp
    cases hp
    refine ⟨Nat.le_refl _, fun g => (by rw [hg] at g; cases g), fun hc => ?_⟩
    refine ⟨r', ?_, h hc⟩
    simp only [Rd.bad, h.goods hc, hg, Bool.false_eq_true, ↓reduceIte]
  · simp only [hg, ↓reduceIte] at hp
    rw [Option.bind_eq_some_iff] at hp
    obtain ⟨t, ht, hp⟩ := hp
    cases hp
    have hf : ({ r with code := c, fat := t.pos } : Rd).good = false := by rcases hc0 with rfl | rfl <;> rfl
    refine ⟨Nat.le_refl _, fun g => rfl, fun hc => ?_⟩
    rcases hc with hA | ⟨g, _⟩
    · have hcr : Cnd N A r := .inl hA
      obtain ⟨t', e, te⟩ := peek_low E h hcr (.inl hA) ht
      have R := h hcr
      refine ⟨{ r' with code := c, fat := t'.pos }, ?_, ⟨R.el, R.el', R.ei, R.en, rfl, .inr ⟨hc0, r.i, t, t', ?_, ?_, rfl, rfl⟩⟩⟩
      · simp only [Rd.bad, h.goods hcr, hg, ↓reduceIte, e, Option.bind_some]
      · have := (peek_get ht).2.1; rw [R.el] at this; exact this
      · have := (peek_get e).2.1; rw [R.el', R.ei] at this; exact this
    · rw [hf] at g; cases g

theorem want_sim (E : Env l l' N A) {r r' : Rd} (h : SR l l' N A r r') {s : Str} (h1 : s ≠ [125]) (h2 : s ≠ [112, 114, 111, 99]) : SimR l l' N A r (r.want s) (r'.want s) := by
  unfold Rd.want
  exact (take_sim E h h1 h2).bindR fun a q q' hq => SimR.eite (fun _ => bad_sim E hq (by decide)) fun _ => SimR.ret hq
end

end Go.Abs

/-! Sim2 -/

namespace Go.Abs
set_option linter.unusedSimpArgs false
set_option linter.unusedVariables false

section
variable {l l' : List Tok} {N : Nat} {A : Prop}

/-- What stands next on both sides. -/
def Next (N : Nat) (A : Prop) (r : Rd) (t t' : Tok) : Prop := TEq t t' ∨ (¬ A ∧ r.i = N ∧ Quiet t ∧ Quiet' t')

structure Near (N : Nat) (A : Prop) (r r' : Rd) : Prop where
  g : r'.good = r.good
  i : r'.i = r.i
  n : r'.n = r.n
  pk : ∀ t, r.peek = some t → ∃ t', r'.peek = some t' ∧ Next N A r t t'
  pk2 : ∀ t, r.peek = some t → t.kind = 1 → ∀ u, getO r.l (r.i + 1) = some u → ∃ u', getO r'.l (r'.i + 1) = some u' ∧ (TEq u u' ∨ Quiet u ∧ Quiet' u')

theorem TEq.refl (t : Tok) : TEq t t := ⟨rfl, rfl, rfl⟩
theorem Near.refl (r : Rd) : Near N A r r := ⟨rfl, rfl, rfl, fun t h => ⟨t, h, .inl (TEq.refl t)⟩, fun t _ _ u h => ⟨u, h, .inl (TEq.refl u)⟩⟩

theorem near_of (E : Env l l' N A) {r r' : Rd} (h : SR l l' N A r r') (hc : Cnd N A r) : Near N A r r' := by
  refine ⟨h.goods hc, (h hc).ei, (h hc).en, fun t ht => ?_, fun t ht hk u hu => ?_⟩
  · rcases hc.cases with hi | ⟨hA, hi⟩
    · obtain ⟨t', e, te⟩ := peek_low E h hc hi ht
      exact ⟨t', e, .inl te⟩
    · obtain ⟨q, t', e, q'⟩ := peek_at E h hc hA hi ht
      exact ⟨t', e, .inr ⟨hA, hi, q, q'⟩⟩
  · have R := h hc
    have hlow : A ∨ r.i < N := by
      rcases hc.cases with hi | ⟨hA, hi⟩
      · exact hi
      · obtain ⟨q, _⟩ := peek_at E h hc hA hi ht
        rcases q with q | q
        · omega
        · omega
    obtain ⟨h1, h2⟩ := getO_some hu
    rw [R.el] at h2
    rw [R.el', R.ei]
    by_cases hA : A
    · obtain ⟨u', e, te⟩ := E.low _ _ h2 (.inl hA)
      exact ⟨u', getO_eq h1 e, .inl te⟩
    · rcases Nat.lt_or_ge (r.i + 1) N with hj | hj
      · obtain ⟨u', e, te⟩ := E.low _ _ h2 (.inr hj)
        exact ⟨u', getO_eq h1 e, .inl te⟩
      · have e1 : r.i + 1 = N := by rcases hlow with f | f; exact absurd f hA; omega
        obtain ⟨v, v', f1, f2, q1, q2⟩ := E.at' hA
        rw [e1] at h2 h1
        rw [f1] at h2
        cases h2
        rw [e1]
        exact ⟨v', getO_eq h1 f2, .inr ⟨q1, q2⟩⟩

theorem Sim.wl {α : Type} (E : Env l l' N A) {r r' : Rd} (h : SR l l' N A r r') {F G : Rd → Option (α × Rd)} (k : ∀ r'', SR l l' N A r r'' → Near N A r r'' → Sim l l' N A r (F r) (G r'')) : Sim l l' N A r (F r) (G r') := by
  by_cases hc : Cnd N A r
  · exact k r' h (near_of E h hc)
  · intro p hp
    obtain ⟨a, b, _⟩ := k r (fun c => absurd c hc) (Near.refl r) p hp
    exact ⟨a, b, fun c => absurd (c.back a b) hc⟩

theorem Sim.void {α : Type} {r : Rd} {o o' o'' : Option (α × Rd)} (h : Sim l l' N A r o o'') (k : ∀ p, o = some p → ¬ Cnd N A p.2) : Sim l l' N A r o o' := by
  intro p hp
  obtain ⟨a, b, _⟩ := h p hp
  exact ⟨a, b, fun c => absurd c (k p hp)⟩

theorem Sim.askP {α : Type} {r r' : Rd} (nr : Near N A r r') {f f' : Tok → Option (α × Rd)} (k : ∀ t t', r.peek = some t → r'.peek = some t' → Next N A r t t' → Sim l l' N A r (f t) (f' t')) :
    Sim l l' N A r (r.peek.bind f) (r'.peek.bind f') := by
  intro p hp
  rw [Option.bind_eq_some_iff] at hp
  obtain ⟨t, ht, hp⟩ := hp
  obtain ⟨t', ht', q⟩ := nr.pk t ht
  have := k t t' ht ht' q p hp
  rw [ht', Option.bind_some]
  exact this

theorem Quiet.k1 {t : Tok} (h : Quiet t) : (t.kind == 1) = false := by rcases h with h | ⟨h, _⟩ <;> simp [h]
theorem Quiet.k2 {t : Tok} (h : Quiet t) : (t.kind == 2) = false := by rcases h with h | ⟨h, _⟩ <;> simp [h]
theorem Quiet'.k1 {t : Tok} (h : Quiet' t) : (t.kind == 1) = false := by rcases h with h | ⟨h, _⟩ <;> simp [h]
theorem Quiet'.k2 {t : Tok} (h : Quiet' t) : (t.kind == 2) = false := by rcases h with h | ⟨h, _⟩ <;> simp [h]
theorem Quiet.op {t : Tok} (h : Quiet t) : opOf t = (0, 0) := by
  rcases h with h | ⟨h, e⟩
  · simp [opOf, h]
  · simp only [opOf, h, e]; decide
theorem Quiet'.op {t : Tok} (h : Quiet' t) : opOf t = (0, 0) := by rcases h with h | ⟨h, _⟩ <;> simp [opOf, h]
theorem TEq.op {t t' : Tok} (h : TEq t t') : opOf t' = opOf t := by simp only [opOf, h.k, h.x]

theorem bad_ret {α : Type} (E : Env l l' N A) {r r' : Rd} (h : SR l l' N A r r') {c : Int} (hc : c = 3 ∨ c = 4) (a : α) : Sim l l' N A r ((r.bad c).bind fun r => some (a, r)) ((r'.bad c).bind fun r => some (a, r)) :=
  (bad_sim E h hc).bind fun q q' hq => Sim.ret _ hq

theorem name_sim (E : Env l l' N A) {r r' : Rd} (h : SR l l' N A r r') (room : Bool) : Sim l l' N A r (r.name room) (r'.name room) := by
  refine Sim.wl E h (F := fun r => r.name room) (G := fun r => r.name room) fun r' h nr => ?_
  unfold Rd.name
  refine Sim.askP nr fun t t' ht ht' q => ?_
  rw [nr.g]
  rcases q with te | ⟨_, _, q, q'⟩
  · rw [te.k, te.x, nr.i]
    exact Sim.ite (fun _ => bad_ret E h (by decide) _) fun _ => Sim.ite (fun _ => bad_ret E h (by decide) _) fun _ => Sim.on _ h _ _ (Nat.le_succ _) fun _ => rfl
  · have e1 : (t.kind != 1) = true := by have := q.k1; simpa using this
    have e2 : (t'.kind != 1) = true := by have := q'.k1; simpa using this
    rw [e1, e2, Bool.or_true, if_pos rfl, if_pos rfl]
    exact bad_ret E h (by decide) _

theorem expr_sim (E : Env l l' N A) : ∀ n : Nat, (∀ r r' : Rd, SR l l' N A r r' → Sim l l' N A r (Rd.one n r) (Rd.one n r')) ∧ (∀ (r r' : Rd) (k : Int), SR l l' N A r r' → Sim l l' N A r (Rd.two n k r) (Rd.two n k r')) ∧
    (∀ (r r' : Rd) (k : Int) (x : Ex), SR l l' N A r r' → Sim l l' N A r (Rd.twoL n k x r) (Rd.twoL n k x r')) := by
  intro n
  induction n with
  | zero => exact ⟨fun r r' _ => by simp only [Rd.one]; exact Sim.non, fun r r' k _ => by simp only [Rd.two]; exact Sim.non, fun r r' k x _ => by simp only [Rd.twoL]; exact Sim.non⟩
  | succ n ih =>
    obtain ⟨ih1, ih2, ih3⟩ := ih
    refine ⟨fun r r' h => ?_, fun r r' k h => ?_, fun r r' k x h => ?_⟩
    · refine Sim.wl E h (F := Rd.one (n + 1)) (G := Rd.one (n + 1)) fun r' h nr => ?_
      simp only [Rd.one]
      refine Sim.askP nr fun t t' ht ht' q => ?_
      rw [nr.g, nr.i]
      refine Sim.ite (fun _ => Sim.ret _ h) fun _ => ?_
      have tail : Sim l l' N A r ((r.take [40]).bind fun p =>
        if p.1 then (Rd.two n 1 p.2).bind fun x => (x.2.want [41]).bind fun r => some (x.1, r)
        else (p.2.take [45]).bind fun p =>
          if p.1 then (Rd.one n p.2).bind fun x => some ((⟨3, 0, [], [x.1]⟩ : Ex), x.2)
          else (p.2.take [33]).bind fun p =>
            if p.1 then (Rd.one n p.2).bind fun x => some (⟨4, 0, [], [x.1]⟩, x.2)
            else (p.2.bad 3).bind fun r => some (ex0, r)) ((r'.take [40]).bind fun p =>
        if p.1 then (Rd.two n 1 p.2).bind fun x => (x.2.want [41]).bind fun r => some (x.1, r)
        else (p.2.take [45]).bind fun p =>
          if p.1 then (Rd.one n p.2).bind fun x => some ((⟨3, 0, [], [x.1]⟩ : Ex), x.2)
          else (p.2.take [33]).bind fun p =>
            if p.1 then (Rd.one n p.2).bind fun x => some (⟨4, 0, [], [x.1]⟩, x.2)
            else (p.2.bad 3).bind fun r => some (ex0, r)) := by
        refine (take_sim E h (by decide) (by decide)).bind fun a q q' hq => Sim.ite (fun _ => ?_) fun _ => ?_
        · refine (ih2 _ _ _ hq).bind fun x s s' hs => ?_
          exact (want_sim E hs (by decide) (by decide)).bind fun u u' hu => Sim.ret _ hu
        refine (take_sim E hq (by decide) (by decide)).bind fun a q q' hq => Sim.ite (fun _ => ?_) fun _ => ?_
        · exact (ih1 _ _ hq).bind fun x s s' hs => Sim.ret _ hs
        refine (take_sim E hq (by decide) (by decide)).bind fun a q q' hq => Sim.ite (fun _ => ?_) fun _ => ?_
        · exact (ih1 _ _ hq).bind fun x s s' hs => Sim.ret _ hs
        · exact bad_ret E hq (by decide) _
      rcases q with te | ⟨_, _, q, q'⟩
      · rw [te.k, te.x, te.n]
        exact Sim.ite (fun _ => Sim.on _ h _ _ (Nat.le_succ _) fun _ => rfl) fun _ => Sim.ite (fun _ => Sim.on _ h _ _ (Nat.le_succ _) fun _ => rfl) fun _ => tail
      · simp only [q.k1, q.k2, q'.k1, q'.k2, Bool.false_eq_true, ↓reduceIte]
        exact tail
    · simp only [Rd.two]
      exact (ih1 _ _ h).bind fun x s s' hs => ih3 _ _ _ _ hs
    · refine Sim.wl E h (F := Rd.twoL (n + 1) k x) (G := Rd.twoL (n + 1) k x) fun r' h nr => ?_
      simp only [Rd.twoL]
      rw [nr.g, nr.i]
      refine Sim.ite (fun _ => ?_) fun _ => Sim.ret _ h
      refine Sim.askP nr fun t t' ht ht' q => ?_
      rcases q with te | ⟨_, _, q, q'⟩
      · rw [te.op]
        refine Sim.ite (fun _ => Sim.ret _ h) fun _ => ?_
        intro p hp
        have hs : SR l l' N A { r with i := r.i + 1 } { r' with i := r.i + 1 } := h.set _ (Nat.le_succ _)
        obtain ⟨a, b, c⟩ := (Sim.bind (f := fun y => Rd.twoL n k ⟨(opOf t).1, 0, [], [x, y.1]⟩ y.2) (f' := fun y => Rd.twoL n k ⟨(opOf t).1, 0, [], [x, y.1]⟩ y.2) (ih2 _ _ ((opOf t).2 + 1) hs) fun y q q' hq => ih3 _ _ k _ hq) p hp
        exact ⟨Nat.le_trans (Nat.le_succ _) a, b, c⟩
      · rw [q.op, q'.op]
        have e : (decide ((0 : Int) < k) || (0 : Int) == 0) = true := by simp
        simp only [e, ↓reduceIte]
        exact Sim.ret _ h

theorem whole_sim (E : Env l l' N A) {n : Nat} {r r' : Rd} (h : SR l l' N A r r') : Sim l l' N A r (Rd.whole n r) (Rd.whole n r') := by
  refine Sim.wl E h (F := Rd.whole n) (G := Rd.whole n) fun r' h nr => ?_
  unfold Rd.whole
  refine Sim.askP nr fun t t' ht ht' q => ?_
  refine ((expr_sim E n).2.1 _ _ _ h).bind fun x s s' hs => ?_
  refine Sim.iteG hs (fun hg => Sim.same fun d _ => Sim.ite (fun _ => ?_) fun _ => Sim.ret _ hs) fun _ => Sim.ret _ hs
  intro p hp
  cases hp
  have hf : ({ s with code := 4, fat := t.pos } : Rd).good = false := rfl
  refine ⟨Nat.le_refl _, fun _ => hg, fun hc => ?_⟩
  rcases hc with hA | ⟨g, _⟩
  · have R := hs (.inl hA)
    have R0 := h (.inl hA)
    refine ⟨_, rfl, R.el, R.el', R.ei, R.en, rfl, .inr ⟨.inr rfl, r.i, t, t', ?_, ?_, rfl, rfl⟩⟩
    · have := (peek_get ht).2.1; rw [R0.el] at this; exact this
    · have := (peek_get ht').2.1; rw [R0.el', R0.ei] at this; exact this
  · rw [hf] at g; cases g

theorem names_sim (E : Env l l' N A) {most : Int} : ∀ (n : Nat) (L : List Str) (r r' : Rd), SR l l' N A r r' → Sim l l' N A r (Rd.names n L most r) (Rd.names n L most r') := by
  intro n
  induction n with
  | zero => intro L r r' _; simp only [Rd.names]; exact Sim.non
  | succ n ih =>
    intro L r r' h
    simp only [Rd.names]
    refine Sim.iteG h (fun _ => ?_) fun _ => Sim.ret _ h
    exact (name_sim E h _).bind fun a q q' hq => Sim.same fun L' _ => (take_sim E hq (by decide) (by decide)).bind fun b s s' hs =>
      Sim.ite (fun _ => (want_sim E hs (by decide) (by decide)).bind fun u u' hu => Sim.ret _ hu) fun _ => ih _ _ _ hs

theorem ahead_sim (E : Env l l' N A) {r r' : Rd} {s : Str} (nr : Near N A r r') (h1 : s ≠ [125]) {b : Bool} (hb : r.ahead s = some b) : r'.ahead s = some b := by
  unfold Rd.ahead at hb ⊢
  rw [nr.g]
  cases hg : r.good
  · simp only [hg, Bool.false_eq_true, ↓reduceIte] at hb ⊢; exact hb
  · simp only [hg, ↓reduceIte] at hb ⊢
    rw [Option.bind_eq_some_iff] at hb
    obtain ⟨t, ht, hb⟩ := hb
    obtain ⟨t', ht', q⟩ := nr.pk t ht
    rw [ht', Option.bind_some]
    rcases q with te | ⟨_, _, q, q'⟩
    · rw [te.k]
      cases hk : t.kind == 1
      · simp only [hk, Bool.false_eq_true, ↓reduceIte] at hb ⊢; exact hb
      · simp only [hk, ↓reduceIte] at hb ⊢
        rw [Option.bind_eq_some_iff] at hb
        obtain ⟨u, hu, hb⟩ := hb
        obtain ⟨u', hu', qu⟩ := nr.pk2 t ht (by simpa using hk) u hu
        rw [hu', Option.bind_some]
        rcases qu with te | ⟨q, q'⟩
        · rw [te.k, te.x]; exact hb
        · cases hb
          have a1 : (u.kind == 4 && u.text == s) = false := by
            rcases q with q | ⟨_, q⟩
            · simp [q]
            · have : (u.text == s) = false := by rw [q]; simpa using fun e => h1 e.symm
              simp [this]
          have a2 : (u'.kind == 4 && u'.text == s) = false := by rcases q' with q | ⟨q, _⟩ <;> simp [q]
          rw [a1, a2]
    · rw [q.k1] at hb
      rw [q'.k1]
      simpa using hb

theorem labels_sim (E : Env l l' N A) : ∀ (n : Nat) (L : List Str) (r r' : Rd), SR l l' N A r r' → Sim l l' N A r (Rd.labels n L r) (Rd.labels n L r') := by
  intro n
  induction n with
  | zero => intro L r r' _; simp only [Rd.labels]; exact Sim.non
  | succ n ih =>
    intro L r r' h
    refine Sim.wl E h (F := Rd.labels (n + 1) L) (G := Rd.labels (n + 1) L) fun r' h nr => ?_
    simp only [Rd.labels]
    refine Sim.ask (fun b hb _ => ahead_sim E nr (by decide) hb) fun b hb => Sim.ite (fun hbt => ?_) fun _ => Sim.ret _ h
    refine Sim.askP nr fun t t' ht ht' q => ?_
    have hx : t'.text = t.text := by
      rcases q with te | ⟨_, _, q, _⟩
      · exact te.x
      · exfalso
        subst hbt
        unfold Rd.ahead at hb
        split at hb
        · rw [ht, Option.bind_some, q.k1] at hb
          simp at hb
        · cases hb
    rw [hx, nr.i]
    refine Sim.same fun L' _ => ?_
    intro p hp
    obtain ⟨a, b, c⟩ := ih L' _ _ (h.set (r.i + 2) (by omega)) p hp
    exact ⟨Nat.le_trans (by dsimp only; omega) a, b, c⟩
end

end Go.Abs

/-! Sim3 -/

namespace Go.Abs
set_option linter.unusedSimpArgs false
set_option linter.unusedVariables false

section
variable {l l' : List Tok} {N : Nat} {A : Prop}

theorem callL_sim (E : Env l l' N A) {m : Nat} : ∀ (n : Nat) (L : List Ar) (r r' : Rd), SR l l' N A r r' → Sim l l' N A r (Rd.callL m n L r) (Rd.callL m n L r') := by
  intro n
  induction n with
  | zero => intro L r r' _; simp only [Rd.callL]; exact Sim.non
  | succ n ih =>
    intro L r r' h
    simp only [Rd.callL]
    refine Sim.iteG h (fun _ => ?_) fun _ => Sim.ret _ h
    refine (take_sim E h (by decide) (by decide)).bind fun a q q' hq => Sim.ite (fun _ => ?_) fun _ => ?_
    · refine (name_sim E hq _).bind fun b s s' hs => Sim.same fun L' _ => ?_
      exact (take_sim E hs (by decide) (by decide)).bind fun c u u' hu => Sim.ite (fun _ => Sim.ret _ hu) fun _ => ih _ _ _ hu
    · refine (whole_sim E hq).bind fun b s s' hs => Sim.same fun L' _ => ?_
      exact (take_sim E hs (by decide) (by decide)).bind fun c u u' hu => Sim.ite (fun _ => Sim.ret _ hu) fun _ => ih _ _ _ hu

theorem other_sim (E : Env l l' N A) {r r' : Rd} (h : SR l l' N A r r') {s : Str} (h1 : s ≠ [125]) (h2 : s ≠ [112, 114, 111, 99]) {b : Bool} (hb : r.other s = some b) (hc : Cnd N A r) : r'.other s = some b := by
  unfold Rd.other at hb ⊢
  rw [h.goods hc]
  cases hg : r.good
  · simp only [hg, Bool.false_eq_true, ↓reduceIte] at hb ⊢; exact hb
  · simp only [hg, ↓reduceIte] at hb ⊢
    rw [Option.bind_eq_some_iff] at hb
    obtain ⟨c, h3, hb⟩ := hb
    rw [is_sim E h h1 h2 h3 hc]
    exact hb

theorem call_sim (E : Env l l' N A) {m : Nat} {name proc : Str} {r r' : Rd} (h : SR l l' N A r r') : Sim l l' N A r (Rd.call m name proc r) (Rd.call m name proc r') := by
  unfold Rd.call
  refine (want_sim E h (by decide) (by decide)).bind fun q q' hq => ?_
  refine Sim.ask (fun b hb hc => other_sim E hq (by decide) (by decide) hb hc) fun b _ => Sim.ite (fun _ => ?_) fun _ => ?_
  · refine (callL_sim E _ _ _ _ hq).bind fun a s s' hs => ?_
    exact (want_sim E hs (by decide) (by decide)).bind fun u u' hu => (want_sim E hu (by decide) (by decide)).bind fun v v' hv => Sim.ret _ hv
  · exact (want_sim E hq (by decide) (by decide)).bind fun u u' hu => (want_sim E hu (by decide) (by decide)).bind fun v v' hv => Sim.ret _ hv

theorem Sim.aheadB {α : Type} (E : Env l l' N A) {r r' : Rd} (h : SR l l' N A r r') {s : Str} (h1 : s ≠ [125]) {f f' : Bool → Option (α × Rd)} (k : ∀ b, Sim l l' N A r (f b) (f' b)) : Sim l l' N A r ((r.ahead s).bind f) ((r'.ahead s).bind f') :=
  Sim.ask (fun b hb hc => ahead_sim E (near_of E h hc) h1 hb) fun b _ => k b

theorem named_sim (E : Env l l' N A) {m : Nat} {r r' : Rd} (h : SR l l' N A r r') : Sim l l' N A r (Rd.named m r) (Rd.named m r') := by
  unfold Rd.named
  refine (name_sim E h _).bind fun a q q' hq => ?_
  refine Sim.ask (fun b hb hc => is_sim E hq (by decide) (by decide) hb hc) fun b _ => Sim.ite (fun _ => call_sim E hq) fun _ => ?_
  refine (want_sim E hq (by decide) (by decide)).bind fun u u' hu => ?_
  refine Sim.aheadB E hu (by decide) fun b => Sim.ite (fun _ => ?_) fun _ => ?_
  · exact (name_sim E hu _).bind fun c s s' hs => call_sim E hs
  · exact (whole_sim E hu).bind fun c s s' hs => (want_sim E hs (by decide) (by decide)).bind fun v v' hv => Sim.ret _ hv

theorem plain_sim (E : Env l l' N A) {m : Nat} {word : Str} {r r' : Rd} (h : SR l l' N A r r') : Sim l l' N A r (Rd.plain m word r) (Rd.plain m word r') := by
  unfold Rd.plain
  refine Sim.ite (fun _ => Sim.ret _ h) fun _ => Sim.ite (fun _ => Sim.ret _ h) fun _ => Sim.ite (fun _ => ?_) fun _ => ?_
  · refine Sim.ask (fun b hb hc => is_sim E h (by decide) (by decide) hb hc) fun b _ => Sim.ite (fun _ => ?_) fun _ => Sim.ret _ h
    exact (whole_sim E h).bind fun a s s' hs => Sim.ret _ hs
  refine Sim.ite (fun _ => (name_sim E h _).bind fun a s s' hs => Sim.ret _ hs) fun _ => Sim.ite (fun _ => (name_sim E h _).bind fun a s s' hs => Sim.ret _ hs) fun _ => Sim.ite (fun _ => ?_) fun _ => Sim.ret _ h
  exact (whole_sim E h).bind fun a s s' hs => Sim.ret _ hs

theorem head_sim (E : Env l l' N A) {m : Nat} {r r' : Rd} (h : SR l l' N A r r') : Sim l l' N A r (Rd.head m r) (Rd.head m r') := by
  unfold Rd.head
  refine (want_sim E h (by decide) (by decide)).bind fun q q' hq => ?_
  exact (whole_sim E hq).bind fun a s s' hs => (want_sim E hs (by decide) (by decide)).bind fun v v' hv => Sim.ret _ hv

theorem begins_sim {r r' : Rd} (nr : Near N A r r') {b : Bool} (hb : r.begins = some b) : r'.begins = some b := by
  unfold Rd.begins at hb ⊢
  rw [Option.bind_eq_some_iff] at hb
  obtain ⟨t, ht, hb⟩ := hb
  obtain ⟨t', ht', q⟩ := nr.pk t ht
  rw [ht', Option.bind_some]
  rcases q with te | ⟨_, _, q, q'⟩
  · rw [te.k, te.x]; exact hb
  · cases hb
    have e1 : (t.kind != 3) = true := by rcases q with q | ⟨q, _⟩ <;> simp [q]
    simp only [q.k1, q'.k1, e1, Bool.false_eq_true, ↓reduceIte]
    rcases q' with q | ⟨q, e⟩
    · simp [q]
    · rw [q, e]; rfl

theorem SR.setn {r r' : Rd} (h : SR l l' N A r r') (k : Nat) : SR l l' N A { r with n := k } { r' with n := k } := by
  intro hc
  have := h (hc.back (r := r) (Nat.le_refl _) id)
  exact ⟨this.el, this.el', this.ei, rfl, this.ec, this.ef⟩
/-- The same, from a state in which only the count or the place is another one. -/
theorem Sim.from {α : Type} {r s : Rd} {o o' : Option (α × Rd)} (h : Sim l l' N A s o o') (hi : r.i ≤ s.i) (hg : s.good = true → r.good = true) : Sim l l' N A r o o' := by
  intro p hp
  obtain ⟨a, b, c⟩ := h p hp
  exact ⟨Nat.le_trans hi a, fun g => hg (b g), c⟩

/-- At the place no statement begins. -/
theorem stmt_quiet {m n : Nat} {nest : Int} {r : Rd} {t : Tok} (ht : r.peek = some t) (q : Quiet t) {p : Sm × Rd} (hp : Rd.stmt m n nest r = some p) : p.2.good = false := by
  cases n with
  | zero => simp only [Rd.stmt] at hp; cases hp
  | succ n =>
    have e1 : (t.kind != 3) = true := by rcases q with q | ⟨q, _⟩ <;> simp [q]
    simp only [Rd.stmt, Rd.begins, ht, Option.bind_some, q.k1, e1, Bool.false_eq_true, ↓reduceIte, Bool.not_false] at hp
    rw [Option.bind_eq_some_iff] at hp
    obtain ⟨r1, h1, hp⟩ := hp
    cases hp
    unfold Rd.bad at h1
    split at h1
    · rw [ht, Option.bind_some] at h1
      cases h1; rfl
    · rename_i hg
      cases h1
      simpa using hg

theorem rowsL_bad {m n : Nat} {nest : Int} {body : Bool} {out : List Sm} {r : Rd} (hg : r.good = false) {p : (List Sm × List Str) × Rd} (hp : Rd.rowsL m n nest body out r = some p) : p.2.good = false := by
  cases n with
  | zero => simp only [Rd.rowsL] at hp; cases hp
  | succ n =>
    simp only [Rd.rowsL, hg, Bool.false_eq_true, ↓reduceIte] at hp
    cases hp
    exact hg

theorem stmts_sim (E : Env l l' N A) {m : Nat} : ∀ n : Nat,
    (∀ (nest : Int) (body : Bool) (r r' : Rd), SR l l' N A r r' → Sim l l' N A r (Rd.rows m n nest body r) (Rd.rows m n nest body r')) ∧
    (∀ (nest : Int) (body : Bool) (out : List Sm) (r r' : Rd), SR l l' N A r r' → Sim l l' N A r (Rd.rowsL m n nest body out r) (Rd.rowsL m n nest body out r')) ∧
    (∀ (nest : Int) (r r' : Rd), SR l l' N A r r' → Sim l l' N A r (Rd.stmt m n nest r) (Rd.stmt m n nest r')) ∧
    (∀ (nest : Int) (r r' : Rd), SR l l' N A r r' → Sim l l' N A r (Rd.block m n nest r) (Rd.block m n nest r')) ∧
    (∀ (nest : Int) (r r' : Rd), SR l l' N A r r' → Sim l l' N A r (Rd.choice m n nest r) (Rd.choice m n nest r')) := by
  intro n
  induction n with
  | zero =>
    refine ⟨fun _ _ r r' _ => ?_, fun _ _ _ r r' _ => ?_, fun _ r r' _ => ?_, fun _ r r' _ => ?_, fun _ r r' _ => ?_⟩
    · simp only [Rd.rows]; exact Sim.non
    · simp only [Rd.rowsL]; exact Sim.non
    · simp only [Rd.stmt]; exact Sim.non
    · simp only [Rd.block]; exact Sim.non
    · simp only [Rd.choice]; exact Sim.non
  | succ n ih =>
    obtain ⟨i1, i2, i3, i4, i5⟩ := ih
    refine ⟨fun nest body r r' h => ?_, fun nest body out r r' h => ?_, fun nest r r' h => ?_, fun nest r r' h => ?_, fun nest r r' h => ?_⟩
    · simp only [Rd.rows]
      exact i2 _ _ _ _ _ h
    · simp only [Rd.rowsL]
      refine Sim.iteG h (fun hg => ?_) fun _ => Sim.ret _ h
      refine (labels_sim E m [] _ _ h).bind fun ls q q' hq => ?_
      have go : ∀ (q' : Rd) (b : Bool), SR l l' N A q q' → q'.i = q.i → Sim l l' N A q (if b && (body || (ls.length : Int) == 0) then some ((out, ls), { q with i := q.i + 1 }) else (Rd.stmt m n nest q).bind fun s => (push 209 out { s.1 with labels := ls }).bind fun out => Rd.rowsL m n nest body out s.2)
          (if b && (body || (ls.length : Int) == 0) then some ((out, ls), { q' with i := q'.i + 1 }) else (Rd.stmt m n nest q').bind fun s => (push 209 out { s.1 with labels := ls }).bind fun out => Rd.rowsL m n nest body out s.2) := by
        intro q' b hq hi
        refine Sim.ite (fun _ => Sim.on _ hq _ _ (Nat.le_succ _) fun _ => by rw [hi]) fun _ => ?_
        exact (i3 _ _ _ hq).bind fun s u u' hu => Sim.same fun out' _ => i2 _ _ _ _ _ hu
      have := Sim.wl E hq (F := fun q => (q.is [125]).bind fun b => if b && (body || (ls.length : Int) == 0) then some ((out, ls), { q with i := q.i + 1 }) else (Rd.stmt m n nest q).bind fun s => (push 209 out { s.1 with labels := ls }).bind fun out => Rd.rowsL m n nest body out s.2)
        (G := fun q => (q.is [125]).bind fun b => if b && (body || (ls.length : Int) == 0) then some ((out, ls), { q with i := q.i + 1 }) else (Rd.stmt m n nest q).bind fun s => (push 209 out { s.1 with labels := ls }).bind fun out => Rd.rowsL m n nest body out s.2) fun q' hq nr => by
          unfold Rd.is
          rw [Option.bind_assoc, Option.bind_assoc]
          refine Sim.askP nr fun t t' ht ht' x => ?_
          rw [Option.bind_some, Option.bind_some]
          rcases x with te | ⟨hA, hN, x, x'⟩
          · rw [te.k, te.x]
            exact go q' _ hq nr.i
          · refine Sim.void (go q' _ hq nr.i) fun p hp hc => ?_
            rcases hc with hc | ⟨hg2, hi2⟩
            · exact hA hc
            · split at hp
              · cases hp
                dsimp only at hi2
                omega
              · rw [Option.bind_eq_some_iff] at hp
                obtain ⟨s, h1, hp⟩ := hp
                rw [Option.bind_eq_some_iff] at hp
                obtain ⟨out', _, hp⟩ := hp
                have := rowsL_bad (stmt_quiet ht x h1) hp
                rw [this] at hg2; cases hg2
      exact this
    · refine Sim.wl E h (F := Rd.stmt m (n + 1) nest) (G := Rd.stmt m (n + 1) nest) fun r' h nr => ?_
      simp only [Rd.stmt]
      refine Sim.ask (fun b hb _ => begins_sim nr hb) fun b hb => Sim.ite (fun _ => bad_ret E h (by decide) _) fun hnb => ?_
      rw [nr.n]
      refine Sim.same fun k _ => ?_
      have hk := h.setn k
      refine Sim.ite (fun _ => (bad_ret E hk (by decide) _).from (Nat.le_refl _) id) fun _ => ?_
      have nk : Near N A { r with n := k } { r' with n := k } := ⟨nr.g, nr.i, rfl, nr.pk, nr.pk2⟩
      have hki : SR l l' N A { r with n := k, i := r.i + 1 } { r' with n := k, i := r'.i + 1 } := by
        have := hk.set (r.i + 1) (Nat.le_succ _)
        dsimp only at this
        rw [nr.i]
        exact this
      refine Sim.from (s := { r with n := k }) ?_ (Nat.le_refl _) id
      refine Sim.askP nk fun t t' ht ht' q => ?_
      have part : ∀ t : Tok, Sim l l' N A { r with n := k } (if t.kind == 1 then Rd.named m { r with n := k }
          else if t.text == [105, 102] then Rd.choice m n nest { r with n := k, i := r.i + 1 }
          else if t.text == [119, 104, 105, 108, 101] then (Rd.head m { r with n := k, i := r.i + 1 }).bind fun x => (Rd.block m n nest x.2).bind fun b => some (⟨0, 6, [], [], [], x.1, false, [], b.1, []⟩, b.2)
          else (Rd.plain m t.text { r with n := k, i := r.i + 1 }).bind fun s => (s.2.want [59]).bind fun r => some (s.1, r))
          (if t.kind == 1 then Rd.named m { r' with n := k }
          else if t.text == [105, 102] then Rd.choice m n nest { r' with n := k, i := r'.i + 1 }
          else if t.text == [119, 104, 105, 108, 101] then (Rd.head m { r' with n := k, i := r'.i + 1 }).bind fun x => (Rd.block m n nest x.2).bind fun b => some (⟨0, 6, [], [], [], x.1, false, [], b.1, []⟩, b.2)
          else (Rd.plain m t.text { r' with n := k, i := r'.i + 1 }).bind fun s => (s.2.want [59]).bind fun r => some (s.1, r)) := by
        intro t
        refine Sim.ite (fun _ => named_sim E hk) fun _ => Sim.from (s := { r with n := k, i := r.i + 1 }) ?_ (Nat.le_succ _) id
        refine Sim.ite (fun _ => i5 _ _ _ hki) fun _ => Sim.ite (fun _ => ?_) fun _ => ?_
        · exact (head_sim E hki).bind fun a s s' hs => (i4 _ _ _ hs).bind fun b u u' hu => Sim.ret _ hu
        · exact (plain_sim E hki).bind fun a s s' hs => (want_sim E hs (by decide) (by decide)).bind fun u u' hu => Sim.ret _ hu
      rcases q with te | ⟨hA, hN, q, q'⟩
      · rw [te.k, te.x]
        exact part t
      · exfalso
        have ht : r.peek = some t := ht
        have e1 : (t.kind != 3) = true := by rcases q with q | ⟨q, _⟩ <;> simp [q]
        simp only [Rd.begins, ht, Option.bind_some, q.k1, e1, Bool.false_eq_true, ↓reduceIte] at hb
        cases hb
        simp at hnb
    · simp only [Rd.block]
      refine (want_sim E h (by decide) (by decide)).bind fun q q' hq => Sim.same fun k _ => ?_
      exact (i1 _ _ _ _ hq).bind fun a s s' hs => Sim.ret _ hs
    · simp only [Rd.choice]
      refine (head_sim E h).bind fun a q q' hq => (i4 _ _ _ hq).bind fun b s s' hs => ?_
      refine (take_sim E hs (by decide) (by decide)).bind fun c u u' hu => Sim.ite (fun _ => ?_) fun _ => Sim.ret _ hu
      exact (i4 _ _ _ hu).bind fun d v v' hv => Sim.ret _ hv
end

end Go.Abs

/-! Sim4 -/

namespace Go.Abs
set_option linter.unusedSimpArgs false
set_option linter.unusedVariables false

section
variable {l l' : List Tok} {N : Nat} {A : Prop}

theorem params_sim (E : Env l l' N A) : ∀ (n : Nat) (L : List Pm) (r r' : Rd), SR l l' N A r r' → Sim l l' N A r (Rd.params n L r) (Rd.params n L r') := by
  intro n
  induction n with
  | zero => intro L r r' _; simp only [Rd.params]; exact Sim.non
  | succ n ih =>
    intro L r r' h
    simp only [Rd.params]
    refine Sim.iteG h (fun _ => ?_) fun _ => Sim.ret _ h
    refine (take_sim E h (by decide) (by decide)).bind fun a q q' hq => (name_sim E hq _).bind fun b s s' hs => Sim.same fun L' _ => ?_
    exact (take_sim E hs (by decide) (by decide)).bind fun c u u' hu => Sim.ite (fun _ => Sim.ret _ hu) fun _ => ih _ _ _ hu

theorem vars_sim (E : Env l l' N A) {m : Nat} : ∀ (n : Nat) (L : List Str) (r r' : Rd), SR l l' N A r r' → Sim l l' N A r (Rd.vars m n L r) (Rd.vars m n L r') := by
  intro n
  induction n with
  | zero => intro L r r' _; simp only [Rd.vars]; exact Sim.non
  | succ n ih =>
    intro L r r' h
    simp only [Rd.vars]
    refine (take_sim E h (by decide) (by decide)).bind fun a q q' hq => Sim.ite (fun _ => ?_) fun _ => Sim.ret _ hq
    exact (names_sim E _ _ _ _ hq).bind fun b s s' hs => ih _ _ _ hs

theorem globals_sim (E : Env l l' N A) {m : Nat} : ∀ (n : Nat) (L : List Str) (r r' : Rd), SR l l' N A r r' → Sim l l' N A r (Rd.globals m n L r) (Rd.globals m n L r') := by
  intro n
  induction n with
  | zero => intro L r r' _; simp only [Rd.globals]; exact Sim.non
  | succ n ih =>
    intro L r r' h
    simp only [Rd.globals]
    refine (take_sim E h (by decide) (by decide)).bind fun a q q' hq => Sim.ite (fun _ => ?_) fun _ => Sim.ret _ hq
    exact (names_sim E _ _ _ _ hq).bind fun b s s' hs => ih _ _ _ hs

theorem procB_sim (E : Env l l' N A) {m : Nat} {name : Str} {ps : List Pm} {r r' : Rd} (h : SR l l' N A r r') : Sim l l' N A r (Rd.procB m name ps r) (Rd.procB m name ps r') := by
  unfold Rd.procB
  exact (vars_sim E _ _ _ _ h).bind fun a q q' hq => ((stmts_sim E _).1 _ _ _ _ hq).bind fun b s s' hs => Sim.ret _ hs

theorem proc_sim (E : Env l l' N A) {m : Nat} {r r' : Rd} (h : SR l l' N A r r') : Sim l l' N A r (Rd.proc m r) (Rd.proc m r') := by
  unfold Rd.proc
  refine (name_sim E h _).bind fun a q q' hq => (want_sim E hq (by decide) (by decide)).bind fun u u' hu => ?_
  refine Sim.ask (fun b hb hc => other_sim E hu (by decide) (by decide) hb hc) fun b _ => Sim.ite (fun _ => ?_) fun _ => ?_
  · refine (params_sim E _ _ _ _ hu).bind fun c s s' hs => (want_sim E hs (by decide) (by decide)).bind fun v v' hv => ?_
    exact (want_sim E hv (by decide) (by decide)).bind fun w w' hw => procB_sim E hw
  · exact (want_sim E hu (by decide) (by decide)).bind fun v v' hv => (want_sim E hv (by decide) (by decide)).bind fun w w' hw => procB_sim E hw

/-! ### Everywhere alike -/

end

end Go.Abs

/-! MayLaw -/

namespace Go.Abs
set_option linter.unusedSimpArgs false
set_option linter.unusedVariables false

/-- The tokens are such as the lexer makes. -/
def TKs (l : List Tok) : Prop := ∀ t ∈ l, (t.kind = 1 → isName t.text = true) ∧ (t.kind = 2 → 0 ≤ t.n)

/-- Where it ends well, it began well, and this holds. -/
def GK {α : Type} (r : Rd) (o : Option (α × Rd)) (Q : α → Prop) : Prop := ∀ p, o = some p → p.2.l = r.l ∧ (p.2.good = true → r.good = true ∧ Q p.1)
def GKR (r : Rd) (o : Option Rd) : Prop := ∀ p, o = some p → p.l = r.l ∧ (p.good = true → r.good = true)

theorem GK.bind {α β : Type} {r : Rd} {o : Option (α × Rd)} {f : α × Rd → Option (β × Rd)} {Q : α → Prop} {R : β → Prop} (h : GK r o Q) (k : ∀ a q, q.l = r.l → (q.good = true → r.good = true ∧ Q a) → GK q (f (a, q)) R) : GK r (o.bind f) R := by
  intro p hp
  rw [Option.bind_eq_some_iff] at hp
  obtain ⟨⟨a, q⟩, h1, h2⟩ := hp
  obtain ⟨e, g⟩ := h _ h1
  obtain ⟨e2, g2⟩ := k a q e g _ h2
  exact ⟨e2.trans e, fun hg => ⟨(g (g2 hg).1).1, (g2 hg).2⟩⟩
theorem GKR.bind {β : Type} {r : Rd} {o : Option Rd} {f : Rd → Option (β × Rd)} {R : β → Prop} (h : GKR r o) (k : ∀ q, q.l = r.l → (q.good = true → r.good = true) → GK q (f q) R) : GK r (o.bind f) R := by
  intro p hp
  rw [Option.bind_eq_some_iff] at hp
  obtain ⟨q, h1, h2⟩ := hp
  obtain ⟨e, g⟩ := h _ h1
  obtain ⟨e2, g2⟩ := k q e g _ h2
  exact ⟨e2.trans e, fun hg => ⟨g (g2 hg).1, (g2 hg).2⟩⟩
theorem GK.ask {α β : Type} {r : Rd} {o : Option α} {f : α → Option (β × Rd)} {R : β → Prop} (k : ∀ a, o = some a → GK r (f a) R) : GK r (o.bind f) R := by
  intro p hp
  rw [Option.bind_eq_some_iff] at hp
  obtain ⟨a, h1, h2⟩ := hp
  exact k a h1 _ h2
theorem GK.ret {α : Type} {r : Rd} {a : α} {Q : α → Prop} (h : r.good = true → Q a) : GK r (some (a, r)) Q := fun p hp => by cases hp; exact ⟨rfl, fun g => ⟨g, h g⟩⟩
theorem GK.on {α : Type} {r : Rd} {a : α} {Q : α → Prop} (i : Nat) (h : r.good = true → Q a) : GK r (some (a, { r with i := i })) Q := fun p hp => by cases hp; exact ⟨rfl, fun g => ⟨g, h g⟩⟩
theorem GK.non {α : Type} {r : Rd} {Q : α → Prop} : GK r (none : Option (α × Rd)) Q := fun p hp => by cases hp
theorem GK.ite {α : Type} {r : Rd} {c : Prop} [Decidable c] {a b : Option (α × Rd)} {Q : α → Prop} (h1 : c → GK r a Q) (h2 : ¬ c → GK r b Q) : GK r (if c then a else b) Q := by
  by_cases h : c
  · rw [if_pos h]; exact h1 h
  · rw [if_neg h]; exact h2 h
theorem GK.mono {α : Type} {r : Rd} {o : Option (α × Rd)} {Q R : α → Prop} (h : GK r o Q) (k : ∀ a, Q a → R a) : GK r o R := fun p hp => ⟨(h p hp).1, fun g => ⟨((h p hp).2 g).1, k _ ((h p hp).2 g).2⟩⟩
/-- From a state that differs in the place and the count alone. -/
theorem GK.from {α : Type} {r s : Rd} {o : Option (α × Rd)} {Q : α → Prop} (h : GK s o Q) (hl : s.l = r.l) (hg : s.good = r.good) : GK r o Q := fun p hp => ⟨(h p hp).1.trans hl, fun g => ⟨hg ▸ ((h p hp).2 g).1, ((h p hp).2 g).2⟩⟩

theorem bad_g {r : Rd} {c : Int} (hc : c ≠ 0) : ∀ p, r.bad c = some p → p.l = r.l ∧ p.good = false := by
  intro p hp
  unfold Rd.bad at hp
  split at hp
  · rw [Option.bind_eq_some_iff] at hp
    obtain ⟨t, _, hp⟩ := hp
    cases hp
    exact ⟨rfl, by simpa [Rd.good] using hc⟩
  · rename_i h
    cases hp
    exact ⟨rfl, by simpa using h⟩
theorem bad_gk {α : Type} {r : Rd} {c : Int} (hc : c ≠ 0) (a : α) (Q : α → Prop) : GK r ((r.bad c).bind fun r => some (a, r)) Q := by
  intro p hp
  rw [Option.bind_eq_some_iff] at hp
  obtain ⟨q, h1, h2⟩ := hp
  obtain ⟨e, g⟩ := bad_g hc q h1
  cases h2
  exact ⟨e, fun h => by rw [g] at h; cases h⟩
theorem take_gk (r : Rd) (s : Str) : GK r (r.take s) fun _ => True := by
  unfold Rd.take
  exact GK.ite (fun _ => GK.ret fun _ => trivial) fun _ => GK.ask fun b _ => GK.ite (fun _ => GK.ret fun _ => trivial) fun _ => GK.on _ fun _ => trivial
theorem want_gk (r : Rd) (s : Str) : GKR r (r.want s) := by
  intro p hp
  unfold Rd.want at hp
  rw [Option.bind_eq_some_iff] at hp
  obtain ⟨⟨b, q⟩, h1, h2⟩ := hp
  obtain ⟨e, g⟩ := take_gk r s _ h1
  dsimp only at e g h2
  split at h2
  · obtain ⟨e2, g2⟩ := bad_g (by decide) p h2
    exact ⟨e2.trans e, fun h => by rw [g2] at h; cases h⟩
  · cases h2
    exact ⟨e, fun h => (g h).1⟩

theorem tk_peek {r : Rd} (hT : TKs r.l) {t : Tok} (h : r.peek = some t) : (t.kind = 1 → isName t.text = true) ∧ (t.kind = 2 → 0 ≤ t.n) := hT t (List.mem_of_getElem? (peek_get h).2.1)

theorem name_gk {r : Rd} (hT : TKs r.l) (room : Bool) : GK r (r.name room) fun s => isName s = true ∧ room = true := by
  unfold Rd.name
  refine GK.ask fun t ht => GK.ite (fun _ => bad_gk (by decide) _ _) fun hk => GK.ite (fun _ => bad_gk (by decide) _ _) fun hr => GK.on _ fun _ => ⟨?_, by simpa using hr⟩
  simp only [Bool.or_eq_true, Bool.not_eq_true', not_or, bne_iff_ne, ne_eq, Decidable.not_not] at hk
  exact (tk_peek hT ht).1 hk.2

theorem op_rng (t : Tok) : (opOf t).1 = 0 ∨ 5 ≤ (opOf t).1 ∧ (opOf t).1 ≤ 17 := by
  have key : ∀ {c : Prop} [Decidable c] {a b : Int × Int}, (a.1 = 0 ∨ 5 ≤ a.1 ∧ a.1 ≤ 17) → (b.1 = 0 ∨ 5 ≤ b.1 ∧ b.1 ≤ 17) → ((if c then a else b).1 = 0 ∨ 5 ≤ (if c then a else b).1 ∧ (if c then a else b).1 ≤ 17) := by
    intro c _ a b h1 h2
    by_cases h : c
    · rw [if_pos h]; exact h1
    · rw [if_neg h]; exact h2
  unfold opOf
  refine key (by simp) (key (by simp) (key (by simp) (key (by simp) (key (by simp) (key (by simp) (key (by simp) (key (by simp) (key (by simp) (key (by simp) (key (by simp) (key (by simp) (key (by simp) (key (by simp) (by simp))))))))))))))

theorem form_num {n : Int} (h : 0 ≤ n) : Ex.form ⟨1, n, [], []⟩ = true := by
  have : decide (n < 0) = false := by simp; omega
  simp [Ex.form, Ex.forms, arityI, this]
theorem form_name {s : Str} (h : isName s = true) : Ex.form ⟨2, 0, s, []⟩ = true := by
  cases s with
  | nil => simp [isName] at h
  | cons c r => simp [Ex.form, Ex.forms, arityI, h]
theorem form_1 {op : Int} (ho : op = 3 ∨ op = 4) {x : Ex} (h : x.form = true) : Ex.form ⟨op, 0, [], [x]⟩ = true := by
  rcases ho with rfl | rfl <;> simp [Ex.form, Ex.forms, arityI, h]
theorem form_2 {op : Int} (ho : 5 ≤ op ∧ op ≤ 17) {x y : Ex} (h : x.form = true) (k : y.form = true) : Ex.form ⟨op, 0, [], [x, y]⟩ = true := by
  have e1 : (op == 1) = false := by simp; omega
  have e2 : (op == 2) = false := by simp; omega
  have e3 : (op == 3) = false := by simp; omega
  have e4 : (op == 4) = false := by simp; omega
  have e5 : decide (op ≥ 5) = true := by simp; omega
  have e6 : decide (op ≤ 17) = true := by simp; omega
  simp [Ex.form, Ex.forms, arityI, e1, e2, e3, e4, e5, e6, h, k]

theorem expr_gk : ∀ n : Nat, (∀ r : Rd, TKs r.l → GK r (Rd.one n r) fun x => x.form = true) ∧ (∀ (r : Rd) (k : Int), TKs r.l → GK r (Rd.two n k r) fun x => x.form = true) ∧
    (∀ (r : Rd) (k : Int) (x : Ex), TKs r.l → (r.good = true → x.form = true) → GK r (Rd.twoL n k x r) fun x => x.form = true) := by
  intro n
  induction n with
  | zero => exact ⟨fun r _ => by simp only [Rd.one]; exact GK.non, fun r k _ => by simp only [Rd.two]; exact GK.non, fun r k x _ _ => by simp only [Rd.twoL]; exact GK.non⟩
  | succ n ih =>
    obtain ⟨ih1, ih2, ih3⟩ := ih
    refine ⟨fun r hT => ?_, fun r k hT => ?_, fun r k x hT hx => ?_⟩
    · simp only [Rd.one]
      refine GK.ask fun t ht => GK.ite (fun hg => GK.ret fun g => by rw [g] at hg; cases hg) fun _ => GK.ite (fun hk => GK.on _ fun _ => form_num ((tk_peek hT ht).2 (by simpa using hk))) fun _ =>
        GK.ite (fun hk => GK.on _ fun _ => form_name ((tk_peek hT ht).1 (by simpa using hk))) fun _ => ?_
      refine (take_gk r _).bind fun b q e g => GK.ite (fun _ => ?_) fun _ => ?_
      · refine (ih2 q 1 (e ▸ hT)).bind fun x s e2 g2 => ?_
        exact (want_gk s _).bind fun u e3 g3 => GK.ret fun gu => (g2 (g3 gu)).2
      refine (take_gk q _).bind fun b q2 e2 g2 => GK.ite (fun _ => ?_) fun _ => ?_
      · exact (ih1 q2 (by rw [e2, e]; exact hT)).bind fun x s e3 g3 => GK.ret fun gs => form_1 (.inl rfl) (g3 gs).2
      refine (take_gk q2 _).bind fun b q3 e3 g3 => GK.ite (fun _ => ?_) fun _ => bad_gk (by decide) _ _
      exact (ih1 q3 (by rw [e3, e2, e]; exact hT)).bind fun x s e4 g4 => GK.ret fun gs => form_1 (.inr rfl) (g4 gs).2
    · simp only [Rd.two]
      exact (ih1 r hT).bind fun x s e g => ih3 s k x (e ▸ hT) fun gs => (g gs).2
    · simp only [Rd.twoL]
      refine GK.ite (fun _ => GK.ask fun t ht => GK.ite (fun _ => GK.ret hx) fun hop => ?_) fun _ => GK.ret hx
      have hop' : 5 ≤ (opOf t).1 ∧ (opOf t).1 ≤ 17 := by
        rcases op_rng t with h | h
        · simp [h] at hop
        · exact h
      refine GK.from (s := { r with i := r.i + 1 }) ?_ rfl rfl
      exact GK.bind (f := fun y => Rd.twoL n k ⟨(opOf t).1, 0, [], [x, y.1]⟩ y.2) (ih2 _ _ hT) fun y s e g => ih3 s k _ (by rw [e]; exact hT) fun gs => form_2 hop' (hx (g gs).1) (g gs).2

theorem whole_gk {n : Nat} {r : Rd} (hT : TKs r.l) : GK r (Rd.whole n r) fun x => x.may = true := by
  unfold Rd.whole
  refine GK.ask fun t _ => ((expr_gk n).2.1 r 1 hT).bind fun x s e g => GK.ite (fun hg => ?_) fun hg => GK.ret fun gs => absurd gs hg
  refine GK.ask fun d hd => GK.ite (fun _ => ?_) fun hd2 => GK.ret fun gs => ?_
  · intro p hp
    cases hp
    exact ⟨rfl, fun h => by cases h⟩
  · unfold depthO at hd
    split at hd
    · cases hd
      unfold Ex.may
      have hd3 : x.depth ≤ 20 := by simp only [decide_eq_true_eq] at hd2; omega
      have : decide (((min x.depth 21 : Nat) : Int) ≤ 20) = true := by simp only [decide_eq_true_eq]; omega
      rw [this, (g gs).2]; rfl
    · cases hd

theorem mayNames_app {t : Str} (h : isName t = true) : ∀ {l : List Str}, mayNames l = true → mayNames (l ++ [t]) = true
  | [], _ => by simp [mayNames, h]
  | s :: l, hl => by
    simp only [mayNames, List.cons_append] at hl ⊢
    split at hl
    · cases hl
    · rename_i hs
      rw [if_neg hs]
      exact mayNames_app h hl

theorem names_gk {most : Int} : ∀ (n : Nat) (l : List Str) (r : Rd), TKs r.l → (r.good = true → mayNames l = true ∧ (l.length : Int) ≤ most) → GK r (Rd.names n l most r) fun l => mayNames l = true ∧ (l.length : Int) ≤ most := by
  intro n
  induction n with
  | zero => intro l r _ _; simp only [Rd.names]; exact GK.non
  | succ n ih =>
    intro l r hT h
    simp only [Rd.names]
    refine GK.ite (fun _ => (name_gk hT _).bind fun s q e g => GK.ask fun l2 hl2 => ?_) fun _ => GK.ret h
    have e2 := (push_some hl2).2
    have h2 : q.good = true → mayNames l2 = true ∧ (l2.length : Int) ≤ most := by
      intro gq
      obtain ⟨g0, h3, h4⟩ := g gq
      simp only [decide_eq_true_eq] at h4
      rw [e2]
      exact ⟨mayNames_app h3 (h g0).1, by simp; omega⟩
    refine (take_gk q _).bind fun b q2 e3 g3 => GK.ite (fun _ => (want_gk q2 _).bind fun u e4 g4 => GK.ret fun gu => h2 (g3 (g4 gu)).1) fun _ => ?_
    exact ih _ _ (by rw [e3, e]; exact hT) fun gq2 => h2 (g3 gq2).1

theorem labels_gk : ∀ (n : Nat) (l : List Str) (r : Rd), TKs r.l → mayNames l = true → GK r (Rd.labels n l r) fun l => mayNames l = true := by
  intro n
  induction n with
  | zero => intro l r _ _; simp only [Rd.labels]; exact GK.non
  | succ n ih =>
    intro l r hT h
    simp only [Rd.labels]
    refine GK.ask fun b hb => GK.ite (fun hbt => ?_) fun _ => GK.ret fun _ => h
    refine GK.ask fun t ht => GK.ask fun l2 hl2 => ?_
    have hk : t.kind = 1 := by
      subst hbt
      unfold Rd.ahead at hb
      split at hb
      · rw [ht, Option.bind_some] at hb
        split at hb
        · rename_i hk; simpa using hk
        · cases hb
      · cases hb
    refine GK.from (s := { r with i := r.i + 2 }) ?_ rfl rfl
    refine ih _ _ hT ?_
    rw [(push_some hl2).2]
    exact mayNames_app ((tk_peek hT ht).1 hk) h

theorem mays_app {a : Ar} (h : a.may = true) : ∀ {l : List Ar}, Ar.mays l = true → Ar.mays (l ++ [a]) = true
  | [], _ => by simp [Ar.mays, h]
  | s :: l, hl => by
    simp only [Ar.mays, List.cons_append] at hl ⊢
    split at hl
    · cases hl
    · rename_i hs
      rw [if_neg hs]
      exact mays_app h hl
theorem may_ref {s : Str} (h : isName s = true) : Ar.may ⟨true, s, ex0⟩ = true := by simp [Ar.may, h, Ex.none, ex0]
theorem may_val {x : Ex} (h : x.may = true) : Ar.may ⟨false, [], x⟩ = true := by simp [Ar.may, h]

theorem callL_gk {m : Nat} : ∀ (n : Nat) (l : List Ar) (r : Rd), TKs r.l → (r.good = true → Ar.mays l = true) → GK r (Rd.callL m n l r) fun l => Ar.mays l = true := by
  intro n
  induction n with
  | zero => intro l r _ _; simp only [Rd.callL]; exact GK.non
  | succ n ih =>
    intro l r hT h
    simp only [Rd.callL]
    refine GK.ite (fun _ => (take_gk r _).bind fun b q e g => GK.ite (fun _ => ?_) fun _ => ?_) fun _ => GK.ret h
    · refine (name_gk (e ▸ hT) _).bind fun s q2 e2 g2 => GK.ask fun l2 hl2 => ?_
      refine (take_gk q2 _).bind fun c q3 e3 g3 => ?_
      have h3 : q3.good = true → Ar.mays l2 = true := fun gg => by
        rw [(push_some hl2).2]
        obtain ⟨g4, h5, _⟩ := g2 (g3 gg).1
        exact mays_app (may_ref h5) (h (g g4).1)
      exact GK.ite (fun _ => GK.ret h3) fun _ => ih _ _ (by rw [e3, e2, e]; exact hT) h3
    · refine (whole_gk (e ▸ hT)).bind fun s q2 e2 g2 => GK.ask fun l2 hl2 => ?_
      refine (take_gk q2 _).bind fun c q3 e3 g3 => ?_
      have h3 : q3.good = true → Ar.mays l2 = true := fun gg => by
        rw [(push_some hl2).2]
        obtain ⟨g4, h5⟩ := g2 (g3 gg).1
        exact mays_app (may_val h5) (h (g g4).1)
      exact GK.ite (fun _ => GK.ret h3) fun _ => ih _ _ (by rw [e3, e2, e]; exact hT) h3

end Go.Abs

/-! MirNum -/

namespace Go.Abs
set_option linter.unusedSimpArgs false
set_option linter.unusedVariables false

/-- If it answers, then so. -/
def Pt {α : Type} (o : Option α) (Q : α → Prop) : Prop := ∀ a, o = some a → Q a
theorem Pt.bind {α β : Type} {o : Option α} {f : α → Option β} {Q : α → Prop} {R : β → Prop} (h : Pt o Q) (k : ∀ a, Q a → Pt (f a) R) : Pt (o.bind f) R := by
  intro b hb
  rw [Option.bind_eq_some_iff] at hb
  obtain ⟨a, h1, h2⟩ := hb
  exact k a (h a h1) b h2
theorem Pt.any {α β : Type} {o : Option α} {f : α → Option β} {R : β → Prop} (k : ∀ a, Pt (f a) R) : Pt (o.bind f) R := by
  intro b hb
  rw [Option.bind_eq_some_iff] at hb
  obtain ⟨a, h1, h2⟩ := hb
  exact k a b h2
theorem Pt.some {α : Type} {a : α} {Q : α → Prop} (h : Q a) : Pt (some a) Q := fun b hb => by cases hb; exact h
theorem Pt.none {α : Type} {Q : α → Prop} : Pt (none : Option α) Q := fun b hb => by cases hb
theorem Pt.ite {α : Type} {c : Prop} [Decidable c] {a b : Option α} {Q : α → Prop} (h1 : c → Pt a Q) (h2 : ¬ c → Pt b Q) : Pt (if c then a else b) Q := by
  by_cases h : c
  · rw [if_pos h]; exact h1 h
  · rw [if_neg h]; exact h2 h
theorem Pt.mono {α : Type} {o : Option α} {Q R : α → Prop} (h : Pt o Q) (k : ∀ a, Q a → R a) : Pt o R := fun a ha => k a (h a ha)

structure Keep (a b : Rd) : Prop where
  l : b.l = a.l
  n : b.n = a.n
  g : b.good = true → a.good = true
theorem Keep.refl (r : Rd) : Keep r r := ⟨rfl, rfl, id⟩
theorem Keep.i {a b : Rd} (h : Keep a b) (k : Nat) : Keep a { b with i := k } := ⟨h.l, h.n, h.g⟩
theorem Keep.f {a b : Rd} (h : Keep a b) (hg : b.good = true) (c f : Int) : Keep a { b with code := c, fat := f } := ⟨h.l, h.n, fun _ => h.g hg⟩
theorem bad_k {r0 r : Rd} (h : Keep r0 r) (c : Int) : Pt (r.bad c) (Keep r0) := by
  unfold Rd.bad
  exact Pt.ite (fun hg => Pt.any fun t => Pt.some (h.f hg _ _)) (fun _ => Pt.some h)
theorem take_k {r0 r : Rd} (h : Keep r0 r) (s : Str) : Pt (r.take s) (fun p => Keep r0 p.2) := by
  unfold Rd.take
  exact Pt.ite (fun hg => Pt.some h) (fun _ => Pt.any fun b => Pt.ite (fun _ => Pt.some h) (fun _ => Pt.some (h.i _)))
theorem want_k {r0 r : Rd} (h : Keep r0 r) (s : Str) : Pt (r.want s) (Keep r0) := by
  unfold Rd.want
  exact (take_k h s).bind fun p hp => Pt.ite (fun _ => bad_k hp _) (fun _ => Pt.some hp)
theorem name_k {r0 r : Rd} (h : Keep r0 r) (room : Bool) : Pt (r.name room) (fun p => Keep r0 p.2) := by
  unfold Rd.name
  exact Pt.any fun t => Pt.ite (fun _ => (bad_k h _).bind fun r hr => Pt.some hr) (fun _ => Pt.ite (fun _ => (bad_k h _).bind fun r hr => Pt.some hr) (fun _ => Pt.some (h.i _)))

theorem expr_k {r0 : Rd} : ∀ n : Nat, (∀ r : Rd, Keep r0 r → Pt (Rd.one n r) (fun p => Keep r0 p.2)) ∧ (∀ (r : Rd) (k : Int), Keep r0 r → Pt (Rd.two n k r) (fun p => Keep r0 p.2)) ∧
    (∀ (r : Rd) (k : Int) (x : Ex), Keep r0 r → Pt (Rd.twoL n k x r) (fun p => Keep r0 p.2)) := by
  intro n
  induction n with
  | zero => exact ⟨fun r _ => by simp only [Rd.one]; exact Pt.none, fun r k _ => by simp only [Rd.two]; exact Pt.none, fun r k x _ => by simp only [Rd.twoL]; exact Pt.none⟩
  | succ n ih =>
    obtain ⟨ih1, ih2, ih3⟩ := ih
    refine ⟨fun r h => ?_, fun r k h => ?_, fun r k x h => ?_⟩
    · simp only [Rd.one]
      refine Pt.any fun t => Pt.ite (fun _ => Pt.some h) fun _ => Pt.ite (fun _ => Pt.some (h.i _)) fun _ => Pt.ite (fun _ => Pt.some (h.i _)) fun _ => ?_
      refine (take_k h _).bind fun p hp => Pt.ite (fun _ => (ih2 _ _ hp).bind fun x hx => (want_k hx _).bind fun r hr => Pt.some hr) fun _ => ?_
      refine (take_k hp _).bind fun p hp => Pt.ite (fun _ => (ih1 _ hp).bind fun x hx => Pt.some hx) fun _ => ?_
      refine (take_k hp _).bind fun p hp => Pt.ite (fun _ => (ih1 _ hp).bind fun x hx => Pt.some hx) fun _ => ?_
      exact (bad_k hp _).bind fun r hr => Pt.some hr
    · simp only [Rd.two]
      exact (ih1 _ h).bind fun x hx => ih3 _ _ _ hx
    · simp only [Rd.twoL]
      exact Pt.ite (fun _ => Pt.any fun t => Pt.ite (fun _ => Pt.some h) fun _ => (ih2 _ _ (h.i _)).bind fun y hy => ih3 _ _ _ hy) (fun _ => Pt.some h)

theorem whole_k {n : Nat} {r0 r : Rd} (h : Keep r0 r) : Pt (Rd.whole n r) (fun p => Keep r0 p.2) := by
  unfold Rd.whole
  exact Pt.any fun t => ((expr_k n).2.1 _ _ h).bind fun x hx => Pt.ite (fun hg => Pt.any fun d => Pt.ite (fun _ => Pt.some (hx.f hg _ _)) fun _ => Pt.some hx) fun _ => Pt.some hx

theorem names_k {most : Int} {r0 : Rd} : ∀ (n : Nat) (l : List Str) (r : Rd), Keep r0 r → Pt (Rd.names n l most r) (fun p => Keep r0 p.2) := by
  intro n
  induction n with
  | zero => intro l r _; simp only [Rd.names]; exact Pt.none
  | succ n ih =>
    intro l r h
    simp only [Rd.names]
    exact Pt.ite (fun _ => (name_k h _).bind fun p hp => Pt.any fun l => (take_k hp _).bind fun q hq => Pt.ite (fun _ => (want_k hq _).bind fun r hr => Pt.some hr) fun _ => ih _ _ hq) fun _ => Pt.some h

theorem labels_k {r0 : Rd} : ∀ (n : Nat) (l : List Str) (r : Rd), Keep r0 r → Pt (Rd.labels n l r) (fun p => Keep r0 p.2) := by
  intro n
  induction n with
  | zero => intro l r _; simp only [Rd.labels]; exact Pt.none
  | succ n ih =>
    intro l r h
    simp only [Rd.labels]
    exact Pt.any fun b => Pt.ite (fun _ => Pt.any fun t => Pt.any fun l => ih _ _ (h.i _)) fun _ => Pt.some h

theorem callL_k {m : Nat} {r0 : Rd} : ∀ (n : Nat) (l : List Ar) (r : Rd), Keep r0 r → Pt (Rd.callL m n l r) (fun p => Keep r0 p.2) := by
  intro n
  induction n with
  | zero => intro l r _; simp only [Rd.callL]; exact Pt.none
  | succ n ih =>
    intro l r h
    simp only [Rd.callL]
    refine Pt.ite (fun _ => (take_k h _).bind fun p hp => Pt.ite (fun _ => ?_) fun _ => ?_) fun _ => Pt.some h
    · exact (name_k hp _).bind fun x hx => Pt.any fun l => (take_k hx _).bind fun c hc => Pt.ite (fun _ => Pt.some hc) fun _ => ih _ _ hc
    · exact (whole_k hp).bind fun x hx => Pt.any fun l => (take_k hx _).bind fun c hc => Pt.ite (fun _ => Pt.some hc) fun _ => ih _ _ hc

/-- A statement in which none stands. -/
def SmK (r0 : Rd) (p : Sm × Rd) : Prop := Keep r0 p.2 ∧ p.1.thn = [] ∧ p.1.els = []

theorem call_k {m : Nat} {name proc : Str} {r0 r : Rd} (h : Keep r0 r) : Pt (Rd.call m name proc r) (SmK r0) := by
  unfold Rd.call
  refine (want_k h _).bind fun r hr => Pt.any fun b => Pt.ite (fun _ => ?_) fun _ => ?_
  · exact (callL_k _ _ _ hr).bind fun q hq => (want_k hq _).bind fun r hr => (want_k hr _).bind fun r hr => Pt.some ⟨hr, rfl, rfl⟩
  · exact (want_k hr _).bind fun r hr => (want_k hr _).bind fun r hr => Pt.some ⟨hr, rfl, rfl⟩

theorem named_k {m : Nat} {r0 r : Rd} (h : Keep r0 r) : Pt (Rd.named m r) (SmK r0) := by
  unfold Rd.named
  refine (name_k h _).bind fun x hx => Pt.any fun b => Pt.ite (fun _ => call_k hx) fun _ => (want_k hx _).bind fun r hr => Pt.any fun b => Pt.ite (fun _ => ?_) fun _ => ?_
  · exact (name_k hr _).bind fun y hy => call_k hy
  · exact (whole_k hr).bind fun y hy => (want_k hy _).bind fun r hr => Pt.some ⟨hr, rfl, rfl⟩

theorem plain_k {m : Nat} {word : Str} {r0 r : Rd} (h : Keep r0 r) : Pt (Rd.plain m word r) (SmK r0) := by
  unfold Rd.plain
  refine Pt.ite (fun _ => Pt.some ⟨h, rfl, rfl⟩) fun _ => Pt.ite (fun _ => Pt.some ⟨h, rfl, rfl⟩) fun _ => Pt.ite (fun _ => Pt.any fun b => Pt.ite (fun _ => (whole_k h).bind fun x hx => Pt.some ⟨hx, rfl, rfl⟩) fun _ => Pt.some ⟨h, rfl, rfl⟩) fun _ => ?_
  refine Pt.ite (fun _ => (name_k h _).bind fun x hx => Pt.some ⟨hx, rfl, rfl⟩) fun _ => Pt.ite (fun _ => (name_k h _).bind fun x hx => Pt.some ⟨hx, rfl, rfl⟩) fun _ => Pt.ite (fun _ => (whole_k h).bind fun x hx => Pt.some ⟨hx, rfl, rfl⟩) fun _ => Pt.some ⟨h, rfl, rfl⟩

theorem head_k {m : Nat} {r0 r : Rd} (h : Keep r0 r) : Pt (Rd.head m r) (fun p => Keep r0 p.2) := by
  unfold Rd.head
  exact (want_k h _).bind fun r hr => (whole_k hr).bind fun x hx => (want_k hx _).bind fun r hr => Pt.some hr

/-! ### Numbering -/

theorem Sm.nums_app (b : Bool) (s : Sm) : ∀ (l : List Sm) (n : Nat), Sm.nums b n (l ++ [s]) = ((Sm.nums b n l).1 ++ [(Sm.num b (Sm.nums b n l).2 s).1], (Sm.num b (Sm.nums b n l).2 s).2)
  | [], n => by simp only [List.nil_append, Sm.nums]
  | x :: l, n => by simp only [List.cons_append, Sm.nums, Sm.nums_app b s l]
theorem Sm.num_labels (b : Bool) (n : Nat) (l : List Str) : ∀ s : Sm, Sm.num b n { s with labels := l } = ({ (Sm.num b n s).1 with labels := l }, (Sm.num b n s).2)
  | ⟨_, _, _, _, _, _, _, _, _, _⟩ => by simp only [Sm.num]
theorem Sm.num_flat (b : Bool) (n : Nat) : ∀ s : Sm, s.thn = [] → s.els = [] → (Sm.num b n s).2 = n + 1
  | ⟨_, _, _, _, _, _, _, _, _, _⟩, h1, h2 => by dsimp only at h1 h2; subst h1; subst h2; simp only [Sm.num, Sm.nums]

/-- From a reader to a later one, with so many statements between. -/
structure Num (r : Rd) (k : Nat) (r' : Rd) : Prop where
  l : r'.l = r.l
  g : r'.good = true → r.good = true
  n : r'.good = true → k = r'.n
  le : r'.good = true → r.n ≤ 200 → r'.n ≤ 200

theorem bad_b (r : Rd) {c : Int} (hc : c ≠ 0) : Pt (r.bad c) (fun r' => r'.l = r.l ∧ r'.good = false) := by
  unfold Rd.bad
  refine Pt.ite (fun hg => Pt.any fun t => Pt.some ⟨rfl, ?_⟩) (fun hg => Pt.some ⟨rfl, by simpa using hg⟩)
  simpa using hc
theorem Num.bad {r r' : Rd} {k : Nat} (h : r'.l = r.l ∧ r'.good = false) : Num r k r' := by
  have e : ¬ r'.good = true := by rw [h.2]; decide
  exact ⟨h.1, fun g => (e g).elim, fun g => (e g).elim, fun g => (e g).elim⟩
theorem Num.keep {r a b : Rd} {k : Nat} (h : Num r k a) (e : Keep a b) : Num r k b :=
  ⟨e.l.trans h.l, fun g => h.g (e.g g), fun g => (h.n (e.g g)).trans e.n.symm, fun g hn => by rw [e.n]; exact h.le (e.g g) hn⟩
theorem Num.trans {r a b : Rd} {k j : Nat} (h : Num r k a) (e : Num a j b) : Num r j b :=
  ⟨e.l.trans h.l, fun g => h.g (e.g g), e.n, fun g hn => e.le g (h.le (e.g g) hn)⟩
theorem Num.refl (r : Rd) : Num r r.n r := ⟨rfl, id, fun _ => rfl, fun _ h => h⟩

theorem stmts_n {m : Nat} : ∀ n : Nat,
    (∀ (nest : Int) (body : Bool) (r : Rd), Pt (Rd.rows m n nest body r) fun p => Num r (Sm.nums true r.n p.1.1).2 p.2) ∧
    (∀ (nest : Int) (body : Bool) (out : List Sm) (r0 r : Rd), Num r0 (Sm.nums true r0.n out).2 r → Pt (Rd.rowsL m n nest body out r) fun p => Num r0 (Sm.nums true r0.n p.1.1).2 p.2) ∧
    (∀ (nest : Int) (r : Rd), Pt (Rd.stmt m n nest r) fun p => Num r (Sm.num true r.n p.1).2 p.2) ∧
    (∀ (nest : Int) (r : Rd), Pt (Rd.block m n nest r) fun p => Num r (Sm.nums true r.n p.1).2 p.2) ∧
    (∀ (nest : Int) (r : Rd), Pt (Rd.choice m n nest r) fun p => Num r (Sm.nums true (Sm.nums true r.n p.1.thn).2 p.1.els).2 p.2) := by
  intro n
  induction n with
  | zero =>
    refine ⟨fun _ _ r => ?_, fun _ _ _ _ r _ => ?_, fun _ r => ?_, fun _ r => ?_, fun _ r => ?_⟩
    · simp only [Rd.rows]; exact Pt.none
    · simp only [Rd.rowsL]; exact Pt.none
    · simp only [Rd.stmt]; exact Pt.none
    · simp only [Rd.block]; exact Pt.none
    · simp only [Rd.choice]; exact Pt.none
  | succ n ih =>
    obtain ⟨i1, i2, i3, i4, i5⟩ := ih
    refine ⟨fun nest body r => ?_, fun nest body out r0 r h => ?_, fun nest r => ?_, fun nest r => ?_, fun nest r => ?_⟩
    · simp only [Rd.rows]
      exact i2 _ _ _ _ _ ⟨rfl, id, fun _ => rfl, fun _ h => h⟩
    · simp only [Rd.rowsL]
      refine Pt.ite (fun hg => ?_) (fun hg => ?_)
      · refine (labels_k m [] r (Keep.refl r)).bind fun l hl => Pt.any fun b => Pt.ite (fun _ => Pt.some (h.keep (hl.i _))) fun _ => ?_
        refine (i3 nest l.2).bind fun s hs => ?_
        refine Pt.bind (Q := fun l' => l' = out ++ [{ s.1 with labels := l.1 }]) (fun a ha => (push_some ha).2) fun l' e => ?_
        subst e
        refine i2 _ _ _ _ _ ?_
        rw [Sm.nums_app, Sm.num_labels]
        have h2 := h.keep hl
        refine ⟨hs.l.trans h2.l, fun g => h2.g (hs.g g), fun g => ?_, fun g hn => hs.le g (h2.le (hs.g g) hn)⟩
        rw [h2.n (hs.g g)]
        exact hs.n g
      · have hg : r.good = false := by simpa using hg
        exact Pt.some (Num.bad ⟨h.l, hg⟩)
    · simp only [Rd.stmt]
      refine Pt.any fun b => Pt.ite (fun _ => (bad_b r (by decide)).bind fun r' hr => Pt.some (Num.bad hr)) fun _ => ?_
      refine Pt.bind (Q := fun k => k = r.n + 1) (fun a ha => (inc_some ha).2) fun k e => ?_
      subst e
      refine Pt.ite (fun _ => (bad_b _ (by decide)).bind fun r' hr => Pt.some (Num.bad hr)) fun hl => ?_
      have hk : r.n + 1 ≤ 200 := by
        simp only [Bool.or_eq_true, decide_eq_true_eq, not_or] at hl
        omega
      have h0 : ∀ j, Num r (r.n + 1) { r with i := j, n := r.n + 1 } := fun j => ⟨rfl, id, fun _ => rfl, fun _ _ => hk⟩
      refine Pt.any fun t => Pt.ite (fun _ => ?_) fun _ => Pt.ite (fun _ => ?_) fun _ => Pt.ite (fun _ => ?_) fun _ => ?_
      · refine (named_k (Keep.refl _)).mono fun p hp => ?_
        rw [Sm.num_flat true _ _ hp.2.1 hp.2.2]
        exact (h0 r.i).keep hp.1
      · refine (i5 nest _).mono fun p hp => ?_
        obtain ⟨⟨_, _, _, _, _, _, _, _, _, _⟩, r'⟩ := p
        simp only [Sm.num]
        exact (h0 _).trans hp
      · refine (head_k (Keep.refl _)).bind fun x hx => (i4 nest x.2).bind fun b hb => Pt.some ?_
        simp only [Sm.num, Sm.nums]
        have e := hx.n
        dsimp only at e
        rw [← e]
        exact ((h0 _).keep hx).trans hb
      · refine (plain_k (Keep.refl _)).bind fun s hs => (want_k hs.1 _).bind fun r' hr => Pt.some ?_
        rw [Sm.num_flat true _ _ hs.2.1 hs.2.2]
        exact (h0 _).keep hr
    · simp only [Rd.block]
      refine (want_k (Keep.refl r) _).bind fun r1 hr => Pt.any fun k => (i1 k false r1).bind fun p hp => Pt.some ?_
      rw [← hr.n]
      exact ((Num.refl r).keep hr).trans hp
    · simp only [Rd.choice]
      refine (head_k (Keep.refl r)).bind fun x hx => (i4 nest x.2).bind fun t ht => (take_k (Keep.refl t.2) _).bind fun q hq => Pt.ite (fun _ => ?_) fun _ => ?_
      · refine (i4 nest q.2).bind fun e he => Pt.some ?_
        dsimp only
        have h1 := (((Num.refl r).keep hx).trans ht).keep hq
        have h2 := h1.trans he
        refine ⟨h2.l, h2.g, fun g => ?_, h2.le⟩
        have e1 := he.n g
        have e2 := h1.n (he.g g)
        rw [hx.n] at e2
        rw [e2]
        exact e1
      · refine Pt.some ?_
        dsimp only [Sm.nums]
        rw [← hx.n]
        exact (((Num.refl r).keep hx).trans ht).keep hq

end Go.Abs

/-! MayLaw2 -/

namespace Go.Abs
set_option linter.unusedSimpArgs false
set_option linter.unusedVariables false

/-- A statement by itself, whatever its labels. -/
def SmL (s : Sm) : Prop := ∀ L, mayNames L = true → ({ s with labels := L } : Sm).one = true

theorem ex0_none : ex0.none = true := rfl
theorem isName_ne {s : Str} (h : isName s = true) : (s == []) = false := by cases s; simp [isName] at h; rfl

theorem one_call {id : Int} {name proc : Str} {args : List Ar} (hp : isName proc = true) (hn : name = [] ∨ isName name = true) (ha : Ar.mays args = true) : SmL ⟨id, 4, [], name, proc, ex0, false, args, [], []⟩ := by
  intro L hL
  rcases hn with rfl | hn
  · simp [Sm.one, Sm.hasX, Sm.hasName, Sm.isCall, hL, ex0_none, isName_ne hp, hp, ha]
  · simp [Sm.one, Sm.hasX, Sm.hasName, Sm.isCall, hL, ex0_none, isName_ne hp, hp, ha, hn]
theorem one_assign {id : Int} {name : Str} {x : Ex} (hn : isName name = true) (hx : x.may = true) : SmL ⟨id, 1, [], name, [], x, false, [], [], []⟩ := by
  intro L hL
  simp [Sm.one, Sm.hasX, Sm.hasName, Sm.isCall, hL, hn, hx, Ar.mays]
theorem one_name {id k : Int} (hk : k = 2 ∨ k = 10) {name : Str} (hn : isName name = true) : SmL ⟨id, k, [], name, [], ex0, false, [], [], []⟩ := by
  intro L hL
  rcases hk with rfl | rfl <;> simp [Sm.one, Sm.hasX, Sm.hasName, Sm.isCall, hL, hn, ex0_none, Ar.mays]
theorem one_print {id : Int} {x : Ex} (hx : x.may = true) : SmL ⟨id, 3, [], [], [], x, false, [], [], []⟩ := by
  intro L hL
  simp [Sm.one, Sm.hasX, Sm.hasName, Sm.isCall, hL, hx, Ar.mays]
theorem one_bare {id k : Int} (hk : k = 7 ∨ k = 8 ∨ k = 9) : SmL ⟨id, k, [], [], [], ex0, false, [], [], []⟩ := by
  intro L hL
  rcases hk with rfl | rfl | rfl <;> simp [Sm.one, Sm.hasX, Sm.hasName, Sm.isCall, hL, ex0_none, Ar.mays]
theorem one_return {id : Int} {x : Ex} (hx : x.may = true) : SmL ⟨id, 9, [], [], [], x, true, [], [], []⟩ := by
  intro L hL
  simp [Sm.one, Sm.hasX, Sm.hasName, Sm.isCall, hL, hx, Ar.mays]
theorem one_if {id : Int} {x : Ex} {thn els : List Sm} (hx : x.may = true) : SmL ⟨id, 5, [], [], [], x, false, [], thn, els⟩ := by
  intro L hL
  simp [Sm.one, Sm.hasX, Sm.hasName, Sm.isCall, hL, hx, Ar.mays]
theorem one_while {id : Int} {x : Ex} {thn : List Sm} (hx : x.may = true) : SmL ⟨id, 6, [], [], [], x, false, [], thn, []⟩ := by
  intro L hL
  simp [Sm.one, Sm.hasX, Sm.hasName, Sm.isCall, hL, hx, Ar.mays]

theorem call_gk {m : Nat} {name proc : Str} {r : Rd} (hT : TKs r.l) (hn : r.good = true → isName proc = true ∧ (name = [] ∨ isName name = true)) : GK r (Rd.call m name proc r) fun s => SmL s ∧ s.thn = [] ∧ s.els = [] := by
  unfold Rd.call
  refine (want_gk r _).bind fun q e g => GK.ask fun b _ => GK.ite (fun _ => ?_) fun _ => ?_
  · refine (callL_gk _ _ q (e ▸ hT) fun _ => rfl).bind fun a s e2 g2 => ?_
    refine (want_gk s _).bind fun u e3 g3 => (want_gk u _).bind fun v e4 g4 => GK.ret fun gv => ?_
    obtain ⟨g5, h5⟩ := g2 (g3 (g4 gv))
    obtain ⟨h6, h7⟩ := hn (g g5)
    exact ⟨one_call h6 h7 h5, rfl, rfl⟩
  · refine (want_gk q _).bind fun u e3 g3 => (want_gk u _).bind fun v e4 g4 => GK.ret fun gv => ?_
    obtain ⟨h6, h7⟩ := hn (g (g3 (g4 gv)))
    exact ⟨one_call h6 h7 rfl, rfl, rfl⟩

theorem named_gk {m : Nat} {r : Rd} (hT : TKs r.l) : GK r (Rd.named m r) fun s => SmL s ∧ s.thn = [] ∧ s.els = [] := by
  unfold Rd.named
  refine (name_gk hT _).bind fun a q e g => GK.ask fun b _ => GK.ite (fun _ => ?_) fun _ => ?_
  · exact call_gk (by rw [e]; exact hT) fun gq => ⟨(g gq).2.1, .inl rfl⟩
  refine (want_gk q _).bind fun u e2 g2 => GK.ask fun b _ => GK.ite (fun _ => ?_) fun _ => ?_
  · refine (name_gk (by rw [e2, e]; exact hT) _).bind fun c s e3 g3 => call_gk (by rw [e3, e2, e]; exact hT) fun gs => ?_
    obtain ⟨g4, h4, _⟩ := g3 gs
    exact ⟨h4, .inr (g (g2 g4)).2.1⟩
  · refine (whole_gk (by rw [e2, e]; exact hT)).bind fun c s e3 g3 => (want_gk s _).bind fun v e4 g4 => GK.ret fun gv => ?_
    obtain ⟨g5, h5⟩ := g3 (g4 gv)
    exact ⟨one_assign (g (g2 g5)).2.1 h5, rfl, rfl⟩

def simpW (s : Str) : Bool := s == [98, 114, 101, 97, 107] || s == [99, 111, 110, 116, 105, 110, 117, 101] || s == [114, 101, 116, 117, 114, 110] || s == [103, 111, 116, 111] || s == [114, 101, 97, 100] || s == [112, 114, 105, 110, 116]
theorem plain_gk {m : Nat} {word : Str} (hw : simpW word = true) {r : Rd} (hT : TKs r.l) : GK r (Rd.plain m word r) fun s => SmL s ∧ s.thn = [] ∧ s.els = [] := by
  unfold Rd.plain
  refine GK.ite (fun _ => GK.ret fun _ => ⟨one_bare (.inl rfl), rfl, rfl⟩) fun h1 => GK.ite (fun _ => GK.ret fun _ => ⟨one_bare (.inr (.inl rfl)), rfl, rfl⟩) fun h2 => GK.ite (fun _ => ?_) fun h3 => ?_
  · refine GK.ask fun b _ => GK.ite (fun _ => ?_) fun _ => GK.ret fun _ => ⟨one_bare (.inr (.inr rfl)), rfl, rfl⟩
    exact (whole_gk hT).bind fun a s e g => GK.ret fun gs => ⟨one_return (g gs).2, rfl, rfl⟩
  refine GK.ite (fun _ => (name_gk hT _).bind fun a s e g => GK.ret fun gs => ⟨one_name (.inr rfl) (g gs).2.1, rfl, rfl⟩) fun h4 => GK.ite (fun _ => (name_gk hT _).bind fun a s e g => GK.ret fun gs => ⟨one_name (.inl rfl) (g gs).2.1, rfl, rfl⟩) fun h5 => GK.ite (fun _ => ?_) fun h6 => ?_
  · exact (whole_gk hT).bind fun a s e g => GK.ret fun gs => ⟨one_print (g gs).2, rfl, rfl⟩
  · exfalso
    simp only [simpW, Bool.or_eq_true] at hw
    rcases hw with ((((hw | hw) | hw) | hw) | hw) | hw
    · exact h1 hw
    · exact h2 hw
    · exact h3 hw
    · exact h4 hw
    · exact h5 hw
    · exact h6 hw

theorem head_gk {m : Nat} {r : Rd} (hT : TKs r.l) : GK r (Rd.head m r) fun x => x.may = true := by
  unfold Rd.head
  refine (want_gk r _).bind fun q e g => (whole_gk (by rw [e]; exact hT)).bind fun x s e2 g2 => (want_gk s _).bind fun u e3 g3 => GK.ret fun gu => (g2 (g3 gu)).2

mutual
/-- A statement and all that stands in it. -/
def Sm.okM (d : Int) : Sm → Prop
  | ⟨id, kind, labels, name, proc, x, has, args, thn, els⟩ => (⟨id, kind, labels, name, proc, x, has, args, thn, els⟩ : Sm).one = true ∧ d ≤ 12 ∧ Sm.oksM (d + 1) thn ∧ Sm.oksM (d + 1) els
def Sm.oksM (d : Int) : List Sm → Prop
  | [] => True
  | s :: l => s.okM d ∧ Sm.oksM d l
end
theorem Sm.okM_eq (d : Int) (s : Sm) : s.okM d ↔ s.one = true ∧ d ≤ 12 ∧ Sm.oksM (d + 1) s.thn ∧ Sm.oksM (d + 1) s.els := by cases s; simp only [Sm.okM]
theorem Sm.oksM_app {d : Int} {s : Sm} (h : s.okM d) : ∀ {l : List Sm}, Sm.oksM d l → Sm.oksM d (l ++ [s])
  | [], _ => ⟨h, trivial⟩
  | t :: l, hl => ⟨hl.1, Sm.oksM_app h hl.2⟩
def SmOk (d : Int) (s : Sm) : Prop := ∀ L, mayNames L = true → ({ s with labels := L } : Sm).okM d
theorem SmOk.of {d : Int} {s : Sm} (h : SmL s) (hd : d ≤ 12) (h1 : Sm.oksM (d + 1) s.thn) (h2 : Sm.oksM (d + 1) s.els) : SmOk d s := fun L hL => (Sm.okM_eq _ _).2 ⟨h L hL, hd, h1, h2⟩

theorem stmts_gk {m : Nat} : ∀ n : Nat,
    (∀ (nest : Int) (body : Bool) (r : Rd), TKs r.l → GK r (Rd.rows m n nest body r) fun p => Sm.oksM nest p.1 ∧ mayNames p.2 = true) ∧
    (∀ (nest : Int) (body : Bool) (out : List Sm) (r : Rd), TKs r.l → (r.good = true → Sm.oksM nest out) → GK r (Rd.rowsL m n nest body out r) fun p => Sm.oksM nest p.1 ∧ mayNames p.2 = true) ∧
    (∀ (nest : Int) (r : Rd), TKs r.l → GK r (Rd.stmt m n nest r) fun s => SmOk nest s) ∧
    (∀ (nest : Int) (r : Rd), TKs r.l → GK r (Rd.block m n nest r) fun l => Sm.oksM (nest + 1) l) ∧
    (∀ (nest : Int) (r : Rd), nest ≤ 12 → TKs r.l → GK r (Rd.choice m n nest r) fun s => SmOk nest s) := by
  intro n
  induction n with
  | zero =>
    refine ⟨fun _ _ r _ => ?_, fun _ _ _ r _ _ => ?_, fun _ r _ => ?_, fun _ r _ => ?_, fun _ r _ _ => ?_⟩
    · simp only [Rd.rows]; exact GK.non
    · simp only [Rd.rowsL]; exact GK.non
    · simp only [Rd.stmt]; exact GK.non
    · simp only [Rd.block]; exact GK.non
    · simp only [Rd.choice]; exact GK.non
  | succ n ih =>
    obtain ⟨i1, i2, i3, i4, i5⟩ := ih
    refine ⟨fun nest body r hT => ?_, fun nest body out r hT ho => ?_, fun nest r hT => ?_, fun nest r hT => ?_, fun nest r h12 hT => ?_⟩
    · simp only [Rd.rows]
      exact i2 _ _ _ _ hT fun _ => trivial
    · simp only [Rd.rowsL]
      refine GK.ite (fun _ => ?_) fun hg => GK.ret fun g => absurd g hg
      refine (labels_gk m [] r hT rfl).bind fun ls q e g => GK.ask fun b _ => GK.ite (fun _ => GK.on _ fun gq => ⟨ho (g gq).1, (g gq).2⟩) fun _ => ?_
      refine (i3 nest q (by rw [e]; exact hT)).bind fun s u e2 g2 => GK.ask fun o2 h2 => i2 _ _ _ u (by rw [e2, e]; exact hT) fun gu => ?_
      obtain ⟨g3, h3⟩ := g2 gu
      obtain ⟨g4, h4⟩ := g g3
      rw [(push_some h2).2]
      exact Sm.oksM_app (h3 _ h4) (ho g4)
    · simp only [Rd.stmt]
      refine GK.ask fun b hb => GK.ite (fun _ => bad_gk (by decide) _ _) fun hbt => GK.ask fun k hk => ?_
      refine GK.from (s := { r with n := k }) ?_ rfl rfl
      refine GK.ite (fun _ => bad_gk (by decide) _ _) fun hl => ?_
      have h12 : nest ≤ 12 := by
        simp only [Bool.or_eq_true, decide_eq_true_eq, not_or] at hl; omega
      refine GK.ask fun t ht => GK.ite (fun _ => (named_gk (r := { r with n := k }) hT).mono fun s hs => SmOk.of hs.1 h12 (by rw [hs.2.1]; trivial) (by rw [hs.2.2]; trivial)) fun hk1 => ?_
      refine GK.from (s := { r with n := k, i := r.i + 1 }) ?_ rfl rfl
      refine GK.ite (fun _ => i5 _ _ h12 hT) fun hif => GK.ite (fun _ => ?_) fun hwh => ?_
      · refine GK.bind (head_gk (r := { r with n := k, i := r.i + 1 }) hT) fun x s e g => ?_
        refine GK.bind (i4 nest s (by rw [e]; exact hT)) fun bl u e2 g2 => GK.ret fun gu => ?_
        obtain ⟨g3, h3⟩ := g2 gu
        exact SmOk.of (one_while (g g3).2) h12 h3 trivial
      · have hw : simpW t.text = true := by
          have ht' : r.peek = some t := ht
          unfold Rd.begins at hb
          rw [ht', Option.bind_some] at hb
          have e1 : (t.kind == 1) = false := by simpa using hk1
          have e2 : (t.text == [105, 102]) = false := by simpa using hif
          have e3 : (t.text == [119, 104, 105, 108, 101]) = false := by simpa using hwh
          have hbt' : b = true := by simpa using hbt
          rw [hbt'] at hb
          simp only [e1, e2, e3, Bool.false_eq_true, ↓reduceIte, Bool.false_or, Option.some.injEq] at hb
          split at hb
          · cases hb
          · simpa only [simpW] using hb
        refine GK.bind (plain_gk (r := { r with n := k, i := r.i + 1 }) hw hT) fun s q e g => ?_
        refine GKR.bind (want_gk q _) fun u e2 g2 => GK.ret fun gu => ?_
        obtain ⟨g3, h3, h4, h5⟩ := g (g2 gu)
        exact SmOk.of h3 h12 (by rw [h4]; trivial) (by rw [h5]; trivial)
    · simp only [Rd.block]
      refine (want_gk r _).bind fun q e g => GK.ask fun k hk => ?_
      have hk := (incI_some hk).2
      subst hk
      exact (i1 _ false q (by rw [e]; exact hT)).bind fun p u e2 g2 => GK.ret fun gu => (g2 gu).2.1
    · simp only [Rd.choice]
      refine (head_gk hT).bind fun x q e g => (i4 nest q (by rw [e]; exact hT)).bind fun th s e2 g2 => (take_gk s _).bind fun c u e3 g3 => GK.ite (fun _ => ?_) fun _ => GK.ret fun gu => ?_
      · refine (i4 nest u (by rw [e3, e2, e]; exact hT)).bind fun el v e4 g4 => GK.ret fun gv => ?_
        obtain ⟨g5, h5⟩ := g4 gv
        obtain ⟨g6, h6⟩ := g2 (g3 g5).1
        exact SmOk.of (one_if (g g6).2) h12 h6 h5
      · obtain ⟨g6, h6⟩ := g2 (g3 gu).1
        exact SmOk.of (one_if (g g6).2) h12 h6 trivial

/-! ### Procedures, programs -/

theorem pmays_app {a : Pm} (h : isName a.name = true) : ∀ {l : List Pm}, Pm.mays l = true → Pm.mays (l ++ [a]) = true
  | [], _ => by simp [Pm.mays, h]
  | s :: l, hl => by
    simp only [Pm.mays, List.cons_append] at hl ⊢
    split at hl
    · cases hl
    · rename_i hs
      rw [if_neg hs]
      exact pmays_app h hl

theorem params_gk : ∀ (n : Nat) (l : List Pm) (r : Rd), TKs r.l → (r.good = true → Pm.mays l = true ∧ l.length ≤ 8) → GK r (Rd.params n l r) fun l => Pm.mays l = true ∧ l.length ≤ 8 := by
  intro n
  induction n with
  | zero => intro l r _ _; simp only [Rd.params]; exact GK.non
  | succ n ih =>
    intro l r hT h
    simp only [Rd.params]
    refine GK.ite (fun _ => (take_gk r _).bind fun b q e g => (name_gk (by rw [e]; exact hT) _).bind fun s q2 e2 g2 => GK.ask fun l2 hl2 => (take_gk q2 _).bind fun c q3 e3 g3 => ?_) fun _ => GK.ret h
    have h3 : q3.good = true → Pm.mays l2 = true ∧ l2.length ≤ 8 := fun gg => by
      rw [(push_some hl2).2]
      obtain ⟨g4, h5, h6⟩ := g2 (g3 gg).1
      simp only [decide_eq_true_eq] at h6
      exact ⟨pmays_app h5 (h (g g4).1).1, by simp; omega⟩
    exact GK.ite (fun _ => GK.ret h3) fun _ => ih _ _ (by rw [e3, e2, e]; exact hT) h3

theorem vars_gk {m : Nat} : ∀ (n : Nat) (l : List Str) (r : Rd), TKs r.l → (r.good = true → mayNames l = true ∧ (l.length : Int) ≤ 16) → GK r (Rd.vars m n l r) fun l => mayNames l = true ∧ (l.length : Int) ≤ 16 := by
  intro n
  induction n with
  | zero => intro l r _ _; simp only [Rd.vars]; exact GK.non
  | succ n ih =>
    intro l r hT h
    simp only [Rd.vars]
    refine (take_gk r _).bind fun b q e g => GK.ite (fun _ => ?_) fun _ => GK.ret fun gq => h (g gq).1
    exact (names_gk _ _ _ (by rw [e]; exact hT) fun gq => h (g gq).1).bind fun l2 q2 e2 g2 => ih _ _ (by rw [e2, e]; exact hT) fun gg => (g2 gg).2
theorem globals_gk {m : Nat} : ∀ (n : Nat) (l : List Str) (r : Rd), TKs r.l → (r.good = true → mayNames l = true ∧ (l.length : Int) ≤ 16) → GK r (Rd.globals m n l r) fun l => mayNames l = true ∧ (l.length : Int) ≤ 16 := by
  intro n
  induction n with
  | zero => intro l r _ _; simp only [Rd.globals]; exact GK.non
  | succ n ih =>
    intro l r hT h
    simp only [Rd.globals]
    refine (take_gk r _).bind fun b q e g => GK.ite (fun _ => ?_) fun _ => GK.ret fun gq => h (g gq).1
    exact (names_gk _ _ _ (by rw [e]; exact hT) fun gq => h (g gq).1).bind fun l2 q2 e2 g2 => ih _ _ (by rw [e2, e]; exact hT) fun gg => (g2 gg).2

/-- A procedure. -/
structure Pc.okM (f : Pc) : Prop where
  name : isName f.name = true
  params : Pm.mays f.params = true ∧ f.params.length ≤ 8
  vars : mayNames f.vars = true ∧ (f.vars.length : Int) ≤ 16
  fin : mayNames f.fin = true
  body : Sm.oksM 1 f.body

theorem procB_gk {m : Nat} {name : Str} {ps : List Pm} {r : Rd} (hT : TKs r.l) (h : r.good = true → isName name = true ∧ Pm.mays ps = true ∧ ps.length ≤ 8) : GK r (Rd.procB m name ps r) Pc.okM := by
  unfold Rd.procB
  refine (vars_gk m [] r hT fun _ => ⟨rfl, by simp⟩).bind fun v q e g => ((stmts_gk m).1 1 true q (by rw [e]; exact hT)).bind fun b s e2 g2 => GK.ret fun gs => ?_
  obtain ⟨g3, h3, h4⟩ := g2 gs
  obtain ⟨g5, h5⟩ := g g3
  obtain ⟨h6, h7⟩ := h g5
  exact ⟨h6, h7, h5, h4, h3⟩

theorem proc_gk {m : Nat} {r : Rd} (hT : TKs r.l) : GK r (Rd.proc m r) Pc.okM := by
  unfold Rd.proc
  refine (name_gk hT _).bind fun x q e g => (want_gk q _).bind fun u e2 g2 => GK.ask fun b _ => GK.ite (fun _ => ?_) fun _ => ?_
  · refine (params_gk _ _ u (by rw [e2, e]; exact hT) fun _ => ⟨rfl, by simp⟩).bind fun ps s e3 g3 => (want_gk s _).bind fun v e4 g4 => (want_gk v _).bind fun w e5 g5 => procB_gk (by rw [e5, e4, e3, e2, e]; exact hT) fun gw => ?_
    obtain ⟨g6, h6⟩ := g3 (g4 (g5 gw))
    exact ⟨(g (g2 g6)).2.1, h6⟩
  · refine (want_gk u _).bind fun v e4 g4 => (want_gk v _).bind fun w e5 g5 => procB_gk (by rw [e5, e4, e2, e]; exact hT) fun gw => ?_
    exact ⟨(g (g2 (g4 (g5 gw)))).2.1, rfl, by simp⟩

theorem procs_gk {m : Nat} : ∀ (n : Nat) (l : List Pc) (r : Rd), TKs r.l → (r.good = true → (∀ f ∈ l, Pc.okM f) ∧ l.length ≤ 16) → GK r (Rd.procs m n l r) fun l => (∀ f ∈ l, Pc.okM f) ∧ l.length ≤ 16 := by
  intro n
  induction n with
  | zero => intro l r _ _; simp only [Rd.procs]; exact GK.non
  | succ n ih =>
    intro l r hT h
    simp only [Rd.procs]
    refine GK.ask fun b _ => GK.ite (fun _ => GK.ite (fun _ => bad_gk (by decide) _ _) fun h16 => ?_) fun _ => GK.ask fun b _ => GK.ite (fun _ => bad_gk (by decide) _ _) fun _ => GK.ret h
    refine GK.from (s := { r with i := r.i + 1 }) ?_ rfl rfl
    refine GK.bind (f := fun x => (push 113 l x.1).bind fun l => Rd.procs m n l x.2) (proc_gk hT) fun f q e g => GK.ask fun l2 hl2 => ih _ _ (by rw [e]; exact hT) fun gq => ?_
    obtain ⟨g2, h2⟩ := g gq
    obtain ⟨h3, h4⟩ := h g2
    rw [(push_some hl2).2]
    refine ⟨fun x hx => ?_, ?_⟩
    · rcases List.mem_append.1 hx with hx | hx
      · exact h3 x hx
      · simp at hx; subst hx; exact h2
    · have : l.length ≠ 16 := by intro e; simp [e] at h16
      simp; omega

theorem program_gk {m : Nat} {r : Rd} (hT : TKs r.l) : GK r (Rd.program m r) fun p => mayNames p.globals = true ∧ (p.globals.length : Int) ≤ 16 ∧ (∀ f ∈ p.procs, Pc.okM f) ∧ p.procs.length ≤ 16 := by
  unfold Rd.program
  refine (globals_gk m [] r hT fun _ => ⟨rfl, by simp⟩).bind fun gl q e g => (procs_gk m [] q (by rw [e]; exact hT) fun _ => ⟨by simp, by simp⟩).bind fun ps s e2 g2 => GK.ret fun gs => ?_
  obtain ⟨g3, h3⟩ := g2 gs
  exact ⟨(g g3).2.1, (g g3).2.2, h3⟩

end Go.Abs

/-! MayLaw3 -/

namespace Go.Abs
set_option linter.unusedSimpArgs false
set_option linter.unusedVariables false

mutual
/-- How many statements. -/
def Sm.cnt : Sm → Nat
  | ⟨_, _, _, _, _, _, _, _, thn, els⟩ => 1 + Sm.cnts thn + Sm.cnts els
def Sm.cnts : List Sm → Nat
  | [] => 0
  | s :: l => s.cnt + Sm.cnts l
end
mutual
theorem Sm.num_cnt (b : Bool) (n : Nat) : ∀ s : Sm, (Sm.num b n s).2 = n + s.cnt
  | ⟨_, _, _, _, _, _, _, _, thn, els⟩ => by
    simp only [Sm.num, Sm.cnt]
    rw [Sm.nums_cnt b _ els, Sm.nums_cnt b _ thn]; omega
theorem Sm.nums_cnt (b : Bool) (n : Nat) : ∀ l : List Sm, (Sm.nums b n l).2 = n + Sm.cnts l
  | [] => rfl
  | s :: l => by
    simp only [Sm.nums, Sm.cnts]
    rw [Sm.nums_cnt b _ l, Sm.num_cnt b _ s]; omega
end

theorem Sm.one_num (b : Bool) (n : Nat) (s : Sm) : ((Sm.num b n s).1).one = s.one := by
  obtain ⟨id, kind, labels, name, proc, x, has, args, thn, els⟩ := s
  simp only [Sm.num, Sm.one, Sm.hasX, Sm.hasName, Sm.isCall, Sm.nums_len]
  rfl

/-- The next items: their ids, how deep they stand, what they are. -/
def Its (n : Nat) (its : List It) : Prop := ∀ (j : Nat) (it : It), its[j]? = some it → it.s.id = ((n + j + 1 : Nat) : Int) ∧ it.deep ≤ 12 ∧ it.s.one = true
theorem Its.app {n k : Nat} {a b : List It} (ha : Its n a) (hk : a.length = k) (hb : Its (n + k) b) : Its n (a ++ b) := by
  intro j it h
  rcases Nat.lt_or_ge j a.length with hj | hj
  · rw [List.getElem?_append_left hj] at h
    exact ha j it h
  · rw [List.getElem?_append_right hj] at h
    obtain ⟨h1, h2⟩ := hb _ it h
    refine ⟨?_, h2⟩
    rw [h1]; congr 1; omega
theorem Its.nil (n : Nat) : Its n [] := fun j it h => by simp at h

mutual
theorem flatS_num : ∀ (s : Sm) (n : Nat) (deep inn : Int) (els : Bool) (out : List It), s.okM deep → out.length + s.cnt ≤ 200 → ∃ its, flatS deep inn els out (Sm.num true n s).1 = out ++ its ∧ its.length = s.cnt ∧ Its n its
  | ⟨id, kind, labels, name, proc, x, has, args, thn, e⟩, n, deep, inn, els, out, h, hc => by
    have h0 := (Sm.okM_eq _ _).1 h
    obtain ⟨h1, h2, h3, h4⟩ := h0
    dsimp only at h3 h4
    have hone := Sm.one_num true n ⟨id, kind, labels, name, proc, x, has, args, thn, e⟩
    simp only [Sm.num, ↓reduceIte, flatS] at hone ⊢
    rw [h1] at hone
    simp only [Sm.cnt] at hc
    have hd : decide (deep ≤ 12) = true := by simp; omega
    simp only [hd, ↓reduceIte]
    obtain ⟨i1, e1, l1, p1⟩ := flatL_num thn (n + 1) (deep + 1) ((n + 1 : Nat) : Int) false (out ++ [⟨⟨((n + 1 : Nat) : Int), kind, labels, name, proc, x, has, args, (Sm.nums true (n + 1) thn).1, (Sm.nums true (Sm.nums true (n + 1) thn).2 e).1⟩, deep, inn, els⟩]) h3 (by simp; omega)
    rw [e1, Sm.nums_cnt]
    obtain ⟨i2, e2, l2, p2⟩ := flatL_num e (n + 1 + Sm.cnts thn) (deep + 1) ((n + 1 : Nat) : Int) true (out ++ [⟨⟨((n + 1 : Nat) : Int), kind, labels, name, proc, x, has, args, (Sm.nums true (n + 1) thn).1, (Sm.nums true (n + 1 + Sm.cnts thn) e).1⟩, deep, inn, els⟩] ++ i1) h4 (by simp; omega)
    rw [e2]
    rw [Sm.nums_cnt] at hone
    refine ⟨_, by rw [List.append_assoc, List.append_assoc], ?_, ?_⟩
    · simp only [List.length_append, List.length_cons, List.length_nil, Sm.cnt]; omega
    · refine Its.app (k := 1) ?_ rfl (Its.app p1 l1 p2)
      intro j it hj
      cases j with
      | zero => simp at hj; subst hj; exact ⟨rfl, h2, hone⟩
      | succ j => simp at hj
theorem flatL_num : ∀ (l : List Sm) (n : Nat) (deep inn : Int) (els : Bool) (out : List It), Sm.oksM deep l → out.length + Sm.cnts l ≤ 200 → ∃ its, flatL deep inn els out (Sm.nums true n l).1 = out ++ its ∧ its.length = Sm.cnts l ∧ Its n its
  | [], n, deep, inn, els, out, h, hc => ⟨[], by simp only [Sm.nums, flatL, List.append_nil], rfl, Its.nil n⟩
  | s :: l, n, deep, inn, els, out, h, hc => by
    simp only [Sm.cnts] at hc
    have hle : decide ((out.length : Int) ≤ 200) = true := by simp only [decide_eq_true_eq]; omega
    simp only [Sm.nums, flatL, hle, ↓reduceIte]
    obtain ⟨i1, e1, l1, p1⟩ := flatS_num s n deep inn els out h.1 (by omega)
    rw [e1, Sm.num_cnt]
    obtain ⟨i2, e2, l2, p2⟩ := flatL_num l (n + s.cnt) deep inn els (out ++ i1) h.2 (by simp; omega)
    rw [e2]
    exact ⟨i1 ++ i2, by rw [List.append_assoc], by simp only [List.length_append, Sm.cnts]; omega, Its.app p1 l1 p2⟩
end

def Pc.tot : List Pc → Nat
  | [] => 0
  | f :: l => Sm.cnts f.body + Pc.tot l

theorem allM_num : ∀ (l : List Pc) (n : Nat) (out : List It), (∀ f ∈ l, f.okM) → out.length + Pc.tot l ≤ 200 → ∃ its, allM out (Pc.nums n l) = out ++ its ∧ its.length = Pc.tot l ∧ Its n its
  | [], n, out, _, _ => ⟨[], by simp only [Pc.nums, allM, List.append_nil], rfl, Its.nil n⟩
  | f :: l, n, out, h, hc => by
    simp only [Pc.tot] at hc
    obtain ⟨i1, e1, l1, p1⟩ := flatL_num f.body n 1 0 false [] (h f (List.mem_cons_self ..)).body (by simp; omega)
    have ef : Pc.flat { f with body := (Sm.nums true n f.body).1 } = i1 := by simp only [Pc.flat]; rw [e1]; rfl
    have hle : decide (((out ++ i1).length : Int) > 200) = false := by simp only [List.length_append, decide_eq_false_iff_not]; omega
    simp only [Pc.nums, allM, ef, hle, Bool.false_eq_true, ↓reduceIte]
    rw [Sm.nums_cnt]
    obtain ⟨i2, e2, l2, p2⟩ := allM_num l (n + Sm.cnts f.body) (out ++ i1) (fun g hg => h g (List.mem_cons_of_mem _ hg)) (by simp; omega)
    rw [e2]
    exact ⟨i1 ++ i2, by rw [List.append_assoc], by simp only [List.length_append, Pc.tot]; omega, Its.app p1 l1 p2⟩

theorem Its.mays : ∀ (l : List It) (n : Nat), Its n l → It.mays n l = true
  | [], _, _ => rfl
  | i :: l, n, h => by
    obtain ⟨h1, h2, h3⟩ := h 0 i rfl
    have e1 : (i.s.id != ((n + 1 : Nat) : Int)) = false := by rw [h1]; simp
    have e2 : decide (i.deep > 12) = false := by simp; omega
    simp only [It.mays, e1, e2, h3, Bool.not_true, Bool.or_self, Bool.false_eq_true, ↓reduceIte]
    refine Its.mays l (n + 1) fun j it hj => ?_
    have := h (j + 1) it (by simpa using hj)
    refine ⟨?_, this.2⟩
    rw [this.1]; congr 1; omega

theorem heads_num : ∀ (l : List Pc) (n : Nat), (∀ f ∈ l, f.okM) → Pc.heads (Pc.nums n l) = true
  | [], _, _ => rfl
  | f :: l, n, h => by
    have k := h f (List.mem_cons_self ..)
    have e1 : decide ((f.params.length : Int) > 8) = false := by have := k.params.2; simp only [decide_eq_false_iff_not]; omega
    have e2 : decide ((f.vars.length : Int) > 16) = false := by have := k.vars.2; simp only [decide_eq_false_iff_not]; omega
    simp only [Pc.nums, Pc.heads, k.name, e1, e2, k.vars.1, k.fin, k.params.1, Bool.not_true, Bool.or_self, Bool.false_eq_true, ↓reduceIte]
    exact heads_num l _ fun g hg => h g (List.mem_cons_of_mem _ hg)
theorem Pc.nums_ln : ∀ (l : List Pc) (n : Nat), (Pc.nums n l).length = l.length
  | [], _ => rfl
  | g :: l, n => by simp only [Pc.nums, List.length_cons, Pc.nums_ln l]

theorem number_may {p : Pg} (h1 : mayNames p.globals = true) (h2 : (p.globals.length : Int) ≤ 16) (h3 : ∀ f ∈ p.procs, f.okM) (h4 : p.procs.length ≤ 16) (h5 : Pc.tot p.procs ≤ 200) : p.number.may = true ∧ p.number.all.length = Pc.tot p.procs := by
  obtain ⟨its, e, hl, hi⟩ := allM_num p.procs 0 [] h3 (by simpa using h5)
  have ea : p.number.all = its := by simp only [Pg.all, Pg.number]; rw [e]; rfl
  have e1 : decide ((p.globals.length : Int) > 16) = false := by simp only [decide_eq_false_iff_not]; omega
  have e2 : decide (((Pc.nums 0 p.procs).length : Int) > 16) = false := by rw [Pc.nums_ln]; simp only [decide_eq_false_iff_not]; omega
  have e3 : decide ((its.length : Int) > 200) = false := by simp only [decide_eq_false_iff_not]; omega
  refine ⟨?_, by rw [ea, hl]⟩
  have e0 : p.number.may = (if decide ((p.globals.length : Int) > 16) || decide (((Pc.nums 0 p.procs).length : Int) > 16) || !(mayNames p.globals) then false
      else if !(Pc.heads (Pc.nums 0 p.procs)) then false else if decide ((p.number.all.length : Int) > 200) then false else It.mays 0 p.number.all) := rfl
  rw [e0, ea]
  simp only [e1, e2, h1, heads_num _ 0 h3, e3, Bool.not_true, Bool.or_self, Bool.false_eq_true, ↓reduceIte]
  exact Its.mays its 0 hi

/-! ### How many were counted -/

theorem procs_n {m : Nat} : ∀ (n : Nat) (l : List Pc) (r0 r : Rd), (r.good = true → r.n = Pc.tot l ∧ r.n ≤ 200) → ∀ p, Rd.procs m n l r = some p → p.2.good = true → p.2.n = Pc.tot p.1 ∧ p.2.n ≤ 200 := by
  have tot_app : ∀ (l : List Pc) (f : Pc), Pc.tot (l ++ [f]) = Pc.tot l + Sm.cnts f.body := by
    intro l f
    induction l with
    | nil => simp [Pc.tot]
    | cons g l ih => simp only [List.cons_append, Pc.tot, ih]; omega
  intro n
  induction n with
  | zero => intro l r0 r _ p h; simp only [Rd.procs] at h; cases h
  | succ n ih =>
    intro l r0 r h0 p h hg
    simp only [Rd.procs] at h
    rw [Option.bind_eq_some_iff] at h
    obtain ⟨b, h1, h⟩ := h
    split at h
    · split at h
      · rw [Option.bind_eq_some_iff] at h
        obtain ⟨q, h2, h⟩ := h
        have := (bad_g (by decide) q h2).2
        cases h
        rw [this] at hg; cases hg
      · rw [Option.bind_eq_some_iff] at h
        obtain ⟨x, h2, h⟩ := h
        rw [Option.bind_eq_some_iff] at h
        obtain ⟨l2, h3, h⟩ := h
        refine ih l2 r0 x.2 (fun gx => ?_) p h hg
        have hl2 := (push_some h3).2
        -- what the procedure counted
        have key : ∀ (r : Rd) (x : Pc × Rd), Rd.proc m r = some x → Num r (Sm.nums true r.n x.1.body).2 x.2 := by
          intro r x hx
          unfold Rd.proc at hx
          have pb : ∀ {name : Str} {ps : List Pm} {s : Rd}, Keep r s → Pt (Rd.procB m name ps s) fun p => Num r (Sm.nums true r.n p.1.body).2 p.2 := by
            intro name ps s hs
            unfold Rd.procB
            have vk : ∀ (n : Nat) (l : List Str) (s : Rd), Keep r s → Pt (Rd.vars m n l s) (fun p => Keep r p.2) := by
              intro n
              induction n with
              | zero => intro l s _; simp only [Rd.vars]; exact Pt.none
              | succ n ih =>
                intro l s h
                simp only [Rd.vars]
                exact (take_k h _).bind fun q hq => Pt.ite (fun _ => (names_k _ _ _ hq).bind fun x hx => ih _ _ hx) fun _ => Pt.some hq
            refine (vk m [] s hs).bind fun v hv => ((stmts_n m).1 _ _ _).bind fun b hb => Pt.some ?_
            dsimp only
            rw [← hv.n]
            exact ((Num.refl r).keep hv).trans hb
          have pk : ∀ (n : Nat) (l : List Pm) (s : Rd), Keep r s → Pt (Rd.params n l s) (fun p => Keep r p.2) := by
            intro n
            induction n with
            | zero => intro l s _; simp only [Rd.params]; exact Pt.none
            | succ n ih =>
              intro l s h
              simp only [Rd.params]
              exact Pt.ite (fun _ => (take_k h _).bind fun q hq => (name_k hq _).bind fun x hx => Pt.any fun l => (take_k hx _).bind fun c hc => Pt.ite (fun _ => Pt.some hc) fun _ => ih _ _ hc) fun _ => Pt.some h
          refine ((name_k (Keep.refl r) true).bind (R := fun p : Pc × Rd => Num r (Sm.nums true r.n p.1.body).2 p.2) fun x hx => (want_k hx _).bind fun r1 h1 => Pt.any fun b => Pt.ite (fun _ => ?_) fun _ => ?_) x hx
          · exact (pk _ _ _ h1).bind fun q hq => (want_k hq _).bind fun r hr => (want_k hr _).bind fun r hr => pb hr
          · exact (want_k h1 _).bind fun r hr => (want_k hr _).bind fun r hr => pb hr
        have hn := key _ _ h2
        obtain ⟨e1, e2⟩ := h0 (hn.g gx)
        have e3 := hn.n gx
        rw [Sm.nums_cnt] at e3
        dsimp only at e3
        rw [hl2, tot_app]
        exact ⟨by omega, hn.le gx e2⟩
    · rw [Option.bind_eq_some_iff] at h
      obtain ⟨b2, h2, h⟩ := h
      split at h
      · rw [Option.bind_eq_some_iff] at h
        obtain ⟨q, h3, h⟩ := h
        have := (bad_g (by decide) q h3).2
        cases h
        rw [this] at hg; cases hg
      · cases h
        exact h0 hg

theorem program_n {m : Nat} {r : Rd} (h0 : r.n = 0) {p : Pg × Rd} (h : Rd.program m r = some p) (hg : p.2.good = true) : p.2.n = Pc.tot p.1.procs ∧ p.2.n ≤ 200 := by
  unfold Rd.program at h
  rw [Option.bind_eq_some_iff] at h
  obtain ⟨g, h1, h⟩ := h
  rw [Option.bind_eq_some_iff] at h
  obtain ⟨q, h2, h⟩ := h
  cases h
  have gk : ∀ (n : Nat) (l : List Str) (s : Rd), Keep r s → Pt (Rd.globals m n l s) (fun p => Keep r p.2) := by
    intro n
    induction n with
    | zero => intro l s _; simp only [Rd.globals]; exact Pt.none
    | succ n ih =>
      intro l s h
      simp only [Rd.globals]
      exact (take_k h _).bind fun q hq => Pt.ite (fun _ => (names_k _ _ _ hq).bind fun x hx => ih _ _ hx) fun _ => Pt.some hq
  have kg := gk m [] r (Keep.refl r) _ h1
  exact procs_n m [] r g.2 (fun _ => by rw [kg.n, h0]; exact ⟨rfl, by omega⟩) q h2 hg

/-- What is read without a fault, numbered, may be. -/
theorem program_may {m : Nat} {l : List Tok} (hT : TKs l) {P : Pg × Rd} (h : Rd.program m (rd0 l) = some P) (hg : P.2.good = true) : P.1.number.may = true ∧ P.1.number.all.length = P.2.n ∧ P.2.n ≤ 200 := by
  obtain ⟨_, g⟩ := program_gk (r := rd0 l) hT P h
  obtain ⟨_, h1, h2, h3, h4⟩ := g hg
  obtain ⟨e, h5⟩ := program_n (r := rd0 l) rfl h hg
  obtain ⟨h6, h7⟩ := number_may h1 h2 h3 h4 (by omega)
  exact ⟨h6, by rw [h7, e], h5⟩

end Go.Abs

/-! MayLaw4 -/

namespace Go.Abs
set_option linter.unusedSimpArgs false
set_option linter.unusedVariables false

theorem runL_nameT : ∀ s : Str, nameT (s.take (runL s)) = true
  | [] => rfl
  | c :: r => by
    simp only [runL]
    split
    · rename_i h
      rw [List.take_succ_cons]
      have : (!(isL c) && !(isD c)) = false := by
        cases h1 : isL c <;> cases h2 : isD c <;> simp [h1, h2] at h ⊢
      simp only [nameT, this, Bool.false_eq_true, ↓reduceIte]
      exact runL_nameT r
    · rfl
theorem worth_nn : ∀ (s : Str) (a n : Int), worth a s = some n → 0 ≤ a → (∀ c ∈ s, isD c = true) → 0 ≤ n
  | [], a, n, h, ha, _ => by simp only [worth] at h; cases h; exact ha
  | c :: r, a, n, h, ha, hd => by
    simp only [worth] at h
    split at h
    · cases h
    · have hcd := hd c (List.mem_cons_self ..)
      simp only [isD, Bool.and_eq_true, decide_eq_true_eq] at hcd
      exact worth_nn r _ n h (by omega) fun x hx => hd x (List.mem_cons_of_mem _ hx)
theorem runD_each : ∀ s : Str, ∀ c ∈ s.take (runD s), isD c = true
  | [], c, h => by simp at h
  | d :: s, c, h => by
    simp only [runD] at h
    split at h
    · rename_i hd
      rw [List.take_succ_cons] at h
      rcases List.mem_cons.1 h with rfl | h
      · exact hd
      · exact runD_each s c h
    · simp at h

theorem tokE_tk {pos : Nat} {s : Str} {t : Tok} (h : tokE pos s = .inl t) : (t.kind = 1 → isName t.text = true) ∧ (t.kind = 2 → 0 ≤ t.n) ∧ 1 ≤ t.kind := by
  cases s with
  | nil => simp only [tokE] at h; cases h
  | cons c r =>
    simp only [tokE] at h
    cases hL : isL c
    · simp only [hL, Bool.false_eq_true, ↓reduceIte] at h
      cases hD : isD c
      · simp only [hD, Bool.false_eq_true, ↓reduceIte] at h
        split at h
        · cases h
        · cases h; simp
      · simp only [hD, ↓reduceIte] at h
        split at h
        · cases h
        · split at h
          · rename_i n hw
            cases h
            exact ⟨by simp, fun _ => worth_nn _ _ _ hw (by omega) (runD_each _), by simp⟩
          · cases h
    · simp only [hL, ↓reduceIte] at h
      split at h
      · cases h
      · rename_i h8
        cases h
        refine ⟨fun hk => ?_, fun hk => ?_, ?_⟩
        · dsimp only at hk ⊢
          have hw : isWord ((c :: r).take (runL (c :: r))) = false := by
            cases hx : isWord ((c :: r).take (runL (c :: r)))
            · rfl
            · rw [hx] at hk; simp at hk
          have e : runL (c :: r) = runL r + 1 := by simp [runL, hL]
          rw [e, List.take_succ_cons] at hw h8 ⊢
          have hn := runL_nameT r
          have e8 : decide (((List.take (runL r) r).length + 1 : Nat) > (8 : Int)) = false := by
            simp only [List.length_cons] at h8
            simp only [decide_eq_false_iff_not]; omega
          simp only [isName, e8, hL, hn, hw, Bool.not_true, Bool.or_self, Bool.false_eq_true, ↓reduceIte, Bool.not_false]
        · dsimp only at hk; split at hk <;> omega
        · dsimp only; split <;> omega
theorem Lx.tk {pos : Nat} {s : Str} {l : List Tok} (h : Lx pos s l) : ∀ t ∈ l, (t.kind = 1 → isName t.text = true) ∧ (t.kind = 2 → 0 ≤ t.n) ∧ 1 ≤ t.kind := by
  induction h with
  | nil => simp
  | blank pos c r l h k ih => exact ih
  | rem pos c r l h h2 k ih => exact ih
  | tok pos c r t l h h2 ht k ih =>
    intro u hu
    rcases List.mem_cons.1 hu with rfl | hu
    · exact tokE_tk ht
    · exact ih u hu
theorem Lx.tks {s : Str} {l : List Tok} {n : Nat} (h : Lx 0 s l) : TKs (l ++ [tEnd n]) := by
  intro t ht
  rcases List.mem_append.1 ht with h1 | h1
  · exact ⟨(h.tk t h1).1, (h.tk t h1).2.1⟩
  · simp at h1; subst h1; simp [tEnd]

def FOk (L : List Tok) (c fat : Int) : Prop := c = 0 ∧ fat = 0 ∨ (c = 3 ∨ c = 4) ∧ ∃ t ∈ L, t.pos = fat

theorem self_envM (l : List Tok) : Env l l 0 True := ⟨fun i t ht _ => ⟨t, ht, rfl, rfl, rfl⟩, fun f => absurd trivial f⟩
theorem self_rd0 (l : List Tok) : SR l l 0 True (rd0 l) (rd0 l) := fun _ => ⟨rfl, rfl, rfl, rfl, rfl, .inl rfl⟩

/-! ### Not both -/

end Go.Abs

/-! More2 -/

namespace Go.Abs
set_option linter.unusedSimpArgs false
set_option linter.unusedVariables false

section
variable {l l' : List Tok} {N : Nat}

theorem procs_more (E : Env l l' N False) (hlen : l.length = N + 1) (hend : ∃ e, l[N]? = some e ∧ e.kind = 0) (hk : ∀ i t, i < N → l[i]? = some t → t.kind ≠ 0) {m : Nat} :
    ∀ (n : Nat) (L : List Pc) (r r' : Rd), Rel2 l l' r r' → r.good = true → r.i ≤ N → ∀ q, Rd.procs m n L r = some q → q.2.good = true →
      ∃ k s', Rd.procs m n L r' = Rd.procs m (k + 1) q.1 s' ∧ Rel2 l l' q.2 s' ∧ q.2.i = N ∧ k < n := by
  intro n
  induction n with
  | zero => intro L r r' _ _ _ q h; simp only [Rd.procs] at h; cases h
  | succ n ih =>
    intro L r r' R hg hi q h hqg
    have hg' : r'.good = true := by simp only [Rd.good, R.ec]; exact hg
    have h0 := h
    simp only [Rd.procs, Rd.isProc, Rd.notEnd, hg, ↓reduceIte] at h
    rw [Option.bind_eq_some_iff] at h
    obtain ⟨b, h1, h⟩ := h
    have h1' := h1
    unfold Rd.is at h1
    rw [Option.bind_eq_some_iff] at h1
    obtain ⟨t, ht, h1⟩ := h1
    rcases Nat.lt_or_eq_of_le hi with hlt | heq
    · obtain ⟨u, hu', te⟩ := peek_low E (r := r) (r' := r') (fun _ => R) (.inr ⟨hg, hi⟩) (.inr hlt) ht
      have h2' : r'.is [112, 114, 111, 99] = some b := by
        unfold Rd.is
        rw [hu', Option.bind_some, te.k, te.x]
        exact h1
      cases b
      · exfalso
        simp only [Bool.false_eq_true, ↓reduceIte, ht, Option.bind_some] at h
        have hk0 := hk r.i t hlt (by have := (peek_get ht).2.1; rw [R.el] at this; exact this)
        have : (t.kind != 0) = true := by simpa using hk0
        rw [this] at h
        simp only [↓reduceIte] at h
        rw [Option.bind_eq_some_iff] at h
        obtain ⟨r2, h5, h⟩ := h
        have := (bad_g (by decide) _ h5).2
        cases h
        rw [this] at hqg; cases hqg
      · simp only [↓reduceIte] at h
        split at h
        · exfalso
          rw [Option.bind_eq_some_iff] at h
          obtain ⟨r2, h5, h⟩ := h
          have := (bad_g (by decide) _ h5).2
          cases h
          rw [this] at hqg; cases hqg
        · rename_i h16
          rw [Option.bind_eq_some_iff] at h
          obtain ⟨⟨x, s⟩, h3, h⟩ := h
          rw [Option.bind_eq_some_iff] at h
          obtain ⟨L', h4, h⟩ := h
          dsimp only at h h4
          have sg : s.good = true := by
            cases hx : s.good
            · exfalso
              cases n with
              | zero => simp only [Rd.procs] at h; cases h
              | succ n =>
                simp only [Rd.procs, Rd.isProc, Rd.notEnd, hx, Bool.false_eq_true, ↓reduceIte, Option.bind_some, Option.some.injEq] at h
                rw [← h] at hqg
                rw [hx] at hqg; cases hqg
            · rfl
          have R1 : Rel2 l l' { r with i := r.i + 1 } { r' with i := r'.i + 1 } := ⟨R.el, R.el', by dsimp only; rw [R.ei], R.en, R.ec, R.ef⟩
          obtain ⟨m1, m2, m3⟩ := proc_sim E (m := m) (r := { r with i := r.i + 1 }) (r' := { r' with i := r'.i + 1 }) (fun _ => R1) _ h3
          dsimp only at m1 m2 m3
          have hsl : s.l = l := by
            obtain ⟨_, _, k3⟩ := proc_sim (self_envM l) (m := m) (r := { r with i := r.i + 1 }) (r' := { r with i := r.i + 1 }) (fun _ => ⟨R.el, R.el, rfl, rfl, rfl, .inl (by simpa [Rd.good] using hg)⟩) _ h3
            obtain ⟨_, _, R9⟩ := k3 (.inl trivial)
            exact R9.el
          have hsi : s.i ≤ N := by
            rcases Nat.lt_or_ge N s.i with h5 | h5
            · exfalso
              cases n with
              | zero => simp only [Rd.procs] at h; cases h
              | succ n =>
                simp only [Rd.procs, Rd.isProc, sg, ↓reduceIte] at h
                rw [Option.bind_eq_some_iff] at h
                obtain ⟨b2, g1, h⟩ := h
                unfold Rd.is at g1
                rw [Option.bind_eq_some_iff] at g1
                obtain ⟨v, g2, g1⟩ := g1
                have := (peek_get g2).2.1
                rw [hsl] at this
                have := (List.getElem?_eq_some_iff.1 this).1
                omega
            · exact h5
          obtain ⟨s2, e2, R2⟩ := m3 (.inr ⟨sg, hsi⟩)
          obtain ⟨k, s', g1, g2, g3, g4⟩ := ih _ _ _ R2 sg hsi _ h hqg
          refine ⟨k, s', ?_, g2, g3, by omega⟩
          simp only [Rd.procs, Rd.isProc, hg', ↓reduceIte, h2', Option.bind_some]
          rw [if_neg h16, e2, Option.bind_some]
          dsimp only
          rw [h4, Option.bind_some]
          exact g1
    · have hkt : t.kind = 0 := by
        have := (peek_get ht).2.1
        rw [R.el, heq] at this
        obtain ⟨e, h6, h7⟩ := hend
        rw [h6] at this
        cases this
        exact h7
      have hb : b = false := by cases h1; simp [hkt]
      subst hb
      have hk0 : (t.kind != 0) = false := by simp [hkt]
      simp only [Bool.false_eq_true, ↓reduceIte, ht, Option.bind_some, hk0] at h
      cases h
      exact ⟨n, r', rfl, R, heq, Nat.lt_succ_self _⟩
end

theorem procs_bad2 {m n : Nat} {l : List Pc} {r : Rd} (hg : r.good = false) {p : List Pc × Rd} (h : Rd.procs m n l r = some p) : p = (l, r) := by
  cases n with
  | zero => simp only [Rd.procs] at h; cases h
  | succ n =>
    simp only [Rd.procs, Rd.isProc, Rd.notEnd, hg, Bool.false_eq_true, ↓reduceIte, Option.bind_some, Option.some.injEq] at h
    exact h.symm
theorem procs_peek {m n : Nat} {l : List Pc} {r : Rd} (hg : r.good = true) {p : List Pc × Rd} (h : Rd.procs m n l r = some p) : ∃ t, r.peek = some t := by
  cases n with
  | zero => simp only [Rd.procs] at h; cases h
  | succ n =>
    simp only [Rd.procs, Rd.isProc, hg, ↓reduceIte] at h
    rw [Option.bind_eq_some_iff] at h
    obtain ⟨b2, g1, _⟩ := h
    unfold Rd.is at g1
    rw [Option.bind_eq_some_iff] at g1
    obtain ⟨v, g2, g1⟩ := g1
    exact ⟨v, g2⟩

theorem numsP_app (f : Pc) : ∀ (l : List Pc) (n : Nat), Pc.nums n (l ++ [f]) = Pc.nums n l ++ [{ f with body := (Sm.nums true (n + Pc.tot l) f.body).1 }]
  | [], n => by simp only [List.nil_append, Pc.nums, Pc.tot, Nat.add_zero]
  | g :: l, n => by
    simp only [List.cons_append, Pc.nums, Pc.tot, numsP_app f l, Sm.nums_cnt]
    have : n + Sm.cnts g.body + Pc.tot l = n + (Sm.cnts g.body + Pc.tot l) := by omega
    rw [this]

def moreM : Str := [10, 112, 114, 111, 99, 32, 109, 111, 114, 101, 40, 114, 101, 102, 32, 97, 41, 32, 123, 32, 118, 97, 114, 32, 98, 59, 32, 98, 32, 61, 32, 97, 59, 32, 108, 58, 32, 125]
def moreT : List Tok := [⟨3, [112, 114, 111, 99], 0, 1⟩, ⟨1, [109, 111, 114, 101], 0, 6⟩, ⟨4, [40], 0, 10⟩, ⟨3, [114, 101, 102], 0, 11⟩, ⟨1, [97], 0, 15⟩, ⟨4, [41], 0, 16⟩, ⟨4, [123], 0, 18⟩, ⟨3, [118, 97, 114], 0, 20⟩, ⟨1, [98], 0, 24⟩, ⟨4, [59], 0, 25⟩,
  ⟨1, [98], 0, 27⟩, ⟨4, [61], 0, 29⟩, ⟨1, [97], 0, 31⟩, ⟨4, [59], 0, 32⟩, ⟨1, [108], 0, 34⟩, ⟨4, [58], 0, 35⟩, ⟨4, [125], 0, 37⟩]
theorem moreM_lex : lexAll moreM = (moreT ++ [tEnd 38], 0, 0) := by kernel_rfl
theorem moreM_len : moreM.length = 38 := by kernel_rfl
theorem moreM_Lx : Lx 0 moreM moreT := by
  obtain ⟨l, hl, _, _, e⟩ := Lx_lexAll (s := moreM) (by rw [moreM_lex])
  rw [moreM_lex, moreM_len] at e
  have : moreT = l := by
    have := congrArg Prod.fst e
    exact List.append_cancel_right this
  rw [this]; exact hl
theorem moreK_of : moreK = (moreT ++ [tEnd 38]).map fun t => (t.kind, t.text) := by kernel_rfl

theorem more_law {T : Str} {p : Pg} {fat : Int} (h : parseM fuelM T = some (p, 0, fat)) (hL : (lexAll T).1.length ≤ 1900) (hT : T.length ≤ 99000) :
    p.all.length ≤ 200 ∧ (p.procs.length = 16 → ∃ q, parseM fuelM (T ++ moreM) = some (q, 4, ((T.length + 1 : Nat) : Int))) ∧
    (p.procs.length ≠ 16 → p.all.length = 200 → ∃ q, parseM fuelM (T ++ moreM) = some (q, 4, ((T.length + 27 : Nat) : Int))) ∧
    (p.procs.length ≠ 16 → p.all.length ≠ 200 → parseM fuelM (T ++ moreM) = some (⟨p.globals, p.procs ++ [moreP ((p.all.length + 1 : Nat) : Int)]⟩, 0, 0)) := by
  unfold parseM at h
  split at h
  · rename_i hc
    simp only [Option.some.injEq, Prod.mk.injEq] at h
    have h2 := congrArg Prod.fst h.2
    simp only [bne_iff_ne, ne_eq] at hc
    exact absurd h2 hc
  rename_i hc
  have h0 : (lexAll T).2.1 = 0 := by simpa using hc
  obtain ⟨l, hl, hlen, hl2, e⟩ := Lx_lexAll h0
  rw [e] at h hL
  rw [Option.bind_eq_some_iff] at h
  obtain ⟨P, hP, h⟩ := h
  have hPg : P.2.good = true ∧ p = P.1.number := by
    split at h
    · rename_i hc2
      simp only [Option.some.injEq, Prod.mk.injEq] at h
      simp [h.2.1] at hc2
    · rename_i hc2
      rw [Option.bind_eq_some_iff] at h
      obtain ⟨q, h3, h⟩ := h
      unfold Pg.numberO at h3
      split at h3
      · cases h3; cases h; exact ⟨by simpa [Rd.good] using hc2, rfl⟩
      · cases h3
  obtain ⟨hPg, rfl⟩ := hPg
  obtain ⟨hmay, hall, h200⟩ := program_may hl.tks hP hPg
  rw [hall]
  have htot := program_n (r := rd0 (l ++ [tEnd T.length])) rfl hP hPg
  -- the longer text
  have hLx : Lx 0 (T ++ moreM) (l ++ moreT.map fun t => { t with pos := t.pos + (T.length : Int) }) := by
    refine hl.app (.inr ⟨_, rfl⟩) ?_
    have := moreM_Lx.shift T.length
    exact this
  have e2 := lexAll_Lx hLx (by rw [List.length_append, moreM_len]; omega) (by
    simp only [List.length_append, List.length_cons, List.length_nil, List.length_map] at hL ⊢
    have : moreT.length = 17 := rfl
    omega)
  rw [List.length_append, moreM_len] at e2
  generalize hmt : (moreT.map fun t => ({ t with pos := t.pos + (T.length : Int) } : Tok)) = mt at e2 hLx
  have hget : ∀ k t, (moreT ++ [tEnd 38])[k]? = some t → (l ++ mt ++ [tEnd (T.length + 38)])[l.length + k]? = some { t with pos := t.pos + (T.length : Int) } := by
    intro k t hk
    have e3 : l ++ mt ++ [tEnd (T.length + 38)] = l ++ (moreT ++ [tEnd 38]).map fun t => { t with pos := t.pos + (T.length : Int) } := by
      rw [← hmt, List.map_append, List.append_assoc]
      congr 2
      simp only [List.map_cons, List.map_nil, tEnd]
      congr 2
      omega
    rw [e3, List.getElem?_append_right (by omega), Nat.add_sub_cancel_left, List.getElem?_map, hk]
    rfl
  have hN : l.length < 1000000 := by omega
  have hM : MoreAt (l ++ mt ++ [tEnd (T.length + 38)]) l.length := by
    refine ⟨hN, fun k x hx => ?_⟩
    rw [moreK_of, List.getElem?_map, Option.map_eq_some_iff] at hx
    obtain ⟨t, ht, rfl⟩ := hx
    exact ⟨_, hget k t ht, rfl, rfl⟩
  have E : Env (l ++ [tEnd T.length]) (l ++ mt ++ [tEnd (T.length + 38)]) l.length False := by
    refine ⟨fun i v hv hh => ?_, fun _ => ⟨tEnd T.length, _, by simp, hget 0 _ rfl, .inl rfl, .inr ⟨rfl, rfl⟩⟩⟩
    rcases hh with hh | hh
    · exact hh.elim
    · rw [List.getElem?_append_left hh] at hv
      refine ⟨v, ?_, rfl, rfl, rfl⟩
      rw [List.append_assoc, List.getElem?_append_left hh]
      exact hv
  have hP0 := hP
  unfold Rd.program at hP
  rw [Option.bind_eq_some_iff] at hP
  obtain ⟨⟨g, s⟩, h1, hP⟩ := hP
  rw [Option.bind_eq_some_iff] at hP
  obtain ⟨⟨ps, q⟩, h2, hP⟩ := hP
  cases hP
  dsimp only at hPg h2 h200 htot hall hmay ⊢
  have R0 : Rel2 (l ++ [tEnd T.length]) (l ++ mt ++ [tEnd (T.length + 38)]) (rd0 (l ++ [tEnd T.length])) (rd0 (l ++ mt ++ [tEnd (T.length + 38)])) := ⟨rfl, rfl, rfl, rfl, rfl, .inl rfl⟩
  obtain ⟨m1, m2, m3⟩ := globals_sim E (m := fuelM) fuelM [] _ _ (fun _ => R0) _ h1
  dsimp only at m1 m2 m3
  have sg : s.good = true := by
    cases hx : s.good
    · exfalso
      have := procs_bad2 hx h2
      simp only [Prod.mk.injEq] at this
      rw [this.2, hx] at hPg; cases hPg
    · rfl
  have hkz : ∀ i t, i < l.length → (l ++ [tEnd T.length])[i]? = some t → t.kind ≠ 0 := by
    intro i t hi ht
    rw [List.getElem?_append_left hi] at ht
    have := (hl.tk t (List.mem_of_getElem? ht)).2.2
    omega
  have hsl : s.l = l ++ [tEnd T.length] := by
    obtain ⟨_, _, k3⟩ := globals_sim (self_envM (l ++ [tEnd T.length])) (m := fuelM) fuelM [] _ _ (self_rd0 _) _ h1
    obtain ⟨_, _, R9⟩ := k3 (.inl trivial)
    exact R9.el
  have hsi : s.i ≤ l.length := by
    rcases Nat.lt_or_ge l.length s.i with h5 | h5
    · exfalso
      obtain ⟨v, g2⟩ := procs_peek sg h2
      have := (peek_get g2).2.1
      rw [hsl] at this
      have := (List.getElem?_eq_some_iff.1 this).1
      simp at this
      omega
    · exact h5
  obtain ⟨s', es, Rs⟩ := m3 (.inr ⟨sg, hsi⟩)
  obtain ⟨k, s2, g1, R2, g3, g4⟩ := procs_more E (by simp) ⟨tEnd T.length, by simp, rfl⟩ hkz fuelM [] s s' Rs sg hsi _ h2 hPg
  dsimp only at g1 R2 g3
  obtain ⟨X, hX, _⟩ := parseM_t (T ++ moreM)
  rw [hX]
  unfold parseM at hX
  rw [e2] at hX
  have hn0 : ((0 : Int) != 0) = false := rfl
  simp only [hn0, Bool.false_eq_true, ↓reduceIte, Rd.program] at hX
  rw [es, Option.bind_some] at hX
  dsimp only at hX
  rw [g1] at hX
  -- where the first text ends
  have hs2 : s2 = stM (l ++ mt ++ [tEnd (T.length + 38)]) l.length s2.fat q.n 0 := by
    have hqc : q.code = 0 := by simpa [Rd.good] using hPg
    have a1 := R2.el'
    have a2 := R2.ei
    have a3 := R2.ec
    have a4 := R2.en
    cases s2
    dsimp only at a1 a2 a3 a4 ⊢
    rw [a1, a2, a3, a4, hqc, g3]
    rfl
  generalize s2.fat = f at hs2
  have hip : (stM (l ++ mt ++ [tEnd (T.length + 38)]) l.length f q.n 0).isProc = some true := by
    unfold Rd.isProc
    have hg : (stM (l ++ mt ++ [tEnd (T.length + 38)]) l.length f q.n 0).good = true := rfl
    rw [if_pos hg, hM.is (f := f) q.n (k := 0) rfl (by decide) (by decide)]
    rfl
  rw [hs2] at hX
  rw [Rd.procs, hip, Option.bind_some, if_pos rfl] at hX
  have hnl : (Pg.number ⟨g, ps⟩).procs.length = ps.length := by simp only [Pg.number, Pc.nums_ln]
  rw [hnl]
  refine ⟨h200, fun h16 => ?_, fun h16 hf => ?_, fun h16 hf => ?_⟩
  · rw [if_pos (by rw [h16]; rfl)] at hX
    obtain ⟨t, ht, _, _, h5⟩ := hM.peek (f := f) q.n (k := 0) rfl (by decide) (by decide)
    have hpos := hget 0 _ rfl
    rw [h5] at hpos
    cases hpos
    have hg : (stM (l ++ mt ++ [tEnd (T.length + 38)]) l.length f q.n 0).good = true := rfl
    simp only [Rd.bad, hg, ↓reduceIte, ht, Option.bind_some] at hX
    have h4 : ((4 : Int) != 0) = true := rfl
    simp only [h4, ↓reduceIte] at hX
    cases hX
    refine ⟨pg0, ?_⟩
    congr 3
    show (1 : Int) + (T.length : Int) = ((T.length + 1 : Nat) : Int)
    omega
  · rw [if_neg (by simp; omega)] at hX
    have e4 : ({ stM (l ++ mt ++ [tEnd (T.length + 38)]) l.length f q.n 0 with i := (stM (l ++ mt ++ [tEnd (T.length + 38)]) l.length f q.n 0).i + 1 } : Rd) = stM (l ++ mt ++ [tEnd (T.length + 38)]) l.length f q.n 1 := rfl
    rw [e4, hf] at hX
    obtain ⟨t, c, ht, hp⟩ := more_proc_full (f := f) hM 19996
    have hpos := hget 10 _ rfl
    rw [ht] at hpos
    cases hpos
    have hp' : Rd.proc fuelM (stM (l ++ mt ++ [tEnd (T.length + 38)]) l.length f 200 1) = some (c, ⟨l ++ mt ++ [tEnd (T.length + 38)], l.length + 10, 4, _, 201⟩) := hp
    rw [hp', Option.bind_some] at hX
    rw [Option.bind_eq_some_iff] at hX
    obtain ⟨Y, hY, hX⟩ := hX
    rw [Option.bind_eq_some_iff] at hY
    obtain ⟨q2, h8, hY⟩ := hY
    rw [Option.bind_eq_some_iff] at h8
    obtain ⟨L2, h7, h8⟩ := h8
    have := procs_bad2 (by rfl) h8
    subst this
    cases hY
    have h4 : ((4 : Int) != 0) = true := rfl
    simp only [Option.bind_some, h4, ↓reduceIte] at hX
    cases hX
    refine ⟨pg0, ?_⟩
    congr 3
    show (27 : Int) + (T.length : Int) = ((T.length + 27 : Nat) : Int)
    omega
  · rw [if_neg (by simp; omega)] at hX
    have e4 : ({ stM (l ++ mt ++ [tEnd (T.length + 38)]) l.length f q.n 0 with i := (stM (l ++ mt ++ [tEnd (T.length + 38)]) l.length f q.n 0).i + 1 } : Rd) = stM (l ++ mt ++ [tEnd (T.length + 38)]) l.length f q.n 1 := rfl
    rw [e4] at hX
    have hp := more_proc (f := f) hM (n := q.n) (by omega) 19996
    have hp' : Rd.proc fuelM (stM (l ++ mt ++ [tEnd (T.length + 38)]) l.length f q.n 1) = some (moreP 0, stM (l ++ mt ++ [tEnd (T.length + 38)]) l.length f (q.n + 1) 17) := hp
    rw [hp', Option.bind_some] at hX
    rw [Option.bind_eq_some_iff] at hX
    obtain ⟨Y, hY, hX⟩ := hX
    rw [Option.bind_eq_some_iff] at hY
    obtain ⟨q2, h8, hY⟩ := hY
    rw [Option.bind_eq_some_iff] at h8
    obtain ⟨L2, h7, h8⟩ := h8
    have h7' := (push_some h7).2
    cases hY
    obtain ⟨t, ht, htk, _, _⟩ := hM.peek (f := f) (q.n + 1) (k := 17) rfl (by decide) (by decide)
    have hq2 : q2 = (L2, stM (l ++ mt ++ [tEnd (T.length + 38)]) l.length f (q.n + 1) 17) := by
      cases k with
      | zero => simp only [Rd.procs] at h8; cases h8
      | succ k =>
        have hg : (stM (l ++ mt ++ [tEnd (T.length + 38)]) l.length f (q.n + 1) 17).good = true := rfl
        have hk0 : (t.kind != 0) = false := by rw [htk]; rfl
        simp only [Rd.procs, Rd.isProc, Rd.notEnd] at h8
        rw [if_pos hg, hM.is (f := f) (q.n + 1) (k := 17) rfl (by decide) (by decide), Option.bind_some, if_neg (by decide), if_pos hg, ht, Option.bind_some, Option.bind_some, hk0] at h8
        simp only [Bool.false_eq_true, ↓reduceIte, Option.some.injEq] at h8
        exact h8.symm
    subst hq2
    have h4 : ((0 : Int) != 0) = false := rfl
    simp only [Option.bind_some, h4, Bool.false_eq_true, ↓reduceIte] at hX
    rw [Option.bind_eq_some_iff] at hX
    obtain ⟨q3, h9, hX⟩ := hX
    unfold Pg.numberO at h9
    split at h9
    · cases h9
      cases hX
      congr 2
      simp only [Pg.number, h7']
      rw [numsP_app, Nat.zero_add]
      congr 3
      simp only [moreP, moreS, Sm.nums, Sm.num, ↓reduceIte]
      rw [htot.1]
    · cases h9

end Go.Abs

/-! Glue2 -/

namespace Go.Abs

def M0 : Map := ⟨fun _ _ => none, fun _ => 0, fun _ => none⟩

/-- Of what was there nothing turns. -/
def Kept (w w' : World) : Prop := w.keptBut w' (fun _ => False) ∧ ∀ a : Addr, a.block < w.heap.size → w'.frozen? a = w.frozen? a

theorem Kept.frame {w w' : World} (h : Kept w w') (may : MemPlace → Prop) : w.keptBut w' may := World.keptBut_mono (fun _ f => f.elim) h.1

theorem Ext.toKept {M M' : Map} {s' : St} {w w' : World} (e : Ext M S0 w M' s' w') : Kept w w' := by
  have hh : ∀ b, b < w.heap.size → w'.heap[b]? = w.heap[b]? := fun b hb =>
    e.kept b hb (fun o ho => by simp [S0] at ho) (fun t c z hl => by obtain ⟨n, hn⟩ := hl; simp [S0] at hn)
  refine ⟨⟨e.os, e.output, fun i hi => ?_⟩, fun a ha => ?_⟩
  · rw [hh i hi]
    exact (World.keptBut_refl w (fun _ => False)).2.2 i hi
  · simp only [World.frozen?, hh _ ha]

theorem rel0 (G : Nat → Nat → Option Value) (w : World) (h : ∀ b o v, G b o = some v → w.cell? ⟨b, o, none⟩ = some v ∧ v.oneCell' = true) : Rel ⟨G, fun _ => 0, fun _ => none⟩ S0 w :=
  ⟨h, fun o ds e => by simp [S0] at e, fun o ho => by simp [S0] at ho, fun o o' ho => by simp [S0] at ho, fun t n e => by simp [S0] at e,
    fun t b c z o hl => by obtain ⟨n, hn⟩ := hl; simp [S0] at hn, fun t t' b c z c' z' hl => by obtain ⟨n, hn⟩ := hl; simp [S0] at hn⟩

/-- A law is called. -/
theorem law_calls {P : Program} {f : FuncId} {args : List D} {vargs : Array Value} {w : World} {G : Nat → Nat → Option Value} (h : ACalls P f args S0 fun d _ => d = .bool true)
    (hG : ∀ b o v, G b o = some v → w.cell? ⟨b, o, none⟩ = some v ∧ v.oneCell' = true) (hl : vargs.size = args.length)
    (ha : ∀ (i : Nat) (d : D) (v : Value), args[i]? = some d → vargs[i]? = some v → RD ⟨G, fun _ => 0, fun _ => none⟩ S0 d v) :
    Calls P f vargs w fun e w' => e = .returned (.bool true) ∧ Kept w w' := by
  refine (h _ w vargs (rel0 G w hG) hl ha).mono fun e w' hw => ?_
  obtain ⟨M', d, v, s', rfl, rfl, he, _, hv⟩ := hw
  rw [hv.bool_inv]
  exact ⟨rfl, he.toKept⟩

section
variable {P : Program} {H : Type} {enc : TypeId × Value → H}

/-- The row's closing condition, where nothing turns of what was there. -/
theorem post_of_kept {f : Func} {s : ChangeSpec} {apart fresh handsOn again : Bool} {W W' : World} {args : Array Value} {v : Value} {ds gs : List (DataW H)} {before pa pv : List MemPlace}
    (hW : DataW.Whole enc P f.params.toList s.vars apart W args.toList ds gs before)
    (hres : ∀ (b : Nat) (sp : Nat → Bool) (hd : Bool), DataW.TrodAll enc P W' b sp hd f.resultTypes.toList (v.resultList f.resultTypes.size) (s.fn H (ds ++ gs)).results [])
    (hargs : ∀ sp : Nat → Bool, (∀ p ∈ before, sp p.block = true) → DataW.TrodAll enc P W' 0 sp true f.params.toList args.toList (s.fn H (ds ++ gs)).args pa)
    (hvars : ∀ sp : Nat → Bool, (∀ p ∈ before, sp p.block = true) → DataW.TrodVars enc P W' sp s.vars (s.fn H (ds ++ gs)).vars pv)
    (hps : before = pa ++ pv) (hk : Kept W W')
    (hok : ∀ (j : Nat) (t : TypeId) (r : Value), f.resultTypes[j]? = some t → (v.resultList f.resultTypes.size)[j]? = some r → Value.okWide P W' .any 0 t r) :
    s.post enc P f apart fresh handsOn again W args v W' := by
  have hlt : ∀ p ∈ before, p.block < W.heap.size := fun p hp => hW.lt p hp
  have hold : ∀ p ∈ before, (fun b => decide (b < W.heap.size)) p.block = true := fun p hp => by simpa using hlt p hp
  refine ⟨ds, gs, before, [], pa, pv, hW, hres _ _ _, hargs _ hold, hvars _ hold, World.keptBut_mono (fun p hp => ⟨hp, ?_⟩) (hk.frame (· ∈ before)), fun _ => ?_⟩
  · rw [hps, List.mem_append] at hp
    exact Or.inr hp
  · obtain ⟨_, _, _, _, _, hz, hn⟩ := hW
    refine ⟨hok, _, _, ([] ++ pa) ++ pv, ⟨[] ++ pa, pv, ChangeShapes.trodAll_append (hargs _ (fun _ _ => rfl)) (hres _ _ _), hvars _ (fun _ _ => rfl), rfl, ?_, ?_⟩, ?_⟩
    · intro b off hp
      have hp' : MemPlace.cell b off ∈ before := by rw [hps]; simpa using hp
      rw [hk.2 _ (hlt _ hp')]
      exact hz b off hp'
    · intro ha
      have := hn ha
      rw [hps] at this
      simpa using this
    · intro p hp _
      rw [hps]
      simpa using hp
end
end Go.Abs

/-! Join -/

namespace Go.Abs
open Go.RowKit Go.ChangeShapes Go.WideShapes

/-- All that can be read. -/
def memG (w : World) (b o : Nat) : Option Value :=
  match w.cell? ⟨b, o, none⟩ with
  | some v => if v.oneCell' = true then some v else none
  | none => none
theorem memG_ok {w : World} (b o : Nat) (v : Value) (h : memG w b o = some v) : w.cell? ⟨b, o, none⟩ = some v ∧ v.oneCell' = true := by
  unfold memG at h
  split at h
  · split at h
    · cases h; exact ⟨‹_›, ‹_›⟩
    · cases h
  · cases h
/-- All of it is fixed. -/
def memM (w : World) : Map := ⟨memG w, fun _ => 0, fun _ => none⟩

theorem Kept.sameAt {w w' : World} (h : Kept w w') {p : MemPlace} (hp : p.block < w.heap.size) : w.sameAt w' p := by
  have hk := h.1.2.2 p.block hp
  cases p with
  | cell b off =>
    simp only [MemPlace.block] at hk hp
    simp only [World.sameAt, World.cell?]
    split at hk
    · rename_i c t fr c' t' fr' e e'
      rw [e, e']
      simp only [hk.2.2.2 off (fun f => f)]
    · rename_i es clock es' clock' e e'
      rw [e, e']
    · rw [hk]
  | map b =>
    simp only [MemPlace.block] at hk hp
    simp only [World.sameAt]
    split at hk
    · rename_i c t fr c' t' fr' e e'
      rw [e, e']
      obtain ⟨rfl, rfl, hs, hc⟩ := hk
      have : c' = c := by
        apply Array.ext_getElem?
        intro i
        exact hc i (fun f => f)
      rw [this]
    · rename_i es clock es' clock' e e'
      rcases hk with f | ⟨rfl, rfl⟩
      · exact f.elim
      · rw [e, e']
    · exact hk

section
variable {P : Program} {H : Type} {enc : TypeId × Value → H} {T : TypeId → Prop}

theorem args_again (K : Kids P T) (hz : ∀ {t e : TypeId}, T t → P.underlying t = some (.slice e) → 0 < P.cellsOf e) {W W' : World} (hk : Kept W W') {sp : Nat → Bool} :
    ∀ {ts : List TypeId} {vs : List Value} {ds : List (DataW H)} {ps : List MemPlace}, (∀ t ∈ ts, T t) → (∀ p ∈ ps, p.block < W.heap.size) → (∀ p ∈ ps, sp p.block = true) →
      DataW.TrodAll enc P W 0 (fun _ => true) true ts vs ds ps → DataW.TrodAll enc P W' 0 sp true ts vs ds ps
  | [], [], [], _, _, _, _, h => h
  | t :: ts, v :: vs, d :: ds, ps, hT, hlt, hs, ⟨p, q, ⟨n, h1⟩, h2, e⟩ => by
    subst e
    refine ⟨p, q, ⟨n, DataW.trod_stays K hz (fun f => by cases f) (hT t (List.mem_cons_self ..)) h1 (fun x hx => hk.sameAt (hlt x (List.mem_append_left _ hx))) (fun x hx => hs x (List.mem_append_left _ hx))⟩, ?_, rfl⟩
    exact args_again K hz hk (fun t ht => hT t (List.mem_cons_of_mem _ ht)) (fun x hx => hlt x (List.mem_append_right _ hx)) (fun x hx => hs x (List.mem_append_right _ hx)) h2
  | [], [], _ :: _, _, _, _, _, h => h.elim
  | [], _ :: _, _, _, _, _, _, h => h.elim
  | _ :: _, [], _, _, _, _, _, h => h.elim
  | _ :: _, _ :: _, [], _, _, _, _, h => h.elim

/-- The row's closing condition. -/
theorem law_post (K : Kids P T) (hz : ∀ {t e : TypeId}, T t → P.underlying t = some (.slice e) → 0 < P.cellsOf e) {f : Func} {s : ChangeSpec} {apart fresh handsOn again : Bool} {tb : TypeId} {W W' : World} {args : Array Value} {ds gs : List (DataW H)} {before : List MemPlace}
    (hT : ∀ t ∈ f.params.toList, T t) (hb : P.underlying tb = some .bool) (hr : f.resultTypes = #[tb]) (hvars : s.vars = []) (hW : DataW.Whole enc P f.params.toList s.vars apart W args.toList ds gs before)
    (hfn : s.fn H (ds ++ gs) = { results := [.lit (.bool true)], args := ds }) (hk : Kept W W') : s.post enc P f apart fresh handsOn again W args (.bool true) W' := by
  have hW' := hW
  have hlt : ∀ p ∈ before, p.block < W.heap.size := fun p hp => hW.lt p hp
  obtain ⟨p, q, hA, hV, rfl, hfz, hnd⟩ := hW
  rw [hvars] at hV
  obtain ⟨rfl, rfl⟩ := trodVars_none hV
  simp only [List.append_nil] at hlt hfn
  refine post_of_kept (pa := p) (pv := []) hW' (fun b sp hd => ?_) (fun sp hsp => ?_) (fun sp hsp => ?_) rfl hk (ok_one hr rfl (okWide_bool_mk hb _))
  · rw [List.append_nil, hfn, hr]
    exact trodAll_cons_mk (shut_bool hb _) trodAll_mk0
  · rw [List.append_nil, hfn]
    simp only [List.append_nil] at hsp
    exact args_again K hz hk hT hlt hsp hA
  · rw [List.append_nil, hfn, hvars]
    rfl

/-- A law is called with arguments that can be read. -/
theorem law_run {f : FuncId} {args : List D} {vargs : Array Value} {w : World} (h : ACalls P f args S0 fun d _ => d = .bool true) (hl : vargs.size = args.length)
    (ha : ∀ (i : Nat) (d : D) (v : Value), args[i]? = some d → vargs[i]? = some v → RD (memM w) S0 d v) : Calls P f vargs w fun e w' => e = .returned (.bool true) ∧ Kept w w' :=
  law_calls (G := memG w) h memG_ok hl ha
end

end Go.Abs

/-! LawMore -/

namespace Go.Abs

set_option maxRecDepth 8000
set_option linter.unusedSimpArgs false
set_option linter.unusedVariables false
open Go.Proofs

theorem ParseMore_true (text : Str) : Fun Try.prog n_law4_ParseMore [.str text] S0 (.bool true) S0 := by
  obtain ⟨⟨p, c, fat⟩, h, hsz⟩ := parseM_t (cutM text)
  have h1 := fun s => Parse_s h (cutM_len text) s
  have hlex := fun s => all_s (cutM text) (cutM_len text) s
  have hcut := fun s => Cut_s text s
  have hcl : (cutM text).length ≤ 100100 := by unfold cutM; simp only [List.length_take]; omega
  generalize cutM text = T at *
  dsimp only at h1 hsz
  unfold S0
  cases hc : c != 0
  · have hc0 : c = 0 := by simpa using hc
    subst hc0
    by_cases hL : (lexAll T).1.length ≤ 1900
    · have d1 : decide ((((lexAll T).1.length : Nat) : Int) > 1900) = false := by simp only [decide_eq_false_iff_not]; omega
      by_cases hT : T.length ≤ 99000
      · have d2 : decide (((T.length : Nat) : Int) > 99000) = false := by simp only [decide_eq_false_iff_not]; omega
        obtain ⟨h200, k1, k2, k3⟩ := more_law h hL hT
        have hall := fun s => All_s (p := p) (by simp only [Pg.size] at hsz; omega) s
        have hplen : p.procs.length < 100000 := by have := Pc.sizes_len p.procs; simp only [Pg.size] at hsz; omega
        have m1 : T.length + 38 ≤ maxStr := by unfold maxStr; omega
        have w1 : IntKind.wrap .i64 ((T.length : Int) + 1) = ((T.length + 1 : Nat) : Int) := by rw [wrap_ok] <;> omega
        have w27 : IntKind.wrap .i64 ((T.length : Int) + 27) = ((T.length + 27 : Nat) : Int) := by rw [wrap_ok] <;> omega
        have q1 : (((T.length + 1 : Nat) : Int) == ((T.length + 1 : Nat) : Int)) = true := by simp
        have q27 : (((T.length + 27 : Nat) : Int) == ((T.length + 27 : Nat) : Int)) = true := by simp
        have q4 : ((4 : Int) == 4) = true := rfl
        clear h
        by_cases h16 : p.procs.length = 16
        · obtain ⟨q, hq⟩ := k1 h16
          have h2 := fun s => Parse_s hq (by rw [List.length_append, moreM_len]; omega) s
          simp only [moreM] at h2
          have e16 : (((p.procs.length : Nat) : Int) == 16) = true := by rw [h16]; rfl
          clear k1 k2 k3 hq
          refine Fun.go has_law4_ParseMore rfl fun B Q hB hQ => ?_
          have hlt : 0 < 1 := Nat.zero_lt_one
          have hget : 0 < 1 := Nat.zero_lt_one
          have hpu : 0 < 1 := Nat.zero_lt_one
          have hinc : 0 < 1 := Nat.zero_lt_one
          repeat' (first
 | simp only [go_sem, hlt, hget, hpu, hinc, Int.reduceLE, ↓reduceIte, reduceCtorEq, Nat.reduceEqDiff, Nat.reduceLeDiff, Nat.reduceAdd, Nat.reduceMul, Nat.reduceSub, Nat.reduceLT, hc, d1, d2, m1, e16, w1, q1, q4]
 | (with_reducible refine CU (parsed_0 _) ?_)
 | (with_reducible refine CU (hcut _) ?_)
 | (with_reducible refine CU (hlex _) ?_)
 | (with_reducible refine CU (h1 _) ?_)
 | (with_reducible refine CU (h2 _) ?_)
 | (with_reducible first | refine CB_ofT (by assumption) fun hc => ?_ | refine CB_ofF (by assumption) fun hc => ?_ | refine CB_split (fun hc => ?_) fun hc => ?_) <;> (try simp only [hc, bs, ↓reduceIte] at h) <;> (try simp only [hc])
 | ((with_reducible first | refine leafR hQ ?_ | refine leafN hQ ?_); (try cases h); simp only [resL, oneD, Option.some.injEq, exists_eq_left', go_sem, hlt, hget, hpu, hinc, Int.reduceLE, ↓reduceIte, reduceCtorEq, Nat.reduceEqDiff, Nat.reduceLeDiff, Nat.reduceAdd, Nat.reduceMul, Nat.reduceSub, Nat.reduceLT, hc, d1, d2, m1, e16, w1, q1, q4]; repeat' (first | exact Ok.out | with_reducible refine And.intro ?_ ?_ | (simp; done)))
 | (cases h; replace h := hr; clear hr; (try simp only [bs, ↓reduceIte] at h))
 | (cases h; done))
        · have e16 : (((p.procs.length : Nat) : Int) == 16) = false := by simp; omega
          by_cases hf : p.all.length = 200
          · obtain ⟨q, hq⟩ := k2 h16 hf
            have h2 := fun s => Parse_s hq (by rw [List.length_append, moreM_len]; omega) s
            simp only [moreM] at h2
            have e200 : (((p.all.length : Nat) : Int) == 200) = true := by rw [hf]; rfl
            clear k1 k2 k3 hq
            refine Fun.go has_law4_ParseMore rfl fun B Q hB hQ => ?_
            have hlt : 0 < 1 := Nat.zero_lt_one
            have hget : 0 < 1 := Nat.zero_lt_one
            have hpu : 0 < 1 := Nat.zero_lt_one
            have hinc : 0 < 1 := Nat.zero_lt_one
            repeat' (first
 | simp only [go_sem, hlt, hget, hpu, hinc, Int.reduceLE, ↓reduceIte, reduceCtorEq, Nat.reduceEqDiff, Nat.reduceLeDiff, Nat.reduceAdd, Nat.reduceMul, Nat.reduceSub, Nat.reduceLT, hc, d1, d2, m1, e16, e200, w27, q27, q4]
 | (with_reducible refine CU (parsed_0 _) ?_)
 | (with_reducible refine CU (hcut _) ?_)
 | (with_reducible refine CU (hlex _) ?_)
 | (with_reducible refine CU (h1 _) ?_)
 | (with_reducible refine CU (h2 _) ?_)
 | (with_reducible refine CU (hall _) ?_)
 | (with_reducible first | refine CB_ofT (by assumption) fun hc => ?_ | refine CB_ofF (by assumption) fun hc => ?_ | refine CB_split (fun hc => ?_) fun hc => ?_) <;> (try simp only [hc, bs, ↓reduceIte] at h) <;> (try simp only [hc])
 | ((with_reducible first | refine leafR hQ ?_ | refine leafN hQ ?_); (try cases h); simp only [resL, oneD, Option.some.injEq, exists_eq_left', go_sem, hlt, hget, hpu, hinc, Int.reduceLE, ↓reduceIte, reduceCtorEq, Nat.reduceEqDiff, Nat.reduceLeDiff, Nat.reduceAdd, Nat.reduceMul, Nat.reduceSub, Nat.reduceLT, hc, d1, d2, m1, e16, e200, w27, q27, q4]; repeat' (first | exact Ok.out | with_reducible refine And.intro ?_ ?_ | (simp; done)))
 | (cases h; replace h := hr; clear hr; (try simp only [bs, ↓reduceIte] at h))
 | (cases h; done))
          · have hq := k3 h16 hf
            have h2 := fun s => Parse_s hq (by rw [List.length_append, moreM_len]; omega) s
            simp only [moreM] at h2
            have e200 : (((p.all.length : Nat) : Int) == 200) = false := by simp; omega
            clear k1 k2 k3 hq
            obtain ⟨f, hff⟩ : ∃ f, f = moreP ((p.all.length + 1 : Nat) : Int) := ⟨_, rfl⟩
            rw [← hff] at h2
            have fn : (f.name == [109, 111, 114, 101]) = true := by rw [hff]; rfl
            have fp : f.params = [⟨[97], true⟩] := by rw [hff]; rfl
            have fv : f.vars = [[98]] := by rw [hff]; rfl
            have fb : f.body = [moreS ((p.all.length + 1 : Nat) : Int)] := by rw [hff]; rfl
            have fe : f.fin = [[108]] := by rw [hff]; rfl
            have gp : (p.procs.map encPc ++ [encPc f])[p.procs.length]? = some (encPc f) := by rw [List.getElem?_append_right (by simp)]; simp
            have tk : (p.procs.map encPc ++ [encPc f]).take p.procs.length = p.procs.map encPc := List.take_left' (by simp)
            have i1 : ((p.procs.length : Int) = ((p.procs.length + 1 : Nat) : Int)) = False := by simp; omega
            have i2 : ((p.procs.length : Int) ≤ ((p.procs.length + 1 : Nat) : Int)) = True := by simp; omega
            have i3 : ((0 : Int) ≤ (p.procs.length : Int)) = True := by simp
            have z0 : ((0 : Int) != 0) = false := rfl
            have zz : (((p.procs.length + 1 : Nat) : Int) != ((p.procs.length + 1 : Nat) : Int)) = false := by simp
            have w3 : IntKind.wrap .i64 ((p.procs.length : Int) + 1) = ((p.procs.length + 1 : Nat) : Int) := by rw [wrap_ok] <;> omega
            have w4 : IntKind.wrap .i64 ((p.all.length : Int) + 1) = ((p.all.length + 1 : Nat) : Int) := by rw [wrap_ok] <;> omega
            have h3 : ∀ s, Fun Try.prog n_ref3_Eq [.agg (encPg p), .agg [.slice .shared 1 (p.globals.map encStr), .slice .shared 5 (p.procs.map encPc)]] s (.bool true) s := fun s => by
              have := Eq_s (a := p) (b := p) (by omega) s
              rw [Pg.beq_refl] at this
              exact this
            clear hff
            refine Fun.go has_law4_ParseMore rfl fun B Q hB hQ => ?_
            have hlt : 0 < 1 := Nat.zero_lt_one
            have hget : 0 < 1 := Nat.zero_lt_one
            have hpu : 0 < 1 := Nat.zero_lt_one
            have hinc : 0 < 1 := Nat.zero_lt_one
            repeat' (first
 | simp only [go_sem, hlt, hget, hpu, hinc, Int.reduceLE, ↓reduceIte, reduceCtorEq, Nat.reduceEqDiff, Nat.reduceLeDiff, Nat.reduceAdd, Nat.reduceMul, Nat.reduceSub, Nat.reduceLT, hc, d1, d2, m1, e16, e200, z0, zz, w3, gp, tk, i1, i2, i3, hiD, loD, or_true, Int.le_refl]
 | (with_reducible refine CU (parsed_0 _) ?_)
 | (with_reducible refine CU (hcut _) ?_)
 | (with_reducible refine CU (hlex _) ?_)
 | (with_reducible refine CU (h1 _) ?_)
 | (with_reducible refine CU (h2 _) ?_)
 | (with_reducible refine CU (hall _) ?_)
 | (with_reducible first | refine CB_ofT (by assumption) fun hc => ?_ | refine CB_ofF (by assumption) fun hc => ?_ | refine CB_split (fun hc => ?_) fun hc => ?_) <;> (try simp only [hc, bs, ↓reduceIte] at h) <;> (try simp only [hc])
 | ((with_reducible first | refine leafR hQ ?_ | refine leafN hQ ?_); (try cases h); simp only [resL, oneD, Option.some.injEq, exists_eq_left', go_sem, hlt, hget, hpu, hinc, Int.reduceLE, ↓reduceIte, reduceCtorEq, Nat.reduceEqDiff, Nat.reduceLeDiff, Nat.reduceAdd, Nat.reduceMul, Nat.reduceSub, Nat.reduceLT, hc, d1, d2, m1, e16, e200, z0, zz, w3, gp, tk, i1, i2, i3, hiD, loD, or_true, Int.le_refl]; repeat' (first | exact Ok.out | with_reducible refine And.intro ?_ ?_ | (simp; done)))
 | (cases h; replace h := hr; clear hr; (try simp only [bs, ↓reduceIte] at h))
 | (cases h; done))
            have b1 : ((1 : Int) == 1) = true := rfl
            have b2 : (((p.all.length + 1 : Nat) : Int) == ((p.all.length + 1 : Nat) : Int)) = true := by simp
            repeat' (first
 | simp only [go_sem, hlt, hget, hpu, hinc, Int.reduceLE, ↓reduceIte, reduceCtorEq, Nat.reduceEqDiff, Nat.reduceLeDiff, Nat.reduceAdd, Nat.reduceMul, Nat.reduceSub, Nat.reduceLT, fn, fp, fv, fb, fe, b1, b2, w4, moreS]
 | (with_reducible refine CU (h3 _) ?_)
 | (with_reducible refine CU (hall _) ?_)
 | (with_reducible first | refine CB_ofT (by assumption) fun hc => ?_ | refine CB_ofF (by assumption) fun hc => ?_ | refine CB_split (fun hc => ?_) fun hc => ?_) <;> (try simp only [hc, bs, ↓reduceIte] at h) <;> (try simp only [hc])
 | ((with_reducible first | refine leafR hQ ?_ | refine leafN hQ ?_); (try cases h); simp only [resL, oneD, Option.some.injEq, exists_eq_left', go_sem, hlt, hget, hpu, hinc, Int.reduceLE, ↓reduceIte, reduceCtorEq, Nat.reduceEqDiff, Nat.reduceLeDiff, Nat.reduceAdd, Nat.reduceMul, Nat.reduceSub, Nat.reduceLT, fn, fp, fv, fb, fe, b1, b2, w4, moreS]; repeat' (first | exact Ok.out | with_reducible refine And.intro ?_ ?_ | (simp; done)))
 | (cases h; replace h := hr; clear hr; (try simp only [bs, ↓reduceIte] at h))
 | (cases h; done))
            have t1 := fun s => EqTexts_s (l := f.fin) (l' := [[108]]) (by rw [fe]; simp) s
            have t2 := fun s => EqTexts_s (l := f.vars) (l' := [[98]]) (by rw [fv]; simp) s
            rw [fe, eqT_refl] at t1
            rw [fv, eqT_refl] at t2
            simp only [List.map_cons, List.map_nil, encStr] at t1 t2
            refine CL.useW (t1 _) Ok.out ?_
            repeat' (first
 | simp only [go_sem, hlt, hget, hpu, hinc, Int.reduceLE, ↓reduceIte, reduceCtorEq, Nat.reduceEqDiff, Nat.reduceLeDiff, Nat.reduceAdd, Nat.reduceMul, Nat.reduceSub, Nat.reduceLT, fn, fp, fv, fb, fe, b1, b2, w4, moreS]
 | (with_reducible first | refine CB_ofT (by assumption) fun hc => ?_ | refine CB_ofF (by assumption) fun hc => ?_ | refine CB_split (fun hc => ?_) fun hc => ?_) <;> (try simp only [hc, bs, ↓reduceIte] at h) <;> (try simp only [hc])
 | ((with_reducible first | refine leafR hQ ?_ | refine leafN hQ ?_); (try cases h); simp only [resL, oneD, Option.some.injEq, exists_eq_left', go_sem, hlt, hget, hpu, hinc, Int.reduceLE, ↓reduceIte, reduceCtorEq, Nat.reduceEqDiff, Nat.reduceLeDiff, Nat.reduceAdd, Nat.reduceMul, Nat.reduceSub, Nat.reduceLT, fn, fp, fv, fb, fe, b1, b2, w4, moreS]; repeat' (first | exact Ok.out | with_reducible refine And.intro ?_ ?_ | (simp; done)))
 | (cases h; replace h := hr; clear hr; (try simp only [bs, ↓reduceIte] at h))
 | (cases h; done))
            refine CL.useW (t2 _) Ok.out ?_
            repeat' (first
 | simp only [go_sem, hlt, hget, hpu, hinc, Int.reduceLE, ↓reduceIte, reduceCtorEq, Nat.reduceEqDiff, Nat.reduceLeDiff, Nat.reduceAdd, Nat.reduceMul, Nat.reduceSub, Nat.reduceLT, fn, fp, fv, fb, fe, b1, b2, w4, moreS]
 | (with_reducible first | refine CB_ofT (by assumption) fun hc => ?_ | refine CB_ofF (by assumption) fun hc => ?_ | refine CB_split (fun hc => ?_) fun hc => ?_) <;> (try simp only [hc, bs, ↓reduceIte] at h) <;> (try simp only [hc])
 | ((with_reducible first | refine leafR hQ ?_ | refine leafN hQ ?_); (try cases h); simp only [resL, oneD, Option.some.injEq, exists_eq_left', go_sem, hlt, hget, hpu, hinc, Int.reduceLE, ↓reduceIte, reduceCtorEq, Nat.reduceEqDiff, Nat.reduceLeDiff, Nat.reduceAdd, Nat.reduceMul, Nat.reduceSub, Nat.reduceLT, fn, fp, fv, fb, fe, b1, b2, w4, moreS]; repeat' (first | exact Ok.out | with_reducible refine And.intro ?_ ?_ | (simp; done)))
 | (cases h; replace h := hr; clear hr; (try simp only [bs, ↓reduceIte] at h))
 | (cases h; done))
      · have d2 : decide (((T.length : Nat) : Int) > 99000) = true := by simp only [decide_eq_true_eq]; omega
        clear h
        refine Fun.go has_law4_ParseMore rfl fun B Q hB hQ => ?_
        have hlt : 0 < 1 := Nat.zero_lt_one
        have hget : 0 < 1 := Nat.zero_lt_one
        have hpu : 0 < 1 := Nat.zero_lt_one
        have hinc : 0 < 1 := Nat.zero_lt_one
        repeat' (first
 | simp only [go_sem, hlt, hget, hpu, hinc, Int.reduceLE, ↓reduceIte, reduceCtorEq, Nat.reduceEqDiff, Nat.reduceLeDiff, Nat.reduceAdd, Nat.reduceMul, Nat.reduceSub, Nat.reduceLT, hc, d1, d2]
 | (with_reducible refine CU (parsed_0 _) ?_)
 | (with_reducible refine CU (hcut _) ?_)
 | (with_reducible refine CU (hlex _) ?_)
 | (with_reducible refine CU (h1 _) ?_)
 | (with_reducible first | refine CB_ofT (by assumption) fun hc => ?_ | refine CB_ofF (by assumption) fun hc => ?_ | refine CB_split (fun hc => ?_) fun hc => ?_) <;> (try simp only [hc, bs, ↓reduceIte] at h) <;> (try simp only [hc])
 | ((with_reducible first | refine leafR hQ ?_ | refine leafN hQ ?_); (try cases h); simp only [resL, oneD, Option.some.injEq, exists_eq_left', go_sem, hlt, hget, hpu, hinc, Int.reduceLE, ↓reduceIte, reduceCtorEq, Nat.reduceEqDiff, Nat.reduceLeDiff, Nat.reduceAdd, Nat.reduceMul, Nat.reduceSub, Nat.reduceLT, hc, d1, d2]; repeat' (first | exact Ok.out | with_reducible refine And.intro ?_ ?_ | (simp; done)))
 | (cases h; replace h := hr; clear hr; (try simp only [bs, ↓reduceIte] at h))
 | (cases h; done))
    · have d1 : decide ((((lexAll T).1.length : Nat) : Int) > 1900) = true := by simp only [decide_eq_true_eq]; omega
      clear h
      refine Fun.go has_law4_ParseMore rfl fun B Q hB hQ => ?_
      have hlt : 0 < 1 := Nat.zero_lt_one
      have hget : 0 < 1 := Nat.zero_lt_one
      have hpu : 0 < 1 := Nat.zero_lt_one
      have hinc : 0 < 1 := Nat.zero_lt_one
      repeat' (first
 | simp only [go_sem, hlt, hget, hpu, hinc, Int.reduceLE, ↓reduceIte, reduceCtorEq, Nat.reduceEqDiff, Nat.reduceLeDiff, Nat.reduceAdd, Nat.reduceMul, Nat.reduceSub, Nat.reduceLT, hc, d1]
 | (with_reducible refine CU (parsed_0 _) ?_)
 | (with_reducible refine CU (hcut _) ?_)
 | (with_reducible refine CU (hlex _) ?_)
 | (with_reducible refine CU (h1 _) ?_)
 | (with_reducible first | refine CB_ofT (by assumption) fun hc => ?_ | refine CB_ofF (by assumption) fun hc => ?_ | refine CB_split (fun hc => ?_) fun hc => ?_) <;> (try simp only [hc, bs, ↓reduceIte] at h) <;> (try simp only [hc])
 | ((with_reducible first | refine leafR hQ ?_ | refine leafN hQ ?_); (try cases h); simp only [resL, oneD, Option.some.injEq, exists_eq_left', go_sem, hlt, hget, hpu, hinc, Int.reduceLE, ↓reduceIte, reduceCtorEq, Nat.reduceEqDiff, Nat.reduceLeDiff, Nat.reduceAdd, Nat.reduceMul, Nat.reduceSub, Nat.reduceLT, hc, d1]; repeat' (first | exact Ok.out | with_reducible refine And.intro ?_ ?_ | (simp; done)))
 | (cases h; replace h := hr; clear hr; (try simp only [bs, ↓reduceIte] at h))
 | (cases h; done))
  · clear h
    refine Fun.go has_law4_ParseMore rfl fun B Q hB hQ => ?_
    have hlt : 0 < 1 := Nat.zero_lt_one
    have hget : 0 < 1 := Nat.zero_lt_one
    have hpu : 0 < 1 := Nat.zero_lt_one
    have hinc : 0 < 1 := Nat.zero_lt_one
    repeat' (first
 | simp only [go_sem, hlt, hget, hpu, hinc, Int.reduceLE, ↓reduceIte, reduceCtorEq, Nat.reduceEqDiff, Nat.reduceLeDiff, Nat.reduceAdd, Nat.reduceMul, Nat.reduceSub, Nat.reduceLT, hc]
 | (with_reducible refine CU (parsed_0 _) ?_)
 | (with_reducible refine CU (hcut _) ?_)
 | (with_reducible refine CU (hlex _) ?_)
 | (with_reducible refine CU (h1 _) ?_)
 | (with_reducible first | refine CB_ofT (by assumption) fun hc => ?_ | refine CB_ofF (by assumption) fun hc => ?_ | refine CB_split (fun hc => ?_) fun hc => ?_) <;> (try simp only [hc, bs, ↓reduceIte] at h) <;> (try simp only [hc])
 | ((with_reducible first | refine leafR hQ ?_ | refine leafN hQ ?_); (try cases h); simp only [resL, oneD, Option.some.injEq, exists_eq_left', go_sem, hlt, hget, hpu, hinc, Int.reduceLE, ↓reduceIte, reduceCtorEq, Nat.reduceEqDiff, Nat.reduceLeDiff, Nat.reduceAdd, Nat.reduceMul, Nat.reduceSub, Nat.reduceLT, hc]; repeat' (first | exact Ok.out | with_reducible refine And.intro ?_ ?_ | (simp; done)))
 | (cases h; replace h := hr; clear hr; (try simp only [bs, ↓reduceIte] at h))
 | (cases h; done))

end Go.Abs

/-! ParseMore -/

namespace Go.Proofs.Ytecpopiacpckiaa.parseMore
open Go.ChangeShapes Go.WideShapes Go.ChangeAt Go.RowKit Go.Abs
set_option linter.unusedVariables false

theorem own : ownKnob Try.prog.godebug = none := by kernel_rfl
theorem kids : Kids Try.prog (· < Try.prog.types.size) := kids_rows (by kernel_rfl) (by kernel_rfl)
theorem full : ∀ {t e : TypeId}, t < Try.prog.types.size → Try.prog.underlying t = some (.slice e) → 0 < Try.prog.cellsOf e := fun {t e} => slices_full_of Try.prog (by kernel_rfl) t e

theorem walk (w : World) (x0 : ByteArray) : Calls Try.prog 8 #[.string x0] w fun e w' => e = .returned (.bool true) ∧ Kept w w' := by
  refine law_run (args := [.str x0.data.toList]) ((ParseMore_true x0.data.toList).mono fun _ _ h => h.1) rfl ?_
  intro i d v h1 h2
  match i, h1, h2 with
  | 0, h1, h2 => simp at h1 h2; subst h1 h2; exact RD.str _

set_option maxRecDepth 100000 in
theorem lifted (os : Os) (started : os.Started) (H : Type) (enc : TypeId × Value → H) :
    ReturnsInHanded {} Try.checked os 8 .any (Rows.parseMoreSpec.pre6 enc Try.prog Try.f8 Rows.parseMoreRow.domain false) (Rows.parseMoreSpec.post enc Try.prog Try.f8 false true false false) := by
  refine returnsInHanded_of_change (C := Try.checked) own started (by kernel_rfl) Try.func8
    (ChangeSpec.witness6 (enc := enc) (C := Try.checked) false ⟨#[], #[.string ⟨#[]⟩], []⟩ 8 (by kernel_rfl) (by kernel_rfl) (by kernel_rfl) (by kernel_rfl)) ?_
  intro W base args ds gs before hval0 hW hcnd _
  have hval : ∀ (j : Nat) t v, Try.f8.params[j]? = some t → args[j]? = some v → Value.okWide Try.prog W .any base t v := hval0
  have hW' := hW
  obtain ⟨p, q, hA0, hV, rfl, hfz, hnd⟩ := hW
  have hA : DataW.TrodAll enc Try.prog W 0 (fun _ => true) true Try.f8.params.toList args.toList ds p := hA0
  rw [Try.params8] at hA hval
  obtain ⟨v0, d0, rfl, rfl, hd0⟩ := trodAll_one hA
  obtain ⟨x0, rfl, rfl, rfl, _⟩ := Go.ChangeMaps.open_string Try.underlying9 (hval 0 _ _ rfl rfl) hd0
  obtain ⟨rfl, rfl⟩ := trodVars_none hV
  refine (walk W x0).mono fun e W' ⟨he, hg⟩ => ?_
  subst he
  exact ⟨_, rfl, law_post kids full (by rw [Try.params8]; decide) Try.underlying4 (by kernel_rfl) rfl hW' rfl hg⟩

theorem over : Rows.parseMoreRow.holds Try.pinned (OpenSpec.ofChange Rows.parseMoreSpec) :=
  OpenClaim.holds_of_wide 8 Try.f8 rfl rfl rfl rfl rfl rfl rfl ⟨rfl, rfl, rfl, rfl, rfl⟩ rfl rfl rfl rfl rfl (by kernel_rfl) Try.func8 (by kernel_rfl)
    (of_decide_eq_true (by kernel_rfl)) (by unfold Func.isWrapper; first | (rw [if_pos (by decide +kernel)]; kernel_rfl) | (rw [if_neg (by decide +kernel)]; exact ⟨rfl, rfl⟩))
    (fun os started H enc _ => lifted os started H enc)

theorem proved : Rows.ParseMoreSaid :=
  over
#print axioms proved
end Go.Proofs.Ytecpopiacpckiaa.parseMore
