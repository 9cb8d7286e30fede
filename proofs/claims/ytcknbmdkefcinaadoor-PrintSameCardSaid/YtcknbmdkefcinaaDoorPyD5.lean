/-
  What is proved here: the statement PrintSameCardSaid: whatever the programs, the law, called, gives true, and of what was there nothing turns.
  No conditions.
-/
import Derived.Test.YtcknbmdkefcinaaDoorPyD4
import Derived.RowKit3
import Derived.WalkKit
import Derived.ProofKit
import Derived.OpenShut
import Derived.ShutString
import Derived.ChangeMaps5
import Derived.ChangeStays
import Derived.KernelRfl
import Derived.Test.YtcknbmdkefcinaaDoorRows
import Derived.Lib.LaidTab
import Derived.Lib.LaidIn
import Derived.LaidSub
import Derived.Test.YtcknbmdkefcinaaDoorCards
import Derived.Test.YtcknbmdkefcinaaDoorTie
import Derived.SevenTiedAt

set_option linter.unusedSimpArgs false
set_option linter.unusedVariables false

/-! Ps4 -/

namespace Go.Abs
set_option linter.unusedSimpArgs false
set_option linter.unusedVariables false

def argN (a : Ar) : Nat := if a.ref then 2 else exN 0 a.x
def sepN {α : Type} (f : α → Nat) : List α → Nat
  | [] => 0
  | [a] => f a
  | a :: b :: l => f a + 1 + sepN f (b :: l)
theorem sep_len {α : Type} {G : α → List Tok → Prop} {f : α → Nat} (hG : ∀ a l, G a l → l.length = f a) {xs : List α} {l : List Tok} (h : SepG G xs l) : l.length = sepN f xs := by
  induction h with
  | one x l hx => exact hG x l hx
  | cons x l c hc xs m hx k ih =>
    cases k with
    | one y l' hy => simp only [sepN, List.length_append, List.length_cons] at ih ⊢; rw [hG x l hx, ih]; omega
    | cons y l' c' hc' ys m' hy k' => simp only [sepN, List.length_append, List.length_cons] at ih ⊢; rw [hG x l hx]; omega
theorem garg_len (a : Ar) (l : List Tok) (h : GArg a l) : l.length = argN a := by
  unfold GArg at h
  unfold argN
  split at h
  · rename_i hr; rw [if_pos hr]; obtain ⟨w, k, rfl, _⟩ := h; rfl
  · rename_i hr; rw [if_neg hr]; exact h.2.2

/-- How many tokens a plain statement's text has. -/
def plainN (kind : Int) (name : Str) (x : Ex) (has : Bool) (args : List Ar) : Nat :=
  if kind = 1 then exN 0 x + 3 else if kind = 2 then 3 else if kind = 3 then exN 0 x + 2 else if kind = 7 then 2 else if kind = 8 then 2 else if kind = 10 then 3
  else if kind = 9 then (if has then exN 0 x + 2 else 2) else (if name = [] then 0 else 2) + sepN argN args + 4

theorem StmtAs.of {nest : Int} {n0 n1 k : Nat} {s v : Sm} {l : List Tok} (h : ∀ (r : Rd) (lr : List Tok) (m n : Nat), At r (l ++ lr) → r.n = n0 → 3 * l.length < m → 0 < n → Rd.stmt m n nest r = some (v, { r.mv k with n := n1 })) (hk : k = l.length) (hv : v = { s.z with labels := [] }) (h0 : 0 < l.length) : StmtAs nest n0 n1 s l := by
  intro r lr m n hA _ hn hm hl
  rw [h r lr m n hA hn hm (by omega), hk, hv]

theorem LxF.end (pos : Nat) : LxF [59, 10] pos [tSg 59 pos] := LxF.sg (LxF.blank (by decide) (LxF.nil _))

theorem args_lx {args : List Ar} (hm : Ar.mays args = true) (hr : ∀ a ∈ args, a.x.rng) (hs : ∀ a ∈ args, a.x.size < 1000000000) (h0 : args ≠ []) (pos : Nat) : ∃ l, LxS (Lib.join (args.map argS) [44, 32]) pos l ∧ SepG GArg args l := by
  refine LxS.join argS GArg args pos h0 fun a ha pos => ?_
  have hma := mays_mem hm ha
  unfold Ar.may at hma
  unfold argS GArg
  split at hma
  · rename_i hrf
    simp only [Bool.and_eq_true] at hma
    rw [if_pos hrf]
    refine ⟨[tWd [114, 101, 102] pos, tNm a.name (pos + 4)], ?_, ?_⟩
    · have : LxF [114, 101, 102, 32] pos [tWd [114, 101, 102] pos] := LxS.then (s := [114, 101, 102]) (c := 32) (t := []) (LxS.wd pos) (LxF.blank (by decide) (LxF.nil _))
      exact LxS.behind this (LxS.nm hma.1 _)
    · simp only [hrf, ↓reduceIte]; exact ⟨_, _, rfl, rfl, rfl, rfl, rfl⟩
  · rename_i hrf
    simp only [Bool.and_eq_true, beq_iff_eq] at hma
    rw [if_neg hrf]
    have hF := may_formI hma.2 (hr a ha)
    have hd : a.x.depth ≤ 20 := by have := hma.2; simp only [Ex.may, Bool.and_eq_true, decide_eq_true_eq] at this; omega
    obtain ⟨l, g1, g2, g3, g4⟩ := pr_whole hF hd (hs a ha) pos
    refine ⟨l, g2, ?_⟩
    simp only [hrf, Bool.false_eq_true, ↓reduceIte]
    exact ⟨g3, g4, g1⟩

/-- It begins as a statement. -/
def StBeg (l : List Tok) : Prop := (∃ t u l', l = t :: u :: l' ∧ t.kind = 1 ∧ (u.kind ≠ 4 ∨ u.text ≠ [58])) ∨ (∃ t l', l = t :: l' ∧ t.kind = 3 ∧ t.text ≠ [125] ∧ t.text ≠ [101, 108, 115, 101] ∧ t.text ≠ [118, 97, 114])
theorem StBeg.lab {l : List Tok} (h : StBeg l) (lr : List Tok) : NoLab (l ++ lr) := by
  rcases h with ⟨t, u, l', rfl, h1, h2⟩ | ⟨t, l', rfl, h1, h2, h3⟩
  · exact ⟨t, _, rfl, kd1 h1, .inr ⟨u, _, rfl, h2⟩⟩
  · exact ⟨t, _, rfl, Kd.of h1, .inl (by omega)⟩
theorem StBeg.is {l : List Tok} (h : StBeg l) {r : Rd} {lr : List Tok} (hA : At r (l ++ lr)) : r.is [125] = some false := by
  rcases h with ⟨t, u, l', rfl, h1, h2⟩ | ⟨t, l', rfl, h1, h2, h3⟩
  · have hA : At r (t :: (u :: l' ++ lr)) := hA
    rw [hA.is (kd1 h1)]; simp [h1]
  · have hA : At r (t :: (l' ++ lr)) := hA
    rw [hA.is (Kd.of h1)]; simp [h1, h2]
theorem StBeg.els {l : List Tok} (h : StBeg l) {w : Str} (hw : w = [101, 108, 115, 101] ∨ w = [118, 97, 114]) (lr : List Tok) : NoW w (l ++ lr) := by
  rcases h with ⟨t, u, l', rfl, h1, h2⟩ | ⟨t, l', rfl, h1, h2, h3, h4⟩
  · exact ⟨t, _, rfl, kd1 h1, .inl (by omega)⟩
  · exact ⟨t, _, rfl, Kd.of h1, .inr (by rcases hw with rfl | rfl; exact h3; exact h4)⟩
theorem StBeg.pos {l : List Tok} (h : StBeg l) : 0 < l.length := by
  rcases h with ⟨t, u, l', rfl, _⟩ | ⟨t, l', rfl, _⟩ <;> simp

/-- A statement in which none stands. -/
theorem plain_as {s : Sm} (ho : s.one = true) (hxr : s.x.rng) (har : ∀ a ∈ s.args, a.x.rng) (hs : s.size < 1000000) (k5 : s.kind ≠ 5) (k6 : s.kind ≠ 6) {nest : Int} {n0 : Nat} (h200 : n0 + 1 ≤ 200) (h12 : nest ≤ 12) (pos : Nat) :
    ∃ l, LxF (plainS s.kind s.name s.proc s.x s.has s.args ++ [59, 10]) pos l ∧ l.length = plainN s.kind s.name s.x s.has s.args ∧ StBeg l ∧ StmtAs nest n0 (n0 + 1) s l := by
  have hf := one_facts ho
  obtain ⟨id, kind, labels, name, proc, x, has, args, thn, els⟩ := s
  obtain ⟨_, hx, hx0, hhas, hnm, hnm0, hproc, hcall, hargs, hthn, hels, hkind⟩ := hf
  dsimp only at hx hx0 hhas hnm hnm0 hproc hcall hargs hthn hels hkind hxr har k5 k6 ⊢
  simp only [Sm.size] at hs
  have ht : thn = [] := hthn.resolve_right (by omega)
  have he : els = [] := hels.resolve_right (by omega)
  subst ht he
  have hF : x.may = true → FormI x ∧ x.depth ≤ 20 := fun h => ⟨may_formI h hxr, by simp only [Ex.may, Bool.and_eq_true, decide_eq_true_eq] at h; omega⟩
  have hxs : x.size < 1000000000 := by omega
  have h9 : kind ≠ 9 → has = false := fun h => by
    cases hh : has
    · rfl
    · exact absurd (hhas hh) h
  have hz : ∀ v : Sm, v = ⟨0, kind, [], name, proc, x, has, args, [], []⟩ → v = { (Sm.z ⟨id, kind, labels, name, proc, x, has, args, [], []⟩) with labels := [] } := by
    rintro v rfl; simp only [Sm.z, Sm.zs]
  have : kind = 1 ∨ kind = 2 ∨ kind = 3 ∨ kind = 4 ∨ kind = 7 ∨ kind = 8 ∨ kind = 9 ∨ kind = 10 := by omega
  rcases this with rfl | rfl | rfl | rfl | rfl | rfl | rfl | rfl
  · -- an assignment
    have hX := hF (hx rfl)
    have hn := hnm rfl
    obtain ⟨rfl, rfl⟩ := hcall rfl
    obtain rfl := h9 (by decide)
    obtain ⟨lx, g1, g2, g3, g4⟩ := pr_whole hX.1 hX.2 hxs (pos + name.length + 1 + 2)
    have e : plainS 1 name [] x false [] ++ [59, 10] = name ++ 32 :: (61 :: 32 :: (prE 0 x ++ 59 :: [10])) := by simp [plainS]
    rw [e]
    refine ⟨_, LxS.then (LxS.nm hn pos) (LxF.blank (by decide) (LxF.eq (LxS.then g2 (LxF.end _)))), ?_, ?_, ?_⟩
    · simp [plainN, g1]
    · exact .inl ⟨_, _, _, rfl, rfl, .inr (by simp [tSg])⟩
    · refine StmtAs.of (k := lx.length + 3) (fun r lr m n hA hn' hm h0 => ?_) ?_ (hz _ rfl) (by simp)
      · exact read_assign h200 h12 (t := tNm name pos) rfl rfl rfl g3 g4 (q := tSg 59 (pos + name.length + 1 + 2 + (prE 0 x).length)) rfl rfl r lr m n (by simpa using hA) hn' (by simp at hm; omega) h0
      · simp
  · -- read
    have hn := hnm rfl
    obtain ⟨rfl, rfl⟩ := hcall rfl
    obtain rfl := h9 (by decide)
    obtain rfl := hx0 rfl
    have e : plainS 2 name [] ex0 false [] ++ [59, 10] = [114, 101, 97, 100] ++ 32 :: (name ++ 59 :: [10]) := by simp [plainS]
    rw [e]
    refine ⟨_, LxS.then (LxS.wd pos) (LxF.blank (by decide) (LxS.then (LxS.nm hn _) (LxF.end _))), ?_, ?_, ?_⟩
    · simp [plainN]
    · exact .inr ⟨_, _, rfl, rfl, by simp [tWd], by simp [tWd], by simp [tWd]⟩
    · refine StmtAs.of (k := 3) (fun r lr m n hA hn' hm h0 => ?_) ?_ (hz _ rfl) (by simp)
      · exact read_wname h200 h12 (w := tWd [114, 101, 97, 100] pos) rfl (.inr ⟨rfl, rfl⟩) (t := tNm name (pos + 4 + 1)) rfl (q := tSg 59 (pos + 4 + 1 + name.length)) rfl rfl r lr m n (by simpa using hA) hn' h0
      · simp
  · -- print
    have hX := hF (hx rfl)
    obtain ⟨rfl, rfl⟩ := hcall rfl
    obtain rfl := h9 (by decide)
    have hn : name = [] := (hnm0 rfl).resolve_right (by intro h; exact absurd h.1 (by simp [Sm.isCall]))
    subst hn
    obtain ⟨lx, g1, g2, g3, g4⟩ := pr_whole hX.1 hX.2 hxs (pos + 5 + 1)
    have e : plainS 3 [] [] x false [] ++ [59, 10] = [112, 114, 105, 110, 116] ++ 32 :: (prE 0 x ++ 59 :: [10]) := by simp [plainS]
    rw [e]
    refine ⟨_, LxS.then (LxS.wd pos) (LxF.blank (by decide) (LxS.then g2 (LxF.end _))), ?_, ?_, ?_⟩
    · simp [plainN, g1]
    · exact .inr ⟨_, _, rfl, rfl, by simp [tWd], by simp [tWd], by simp [tWd]⟩
    · refine StmtAs.of (k := lx.length + 2) (fun r lr m n hA hn' hm h0 => ?_) ?_ (hz _ rfl) (by simp)
      · exact read_wexpr h200 h12 (w := tWd [112, 114, 105, 110, 116] pos) rfl (.inl ⟨rfl, rfl, rfl⟩) g3 g4 (q := tSg 59 (pos + 5 + 1 + (prE 0 x).length)) rfl rfl r lr m n (by simpa using hA) hn' (by simp at hm; omega) h0
      · simp
  · -- a call
    have hp := hproc rfl
    obtain rfl := h9 (by decide)
    obtain rfl := hx0 rfl
    have hasz := Ar.sizes_len args
    have hsz : ∀ a ∈ args, a.x.size < 1000000000 := fun a ha => by have := Ar.sizes_mem ha; omega
    have key : ∀ P : Nat, ∃ la, LxS (Lib.join (args.map argS) [44, 32]) P la ∧ ((args = [] ∧ la = []) ∨ SepG GArg args la) ∧ la.length = sepN argN args := by
      intro P
      by_cases h0 : args = []
      · subst h0
        refine ⟨[], ?_, .inl ⟨rfl, rfl⟩, rfl⟩
        simp only [List.map_nil]
        have : Lib.join [] [44, 32] = [] := by simp [Lib.join]
        rw [this]
        exact (LxF.nil _).s
      · obtain ⟨l, h1, h2⟩ := args_lx hargs har hsz h0 P
        exact ⟨l, h1, .inr h2, sep_len garg_len h2⟩
    rcases hnm0 rfl with hn | ⟨_, hn⟩
    · subst hn
      have e : plainS 4 [] proc ex0 false args ++ [59, 10] = proc ++ 40 :: (Lib.join (args.map argS) [44, 32] ++ 41 :: (59 :: [10])) := by simp [plainS, callS]
      rw [e]
      obtain ⟨la, g1, g2, g3⟩ := key (pos + proc.length + 1)
      refine ⟨_, LxS.then (LxS.nm hp pos) (LxF.sg (LxS.then g1 (LxF.sg (LxF.end _)))), ?_, ?_, ?_⟩
      · simp [plainN, g3]
      · exact .inl ⟨_, _, _, rfl, rfl, .inr (by simp [tSg])⟩
      · refine StmtAs.of (k := la.length + 4) (fun r lr m n hA hn' hm h0 => ?_) ?_ (hz _ rfl) (by simp)
        · exact read_calls h200 h12 (t := tNm proc pos) rfl (p := tSg 40 (pos + proc.length)) rfl rfl g2 (arZs_may hargs) (q := tSg 41 (pos + proc.length + 1 + (Lib.join (args.map argS) [44, 32]).length)) rfl rfl (c := tSg 59 (pos + proc.length + 1 + (Lib.join (args.map argS) [44, 32]).length + 1)) rfl rfl (by omega) r lr m n (by simpa using hA) hn' (by simp at hm; omega) h0
        · simp
    · have hne := isName_ne hn
      have e : plainS 4 name proc ex0 false args ++ [59, 10] = name ++ 32 :: (61 :: 32 :: (proc ++ 40 :: (Lib.join (args.map argS) [44, 32] ++ 41 :: (59 :: [10])))) := by simp [plainS, callS, hne]
      rw [e]
      obtain ⟨la, g1, g2, g3⟩ := key (pos + name.length + 1 + 2 + proc.length + 1)
      refine ⟨_, LxS.then (LxS.nm hn pos) (LxF.blank (by decide) (LxF.eq (LxS.then (LxS.nm hp _) (LxF.sg (LxS.then g1 (LxF.sg (LxF.end _))))))), ?_, ?_, ?_⟩
      · simp [plainN, g3, hne]; omega
      · exact .inl ⟨_, _, _, rfl, rfl, .inr (by simp [tSg])⟩
      · refine StmtAs.of (k := la.length + 6) (fun r lr m n hA hn' hm h0 => ?_) ?_ (hz _ rfl) (by simp)
        · exact read_callto h200 h12 (s := tNm name pos) rfl (e := tSg 61 (pos + name.length + 1)) rfl rfl (t := tNm proc (pos + name.length + 1 + 2)) rfl (p := tSg 40 (pos + name.length + 1 + 2 + proc.length)) rfl rfl g2 (arZs_may hargs) (q := tSg 41 (pos + name.length + 1 + 2 + proc.length + 1 + (Lib.join (args.map argS) [44, 32]).length)) rfl rfl (c := tSg 59 (pos + name.length + 1 + 2 + proc.length + 1 + (Lib.join (args.map argS) [44, 32]).length + 1)) rfl rfl (by omega) r lr m n (by simpa using hA) hn' (by simp at hm; omega) h0
        · simp
  · -- break
    obtain ⟨rfl, rfl⟩ := hcall rfl
    obtain rfl := h9 (by decide)
    obtain rfl := hx0 rfl
    have hn : name = [] := (hnm0 rfl).resolve_right (by intro h; exact absurd h.1 (by simp [Sm.isCall]))
    subst hn
    have e : plainS 7 [] [] ex0 false [] ++ [59, 10] = [98, 114, 101, 97, 107] ++ 59 :: [10] := by simp [plainS]
    rw [e]
    refine ⟨_, LxS.then (LxS.wd pos) (LxF.end _), ?_, ?_, ?_⟩
    · simp [plainN]
    · exact .inr ⟨_, _, rfl, rfl, by simp [tWd], by simp [tWd], by simp [tWd]⟩
    · refine StmtAs.of (k := 2) (fun r lr m n hA hn' hm h0 => ?_) ?_ (hz _ rfl) (by simp)
      · exact read_word h200 h12 (w := tWd [98, 114, 101, 97, 107] pos) rfl (.inl ⟨rfl, rfl⟩) (q := tSg 59 (pos + 5)) rfl rfl r lr m n (by simpa using hA) hn' h0
      · simp
  · -- continue
    obtain ⟨rfl, rfl⟩ := hcall rfl
    obtain rfl := h9 (by decide)
    obtain rfl := hx0 rfl
    have hn : name = [] := (hnm0 rfl).resolve_right (by intro h; exact absurd h.1 (by simp [Sm.isCall]))
    subst hn
    have e : plainS 8 [] [] ex0 false [] ++ [59, 10] = [99, 111, 110, 116, 105, 110, 117, 101] ++ 59 :: [10] := by simp [plainS]
    rw [e]
    refine ⟨_, LxS.then (LxS.wd pos) (LxF.end _), ?_, ?_, ?_⟩
    · simp [plainN]
    · exact .inr ⟨_, _, rfl, rfl, by simp [tWd], by simp [tWd], by simp [tWd]⟩
    · refine StmtAs.of (k := 2) (fun r lr m n hA hn' hm h0 => ?_) ?_ (hz _ rfl) (by simp)
      · exact read_word h200 h12 (w := tWd [99, 111, 110, 116, 105, 110, 117, 101] pos) rfl (.inr (.inl ⟨rfl, rfl⟩)) (q := tSg 59 (pos + 8)) rfl rfl r lr m n (by simpa using hA) hn' h0
      · simp
  · -- return
    obtain ⟨rfl, rfl⟩ := hcall rfl
    have hn : name = [] := (hnm0 rfl).resolve_right (by intro h; exact absurd h.1 (by simp [Sm.isCall]))
    subst hn
    cases has with
    | false =>
      obtain rfl := hx0 rfl
      have e : plainS 9 [] [] ex0 false [] ++ [59, 10] = [114, 101, 116, 117, 114, 110] ++ 59 :: [10] := by simp [plainS]
      rw [e]
      refine ⟨_, LxS.then (LxS.wd pos) (LxF.end _), ?_, ?_, ?_⟩
      · simp [plainN]
      · exact .inr ⟨_, _, rfl, rfl, by simp [tWd], by simp [tWd], by simp [tWd]⟩
      · refine StmtAs.of (k := 2) (fun r lr m n hA hn' hm h0 => ?_) ?_ (hz _ rfl) (by simp)
        · exact read_word h200 h12 (w := tWd [114, 101, 116, 117, 114, 110] pos) rfl (.inr (.inr ⟨rfl, rfl⟩)) (q := tSg 59 (pos + 6)) rfl rfl r lr m n (by simpa using hA) hn' h0
        · simp
    | true =>
      have hX := hF (hx rfl)
      obtain ⟨lx, g1, g2, g3, g4⟩ := pr_whole hX.1 hX.2 hxs (pos + 6 + 1)
      have e : plainS 9 [] [] x true [] ++ [59, 10] = [114, 101, 116, 117, 114, 110] ++ 32 :: (prE 0 x ++ 59 :: [10]) := by simp [plainS]
      rw [e]
      refine ⟨_, LxS.then (LxS.wd pos) (LxF.blank (by decide) (LxS.then g2 (LxF.end _))), ?_, ?_, ?_⟩
      · simp [plainN, g1]
      · exact .inr ⟨_, _, rfl, rfl, by simp [tWd], by simp [tWd], by simp [tWd]⟩
      · refine StmtAs.of (k := lx.length + 2) (fun r lr m n hA hn' hm h0 => ?_) ?_ (hz _ rfl) (by simp)
        · exact read_wexpr h200 h12 (w := tWd [114, 101, 116, 117, 114, 110] pos) rfl (.inr ⟨rfl, rfl, rfl⟩) g3 g4 (q := tSg 59 (pos + 6 + 1 + (prE 0 x).length)) rfl rfl r lr m n (by simpa using hA) hn' (by simp at hm; omega) h0
        · simp
  · -- goto
    have hn := hnm rfl
    obtain ⟨rfl, rfl⟩ := hcall rfl
    obtain rfl := h9 (by decide)
    obtain rfl := hx0 rfl
    have e : plainS 10 name [] ex0 false [] ++ [59, 10] = [103, 111, 116, 111] ++ 32 :: (name ++ 59 :: [10]) := by simp [plainS]
    rw [e]
    refine ⟨_, LxS.then (LxS.wd pos) (LxF.blank (by decide) (LxS.then (LxS.nm hn _) (LxF.end _))), ?_, ?_, ?_⟩
    · simp [plainN]
    · exact .inr ⟨_, _, rfl, rfl, by simp [tWd], by simp [tWd], by simp [tWd]⟩
    · refine StmtAs.of (k := 3) (fun r lr m n hA hn' hm h0 => ?_) ?_ (hz _ rfl) (by simp)
      · exact read_wname h200 h12 (w := tWd [103, 111, 116, 111] pos) rfl (.inl ⟨rfl, rfl⟩) (t := tNm name (pos + 4 + 1)) rfl (q := tSg 59 (pos + 4 + 1 + name.length)) rfl rfl r lr m n (by simpa using hA) hn' h0
      · simp

end Go.Abs

/-! Ps5 -/

namespace Go.Abs
set_option linter.unusedSimpArgs false
set_option linter.unusedVariables false

mutual
/-- How many tokens a text of statements has. -/
def bodyN : Sm → Nat
  | ⟨_, kind, _, name, _, x, has, args, thn, els⟩ => if kind = 6 then exN 0 x + 5 + rowsN thn else if kind = 5 then exN 0 x + 5 + rowsN thn + (if els.length = 0 then 0 else rowsN els + 3) else plainN kind name x has args
def rowsN : List Sm → Nat
  | [] => 0
  | s :: l => 2 * s.labels.length + bodyN s + rowsN l
end

theorem LabT.len {ls : List Str} {l : List Tok} (h : LabT ls l) : l.length = 2 * ls.length := by
  induction h with
  | nil => rfl
  | cons t c ls m _ _ _ _ ih => simp only [List.length_cons]; omega
theorem lab_lx : ∀ {ls : List Str}, mayNames ls = true → ∀ pos, ∃ l, LxF (marksS ls) pos l ∧ LabT ls l
  | [], _, pos => ⟨[], LxF.nil _, .nil⟩
  | t :: ls, h, pos => by
    simp only [mayNames] at h
    split at h
    · cases h
    rename_i ht
    have ht : isName t = true := by simpa using ht
    obtain ⟨l, g1, g2⟩ := lab_lx h (pos + t.length + 1 + 1)
    have e : marksS (t :: ls) = t ++ 58 :: (32 :: marksS ls) := by simp [marksS]
    rw [e]
    exact ⟨_, LxS.then (LxS.nm ht pos) (LxF.sg (LxF.blank (by decide) g1)), .cons (tNm t pos) (tSg 58 (pos + t.length)) ls l rfl rfl rfl g2⟩

def RowsAs (nest : Int) (n0 n1 : Nat) (l : List Sm) (L : List Tok) : Prop := ∀ (fin : List Str) (F : List Tok) (q : Tok) (body : Bool) (r : Rd) (lr : List Tok) (m n : Nat) (out : List Sm), LabT fin F → q.kind = 4 → q.text = [125] → (body = true ∨ fin = []) →
  At r (L ++ (F ++ q :: lr)) → r.n = n0 → 3 * (L.length + F.length + 1) < m → L.length + F.length + 1 ≤ n → out.length + l.length ≤ 1000000 → fin.length ≤ 1000000 →
  Rd.rowsL m n nest body out r = some ((out ++ Sm.zs l, fin), { r.mv (L.length + F.length + 1) with n := n1 })

/-- A row's tokens, and something that is not 'else'. -/
def RowBeg (L : List Tok) : Prop := ∀ w, (w = [101, 108, 115, 101] ∨ w = [118, 97, 114]) → ∀ lr, NoW w lr → NoW w (L ++ lr)
theorem RowBeg.nil : RowBeg [] := fun w _ lr h => h
theorem LabT.els {ls : List Str} {l : List Tok} (h : LabT ls l) : RowBeg l := by
  intro w hw lr hlr
  cases h with
  | nil => exact hlr
  | cons t c ls m ht _ _ _ => exact ⟨t, _, rfl, kd1 ht, .inl (by omega)⟩
theorem RowBeg.cons {Fs ls L : List Tok} {labs : List Str} (hF : LabT labs Fs) (hb : StBeg ls) : RowBeg (Fs ++ (ls ++ L)) := by
  intro w hw lr _
  rw [List.append_assoc, List.append_assoc]
  exact hF.els w hw _ (hb.els hw _)

theorem rows_nil (nest : Int) (n0 : Nat) : RowsAs nest n0 n0 [] [] := by
  intro fin F q body r lr m n out hF hq hq2 hb hA hn hm hl ho hf
  have hFl := hF.len
  simp only [List.length_nil] at hm hl
  cases n with
  | zero => omega
  | succ n =>
    have hA : At r (F ++ q :: lr) := hA
    rw [Rd.rowsL, if_pos hA.good, labels_as hF r (q :: lr) [] m hA ⟨q, lr, rfl, kd4 hq, .inl (by omega)⟩ (by simpa using hf) (by omega), Option.bind_some]
    dsimp only
    have hA1 := hA.app
    rw [hA1.is (kd4 hq), Option.bind_some]
    have b0 : ((q.kind == 3 || q.kind == 4) && q.text == [125]) = true := by simp [hq, hq2]
    have b1 : (body || ((([] ++ fin : List Str).length : Nat) : Int) == 0) = true := by rcases hb with rfl | rfl <;> simp
    rw [b0, b1]
    simp only [Bool.and_self, ↓reduceIte, List.nil_append, Sm.zs, List.append_nil, List.length_nil, Nat.zero_add]
    simp only [Rd.mv, ← hn, Nat.add_assoc]

theorem rows_cons {nest : Int} {n0 n1 n2 : Nat} {s : Sm} {l : List Sm} {Fs ls L : List Tok} (hF : LabT s.labels Fs) (hb : StBeg ls) (hs : StmtAs nest n0 n1 s ls) (hl : RowsAs nest n1 n2 l L) (hLb : RowBeg L) (hlab : s.labels.length ≤ 1000000) : RowsAs nest n0 n2 (s :: l) (Fs ++ (ls ++ L)) := by
  intro fin F q body r lr m n out hFin hq hq2 hbd hA hn hm hlen ho hf
  simp only [List.length_append] at hm hlen
  simp only [List.length_cons] at ho
  have hFl := hF.len
  have hbp := hb.pos
  cases n with
  | zero => omega
  | succ n =>
    have hA : At r (Fs ++ (ls ++ (L ++ (F ++ q :: lr)))) := by simpa only [List.append_assoc] using hA
    have hA1 := hA.app
    rw [Rd.rowsL, if_pos hA.good, labels_as hF r _ [] m hA (hb.lab _) (by simpa using hlab) (by omega), Option.bind_some]
    dsimp only
    rw [hb.is hA1, Option.bind_some]
    simp only [Bool.false_and, Bool.false_eq_true, ↓reduceIte]
    have hne : NoElse (L ++ (F ++ q :: lr)) := hLb _ (.inl rfl) _ (hFin.els _ (.inl rfl) _ ⟨q, lr, rfl, kd4 hq, .inr (by rw [hq2]; decide)⟩)
    rw [hs (r.mv Fs.length) (L ++ (F ++ q :: lr)) m n hA1 hne (by simpa [Rd.mv] using hn) (by omega) (by omega), Option.bind_some]
    dsimp only
    rw [push_ok (by omega) (by omega), Option.bind_some]
    have hA2 : At ({ (r.mv Fs.length).mv ls.length with n := n1 } : Rd) (L ++ (F ++ q :: lr)) := hA1.app.n n1
    rw [hl fin F q body _ lr m n _ hFin hq hq2 hbd hA2 rfl (by omega) (by omega) (by simp only [List.length_append, List.length_cons, List.length_nil]; omega) hf]
    have e : ({ ({ (Sm.z s) with labels := [] } : Sm) with labels := [] ++ s.labels } : Sm) = s.z := by rw [z_eq]; simp
    rw [e]
    simp only [List.append_assoc, List.cons_append, List.nil_append, Sm.zs, Rd.mv, List.length_append]
    congr 3
    omega

/-- A block. -/
theorem block_as {nest : Int} {k n1 : Nat} {thn : List Sm} {L : List Tok} (h : RowsAs (nest + 1) k n1 thn L) (h12 : -1000 ≤ nest ∧ nest ≤ 12) (hl : thn.length ≤ 1000000) {b c : Tok} (hb : b.kind = 4) (hb2 : b.text = [123]) (hc : c.kind = 4) (hc2 : c.text = [125]) :
    ∀ (r : Rd) (lr : List Tok) (m n : Nat), At r (b :: (L ++ c :: lr)) → r.n = k → 3 * (L.length + 1) < m → L.length + 3 ≤ n → Rd.block m n nest r = some (Sm.zs thn, { r.mv (L.length + 2) with n := n1 }) := by
  intro r lr m n hA hn hm hlen
  obtain ⟨n, rfl⟩ : ∃ n', n = n' + 2 := ⟨n - 2, by omega⟩
  rw [Rd.block, hA.want (.inr hb) hb2, Option.bind_some]
  have hi : incI nest = some (nest + 1) := by unfold incI; rw [if_pos (by omega)]
  rw [hi, Option.bind_some, Rd.rows]
  rw [h [] [] c false (r.mv 1) lr m n [] .nil hc hc2 (.inr rfl) hA.one (by simpa [Rd.mv] using hn) (by simpa using hm) (by simp; omega) (by simpa using hl) (by simp), Option.bind_some]
  simp only [List.nil_append, Rd.mv, List.length_nil, Nat.add_zero]
  congr 3
  omega

/-- What is asked, in brackets. -/
theorem head_as {x : Ex} {lx : List Tok} (hx : WholeAs x lx) {p q : Tok} (hp : p.kind = 4) (hp2 : p.text = [40]) (hq : q.kind = 4) (hq2 : q.text = [41]) : ∀ (r : Rd) (lr : List Tok) (m : Nat), At r (p :: (lx ++ q :: lr)) → 3 * lx.length < m → Rd.head m r = some (x, r.mv (lx.length + 2)) := by
  intro r lr m hA hm
  unfold Rd.head
  rw [hA.want (.inr hp) hp2, Option.bind_some, hx _ (q :: lr) m hA.one (ends_sign hq hq2 (by decide)) hm, Option.bind_some]
  dsimp only
  rw [hA.one.app.want (.inr hq) hq2, Option.bind_some]
  simp only [Rd.mv]
  congr 3
  omega

theorem read_while {nest : Int} {n0 n1 : Nat} (h200 : n0 + 1 ≤ 200) (h12 : -1000 ≤ nest ∧ nest ≤ 12) {x : Ex} {lx L : List Tok} {thn : List Sm} {w p q b c : Tok} (hw : w.kind = 3) (hw2 : w.text = [119, 104, 105, 108, 101]) (hp : p.kind = 4) (hp2 : p.text = [40]) (hx : WholeAs x lx) (hq : q.kind = 4) (hq2 : q.text = [41])
    (hb : b.kind = 4) (hb2 : b.text = [123]) (hL : RowsAs (nest + 1) (n0 + 1) n1 thn L) (hl : thn.length ≤ 1000000) (hc : c.kind = 4) (hc2 : c.text = [125]) :
    ∀ (r : Rd) (lr : List Tok) (m n : Nat), At r (w :: p :: (lx ++ q :: b :: (L ++ c :: lr))) → r.n = n0 → 3 * (lx.length + L.length + 5) < m → lx.length + L.length + 5 ≤ n → Rd.stmt m n nest r = some (⟨0, 6, [], [], [], x, false, [], Sm.zs thn, []⟩, { r.mv (lx.length + L.length + 5) with n := n1 }) := by
  intro r lr m n hA hn hm hlen
  obtain ⟨n, rfl⟩ : ∃ n', n = n' + 1 := ⟨n - 1, by omega⟩
  have k1 : (w.kind == 1) = false := by simp [hw]
  have k3 : (w.kind != 3) = false := by simp [hw]
  rw [st_step hA (Kd.of hw) hn h200 h12.2 (by rw [k1, k3, hw2]; decide), k1, hw2]
  rw [if_neg (by simp), if_neg (by decide), if_pos (by decide)]
  have hA1 : At ({ r with n := n0 + 1, i := r.i + 1 } : Rd) (p :: (lx ++ q :: b :: (L ++ c :: lr))) := hA.one.n (n0 + 1)
  rw [head_as hx hp hp2 hq hq2 _ _ m hA1 (by omega), Option.bind_some]
  dsimp only
  have hA2 : At (({ r with n := n0 + 1, i := r.i + 1 } : Rd).mv (lx.length + 2)) (b :: (L ++ c :: lr)) := by
    have := hA1.one.app.one
    simpa only [mv_mv, Nat.add_comm, Nat.add_left_comm, Nat.add_assoc, Nat.reduceAdd] using this
  rw [block_as hL h12 hl hb hb2 hc hc2 _ lr m n hA2 rfl (by omega) (by omega), Option.bind_some]
  simp only [Rd.mv]
  congr 3
  omega

theorem read_if {nest : Int} {n0 n1 : Nat} (h200 : n0 + 1 ≤ 200) (h12 : -1000 ≤ nest ∧ nest ≤ 12) {x : Ex} {lx L : List Tok} {thn : List Sm} {w p q b c : Tok} (hw : w.kind = 3) (hw2 : w.text = [105, 102]) (hp : p.kind = 4) (hp2 : p.text = [40]) (hx : WholeAs x lx) (hq : q.kind = 4) (hq2 : q.text = [41])
    (hb : b.kind = 4) (hb2 : b.text = [123]) (hL : RowsAs (nest + 1) (n0 + 1) n1 thn L) (hl : thn.length ≤ 1000000) (hc : c.kind = 4) (hc2 : c.text = [125]) :
    (∀ (r : Rd) (t : Tok) (lr : List Tok) (m n : Nat), At r (w :: p :: (lx ++ q :: b :: (L ++ c :: t :: lr))) → Kd t → ((t.kind ≠ 3 ∧ t.kind ≠ 4) ∨ t.text ≠ [101, 108, 115, 101]) → r.n = n0 → 3 * (lx.length + L.length + 5) < m → lx.length + L.length + 5 ≤ n → Rd.stmt m n nest r = some (⟨0, 5, [], [], [], x, false, [], Sm.zs thn, []⟩, { r.mv (lx.length + L.length + 5) with n := n1 })) ∧
    ∀ {n2 : Nat} {E : List Tok} {els : List Sm} {e b' c' : Tok}, e.kind = 3 → e.text = [101, 108, 115, 101] → b'.kind = 4 → b'.text = [123] → RowsAs (nest + 1) n1 n2 els E → els.length ≤ 1000000 → c'.kind = 4 → c'.text = [125] →
      ∀ (r : Rd) (lr : List Tok) (m n : Nat), At r (w :: p :: (lx ++ q :: b :: (L ++ c :: e :: b' :: (E ++ c' :: lr)))) → r.n = n0 → 3 * (lx.length + L.length + E.length + 8) < m → lx.length + L.length + E.length + 8 ≤ n → Rd.stmt m n nest r = some (⟨0, 5, [], [], [], x, false, [], Sm.zs thn, Sm.zs els⟩, { r.mv (lx.length + L.length + E.length + 8) with n := n2 }) := by
  have first : ∀ (r : Rd) (t : Tok) (lr : List Tok) (m n : Nat), At r (w :: p :: (lx ++ q :: b :: (L ++ c :: t :: lr))) → r.n = n0 → 3 * (lx.length + L.length + 5) < m → lx.length + L.length + 3 ≤ n → Rd.stmt m (n + 2) nest r = ((({ r.mv (lx.length + L.length + 5) with n := n1 } : Rd).take [101, 108, 115, 101]).bind fun q => if q.1 then (Rd.block m n nest q.2).bind fun e => some (⟨0, 5, [], [], [], x, false, [], Sm.zs thn, e.1⟩, e.2) else some (⟨0, 5, [], [], [], x, false, [], Sm.zs thn, []⟩, q.2)) ∧
      At ({ r.mv (lx.length + L.length + 5) with n := n1 } : Rd) (t :: lr) := by
    intro r t lr m n hA hn hm hlen
    have k1 : (w.kind == 1) = false := by simp [hw]
    have k3 : (w.kind != 3) = false := by simp [hw]
    have hA1 : At ({ r with n := n0 + 1, i := r.i + 1 } : Rd) (p :: (lx ++ q :: b :: (L ++ c :: t :: lr))) := hA.one.n (n0 + 1)
    have hA2 : At (({ r with n := n0 + 1, i := r.i + 1 } : Rd).mv (lx.length + 2)) (b :: (L ++ c :: t :: lr)) := by
      have := hA1.one.app.one
      simpa only [mv_mv, Nat.add_comm, Nat.add_left_comm, Nat.add_assoc, Nat.reduceAdd] using this
    have hA3 : At ({ r.mv (lx.length + L.length + 5) with n := n1 } : Rd) (t :: lr) := by
      have := hA2.one.app.one.n n1
      have e : ({ (((({ r with n := n0 + 1, i := r.i + 1 } : Rd).mv (lx.length + 2)).mv 1).mv L.length).mv 1 with n := n1 } : Rd) = { r.mv (lx.length + L.length + 5) with n := n1 } := by
        simp only [Rd.mv]; congr 1; omega
      rw [e] at this; exact this
    refine ⟨?_, hA3⟩
    rw [st_step hA (Kd.of hw) hn h200 h12.2 (by rw [k1, k3, hw2]; decide), k1, hw2]
    rw [if_neg (by simp), if_pos (by decide), Rd.choice]
    rw [head_as hx hp hp2 hq hq2 _ _ m hA1 (by omega), Option.bind_some]
    dsimp only
    rw [block_as hL h12 hl hb hb2 hc hc2 _ (t :: lr) m n hA2 rfl (by omega) (by omega), Option.bind_some]
    have e : ({ (({ r with n := n0 + 1, i := r.i + 1 } : Rd).mv (lx.length + 2)).mv (L.length + 2) with n := n1 } : Rd) = { r.mv (lx.length + L.length + 5) with n := n1 } := by
      simp only [Rd.mv]; congr 1; omega
    dsimp only
    rw [e]
  refine ⟨fun r t lr m n hA hk ht hn hm hlen => ?_, fun {n2 E els e b' c'} he he2 hb' hb2' hE hel hc' hc2' r lr m n hA hn hm hlen => ?_⟩
  · obtain ⟨n, rfl⟩ : ∃ n', n = n' + 2 := ⟨n - 2, by omega⟩
    obtain ⟨h1, h2⟩ := first r t lr m n hA hn hm (by omega)
    rw [h1, h2.take_no hk ht, Option.bind_some]
    rfl
  · obtain ⟨n, rfl⟩ : ∃ n', n = n' + 2 := ⟨n - 2, by omega⟩
    obtain ⟨h1, h2⟩ := first r e _ m n hA hn (by omega) (by omega)
    rw [h1, h2.take_yes (.inl he) he2, Option.bind_some]
    simp only [↓reduceIte]
    rw [block_as hE h12 hel hb' hb2' hc' hc2' _ lr m n h2.one rfl (by omega) (by omega), Option.bind_some]
    simp only [Rd.mv]
    congr 3
    omega

/-! ### Rows -/

theorem mayL_cons {nest : Int} {n : Nat} {s : Sm} {l : List Sm} (h : (Sm.mayL nest n (s :: l)).1 = true) : (Sm.mayR nest n s).1 = true ∧ (Sm.mayL nest (Sm.mayR nest n s).2 l).1 = true ∧ (Sm.mayL nest n (s :: l)).2 = (Sm.mayL nest (Sm.mayR nest n s).2 l).2 := by
  simp only [Sm.mayL] at h ⊢
  split at h
  · cases h
  rename_i hc
  rw [if_neg hc]
  exact ⟨by simpa using hc, h, rfl⟩

mutual
theorem stmt_as : ∀ (s : Sm) (inn : Nat) (nest : Int) (n0 : Nat), (Sm.mayR nest n0 s).1 = true → s.rng → -1000 ≤ nest ∧ nest ≤ 12 → s.size < 1000000 → ∀ pos, ∃ l, LxF (bodyS inn s) pos l ∧ l.length = bodyN s ∧ StBeg l ∧ StmtAs nest n0 (Sm.mayR nest n0 s).2 s l
  | ⟨id, kind, labels, name, proc, x, has, args, thn, els⟩, inn, nest, n0, hm, hr, h12, hs, pos => by
    obtain ⟨h200, _, ho, ht, he, h2⟩ := mayR_true hm
    obtain ⟨r1, r2, r3, r4⟩ := (Sm.rng_eq _).1 hr
    have tt := mayG_true ht
    have te := mayG_true he
    rw [tt.2] at ht te he h2
    rw [te.2] at he h2
    have hf := one_facts ho
    dsimp only at r1 r2 r3 r4 ht he tt te h2
    simp only [Sm.size] at hs
    have hxs : x.size < 1000000000 := by omega
    have hlt := Sm.sizes_len thn
    have hle := Sm.sizes_len els
    by_cases k6 : kind = 6
    · subst k6
      have hX := hf.x rfl
      dsimp only at hX
      have hF := may_formI hX r1
      have hd : x.depth ≤ 20 := by simp only [Ex.may, Bool.and_eq_true, decide_eq_true_eq] at hX; omega
      have hels := hf.els.resolve_right (by simp)
      dsimp only at hels
      subst hels
      have hhas : has = false := by
        cases hh : has
        · rfl
        · have := hf.has hh; simp at this
      have hcall := hf.call rfl
      have hnm : name = [] := (hf.nm0 rfl).resolve_right (by intro h; exact absurd h.1 (by simp [Sm.isCall]))
      dsimp only at hcall
      obtain ⟨rfl, rfl⟩ := hcall
      subst hhas hnm
      obtain ⟨lx, g1, g2, g3, g4⟩ := pr_whole hF hd hxs (pos + 5 + 1 + 1)
      obtain ⟨L, k1, k2, k3, k4⟩ := rows_as thn (inn + 1) (nest + 1) (n0 + 1) ht r3 (tt.1.imp_right fun h => ⟨by omega, h⟩) (by omega) (by omega) (pos + 5 + 1 + 1 + (prE 0 x).length + 1 + 1 + 1 + 1)
      have e : bodyS inn ⟨id, 6, labels, [], [], x, false, [], thn, []⟩ = [119, 104, 105, 108, 101] ++ 32 :: (40 :: (prE 0 x ++ 41 :: (32 :: (123 :: (10 :: (rowsS (inn + 1) thn ++ (List.replicate inn 32 ++ (125 :: [10]))))))))  := by
        simp [bodyS, lineT]
      rw [e]
      refine ⟨_, LxS.then (LxS.wd pos) (LxF.blank (by decide) (LxF.sg (LxS.then g2 (LxF.sg (LxF.blank (by decide) (LxF.sg (LxF.blank (by decide) (LxF.app k1 (LxF.blanks inn (LxF.sg (LxF.blank (by decide) (LxF.nil _))))))))))))  , ?_, ?_, ?_⟩
      · simp [bodyN, g1, k2]; omega
      · exact .inr ⟨_, _, rfl, rfl, by simp [tWd], by simp [tWd], by simp [tWd]⟩
      · intro r lr m n hA _ hn hm' hl
        simp only [List.length_append, List.length_cons, List.length_nil] at hm' hl
        rw [read_while h200 h12 (w := tWd [119, 104, 105, 108, 101] pos) rfl rfl (p := tSg 40 (pos + 5 + 1)) rfl rfl g3 (q := tSg 41 (pos + 5 + 1 + 1 + (prE 0 x).length)) rfl rfl (b := tSg 123 (pos + 5 + 1 + 1 + (prE 0 x).length + 1 + 1)) rfl rfl k4 (by omega) (c := tSg 125 (pos + 5 + 1 + 1 + (prE 0 x).length + 1 + 1 + 1 + 1 + (rowsS (inn + 1) thn).length + inn)) rfl rfl r lr m n (by simpa using hA) hn (by omega) (by omega)]
        rw [h2]
        simp only [Sm.z, Sm.zs, Sm.mayL, List.length_append, List.length_cons, List.length_nil, Rd.mv]
        congr 3
        omega
    · by_cases k5 : kind = 5
      · subst k5
        have hX := hf.x rfl
        dsimp only at hX
        have hF := may_formI hX r1
        have hd : x.depth ≤ 20 := by simp only [Ex.may, Bool.and_eq_true, decide_eq_true_eq] at hX; omega
        have hhas : has = false := by
          cases hh : has
          · rfl
          · have := hf.has hh; simp at this
        have hcall := hf.call rfl
        have hnm : name = [] := (hf.nm0 rfl).resolve_right (by intro h; exact absurd h.1 (by simp [Sm.isCall]))
        dsimp only at hcall
        obtain ⟨rfl, rfl⟩ := hcall
        subst hhas hnm
        obtain ⟨lx, g1, g2, g3, g4⟩ := pr_whole hF hd hxs (pos + 2 + 1 + 1)
        obtain ⟨L, k1, k2, k3, k4⟩ := rows_as thn (inn + 1) (nest + 1) (n0 + 1) ht r3 (tt.1.imp_right fun h => ⟨by omega, h⟩) (by omega) (by omega) (pos + 2 + 1 + 1 + (prE 0 x).length + 1 + 1 + 1 + 1)
        by_cases ce : els.length = 0
        · have hels : els = [] := List.eq_nil_of_length_eq_zero ce
          subst hels
          have e : bodyS inn ⟨id, 5, labels, [], [], x, false, [], thn, []⟩ = [105, 102] ++ 32 :: (40 :: (prE 0 x ++ 41 :: (32 :: (123 :: (10 :: (rowsS (inn + 1) thn ++ (List.replicate inn 32 ++ (125 :: [10]))))))))  := by
            simp [bodyS, lineT]
          rw [e]
          refine ⟨_, LxS.then (LxS.wd pos) (LxF.blank (by decide) (LxF.sg (LxS.then g2 (LxF.sg (LxF.blank (by decide) (LxF.sg (LxF.blank (by decide) (LxF.app k1 (LxF.blanks inn (LxF.sg (LxF.blank (by decide) (LxF.nil _))))))))))))  , ?_, ?_, ?_⟩
          · simp [bodyN, g1, k2]; omega
          · exact .inr ⟨_, _, rfl, rfl, by simp [tWd], by simp [tWd], by simp [tWd]⟩
          · intro r lr m n hA hNE hn hm' hl
            simp only [List.length_append, List.length_cons, List.length_nil] at hm' hl
            obtain ⟨t, lr', rfl, hk, hne⟩ := hNE
            rw [(read_if h200 h12 (w := tWd [105, 102] pos) rfl rfl (p := tSg 40 (pos + 2 + 1)) rfl rfl g3 (q := tSg 41 (pos + 2 + 1 + 1 + (prE 0 x).length)) rfl rfl (b := tSg 123 (pos + 2 + 1 + 1 + (prE 0 x).length + 1 + 1)) rfl rfl k4 (by omega) (c := tSg 125 (pos + 2 + 1 + 1 + (prE 0 x).length + 1 + 1 + 1 + 1 + (rowsS (inn + 1) thn).length + inn)) rfl rfl).1 r t lr' m n (by simpa using hA) hk hne hn (by omega) (by omega)]
            rw [h2]
            simp only [Sm.z, Sm.zs, Sm.mayL, List.length_append, List.length_cons, List.length_nil, Rd.mv]
            congr 3
            omega
        · obtain ⟨E, j1, j2, j3, j4⟩ := rows_as els (inn + 1) (nest + 1) _ he r4 (te.1.imp_right fun h => ⟨by omega, h⟩) (by omega) (by omega) (pos + 2 + 1 + 1 + (prE 0 x).length + 1 + 1 + 1 + 1 + (rowsS (inn + 1) thn).length + inn + 1 + 1 + 4 + 1 + 1 + 1)
          have e : bodyS inn ⟨id, 5, labels, [], [], x, false, [], thn, els⟩ = [105, 102] ++ 32 :: (40 :: (prE 0 x ++ 41 :: (32 :: (123 :: (10 :: (rowsS (inn + 1) thn ++ (List.replicate inn 32 ++ (125 :: (32 :: ([101, 108, 115, 101] ++ 32 :: (123 :: (10 :: (rowsS (inn + 1) els ++ (List.replicate inn 32 ++ (125 :: [10]))))))))))))))) := by
            have : els ≠ [] := fun h => ce (by rw [h]; rfl)
            simp [bodyS, lineT, this]
          rw [e]
          refine ⟨_, LxS.then (LxS.wd pos) (LxF.blank (by decide) (LxF.sg (LxS.then g2 (LxF.sg (LxF.blank (by decide) (LxF.sg (LxF.blank (by decide) (LxF.app k1 (LxF.blanks inn (LxF.sg (LxF.blank (by decide)
            (LxS.then (LxS.wd _) (LxF.blank (by decide) (LxF.sg (LxF.blank (by decide) (LxF.app j1 (LxF.blanks inn (LxF.sg (LxF.blank (by decide) (LxF.nil _)))))))))))))))))))), ?_, ?_, ?_⟩
          · simp only [bodyN, List.length_append, List.length_cons, List.length_nil, Int.reduceEq, ↓reduceIte, if_neg ce, g1, k2, j2]; omega
          · exact .inr ⟨_, _, rfl, rfl, by simp [tWd], by simp [tWd], by simp [tWd]⟩
          · intro r lr m n hA hNE hn hm' hl
            simp only [List.length_append, List.length_cons, List.length_nil] at hm' hl
            rw [(read_if h200 h12 (w := tWd [105, 102] pos) rfl rfl (p := tSg 40 (pos + 2 + 1)) rfl rfl g3 (q := tSg 41 (pos + 2 + 1 + 1 + (prE 0 x).length)) rfl rfl (b := tSg 123 (pos + 2 + 1 + 1 + (prE 0 x).length + 1 + 1)) rfl rfl k4 (by omega) (c := tSg 125 (pos + 2 + 1 + 1 + (prE 0 x).length + 1 + 1 + 1 + 1 + (rowsS (inn + 1) thn).length + inn)) rfl rfl).2
              (e := tWd [101, 108, 115, 101] (pos + 2 + 1 + 1 + (prE 0 x).length + 1 + 1 + 1 + 1 + (rowsS (inn + 1) thn).length + inn + 1 + 1)) rfl rfl (b' := tSg 123 (pos + 2 + 1 + 1 + (prE 0 x).length + 1 + 1 + 1 + 1 + (rowsS (inn + 1) thn).length + inn + 1 + 1 + 4 + 1)) rfl rfl j4 (by omega)
              (c' := tSg 125 (pos + 2 + 1 + 1 + (prE 0 x).length + 1 + 1 + 1 + 1 + (rowsS (inn + 1) thn).length + inn + 1 + 1 + 4 + 1 + 1 + 1 + (rowsS (inn + 1) els).length + inn)) rfl rfl r lr m n (by simpa using hA) hn (by omega) (by omega)]
            rw [h2]
            simp only [Sm.z, Sm.zs, Sm.mayL, List.length_append, List.length_cons, List.length_nil, Rd.mv]
            congr 3
            omega
      · obtain ⟨l, g1, g2, g3, g4⟩ := plain_as ho r1 r2 (by simp only [Sm.size]; omega) k5 k6 h200 h12.2 pos
        have ht0 : thn = [] := hf.thn.resolve_right (by dsimp only; omega)
        have he0 : els = [] := hf.els.resolve_right k5
        refine ⟨l, ?_, ?_, g3, ?_⟩
        · have e : bodyS inn ⟨id, kind, labels, name, proc, x, has, args, thn, els⟩ = plainS kind name proc x has args ++ [59, 10] := by
            unfold bodyS lineT
            dsimp only
            rw [if_neg k6, if_neg k5, if_neg (by omega)]
            simp
          rw [e]; exact g1
        · rw [g2]; simp only [bodyN, if_neg k6, if_neg k5]
        · rw [mayR_simple hm ht0 he0]; exact g4
theorem rows_as : ∀ (l : List Sm) (inn : Nat) (nest : Int) (n0 : Nat), (Sm.mayL nest n0 l).1 = true → Sm.rngs l → (l = [] ∨ (-1000 ≤ nest ∧ nest ≤ 12)) → l.length ≤ 1000000 → Sm.sizes l < 1000000 → ∀ pos, ∃ L, LxF (rowsS inn l) pos L ∧ L.length = rowsN l ∧ RowBeg L ∧ RowsAs nest n0 (Sm.mayL nest n0 l).2 l L
  | [], inn, nest, n0, _, _, _, _, _, pos => ⟨[], by simp only [rowsS]; exact LxF.nil _, by simp [rowsN], .nil, by simp only [Sm.mayL]; exact rows_nil nest n0⟩
  | s :: l, inn, nest, n0, hm, hr, h12, hln, hs, pos => by
    obtain ⟨m1, m2, m3⟩ := mayL_cons hm
    have h12 := h12.resolve_left (by simp)
    simp only [Sm.rngs] at hr
    simp only [Sm.sizes] at hs
    simp only [List.length_cons] at hln
    have hlab : s.labels.length < s.size := by cases s; simp only [Sm.size]; omega
    have hml : mayNames s.labels = true := (one_facts (mayR_true m1).2.2.1).lab
    obtain ⟨Fs, f1, f2⟩ := lab_lx hml (pos + inn)
    obtain ⟨ls, g1, g2, g3, g4⟩ := stmt_as s inn nest n0 m1 hr.1 h12 (by omega) (pos + inn + (marksS s.labels).length)
    obtain ⟨L, k1, k2, k3, k4⟩ := rows_as l inn nest _ m2 hr.2 (.inr h12) (by omega) (by omega) (pos + inn + (marksS s.labels).length + (bodyS inn s).length)
    refine ⟨Fs ++ (ls ++ L), ?_, ?_, RowBeg.cons f2 g3, ?_⟩
    · simp only [rowsS]
      rw [rowS_body]
      have e : List.replicate inn 32 ++ (marksS s.labels ++ bodyS inn s) ++ rowsS inn l = List.replicate inn 32 ++ (marksS s.labels ++ (bodyS inn s ++ rowsS inn l)) := by simp only [List.append_assoc]
      rw [e]
      exact LxF.blanks inn (LxF.app f1 (LxF.app g1 k1))
    · simp only [rowsN, List.length_append, f2.len, g2, k2]; omega
    · rw [m3]; exact rows_cons f2 g3 g4 k4 k3 (by omega)
end

end Go.Abs

/-! Ps6 -/

namespace Go.Abs
set_option linter.unusedSimpArgs false
set_option linter.unusedVariables false

def parN (a : Pm) : Nat := if a.ref then 2 else 1
theorem gname_len (a : Str) (l : List Tok) (h : GName a l) : l.length = 1 := by obtain ⟨k, rfl, _⟩ := h; rfl
theorem gparam_len (a : Pm) (l : List Tok) (h : GParam a l) : l.length = parN a := by
  unfold GParam at h
  unfold parN
  split at h
  · rename_i hr; rw [if_pos hr]; obtain ⟨w, k, rfl, _⟩ := h; rfl
  · rename_i hr; rw [if_neg hr]; exact gname_len _ _ h
theorem names_lx {l : List Str} (hm : mayNames l = true) (h0 : l ≠ []) (pos : Nat) : ∃ t, LxS (Lib.join l [44, 32]) pos t ∧ SepG GName l t := by
  have := LxS.join id GName l pos h0 fun a ha pos => ⟨[tNm a pos], LxS.nm (mayNames_mem hm ha) pos, ⟨_, rfl, rfl, rfl⟩⟩
  simpa using this
theorem params_lx {l : List Pm} (hm : Pm.mays l = true) (h0 : l ≠ []) (pos : Nat) : ∃ t, LxS (Lib.join (l.map paramS) [44, 32]) pos t ∧ SepG GParam l t := by
  refine LxS.join paramS GParam l pos h0 fun a ha pos => ?_
  have hn := pmays_mem hm ha
  unfold paramS GParam
  by_cases hr : a.ref = true
  · simp only [hr, ↓reduceIte]
    have : LxF [114, 101, 102, 32] pos [tWd [114, 101, 102] pos] := LxS.then (s := [114, 101, 102]) (c := 32) (t := []) (LxS.wd pos) (LxF.blank (by decide) (LxF.nil _))
    exact ⟨_, LxS.behind this (LxS.nm hn _), ⟨_, _, rfl, rfl, rfl, rfl, rfl⟩⟩
  · simp only [hr, Bool.false_eq_true, ↓reduceIte, List.nil_append]
    exact ⟨[tNm a.name pos], LxS.nm hn pos, ⟨_, rfl, rfl, rfl⟩⟩

theorem sep_first {α : Type} {G : α → List Tok → Prop} {K : List Tok → Prop} (hG : ∀ a l m, G a l → K (l ++ m)) {xs : List α} {l : List Tok} (h : SepG G xs l) : ∀ m, K (l ++ m) := by
  cases h with
  | one x l hx => exact fun m => hG x l m hx
  | cons x l c hc xs m hx k => intro m'; rw [List.append_assoc]; exact hG x l _ hx

/-! ### Variables -/

/-- A line of names behind a word. -/
def NamesT (w : Str) (l : List Str) (T : List Tok) : Prop := (l = [] ∧ T = []) ∨ ∃ (t q : Tok) (m : List Tok), T = t :: (m ++ [q]) ∧ t.kind = 3 ∧ t.text = w ∧ SepG GName l m ∧ q.kind = 4 ∧ q.text = [59]
def namesN (l : List Str) : Nat := if l.length = 0 then 0 else sepN (fun _ => 1) l + 2
theorem NamesT.len {w : Str} {l : List Str} {T : List Tok} (h : NamesT w l T) (h0 : ∀ m, ¬ SepG GName [] m) : T.length = namesN l := by
  rcases h with ⟨rfl, rfl⟩ | ⟨t, q, m, rfl, _, _, hs, _⟩
  · rfl
  · have : l.length ≠ 0 := by
      intro hl
      have : l = [] := List.eq_nil_of_length_eq_zero hl
      subst this
      exact h0 m hs
    unfold namesN
    rw [if_neg this]
    simp only [List.length_cons, List.length_append, List.length_nil, sep_len gname_len hs]
theorem sep_ne {α : Type} {G : α → List Tok → Prop} (m : List Tok) : ¬ SepG G [] m := by intro h; cases h

theorem sep_xs {α : Type} {G : α → List Tok → Prop} (hG : ∀ a l, G a l → 0 < l.length) {xs : List α} {l : List Tok} (h : SepG G xs l) : xs.length ≤ l.length := by
  induction h with
  | one x l hx => have := hG x l hx; simp only [List.length_cons, List.length_nil]; omega
  | cons x l c hc xs m hx k ih => simp only [List.length_cons, List.length_append]; omega

theorem vars_as {l : List Str} {T : List Tok} (h : NamesT [118, 97, 114] l T) (h16 : l.length ≤ 16) : ∀ (r : Rd) (lr : List Tok) (m n : Nat), At r (T ++ lr) → NoW [118, 97, 114] lr → T.length < m → 1 < n → Rd.vars m n [] r = some (l, r.mv T.length) := by
  intro r lr m n hA hN hm hn
  obtain ⟨n, rfl⟩ : ∃ n', n = n' + 2 := ⟨n - 2, by omega⟩
  obtain ⟨t, lr', rfl, hk, hne⟩ := hN
  rcases h with ⟨rfl, rfl⟩ | ⟨w, q, M, rfl, w1, w2, hs, q1, q2⟩
  · have hA : At r (t :: lr') := hA
    rw [Rd.vars, hA.take_no hk hne, Option.bind_some]
    rfl
  · have hA : At r (w :: (M ++ q :: (t :: lr'))) := by simpa using hA
    simp only [List.length_cons, List.length_append, List.length_nil] at hm
    have hlen := sep_xs (fun a l h => by rw [gname_len a l h]; omega) hs
    rw [Rd.vars, hA.take_yes (.inl w1) w2, Option.bind_some]
    simp only [↓reduceIte]
    rw [names_as hs _ q (t :: lr') [] m 16 hA.one q1 q2 (by simp; omega) (by omega) (by omega), Option.bind_some]
    dsimp only
    have hA2 : At ((r.mv 1).mv (M.length + 1)) (t :: lr') := by
      have := hA.one.app.one
      simpa only [mv_mv, Nat.add_assoc] using this
    rw [Rd.vars, hA2.take_no hk hne, Option.bind_some]
    simp only [Bool.false_eq_true, ↓reduceIte, List.nil_append, mv_mv, List.length_cons, List.length_append, List.length_nil]
    congr 3
    omega
theorem globals_as {l : List Str} {T : List Tok} (h : NamesT [103, 108, 111, 98, 97, 108] l T) (h16 : l.length ≤ 16) : ∀ (r : Rd) (lr : List Tok) (m n : Nat), At r (T ++ lr) → NoW [103, 108, 111, 98, 97, 108] lr → T.length < m → 1 < n → Rd.globals m n [] r = some (l, r.mv T.length) := by
  intro r lr m n hA hN hm hn
  obtain ⟨n, rfl⟩ : ∃ n', n = n' + 2 := ⟨n - 2, by omega⟩
  obtain ⟨t, lr', rfl, hk, hne⟩ := hN
  rcases h with ⟨rfl, rfl⟩ | ⟨w, q, M, rfl, w1, w2, hs, q1, q2⟩
  · have hA : At r (t :: lr') := hA
    rw [Rd.globals, hA.take_no hk hne, Option.bind_some]
    rfl
  · have hA : At r (w :: (M ++ q :: (t :: lr'))) := by simpa using hA
    simp only [List.length_cons, List.length_append, List.length_nil] at hm
    have hlen := sep_xs (fun a l h => by rw [gname_len a l h]; omega) hs
    rw [Rd.globals, hA.take_yes (.inl w1) w2, Option.bind_some]
    simp only [↓reduceIte]
    rw [names_as hs _ q (t :: lr') [] m 16 hA.one q1 q2 (by simp; omega) (by omega) (by omega), Option.bind_some]
    dsimp only
    have hA2 : At ((r.mv 1).mv (M.length + 1)) (t :: lr') := by
      have := hA.one.app.one
      simpa only [mv_mv, Nat.add_assoc] using this
    rw [Rd.globals, hA2.take_no hk hne, Option.bind_some]
    simp only [Bool.false_eq_true, ↓reduceIte, List.nil_append, mv_mv, List.length_cons, List.length_append, List.length_nil]
    congr 3
    omega

/-! ### Procedures -/

def ProcAs (n0 n1 : Nat) (f : Pc) (l : List Tok) : Prop := ∀ (r : Rd) (lr : List Tok) (m : Nat), At r (l ++ lr) → r.n = n0 → 3 * l.length + 10 < m → Rd.proc m r = some (⟨f.name, f.params, f.vars, Sm.zs f.body, f.fin⟩, { r.mv l.length with n := n1 })
def procN (f : Pc) : Nat := 6 + sepN parN f.params + namesN f.vars + rowsN f.body + 2 * f.fin.length

theorem gparam_first {a : Pm} {l m : List Tok} (h : GParam a l) : NoW [41] (l ++ m) := by
  unfold GParam at h
  split at h
  · obtain ⟨w, k, rfl, w1, w2, _⟩ := h
    exact ⟨w, _, rfl, Kd.of w1, .inr (by rw [w2]; decide)⟩
  · obtain ⟨k, rfl, k1, _⟩ := h
    exact ⟨k, _, rfl, kd1 k1, .inl (by omega)⟩

theorem proc_read {n0 n1 : Nat} {f : Pc} {t p q b c : Tok} {P V L F : List Tok} (ht : t.kind = 1) (ht2 : t.text = f.name) (hp : p.kind = 4) (hp2 : p.text = [40]) (hP : (f.params = [] ∧ P = []) ∨ SepG GParam f.params P) (h8 : f.params.length ≤ 8) (hq : q.kind = 4) (hq2 : q.text = [41]) (hb : b.kind = 4) (hb2 : b.text = [123])
    (hV : NamesT [118, 97, 114] f.vars V) (h16 : f.vars.length ≤ 16) (hL : RowsAs 1 n0 n1 f.body L) (hLb : RowBeg L) (hF : LabT f.fin F) (hc : c.kind = 4) (hc2 : c.text = [125]) (hl : f.body.length ≤ 1000000) (hfl : f.fin.length ≤ 1000000) : ProcAs n0 n1 f (t :: p :: (P ++ q :: b :: (V ++ (L ++ (F ++ [c]))))) := by
  intro r lr m hA hn hm
  simp only [List.length_cons, List.length_append, List.length_nil] at hm
  have hA : At r (t :: p :: (P ++ q :: b :: (V ++ (L ++ (F ++ c :: lr))))) := by simpa using hA
  have hA2 := hA.one.one
  have body : ∀ r1 : Rd, At r1 (V ++ (L ++ (F ++ c :: lr))) → r1.n = n0 → Rd.procB m f.name f.params r1 = some (⟨f.name, f.params, f.vars, Sm.zs f.body, f.fin⟩, { r1.mv (V.length + L.length + F.length + 1) with n := n1 }) := by
    intro r1 hA1 hn1
    unfold Rd.procB
    have hno : NoW [118, 97, 114] (L ++ (F ++ c :: lr)) := hLb _ (.inr rfl) _ (hF.els _ (.inr rfl) _ ⟨c, lr, rfl, kd4 hc, .inr (by rw [hc2]; decide)⟩)
    rw [vars_as hV h16 r1 _ m m hA1 hno (by omega) (by omega), Option.bind_some]
    dsimp only
    obtain ⟨m', rfl⟩ : ∃ m', m = m' + 1 := ⟨m - 1, by omega⟩
    rw [Rd.rows, hL f.fin F c true _ lr (m' + 1) m' [] hF hc hc2 (.inl rfl) hA1.app (by simpa [Rd.mv] using hn1) (by omega) (by omega) (by simpa using hl) hfl, Option.bind_some]
    simp only [List.nil_append, Rd.mv]
    congr 3
    omega
  unfold Rd.proc
  rw [hA.name ht, Option.bind_some]
  dsimp only
  rw [hA.one.want (.inr hp) hp2, Option.bind_some, ht2]
  rcases hP with ⟨hp0, rfl⟩ | hP
  · have hA2 : At ((r.mv 1).mv 1) (q :: b :: (V ++ (L ++ (F ++ c :: lr)))) := hA2
    unfold Rd.other
    rw [if_pos hA2.good, hA2.is (kd4 hq), Option.bind_some, Option.bind_some]
    have b0 : ((q.kind == 3 || q.kind == 4) && q.text == [41]) = true := by simp [hq, hq2]
    rw [b0]
    simp only [Bool.not_true, Bool.false_eq_true, ↓reduceIte]
    rw [hA2.want (.inr hq) hq2, Option.bind_some, hA2.one.want (.inr hb) hb2, Option.bind_some]
    have := body _ hA2.one.one (by simpa [Rd.mv] using hn)
    rw [hp0] at this ⊢
    rw [this]
    simp only [Rd.mv, List.length_cons, List.length_append, List.length_nil]
    congr 3
    omega
  · obtain ⟨t', l', e, hk, hne⟩ := sep_first (K := NoW [41]) (fun a l m h => gparam_first h) hP (q :: b :: (V ++ (L ++ (F ++ c :: lr))))
    have hA2' : At ((r.mv 1).mv 1) (t' :: l') := by rw [← e]; exact hA2
    have hpl := sep_xs (fun a l h => by rw [gparam_len a l h]; unfold parN; split <;> omega) hP
    unfold Rd.other
    rw [if_pos hA2.good, hA2'.is hk, Option.bind_some, Option.bind_some]
    have b0 : ((t'.kind == 3 || t'.kind == 4) && t'.text == [41]) = false := by
      rcases hne with ⟨h1, h2⟩ | h
      · simp [h1, h2]
      · simp [h]
    rw [b0]
    simp only [Bool.not_false, ↓reduceIte]
    rw [params_as hP _ q _ [] m hA2 hq hq2 (by simpa using h8) (by omega), Option.bind_some]
    dsimp only
    rw [hA2.app.want (.inr hq) hq2, Option.bind_some, hA2.app.one.want (.inr hb) hb2, Option.bind_some, List.nil_append]
    rw [body _ hA2.app.one.one (by simpa [Rd.mv] using hn)]
    simp only [Rd.mv, List.length_cons, List.length_append, List.length_nil]
    congr 3
    omega

theorem names_line {w : Str} (hw : (isWord w && w.all isL && !w.isEmpty && decide (w.length ≤ 8)) = true) {l : List Str} (hm : mayNames l = true) (n pos : Nat) : ∃ T, LxF (if l.length = 0 then [] else lineS n (w ++ [32] ++ Lib.join l [44, 32] ++ [59])) pos T ∧ NamesT w l T := by
  by_cases h0 : l.length = 0
  · rw [if_pos h0]
    exact ⟨[], LxF.nil _, .inl ⟨List.eq_nil_of_length_eq_zero h0, rfl⟩⟩
  · rw [if_neg h0]
    have hne : l ≠ [] := fun h => h0 (by rw [h]; rfl)
    obtain ⟨T, g1, g2⟩ := names_lx hm hne (pos + n + w.length + 1)
    have e : lineS n (w ++ [32] ++ Lib.join l [44, 32] ++ [59]) = List.replicate n 32 ++ (w ++ 32 :: (Lib.join l [44, 32] ++ 59 :: [10])) := by simp [lineS]
    rw [e]
    refine ⟨_, LxF.blanks n (LxS.then (LxS.wd (pos + n) hw) (LxF.blank (by decide) (LxS.then g1 (LxF.end _)))), .inr ⟨tWd w (pos + n), tSg 59 (pos + n + w.length + 1 + (Lib.join l [44, 32]).length), T, by simp, rfl, rfl, g2, rfl, rfl⟩⟩

theorem proc_as {f : Pc} {n0 : Nat} (hn : isName f.name = true) (hv : mayNames f.vars = true) (hfn : mayNames f.fin = true) (hp : Pm.mays f.params = true) (h8 : f.params.length ≤ 8) (h16 : f.vars.length ≤ 16) (hm : (Sm.mayL 1 n0 f.body).1 = true) (hr : Sm.rngs f.body) (hs : f.size < 1000000) (pos : Nat) :
    ∃ T, LxF (procS f) pos T ∧ ∃ t l, T = t :: l ∧ t.kind = 3 ∧ t.text = [112, 114, 111, 99] ∧ l.length + 1 = procN f ∧ ProcAs n0 (Sm.mayL 1 n0 f.body).2 f l := by
  have hfz : f.params.length + f.vars.length + f.fin.length + Sm.sizes f.body + 1 ≤ f.size := by unfold Pc.size; omega
  have hbl := Sm.sizes_len f.body
  have key : ∀ P : Nat, ∃ l, LxS (Lib.join (f.params.map paramS) [44, 32]) P l ∧ ((f.params = [] ∧ l = []) ∨ SepG GParam f.params l) ∧ l.length = sepN parN f.params := by
    intro P
    by_cases h0 : f.params = []
    · rw [h0]
      refine ⟨[], ?_, .inl ⟨rfl, rfl⟩, rfl⟩
      simp only [List.map_nil]
      have : Lib.join [] [44, 32] = [] := by simp [Lib.join]
      rw [this]
      exact (LxF.nil _).s
    · obtain ⟨l, h1, h2⟩ := params_lx hp h0 P
      exact ⟨l, h1, .inr h2, sep_len gparam_len h2⟩
  obtain ⟨P, a1, a2, a3⟩ := key (pos + 4 + 1 + f.name.length + 1)
  obtain ⟨V, v1, v2⟩ := names_line (w := [118, 97, 114]) (by decide) hv 1 (pos + 4 + 1 + f.name.length + 1 + (Lib.join (f.params.map paramS) [44, 32]).length + 1 + 1 + 1 + 1)
  obtain ⟨L, k1, k2, k3, k4⟩ := rows_as f.body 1 1 n0 hm hr (.inr (by omega)) (by omega) (by omega) (pos + 4 + 1 + f.name.length + 1 + (Lib.join (f.params.map paramS) [44, 32]).length + 1 + 1 + 1 + 1 + (if f.vars.length = 0 then [] else lineS 1 ([118, 97, 114] ++ [32] ++ Lib.join f.vars [44, 32] ++ [59])).length)
  obtain ⟨F, f1, f2⟩ := lab_lx hfn (pos + 4 + 1 + f.name.length + 1 + (Lib.join (f.params.map paramS) [44, 32]).length + 1 + 1 + 1 + 1 + (if f.vars.length = 0 then [] else lineS 1 ([118, 97, 114] ++ [32] ++ Lib.join f.vars [44, 32] ++ [59])).length + (rowsS 1 f.body).length)
  have e : procS f = [112, 114, 111, 99] ++ 32 :: (f.name ++ 40 :: (Lib.join (f.params.map paramS) [44, 32] ++ 41 :: (32 :: (123 :: (10 :: ((if f.vars.length = 0 then [] else lineS 1 ([118, 97, 114] ++ [32] ++ Lib.join f.vars [44, 32] ++ [59])) ++ (rowsS 1 f.body ++ (marksS f.fin ++ (125 :: [10]))))))))) := by
    unfold procS
    split <;> simp [lineS]
  rw [e]
  refine ⟨_, LxS.then (LxS.wd pos) (LxF.blank (by decide) (LxS.then (LxS.nm hn _) (LxF.sg (LxS.then a1 (LxF.sg (LxF.blank (by decide) (LxF.sg (LxF.blank (by decide) (LxF.app v1 (LxF.app k1 (LxF.app f1 (LxF.sg (LxF.blank (by decide) (LxF.nil _)))))))))))))), _, _, List.singleton_append, rfl, rfl, ?_, ?_⟩
  · have := v2.len (fun m => sep_ne m)
    have := f2.len
    simp only [List.nil_append, List.length_cons, List.length_append, List.length_nil, procN]; omega
  · have := proc_read (f := f) (t := tNm f.name (pos + 4 + 1)) rfl rfl (p := tSg 40 (pos + 4 + 1 + f.name.length)) rfl rfl a2 h8 (q := tSg 41 (pos + 4 + 1 + f.name.length + 1 + (Lib.join (f.params.map paramS) [44, 32]).length)) rfl rfl
      (b := tSg 123 (pos + 4 + 1 + f.name.length + 1 + (Lib.join (f.params.map paramS) [44, 32]).length + 1 + 1)) rfl rfl v2 h16 k4 k3 f2
      (c := tSg 125 (pos + 4 + 1 + f.name.length + 1 + (Lib.join (f.params.map paramS) [44, 32]).length + 1 + 1 + 1 + 1 + (if f.vars.length = 0 then [] else lineS 1 ([118, 97, 114] ++ [32] ++ Lib.join f.vars [44, 32] ++ [59])).length + (rowsS 1 f.body).length + (marksS f.fin).length)) rfl rfl (by omega) (by omega)
    simpa using this

end Go.Abs

/-! Ps7 -/

namespace Go.Abs
set_option linter.unusedSimpArgs false
set_option linter.unusedVariables false

def Pc.z (f : Pc) : Pc := ⟨f.name, f.params, f.vars, Sm.zs f.body, f.fin⟩
def Pg.z (p : Pg) : Pg := ⟨p.globals, p.procs.map Pc.z⟩

mutual
theorem z_num : ∀ (s : Sm) (nest : Int) (n : Nat), (Sm.mayR nest n s).1 = true → Sm.num true n s.z = (s, (Sm.mayR nest n s).2)
  | ⟨id, kind, labels, name, proc, x, has, args, thn, els⟩, nest, n, hm => by
    obtain ⟨_, hid, _, h2, h3, h4⟩ := mayR_true hm
    have t2 := (mayG_true h2).2
    have t3 := (mayG_true h3).2
    rw [t2] at h2 h3 h4 t3
    rw [t3] at h3 h4
    dsimp only at hid h2 h3 h4
    simp only [Sm.z, Sm.num, zs_nums thn _ _ h2, zs_nums els _ _ h3, ↓reduceIte]
    rw [h4, ← hid]
theorem zs_nums : ∀ (l : List Sm) (nest : Int) (n : Nat), (Sm.mayL nest n l).1 = true → Sm.nums true n (Sm.zs l) = (l, (Sm.mayL nest n l).2)
  | [], nest, n, _ => by simp only [Sm.zs, Sm.nums, Sm.mayL]
  | s :: l, nest, n, hm => by
    obtain ⟨m1, m2, m3⟩ := mayL_cons hm
    simp only [Sm.zs, Sm.nums, z_num s nest n m1, zs_nums l nest _ m2, m3]
end

def ProcsAs (n0 : Nat) (l : List Pc) (L : List Tok) : Prop := ∀ (r : Rd) (e : Tok) (m n : Nat) (out : List Pc), At r (L ++ [e]) → e.kind = 0 → r.n = n0 → out.length + l.length ≤ 16 → 3 * L.length + 10 < m → l.length < n →
  ∃ n1, Rd.procs m n out r = some (out ++ l.map Pc.z, { r.mv L.length with n := n1 })
def procsN : List Pc → Nat
  | [] => 0
  | f :: l => procN f + procsN l

theorem procs_as : ∀ (l : List Pc) (n0 : Nat), Pc.mayL n0 l = true → (∀ f ∈ l, Sm.rngs f.body) → (∀ f ∈ l, f.size < 1000000) → ∀ pos, ∃ L, LxF (procsS l) pos L ∧ L.length = procsN l ∧ ProcsAs n0 l L ∧ (Pc.nums n0 (l.map Pc.z) = l) ∧ (∀ e : Tok, e.kind = 0 → NoW [103, 108, 111, 98, 97, 108] (L ++ [e]))
  | [], n0, _, _, _, pos => by
    refine ⟨[], by simp only [procsS]; exact LxF.nil _, rfl, ?_, by simp [Pc.nums], fun e he => ⟨e, [], rfl, Kd.of he, .inl (by omega)⟩⟩
    intro r e m n out hA he hn ho hm hl
    refine ⟨r.n, ?_⟩
    cases n with
    | zero => simp at hl
    | succ n =>
      have hA : At r [e] := hA
      have k3 : (e.kind == 3) = false := by simp [he]
      have k4 : (e.kind == 4) = false := by simp [he]
      rw [Rd.procs]
      unfold Rd.isProc Rd.notEnd
      rw [if_pos hA.good, hA.is (Kd.of he), Option.bind_some, k3, k4]
      simp only [Bool.or_self, Bool.false_and, Bool.false_eq_true, ↓reduceIte]
      rw [if_pos hA.good, hA.peek (Kd.of he), Option.bind_some, Option.bind_some, he]
      simp [Rd.mv]
  | f :: l, n0, h, hr, hs, pos => by
    simp only [Pc.mayL] at h
    split at h
    · cases h
    rename_i c1
    split at h
    · cases h
    rename_i c2
    split at h
    · cases h
    rename_i c3
    simp only [Bool.or_eq_true, Bool.not_eq_true', not_or, Bool.not_eq_false, decide_eq_true_eq] at c1 c2 c3
    have hg := (mayG_true c3).2
    rw [hg] at c3 h
    obtain ⟨T, g1, t, L1, rfl, g2, g3, g4, g5⟩ := proc_as (f := f) (n0 := n0) c1.1.1.2 c1.1.2 c1.2 c2 (by omega) (by omega) c3 (hr f (List.mem_cons_self ..)) (hs f (List.mem_cons_self ..)) pos
    obtain ⟨L2, k1, k2, k3, k4, k5⟩ := procs_as l _ h (fun g m => hr g (List.mem_cons_of_mem _ m)) (fun g m => hs g (List.mem_cons_of_mem _ m)) (pos + (procS f).length)
    refine ⟨(t :: L1) ++ L2, ?_, ?_, ?_, ?_, fun e he => ⟨t, _, rfl, Kd.of g2, .inr (by rw [g3]; decide)⟩⟩
    · simp only [procsS]; exact LxF.app g1 k1
    · simp only [procsN, List.length_append, List.length_cons, k2]; omega
    · intro r e m n out hA he hn ho hm hl
      simp only [List.length_append, List.length_cons] at ho hm hl
      cases n with
      | zero => omega
      | succ n =>
        have hA : At r (t :: (L1 ++ (L2 ++ [e]))) := by simpa using hA
        rw [Rd.procs]
        unfold Rd.isProc
        rw [if_pos hA.good, hA.is (Kd.of g2), Option.bind_some]
        have b0 : ((t.kind == 3 || t.kind == 4) && t.text == [112, 114, 111, 99]) = true := by simp [g2, g3]
        rw [if_pos b0, if_neg (by simp only [beq_iff_eq]; omega)]
        have e1 := g5 (r.mv 1) (L2 ++ [e]) m hA.one (by simpa [Rd.mv] using hn) (by omega)
        have e1' : Rd.proc m { r with i := r.i + 1 } = _ := e1
        rw [e1', Option.bind_some]
        dsimp only
        rw [push_ok (by omega) (by omega), Option.bind_some]
        obtain ⟨n1, e2⟩ := k3 ({ (r.mv 1).mv L1.length with n := (Sm.mayL 1 n0 f.body).2 } : Rd) e m n (out ++ [⟨f.name, f.params, f.vars, Sm.zs f.body, f.fin⟩]) (hA.one.app.n _) he rfl (by simp only [List.length_append, List.length_cons, List.length_nil]; omega) (by omega) (by omega)
        refine ⟨n1, ?_⟩
        rw [e2]
        simp only [List.map_cons, List.append_assoc, List.cons_append, List.nil_append, Pc.z, Rd.mv, List.length_append, List.length_cons]
        congr 3
        omega
    · simp only [List.map_cons, Pc.nums]
      have e1 := zs_nums f.body 1 n0 c3
      have e2 : (Pc.z f).body = Sm.zs f.body := rfl
      rw [e2, e1, k4]
      rfl

/-- How many tokens a program's text has. -/
def Pg.toks (p : Pg) : Nat := namesN p.globals + procsN p.procs

/-- A program's text has so many tokens; and they are read as that program. -/
theorem text_as {p : Pg} (h : p.may = true) (hr : p.rng) (hs : p.size < 1000000) : ∃ L, Lx 0 (textS p) L ∧ L.length = p.toks ∧ p.z.number = p ∧
    ∀ (r : Rd) (e : Tok) (m : Nat), At r (L ++ [e]) → e.kind = 0 → r.n = 0 → 3 * L.length + 30 < m → ∃ n1, Rd.program m r = some (p.z, { r.mv L.length with n := n1 }) := by
  rw [← mayP_eq] at h
  unfold Pg.mayP at h
  split at h
  · cases h
  rename_i c
  simp only [Bool.or_eq_true, Bool.not_eq_true', not_or, Bool.not_eq_false, decide_eq_true_eq] at c
  have hsz : ∀ f ∈ p.procs, f.size < 1000000 := fun f m => by have := Pc.sizes_mem m; simp only [Pg.size] at hs; omega
  obtain ⟨T, t1, t2⟩ := names_line (w := [103, 108, 111, 98, 97, 108]) (by decide) c.2 0 0
  obtain ⟨L, k1, k2, k3, k4, k5⟩ := procs_as p.procs 0 h hr hsz (0 + (if p.globals.length = 0 then [] else lineS 0 ([103, 108, 111, 98, 97, 108] ++ [32] ++ Lib.join p.globals [44, 32] ++ [59])).length)
  have e : textS p = (if p.globals.length = 0 then [] else lineS 0 ([103, 108, 111, 98, 97, 108] ++ [32] ++ Lib.join p.globals [44, 32] ++ [59])) ++ procsS p.procs := rfl
  refine ⟨T ++ L, ?_, ?_, ?_, ?_⟩
  · rw [e]
    have := LxF.app t1 k1 [] [] (.nil _)
    simpa using this
  · rw [List.length_append, t2.len (fun m => sep_ne m), k2]; rfl
  · unfold Pg.number Pg.z
    dsimp only
    rw [k4]
  · intro r e m hA he hn hm
    simp only [List.length_append] at hm
    have hA : At r (T ++ (L ++ [e])) := by simpa using hA
    have hlp : p.procs.length ≤ 16 := by omega
    unfold Rd.program
    rw [globals_as t2 (by omega) r _ m m hA (k5 e he) (by omega) (by omega), Option.bind_some]
    dsimp only
    obtain ⟨n1, e2⟩ := k3 (r.mv T.length) e m m [] hA.app he (by simpa [Rd.mv] using hn) (by simpa using hlp) (by omega) (by omega)
    refine ⟨n1, ?_⟩
    rw [e2, Option.bind_some]
    simp only [List.nil_append, Pg.z, Rd.mv, List.length_append]
    congr 3
    omega

/-- A text has but one row of tokens. -/
theorem Lx.det {pos : Nat} {s : Str} {l : List Tok} (h : Lx pos s l) : ∀ {l' : List Tok}, Lx pos s l' → l = l' := by
  induction h with
  | nil pos => intro l' h'; cases h'; rfl
  | blank pos c r l hb k ih =>
    intro l' h'
    cases h' with
    | blank _ _ _ _ _ k' => exact ih k'
    | rem _ _ _ _ h1 => rw [hb] at h1; cases h1
    | tok _ _ _ _ _ h1 => rw [hb] at h1; cases h1
  | rem pos c r l hb h2 k ih =>
    intro l' h'
    cases h' with
    | blank _ _ _ _ h1 k' => rw [hb] at h1; cases h1
    | rem _ _ _ _ h1 _ k' => exact ih k'
    | tok _ _ _ _ _ h1 h3 => rw [h2] at h3; cases h3
  | tok pos c r t l hb h2 ht k ih =>
    intro l' h'
    cases h' with
    | blank _ _ _ _ h1 k' => rw [hb] at h1; cases h1
    | rem _ _ _ _ h1 h3 => rw [h2] at h3; cases h3
    | tok _ _ _ t' l' h1 h3 ht' k' =>
      rw [ht] at ht'
      cases ht'
      rw [ih k']
theorem Lx.len {pos : Nat} {s : Str} {l : List Tok} (h : Lx pos s l) : l.length ≤ s.length := by
  induction h with
  | nil pos => exact Nat.le_refl _
  | blank pos c r l hb k ih => simp only [List.length_cons]; omega
  | rem pos c r l hb h2 k ih => rw [List.length_drop] at ih; omega
  | tok pos c r t l hb h2 ht k ih =>
    obtain ⟨_, hp, _⟩ := tokE_text ht
    have := tokE_ln ht
    rw [List.length_drop] at ih
    simp only [List.length_cons] at ih this ⊢
    omega

/-- Two programs have one text just if they are the same. -/
theorem text_inj {p q : Pg} (hp : p.may = true) (hpr : p.rng) (hps : p.size < 1000000) (hq : q.may = true) (hqr : q.rng) (hqs : q.size < 1000000) (h : textS p = textS q) : p = q := by
  obtain ⟨L, a1, a2, a3, a4⟩ := text_as hp hpr hps
  obtain ⟨M, b1, b2, b3, b4⟩ := text_as hq hqr hqs
  rw [← h] at b1
  have e : L = M := a1.det b1
  subst e
  have hlen := a1.len
  have hG := may_PrG hp hpr
  have hl1 := globsS_len hG.globals
  have hl2 := procsS_len hG.procs
  have hb : L.length < 999999999 := by
    have : (textS p).length = (globsS p.globals).length + (procsS p.procs).length := by simp [textS]
    simp only [Pg.size] at hps
    omega
  have hA : At (rd0 (L ++ [tEnd 0])) (L ++ [tEnd 0]) := ⟨rfl, rfl, by simp [rd0]; omega⟩
  obtain ⟨n1, e1⟩ := a4 _ (tEnd 0) (3 * L.length + 31) hA rfl rfl (by omega)
  obtain ⟨n2, e2⟩ := b4 _ (tEnd 0) (3 * L.length + 31) hA rfl rfl (by omega)
  rw [e1] at e2
  have : p.z = q.z := by
    have := Option.some.inj e2
    exact (Prod.mk.inj this).1
  rw [← a3, ← b3, this]

end Go.Abs

/-! BeqEq -/

namespace Go.Abs
set_option linter.unusedSimpArgs false
set_option linter.unusedVariables false

theorem eqTs_eq : ∀ l l' : List Str, l.length = l'.length → eqTs l l' = true → l = l'
  | [], [], _, _ => rfl
  | [], _ :: _, h, _ => by simp at h
  | _ :: _, [], h, _ => by simp at h
  | x :: l, y :: l', h, e => by
    simp only [eqTs] at e
    split at e
    · cases e
    · rename_i hc
      have hxy : x = y := by simpa using hc
      rw [hxy, eqTs_eq l l' (by simpa using h) e]
theorem eqT_eq {l l' : List Str} (h : eqT l l' = true) : l = l' := by
  unfold eqT at h
  split at h
  · cases h
  · rename_i hc
    exact eqTs_eq l l' (by simp at hc; omega) h
theorem Ar.beqs_eq : ∀ l l' : List Ar, l.length = l'.length → Ar.beqs l l' = true → l = l'
  | [], [], _, _ => rfl
  | [], _ :: _, h, _ => by simp at h
  | _ :: _, [], h, _ => by simp at h
  | ⟨a1, a2, a3⟩ :: l, ⟨b1, b2, b3⟩ :: l', h, e => by
    simp only [Ar.beqs] at e
    split at e
    · cases e
    · rename_i hc
      simp only [Bool.or_eq_true, Bool.not_eq_true', not_or, Bool.not_eq_false, beq_iff_eq] at hc
      rw [hc.1.1, hc.1.2, Ex.beq_eq _ _ hc.2, Ar.beqs_eq l l' (by simpa using h) e]
mutual
theorem Sm.beq_eq : ∀ s t : Sm, Sm.beq s t = true → s = t
  | ⟨id, kind, labels, name, proc, x, has, args, thn, els⟩, ⟨id', kind', labels', name', proc', x', has', args', thn', els'⟩, h => by
    simp only [Sm.beq] at h
    split at h
    · cases h
    rename_i c1
    split at h
    · cases h
    rename_i c2
    simp only [Bool.or_eq_true, Bool.not_eq_true', not_or, Bool.not_eq_false, beq_iff_eq, bne_iff_ne, ne_eq, Decidable.not_not] at c1 c2
    obtain ⟨⟨⟨⟨⟨⟨⟨h1, h2⟩, h3⟩, h4⟩, h5⟩, h6⟩, h7⟩, h8⟩ := c1
    cases hA : ((thn.length : Int) != (thn'.length : Int)) with
    | true => rw [hA] at h; simp at h
    | false =>
      cases hC : ((els.length : Int) != (els'.length : Int)) with
      | true => rw [hA, hC] at h; simp at h
      | false =>
        rw [hA, hC] at h
        simp only [Bool.false_eq_true, ↓reduceIte] at h
        simp only [bne_eq_false_iff_eq] at hA hC
        split at h
        · rename_i hB
          rw [h1, h2, h3, h4, h5, eqT_eq h6, Ex.beq_eq _ _ h7, Ar.beqs_eq _ _ (by omega) c2, Sm.beqs_eq thn thn' (by omega) hB, Sm.beqs_eq els els' (by omega) h]
        · cases h
theorem Sm.beqs_eq : ∀ l l' : List Sm, l.length = l'.length → Sm.beqs l l' = true → l = l'
  | [], [], _, _ => rfl
  | [], _ :: _, h, _ => by simp at h
  | _ :: _, [], h, _ => by simp at h
  | x :: l, y :: l', h, e => by
    simp only [Sm.beqs] at e
    split at e
    · cases e
    · rename_i hc
      rw [Sm.beq_eq x y (by simpa using hc), Sm.beqs_eq l l' (by simpa using h) e]
end
theorem Sm.beqL_eq {l l' : List Sm} (h : Sm.beqL l l' = true) : l = l' := by
  unfold Sm.beqL at h
  split at h
  · cases h
  · rename_i hc
    exact Sm.beqs_eq l l' (by simp at hc; omega) h
theorem Pm.beqs_eq : ∀ l l' : List Pm, l.length = l'.length → Pm.beqs l l' = true → l = l'
  | [], [], _, _ => rfl
  | [], _ :: _, h, _ => by simp at h
  | _ :: _, [], h, _ => by simp at h
  | ⟨a1, a2⟩ :: l, ⟨b1, b2⟩ :: l', h, e => by
    simp only [Pm.beqs] at e
    split at e
    · cases e
    · rename_i hc
      simp only [Bool.not_eq_true', Bool.not_eq_false, Bool.and_eq_true, beq_iff_eq] at hc
      rw [hc.1, hc.2, Pm.beqs_eq l l' (by simpa using h) e]
theorem Pc.beqs_eq : ∀ l l' : List Pc, l.length = l'.length → Pc.beqs l l' = true → l = l'
  | [], [], _, _ => rfl
  | [], _ :: _, h, _ => by simp at h
  | _ :: _, [], h, _ => by simp at h
  | ⟨a1, a2, a3, a4, a5⟩ :: l, ⟨b1, b2, b3, b4, b5⟩ :: l', h, e => by
    simp only [Pc.beqs] at e
    split at e
    · cases e
    rename_i c1
    split at e
    · cases e
    rename_i c2
    simp only [Bool.or_eq_true, Bool.not_eq_true', not_or, Bool.not_eq_false, beq_iff_eq, bne_iff_ne, ne_eq, Decidable.not_not] at c1 c2
    obtain ⟨⟨⟨⟨h1, h2⟩, h3⟩, h4⟩, h5⟩ := c1
    rw [h1, Pm.beqs_eq a2 b2 (by omega) c2, eqT_eq h3, eqT_eq h4, Sm.beqL_eq h5, Pc.beqs_eq l l' (by simpa using h) e]
theorem Pg.beq_eq {p q : Pg} (h : Pg.beq p q = true) : p = q := by
  obtain ⟨a, b⟩ := p
  obtain ⟨c, d⟩ := q
  unfold Pg.beq at h
  split at h
  · cases h
  · rename_i hc
    simp only [Bool.or_eq_true, Bool.not_eq_true', not_or, Bool.not_eq_false, bne_iff_ne, ne_eq, Decidable.not_not] at hc
    rw [eqT_eq hc.1, Pc.beqs_eq b d (by have := hc.2; omega) h]

end Go.Abs

/-! LawPr3 -/

namespace Go.Abs

set_option maxRecDepth 8000
set_option linter.unusedSimpArgs false
set_option linter.unusedVariables false
open Go.Proofs

theorem printSame_s {p q : Pg} (hp : p.rng) (hq : q.rng) (s : St) : Fun Tryd.prog n_law5_PrintSame [.agg (encPg p), .agg (encPg q)] s (.bool true) s := by
  refine Fun.pure ?_ (by simp only [D.oks, D.ok, okPg]; rfl) rfl s
  have h0 := fun s => printed5_s s
  have hf := fun s => Fits_s p s
  have hg := fun s => Fits_s q s
  unfold S0
  cases c : decide (p.weigh ≤ 20000) with
  | false =>
    refine Fun.go has_law5_PrintSame rfl fun B Q hB hQ => ?_
    have hlt : 0 < 1 := Nat.zero_lt_one
    have hget : 0 < 1 := Nat.zero_lt_one
    have hpu : 0 < 1 := Nat.zero_lt_one
    have hinc : 0 < 1 := Nat.zero_lt_one
    repeat' (first
 | simp only [go_sem, hlt, hget, hpu, hinc, Int.reduceLE, ↓reduceIte, reduceCtorEq, Nat.reduceEqDiff, Nat.reduceLeDiff, Nat.reduceAdd, Nat.reduceMul, Nat.reduceSub, Nat.reduceLT, c]
 | (with_reducible refine CU (h0 _) ?_)
 | (with_reducible refine CU (hf _) ?_)
 | (with_reducible first | refine CB_ofT (by assumption) fun hc => ?_ | refine CB_ofF (by assumption) fun hc => ?_ | refine CB_split (fun hc => ?_) fun hc => ?_) <;> (try simp only [hc, bs, ↓reduceIte] at h) <;> (try simp only [hc])
 | ((with_reducible first | refine leafR hQ ?_ | refine leafN hQ ?_); (try cases h); simp only [resL, oneD, Option.some.injEq, exists_eq_left', go_sem, hlt, hget, hpu, hinc, Int.reduceLE, ↓reduceIte, reduceCtorEq, Nat.reduceEqDiff, Nat.reduceLeDiff, Nat.reduceAdd, Nat.reduceMul, Nat.reduceSub, Nat.reduceLT, c]; repeat' (first | exact Ok.out | with_reducible refine And.intro ?_ ?_ | (simp; done)))
 | (cases h; replace h := hr; clear hr; (try simp only [bs, ↓reduceIte] at h))
 | (cases h; done))
  | true =>
  cases d : decide (q.weigh ≤ 20000) with
  | false =>
    refine Fun.go has_law5_PrintSame rfl fun B Q hB hQ => ?_
    have hlt : 0 < 1 := Nat.zero_lt_one
    have hget : 0 < 1 := Nat.zero_lt_one
    have hpu : 0 < 1 := Nat.zero_lt_one
    have hinc : 0 < 1 := Nat.zero_lt_one
    repeat' (first
 | simp only [go_sem, hlt, hget, hpu, hinc, Int.reduceLE, ↓reduceIte, reduceCtorEq, Nat.reduceEqDiff, Nat.reduceLeDiff, Nat.reduceAdd, Nat.reduceMul, Nat.reduceSub, Nat.reduceLT, c, d]
 | (with_reducible refine CU (h0 _) ?_)
 | (with_reducible refine CU (hf _) ?_)
 | (with_reducible refine CU (hg _) ?_)
 | (with_reducible first | refine CB_ofT (by assumption) fun hc => ?_ | refine CB_ofF (by assumption) fun hc => ?_ | refine CB_split (fun hc => ?_) fun hc => ?_) <;> (try simp only [hc, bs, ↓reduceIte] at h) <;> (try simp only [hc])
 | ((with_reducible first | refine leafR hQ ?_ | refine leafN hQ ?_); (try cases h); simp only [resL, oneD, Option.some.injEq, exists_eq_left', go_sem, hlt, hget, hpu, hinc, Int.reduceLE, ↓reduceIte, reduceCtorEq, Nat.reduceEqDiff, Nat.reduceLeDiff, Nat.reduceAdd, Nat.reduceMul, Nat.reduceSub, Nat.reduceLT, c, d]; repeat' (first | exact Ok.out | with_reducible refine And.intro ?_ ?_ | (simp; done)))
 | (cases h; replace h := hr; clear hr; (try simp only [bs, ↓reduceIte] at h))
 | (cases h; done))
  | true =>
    obtain ⟨hs, hP⟩ := weigh_fits (of_decide_eq_true c)
    obtain ⟨ht, hQ⟩ := weigh_fits (of_decide_eq_true d)
    have m1 := fun s => May_s (fineP_fine hP) s
    have m2 := fun s => May_s (fineP_fine hQ) s
    cases c2 : p.may with
    | false =>
      refine Fun.go has_law5_PrintSame rfl fun B Q hB hQ => ?_
      have hlt : 0 < 1 := Nat.zero_lt_one
      have hget : 0 < 1 := Nat.zero_lt_one
      have hpu : 0 < 1 := Nat.zero_lt_one
      have hinc : 0 < 1 := Nat.zero_lt_one
      repeat' (first
 | simp only [go_sem, hlt, hget, hpu, hinc, Int.reduceLE, ↓reduceIte, reduceCtorEq, Nat.reduceEqDiff, Nat.reduceLeDiff, Nat.reduceAdd, Nat.reduceMul, Nat.reduceSub, Nat.reduceLT, c, d, c2]
 | (with_reducible refine CU (h0 _) ?_)
 | (with_reducible refine CU (hf _) ?_)
 | (with_reducible refine CU (hg _) ?_)
 | (with_reducible refine CU (m1 _) ?_)
 | (with_reducible first | refine CB_ofT (by assumption) fun hc => ?_ | refine CB_ofF (by assumption) fun hc => ?_ | refine CB_split (fun hc => ?_) fun hc => ?_) <;> (try simp only [hc, bs, ↓reduceIte] at h) <;> (try simp only [hc])
 | ((with_reducible first | refine leafR hQ ?_ | refine leafN hQ ?_); (try cases h); simp only [resL, oneD, Option.some.injEq, exists_eq_left', go_sem, hlt, hget, hpu, hinc, Int.reduceLE, ↓reduceIte, reduceCtorEq, Nat.reduceEqDiff, Nat.reduceLeDiff, Nat.reduceAdd, Nat.reduceMul, Nat.reduceSub, Nat.reduceLT, c, d, c2]; repeat' (first | exact Ok.out | with_reducible refine And.intro ?_ ?_ | (simp; done)))
 | (cases h; replace h := hr; clear hr; (try simp only [bs, ↓reduceIte] at h))
 | (cases h; done))
    | true =>
    cases d2 : q.may with
    | false =>
      refine Fun.go has_law5_PrintSame rfl fun B Q hB hQ => ?_
      have hlt : 0 < 1 := Nat.zero_lt_one
      have hget : 0 < 1 := Nat.zero_lt_one
      have hpu : 0 < 1 := Nat.zero_lt_one
      have hinc : 0 < 1 := Nat.zero_lt_one
      repeat' (first
 | simp only [go_sem, hlt, hget, hpu, hinc, Int.reduceLE, ↓reduceIte, reduceCtorEq, Nat.reduceEqDiff, Nat.reduceLeDiff, Nat.reduceAdd, Nat.reduceMul, Nat.reduceSub, Nat.reduceLT, c, d, c2, d2]
 | (with_reducible refine CU (h0 _) ?_)
 | (with_reducible refine CU (hf _) ?_)
 | (with_reducible refine CU (hg _) ?_)
 | (with_reducible refine CU (m1 _) ?_)
 | (with_reducible refine CU (m2 _) ?_)
 | (with_reducible first | refine CB_ofT (by assumption) fun hc => ?_ | refine CB_ofF (by assumption) fun hc => ?_ | refine CB_split (fun hc => ?_) fun hc => ?_) <;> (try simp only [hc, bs, ↓reduceIte] at h) <;> (try simp only [hc])
 | ((with_reducible first | refine leafR hQ ?_ | refine leafN hQ ?_); (try cases h); simp only [resL, oneD, Option.some.injEq, exists_eq_left', go_sem, hlt, hget, hpu, hinc, Int.reduceLE, ↓reduceIte, reduceCtorEq, Nat.reduceEqDiff, Nat.reduceLeDiff, Nat.reduceAdd, Nat.reduceMul, Nat.reduceSub, Nat.reduceLT, c, d, c2, d2]; repeat' (first | exact Ok.out | with_reducible refine And.intro ?_ ?_ | (simp; done)))
 | (cases h; replace h := hr; clear hr; (try simp only [bs, ↓reduceIte] at h))
 | (cases h; done))
    | true =>
      have h1 := fun s => pText_s hP (fun h => may_PrG (by rw [← mayP_eq]; exact h) hp) (by omega) s
      have h2 := fun s => pText_s hQ (fun h => may_PrG (by rw [← mayP_eq]; exact h) hq) (by omega) s
      rw [if_pos c2] at h1
      rw [if_pos d2] at h2
      have he := fun s => Eq_s (a := p) (b := q) (by omega) s
      have key : (textS p == textS q) = Pg.beq p q := by
        cases hb : Pg.beq p q with
        | true => rw [Pg.beq_eq hb]; exact beq_self_eq_true _
        | false =>
          cases ht : textS p == textS q with
          | false => rfl
          | true =>
            have := text_inj c2 hp (by omega) d2 hq (by omega) (by simpa using ht)
            rw [this, Pg.beq_refl] at hb
            cases hb
      have b1 : (Pg.beq p q == Pg.beq p q) = true := beq_self_eq_true _
      generalize textS p = T1 at *
      generalize textS q = T2 at *
      generalize Pg.beq p q = b at *
      refine Fun.go has_law5_PrintSame rfl fun B Q hB hQ => ?_
      have hlt : 0 < 1 := Nat.zero_lt_one
      have hget : 0 < 1 := Nat.zero_lt_one
      have hpu : 0 < 1 := Nat.zero_lt_one
      have hinc : 0 < 1 := Nat.zero_lt_one
      repeat' (first
 | simp only [go_sem, hlt, hget, hpu, hinc, Int.reduceLE, ↓reduceIte, reduceCtorEq, Nat.reduceEqDiff, Nat.reduceLeDiff, Nat.reduceAdd, Nat.reduceMul, Nat.reduceSub, Nat.reduceLT, c, d, c2, d2, key, b1]
 | (with_reducible refine CU (h0 _) ?_)
 | (with_reducible refine CU (hf _) ?_)
 | (with_reducible refine CU (hg _) ?_)
 | (with_reducible refine CU (m1 _) ?_)
 | (with_reducible refine CU (m2 _) ?_)
 | (with_reducible refine CU (h1 _) ?_)
 | (with_reducible refine CU (h2 _) ?_)
 | (with_reducible refine CU (he _) ?_)
 | (with_reducible first | refine CB_ofT (by assumption) fun hc => ?_ | refine CB_ofF (by assumption) fun hc => ?_ | refine CB_split (fun hc => ?_) fun hc => ?_) <;> (try simp only [hc, bs, ↓reduceIte] at h) <;> (try simp only [hc])
 | ((with_reducible first | refine leafR hQ ?_ | refine leafN hQ ?_); (try cases h); simp only [resL, oneD, Option.some.injEq, exists_eq_left', go_sem, hlt, hget, hpu, hinc, Int.reduceLE, ↓reduceIte, reduceCtorEq, Nat.reduceEqDiff, Nat.reduceLeDiff, Nat.reduceAdd, Nat.reduceMul, Nat.reduceSub, Nat.reduceLT, c, d, c2, d2, key, b1]; repeat' (first | exact Ok.out | with_reducible refine And.intro ?_ ?_ | (simp; done)))
 | (cases h; replace h := hr; clear hr; (try simp only [bs, ↓reduceIte] at h))
 | (cases h; done))

end Go.Abs

/-! Glue2 -/

namespace Go.Abs

def M0 : Map := ⟨fun _ _ => none, fun _ => (0, none), fun _ => none⟩

/-- Of what was there nothing turns. -/
def Kept (w w' : World) : Prop := w.keptBut w' (fun _ => False) ∧ ∀ a : Addr, a.block < w.heap.size → w'.frozen? a = w.frozen? a

theorem Kept.frame {w w' : World} (h : Kept w w') (may : MemPlace → Prop) : w.keptBut w' may := World.keptBut_mono (fun _ f => f.elim) h.1

theorem Ext.toKept {M M' : Map} {s' : St} {w w' : World} (e : Ext M S0 w M' s' w') : Kept w w' := by
  have hh : ∀ b, b < w.heap.size → w'.heap[b]? = w.heap[b]? := fun b hb =>
    e.kept b hb (fun o ho => by simp [S0] at ho) (fun t c z hl => by obtain ⟨n, hn⟩ := hl; simp [S0] at hn)
  refine ⟨⟨e.os, e.output, fun i hi => ?_⟩, fun a ha => ?_⟩
  · rw [hh i hi]
    exact (World.keptBut_refl w (fun _ => False)).2.2 i hi
  · simp only [World.frozen?, hh _ ha]

theorem rel0 (G : Nat → Nat → Option Value) (w : World) (h : ∀ b o v, G b o = some v → w.cell? ⟨b, o, none⟩ = some v ∧ v.oneCell' = true) : Rel ⟨G, fun _ => (0, none), fun _ => none⟩ S0 w :=
  ⟨h, fun o ds e => by simp [S0] at e, fun o ho => by simp [S0] at ho, fun o o' ho => by simp [S0] at ho, fun t n e => by simp [S0] at e,
    fun t b c z o hl => by obtain ⟨n, hn⟩ := hl; simp [S0] at hn, fun t t' b c z c' z' hl => by obtain ⟨n, hn⟩ := hl; simp [S0] at hn⟩

/-- The listed variables hold what they hold, in a world. -/
def LaidW (w : World) : Prop := ∀ g cs, tabs g = some cs → ∃ T fr, w.heap[g]? = some (.cells cs T fr)
theorem laid0 (G : Nat → Nat → Option Value) {w : World} (h : LaidW w) : Laid ⟨G, fun _ => (0, none), fun _ => none⟩ S0 w :=
  fun g cs hg => ⟨h g cs hg, fun o ho => by simp [S0] at ho, fun t c z hl => by obtain ⟨n, hn⟩ := hl; simp [S0] at hn⟩

/-- A law is called. -/
theorem law_calls {P : Program} {f : FuncId} {args : List D} {vargs : Array Value} {w : World} {G : Nat → Nat → Option Value} (h : ACalls P f args S0 fun d _ => d = .bool true)
    (hG : ∀ b o v, G b o = some v → w.cell? ⟨b, o, none⟩ = some v ∧ v.oneCell' = true) (hl : vargs.size = args.length)
    (ha : ∀ (i : Nat) (d : D) (v : Value), args[i]? = some d → vargs[i]? = some v → RD ⟨G, fun _ => (0, none), fun _ => none⟩ S0 d v) (hlaid : LaidW w) :
    Calls P f vargs w fun e w' => e = .returned (.bool true) ∧ Kept w w' := by
  refine (h _ w vargs (rel0 G w hG) (laid0 G hlaid) hl ha).mono fun e w' hw => ?_
  obtain ⟨M', d, v, s', rfl, rfl, he, _, hv⟩ := hw
  rw [hv.bool_inv]
  exact ⟨rfl, he.toKept⟩

section
variable {P : Program} {H : Type} {enc : TypeId × Value → H}

/-- The row's closing condition, where nothing turns of what was there. -/
theorem post_of_kept {f : Func} {s : ChangeSpec} {apart fresh handsOn again : Bool} {W W' : World} {args : Array Value} {v : Value} {ds gs : List (DataW H)} {before pa pv : List MemPlace}
    (hW : DataW.Whole enc P f.params.toList s.vars apart W args.toList ds gs before)
    (hres : ∀ (b : Nat) (sp : Nat → Bool) (hd : Bool), DataW.TrodAll enc P W' b sp hd f.resultTypes.toList (v.resultList f.resultTypes.size) (s.fn H (ds ++ gs)).results [])
    (hargs : ∀ sp : Nat → Bool, (∀ p ∈ before, sp p.block = true) → DataW.TrodAll enc P W' 0 sp true f.params.toList args.toList (s.fn H (ds ++ gs)).args pa)
    (hvars : ∀ sp : Nat → Bool, (∀ p ∈ before, sp p.block = true) → DataW.TrodVars enc P W' sp s.vars (s.fn H (ds ++ gs)).vars pv)
    (hps : before = pa ++ pv) (hk : Kept W W')
    (hok : ∀ (j : Nat) (t : TypeId) (r : Value), f.resultTypes[j]? = some t → (v.resultList f.resultTypes.size)[j]? = some r → Value.okWide P W' .any 0 t r) :
    s.post enc P f apart fresh handsOn again W args v W' := by
  have hlt : ∀ p ∈ before, p.block < W.heap.size := fun p hp => hW.lt p hp
  have hold : ∀ p ∈ before, (fun b => decide (b < W.heap.size)) p.block = true := fun p hp => by simpa using hlt p hp
  refine ⟨ds, gs, before, [], pa, pv, hW, hres _ _ _, hargs _ hold, hvars _ hold, World.keptBut_mono (fun p hp => ⟨hp, ?_⟩) (hk.frame (· ∈ before)), fun _ => ?_⟩
  · rw [hps, List.mem_append] at hp
    exact Or.inr hp
  · obtain ⟨_, _, _, _, _, hz, hn⟩ := hW
    refine ⟨hok, _, _, ([] ++ pa) ++ pv, ⟨[] ++ pa, pv, ChangeShapes.trodAll_append (hargs _ (fun _ _ => rfl)) (hres _ _ _), hvars _ (fun _ _ => rfl), rfl, ?_, ?_⟩, ?_⟩
    · intro b off hp
      have hp' : MemPlace.cell b off ∈ before := by rw [hps]; simpa using hp
      rw [hk.2 _ (hlt _ hp')]
      exact hz b off hp'
    · intro ha
      have := hn ha
      rw [hps] at this
      simpa using this
    · intro p hp _
      rw [hps]
      simpa using hp
end
end Go.Abs

/-! Join -/

namespace Go.Abs
open Go.RowKit Go.ChangeShapes Go.WideShapes

/-- All that can be read. -/
def memG (w : World) (b o : Nat) : Option Value :=
  match w.cell? ⟨b, o, none⟩ with
  | some v => if v.oneCell' = true then some v else none
  | none => none
theorem memG_ok {w : World} (b o : Nat) (v : Value) (h : memG w b o = some v) : w.cell? ⟨b, o, none⟩ = some v ∧ v.oneCell' = true := by
  unfold memG at h
  split at h
  · split at h
    · cases h; exact ⟨‹_›, ‹_›⟩
    · cases h
  · cases h
/-- All of it is fixed. -/
def memM (w : World) : Map := ⟨memG w, fun _ => (0, none), fun _ => none⟩

theorem Kept.sameAt {w w' : World} (h : Kept w w') {p : MemPlace} (hp : p.block < w.heap.size) : w.sameAt w' p := by
  have hk := h.1.2.2 p.block hp
  cases p with
  | cell b off =>
    simp only [MemPlace.block] at hk hp
    simp only [World.sameAt, World.cell?]
    split at hk
    · rename_i c t fr c' t' fr' e e'
      rw [e, e']
      simp only [hk.2.2.2 off (fun f => f)]
    · rename_i es clock es' clock' e e'
      rw [e, e']
    · rw [hk]
  | map b =>
    simp only [MemPlace.block] at hk hp
    simp only [World.sameAt]
    split at hk
    · rename_i c t fr c' t' fr' e e'
      rw [e, e']
      obtain ⟨rfl, rfl, hs, hc⟩ := hk
      have : c' = c := by
        apply Array.ext_getElem?
        intro i
        exact hc i (fun f => f)
      rw [this]
    · rename_i es clock es' clock' e e'
      rcases hk with f | ⟨rfl, rfl⟩
      · exact f.elim
      · rw [e, e']
    · exact hk

section
variable {P : Program} {H : Type} {enc : TypeId × Value → H} {T : TypeId → Prop}

theorem args_again (K : Kids P T) (hz : ∀ {t e : TypeId}, T t → P.underlying t = some (.slice e) → 0 < P.cellsOf e) {W W' : World} (hk : Kept W W') {sp : Nat → Bool} :
    ∀ {ts : List TypeId} {vs : List Value} {ds : List (DataW H)} {ps : List MemPlace}, (∀ t ∈ ts, T t) → (∀ p ∈ ps, p.block < W.heap.size) → (∀ p ∈ ps, sp p.block = true) →
      DataW.TrodAll enc P W 0 (fun _ => true) true ts vs ds ps → DataW.TrodAll enc P W' 0 sp true ts vs ds ps
  | [], [], [], _, _, _, _, h => h
  | t :: ts, v :: vs, d :: ds, ps, hT, hlt, hs, ⟨p, q, ⟨n, h1⟩, h2, e⟩ => by
    subst e
    refine ⟨p, q, ⟨n, DataW.trod_stays K hz (fun f => by cases f) (hT t (List.mem_cons_self ..)) h1 (fun x hx => hk.sameAt (hlt x (List.mem_append_left _ hx))) (fun x hx => hs x (List.mem_append_left _ hx))⟩, ?_, rfl⟩
    exact args_again K hz hk (fun t ht => hT t (List.mem_cons_of_mem _ ht)) (fun x hx => hlt x (List.mem_append_right _ hx)) (fun x hx => hs x (List.mem_append_right _ hx)) h2
  | [], [], _ :: _, _, _, _, _, h => h.elim
  | [], _ :: _, _, _, _, _, _, h => h.elim
  | _ :: _, [], _, _, _, _, _, h => h.elim
  | _ :: _, _ :: _, [], _, _, _, _, h => h.elim

/-- The row's closing condition. -/
theorem law_post (K : Kids P T) (hz : ∀ {t e : TypeId}, T t → P.underlying t = some (.slice e) → 0 < P.cellsOf e) {f : Func} {s : ChangeSpec} {apart fresh handsOn again : Bool} {tb : TypeId} {W W' : World} {args : Array Value} {ds gs : List (DataW H)} {before : List MemPlace}
    (hT : ∀ t ∈ f.params.toList, T t) (hb : P.underlying tb = some .bool) (hr : f.resultTypes = #[tb]) (hvars : s.vars = []) (hW : DataW.Whole enc P f.params.toList s.vars apart W args.toList ds gs before)
    (hfn : s.fn H (ds ++ gs) = { results := [.lit (.bool true)], args := ds }) (hk : Kept W W') : s.post enc P f apart fresh handsOn again W args (.bool true) W' := by
  have hW' := hW
  have hlt : ∀ p ∈ before, p.block < W.heap.size := fun p hp => hW.lt p hp
  obtain ⟨p, q, hA, hV, rfl, hfz, hnd⟩ := hW
  rw [hvars] at hV
  obtain ⟨rfl, rfl⟩ := trodVars_none hV
  simp only [List.append_nil] at hlt hfn
  refine post_of_kept (pa := p) (pv := []) hW' (fun b sp hd => ?_) (fun sp hsp => ?_) (fun sp hsp => ?_) rfl hk (ok_one hr rfl (okWide_bool_mk hb _))
  · rw [List.append_nil, hfn, hr]
    exact trodAll_cons_mk (shut_bool hb _) trodAll_mk0
  · rw [List.append_nil, hfn]
    simp only [List.append_nil] at hsp
    exact args_again K hz hk hT hlt hsp hA
  · rw [List.append_nil, hfn, hvars]
    rfl

/-- A law is called with arguments that can be read. -/
theorem law_run {f : FuncId} {args : List D} {vargs : Array Value} {w : World} (h : ACalls P f args S0 fun d _ => d = .bool true) (hl : vargs.size = args.length)
    (ha : ∀ (i : Nat) (d : D) (v : Value), args[i]? = some d → vargs[i]? = some v → RD (memM w) S0 d v) (hlaid : LaidW w) : Calls P f vargs w fun e w' => e = .returned (.bool true) ∧ Kept w w' :=
  law_calls (G := memG w) h memG_ok hl ha hlaid
end

end Go.Abs

/-! Join2 -/

namespace Go.Abs
set_option linter.unusedSimpArgs false
set_option linter.unusedVariables false
open Go.RowKit Go.ChangeShapes Go.WideShapes

end Go.Abs

/-! Join3 -/

namespace Go.Abs
set_option linter.unusedSimpArgs false
set_option linter.unusedVariables false
open Go.RowKit Go.ChangeShapes Go.WideShapes

/-- A row of cells is these. -/
def Rowed (W : World) (ds : List D) (cs : List Value) : Prop := ds.length = cs.length ∧ (∀ (i : Nat) (d : D) (v : Value), ds[i]? = some d → cs[i]? = some v → RD (memM W) S0 d v) ∧ ∀ v ∈ cs, v.oneCell' = true

theorem Rowed.one {W : World} {d : D} {v : Value} (h : RD (memM W) S0 d v) (hv : v.oneCell' = true) : Rowed W [d] [v] := by
  refine ⟨rfl, fun i d' v' h1 h2 => ?_, fun u hu => by simp at hu; subst hu; exact hv⟩
  cases i with
  | zero => simp at h1 h2; subst h1 h2; exact h
  | succ i => simp at h1
theorem Rowed.app {W : World} {ds ds' : List D} {cs cs' : List Value} (h : Rowed W ds cs) (h' : Rowed W ds' cs') : Rowed W (ds ++ ds') (cs ++ cs') := by
  obtain ⟨a1, a2, a3⟩ := h
  obtain ⟨b1, b2, b3⟩ := h'
  refine ⟨by simp [a1, b1], fun i d v h1 h2 => ?_, fun v hv => ?_⟩
  · by_cases hi : i < ds.length
    · rw [List.getElem?_append_left hi] at h1
      rw [List.getElem?_append_left (by omega)] at h2
      exact a2 i d v h1 h2
    · rw [List.getElem?_append_right (by omega)] at h1
      rw [List.getElem?_append_right (by omega), ← a1] at h2
      exact b2 _ d v h1 h2
  · rcases List.mem_append.1 hv with hv | hv
    · exact a3 v hv
    · exact b3 v hv
/-- A part, then the rest. -/
theorem Rowed.at {W : World} {ds ds' : List D} {cs : List Value} {o n : Nat} (h : Rowed W ds ((cs.drop o).take n)) (h' : Rowed W ds' (cs.drop (o + n))) : Rowed W (ds ++ ds') (cs.drop o) := by
  have e : cs.drop o = (cs.drop o).take n ++ cs.drop (o + n) := by rw [← List.drop_drop, List.take_append_drop]
  rw [e]
  exact h.app h'
theorem Rowed.end {W : World} {cs : List Value} {o : Nat} (h : cs.length = o) : Rowed W [] (cs.drop o) := by
  rw [← h, List.drop_length]
  exact ⟨rfl, fun i d v h => by simp at h, fun v hv => by cases hv⟩

section
variable {H : Type} {enc : TypeId × Value → H} {P : Program} {W : World} {sp : Nat → Bool}

def structOf (P : Program) (t : TypeId) : List (TypeId × Nat) :=
  match P.underlying t with
  | some (.struct fs) => fs.toList.map fun f => (f.type, f.offset)
  | _ => []

theorem struct_fields {t : TypeId} {l : List (TypeId × Nat)} {fuel : Nat} {cs : List Value} {x : DataW H × List MemPlace} (h : structOf P t = l) (hne : l ≠ []) (ht : DataW.trod enc P W 0 sp true fuel t cs = some x) :
    ∃ n, fuel = n + 1 ∧ cs.length = P.cellsOf t ∧ ∀ (i : Nat) (f : TypeId × Nat), l[i]? = some f → ∃ y, DataW.trod enc P W 0 sp true n f.1 ((cs.drop f.2).take (P.cellsOf f.1)) = some y := by
  unfold structOf at h
  split at h
  · rename_i fs hu
    obtain ⟨xs, n, e, _, hl, hlen, hf⟩ := DataW.trod_struct hu ht
    refine ⟨n, e, hl, fun i f hi => ?_⟩
    subst h
    rw [List.getElem?_map, Option.map_eq_some_iff] at hi
    obtain ⟨g, hg, rfl⟩ := hi
    have hg' : fs[i]? = some g := by simpa using hg
    have hi : i < xs.length := by rw [hlen]; exact (Array.getElem?_eq_some_iff.1 hg').1
    exact ⟨xs[i], by rw [hf i g hg', List.getElem?_eq_getElem hi]⟩
  · exact absurd h.symm hne

theorem structOf_some {t : TypeId} {l : List (TypeId × Nat)} (h : structOf P t = l) (hne : l ≠ []) : ∃ fs, P.underlying t = some (.struct fs) := by
  unfold structOf at h
  split at h
  · exact ⟨_, ‹_›⟩
  · exact absurd h.symm hne

theorem choose_list {α : Type} {Q : Nat → α → Prop} : ∀ n, (∀ i, i < n → ∃ y, Q i y) → ∃ ys : List α, ys.length = n ∧ ∀ i y, ys[i]? = some y → Q i y
  | 0, _ => ⟨[], rfl, fun i y h => by simp at h⟩
  | n + 1, h => by
    obtain ⟨ys, h1, h2⟩ := choose_list n fun i hi => h i (by omega)
    obtain ⟨y, hy⟩ := h n (by omega)
    refine ⟨ys ++ [y], by simp [h1], fun i z hz => ?_⟩
    by_cases hi : i < ys.length
    · rw [List.getElem?_append_left hi] at hz; exact h2 i z hz
    · rw [List.getElem?_append_right (by omega)] at hz
      have : i - ys.length = 0 := by
        rcases Nat.eq_zero_or_pos (i - ys.length) with h | h
        · exact h
        · rw [List.getElem?_eq_none (by simp only [List.length_cons, List.length_nil]; omega)] at hz; cases hz
      rw [this] at hz
      simp at hz
      subst hz
      have : i = n := by omega
      subst this
      exact hy

/-- A list of things that can be read. -/
theorem rd_slice {α : Type} (en : α → List D) (good : α → Prop) {z : Nat} {t e : TypeId} {fuel : Nat} {cs : List Value} {x : DataW H × List MemPlace} (ht : P.underlying t = some (.slice e)) (hz : P.cellsOf e = z) (hz0 : 0 < z) (hen : ∀ y, (en y).length = z)
    (hel : ∀ n < fuel, ∀ cs x, DataW.trod enc P W 0 sp true n e cs = some x → ∃ y, Rowed W (en y) cs ∧ good y) (h : DataW.trod enc P W 0 sp true fuel t cs = some x) :
    ∃ ys : List α, Rowed W [.slice .shared z (ys.map en)] cs ∧ ∀ y ∈ ys, good y := by
  rcases DataW.trod_slice ht h with ⟨rfl, _⟩ | ⟨a, len, cap, elems, rest, n, hn, rfl, _, hb, hl, hm, hlen, hcell, _, _⟩
  · exact ⟨[], Rowed.one (.snil _ _ _ rfl trivial) rfl, fun y hy => by cases hy⟩
  · by_cases h0 : len = 0
    · subst h0
      exact ⟨[], Rowed.one (.semp _ _ _) rfl, fun y hy => by cases hy⟩
    · obtain ⟨ys, hys, hall⟩ := choose_list (Q := fun i y => good y ∧ ∃ cs', W.cells? 0 (a.add (i * z)) z = some cs' ∧ Rowed W (en y) cs') len fun i hi => by
        have hc := hcell i hi
        rw [List.getElem?_eq_getElem (by omega), hz, Option.bind_eq_some_iff] at hc
        obtain ⟨cs', h1, h2⟩ := hc
        obtain ⟨y, h3, h4⟩ := hel n (by omega) _ _ h2
        exact ⟨y, h4, cs', h1, h3⟩
      have cell : ∀ i y, ys[i]? = some y → ∀ (j : Nat) d, (en y)[j]? = some d → ∃ v, W.cell? ((a.add (i * z)).add j) = some v ∧ RD (memM W) S0 d v ∧ v.oneCell' = true := by
        intro i y hy j d hd
        obtain ⟨_, cs', h1, h2, h3, h4⟩ := hall i y hy
        obtain ⟨_, k1, k2⟩ := World.cells?_some h1
        have hj : j < z := by rw [← hen y]; exact (List.getElem?_eq_some_iff.1 hd).1
        have hv : cs'[j]? = some cs'[j] := List.getElem?_eq_getElem (by omega)
        exact ⟨cs'[j], by rw [k2 j hj, hv], h3 j d _ hd hv, h4 _ (List.getElem_mem _)⟩
      obtain ⟨b, off, spot⟩ := a
      have hspot : spot = none := by
        have hy : ys[0]? = some (ys[0]'(by omega)) := List.getElem?_eq_getElem (by omega)
        obtain ⟨d, hd⟩ : ∃ d, (en (ys[0]'(by omega)))[0]? = some d := ⟨_, List.getElem?_eq_getElem (show 0 < (en (ys[0]'(by omega))).length by rw [hen]; exact hz0)⟩
        obtain ⟨v, hv, _⟩ := cell 0 _ hy 0 _ hd
        have := World.cell?_spot hv
        simpa [Addr.add] using this
      subst hspot
      have e : (ys.map en).length = len := by simp [hys]
      have := RD.slice (M := memM W) (s := S0) .shared z (ys.map en) b off cap (by omega) (fun row hr => by obtain ⟨y, _, rfl⟩ := List.mem_map.1 hr; exact hen y)
        (fun i row j d h1 h2 => by
          rw [List.getElem?_map, Option.map_eq_some_iff] at h1
          obtain ⟨y, h1, rfl⟩ := h1
          obtain ⟨v, hv, _, h4⟩ := cell i y h1 j d h2
          rw [add_plain, add_plain] at hv
          refine ⟨v, ?_⟩
          show memG W b (off + (i * z + j)) = _
          unfold memG
          rw [show off + (i * z + j) = off + i * z + j by omega, hv]
          simp [h4])
        (fun i row j d u h1 h2 hu => by
          rw [List.getElem?_map, Option.map_eq_some_iff] at h1
          obtain ⟨y, h1, rfl⟩ := h1
          obtain ⟨v, hv, h3, h4⟩ := cell i y h1 j d h2
          rw [add_plain, add_plain] at hv
          obtain ⟨hu, _⟩ := memG_ok _ _ _ hu
          rw [show off + (i * z + j) = off + i * z + j by omega, hv] at hu
          cases hu
          exact h3) trivial
      rw [e] at this
      refine ⟨ys, Rowed.one this rfl, fun y hy => ?_⟩
      obtain ⟨i, hi⟩ := List.getElem?_of_mem hy
      exact (hall i y hi).1

theorem rd_i64 {t : TypeId} {fuel : Nat} {cs : List Value} {x : DataW H × List MemPlace} (ht : P.underlying t = some (.int .i64)) (h : DataW.trod enc P W 0 sp true fuel t cs = some x) : ∃ n : Int, Rowed W [.int .i64 n] cs ∧ n ≤ 9223372036854775807 ∧ -9223372036854775808 ≤ n := by
  obtain ⟨n, rfl, _, hw⟩ := DataW.trod_int ht h
  simp [Lit.wf, IntKind.min, IntKind.max, IntKind.signed, IntKind.bits] at hw
  exact ⟨n, Rowed.one (.int _ _) rfl, by omega, by omega⟩
theorem rd_bool {t : TypeId} {fuel : Nat} {cs : List Value} {x : DataW H × List MemPlace} (ht : P.underlying t = some .bool) (h : DataW.trod enc P W 0 sp true fuel t cs = some x) : ∃ b : Bool, Rowed W [.bool b] cs := by
  obtain ⟨n, rfl, _⟩ := DataW.trod_bool ht h
  exact ⟨n, Rowed.one (.bool _) rfl⟩
theorem rd_str {t : TypeId} {fuel : Nat} {cs : List Value} {x : DataW H × List MemPlace} (ht : P.underlying t = some .string) (h : DataW.trod enc P W 0 sp true fuel t cs = some x) : ∃ s : Str, Rowed W (encStr s) cs ∧ s.length ≤ maxLen := by
  obtain ⟨s, rfl, _, hm⟩ := DataW.trod_string ht h
  obtain ⟨⟨l⟩⟩ := s
  exact ⟨l, Rowed.one (.str l) rfl, hm⟩

/-- Expressions. -/
theorem rd_ex {tE tI tN tS tK : TypeId} (hE : structOf P tE = [(tI, 0), (tN, 1), (tS, 2), (tK, 3)]) (hEc : P.cellsOf tE = 4) (hI : P.underlying tI = some (.int .i64)) (hN : P.underlying tN = some (.int .i64)) (hS : P.underlying tS = some .string) (hK : P.underlying tK = some (.slice tE))
    (cI : P.cellsOf tI = 1) (cN : P.cellsOf tN = 1) (cS : P.cellsOf tS = 1) (cK : P.cellsOf tK = 1) :
    ∀ (fuel : Nat) (cs : List Value) (x : DataW H × List MemPlace), DataW.trod enc P W 0 sp true fuel tE cs = some x → ∃ y : Ex, Rowed W (encEx y) cs ∧ y.rng := by
  intro fuel
  induction fuel using Nat.strongRecOn with
  | _ fuel ih =>
    intro cs x h
    obtain ⟨n, rfl, hl, hf⟩ := struct_fields hE (by simp) h
    obtain ⟨y0, h0⟩ := hf 0 _ rfl
    obtain ⟨y1, h1⟩ := hf 1 _ rfl
    obtain ⟨y2, h2⟩ := hf 2 _ rfl
    obtain ⟨y3, h3⟩ := hf 3 _ rfl
    dsimp only at h0 h1 h2 h3
    rw [cI] at h0
    rw [cN] at h1
    rw [cS] at h2
    rw [cK] at h3
    obtain ⟨op, r0, _⟩ := rd_i64 hI h0
    obtain ⟨m, r1, hm, _⟩ := rd_i64 hN h1
    obtain ⟨s, r2, _⟩ := rd_str hS h2
    obtain ⟨ks, r3, hg⟩ := rd_slice (W := W) encEx Ex.rng hK hEc (by decide) lenEx (fun k hk cs x hx => ih k (by omega) cs x hx) h3
    refine ⟨⟨op, m, s, ks⟩, ?_, hm, ?_⟩
    · have := r0.at (r1.at (r2.at (r3.at (Rowed.end (by rw [hl, hEc])))))
      rw [encEx_eq]
      simpa [encStr] using this
    · clear r3
      induction ks with
      | nil => exact trivial
      | cons k ks ihk => exact ⟨hg k (by simp), ihk fun y hy => hg y (by simp [hy])⟩

/-- Of a whole argument. -/
theorem Rowed.agg {ds : List D} {v : Value} (h : Rowed W ds v.cells.toList) (hv : ∃ vs, v = .agg vs) : RD (memM W) S0 (.agg ds) v := by
  obtain ⟨vs, rfl⟩ := hv
  obtain ⟨h1, h2, h3⟩ := h
  have e : (Value.agg vs).cells = vs := rfl
  rw [e] at h1 h2 h3
  refine .agg ds vs (by simpa using h1) (fun v hv => h3 v (by simpa using hv)) fun i d v hd hv => h2 i d v hd (by simpa using hv)
end

end Go.Abs

/-! Join4 -/

namespace Go.Abs
set_option linter.unusedSimpArgs false
set_option linter.unusedVariables false
open Go.Proofs Go.RowKit Go.ChangeShapes Go.WideShapes

section
variable {H : Type} {enc : TypeId × Value → H} {W : World} {sp : Nat → Bool}

theorem rdp_ex (fuel : Nat) (cs : List Value) (x : DataW H × List MemPlace) (h : DataW.trod enc Tryd.prog W 0 sp true fuel 31 cs = some x) : ∃ y : Ex, Rowed W (encEx y) cs ∧ y.rng :=
  rd_ex (tE := 31) (tI := 3) (tN := 2) (tS := 9) (tK := 29) (by kernel_rfl) (by kernel_rfl) (by kernel_rfl) (by kernel_rfl) (by kernel_rfl) (by kernel_rfl) (by kernel_rfl) (by kernel_rfl) (by kernel_rfl) (by kernel_rfl) _ _ _ h
theorem ut_strs : Tryd.prog.underlying 22 = some (.slice 9) := by kernel_rfl
theorem ut_str : Tryd.prog.underlying 9 = some .string := by kernel_rfl
theorem ut_int : Tryd.prog.underlying 3 = some (.int .i64) := by kernel_rfl
theorem ut_bool : Tryd.prog.underlying 4 = some .bool := by kernel_rfl
theorem ct_str : Tryd.prog.cellsOf 9 = 1 := by kernel_rfl
theorem ct_int : Tryd.prog.cellsOf 3 = 1 := by kernel_rfl
theorem ct_bool : Tryd.prog.cellsOf 4 = 1 := by kernel_rfl
theorem ct_strs : Tryd.prog.cellsOf 22 = 1 := by kernel_rfl
theorem ct_ex : Tryd.prog.cellsOf 31 = 4 := by kernel_rfl
theorem rdp_strs {fuel : Nat} {cs : List Value} {x : DataW H × List MemPlace} (h : DataW.trod enc Tryd.prog W 0 sp true fuel 22 cs = some x) : ∃ l : List Str, Rowed W [.slice .shared 1 (l.map encStr)] cs := by
  obtain ⟨l, h, _⟩ := rd_slice (W := W) encStr (fun _ => True) ut_strs ct_str (by decide) (fun _ => rfl) (fun k hk cs x hx => by
    obtain ⟨s, hs, _⟩ := rd_str ut_str hx
    exact ⟨s, hs, trivial⟩) h
  exact ⟨l, h⟩

theorem rdp_pm {fuel : Nat} {cs : List Value} {x : DataW H × List MemPlace} (h : DataW.trod enc Tryd.prog W 0 sp true fuel 60 cs = some x) : ∃ y : Pm, Rowed W (encPm y) cs := by
  obtain ⟨n, rfl, hl, hf⟩ := struct_fields (l := [(9, 0), (4, 1)]) (by kernel_rfl) (by simp) h
  have hc : Tryd.prog.cellsOf 60 = 2 := by kernel_rfl
  obtain ⟨y0, h0⟩ := hf 0 _ rfl
  obtain ⟨y1, h1⟩ := hf 1 _ rfl
  dsimp only at h0 h1
  rw [ct_str] at h0
  rw [ct_bool] at h1
  obtain ⟨s, r0, _⟩ := rd_str ut_str h0
  obtain ⟨b, r1⟩ := rd_bool ut_bool h1
  refine ⟨⟨s, b⟩, ?_⟩
  have := r0.at (r1.at (Rowed.end (by rw [hl, hc])))
  simpa [encStr, encPm] using this

theorem rdp_ar {fuel : Nat} {cs : List Value} {x : DataW H × List MemPlace} (h : DataW.trod enc Tryd.prog W 0 sp true fuel 98 cs = some x) : ∃ y : Ar, Rowed W (encAr y) cs ∧ y.x.rng := by
  obtain ⟨n, rfl, hl, hf⟩ := struct_fields (l := [(4, 0), (9, 1), (31, 2)]) (by kernel_rfl) (by simp) h
  have hc : Tryd.prog.cellsOf 98 = 6 := by kernel_rfl
  obtain ⟨y0, h0⟩ := hf 0 _ rfl
  obtain ⟨y1, h1⟩ := hf 1 _ rfl
  obtain ⟨y2, h2⟩ := hf 2 _ rfl
  dsimp only at h0 h1 h2
  rw [ct_bool] at h0
  rw [ct_str] at h1
  rw [ct_ex] at h2
  obtain ⟨b, r0⟩ := rd_bool ut_bool h0
  obtain ⟨s, r1, _⟩ := rd_str ut_str h1
  obtain ⟨e, r2, hr⟩ := rdp_ex _ _ _ h2
  refine ⟨⟨b, s, e⟩, ?_, hr⟩
  have := r0.at (r1.at (r2.at (Rowed.end (by rw [hl, hc]))))
  rw [encEx_eq] at this
  simpa [encStr, encAr] using this

theorem rngs_all : ∀ {l : List Sm}, (∀ s ∈ l, s.rng) → Sm.rngs l
  | [], _ => trivial
  | s :: l, h => ⟨h s (List.mem_cons_self ..), rngs_all fun t m => h t (List.mem_cons_of_mem _ m)⟩

theorem rdp_sm : ∀ (fuel : Nat) (cs : List Value) (x : DataW H × List MemPlace), DataW.trod enc Tryd.prog W 0 sp true fuel 57 cs = some x → ∃ y : Sm, Rowed W (encSm y) cs ∧ y.rng := by
  intro fuel
  induction fuel using Nat.strongRecOn with
  | _ fuel ih =>
    intro cs x h
    obtain ⟨n, rfl, hl, hf⟩ := struct_fields (l := [(3, 0), (3, 1), (22, 2), (9, 3), (9, 4), (31, 5), (4, 9), (55, 10), (36, 11), (36, 12)]) (by kernel_rfl) (by simp) h
    have hc : Tryd.prog.cellsOf 57 = 13 := by kernel_rfl
    have ca : Tryd.prog.cellsOf 55 = 1 := by kernel_rfl
    have cs' : Tryd.prog.cellsOf 36 = 1 := by kernel_rfl
    have ua : Tryd.prog.underlying 55 = some (.slice 98) := by kernel_rfl
    have us : Tryd.prog.underlying 36 = some (.slice 57) := by kernel_rfl
    have ca6 : Tryd.prog.cellsOf 98 = 6 := by kernel_rfl
    obtain ⟨y0, h0⟩ := hf 0 _ rfl
    obtain ⟨y1, h1⟩ := hf 1 _ rfl
    obtain ⟨y2, h2⟩ := hf 2 _ rfl
    obtain ⟨y3, h3⟩ := hf 3 _ rfl
    obtain ⟨y4, h4⟩ := hf 4 _ rfl
    obtain ⟨y5, h5⟩ := hf 5 _ rfl
    obtain ⟨y6, h6⟩ := hf 6 _ rfl
    obtain ⟨y7, h7⟩ := hf 7 _ rfl
    obtain ⟨y8, h8⟩ := hf 8 _ rfl
    obtain ⟨y9, h9⟩ := hf 9 _ rfl
    dsimp only at h0 h1 h2 h3 h4 h5 h6 h7 h8 h9
    rw [ct_int] at h0 h1
    rw [ct_strs] at h2
    rw [ct_str] at h3 h4
    rw [ct_ex] at h5
    rw [ct_bool] at h6
    rw [ca] at h7
    rw [cs'] at h8 h9
    obtain ⟨id, r0, _⟩ := rd_i64 ut_int h0
    obtain ⟨kind, r1, _⟩ := rd_i64 ut_int h1
    obtain ⟨labels, r2⟩ := rdp_strs h2
    obtain ⟨name, r3, _⟩ := rd_str ut_str h3
    obtain ⟨proc, r4, _⟩ := rd_str ut_str h4
    obtain ⟨e, r5, hr⟩ := rdp_ex _ _ _ h5
    obtain ⟨b, r6⟩ := rd_bool ut_bool h6
    obtain ⟨args, r7, ha⟩ := rd_slice (W := W) encAr (fun a => a.x.rng) ua ca6 (by decide) (fun _ => rfl) (fun k hk cs x hx => rdp_ar hx) h7
    obtain ⟨thn, r8, ht⟩ := rd_slice (W := W) encSm Sm.rng us hc (by decide) lenSm (fun k hk cs x hx => ih k (by omega) cs x hx) h8
    obtain ⟨els, r9, he⟩ := rd_slice (W := W) encSm Sm.rng us hc (by decide) lenSm (fun k hk cs x hx => ih k (by omega) cs x hx) h9
    refine ⟨⟨id, kind, labels, name, proc, e, b, args, thn, els⟩, ?_, hr, ha, rngs_all ht, rngs_all he⟩
    have := r0.at (r1.at (r2.at (r3.at (r4.at (r5.at (r6.at (r7.at (r8.at (r9.at (Rowed.end (by rw [hl, hc])))))))))))
    rw [encEx_eq] at this
    rw [encSm_eq]
    simpa [encStr] using this

theorem rdp_pc {fuel : Nat} {cs : List Value} {x : DataW H × List MemPlace} (h : DataW.trod enc Tryd.prog W 0 sp true fuel 38 cs = some x) : ∃ y : Pc, Rowed W (encPc y) cs ∧ Sm.rngs y.body := by
  obtain ⟨n, rfl, hl, hf⟩ := struct_fields (l := [(9, 0), (35, 1), (22, 2), (36, 3), (22, 4)]) (by kernel_rfl) (by simp) h
  have hc : Tryd.prog.cellsOf 38 = 5 := by kernel_rfl
  have cp : Tryd.prog.cellsOf 35 = 1 := by kernel_rfl
  have cs' : Tryd.prog.cellsOf 36 = 1 := by kernel_rfl
  have up : Tryd.prog.underlying 35 = some (.slice 60) := by kernel_rfl
  have us : Tryd.prog.underlying 36 = some (.slice 57) := by kernel_rfl
  have cp2 : Tryd.prog.cellsOf 60 = 2 := by kernel_rfl
  have cs13 : Tryd.prog.cellsOf 57 = 13 := by kernel_rfl
  obtain ⟨y0, h0⟩ := hf 0 _ rfl
  obtain ⟨y1, h1⟩ := hf 1 _ rfl
  obtain ⟨y2, h2⟩ := hf 2 _ rfl
  obtain ⟨y3, h3⟩ := hf 3 _ rfl
  obtain ⟨y4, h4⟩ := hf 4 _ rfl
  dsimp only at h0 h1 h2 h3 h4
  rw [ct_str] at h0
  rw [cp] at h1
  rw [ct_strs] at h2 h4
  rw [cs'] at h3
  obtain ⟨name, r0, _⟩ := rd_str ut_str h0
  obtain ⟨ps, r1, _⟩ := rd_slice (W := W) encPm (fun _ => True) up cp2 (by decide) (fun _ => rfl) (fun k hk cs x hx => by
    obtain ⟨y, hy⟩ := rdp_pm hx
    exact ⟨y, hy, trivial⟩) h1
  obtain ⟨vars, r2⟩ := rdp_strs h2
  obtain ⟨body, r3, hb⟩ := rd_slice (W := W) encSm Sm.rng us cs13 (by decide) lenSm (fun k hk cs x hx => rdp_sm k cs x hx) h3
  obtain ⟨fin, r4⟩ := rdp_strs h4
  refine ⟨⟨name, ps, vars, body, fin⟩, ?_, rngs_all hb⟩
  have := r0.at (r1.at (r2.at (r3.at (r4.at (Rowed.end (by rw [hl, hc]))))))
  simpa [encStr, encPc] using this

theorem rdp_pg {fuel : Nat} {cs : List Value} {x : DataW H × List MemPlace} (h : DataW.trod enc Tryd.prog W 0 sp true fuel 25 cs = some x) : ∃ y : Pg, Rowed W (encPg y) cs ∧ y.rng := by
  obtain ⟨n, rfl, hl, hf⟩ := struct_fields (l := [(22, 0), (23, 1)]) (by kernel_rfl) (by simp) h
  have hc : Tryd.prog.cellsOf 25 = 2 := by kernel_rfl
  have cp : Tryd.prog.cellsOf 23 = 1 := by kernel_rfl
  have up : Tryd.prog.underlying 23 = some (.slice 38) := by kernel_rfl
  have cp5 : Tryd.prog.cellsOf 38 = 5 := by kernel_rfl
  obtain ⟨y0, h0⟩ := hf 0 _ rfl
  obtain ⟨y1, h1⟩ := hf 1 _ rfl
  dsimp only at h0 h1
  rw [ct_strs] at h0
  rw [cp] at h1
  obtain ⟨globals, r0⟩ := rdp_strs h0
  obtain ⟨procs, r1, hp⟩ := rd_slice (W := W) encPc (fun f => Sm.rngs f.body) up cp5 (by decide) (fun _ => rfl) (fun k hk cs x hx => rdp_pc hx) h1
  refine ⟨⟨globals, procs⟩, ?_, hp⟩
  have := r0.at (r1.at (Rowed.end (by rw [hl, hc])))
  simpa [encPg] using this
end

end Go.Abs

/-! Laid5 -/

namespace Go.Proofs.YtcknbmdkefcinaaDoor
open Go.ChangeShapes Go.WideShapes Go.ChangeAt Go.RowKit Go.Abs
set_option linter.unusedVariables false

theorem own : ownKnob Tryd.prog.godebug = none := by kernel_rfl
theorem kids : Kids Tryd.prog (· < Tryd.prog.types.size) := kids_rows (by kernel_rfl) (by kernel_rfl)
theorem full : ∀ {t e : TypeId}, t < Tryd.prog.types.size → Tryd.prog.underlying t = some (.slice e) → 0 < Tryd.prog.cellsOf e := fun {t e} => slices_full_of Tryd.prog (by kernel_rfl) t e

/-- The variables that the rows list. -/
def laid3 : List (String × DataW Unit) := [("math/bits.deBruijn32tab", Rows.laid_math_bits_deBruijn32tab), ("math/bits.deBruijn64tab", Rows.laid_math_bits_deBruijn64tab), ("internal/strconv.uint64pow10", Rows.laid_internal_strconv_uint64pow10)]

theorem laid_pow : (Rows.laid_internal_strconv_uint64pow10 : DataW Unit) = Lib.tabData .u64 Lib.pow10Tab := by kernel_rfl

theorem laidW_of {W : World} (h : laidMetH Tryd.prog laid3 W) : LaidW W := by
  have h1 : laidMet Tryd.prog [("internal/strconv.uint64pow10", Lib.tabData .u64 Lib.pow10Tab)] W := by
    have := (laidMetH_iff.1 h).1.filter fun x => x.1 == "internal/strconv.uint64pow10"
    rw [← laid_pow]
    exact this
  have ht : Lib.TabIs Tryd.prog W "internal/strconv.uint64pow10" .u64 Lib.pow10Tab :=
    Lib.tabIs_of_head (g := gPow) (t := 159) (e := 135) (n := 20) (by kernel_rfl) (by kernel_rfl) (by kernel_rfl) (by kernel_rfl) (by kernel_rfl) (by kernel_rfl) h1
  have hg : Tryd.prog.globalNamed "internal/strconv.uint64pow10" = some gPow := by kernel_rfl
  unfold Lib.TabIs World.var? at ht
  rw [hg] at ht
  simp only [Option.bind_some] at ht
  intro g cs hcs
  unfold tabs at hcs
  split at hcs
  · rename_i hgg
    subst hgg
    cases hcs
    split at ht
    · rename_i cs' T fr e
      cases ht
      exact ⟨T, fr, e⟩
    · cases ht
  · cases hcs

/-- A table's cells. -/
def tabCells : DataW Unit → Array Value
  | .agg l => (l.map fun | .lit (.int k n) => Value.int k n | _ => .int .i64 0).toArray
  | _ => #[]
/-- A world in which the tables are laid. -/
noncomputable def laidWorld (os : Os) : World :=
  let w0 := World.holding Tryd.prog os ⟨#[], #[], []⟩
  let lay := fun (h : Array Obj) (g : Nat) (d : DataW Unit) => h.modify g fun
      | .cells _ t frozen => .cells (tabCells d) t frozen
      | o => o
  { w0 with heap := lay (lay (lay w0.heap 1 Rows.laid_internal_strconv_uint64pow10) 2 Rows.laid_math_bits_deBruijn32tab) 3 Rows.laid_math_bits_deBruijn64tab }
theorem laid_met (os : Os) (args : Array Value) : laidMetH Tryd.prog laid3 ((laidWorld os).forCall (fun _ _ => 0) ⟨#[], args, []⟩).memory :=
  laidMetH_iff.2 ⟨(LaidIn.of_run [2, 3, 1] 8 (by kernel_rfl) (by kernel_rfl) (by kernel_rfl) (by kernel_rfl)).met, fun x hx => by
    have : laid3.filter (fun x => x.2.handleName?.isSome) = [] := by kernel_rfl
    rw [this] at hx; cases hx⟩

end Go.Proofs.YtcknbmdkefcinaaDoor

/-! PrintSame -/

namespace Go.Proofs.YtcknbmdkefcinaaDoor.printSame
open Go.ChangeShapes Go.WideShapes Go.ChangeAt Go.RowKit Go.Abs
set_option linter.unusedVariables false

theorem walk (w : World) (hL : LaidW w) (x y : Pg) (hr : x.rng) (hs : y.rng) (v u : Value) (hv : RD (memM w) S0 (.agg (encPg x)) v) (hu : RD (memM w) S0 (.agg (encPg y)) u) : Calls Tryd.prog 5 #[v, u] w fun e w' => e = .returned (.bool true) ∧ Kept w w' := by
  refine law_run (args := [.agg (encPg x), .agg (encPg y)]) ((printSame_s hr hs S0).mono fun _ _ h => h.1) rfl ?_ hL
  intro i d v h1 h2
  match i, h1, h2 with
  | 0, h1, h2 => simp at h1 h2; subst h1 h2; exact hv
  | 1, h1, h2 => simp at h1 h2; subst h1 h2; exact hu

theorem trod_two {H : Type} {enc : TypeId × Value → H} {P : Program} {W : World} {sp : Nat → Bool} {t u : TypeId} {args : Array Value} {ds : List (DataW H)} {ps : List MemPlace} (h : DataW.TrodAll enc P W 0 sp true [t, u] args.toList ds ps) :
    ∃ v0 v1 d0 d1, args = #[v0, v1] ∧ ds = [d0, d1] ∧ (∃ p, DataW.Trod enc P W 0 sp true t v0 d0 p) ∧ ∃ p, DataW.Trod enc P W 0 sp true u v1 d1 p := by
  obtain ⟨l⟩ := args
  match l, ds, h with
  | [v0, v1], [d0, d1], ⟨p, q, h1, ⟨p', q', h2, h3, e'⟩, e⟩ => exact ⟨v0, v1, d0, d1, rfl, rfl, ⟨p, h1⟩, ⟨p', h2⟩⟩
  | [v0, v1], d0 :: d1 :: d2 :: r, ⟨p, q, h1, ⟨p', q', h2, h3, e'⟩, e⟩ => exact h3.elim
  | [v0, v1], [d0], ⟨p, q, h1, h2, e⟩ => exact h2.elim
  | v0 :: v1 :: v2 :: r, d0 :: d1 :: ds, ⟨p, q, h1, ⟨p', q', h2, h3, e'⟩, e⟩ => cases ds <;> exact h3.elim
  | [v0], d0 :: ds, ⟨p, q, h1, h2, e⟩ => cases ds <;> exact h2.elim
  | [], [], h => exact h.elim
  | [], _ :: _, h => exact h.elim
  | _ :: _, [], h => exact h.elim

set_option maxRecDepth 100000 in
theorem lifted (os : Os) (started : os.Started) (H : Type) (enc : TypeId × Value → H) :
    ReturnsInHanded {} Tryd.checked os 5 .any (fun w args => (Rows.printSameSpec.pre enc Tryd.prog Tryd.f5 Rows.printSameRow.domain false w args ∧ laidMetH Tryd.prog laid3 w) ∧ sizedMet enc Tryd.prog Tryd.f5 (OpenSpec.ofChange Rows.printSameSpec) false w args)
      (Rows.printSameSpec.post enc Tryd.prog Tryd.f5 false true false false) := by
  refine returnsInHanded_of_change_and (C := Tryd.checked) (X := fun w _ => laidMetH Tryd.prog laid3 w) (fun _ _ _ hh h => h.of_heap hh) own started (by kernel_rfl) Tryd.func5
    (ChangeSpec.witness_at (enc := enc) (C := Tryd.checked) (os := os) (X := fun w _ => laidMetH Tryd.prog laid3 w) false (laidWorld os) #[.agg #[.slice none 0 0, .slice none 0 0], .agg #[.slice none 0 0, .slice none 0 0]] 8 rfl (by kernel_rfl) (by kernel_rfl) (by kernel_rfl) (by kernel_rfl) (by kernel_rfl) (laid_met os _)) ?_
  intro W base args ds gs before hval0 hW hcnd _ hL _
  have hval : ∀ (j : Nat) t v, Tryd.f5.params[j]? = some t → args[j]? = some v → Value.okWide Tryd.prog W .any base t v := hval0
  have hW' := hW
  obtain ⟨p, q, hA0, hV, rfl, hfz, hnd⟩ := hW
  have hA : DataW.TrodAll enc Tryd.prog W 0 (fun _ => true) true Tryd.f5.params.toList args.toList ds p := hA0
  rw [Tryd.params5] at hA hval
  obtain ⟨v0, v1, d0, d1, rfl, rfl, ⟨p0, hd0⟩, ⟨p1, hd1⟩⟩ := trod_two hA
  obtain ⟨rfl, rfl⟩ := trodVars_none hV
  have hgo : ∀ (i : Nat) (v : Value), Tryd.f5.params[i]? = some 25 → #[v0, v1][i]? = some v → ∀ {d ps}, DataW.Trod enc Tryd.prog W 0 (fun _ => true) true 25 v d ps → ∃ x : Pg, RD (memM W) S0 (.agg (encPg x)) v ∧ x.rng := by
    intro i v hp hv d ps ⟨fuel, hf⟩
    obtain ⟨y, h1, h2⟩ := rdp_pg hf
    obtain ⟨fs, hfs⟩ := structOf_some (P := Tryd.prog) (t := 25) (l := [(22, 0), (23, 1)]) (by kernel_rfl) (by simp)
    obtain ⟨cs, e, _⟩ := okWide_struct hfs (hval i 25 v (by rw [← Tryd.params5]; exact hp) hv)
    exact ⟨y, h1.agg ⟨cs, e⟩, h2⟩
  obtain ⟨x, hv, hr⟩ := hgo 0 v0 (by rw [Tryd.params5]; rfl) rfl hd0
  obtain ⟨y, hu, hs⟩ := hgo 1 v1 (by rw [Tryd.params5]; rfl) rfl hd1
  refine (walk W (laidW_of hL) x y hr hs v0 v1 hv hu).mono fun e W' ⟨he, hg⟩ => ?_
  subst he
  exact ⟨_, rfl, law_post kids full (by rw [Tryd.params5]; decide) Tryd.underlying4 (by kernel_rfl) rfl hW' rfl hg⟩

theorem over : Rows.PrintSameSaid :=
  OpenClaim.holds_of_wide 5 Tryd.f5 rfl rfl rfl rfl rfl rfl rfl ⟨rfl, rfl, rfl, rfl, rfl⟩ rfl rfl rfl rfl rfl (by kernel_rfl) Tryd.func5 (by kernel_rfl)
    (of_decide_eq_true (by kernel_rfl)) (by unfold Func.isWrapper; first | (rw [if_pos (by decide +kernel)]; kernel_rfl) | (rw [if_neg (by decide +kernel)]; exact ⟨rfl, rfl⟩))
    (fun os started H enc _ => lifted os started H enc)

theorem proved : Rows.PrintSameCardSaid :=
  Claim7.holds_tied_plain_at .later [] [.data, .data, .data] true (true, "c4602d4ef5bdffa21f560167e243406d26df7374ad6c9b92d056c6ba37991ec5") false
    over (fun _ h => by cases h) (by kernel_rfl) (fun _ h => by cases h) printSame_row_tie rfl ⟨rfl, rfl⟩ (by kernel_rfl) rfl
    (fun f fn hf hfn => by
      obtain rfl : f = 5 := Option.some.inj ((show Tryd.prog.funcNamed "whittler/whittlerlaw5.PrintSame" = some 5 by kernel_rfl).symm.trans hf) |>.symm
      obtain rfl : fn = Tryd.f5 := (Option.some.inj (Tryd.func5.symm.trans hfn)).symm
      exact ⟨by kernel_rfl, fun j t ht => by
        rw [Tryd.params5] at ht
        have h3 : t = 25 := by
          rcases j with _ | _ | j
          · simpa using ht.symm
          · simpa using ht.symm
          · simp at ht
        subst h3
        exact (show Tryd.prog.wantsStandIn 25 = false by kernel_rfl)⟩)
    (by kernel_rfl)
#print axioms proved
end Go.Proofs.YtcknbmdkefcinaaDoor.printSame
