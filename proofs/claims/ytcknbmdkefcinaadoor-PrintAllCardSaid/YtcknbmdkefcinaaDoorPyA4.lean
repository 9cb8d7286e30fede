/-
  What is proved here: the statement PrintAllCardSaid: whatever the program, the law, called, gives true, and of what was there nothing turns.
  No conditions.
-/
import Derived.Test.YtcknbmdkefcinaaDoorPyA3
import Derived.RowKit3
import Derived.WalkKit
import Derived.ProofKit
import Derived.OpenShut
import Derived.ShutString
import Derived.ChangeMaps5
import Derived.ChangeStays
import Derived.KernelRfl
import Derived.Test.YtcknbmdkefcinaaDoorRows
import Derived.Lib.LaidTab
import Derived.Lib.LaidIn
import Derived.LaidSub
import Derived.Test.YtcknbmdkefcinaaDoorCards
import Derived.Test.YtcknbmdkefcinaaDoorTie
import Derived.SevenTiedAt

set_option linter.unusedSimpArgs false
set_option linter.unusedVariables false

/-! MayEq2 -/

namespace Go.Abs
set_option linter.unusedSimpArgs false
set_option linter.unusedVariables false

theorem itmays_app : ∀ (a b : List It) (n : Nat), It.mays n (a ++ b) = (It.mays n a && It.mays (n + a.length) b)
  | [], b, n => by simp [It.mays]
  | i :: a, b, n => by
    simp only [List.cons_append, It.mays, itmays_app a b (n + 1), List.length_cons]
    have : n + 1 + a.length = n + (a.length + 1) := by omega
    rw [this]
    split <;> simp

theorem itmays_one (n : Nat) (i : It) : It.mays n [i] = true ↔ i.s.id = ((n + 1 : Nat) : Int) ∧ i.deep ≤ 12 ∧ i.s.one = true := by
  simp only [It.mays]
  split
  · rename_i h
    simp only [Bool.or_eq_true, bne_iff_ne, ne_eq, decide_eq_true_eq, Bool.not_eq_true'] at h
    refine ⟨fun h => (Bool.false_ne_true h).elim, fun ⟨h1, h2, h3⟩ => ?_⟩
    rcases h with (h | h) | h
    · exact (h h1).elim
    · omega
    · rw [h] at h3; cases h3
  · rename_i h
    simp only [Bool.or_eq_true, bne_iff_ne, ne_eq, decide_eq_true_eq, Bool.not_eq_true', not_or, Decidable.not_not, Bool.not_eq_false] at h
    exact ⟨fun _ => ⟨h.1.1, by omega, h.2⟩, fun _ => rfl⟩

mutual
theorem flatS_pre (deep inn : Int) (els : Bool) : ∀ (s : Sm) (out : List It), ∃ new, flatS deep inn els out s = out ++ (⟨s, deep, inn, els⟩ :: new)
  | ⟨id, kind, labels, name, proc, x, has, args, thn, e⟩, out => by
    simp only [flatS]
    split
    · obtain ⟨n1, h1⟩ := flatL_pre (deep + 1) id false thn (out ++ [⟨⟨id, kind, labels, name, proc, x, has, args, thn, e⟩, deep, inn, els⟩])
      obtain ⟨n2, h2⟩ := flatL_pre (deep + 1) id true e (flatL (deep + 1) id false (out ++ [⟨⟨id, kind, labels, name, proc, x, has, args, thn, e⟩, deep, inn, els⟩]) thn)
      rw [h2, h1]
      exact ⟨n1 ++ n2, by simp⟩
    · exact ⟨[], rfl⟩
theorem flatL_pre (deep inn : Int) (els : Bool) : ∀ (l : List Sm) (out : List It), ∃ new, flatL deep inn els out l = out ++ new
  | [], out => ⟨[], by simp [flatL]⟩
  | s :: l, out => by
    simp only [flatL]
    split
    · obtain ⟨n1, h1⟩ := flatS_pre deep inn els s out
      obtain ⟨n2, h2⟩ := flatL_pre deep inn els l (flatS deep inn els out s)
      rw [h2, h1]
      exact ⟨⟨s, deep, inn, els⟩ :: n1 ++ n2, by simp⟩
    · exact ⟨[], by simp⟩
end

theorem mayR_true {nest : Int} {n : Nat} {s : Sm} (h : (Sm.mayR nest n s).1 = true) :
    n + 1 ≤ 200 ∧ s.id = ((n + 1 : Nat) : Int) ∧ s.one = true ∧ (Sm.mayG (nest + 1) (n + 1) s.thn).1 = true ∧ (Sm.mayG (nest + 1) (Sm.mayG (nest + 1) (n + 1) s.thn).2 s.els).1 = true ∧
    (Sm.mayR nest n s).2 = (Sm.mayG (nest + 1) (Sm.mayG (nest + 1) (n + 1) s.thn).2 s.els).2 := by
  rw [mayR_eq] at h ⊢
  split at h
  · cases h
  rename_i h1
  simp only [Bool.or_eq_true, bne_iff_ne, ne_eq, decide_eq_true_eq, Bool.not_eq_true', not_or, Decidable.not_not, Bool.not_eq_false] at h1
  split at h
  · cases h
  rename_i h2
  have h2' : (Sm.mayG (nest + 1) (n + 1) s.thn).1 = true := by simpa using h2
  refine ⟨by omega, h1.1.1.2, ?_, h2', h, ?_⟩
  · rw [one_fields, h1.1.2, h1.2]; rfl
  · rw [if_neg (by simp only [Bool.or_eq_true, bne_iff_ne, ne_eq, decide_eq_true_eq, Bool.not_eq_true', not_or, Decidable.not_not, Bool.not_eq_false]; exact h1), if_neg h2]

theorem mayG_true {nest : Int} {n : Nat} {l : List Sm} (h : (Sm.mayG nest n l).1 = true) : (l = [] ∨ nest ≤ 12) ∧ Sm.mayG nest n l = Sm.mayL nest n l := by
  unfold Sm.mayG gate at *
  split at h
  · cases h
  · rename_i hc
    rw [if_neg hc]
    refine ⟨?_, rfl⟩
    simp only [Bool.and_eq_true, decide_eq_true_eq, not_and] at hc
    cases l with
    | nil => exact .inl rfl
    | cons s l => right; simp only [List.length_cons] at hc; omega

mutual
/-- What the program lets pass the documents let pass, too. -/
theorem mayR_flat : ∀ (s : Sm) (nest inn : Int) (els : Bool) (n : Nat) (out : List It), nest ≤ 12 → out.length ≤ n → n ≤ 200 → (Sm.mayR nest n s).1 = true →
    ∃ new, flatS nest inn els out s = out ++ new ∧ It.mays n new = true ∧ n + new.length = (Sm.mayR nest n s).2 ∧ (Sm.mayR nest n s).2 ≤ 200
  | ⟨id, kind, labels, name, proc, x, has, args, thn, e⟩, nest, inn, els, n, out, h12, ho, hn, h => by
    obtain ⟨h1, h2, h3, h4, h5, h6⟩ := mayR_true h
    dsimp only at h2 h4 h5 h6
    rw [h6]
    obtain ⟨g1, e1⟩ := mayG_true h4
    rw [e1] at h4 h5 ⊢
    obtain ⟨g2, e2⟩ := mayG_true h5
    rw [e2] at h5 ⊢
    have hit : It.mays n [(⟨⟨id, kind, labels, name, proc, x, has, args, thn, e⟩, nest, inn, els⟩ : It)] = true := (itmays_one _ _).2 ⟨h2, h12, h3⟩
    obtain ⟨n1, k1, k2, k3, k4⟩ := mayL_flat thn (nest + 1) id false (n + 1) (out ++ [⟨⟨id, kind, labels, name, proc, x, has, args, thn, e⟩, nest, inn, els⟩]) g1 (by simp; omega) h1 h4
    obtain ⟨n2, j1, j2, j3, j4⟩ := mayL_flat e (nest + 1) id true _ (out ++ [⟨⟨id, kind, labels, name, proc, x, has, args, thn, e⟩, nest, inn, els⟩] ++ n1) g2 (by simp; omega) k4 h5
    simp only [flatS]
    rw [if_pos (by simpa using h12), k1, j1]
    refine ⟨⟨⟨id, kind, labels, name, proc, x, has, args, thn, e⟩, nest, inn, els⟩ :: (n1 ++ n2), by simp, ?_, ?_, j4⟩
    · have : (⟨⟨id, kind, labels, name, proc, x, has, args, thn, e⟩, nest, inn, els⟩ : It) :: (n1 ++ n2) = [⟨⟨id, kind, labels, name, proc, x, has, args, thn, e⟩, nest, inn, els⟩] ++ n1 ++ n2 := by simp
      rw [this, itmays_app, itmays_app, hit, Bool.true_and]
      have e3 : n + ([(⟨⟨id, kind, labels, name, proc, x, has, args, thn, e⟩, nest, inn, els⟩ : It)] ++ n1).length = (Sm.mayL (nest + 1) (n + 1) thn).2 := by simp; omega
      rw [e3, j2]
      have e4 : n + [(⟨⟨id, kind, labels, name, proc, x, has, args, thn, e⟩, nest, inn, els⟩ : It)].length = n + 1 := rfl
      rw [e4, k2]; rfl
    · simp only [List.length_cons, List.length_append]; omega
theorem mayL_flat : ∀ (l : List Sm) (nest inn : Int) (els : Bool) (n : Nat) (out : List It), (l = [] ∨ nest ≤ 12) → out.length ≤ n → n ≤ 200 → (Sm.mayL nest n l).1 = true →
    ∃ new, flatL nest inn els out l = out ++ new ∧ It.mays n new = true ∧ n + new.length = (Sm.mayL nest n l).2 ∧ (Sm.mayL nest n l).2 ≤ 200
  | [], nest, inn, els, n, out, h12, ho, hn, h => ⟨[], by simp [flatL], rfl, by simp [Sm.mayL], by simpa [Sm.mayL] using hn⟩
  | s :: l, nest, inn, els, n, out, h12, ho, hn, h => by
    have h12' : nest ≤ 12 := h12.resolve_left (by simp)
    simp only [Sm.mayL] at h ⊢
    split at h
    · cases h
    rename_i hc
    rw [if_neg hc]
    obtain ⟨n1, k1, k2, k3, k4⟩ := mayR_flat s nest inn els n out h12' ho hn (by simpa using hc)
    obtain ⟨n2, j1, j2, j3, j4⟩ := mayL_flat l nest inn els _ (out ++ n1) (.inr h12') (by simp; omega) k4 h
    simp only [flatL]
    rw [if_pos (by simp only [decide_eq_true_eq]; omega), k1, j1]
    refine ⟨n1 ++ n2, by simp, ?_, by simp; omega, j4⟩
    rw [itmays_app, k2, k3, j2]; rfl
end

mutual
/-- What the documents let pass the program lets pass, too. -/
theorem flat_mayR : ∀ (s : Sm) (nest inn : Int) (els : Bool) (n : Nat) (out new : List It), flatS nest inn els out s = out ++ new → It.mays n new = true → out.length ≤ n → n + new.length ≤ 200 →
    Sm.mayR nest n s = (true, n + new.length) ∧ nest ≤ 12
  | ⟨id, kind, labels, name, proc, x, has, args, thn, e⟩, nest, inn, els, n, out, new, hfl, hm, ho, hn => by
    obtain ⟨n0, h0⟩ := flatS_pre nest inn els ⟨id, kind, labels, name, proc, x, has, args, thn, e⟩ out
    have e0 : new = ⟨⟨id, kind, labels, name, proc, x, has, args, thn, e⟩, nest, inn, els⟩ :: n0 := List.append_cancel_left (hfl.symm.trans h0)
    subst e0
    have hcons : (⟨⟨id, kind, labels, name, proc, x, has, args, thn, e⟩, nest, inn, els⟩ : It) :: n0 = [⟨⟨id, kind, labels, name, proc, x, has, args, thn, e⟩, nest, inn, els⟩] ++ n0 := rfl
    rw [hcons, itmays_app, Bool.and_eq_true] at hm
    obtain ⟨hm1, hm2⟩ := hm
    obtain ⟨c1, c2, c3⟩ := (itmays_one _ _).1 hm1
    dsimp only at c1 c2 c3
    simp only [List.length_cons] at hn ⊢
    have hfl' : flatL (nest + 1) id true (flatL (nest + 1) id false (out ++ [⟨⟨id, kind, labels, name, proc, x, has, args, thn, e⟩, nest, inn, els⟩]) thn) e = out ++ ([⟨⟨id, kind, labels, name, proc, x, has, args, thn, e⟩, nest, inn, els⟩] ++ n0) := by
      simp only [flatS] at hfl
      rw [if_pos (by simpa using c2)] at hfl
      exact hfl
    obtain ⟨n1, g1⟩ := flatL_pre (nest + 1) id false thn (out ++ [⟨⟨id, kind, labels, name, proc, x, has, args, thn, e⟩, nest, inn, els⟩])
    obtain ⟨n2, g2⟩ := flatL_pre (nest + 1) id true e (flatL (nest + 1) id false (out ++ [⟨⟨id, kind, labels, name, proc, x, has, args, thn, e⟩, nest, inn, els⟩]) thn)
    have en : n0 = n1 ++ n2 := by
      rw [g2, g1] at hfl'
      simp only [List.append_assoc, List.append_cancel_left_eq] at hfl'
      exact hfl'.symm
    subst en
    have hm2' : It.mays (n + 1) (n1 ++ n2) = true := hm2
    rw [itmays_app, Bool.and_eq_true] at hm2'
    simp only [List.length_append] at hn ⊢
    obtain ⟨r1, r2⟩ := flat_mayL thn (nest + 1) id false (n + 1) _ n1 g1 hm2'.1 (by simp; omega) (by omega)
    obtain ⟨q1, q2⟩ := flat_mayL e (nest + 1) id true (n + 1 + n1.length) _ n2 g2 hm2'.2 (by rw [g1]; simp; omega) (by omega)
    refine ⟨?_, c2⟩
    have gg : ∀ {l : List Sm} {m : Nat} {r : Bool × Nat}, Sm.mayL (nest + 1) m l = r → (l = [] ∨ nest + 1 ≤ 12) → Sm.mayG (nest + 1) m l = r := by
      intro l m r h1 h2
      unfold Sm.mayG gate
      rw [if_neg]
      · exact h1
      · simp only [Bool.and_eq_true, decide_eq_true_eq, not_and]
        rcases h2 with h2 | h2
        · subst h2; simp
        · omega
    have t1 := gg r1 r2
    have t2 := gg q1 q2
    rw [mayR_eq]
    dsimp only
    rw [t1]
    dsimp only
    rw [t2]
    rw [one_fields, Bool.and_eq_true] at c3
    rw [if_neg]
    · simp; omega
    · simp only [Bool.or_eq_true, bne_iff_ne, ne_eq, decide_eq_true_eq, Bool.not_eq_true', not_or, Decidable.not_not, Bool.not_eq_false]
      exact ⟨⟨⟨by omega, c1⟩, c3.1⟩, c3.2⟩
theorem flat_mayL : ∀ (l : List Sm) (nest inn : Int) (els : Bool) (n : Nat) (out new : List It), flatL nest inn els out l = out ++ new → It.mays n new = true → out.length ≤ n → n + new.length ≤ 200 →
    Sm.mayL nest n l = (true, n + new.length) ∧ (l = [] ∨ nest ≤ 12)
  | [], nest, inn, els, n, out, new, hfl, hm, ho, hn => by
    simp only [flatL] at hfl
    have : new = [] := by simpa using hfl
    subst this
    exact ⟨by simp [Sm.mayL], .inl rfl⟩
  | s :: l, nest, inn, els, n, out, new, hfl, hm, ho, hn => by
    simp only [flatL] at hfl
    rw [if_pos (by simp only [decide_eq_true_eq]; omega)] at hfl
    obtain ⟨n1, g1⟩ := flatS_pre nest inn els s out
    obtain ⟨n2, g2⟩ := flatL_pre nest inn els l (flatS nest inn els out s)
    have en : new = (⟨s, nest, inn, els⟩ :: n1) ++ n2 := by
      rw [g2, g1, List.append_assoc, List.append_cancel_left_eq] at hfl
      exact hfl.symm
    subst en
    rw [itmays_app, Bool.and_eq_true] at hm
    rw [List.length_append] at hn ⊢
    obtain ⟨r1, r2⟩ := flat_mayR s nest inn els n out _ g1 hm.1 ho (by omega)
    obtain ⟨q1, q2⟩ := flat_mayL l nest inn els (n + (⟨s, nest, inn, els⟩ :: n1 : List It).length) _ n2 g2 hm.2 (by rw [g1, List.length_append]; omega) (by omega)
    refine ⟨?_, .inr r2⟩
    simp only [Sm.mayL, r1, Bool.not_true, Bool.false_eq_true, ↓reduceIte, q1]
    congr 1; omega
end

theorem procs_all : ∀ (l : List Pc) (out : List It), out.length ≤ 200 → (Pc.mayL out.length l = true ↔ Pc.heads l = true ∧ ∃ new, allM out l = out ++ new ∧ (out ++ new).length ≤ 200 ∧ It.mays out.length new = true)
  | [], out, ho => by simp [Pc.mayL, Pc.heads, allM, It.mays]; exact ho
  | f :: l, out, ho => by
    have hpre : ∀ (l : List Pc) (out : List It), ∃ new, allM out l = out ++ new := by
      intro l
      induction l with
      | nil => intro out; exact ⟨[], by simp [allM]⟩
      | cons f l ih =>
        intro out
        simp only [allM]
        split
        · exact ⟨_, rfl⟩
        · obtain ⟨n1, h1⟩ := ih (out ++ f.flat)
          exact ⟨f.flat ++ n1, by rw [h1, List.append_assoc]⟩
    simp only [Pc.mayL, Pc.heads]
    have hcond : (decide ((f.params.length : Int) > 8) || decide ((f.vars.length : Int) > 16) || !(isName f.name) || !(mayNames f.vars) || !(mayNames f.fin)) = (!(isName f.name) || decide ((f.params.length : Int) > 8) || decide ((f.vars.length : Int) > 16) || !(mayNames f.vars) || !(mayNames f.fin)) := by
      cases isName f.name <;> simp
    rw [hcond]
    split
    · simp
    split
    · simp
    have hg : Sm.mayG 1 out.length f.body = Sm.mayL 1 out.length f.body := by unfold Sm.mayG gate; rw [if_neg (by simp)]
    rw [hg]
    constructor
    · intro h
      split at h
      · cases h
      rename_i hc
      obtain ⟨n1, k1, k2, k3, k4⟩ := mayL_flat f.body 1 0 false out.length [] (.inr (by omega)) (by simp) ho (by simpa using hc)
      have hfl : f.flat = n1 := by unfold Pc.flat; rw [k1]; rfl
      rw [← k3, ← List.length_append] at h
      obtain ⟨hh, n2, j1, j2, j3⟩ := (procs_all l (out ++ n1) (by rw [List.length_append]; omega)).1 h
      refine ⟨hh, n1 ++ n2, ?_, by simpa using j2, ?_⟩
      · simp only [allM, hfl]
        rw [if_neg (by simp only [List.length_append, decide_eq_true_eq]; omega), j1, List.append_assoc]
      · rw [itmays_app, k2, ← List.length_append, j3]; rfl
    · rintro ⟨hh, new, j1, j2, j3⟩
      simp only [allM] at j1
      split at j1
      · rename_i hc
        have : new = f.flat := (List.append_cancel_left j1).symm
        subst this
        simp only [decide_eq_true_eq] at hc
        omega
      rename_i hc
      simp only [decide_eq_true_eq] at hc
      obtain ⟨n2, g2⟩ := hpre l (out ++ f.flat)
      have en : new = f.flat ++ n2 := by
        rw [g2, List.append_assoc] at j1
        exact (List.append_cancel_left j1).symm
      subst en
      rw [itmays_app, Bool.and_eq_true] at j3
      rw [List.length_append, List.length_append] at j2
      obtain ⟨r1, _⟩ := flat_mayL f.body 1 0 false out.length [] f.flat (by unfold Pc.flat; rfl) j3.1 (by simp) (by omega)
      rw [r1]
      simp only [Bool.not_true, Bool.false_eq_true, ↓reduceIte]
      rw [← List.length_append]
      exact (procs_all l (out ++ f.flat) (by rw [List.length_append]; omega)).2 ⟨hh, n2, g2, by simp; omega, by rw [List.length_append]; exact j3.2⟩

theorem mayP_eq (p : Pg) : p.mayP = p.may := by
  have h := procs_all p.procs [] (by simp)
  unfold Pg.mayP Pg.may
  split
  · rfl
  · have e : Pc.mayL 0 p.procs = (if !(Pc.heads p.procs) then false else if decide ((p.all.length : Int) > 200) then false else It.mays 0 p.all) := by
      rw [Bool.eq_iff_iff]
      have h' : Pc.mayL 0 p.procs = true ↔ _ := h
      rw [h']
      have ha : p.all = allM [] p.procs := rfl
      constructor
      · rintro ⟨h1, new, h2, h3, h4⟩
        rw [ha, h2, h1]
        simp only [List.nil_append] at h3 ⊢
        simp only [Bool.not_true, Bool.false_eq_true, ↓reduceIte]
        rw [if_neg (by simp only [decide_eq_true_eq]; omega)]
        exact h4
      · intro h1
        cases hh : Pc.heads p.procs
        · rw [hh] at h1; simp at h1
        · rw [hh] at h1
          simp only [Bool.not_true, Bool.false_eq_true, ↓reduceIte] at h1
          split at h1
          · cases h1
          · rename_i hc
            simp only [decide_eq_true_eq] at hc
            exact ⟨rfl, p.all, by rw [ha]; rfl, by simp; omega, h1⟩
    exact e

end Go.Abs

/-! Pr4 -/

namespace Go.Abs

set_option maxRecDepth 8000
set_option linter.unusedSimpArgs false
set_option linter.unusedVariables false
open Go.Proofs

def paramS (a : Pm) : Str := (if a.ref then [114, 101, 102, 32] else []) ++ a.name
def procS (f : Pc) : Str :=
  lineS 0 ([112, 114, 111, 99, 32] ++ f.name ++ [40] ++ Lib.join (f.params.map paramS) [44, 32] ++ [41, 32, 123]) ++ (if f.vars.length = 0 then [] else lineS 1 ([118, 97, 114, 32] ++ Lib.join f.vars [44, 32] ++ [59])) ++ rowsS 1 f.body ++ lineS 0 (marksS f.fin ++ [125])
def procsS : List Pc → Str
  | [] => []
  | f :: l => procS f ++ procsS l
def globsS (l : List Str) : Str := if l.length = 0 then [] else lineS 0 ([103, 108, 111, 98, 97, 108, 32] ++ Lib.join l [44, 32] ++ [59])
def textS (p : Pg) : Str := globsS p.globals ++ procsS p.procs

/-- What is written of a procedure, of a program that may be. -/
structure Pc.PrP (f : Pc) : Prop where
  name : f.name.length ≤ 8
  params : ∀ a ∈ f.params, a.name.length ≤ 8
  vars : ∀ t ∈ f.vars, t.length ≤ 8
  fin : ∀ t ∈ f.fin, t.length ≤ 8
  body : Sm.PrRs 1 f.body
structure Pg.PrG (p : Pg) : Prop where
  globals : ∀ t ∈ p.globals, t.length ≤ 8
  procs : ∀ f ∈ p.procs, f.PrP

theorem short_len (sep : Str) {l : List Str} {n : Nat} (h : ∀ t ∈ l, t.length ≤ n) : (Lib.join l sep).length ≤ (n + sep.length) * l.length := by
  have h1 := join_len sep l
  have h2 : (l.map (·.length)).sum ≤ n * l.length := by
    clear h1
    induction l with
    | nil => simp
    | cons a l ih =>
      have := h a (List.mem_cons_self ..)
      have := ih fun t m => h t (List.mem_cons_of_mem _ m)
      simp only [List.map_cons, List.sum_cons, List.length_cons, Nat.mul_add, Nat.mul_one]; omega
  rw [Nat.add_mul]; omega
theorem params_len {l : List Pm} (h : ∀ a ∈ l, a.name.length ≤ 8) : (Lib.join (l.map paramS) [44, 32]).length ≤ 14 * l.length := by
  have := short_len [44, 32] (l := l.map paramS) (n := 12) (by
    intro t m
    obtain ⟨a, ha, rfl⟩ := List.mem_map.1 m
    have := h a ha
    unfold paramS
    split <;> simp only [List.length_append, List.length_cons, List.length_nil] <;> omega)
  simpa using this

theorem globsS_len {l : List Str} (h : ∀ t ∈ l, t.length ≤ 8) : (globsS l).length ≤ 10 * l.length + 9 := by
  have := short_len [44, 32] h
  unfold globsS
  split
  · simp
  · simp only [List.length_append, List.length_cons, List.length_nil, lineS_len] at this ⊢; omega

theorem procS_len {f : Pc} (h : f.PrP) : (procS f).length ≤ 200 * f.size := by
  have h1 := params_len h.params
  have h2 := short_len [44, 32] h.vars
  have h3 := marksS_len h.fin
  have h4 := rowsS_len f.body h.body
  have h5 := h.name
  unfold procS Pc.size
  simp only [List.length_cons, List.length_nil] at h2
  split <;> simp only [List.length_append, List.length_cons, List.length_nil, lineS_len] <;> omega
theorem procsS_len : ∀ {l : List Pc}, (∀ f ∈ l, f.PrP) → (procsS l).length ≤ 200 * Pc.sizes l
  | [], _ => by simp [procsS]
  | f :: l, h => by
    have h1 := procS_len (h f (List.mem_cons_self ..))
    have h2 := procsS_len fun t m => h t (List.mem_cons_of_mem _ m)
    simp only [procsS, Pc.sizes, List.length_append]; omega

/-! ### The walk -/

/-- A row of lines. -/
theorem prows_z {l : List Sm} (hs : Sm.sizes l ≤ 1000000) {inn : Nat} (hp : Sm.PrRs inn l) {acc : Str} (hb : acc.length + 200 * Sm.sizes l ≤ 540000000000) {s : St} {o t : Nat} (ho : s.objs[o]? = some (bobj o t acc)) (ht : s.toks[t]? = some (some (slen acc))) :
    Fun Tryd.prog n_print_writer_rows [.ptr o 0, .slice .shared 13 (l.map encSm), .int .i64 inn] s (.tuple []) ⟨s.objs.set o (bobj o t (acc ++ rowsS inn l)), s.toks.set t (some (slen (acc ++ rowsS inn l)))⟩ :=
  (prows_n _ l (Nat.le_refl _) hs inn hp acc hb).bldz (by simp [D.oks, D.ok, okrSm, Tag.ok]) rfl ho ht

/-- The first line of a writer. -/
theorem line_first (n : Nat) (m : Str) (h : n + m.length + 1 ≤ 549755813888) {s : St} {o : Nat} (ho : s.objs[o]? = some [.selfp tWriter o, .val (.slice none 0 0)]) :
    Fun Tryd.prog n_print_writer_line [.ptr o 0, .int .i64 n, .str m] s (.tuple []) ⟨s.objs.set o (bobj o s.toks.length (lineS n m)), s.toks ++ [some (slen (lineS n m))]⟩ := by
  have hlt := (List.getElem?_eq_some_iff.1 ho).1
  have := line_z (l := []) n m (by simpa using h) (s := ⟨s.objs.set o (bobj o s.toks.length []), s.toks ++ [some 0]⟩) (o := o) (t := s.toks.length) (by simp [hlt]) (by simp [slen])
  refine ACalls.tokB o 1 1 true ho rfl ?_
  refine ACalls.mono this fun d s' ⟨e1, e2⟩ => ⟨e1, ?_⟩
  rw [e2]
  simp

set_option maxHeartbeats 1600000 in
/-- What the loop over the procedures does. -/
theorem pText_loop {p : Pg} (hg : p.PrG) (hps : Pc.sizes p.procs ≤ 1000000) (hpl : p.procs.length ≤ Pc.sizes p.procs) {B : Base} {Q : Exit → Tm → St → Prop} (hB : B.s = { objs := [], toks := [] }) {R : Str} (hRn : R.length ≤ 540000000000)
    (hQ : retF { objs := [], toks := [] : St }.objs.length { objs := [], toks := [] : St }.toks.length [(2, none)] (D.str R) { objs := [], toks := [] } = Q) :
    ∀ i : List Pc × Nat × Str, (p.procs.drop i.2.1 = i.1 ∧ i.2.2 ++ procsS i.1 = R ∧ i.2.2.length + 200 * Pc.sizes i.1 ≤ 530000000000) →
    SemL Tryd.prog B 85 Q2X (inBlockQ 0 (thenQ (wpC Tryd.prog B 85 Q32 Q) Q))
      [(3, .ptr 1 0), (26, .slice .shared 5 (p.procs.map encPc)), (27, .int .i64 (p.procs.length : Int)), (28, .int .i64 (i.2.1 : Int))] ⟨[encPg p, bobj 1 0 i.2.2], [some (slen i.2.2)]⟩ := by
  have hlt : 0 < 1 := Nat.zero_lt_one
  have hget : 0 < 1 := Nat.zero_lt_one
  have hpu : 0 < 1 := Nat.zero_lt_one
  have hinc : 0 < 1 := Nat.zero_lt_one
  refine SemL.ind (ι := List Pc × Nat × Str) (fun i => p.procs.drop i.2.1 = i.1 ∧ i.2.2 ++ procsS i.1 = R ∧ i.2.2.length + 200 * Pc.sizes i.1 ≤ 530000000000) (fun i => i.1.length) (fun i => [(3, .ptr 1 0), (26, .slice .shared 5 (p.procs.map encPc)), (27, .int .i64 (p.procs.length : Int)), (28, .int .i64 (i.2.1 : Int))]) (fun i => ⟨[encPg p, bobj 1 0 i.2.2], [some (slen i.2.2)]⟩) ?_
  rintro ⟨rest, k, acc⟩ ⟨h1, h2, h3⟩ IH
  dsimp only at h1 h2 h3
  cases rest with
  | nil =>
    have hlt := drop_nil h1
    simp only [procsS, List.append_nil] at h2
    subst h2
    have es := fun st a b => String_s (s := st) (o := 1) (t := 0) (c0 := .selfp tWriter 1) acc a b (by omega)
    repeat' (first
 | simp only [go_sem, hlt, hget, hpu, hinc, Int.reduceLE, ↓reduceIte, reduceCtorEq, Nat.reduceEqDiff, Nat.reduceLeDiff, Nat.reduceAdd, Nat.reduceMul, Nat.reduceSub, Nat.reduceLT, bobj, slen]
 | (with_reducible refine CU (es _ (by with_unfolding_all rfl) (by with_unfolding_all rfl)) ?_)
 | (with_reducible first | refine CB_ofT (by assumption) fun hc => ?_ | refine CB_ofF (by assumption) fun hc => ?_ | refine CB_split (fun hc => ?_) fun hc => ?_) <;> (try simp only [hc, bs, ↓reduceIte] at h) <;> (try simp only [hc])
 | ((with_reducible first | refine leafR hQ ?_ | refine leafN hQ ?_); (try cases h); simp only [resL, oneD, Option.some.injEq, exists_eq_left', go_sem, hlt, hget, hpu, hinc, Int.reduceLE, ↓reduceIte, reduceCtorEq, Nat.reduceEqDiff, Nat.reduceLeDiff, Nat.reduceAdd, Nat.reduceMul, Nat.reduceSub, Nat.reduceLT, bobj, slen]; repeat' (first | exact Ok.out | with_reducible refine And.intro ?_ ?_ | (simp; done)))
 | (cases h; replace h := hr; clear hr; (try simp only [bs, ↓reduceIte] at h))
 | (cases h; done))
  | cons f rest =>
    obtain ⟨hget, g2, hlt, g4⟩ := drop_cons h1
    have hmem := List.mem_of_getElem? hget
    have hsz := Pc.sizes_mem hmem
    have hP := hg.procs f hmem
    have hk : k < 4611686018427387904 := by omega
    have w1 : IntKind.wrap .i64 ((k : Int) + 1) = ((k + 1 : Nat) : Int) := by rw [wrap_ok] <;> omega
    simp only [Pc.sizes] at h3
    simp only [procsS] at h2
    have lf := procS_len hP
    have hfz : f.params.length + f.vars.length + f.fin.length + Sm.sizes f.body + 1 ≤ f.size := by unfold Pc.size; omega
    repeat' (first
 | simp only [go_sem, hlt, hget, hpu, hinc, Int.reduceLE, ↓reduceIte, reduceCtorEq, Nat.reduceEqDiff, Nat.reduceLeDiff, Nat.reduceAdd, Nat.reduceMul, Nat.reduceSub, Nat.reduceLT]
 | (with_reducible first | refine CB_ofT (by assumption) fun hc => ?_ | refine CB_ofF (by assumption) fun hc => ?_ | refine CB_split (fun hc => ?_) fun hc => ?_) <;> (try simp only [hc, bs, ↓reduceIte] at h) <;> (try simp only [hc])
 | ((with_reducible first | refine leafR hQ ?_ | refine leafN hQ ?_); (try cases h); simp only [resL, oneD, Option.some.injEq, exists_eq_left', go_sem, hlt, hget, hpu, hinc, Int.reduceLE, ↓reduceIte, reduceCtorEq, Nat.reduceEqDiff, Nat.reduceLeDiff, Nat.reduceAdd, Nat.reduceMul, Nat.reduceSub, Nat.reduceLT]; repeat' (first | exact Ok.out | with_reducible refine And.intro ?_ ?_ | (simp; done)))
 | (cases h; replace h := hr; clear hr; (try simp only [bs, ↓reduceIte] at h))
 | (cases h; done))
    refine SemL.tokT 6 1 rfl ?_
    simp only [go_sem, hlt, hget, hpu, hinc, Int.reduceLE, ↓reduceIte, reduceCtorEq, Nat.reduceEqDiff, Nat.reduceLeDiff, Nat.reduceAdd, Nat.reduceMul, Nat.reduceSub, Nat.reduceLT]
    refine SemL.re _ _ 3 2 (by rw [hB]; exact Nat.le_of_ble_eq_true rfl) (by rw [hB]; exact Nat.le_of_ble_eq_true rfl) ?_ ?_ (SemL.ind (ι := List Pm × Nat × List Str) (fun i => f.params.drop i.2.1 = i.1 ∧ i.2.2 ++ i.1.map paramS = f.params.map paramS ∧ i.2.2.length = i.2.1) (fun i => i.1.length)
      (fun i => [(3, .ptr 1 0), (26, .slice .shared 5 (p.procs.map encPc)), (27, .int .i64 (p.procs.length : Int)), (28, .int .i64 (k : Int)), (5, .ptr 2 0), (6, .slice (.tok 1) 1 (i.2.2.map encStr)), (33, .slice .shared 2 (f.params.map encPm)), (34, .int .i64 (f.params.length : Int)), (35, .int .i64 (i.2.1 : Int))]) (fun i => ⟨[encPg p, bobj 1 0 acc, encPc f], [some (slen acc), some i.2.1]⟩) ?_ (f.params, 0, []) ⟨rfl, rfl, rfl⟩)
    · (simp only [go_sem, hlt, hget, hpu, hinc, Int.reduceLE, ↓reduceIte, reduceCtorEq, Nat.reduceEqDiff, Nat.reduceLeDiff, Nat.reduceAdd, Nat.reduceMul, Nat.reduceSub, Nat.reduceLT]; repeat' (first | exact Ok.out | with_reducible refine And.intro ?_ ?_))
    · (simp only [go_sem, hlt, hget, hpu, hinc, Int.reduceLE, ↓reduceIte, reduceCtorEq, Nat.reduceEqDiff, Nat.reduceLeDiff, Nat.reduceAdd, Nat.reduceMul, Nat.reduceSub, Nat.reduceLT]; repeat' (first | exact Ok.out | with_reducible refine And.intro ?_ ?_))
    rintro ⟨ps, j, out⟩ ⟨p1, p2, p3⟩ IH2
    dsimp only at p1 p2 p3
    cases ps with
    | nil =>
      have hlt := drop_nil p1
      simp only [List.map_nil, List.append_nil] at p2
      subst p2
      have lps := params_len hP.params
      have lvs := short_len [44, 32] hP.vars
      have lms := marksS_len hP.fin
      have lrs := rowsS_len f.body hP.body
      have lnm := hP.name
      simp only [List.length_cons, List.length_nil] at lvs
      have ej := fun s => Join_s (l := f.params.map paramS) (sep := [44, 32]) (by simp; omega) (by omega) (.tok 1) s
      have em := fun st => pmarks_s (by omega) hP.fin st
      have b1 : (5 : Nat) + f.name.length ≤ maxStr := by unfold maxStr; omega
      have b2 : f.name.length + 1 + 1 + 1 + 1 + 1 + 1 ≤ maxStr := by unfold maxStr; omega
      have b3 : f.name.length + 1 + 1 + 1 + 1 + 1 + 1 + (Lib.join (f.params.map paramS) [44, 32]).length ≤ maxStr := by unfold maxStr; omega
      have b4 : f.name.length + 1 + (Lib.join (f.params.map paramS) [44, 32]).length + 1 + 1 + 1 + 1 + 1 + 1 + 1 + 1 ≤ maxStr := by unfold maxStr; omega
      have b7 : (marksS f.fin).length + 1 ≤ maxStr := by unfold maxStr; omega
      have e1 := fun st a b => line_z (l := acc) 0 ([112, 114, 111, 99, 32] ++ f.name ++ [40] ++ Lib.join (f.params.map paramS) [44, 32] ++ [41, 32, 123]) (by simp only [List.length_append, List.length_cons, List.length_nil, lineS_len]; omega) (s := st) (o := 1) (t := 0) a b
      simp only [List.cons_append, List.nil_append, Int.cast_ofNat_Int] at e1
      cases cv : decide ((f.vars.length : Int) > 0) with
      | false =>
        have cv' : f.vars.length = 0 := by have := of_decide_eq_false cv; omega
        have e3 := fun st a b => prows_z (l := f.body) (by omega) hP.body (acc := acc ++ lineS 0 ([112, 114, 111, 99, 32] ++ f.name ++ [40] ++ Lib.join (f.params.map paramS) [44, 32] ++ [41, 32, 123])) (by simp only [List.length_append, List.length_cons, List.length_nil, lineS_len]; omega) (s := st) (o := 1) (t := 0) a b
        have e4 := fun st a b => line_z (l := acc ++ lineS 0 ([112, 114, 111, 99, 32] ++ f.name ++ [40] ++ Lib.join (f.params.map paramS) [44, 32] ++ [41, 32, 123]) ++ rowsS 1 f.body) 0 (marksS f.fin ++ [125]) (by simp only [List.length_append, List.length_cons, List.length_nil, lineS_len]; omega) (s := st) (o := 1) (t := 0) a b
        simp only [List.cons_append, List.nil_append, Int.cast_ofNat_Int] at e3 e4
        repeat' (first
 | simp only [go_sem, hlt, hget, hpu, hinc, Int.reduceLE, ↓reduceIte, reduceCtorEq, Nat.reduceEqDiff, Nat.reduceLeDiff, Nat.reduceAdd, Nat.reduceMul, Nat.reduceSub, Nat.reduceLT, w1, b1, b2, b3, b4, b7, cv]
 | (with_reducible refine CU (ej _) ?_)
 | (with_reducible refine CU (em _) ?_)
 | (with_reducible refine CU (e1 _ (by with_unfolding_all rfl) (by with_unfolding_all rfl)) ?_)
 | (with_reducible refine CU (e3 _ (by with_unfolding_all rfl) (by with_unfolding_all rfl)) ?_)
 | (with_reducible refine CU (e4 _ (by with_unfolding_all rfl) (by with_unfolding_all rfl)) ?_)
 | (with_reducible first | refine CB_ofT (by assumption) fun hc => ?_ | refine CB_ofF (by assumption) fun hc => ?_ | refine CB_split (fun hc => ?_) fun hc => ?_) <;> (try simp only [hc, bs, ↓reduceIte] at h) <;> (try simp only [hc])
 | ((with_reducible first | refine leafR hQ ?_ | refine leafN hQ ?_); (try cases h); simp only [resL, oneD, Option.some.injEq, exists_eq_left', go_sem, hlt, hget, hpu, hinc, Int.reduceLE, ↓reduceIte, reduceCtorEq, Nat.reduceEqDiff, Nat.reduceLeDiff, Nat.reduceAdd, Nat.reduceMul, Nat.reduceSub, Nat.reduceLT, w1, b1, b2, b3, b4, b7, cv]; repeat' (first | exact Ok.out | with_reducible refine And.intro ?_ ?_ | (simp; done)))
 | (cases h; replace h := hr; clear hr; (try simp only [bs, ↓reduceIte] at h))
 | (cases h; done))
        have hl := IH (rest, k + 1, acc ++ lineS 0 ([112, 114, 111, 99, 32] ++ f.name ++ [40] ++ Lib.join (f.params.map paramS) [44, 32] ++ [41, 32, 123]) ++ rowsS 1 f.body ++ lineS 0 (marksS f.fin ++ [125])) ⟨g2, by rw [← h2, procS, if_pos cv']; simp only [List.append_assoc, List.nil_append, List.cons_append], by rw [procS, if_pos cv'] at lf; simp only [List.length_append] at lf ⊢; omega⟩ (by simp)
        simp only [List.cons_append, List.nil_append, Int.cast_ofNat_Int] at hl
        refine SemL.re _ _ 2 1 (by rw [hB]; exact Nat.le_of_ble_eq_true rfl) (by rw [hB]; exact Nat.le_of_ble_eq_true rfl) ?_ ?_ (hl)
        · (simp only [go_sem, hlt, hget, hpu, hinc, Int.reduceLE, ↓reduceIte, reduceCtorEq, Nat.reduceEqDiff, Nat.reduceLeDiff, Nat.reduceAdd, Nat.reduceMul, Nat.reduceSub, Nat.reduceLT]; repeat' (first | exact Ok.out | with_reducible refine And.intro ?_ ?_))
        · (simp only [go_sem, hlt, hget, hpu, hinc, Int.reduceLE, ↓reduceIte, reduceCtorEq, Nat.reduceEqDiff, Nat.reduceLeDiff, Nat.reduceAdd, Nat.reduceMul, Nat.reduceSub, Nat.reduceLT]; repeat' (first | exact Ok.out | with_reducible refine And.intro ?_ ?_))
      | true =>
        have cv' : f.vars.length ≠ 0 := by have := of_decide_eq_true cv; omega
        have ej2 := fun s => Join_s (l := f.vars) (sep := [44, 32]) (by omega) (by omega) .shared s
        have b5 : (4 : Nat) + (Lib.join f.vars [44, 32]).length ≤ maxStr := by unfold maxStr; omega
        have b6 : (Lib.join f.vars [44, 32]).length + 1 + 1 + 1 + 1 + 1 ≤ maxStr := by unfold maxStr; omega
        have e2 := fun st a b => line_z (l := acc ++ lineS 0 ([112, 114, 111, 99, 32] ++ f.name ++ [40] ++ Lib.join (f.params.map paramS) [44, 32] ++ [41, 32, 123])) 1 ([118, 97, 114, 32] ++ Lib.join f.vars [44, 32] ++ [59]) (by simp only [List.length_append, List.length_cons, List.length_nil, lineS_len]; omega) (s := st) (o := 1) (t := 0) a b
        simp only [List.cons_append, List.nil_append, Int.cast_ofNat_Int] at e2
        have e3 := fun st a b => prows_z (l := f.body) (by omega) hP.body (acc := acc ++ lineS 0 ([112, 114, 111, 99, 32] ++ f.name ++ [40] ++ Lib.join (f.params.map paramS) [44, 32] ++ [41, 32, 123]) ++ lineS 1 ([118, 97, 114, 32] ++ Lib.join f.vars [44, 32] ++ [59])) (by simp only [List.length_append, List.length_cons, List.length_nil, lineS_len]; omega) (s := st) (o := 1) (t := 0) a b
        have e4 := fun st a b => line_z (l := acc ++ lineS 0 ([112, 114, 111, 99, 32] ++ f.name ++ [40] ++ Lib.join (f.params.map paramS) [44, 32] ++ [41, 32, 123]) ++ lineS 1 ([118, 97, 114, 32] ++ Lib.join f.vars [44, 32] ++ [59]) ++ rowsS 1 f.body) 0 (marksS f.fin ++ [125]) (by simp only [List.length_append, List.length_cons, List.length_nil, lineS_len]; omega) (s := st) (o := 1) (t := 0) a b
        simp only [List.cons_append, List.nil_append, Int.cast_ofNat_Int] at e3 e4
        repeat' (first
 | simp only [go_sem, hlt, hget, hpu, hinc, Int.reduceLE, ↓reduceIte, reduceCtorEq, Nat.reduceEqDiff, Nat.reduceLeDiff, Nat.reduceAdd, Nat.reduceMul, Nat.reduceSub, Nat.reduceLT, w1, b1, b2, b3, b4, b7, cv, b5, b6]
 | (with_reducible refine CU (ej _) ?_)
 | (with_reducible refine CU (em _) ?_)
 | (with_reducible refine CU (e1 _ (by with_unfolding_all rfl) (by with_unfolding_all rfl)) ?_)
 | (with_reducible refine CU (ej2 _) ?_)
 | (with_reducible refine CU (e2 _ (by with_unfolding_all rfl) (by with_unfolding_all rfl)) ?_)
 | (with_reducible refine CU (e3 _ (by with_unfolding_all rfl) (by with_unfolding_all rfl)) ?_)
 | (with_reducible refine CU (e4 _ (by with_unfolding_all rfl) (by with_unfolding_all rfl)) ?_)
 | (with_reducible first | refine CB_ofT (by assumption) fun hc => ?_ | refine CB_ofF (by assumption) fun hc => ?_ | refine CB_split (fun hc => ?_) fun hc => ?_) <;> (try simp only [hc, bs, ↓reduceIte] at h) <;> (try simp only [hc])
 | ((with_reducible first | refine leafR hQ ?_ | refine leafN hQ ?_); (try cases h); simp only [resL, oneD, Option.some.injEq, exists_eq_left', go_sem, hlt, hget, hpu, hinc, Int.reduceLE, ↓reduceIte, reduceCtorEq, Nat.reduceEqDiff, Nat.reduceLeDiff, Nat.reduceAdd, Nat.reduceMul, Nat.reduceSub, Nat.reduceLT, w1, b1, b2, b3, b4, b7, cv, b5, b6]; repeat' (first | exact Ok.out | with_reducible refine And.intro ?_ ?_ | (simp; done)))
 | (cases h; replace h := hr; clear hr; (try simp only [bs, ↓reduceIte] at h))
 | (cases h; done))
        have hl := IH (rest, k + 1, acc ++ lineS 0 ([112, 114, 111, 99, 32] ++ f.name ++ [40] ++ Lib.join (f.params.map paramS) [44, 32] ++ [41, 32, 123]) ++ lineS 1 ([118, 97, 114, 32] ++ Lib.join f.vars [44, 32] ++ [59]) ++ rowsS 1 f.body ++ lineS 0 (marksS f.fin ++ [125])) ⟨g2, by rw [← h2, procS, if_neg cv']; simp only [List.append_assoc, List.nil_append, List.cons_append], by rw [procS, if_neg cv'] at lf; simp only [List.length_append] at lf ⊢; omega⟩ (by simp)
        simp only [List.cons_append, List.nil_append, Int.cast_ofNat_Int] at hl
        refine SemL.re _ _ 2 1 (by rw [hB]; exact Nat.le_of_ble_eq_true rfl) (by rw [hB]; exact Nat.le_of_ble_eq_true rfl) ?_ ?_ (hl)
        · (simp only [go_sem, hlt, hget, hpu, hinc, Int.reduceLE, ↓reduceIte, reduceCtorEq, Nat.reduceEqDiff, Nat.reduceLeDiff, Nat.reduceAdd, Nat.reduceMul, Nat.reduceSub, Nat.reduceLT]; repeat' (first | exact Ok.out | with_reducible refine And.intro ?_ ?_))
        · (simp only [go_sem, hlt, hget, hpu, hinc, Int.reduceLE, ↓reduceIte, reduceCtorEq, Nat.reduceEqDiff, Nat.reduceLeDiff, Nat.reduceAdd, Nat.reduceMul, Nat.reduceSub, Nat.reduceLT]; repeat' (first | exact Ok.out | with_reducible refine And.intro ?_ ?_))
    | cons a ps =>
      obtain ⟨hget, q2, hlt, q4⟩ := drop_cons p1
      have hmem2 := List.mem_of_getElem? hget
      have han := hP.params a hmem2
      have hj : j < 4611686018427387904 := by omega
      have w2 : IntKind.wrap .i64 ((j : Int) + 1) = ((j + 1 : Nat) : Int) := by rw [wrap_ok] <;> omega
      have hpu : (j + 1) * 17 ≤ maxStr := by unfold maxStr; omega
      have ea : paramS a = (if a.ref = true then [114, 101, 102, 32] else []) ++ a.name := rfl
      cases hr : a.ref with
      | true =>
        rw [hr] at ea
        have m1 : (4 : Nat) + a.name.length ≤ maxStr := by unfold maxStr; omega
        repeat' (first
 | simp only [go_sem, hlt, hget, hpu, hinc, Int.reduceLE, ↓reduceIte, reduceCtorEq, Nat.reduceEqDiff, Nat.reduceLeDiff, Nat.reduceAdd, Nat.reduceMul, Nat.reduceSub, Nat.reduceLT, hr, m1, w2, p3]
 | (with_reducible refine CU (pref_s _ _) ?_)
 | (with_reducible first | refine CB_ofT (by assumption) fun hc => ?_ | refine CB_ofF (by assumption) fun hc => ?_ | refine CB_split (fun hc => ?_) fun hc => ?_) <;> (try simp only [hc, bs, ↓reduceIte] at h) <;> (try simp only [hc])
 | ((with_reducible first | refine leafR hQ ?_ | refine leafN hQ ?_); (try cases h); simp only [resL, oneD, Option.some.injEq, exists_eq_left', go_sem, hlt, hget, hpu, hinc, Int.reduceLE, ↓reduceIte, reduceCtorEq, Nat.reduceEqDiff, Nat.reduceLeDiff, Nat.reduceAdd, Nat.reduceMul, Nat.reduceSub, Nat.reduceLT, hr, m1, w2, p3]; repeat' (first | exact Ok.out | with_reducible refine And.intro ?_ ?_ | (simp; done)))
 | (cases h; replace h := hr; clear hr; (try simp only [bs, ↓reduceIte] at h))
 | (cases h; done))
        refine SemL.re _ _ 3 2 (by rw [hB]; exact Nat.le_of_ble_eq_true rfl) (by rw [hB]; exact Nat.le_of_ble_eq_true rfl) ?_ ?_ (IH2 (ps, j + 1, out ++ [paramS a]) ⟨q2, by rw [← p2]; simp, by simp [p3]⟩ (by simp))
        · (simp only [go_sem, hlt, hget, hpu, hinc, Int.reduceLE, ↓reduceIte, reduceCtorEq, Nat.reduceEqDiff, Nat.reduceLeDiff, Nat.reduceAdd, Nat.reduceMul, Nat.reduceSub, Nat.reduceLT, ea, List.cons_append, List.nil_append]; repeat' (first | exact Ok.out | with_reducible refine And.intro ?_ ?_))
        · (simp only [go_sem, hlt, hget, hpu, hinc, Int.reduceLE, ↓reduceIte, reduceCtorEq, Nat.reduceEqDiff, Nat.reduceLeDiff, Nat.reduceAdd, Nat.reduceMul, Nat.reduceSub, Nat.reduceLT, ea, List.cons_append, List.nil_append]; repeat' (first | exact Ok.out | with_reducible refine And.intro ?_ ?_))
      | false =>
        rw [hr] at ea
        have m1 : a.name.length ≤ maxStr := by unfold maxStr; omega
        repeat' (first
 | simp only [go_sem, hlt, hget, hpu, hinc, Int.reduceLE, ↓reduceIte, reduceCtorEq, Nat.reduceEqDiff, Nat.reduceLeDiff, Nat.reduceAdd, Nat.reduceMul, Nat.reduceSub, Nat.reduceLT, hr, m1, w2, p3, List.nil_append]
 | (with_reducible refine CU (pref_s _ _) ?_)
 | (with_reducible first | refine CB_ofT (by assumption) fun hc => ?_ | refine CB_ofF (by assumption) fun hc => ?_ | refine CB_split (fun hc => ?_) fun hc => ?_) <;> (try simp only [hc, bs, ↓reduceIte] at h) <;> (try simp only [hc])
 | ((with_reducible first | refine leafR hQ ?_ | refine leafN hQ ?_); (try cases h); simp only [resL, oneD, Option.some.injEq, exists_eq_left', go_sem, hlt, hget, hpu, hinc, Int.reduceLE, ↓reduceIte, reduceCtorEq, Nat.reduceEqDiff, Nat.reduceLeDiff, Nat.reduceAdd, Nat.reduceMul, Nat.reduceSub, Nat.reduceLT, hr, m1, w2, p3, List.nil_append]; repeat' (first | exact Ok.out | with_reducible refine And.intro ?_ ?_ | (simp; done)))
 | (cases h; replace h := hr; clear hr; (try simp only [bs, ↓reduceIte] at h))
 | (cases h; done))
        refine SemL.re _ _ 3 2 (by rw [hB]; exact Nat.le_of_ble_eq_true rfl) (by rw [hB]; exact Nat.le_of_ble_eq_true rfl) ?_ ?_ (IH2 (ps, j + 1, out ++ [paramS a]) ⟨q2, by rw [← p2]; simp, by simp [p3]⟩ (by simp))
        · (simp only [go_sem, hlt, hget, hpu, hinc, Int.reduceLE, ↓reduceIte, reduceCtorEq, Nat.reduceEqDiff, Nat.reduceLeDiff, Nat.reduceAdd, Nat.reduceMul, Nat.reduceSub, Nat.reduceLT, ea, List.cons_append, List.nil_append]; repeat' (first | exact Ok.out | with_reducible refine And.intro ?_ ?_))
        · (simp only [go_sem, hlt, hget, hpu, hinc, Int.reduceLE, ↓reduceIte, reduceCtorEq, Nat.reduceEqDiff, Nat.reduceLeDiff, Nat.reduceAdd, Nat.reduceMul, Nat.reduceSub, Nat.reduceLT, ea, List.cons_append, List.nil_append]; repeat' (first | exact Ok.out | with_reducible refine And.intro ?_ ?_))

theorem pText_s {p : Pg} (hf : p.FineP) (hg : p.mayP = true → p.PrG) (hs : p.size ≤ 1000000) (s : St) : Fun Tryd.prog n_print_Text [.agg (encPg p)] s (.str (if p.may then textS p else [])) s := by
  refine Fun.pure ?_ (by simp only [D.oks, D.ok, okPg]; rfl) rfl s
  have hm := fun s => tMay_s hf s
  rw [← mayP_eq]
  cases cm : p.mayP with
  | false =>
    rw [if_neg (by simp)]
    unfold S0
    refine Fun.go has_print_Text rfl fun B Q hB hQ => ?_
    have hlt : 0 < 1 := Nat.zero_lt_one
    have hget : 0 < 1 := Nat.zero_lt_one
    have hpu : 0 < 1 := Nat.zero_lt_one
    have hinc : 0 < 1 := Nat.zero_lt_one
    repeat' (first
 | simp only [go_sem, hlt, hget, hpu, hinc, Int.reduceLE, ↓reduceIte, reduceCtorEq, Nat.reduceEqDiff, Nat.reduceLeDiff, Nat.reduceAdd, Nat.reduceMul, Nat.reduceSub, Nat.reduceLT, cm]
 | (with_reducible refine CU (hm _) ?_)
 | (with_reducible first | refine CB_ofT (by assumption) fun hc => ?_ | refine CB_ofF (by assumption) fun hc => ?_ | refine CB_split (fun hc => ?_) fun hc => ?_) <;> (try simp only [hc, bs, ↓reduceIte] at h) <;> (try simp only [hc])
 | ((with_reducible first | refine leafR hQ ?_ | refine leafN hQ ?_); (try cases h); simp only [resL, oneD, Option.some.injEq, exists_eq_left', go_sem, hlt, hget, hpu, hinc, Int.reduceLE, ↓reduceIte, reduceCtorEq, Nat.reduceEqDiff, Nat.reduceLeDiff, Nat.reduceAdd, Nat.reduceMul, Nat.reduceSub, Nat.reduceLT, cm]; repeat' (first | exact Ok.out | with_reducible refine And.intro ?_ ?_ | (simp; done)))
 | (cases h; replace h := hr; clear hr; (try simp only [bs, ↓reduceIte] at h))
 | (cases h; done))
  | true =>
    rw [if_pos rfl]
    have hg := hg cm
    have hps : Pc.sizes p.procs ≤ 1000000 := by simp only [Pg.size] at hs; omega
    have hgl : p.globals.length ≤ 1000000 := by simp only [Pg.size] at hs; omega
    have hpl := Pc.sizes_len p.procs
    have lg := globsS_len hg.globals
    have lp := procsS_len hg.procs
    have ls := short_len [44, 32] hg.globals
    simp only [List.length_cons, List.length_nil] at ls
    unfold S0
    cases cg : decide ((p.globals.length : Int) > 0) with
    | true =>
      have cg' : p.globals.length ≠ 0 := by have := of_decide_eq_true cg; omega
      have eg : globsS p.globals = lineS 0 ([103, 108, 111, 98, 97, 108, 32] ++ Lib.join p.globals [44, 32] ++ [59]) := by rw [globsS, if_neg cg']
      have ej := fun s => Join_s (l := p.globals) (sep := [44, 32]) (by omega) (by omega) .shared s
      have b1 : (7 : Nat) + (Lib.join p.globals [44, 32]).length ≤ maxStr := by unfold maxStr; omega
      have b2 : (Lib.join p.globals [44, 32]).length + 1 + 1 + 1 + 1 + 1 + 1 + 1 + 1 ≤ maxStr := by unfold maxStr; omega
      have e1 := fun s a => line_first 0 ([103, 108, 111, 98, 97, 108, 32] ++ Lib.join p.globals [44, 32] ++ [59]) (by simp only [List.length_append, List.length_cons, List.length_nil]; omega) (s := s) (o := 1) a
      simp only [List.cons_append, List.nil_append, Int.cast_ofNat_Int] at e1 eg
      refine Fun.go has_print_Text rfl fun B Q hB hQ => ?_
      have hlt : 0 < 1 := Nat.zero_lt_one
      have hget : 0 < 1 := Nat.zero_lt_one
      have hpu : 0 < 1 := Nat.zero_lt_one
      have hinc : 0 < 1 := Nat.zero_lt_one
      repeat' (first
 | simp only [go_sem, hlt, hget, hpu, hinc, Int.reduceLE, ↓reduceIte, reduceCtorEq, Nat.reduceEqDiff, Nat.reduceLeDiff, Nat.reduceAdd, Nat.reduceMul, Nat.reduceSub, Nat.reduceLT, cm, cg, b1, b2]
 | (with_reducible refine CU (hm _) ?_)
 | (with_reducible refine CU (ej _) ?_)
 | (with_reducible refine CU (e1 _ (by with_unfolding_all rfl)) ?_)
 | (with_reducible first | refine CB_ofT (by assumption) fun hc => ?_ | refine CB_ofF (by assumption) fun hc => ?_ | refine CB_split (fun hc => ?_) fun hc => ?_) <;> (try simp only [hc, bs, ↓reduceIte] at h) <;> (try simp only [hc])
 | ((with_reducible first | refine leafR hQ ?_ | refine leafN hQ ?_); (try cases h); simp only [resL, oneD, Option.some.injEq, exists_eq_left', go_sem, hlt, hget, hpu, hinc, Int.reduceLE, ↓reduceIte, reduceCtorEq, Nat.reduceEqDiff, Nat.reduceLeDiff, Nat.reduceAdd, Nat.reduceMul, Nat.reduceSub, Nat.reduceLT, cm, cg, b1, b2]; repeat' (first | exact Ok.out | with_reducible refine And.intro ?_ ?_ | (simp; done)))
 | (cases h; replace h := hr; clear hr; (try simp only [bs, ↓reduceIte] at h))
 | (cases h; done))
      have hl := pText_loop hg hps hpl hB (R := textS p) (by simp only [textS, List.length_append]; omega) hQ (p.procs, 0, globsS p.globals) ⟨rfl, rfl, by dsimp only; omega⟩
      simp only [eg] at hl
      refine SemL.re _ _ 2 1 (by rw [hB]; exact Nat.le_of_ble_eq_true rfl) (by rw [hB]; exact Nat.le_of_ble_eq_true rfl) ?_ ?_ (hl)
      · (simp only [go_sem, hlt, hget, hpu, hinc, Int.reduceLE, ↓reduceIte, reduceCtorEq, Nat.reduceEqDiff, Nat.reduceLeDiff, Nat.reduceAdd, Nat.reduceMul, Nat.reduceSub, Nat.reduceLT]; repeat' (first | exact Ok.out | with_reducible refine And.intro ?_ ?_))
      · (simp only [go_sem, hlt, hget, hpu, hinc, Int.reduceLE, ↓reduceIte, reduceCtorEq, Nat.reduceEqDiff, Nat.reduceLeDiff, Nat.reduceAdd, Nat.reduceMul, Nat.reduceSub, Nat.reduceLT]; repeat' (first | exact Ok.out | with_reducible refine And.intro ?_ ?_))
    | false =>
      have cg' : p.globals.length = 0 := by have := of_decide_eq_false cg; omega
      have eg : globsS p.globals = [] := by rw [globsS, if_pos cg']
      refine Fun.go has_print_Text rfl fun B Q hB hQ => ?_
      have hlt : 0 < 1 := Nat.zero_lt_one
      have hget : 0 < 1 := Nat.zero_lt_one
      have hpu : 0 < 1 := Nat.zero_lt_one
      have hinc : 0 < 1 := Nat.zero_lt_one
      repeat' (first
 | simp only [go_sem, hlt, hget, hpu, hinc, Int.reduceLE, ↓reduceIte, reduceCtorEq, Nat.reduceEqDiff, Nat.reduceLeDiff, Nat.reduceAdd, Nat.reduceMul, Nat.reduceSub, Nat.reduceLT, cm, cg]
 | (with_reducible refine CU (hm _) ?_)
 | (with_reducible first | refine CB_ofT (by assumption) fun hc => ?_ | refine CB_ofF (by assumption) fun hc => ?_ | refine CB_split (fun hc => ?_) fun hc => ?_) <;> (try simp only [hc, bs, ↓reduceIte] at h) <;> (try simp only [hc])
 | ((with_reducible first | refine leafR hQ ?_ | refine leafN hQ ?_); (try cases h); simp only [resL, oneD, Option.some.injEq, exists_eq_left', go_sem, hlt, hget, hpu, hinc, Int.reduceLE, ↓reduceIte, reduceCtorEq, Nat.reduceEqDiff, Nat.reduceLeDiff, Nat.reduceAdd, Nat.reduceMul, Nat.reduceSub, Nat.reduceLT, cm, cg]; repeat' (first | exact Ok.out | with_reducible refine And.intro ?_ ?_ | (simp; done)))
 | (cases h; replace h := hr; clear hr; (try simp only [bs, ↓reduceIte] at h))
 | (cases h; done))
      refine SemL.tokB 1 1 1 true rfl rfl ?_
      simp only [go_sem, hlt, hget, hpu, hinc, Int.reduceLE, ↓reduceIte, reduceCtorEq, Nat.reduceEqDiff, Nat.reduceLeDiff, Nat.reduceAdd, Nat.reduceMul, Nat.reduceSub, Nat.reduceLT]
      have hl := pText_loop hg hps hpl hB (R := textS p) (by simp only [textS, List.length_append]; omega) hQ (p.procs, 0, globsS p.globals) ⟨rfl, rfl, by dsimp only; omega⟩
      simp only [eg] at hl
      refine SemL.re _ _ 2 1 (by rw [hB]; exact Nat.le_of_ble_eq_true rfl) (by rw [hB]; exact Nat.le_of_ble_eq_true rfl) ?_ ?_ (hl)
      · (simp only [go_sem, hlt, hget, hpu, hinc, Int.reduceLE, ↓reduceIte, reduceCtorEq, Nat.reduceEqDiff, Nat.reduceLeDiff, Nat.reduceAdd, Nat.reduceMul, Nat.reduceSub, Nat.reduceLT, bobj, encBy, List.map_nil, tWriter]; repeat' (first | exact Ok.out | with_reducible refine And.intro ?_ ?_))
      · (simp only [go_sem, hlt, hget, hpu, hinc, Int.reduceLE, ↓reduceIte, reduceCtorEq, Nat.reduceEqDiff, Nat.reduceLeDiff, Nat.reduceAdd, Nat.reduceMul, Nat.reduceSub, Nat.reduceLT, bobj, encBy, List.map_nil, tWriter]; repeat' (first | exact Ok.out | with_reducible refine And.intro ?_ ?_))

end Go.Abs

/-! PrMay -/

namespace Go.Abs
set_option linter.unusedSimpArgs false
set_option linter.unusedVariables false

mutual
/-- Its numbers are numbers. -/
def Sm.rng : Sm → Prop
  | ⟨_, _, _, _, _, x, _, args, thn, els⟩ => x.rng ∧ (∀ a ∈ args, a.x.rng) ∧ Sm.rngs thn ∧ Sm.rngs els
def Sm.rngs : List Sm → Prop
  | [] => True
  | s :: l => s.rng ∧ Sm.rngs l
end
def Pg.rng (p : Pg) : Prop := ∀ f ∈ p.procs, Sm.rngs f.body
theorem Sm.rng_eq (s : Sm) : s.rng ↔ s.x.rng ∧ (∀ a ∈ s.args, a.x.rng) ∧ Sm.rngs s.thn ∧ Sm.rngs s.els := by cases s; simp only [Sm.rng]

theorem one_PrO {s : Sm} (h : s.one = true) (hx : s.x.rng) (ha : ∀ a ∈ s.args, a.x.rng) : s.PrO := by
  unfold Sm.one at h
  split at h
  · cases h
  rename_i c1
  split at h
  · cases h
  rename_i c2
  split at h
  · cases h
  rename_i c3
  split at h
  · cases h
  rename_i c4
  simp only [Bool.or_eq_true, Bool.and_eq_true, decide_eq_true_eq, Bool.not_eq_true', not_or, Bool.not_eq_false, not_and, Bool.not_eq_true] at c1 c2 c3 c4
  refine ⟨fun k => may_formI (c1.1.1.2 k) hx, fun t ht => isName_len (mayNames_mem c1.1.1.1.2 ht), ?_, ?_, fun a m => ?_, by omega, fun k => ?_⟩
  · cases hn : s.hasName with
    | true => exact isName_len (c2.1 hn)
    | false =>
      by_cases e : s.name = []
      · rw [e]; simp
      · exact isName_len (c2.2 ⟨hn, by simpa using e⟩).2
  · cases hn : s.isCall with
    | true => exact isName_len (c3.1.2 hn)
    | false =>
      have : s.proc = [] := by
        have := c3.1.1
        rw [hn] at this
        simpa using this
      rw [this]; simp
  · have hm := mays_mem c4 m
    unfold Ar.may at hm
    split at hm
    · rename_i hr
      simp only [Bool.and_eq_true] at hm
      exact ⟨isName_len hm.1, fun h => by rw [hr] at h; cases h⟩
    · simp only [Bool.and_eq_true, beq_iff_eq] at hm
      exact ⟨by rw [hm.1]; simp, fun _ => may_formI hm.2 (ha a m)⟩
  · simp only [Bool.and_eq_true, Bool.or_eq_true, beq_iff_eq] at h
    rcases h.2 with h | h
    · exact List.eq_nil_of_length_eq_zero (by omega)
    · omega

mutual
theorem mayR_PrR : ∀ (s : Sm) (inn n : Nat), (inn : Int) ≤ 12 → (Sm.mayR inn n s).1 = true → s.rng → s.PrR inn
  | ⟨id, kind, labels, name, proc, x, has, args, thn, els⟩, inn, n, h12, hm, hr => by
    obtain ⟨_, _, h1, h2, h3, _⟩ := mayR_true hm
    obtain ⟨r1, r2, r3, r4⟩ := (Sm.rng_eq _).1 hr
    rw [PrR_eq]
    have t2 := mayG_true h2
    have t3 := mayG_true h3
    rw [t2.2] at h2
    rw [t3.2] at h3
    refine ⟨one_PrO h1 r1 r2, by omega, ?_, ?_⟩
    · exact mayL_PrR thn (inn + 1) _ (t2.1.imp_right fun h => by omega) (by simpa using h2) r3
    · exact mayL_PrR els (inn + 1) _ (t3.1.imp_right fun h => by omega) (by simpa using h3) r4
theorem mayL_PrR : ∀ (l : List Sm) (inn n : Nat), (l = [] ∨ (inn : Int) ≤ 12) → (Sm.mayL inn n l).1 = true → Sm.rngs l → Sm.PrRs inn l
  | [], _, _, _, _, _ => by simp only [Sm.PrRs]
  | s :: l, inn, n, h12, hm, hr => by
    have h12 : (inn : Int) ≤ 12 := h12.resolve_left (by simp)
    simp only [Sm.mayL] at hm
    simp only [Sm.rngs] at hr
    split at hm
    · cases hm
    rename_i hc
    simp only [Bool.not_eq_true', Bool.not_eq_false] at hc
    exact ⟨mayR_PrR s inn n h12 hc hr.1, mayL_PrR l inn _ (.inr h12) hm hr.2⟩
end

theorem pmayL_mem {f : Pc} : ∀ {l : List Pc} {n : Nat}, Pc.mayL n l = true → f ∈ l → (isName f.name = true ∧ mayNames f.vars = true ∧ mayNames f.fin = true ∧ Pm.mays f.params = true) ∧ ∃ n, (Sm.mayG 1 n f.body).1 = true
  | g :: l, n, h, m => by
    simp only [Pc.mayL] at h
    split at h
    · cases h
    rename_i c1
    split at h
    · cases h
    rename_i c2
    split at h
    · cases h
    rename_i c3
    simp only [Bool.or_eq_true, Bool.not_eq_true', not_or, Bool.not_eq_false] at c1 c2 c3
    rcases List.mem_cons.1 m with rfl | m
    · exact ⟨⟨c1.1.1.2, c1.1.2, c1.2, c2⟩, n, c3⟩
    · exact pmayL_mem h m

theorem may_PrG {p : Pg} (h : p.may = true) (hr : p.rng) : p.PrG := by
  rw [← mayP_eq] at h
  unfold Pg.mayP at h
  split at h
  · cases h
  rename_i c
  simp only [Bool.or_eq_true, Bool.not_eq_true', not_or, Bool.not_eq_false] at c
  refine ⟨fun t ht => isName_len (mayNames_mem c.2 ht), fun f hf => ?_⟩
  obtain ⟨⟨a, b, c, d⟩, n, e⟩ := pmayL_mem h hf
  have t := mayG_true e
  rw [t.2] at e
  exact ⟨isName_len a, fun x hx => isName_len (pmays_mem d hx), fun x hx => isName_len (mayNames_mem b hx), fun x hx => isName_len (mayNames_mem c hx), mayL_PrR f.body 1 n (.inr (by omega)) e (hr f hf)⟩

/-! ### It is asked alike -/

mutual
theorem mayR_FineD : ∀ (s : Sm) (nest : Int) (n : Nat), (Sm.mayR nest n s).1 = true → s.size < 4611686018427387000 → s.FineD
  | ⟨id, kind, labels, name, proc, x, has, args, thn, els⟩, nest, n, hm, hs => by
    obtain ⟨_, _, h1, h2, h3, _⟩ := mayR_true hm
    rw [FineD_eq]
    rw [(mayG_true h2).2] at h2
    rw [(mayG_true h3).2] at h3
    refine ⟨one_fine h1 hs, mayL_FineD thn _ _ h2 ?_, mayL_FineD els _ _ h3 ?_⟩ <;> simp only [Sm.size] at hs <;> omega
theorem mayL_FineD : ∀ (l : List Sm) (nest : Int) (n : Nat), (Sm.mayL nest n l).1 = true → Sm.sizes l < 4611686018427387000 → Sm.FineDs l
  | [], _, _, _, _ => by simp only [Sm.FineDs]
  | s :: l, nest, n, hm, hs => by
    simp only [Sm.mayL] at hm
    simp only [Sm.sizes] at hs
    split at hm
    · cases hm
    rename_i hc
    simp only [Bool.not_eq_true', Bool.not_eq_false] at hc
    exact ⟨mayR_FineD s nest n hc (by omega), mayL_FineD l nest _ hm (by omega)⟩
end
theorem may_FineP {p : Pg} (h : p.may = true) (hs : p.size < 4611686018427387000) : p.FineP := by
  have hf := may_fine h hs
  rw [← mayP_eq] at h
  unfold Pg.mayP at h
  split at h
  · cases h
  refine ⟨hf.sz, hf.glob, hf.heads, fun f m => ?_⟩
  obtain ⟨_, n, e⟩ := pmayL_mem h m
  rw [(mayG_true e).2] at e
  have := Pc.sizes_mem m
  simp only [Pg.size] at hs
  exact mayL_FineD f.body 1 n e (by unfold Pc.size at this; omega)

mutual
theorem flatS_fine {deep inn : Int} {els : Bool} {out : List It} {i : It} : ∀ s : Sm, s.FineD → i ∈ flatS deep inn els out s → i ∈ out ∨ i.s.Fine
  | ⟨id, kind, labels, name, proc, x, has, args, thn, e⟩, hf, h => by
    simp only [flatS] at h
    simp only [Sm.FineD] at hf
    have key : i ∈ out ++ [(⟨⟨id, kind, labels, name, proc, x, has, args, thn, e⟩, deep, inn, els⟩ : It)] → i ∈ out ∨ i.s.Fine := by
      intro h
      rcases List.mem_append.1 h with h | h
      · exact .inl h
      · simp at h; subst h; exact .inr hf.1
    split at h
    · rcases flatL_fine e hf.2.2 h with h | h
      · rcases flatL_fine thn hf.2.1 h with h | h
        · exact key h
        · exact .inr h
      · exact .inr h
    · exact key h
theorem flatL_fine {deep inn : Int} {els : Bool} {out : List It} {i : It} : ∀ l : List Sm, Sm.FineDs l → i ∈ flatL deep inn els out l → i ∈ out ∨ i.s.Fine
  | [], _, h => by simp only [flatL] at h; exact .inl h
  | s :: l, hf, h => by
    simp only [flatL] at h
    simp only [Sm.FineDs] at hf
    split at h
    · rcases flatL_fine l hf.2 h with h | h
      · exact flatS_fine s hf.1 h
      · exact .inr h
    · exact .inl h
end
theorem allM_fine {i : It} : ∀ (l : List Pc) (out : List It), (∀ f ∈ l, Sm.FineDs f.body) → i ∈ allM out l → i ∈ out ∨ i.s.Fine
  | [], out, _, h => by simp only [allM] at h; exact .inl h
  | f :: l, out, hf, h => by
    have key : i ∈ out ++ f.flat → i ∈ out ∨ i.s.Fine := by
      intro h
      rcases List.mem_append.1 h with h | h
      · exact .inl h
      · rcases flatL_fine _ (hf f (List.mem_cons_self ..)) h with h | h
        · simp at h
        · exact .inr h
    simp only [allM] at h
    split at h
    · exact key h
    · rcases allM_fine l _ (fun g m => hf g (List.mem_cons_of_mem _ m)) h with h | h
      · exact key h
      · exact .inr h
theorem fineP_fine {p : Pg} (h : p.FineP) : p.Fine := ⟨h.sz, h.glob, h.heads, fun i hi => (allM_fine p.procs [] h.body hi).resolve_left (by simp)⟩

end Go.Abs

/-! Fits1 -/

namespace Go.Abs

set_option maxRecDepth 8000
set_option linter.unusedSimpArgs false
set_option linter.unusedVariables false
open Go.Proofs

def weighTs : List Str → Int → Int
  | [], n => n
  | t :: l, n => if n ≤ 20000 then weighTs l (weighT t n) else n
def weighAs : List Ar → Int → Int
  | [], n => n
  | a :: l, n => if n ≤ 20000 then weighAs l (weighT a.name (weighE a.x n)) else n
def weighMs : List Pm → Int → Int
  | [], n => n
  | a :: l, n => if n ≤ 20000 then weighMs l (weighT a.name n) else n
mutual
def weighS : Sm → Int → Int
  | ⟨_, _, labels, name, proc, x, _, args, thn, els⟩, n => weighSs els (weighSs thn (weighAs args (weighT proc (weighT name (weighTs labels (weighE x n))))))
def weighSs : List Sm → Int → Int
  | [], n => n
  | s :: l, n => if n ≤ 20000 then weighSs l (weighS s n) else n
end
theorem weighS_eq (s : Sm) (n : Int) : weighS s n = weighSs s.els (weighSs s.thn (weighAs s.args (weighT s.proc (weighT s.name (weighTs s.labels (weighE s.x n)))))) := by cases s; simp only [weighS]
def weighF (f : Pc) (n : Int) : Int := weighSs f.body (weighMs f.params (weighTs f.fin (weighTs f.vars (weighT f.name n))))
def weighFs : List Pc → Int → Int
  | [], n => n
  | f :: l, n => if n ≤ 20000 then weighFs l (weighF f n) else n
def Pg.weigh (p : Pg) : Int := weighFs p.procs (weighTs p.globals 0)

theorem weighTs_in : ∀ (l : List Str) {n : Int}, 0 ≤ n → n ≤ 20001 → weighTs l n ≤ 20001 ∧ n ≤ weighTs l n ∧ (weighTs l n ≤ 20000 → n + l.length ≤ weighTs l n ∧ ∀ t ∈ l, t.length < 4611686018427387904)
  | [], n, h0, h1 => by simp only [weighTs]; exact ⟨h1, Int.le_refl _, fun _ => ⟨by simp, by simp⟩⟩
  | t :: l, n, h0, h1 => by
    simp only [weighTs]
    split
    · rename_i hc
      obtain ⟨a1, a2, a3, a4⟩ := weighT_in (t := t) h0
      obtain ⟨b1, b2, b3⟩ := weighTs_in l (n := weighT t n) a3 a1
      have := a2 hc
      refine ⟨b1, by omega, fun hw => ?_⟩
      obtain ⟨c1, c2⟩ := b3 hw
      have := a4 (by omega)
      refine ⟨by simp only [List.length_cons]; omega, fun s m => ?_⟩
      rcases List.mem_cons.1 m with rfl | m
      · omega
      · exact c2 s m
    · exact ⟨h1, Int.le_refl _, fun hw => by omega⟩
theorem weighMs_in : ∀ (l : List Pm) {n : Int}, 0 ≤ n → n ≤ 20001 → weighMs l n ≤ 20001 ∧ n ≤ weighMs l n ∧ (weighMs l n ≤ 20000 → n + l.length ≤ weighMs l n ∧ ∀ t ∈ l, t.name.length < 4611686018427387904)
  | [], n, h0, h1 => by simp only [weighMs]; exact ⟨h1, Int.le_refl _, fun _ => ⟨by simp, by simp⟩⟩
  | t :: l, n, h0, h1 => by
    simp only [weighMs]
    split
    · rename_i hc
      obtain ⟨a1, a2, a3, a4⟩ := weighT_in (t := t.name) h0
      obtain ⟨b1, b2, b3⟩ := weighMs_in l (n := weighT t.name n) a3 a1
      have := a2 hc
      refine ⟨b1, by omega, fun hw => ?_⟩
      obtain ⟨c1, c2⟩ := b3 hw
      have := a4 (by omega)
      refine ⟨by simp only [List.length_cons]; omega, fun s m => ?_⟩
      rcases List.mem_cons.1 m with rfl | m
      · omega
      · exact c2 s m
    · exact ⟨h1, Int.le_refl _, fun hw => by omega⟩
theorem weighAs_in : ∀ (l : List Ar) {n : Int}, 0 ≤ n → n ≤ 20001 → weighAs l n ≤ 20001 ∧ n ≤ weighAs l n ∧
    (weighAs l n ≤ 20000 → (Ar.sizes l : Int) ≤ 2 * (weighAs l n - n) ∧ ∀ a ∈ l, a.x.size < 4611686018427387904 ∧ a.x.texts ∧ a.name.length < 4611686018427387904)
  | [], n, h0, h1 => by simp only [weighAs]; exact ⟨h1, Int.le_refl _, fun _ => ⟨by simp [Ar.sizes], by simp⟩⟩
  | a :: l, n, h0, h1 => by
    simp only [weighAs]
    split
    · rename_i hc
      obtain ⟨a1, a2, a3, a4⟩ := weigh_in _ a.x (Nat.le_refl _) n h0
      obtain ⟨e1, e2, e3, e4⟩ := weighT_in (t := a.name) a3
      obtain ⟨b1, b2, b3⟩ := weighAs_in l (n := weighT a.name (weighE a.x n)) e3 e1
      have := a2 hc
      have : weighE a.x n ≤ weighT a.name (weighE a.x n) := by
        by_cases h : weighE a.x n ≤ 20000
        · have := e2 h; omega
        · have : weighT a.name (weighE a.x n) = 20001 := by unfold weighT; rw [if_pos (by omega)]
          omega
      refine ⟨b1, by omega, fun hw => ?_⟩
      obtain ⟨c1, c2⟩ := b3 hw
      have := e4 (by omega)
      obtain ⟨d1, d2⟩ := a4 (by omega)
      refine ⟨by simp only [Ar.sizes]; omega, fun s m => ?_⟩
      rcases List.mem_cons.1 m with rfl | m
      · exact ⟨by omega, d2, by omega⟩
      · exact c2 s m
    · exact ⟨h1, Int.le_refl _, fun hw => by omega⟩
theorem weighT_mono {t : Str} {n : Int} (h0 : 0 ≤ n) (h1 : n ≤ 20001) : n ≤ weighT t n ∧ weighT t n ≤ 20001 ∧ (weighT t n ≤ 20000 → n + 1 ≤ weighT t n ∧ t.length < 4611686018427387904) := by
  obtain ⟨e1, e2, e3, e4⟩ := weighT_in (t := t) h0
  by_cases h : n ≤ 20000
  · have := e2 h
    exact ⟨by omega, e1, fun hw => ⟨by omega, by have := e4 hw; omega⟩⟩
  · have : weighT t n = 20001 := by unfold weighT; rw [if_pos (by omega)]
    exact ⟨by omega, e1, fun hw => by omega⟩

mutual
theorem weighS_in : ∀ (s : Sm) {n : Int}, 0 ≤ n → n ≤ 20000 → weighS s n ≤ 20001 ∧ n + 1 ≤ weighS s n ∧ (weighS s n ≤ 20000 → (s.size : Int) + 1 ≤ 2 * (weighS s n - n) ∧ s.FineD)
  | ⟨id, kind, labels, name, proc, x, has, args, thn, els⟩, n, h0, h1 => by
    obtain ⟨a1, a2, a3, a4⟩ := weigh_in _ x (Nat.le_refl _) n h0
    have a2 := a2 h1
    obtain ⟨b1, b2, b3⟩ := weighTs_in labels a3 a1
    obtain ⟨c1, c2, c3⟩ := weighT_mono (t := name) (n := weighTs labels (weighE x n)) (by omega) b1
    obtain ⟨d1, d2, d3⟩ := weighT_mono (t := proc) (n := weighT name (weighTs labels (weighE x n))) (by omega) c2
    obtain ⟨e1, e2, e3⟩ := weighAs_in args (n := weighT proc (weighT name (weighTs labels (weighE x n)))) (by omega) d2
    obtain ⟨f1, f2, f3⟩ := weighSs_in thn (n := weighAs args (weighT proc (weighT name (weighTs labels (weighE x n))))) (by omega) e1
    obtain ⟨g1, g2, g3⟩ := weighSs_in els (n := weighSs thn (weighAs args (weighT proc (weighT name (weighTs labels (weighE x n)))))) (by omega) f1
    simp only [weighS, Sm.size]
    refine ⟨g1, by omega, fun hw => ?_⟩
    obtain ⟨g4, g5⟩ := g3 hw
    obtain ⟨f4, f5⟩ := f3 (by omega)
    obtain ⟨e4, e5⟩ := e3 (by omega)
    obtain ⟨d4, d5⟩ := d3 (by omega)
    obtain ⟨c4, c5⟩ := c3 (by omega)
    obtain ⟨b4, b5⟩ := b3 (by omega)
    obtain ⟨a5, a6⟩ := a4 (by omega)
    have := Ar.sizes_len args
    refine ⟨by omega, ?_⟩
    rw [FineD_eq]
    exact ⟨⟨b5, by dsimp only; omega, c5, d5, by dsimp only; omega, a6, by dsimp only; omega, e5⟩, f5, g5⟩
theorem weighSs_in : ∀ (l : List Sm) {n : Int}, 0 ≤ n → n ≤ 20001 → weighSs l n ≤ 20001 ∧ n ≤ weighSs l n ∧ (weighSs l n ≤ 20000 → (Sm.sizes l : Int) ≤ 2 * (weighSs l n - n) ∧ Sm.FineDs l)
  | [], n, h0, h1 => by simp only [weighSs]; exact ⟨h1, Int.le_refl _, fun _ => ⟨by simp [Sm.sizes], by simp only [Sm.FineDs]⟩⟩
  | s :: l, n, h0, h1 => by
    simp only [weighSs]
    split
    · rename_i hc
      obtain ⟨a1, a2, a3⟩ := weighS_in s h0 hc
      obtain ⟨b1, b2, b3⟩ := weighSs_in l (n := weighS s n) (by omega) a1
      refine ⟨b1, by omega, fun hw => ?_⟩
      obtain ⟨c1, c2⟩ := b3 hw
      obtain ⟨d1, d2⟩ := a3 (by omega)
      exact ⟨by simp only [Sm.sizes]; omega, d2, c2⟩
    · exact ⟨h1, Int.le_refl _, fun hw => by omega⟩
end

theorem weighF_in (f : Pc) {n : Int} (h0 : 0 ≤ n) (h1 : n ≤ 20000) : weighF f n ≤ 20001 ∧ n + 1 ≤ weighF f n ∧ (weighF f n ≤ 20000 → (f.size : Int) + 1 ≤ 2 * (weighF f n - n) ∧
    (f.name.length < 4611686018427387904 ∧ (∀ t ∈ f.vars, t.length < 4611686018427387904) ∧ (∀ t ∈ f.fin, t.length < 4611686018427387904) ∧ ∀ a ∈ f.params, a.name.length < 4611686018427387904) ∧ Sm.FineDs f.body) := by
  obtain ⟨c1, c2, c3⟩ := weighT_mono (t := f.name) h0 (by omega : n ≤ 20001)
  have c4 := (weighT_in (t := f.name) h0).2.1 h1
  obtain ⟨d1, d2, d3⟩ := weighTs_in f.vars (n := weighT f.name n) (by omega) c2
  obtain ⟨e1, e2, e3⟩ := weighTs_in f.fin (n := weighTs f.vars (weighT f.name n)) (by omega) d1
  obtain ⟨g1, g2, g3⟩ := weighMs_in f.params (n := weighTs f.fin (weighTs f.vars (weighT f.name n))) (by omega) e1
  obtain ⟨k1, k2, k3⟩ := weighSs_in f.body (n := weighMs f.params (weighTs f.fin (weighTs f.vars (weighT f.name n)))) (by omega) g1
  unfold weighF Pc.size
  refine ⟨k1, by omega, fun hw => ?_⟩
  obtain ⟨k4, k5⟩ := k3 hw
  obtain ⟨g4, g5⟩ := g3 (by omega)
  obtain ⟨e4, e5⟩ := e3 (by omega)
  obtain ⟨d4, d5⟩ := d3 (by omega)
  obtain ⟨_, c5⟩ := c3 (by omega)
  exact ⟨by omega, ⟨c5, d5, e5, g5⟩, k5⟩

theorem weighFs_in : ∀ (l : List Pc) {n : Int}, 0 ≤ n → n ≤ 20001 → weighFs l n ≤ 20001 ∧ n ≤ weighFs l n ∧ (weighFs l n ≤ 20000 → (Pc.sizes l : Int) ≤ 2 * (weighFs l n - n) ∧ ∀ f ∈ l,
    (f.name.length < 4611686018427387904 ∧ (∀ t ∈ f.vars, t.length < 4611686018427387904) ∧ (∀ t ∈ f.fin, t.length < 4611686018427387904) ∧ ∀ a ∈ f.params, a.name.length < 4611686018427387904) ∧ Sm.FineDs f.body)
  | [], n, h0, h1 => by simp only [weighFs]; exact ⟨h1, Int.le_refl _, fun _ => ⟨by simp [Pc.sizes], by simp⟩⟩
  | f :: l, n, h0, h1 => by
    simp only [weighFs]
    split
    · rename_i hc
      obtain ⟨a1, a2, a3⟩ := weighF_in f h0 hc
      obtain ⟨b1, b2, b3⟩ := weighFs_in l (n := weighF f n) (by omega) a1
      refine ⟨b1, by omega, fun hw => ?_⟩
      obtain ⟨c1, c2⟩ := b3 hw
      obtain ⟨d1, d2⟩ := a3 (by omega)
      refine ⟨by simp only [Pc.sizes]; omega, fun s m => ?_⟩
      rcases List.mem_cons.1 m with rfl | m
      · exact d2
      · exact c2 s m
    · exact ⟨h1, Int.le_refl _, fun hw => by omega⟩

theorem weigh_fits {p : Pg} (h : p.weigh ≤ 20000) : p.size ≤ 40001 ∧ p.FineP := by
  unfold Pg.weigh at h
  obtain ⟨a1, a2, a3⟩ := weighTs_in p.globals (n := 0) (by omega) (by omega)
  obtain ⟨b1, b2, b3⟩ := weighFs_in p.procs (n := weighTs p.globals 0) (by omega) a1
  obtain ⟨c1, c2⟩ := b3 h
  obtain ⟨d1, d2⟩ := a3 (by omega)
  have : p.size ≤ 40001 := by unfold Pg.size; omega
  exact ⟨this, by omega, d2, fun f m => (c2 f m).1, fun f m => (c2 f m).2⟩

/-! ### The walk -/

theorem weighTs_s {l : List Str} {n : Int} (h0 : 0 ≤ n) (h1 : n ≤ 20001) (s : St) : Fun Tryd.prog n_ref3_weighTexts [.slice .shared 1 (l.map encStr), .int .i64 n] s (.int .i64 (weighTs l n)) s := by
  refine Fun.pure ?_ (by simp [D.oks, D.ok, okrStr, Tag.ok]) rfl s
  unfold S0
  generalize h : weighTs l n = p
  refine Fun.go has_ref3_weighTexts rfl fun B Q hB hQ => ?_
  have hlt : 0 < 1 := Nat.zero_lt_one
  have hget : 0 < 1 := Nat.zero_lt_one
  have hpu : 0 < 1 := Nat.zero_lt_one
  have hinc : 0 < 1 := Nat.zero_lt_one
  repeat' (first
 | simp only [go_sem, hlt, hget, hpu, hinc, Int.reduceLE, ↓reduceIte, reduceCtorEq, Nat.reduceEqDiff, Nat.reduceLeDiff, Nat.reduceAdd, Nat.reduceMul, Nat.reduceSub, Nat.reduceLT]
 | (with_reducible first | refine CB_ofT (by assumption) fun hc => ?_ | refine CB_ofF (by assumption) fun hc => ?_ | refine CB_split (fun hc => ?_) fun hc => ?_) <;> (try simp only [hc, bs, ↓reduceIte] at h) <;> (try simp only [hc])
 | ((with_reducible first | refine leafR hQ ?_ | refine leafN hQ ?_); (try cases h); simp only [resL, oneD, Option.some.injEq, exists_eq_left', go_sem, hlt, hget, hpu, hinc, Int.reduceLE, ↓reduceIte, reduceCtorEq, Nat.reduceEqDiff, Nat.reduceLeDiff, Nat.reduceAdd, Nat.reduceMul, Nat.reduceSub, Nat.reduceLT]; repeat' (first | exact Ok.out | with_reducible refine And.intro ?_ ?_ | (simp; done)))
 | (cases h; replace h := hr; clear hr; (try simp only [bs, ↓reduceIte] at h))
 | (cases h; done))
  refine SemL.re _ _ 0 0 (by rw [hB]; exact Nat.le_of_ble_eq_true rfl) (by rw [hB]; exact Nat.le_of_ble_eq_true rfl) ?_ ?_ (SemL.ind (ι := List Str × Nat × Int) (fun i => l.drop i.2.1 = i.1 ∧ weighTs i.1 i.2.2 = p ∧ (i.2.1 : Int) ≤ i.2.2 ∧ i.2.2 ≤ 20001) (fun i => i.1.length)
    (fun i => [(0, .slice .shared 1 (l.map encStr)), (1, .int .i64 i.2.2), (5, .int .i64 (i.2.1 : Int))]) (fun i => ⟨[], []⟩) ?_ (l, 0, n) ⟨rfl, h, h0, h1⟩)
  · (simp only [go_sem, hlt, hget, hpu, hinc, Int.reduceLE, ↓reduceIte, reduceCtorEq, Nat.reduceEqDiff, Nat.reduceLeDiff, Nat.reduceAdd, Nat.reduceMul, Nat.reduceSub, Nat.reduceLT]; repeat' (first | exact Ok.out | with_reducible refine And.intro ?_ ?_))
  · (simp only [go_sem, hlt, hget, hpu, hinc, Int.reduceLE, ↓reduceIte, reduceCtorEq, Nat.reduceEqDiff, Nat.reduceLeDiff, Nat.reduceAdd, Nat.reduceMul, Nat.reduceSub, Nat.reduceLT]; repeat' (first | exact Ok.out | with_reducible refine And.intro ?_ ?_))
  rintro ⟨rest, k, c⟩ ⟨g1, h, g3, g4⟩ IH
  dsimp only at g1 h g3 g4
  cases rest with
  | nil =>
    have hlt := drop_nil g1
    simp only [weighTs] at h
    subst h
    repeat' (first
 | simp only [go_sem, hlt, hget, hpu, hinc, Int.reduceLE, ↓reduceIte, reduceCtorEq, Nat.reduceEqDiff, Nat.reduceLeDiff, Nat.reduceAdd, Nat.reduceMul, Nat.reduceSub, Nat.reduceLT]
 | (with_reducible first | refine CB_ofT (by assumption) fun hc => ?_ | refine CB_ofF (by assumption) fun hc => ?_ | refine CB_split (fun hc => ?_) fun hc => ?_) <;> (try simp only [hc, bs, ↓reduceIte] at h) <;> (try simp only [hc])
 | ((with_reducible first | refine leafR hQ ?_ | refine leafN hQ ?_); (try cases h); simp only [resL, oneD, Option.some.injEq, exists_eq_left', go_sem, hlt, hget, hpu, hinc, Int.reduceLE, ↓reduceIte, reduceCtorEq, Nat.reduceEqDiff, Nat.reduceLeDiff, Nat.reduceAdd, Nat.reduceMul, Nat.reduceSub, Nat.reduceLT]; repeat' (first | exact Ok.out | with_reducible refine And.intro ?_ ?_ | (simp; done)))
 | (cases h; replace h := hr; clear hr; (try simp only [bs, ↓reduceIte] at h))
 | (cases h; done))
  | cons y rest =>
    obtain ⟨hget, g2, hlt, g5⟩ := drop_cons g1
    simp only [weighTs] at h
    by_cases hc : c ≤ 20000
    · have c1 : decide (c ≤ 20000) = true := by simp; omega
      have hy := fun s => weighT_s y (n := c) (by omega) g4 s
      obtain ⟨a1, a2, a3, a4⟩ := weighT_in (t := y) (n := c) (by omega)
      have := a2 hc
      have w3 : IntKind.wrap .i64 ((k : Int) + 1) = ((k + 1 : Nat) : Int) := by rw [wrap_ok] <;> omega
      rw [if_pos hc] at h
      repeat' (first
 | simp only [go_sem, hlt, hget, hpu, hinc, Int.reduceLE, ↓reduceIte, reduceCtorEq, Nat.reduceEqDiff, Nat.reduceLeDiff, Nat.reduceAdd, Nat.reduceMul, Nat.reduceSub, Nat.reduceLT, c1, w3]
 | (with_reducible refine CU (hy _) ?_)
 | (with_reducible first | refine CB_ofT (by assumption) fun hc => ?_ | refine CB_ofF (by assumption) fun hc => ?_ | refine CB_split (fun hc => ?_) fun hc => ?_) <;> (try simp only [hc, bs, ↓reduceIte] at h) <;> (try simp only [hc])
 | ((with_reducible first | refine leafR hQ ?_ | refine leafN hQ ?_); (try cases h); simp only [resL, oneD, Option.some.injEq, exists_eq_left', go_sem, hlt, hget, hpu, hinc, Int.reduceLE, ↓reduceIte, reduceCtorEq, Nat.reduceEqDiff, Nat.reduceLeDiff, Nat.reduceAdd, Nat.reduceMul, Nat.reduceSub, Nat.reduceLT, c1, w3]; repeat' (first | exact Ok.out | with_reducible refine And.intro ?_ ?_ | (simp; done)))
 | (cases h; replace h := hr; clear hr; (try simp only [bs, ↓reduceIte] at h))
 | (cases h; done))
      refine SemL.re _ _ 0 0 (by rw [hB]; exact Nat.le_of_ble_eq_true rfl) (by rw [hB]; exact Nat.le_of_ble_eq_true rfl) ?_ ?_ (IH (rest, k + 1, weighT y c) ⟨g2, h, by dsimp only; omega, a1⟩ (Nat.lt_succ_self _))
      · (simp only [go_sem, hlt, hget, hpu, hinc, Int.reduceLE, ↓reduceIte, reduceCtorEq, Nat.reduceEqDiff, Nat.reduceLeDiff, Nat.reduceAdd, Nat.reduceMul, Nat.reduceSub, Nat.reduceLT]; repeat' (first | exact Ok.out | with_reducible refine And.intro ?_ ?_))
      · (simp only [go_sem, hlt, hget, hpu, hinc, Int.reduceLE, ↓reduceIte, reduceCtorEq, Nat.reduceEqDiff, Nat.reduceLeDiff, Nat.reduceAdd, Nat.reduceMul, Nat.reduceSub, Nat.reduceLT]; repeat' (first | exact Ok.out | with_reducible refine And.intro ?_ ?_))
    · have c1 : decide (c ≤ 20000) = false := by simp; omega
      rw [if_neg hc] at h
      subst h
      repeat' (first
 | simp only [go_sem, hlt, hget, hpu, hinc, Int.reduceLE, ↓reduceIte, reduceCtorEq, Nat.reduceEqDiff, Nat.reduceLeDiff, Nat.reduceAdd, Nat.reduceMul, Nat.reduceSub, Nat.reduceLT, c1]
 | (with_reducible first | refine CB_ofT (by assumption) fun hc => ?_ | refine CB_ofF (by assumption) fun hc => ?_ | refine CB_split (fun hc => ?_) fun hc => ?_) <;> (try simp only [hc, bs, ↓reduceIte] at h) <;> (try simp only [hc])
 | ((with_reducible first | refine leafR hQ ?_ | refine leafN hQ ?_); (try cases h); simp only [resL, oneD, Option.some.injEq, exists_eq_left', go_sem, hlt, hget, hpu, hinc, Int.reduceLE, ↓reduceIte, reduceCtorEq, Nat.reduceEqDiff, Nat.reduceLeDiff, Nat.reduceAdd, Nat.reduceMul, Nat.reduceSub, Nat.reduceLT, c1]; repeat' (first | exact Ok.out | with_reducible refine And.intro ?_ ?_ | (simp; done)))
 | (cases h; replace h := hr; clear hr; (try simp only [bs, ↓reduceIte] at h))
 | (cases h; done))

theorem weighSs_s : ∀ (m : Nat) (l : List Sm), Sm.sizes l ≤ m → ∀ {n : Int}, 0 ≤ n → n ≤ 20001 → ∀ s : St, Fun Tryd.prog n_ref3_weighStmts [.slice .shared 13 (l.map encSm), .int .i64 n] s (.int .i64 (weighSs l n)) s := by
  intro m
  induction m with
  | zero =>
    intro l h n h0 h1 s
    cases l with
    | nil =>
      have z : decide ((0 : Int) < 0) = false := rfl
      refine Fun.pure ?_ (by simp [D.oks, D.ok, D.okr, Tag.ok]) rfl s
      unfold S0
      simp only [weighSs]
      refine Fun.go has_ref3_weighStmts rfl fun B Q hB hQ => ?_
      have hlt : 0 < 1 := Nat.zero_lt_one
      have hget : 0 < 1 := Nat.zero_lt_one
      have hpu : 0 < 1 := Nat.zero_lt_one
      have hinc : 0 < 1 := Nat.zero_lt_one
      repeat' (first
 | simp only [go_sem, hlt, hget, hpu, hinc, Int.reduceLE, ↓reduceIte, reduceCtorEq, Nat.reduceEqDiff, Nat.reduceLeDiff, Nat.reduceAdd, Nat.reduceMul, Nat.reduceSub, Nat.reduceLT, z]
 | (with_reducible refine SemL.onceW ?_)
 | (with_reducible first | refine CB_ofT (by assumption) fun hc => ?_ | refine CB_ofF (by assumption) fun hc => ?_ | refine CB_split (fun hc => ?_) fun hc => ?_) <;> (try simp only [hc, bs, ↓reduceIte] at h) <;> (try simp only [hc])
 | ((with_reducible first | refine leafR hQ ?_ | refine leafN hQ ?_); (try cases h); simp only [resL, oneD, Option.some.injEq, exists_eq_left', go_sem, hlt, hget, hpu, hinc, Int.reduceLE, ↓reduceIte, reduceCtorEq, Nat.reduceEqDiff, Nat.reduceLeDiff, Nat.reduceAdd, Nat.reduceMul, Nat.reduceSub, Nat.reduceLT, z]; repeat' (first | exact Ok.out | with_reducible refine And.intro ?_ ?_ | (simp; done)))
 | (cases h; replace h := hr; clear hr; (try simp only [bs, ↓reduceIte] at h))
 | (cases h; done))
    | cons s l => simp only [Sm.sizes] at h; omega
  | succ m ih =>
    intro l h n h0 h1 s
    refine Fun.pure ?_ (by simp [D.oks, D.ok, okrSm, Tag.ok]) rfl s
    unfold S0
    generalize hp : weighSs l n = p
    refine Fun.go has_ref3_weighStmts rfl fun B Q hB hQ => ?_
    have hlt : 0 < 1 := Nat.zero_lt_one
    have hget : 0 < 1 := Nat.zero_lt_one
    have hpu : 0 < 1 := Nat.zero_lt_one
    have hinc : 0 < 1 := Nat.zero_lt_one
    repeat' (first
 | simp only [go_sem, hlt, hget, hpu, hinc, Int.reduceLE, ↓reduceIte, reduceCtorEq, Nat.reduceEqDiff, Nat.reduceLeDiff, Nat.reduceAdd, Nat.reduceMul, Nat.reduceSub, Nat.reduceLT]
 | (with_reducible first | refine CB_ofT (by assumption) fun hc => ?_ | refine CB_ofF (by assumption) fun hc => ?_ | refine CB_split (fun hc => ?_) fun hc => ?_) <;> (try simp only [hc, bs, ↓reduceIte] at h) <;> (try simp only [hc])
 | ((with_reducible first | refine leafR hQ ?_ | refine leafN hQ ?_); (try cases h); simp only [resL, oneD, Option.some.injEq, exists_eq_left', go_sem, hlt, hget, hpu, hinc, Int.reduceLE, ↓reduceIte, reduceCtorEq, Nat.reduceEqDiff, Nat.reduceLeDiff, Nat.reduceAdd, Nat.reduceMul, Nat.reduceSub, Nat.reduceLT]; repeat' (first | exact Ok.out | with_reducible refine And.intro ?_ ?_ | (simp; done)))
 | (cases h; replace h := hr; clear hr; (try simp only [bs, ↓reduceIte] at h))
 | (cases h; done))
    refine SemL.re _ _ 0 0 (by rw [hB]; exact Nat.le_of_ble_eq_true rfl) (by rw [hB]; exact Nat.le_of_ble_eq_true rfl) ?_ ?_ (SemL.ind (ι := List Sm × Nat × Int) (fun i => l.drop i.2.1 = i.1 ∧ weighSs i.1 i.2.2 = p ∧ (i.2.1 : Int) ≤ i.2.2 ∧ i.2.2 ≤ 20001) (fun i => i.1.length)
      (fun i => [(0, .slice .shared 13 (l.map encSm)), (1, .int .i64 i.2.2), (5, .int .i64 (i.2.1 : Int))]) (fun i => ⟨[], []⟩) ?_ (l, 0, n) ⟨rfl, hp, h0, h1⟩)
    · (simp only [go_sem, hlt, hget, hpu, hinc, Int.reduceLE, ↓reduceIte, reduceCtorEq, Nat.reduceEqDiff, Nat.reduceLeDiff, Nat.reduceAdd, Nat.reduceMul, Nat.reduceSub, Nat.reduceLT]; repeat' (first | exact Ok.out | with_reducible refine And.intro ?_ ?_))
    · (simp only [go_sem, hlt, hget, hpu, hinc, Int.reduceLE, ↓reduceIte, reduceCtorEq, Nat.reduceEqDiff, Nat.reduceLeDiff, Nat.reduceAdd, Nat.reduceMul, Nat.reduceSub, Nat.reduceLT]; repeat' (first | exact Ok.out | with_reducible refine And.intro ?_ ?_))
    rintro ⟨rest, k, c⟩ ⟨g1, hp, g3, g4⟩ IH
    dsimp only at g1 hp g3 g4
    cases rest with
    | nil =>
      have hlt := drop_nil g1
      simp only [weighSs] at hp
      subst hp
      repeat' (first
 | simp only [go_sem, hlt, hget, hpu, hinc, Int.reduceLE, ↓reduceIte, reduceCtorEq, Nat.reduceEqDiff, Nat.reduceLeDiff, Nat.reduceAdd, Nat.reduceMul, Nat.reduceSub, Nat.reduceLT]
 | (with_reducible first | refine CB_ofT (by assumption) fun hc => ?_ | refine CB_ofF (by assumption) fun hc => ?_ | refine CB_split (fun hc => ?_) fun hc => ?_) <;> (try simp only [hc, bs, ↓reduceIte] at h) <;> (try simp only [hc])
 | ((with_reducible first | refine leafR hQ ?_ | refine leafN hQ ?_); (try cases h); simp only [resL, oneD, Option.some.injEq, exists_eq_left', go_sem, hlt, hget, hpu, hinc, Int.reduceLE, ↓reduceIte, reduceCtorEq, Nat.reduceEqDiff, Nat.reduceLeDiff, Nat.reduceAdd, Nat.reduceMul, Nat.reduceSub, Nat.reduceLT]; repeat' (first | exact Ok.out | with_reducible refine And.intro ?_ ?_ | (simp; done)))
 | (cases h; replace h := hr; clear hr; (try simp only [bs, ↓reduceIte] at h))
 | (cases h; done))
    | cons y rest =>
      obtain ⟨hget, g2, hlt, g5⟩ := drop_cons g1
      simp only [weighSs] at hp
      by_cases hc : c ≤ 20000
      · have c1 : decide (c ≤ 20000) = true := by simp; omega
        have hmem := List.mem_of_getElem? hget
        have hsz := Sm.sizes_mem hmem
        have hsz2 : s.objs.length ≤ s.objs.length ∧ Sm.sizes y.thn < y.size ∧ Sm.sizes y.els < y.size := by cases y; simp only [Sm.size]; omega
        have w3 : IntKind.wrap .i64 ((k : Int) + 1) = ((k + 1 : Nat) : Int) := by rw [wrap_ok] <;> omega
        rw [if_pos hc] at hp
        obtain ⟨a1, a2, a3, a4⟩ := weigh_in _ y.x (Nat.le_refl _) c (by omega)
        have a2 := a2 hc
        obtain ⟨b1, b2, b3⟩ := weighTs_in y.labels a3 a1
        obtain ⟨c1', c2, c3⟩ := weighT_mono (t := y.name) (n := weighTs y.labels (weighE y.x c)) (by omega) b1
        obtain ⟨d1, d2, d3⟩ := weighT_mono (t := y.proc) (n := weighT y.name (weighTs y.labels (weighE y.x c))) (by omega) c2
        have eE := fun s => weighE_s _ y.x (Nat.le_refl _) (n := c) (by omega) hc s
        have eL := fun s => weighTs_s (l := y.labels) (n := weighE y.x c) (by omega) a1 s
        have eN := fun s => weighT_s y.name (n := weighTs y.labels (weighE y.x c)) (by omega) b1 s
        have eP := fun s => weighT_s y.proc (n := weighT y.name (weighTs y.labels (weighE y.x c))) (by omega) c2 s
        obtain ⟨r1, r2, r3⟩ := weighS_in y (n := c) (by omega) hc
        rw [weighS_eq] at hp r1 r2
        generalize hC : weighT y.proc (weighT y.name (weighTs y.labels (weighE y.x c))) = C at *
        obtain ⟨s1, s2, s3⟩ := weighAs_in y.args (n := C) (by omega) d2
        obtain ⟨t1, t2, t3⟩ := weighSs_in y.thn (n := weighAs y.args C) (by omega) s1
        have eT := fun s => ih y.thn (by omega) (n := weighAs y.args C) (by omega) s1 s
        have eS := fun s => ih y.els (by omega) (n := weighSs y.thn (weighAs y.args C)) (by omega) t1 s
        generalize hW : weighAs y.args C = W at *
        repeat' (first
 | simp only [go_sem, hlt, hget, hpu, hinc, Int.reduceLE, ↓reduceIte, reduceCtorEq, Nat.reduceEqDiff, Nat.reduceLeDiff, Nat.reduceAdd, Nat.reduceMul, Nat.reduceSub, Nat.reduceLT, c1, w3]
 | (with_reducible refine CU (eE _) ?_)
 | (with_reducible refine CU (eL _) ?_)
 | (with_reducible refine CU (eN _) ?_)
 | (with_reducible refine CU (eP _) ?_)
 | (with_reducible first | refine CB_ofT (by assumption) fun hc => ?_ | refine CB_ofF (by assumption) fun hc => ?_ | refine CB_split (fun hc => ?_) fun hc => ?_) <;> (try simp only [hc, bs, ↓reduceIte] at h) <;> (try simp only [hc])
 | ((with_reducible first | refine leafR hQ ?_ | refine leafN hQ ?_); (try cases h); simp only [resL, oneD, Option.some.injEq, exists_eq_left', go_sem, hlt, hget, hpu, hinc, Int.reduceLE, ↓reduceIte, reduceCtorEq, Nat.reduceEqDiff, Nat.reduceLeDiff, Nat.reduceAdd, Nat.reduceMul, Nat.reduceSub, Nat.reduceLT, c1, w3]; repeat' (first | exact Ok.out | with_reducible refine And.intro ?_ ?_ | (simp; done)))
 | (cases h; replace h := hr; clear hr; (try simp only [bs, ↓reduceIte] at h))
 | (cases h; done))
        refine SemL.re _ _ 1 0 (by rw [hB]; exact Nat.le_of_ble_eq_true rfl) (by rw [hB]; exact Nat.le_of_ble_eq_true rfl) ?_ ?_ (SemL.ind (ι := List Ar × Nat × Int) (fun i => y.args.drop i.2.1 = i.1 ∧ weighAs i.1 i.2.2 = W ∧ (i.2.1 : Int) ≤ i.2.2 ∧ i.2.2 ≤ 20001) (fun i => i.1.length)
          (fun i => [(0, .slice .shared 13 (l.map encSm)), (1, .int .i64 i.2.2), (5, .int .i64 (k : Int)), (6, .ptr 0 0), (7, .int .i64 (i.2.1 : Int))]) (fun i => ⟨[encSm y], []⟩) ?_ (y.args, 0, C) ⟨rfl, hW, by dsimp only; omega, d2⟩)
        · (simp only [go_sem, hlt, hget, hpu, hinc, Int.reduceLE, ↓reduceIte, reduceCtorEq, Nat.reduceEqDiff, Nat.reduceLeDiff, Nat.reduceAdd, Nat.reduceMul, Nat.reduceSub, Nat.reduceLT]; repeat' (first | exact Ok.out | with_reducible refine And.intro ?_ ?_))
        · (simp only [go_sem, hlt, hget, hpu, hinc, Int.reduceLE, ↓reduceIte, reduceCtorEq, Nat.reduceEqDiff, Nat.reduceLeDiff, Nat.reduceAdd, Nat.reduceMul, Nat.reduceSub, Nat.reduceLT]; repeat' (first | exact Ok.out | with_reducible refine And.intro ?_ ?_))
        rintro ⟨ars, j, e⟩ ⟨k1, hw, k3, k4⟩ IH2
        dsimp only at k1 hw k3 k4
        cases ars with
        | nil =>
          have hlt := drop_nil k1
          simp only [weighAs] at hw
          subst hw
          repeat' (first
 | simp only [go_sem, hlt, hget, hpu, hinc, Int.reduceLE, ↓reduceIte, reduceCtorEq, Nat.reduceEqDiff, Nat.reduceLeDiff, Nat.reduceAdd, Nat.reduceMul, Nat.reduceSub, Nat.reduceLT, w3]
 | (with_reducible refine CU (eT _) ?_)
 | (with_reducible refine CU (eS _) ?_)
 | (with_reducible first | refine CB_ofT (by assumption) fun hc => ?_ | refine CB_ofF (by assumption) fun hc => ?_ | refine CB_split (fun hc => ?_) fun hc => ?_) <;> (try simp only [hc, bs, ↓reduceIte] at h) <;> (try simp only [hc])
 | ((with_reducible first | refine leafR hQ ?_ | refine leafN hQ ?_); (try cases h); simp only [resL, oneD, Option.some.injEq, exists_eq_left', go_sem, hlt, hget, hpu, hinc, Int.reduceLE, ↓reduceIte, reduceCtorEq, Nat.reduceEqDiff, Nat.reduceLeDiff, Nat.reduceAdd, Nat.reduceMul, Nat.reduceSub, Nat.reduceLT, w3]; repeat' (first | exact Ok.out | with_reducible refine And.intro ?_ ?_ | (simp; done)))
 | (cases h; replace h := hr; clear hr; (try simp only [bs, ↓reduceIte] at h))
 | (cases h; done))
          refine SemL.re _ _ 0 0 (by rw [hB]; exact Nat.le_of_ble_eq_true rfl) (by rw [hB]; exact Nat.le_of_ble_eq_true rfl) ?_ ?_ (IH (rest, k + 1, weighSs y.els (weighSs y.thn e)) ⟨g2, hp, by dsimp only; omega, r1⟩ (Nat.lt_succ_self _))
          · (simp only [go_sem, hlt, hget, hpu, hinc, Int.reduceLE, ↓reduceIte, reduceCtorEq, Nat.reduceEqDiff, Nat.reduceLeDiff, Nat.reduceAdd, Nat.reduceMul, Nat.reduceSub, Nat.reduceLT]; repeat' (first | exact Ok.out | with_reducible refine And.intro ?_ ?_))
          · (simp only [go_sem, hlt, hget, hpu, hinc, Int.reduceLE, ↓reduceIte, reduceCtorEq, Nat.reduceEqDiff, Nat.reduceLeDiff, Nat.reduceAdd, Nat.reduceMul, Nat.reduceSub, Nat.reduceLT]; repeat' (first | exact Ok.out | with_reducible refine And.intro ?_ ?_))
        | cons a ars =>
          obtain ⟨hget, k2, hlt, k5⟩ := drop_cons k1
          simp only [weighAs] at hw
          by_cases he : e ≤ 20000
          · have e1 : decide (e ≤ 20000) = true := by simp; omega
            have w4 : IntKind.wrap .i64 ((j : Int) + 1) = ((j + 1 : Nat) : Int) := by rw [wrap_ok] <;> omega
            rw [if_pos he] at hw
            obtain ⟨u1, u2, u3, u4⟩ := weigh_in _ a.x (Nat.le_refl _) e (by omega)
            have u2 := u2 he
            obtain ⟨v1, v2, v3⟩ := weighT_mono (t := a.name) (n := weighE a.x e) u3 u1
            have eX := fun s => weighE_s _ a.x (Nat.le_refl _) (n := e) (by omega) he s
            have eM := fun s => weighT_s a.name (n := weighE a.x e) u3 u1 s
            repeat' (first
 | simp only [go_sem, hlt, hget, hpu, hinc, Int.reduceLE, ↓reduceIte, reduceCtorEq, Nat.reduceEqDiff, Nat.reduceLeDiff, Nat.reduceAdd, Nat.reduceMul, Nat.reduceSub, Nat.reduceLT, e1, w4]
 | (with_reducible refine CU (eX _) ?_)
 | (with_reducible refine CU (eM _) ?_)
 | (with_reducible first | refine CB_ofT (by assumption) fun hc => ?_ | refine CB_ofF (by assumption) fun hc => ?_ | refine CB_split (fun hc => ?_) fun hc => ?_) <;> (try simp only [hc, bs, ↓reduceIte] at h) <;> (try simp only [hc])
 | ((with_reducible first | refine leafR hQ ?_ | refine leafN hQ ?_); (try cases h); simp only [resL, oneD, Option.some.injEq, exists_eq_left', go_sem, hlt, hget, hpu, hinc, Int.reduceLE, ↓reduceIte, reduceCtorEq, Nat.reduceEqDiff, Nat.reduceLeDiff, Nat.reduceAdd, Nat.reduceMul, Nat.reduceSub, Nat.reduceLT, e1, w4]; repeat' (first | exact Ok.out | with_reducible refine And.intro ?_ ?_ | (simp; done)))
 | (cases h; replace h := hr; clear hr; (try simp only [bs, ↓reduceIte] at h))
 | (cases h; done))
            refine SemL.re _ _ 1 0 (by rw [hB]; exact Nat.le_of_ble_eq_true rfl) (by rw [hB]; exact Nat.le_of_ble_eq_true rfl) ?_ ?_ (IH2 (ars, j + 1, weighT a.name (weighE a.x e)) ⟨k2, hw, by dsimp only; omega, v2⟩ (Nat.lt_succ_self _))
            · (simp only [go_sem, hlt, hget, hpu, hinc, Int.reduceLE, ↓reduceIte, reduceCtorEq, Nat.reduceEqDiff, Nat.reduceLeDiff, Nat.reduceAdd, Nat.reduceMul, Nat.reduceSub, Nat.reduceLT]; repeat' (first | exact Ok.out | with_reducible refine And.intro ?_ ?_))
            · (simp only [go_sem, hlt, hget, hpu, hinc, Int.reduceLE, ↓reduceIte, reduceCtorEq, Nat.reduceEqDiff, Nat.reduceLeDiff, Nat.reduceAdd, Nat.reduceMul, Nat.reduceSub, Nat.reduceLT]; repeat' (first | exact Ok.out | with_reducible refine And.intro ?_ ?_))
          · have e1 : decide (e ≤ 20000) = false := by simp; omega
            rw [if_neg he] at hw
            subst hw
            repeat' (first
 | simp only [go_sem, hlt, hget, hpu, hinc, Int.reduceLE, ↓reduceIte, reduceCtorEq, Nat.reduceEqDiff, Nat.reduceLeDiff, Nat.reduceAdd, Nat.reduceMul, Nat.reduceSub, Nat.reduceLT, e1, w3]
 | (with_reducible refine CU (eT _) ?_)
 | (with_reducible refine CU (eS _) ?_)
 | (with_reducible first | refine CB_ofT (by assumption) fun hc => ?_ | refine CB_ofF (by assumption) fun hc => ?_ | refine CB_split (fun hc => ?_) fun hc => ?_) <;> (try simp only [hc, bs, ↓reduceIte] at h) <;> (try simp only [hc])
 | ((with_reducible first | refine leafR hQ ?_ | refine leafN hQ ?_); (try cases h); simp only [resL, oneD, Option.some.injEq, exists_eq_left', go_sem, hlt, hget, hpu, hinc, Int.reduceLE, ↓reduceIte, reduceCtorEq, Nat.reduceEqDiff, Nat.reduceLeDiff, Nat.reduceAdd, Nat.reduceMul, Nat.reduceSub, Nat.reduceLT, e1, w3]; repeat' (first | exact Ok.out | with_reducible refine And.intro ?_ ?_ | (simp; done)))
 | (cases h; replace h := hr; clear hr; (try simp only [bs, ↓reduceIte] at h))
 | (cases h; done))
            refine SemL.re _ _ 0 0 (by rw [hB]; exact Nat.le_of_ble_eq_true rfl) (by rw [hB]; exact Nat.le_of_ble_eq_true rfl) ?_ ?_ (IH (rest, k + 1, weighSs y.els (weighSs y.thn e)) ⟨g2, hp, by dsimp only; omega, r1⟩ (Nat.lt_succ_self _))
            · (simp only [go_sem, hlt, hget, hpu, hinc, Int.reduceLE, ↓reduceIte, reduceCtorEq, Nat.reduceEqDiff, Nat.reduceLeDiff, Nat.reduceAdd, Nat.reduceMul, Nat.reduceSub, Nat.reduceLT]; repeat' (first | exact Ok.out | with_reducible refine And.intro ?_ ?_))
            · (simp only [go_sem, hlt, hget, hpu, hinc, Int.reduceLE, ↓reduceIte, reduceCtorEq, Nat.reduceEqDiff, Nat.reduceLeDiff, Nat.reduceAdd, Nat.reduceMul, Nat.reduceSub, Nat.reduceLT]; repeat' (first | exact Ok.out | with_reducible refine And.intro ?_ ?_))
      · have c1 : decide (c ≤ 20000) = false := by simp; omega
        rw [if_neg hc] at hp
        subst hp
        repeat' (first
 | simp only [go_sem, hlt, hget, hpu, hinc, Int.reduceLE, ↓reduceIte, reduceCtorEq, Nat.reduceEqDiff, Nat.reduceLeDiff, Nat.reduceAdd, Nat.reduceMul, Nat.reduceSub, Nat.reduceLT, c1]
 | (with_reducible first | refine CB_ofT (by assumption) fun hc => ?_ | refine CB_ofF (by assumption) fun hc => ?_ | refine CB_split (fun hc => ?_) fun hc => ?_) <;> (try simp only [hc, bs, ↓reduceIte] at h) <;> (try simp only [hc])
 | ((with_reducible first | refine leafR hQ ?_ | refine leafN hQ ?_); (try cases h); simp only [resL, oneD, Option.some.injEq, exists_eq_left', go_sem, hlt, hget, hpu, hinc, Int.reduceLE, ↓reduceIte, reduceCtorEq, Nat.reduceEqDiff, Nat.reduceLeDiff, Nat.reduceAdd, Nat.reduceMul, Nat.reduceSub, Nat.reduceLT, c1]; repeat' (first | exact Ok.out | with_reducible refine And.intro ?_ ?_ | (simp; done)))
 | (cases h; replace h := hr; clear hr; (try simp only [bs, ↓reduceIte] at h))
 | (cases h; done))

end Go.Abs

/-! Fits2 -/

namespace Go.Abs

set_option maxRecDepth 8000
set_option linter.unusedSimpArgs false
set_option linter.unusedVariables false
open Go.Proofs

theorem Fits_s (p : Pg) (s : St) : Fun Tryd.prog n_ref3_Fits [.agg (encPg p)] s (.bool (decide (p.weigh ≤ 20000))) s := by
  refine Fun.pure ?_ (by simp only [D.oks, D.ok, okPg]; rfl) rfl s
  unfold S0
  generalize hp : p.weigh = W
  unfold Pg.weigh at hp
  obtain ⟨a1, a2, a3⟩ := weighTs_in p.globals (n := 0) (by omega) (by omega)
  have eG := fun s => weighTs_s (l := p.globals) (n := 0) (by omega) (by omega) s
  refine Fun.go has_ref3_Fits rfl fun B Q hB hQ => ?_
  have hlt : 0 < 1 := Nat.zero_lt_one
  have hget : 0 < 1 := Nat.zero_lt_one
  have hpu : 0 < 1 := Nat.zero_lt_one
  have hinc : 0 < 1 := Nat.zero_lt_one
  repeat' (first
 | simp only [go_sem, hlt, hget, hpu, hinc, Int.reduceLE, ↓reduceIte, reduceCtorEq, Nat.reduceEqDiff, Nat.reduceLeDiff, Nat.reduceAdd, Nat.reduceMul, Nat.reduceSub, Nat.reduceLT]
 | (with_reducible refine CU (eG _) ?_)
 | (with_reducible first | refine CB_ofT (by assumption) fun hc => ?_ | refine CB_ofF (by assumption) fun hc => ?_ | refine CB_split (fun hc => ?_) fun hc => ?_) <;> (try simp only [hc, bs, ↓reduceIte] at h) <;> (try simp only [hc])
 | ((with_reducible first | refine leafR hQ ?_ | refine leafN hQ ?_); (try cases h); simp only [resL, oneD, Option.some.injEq, exists_eq_left', go_sem, hlt, hget, hpu, hinc, Int.reduceLE, ↓reduceIte, reduceCtorEq, Nat.reduceEqDiff, Nat.reduceLeDiff, Nat.reduceAdd, Nat.reduceMul, Nat.reduceSub, Nat.reduceLT]; repeat' (first | exact Ok.out | with_reducible refine And.intro ?_ ?_ | (simp; done)))
 | (cases h; replace h := hr; clear hr; (try simp only [bs, ↓reduceIte] at h))
 | (cases h; done))
  refine SemL.re _ _ 1 0 (by rw [hB]; exact Nat.le_of_ble_eq_true rfl) (by rw [hB]; exact Nat.le_of_ble_eq_true rfl) ?_ ?_ (SemL.ind (ι := List Pc × Nat × Int) (fun i => p.procs.drop i.2.1 = i.1 ∧ weighFs i.1 i.2.2 = W ∧ (i.2.1 : Int) ≤ i.2.2 ∧ i.2.2 ≤ 20001) (fun i => i.1.length)
    (fun i => [(1, .ptr 0 0), (3, .int .i64 i.2.2), (4, .int .i64 (i.2.1 : Int))]) (fun i => ⟨[encPg p], []⟩) ?_ (p.procs, 0, weighTs p.globals 0) ⟨rfl, hp, a2, a1⟩)
  · (simp only [go_sem, hlt, hget, hpu, hinc, Int.reduceLE, ↓reduceIte, reduceCtorEq, Nat.reduceEqDiff, Nat.reduceLeDiff, Nat.reduceAdd, Nat.reduceMul, Nat.reduceSub, Nat.reduceLT]; repeat' (first | exact Ok.out | with_reducible refine And.intro ?_ ?_))
  · (simp only [go_sem, hlt, hget, hpu, hinc, Int.reduceLE, ↓reduceIte, reduceCtorEq, Nat.reduceEqDiff, Nat.reduceLeDiff, Nat.reduceAdd, Nat.reduceMul, Nat.reduceSub, Nat.reduceLT]; repeat' (first | exact Ok.out | with_reducible refine And.intro ?_ ?_))
  rintro ⟨rest, k, c⟩ ⟨g1, hp, g3, g4⟩ IH
  dsimp only at g1 hp g3 g4
  cases rest with
  | nil =>
    have hlt := drop_nil g1
    simp only [weighFs] at hp
    subst hp
    repeat' (first
 | simp only [go_sem, hlt, hget, hpu, hinc, Int.reduceLE, ↓reduceIte, reduceCtorEq, Nat.reduceEqDiff, Nat.reduceLeDiff, Nat.reduceAdd, Nat.reduceMul, Nat.reduceSub, Nat.reduceLT]
 | (with_reducible first | refine CB_ofT (by assumption) fun hc => ?_ | refine CB_ofF (by assumption) fun hc => ?_ | refine CB_split (fun hc => ?_) fun hc => ?_) <;> (try simp only [hc, bs, ↓reduceIte] at h) <;> (try simp only [hc])
 | ((with_reducible first | refine leafR hQ ?_ | refine leafN hQ ?_); (try cases h); simp only [resL, oneD, Option.some.injEq, exists_eq_left', go_sem, hlt, hget, hpu, hinc, Int.reduceLE, ↓reduceIte, reduceCtorEq, Nat.reduceEqDiff, Nat.reduceLeDiff, Nat.reduceAdd, Nat.reduceMul, Nat.reduceSub, Nat.reduceLT]; repeat' (first | exact Ok.out | with_reducible refine And.intro ?_ ?_ | (simp; done)))
 | (cases h; replace h := hr; clear hr; (try simp only [bs, ↓reduceIte] at h))
 | (cases h; done))
  | cons f rest =>
    obtain ⟨hget, g2, hlt, g5⟩ := drop_cons g1
    simp only [weighFs] at hp
    by_cases hc : c ≤ 20000
    · have c1 : decide (c ≤ 20000) = true := by simp; omega
      have w3 : IntKind.wrap .i64 ((k : Int) + 1) = ((k + 1 : Nat) : Int) := by rw [wrap_ok] <;> omega
      rw [if_pos hc] at hp
      obtain ⟨r1, r2, r3⟩ := weighF_in f (n := c) (by omega) hc
      unfold weighF at hp r1 r2
      obtain ⟨c1', c2, c3⟩ := weighT_mono (t := f.name) (n := c) (by omega) g4
      obtain ⟨d1, d2, d3⟩ := weighTs_in f.vars (n := weighT f.name c) (by omega) c2
      obtain ⟨e1, e2, e3⟩ := weighTs_in f.fin (n := weighTs f.vars (weighT f.name c)) (by omega) d1
      have eN := fun s => weighT_s f.name (n := c) (by omega) g4 s
      have eV := fun s => weighTs_s (l := f.vars) (n := weighT f.name c) (by omega) c2 s
      have eF := fun s => weighTs_s (l := f.fin) (n := weighTs f.vars (weighT f.name c)) (by omega) d1 s
      generalize hC : weighTs f.fin (weighTs f.vars (weighT f.name c)) = C at *
      obtain ⟨s1, s2, s3⟩ := weighMs_in f.params (n := C) (by omega) e1
      have eT := fun s => weighSs_s _ f.body (Nat.le_refl _) (n := weighMs f.params C) (by omega) s1 s
      generalize hM : weighMs f.params C = M at *
      repeat' (first
 | simp only [go_sem, hlt, hget, hpu, hinc, Int.reduceLE, ↓reduceIte, reduceCtorEq, Nat.reduceEqDiff, Nat.reduceLeDiff, Nat.reduceAdd, Nat.reduceMul, Nat.reduceSub, Nat.reduceLT, c1, w3]
 | (with_reducible refine CU (eN _) ?_)
 | (with_reducible refine CU (eV _) ?_)
 | (with_reducible refine CU (eF _) ?_)
 | (with_reducible first | refine CB_ofT (by assumption) fun hc => ?_ | refine CB_ofF (by assumption) fun hc => ?_ | refine CB_split (fun hc => ?_) fun hc => ?_) <;> (try simp only [hc, bs, ↓reduceIte] at h) <;> (try simp only [hc])
 | ((with_reducible first | refine leafR hQ ?_ | refine leafN hQ ?_); (try cases h); simp only [resL, oneD, Option.some.injEq, exists_eq_left', go_sem, hlt, hget, hpu, hinc, Int.reduceLE, ↓reduceIte, reduceCtorEq, Nat.reduceEqDiff, Nat.reduceLeDiff, Nat.reduceAdd, Nat.reduceMul, Nat.reduceSub, Nat.reduceLT, c1, w3]; repeat' (first | exact Ok.out | with_reducible refine And.intro ?_ ?_ | (simp; done)))
 | (cases h; replace h := hr; clear hr; (try simp only [bs, ↓reduceIte] at h))
 | (cases h; done))
      refine SemL.re _ _ 2 0 (by rw [hB]; exact Nat.le_of_ble_eq_true rfl) (by rw [hB]; exact Nat.le_of_ble_eq_true rfl) ?_ ?_ (SemL.ind (ι := List Pm × Nat × Int) (fun i => f.params.drop i.2.1 = i.1 ∧ weighMs i.1 i.2.2 = M ∧ (i.2.1 : Int) ≤ i.2.2 ∧ i.2.2 ≤ 20001) (fun i => i.1.length)
        (fun i => [(1, .ptr 0 0), (3, .int .i64 i.2.2), (4, .int .i64 (k : Int)), (5, .ptr 1 0), (6, .int .i64 (i.2.1 : Int))]) (fun i => ⟨[encPg p, encPc f], []⟩) ?_ (f.params, 0, C) ⟨rfl, hM, by dsimp only; omega, e1⟩)
      · (simp only [go_sem, hlt, hget, hpu, hinc, Int.reduceLE, ↓reduceIte, reduceCtorEq, Nat.reduceEqDiff, Nat.reduceLeDiff, Nat.reduceAdd, Nat.reduceMul, Nat.reduceSub, Nat.reduceLT]; repeat' (first | exact Ok.out | with_reducible refine And.intro ?_ ?_))
      · (simp only [go_sem, hlt, hget, hpu, hinc, Int.reduceLE, ↓reduceIte, reduceCtorEq, Nat.reduceEqDiff, Nat.reduceLeDiff, Nat.reduceAdd, Nat.reduceMul, Nat.reduceSub, Nat.reduceLT]; repeat' (first | exact Ok.out | with_reducible refine And.intro ?_ ?_))
      rintro ⟨ms, j, e⟩ ⟨k1, hw, k3, k4⟩ IH2
      dsimp only at k1 hw k3 k4
      cases ms with
      | nil =>
        have hlt := drop_nil k1
        simp only [weighMs] at hw
        subst hw
        repeat' (first
 | simp only [go_sem, hlt, hget, hpu, hinc, Int.reduceLE, ↓reduceIte, reduceCtorEq, Nat.reduceEqDiff, Nat.reduceLeDiff, Nat.reduceAdd, Nat.reduceMul, Nat.reduceSub, Nat.reduceLT, w3]
 | (with_reducible refine CU (eT _) ?_)
 | (with_reducible first | refine CB_ofT (by assumption) fun hc => ?_ | refine CB_ofF (by assumption) fun hc => ?_ | refine CB_split (fun hc => ?_) fun hc => ?_) <;> (try simp only [hc, bs, ↓reduceIte] at h) <;> (try simp only [hc])
 | ((with_reducible first | refine leafR hQ ?_ | refine leafN hQ ?_); (try cases h); simp only [resL, oneD, Option.some.injEq, exists_eq_left', go_sem, hlt, hget, hpu, hinc, Int.reduceLE, ↓reduceIte, reduceCtorEq, Nat.reduceEqDiff, Nat.reduceLeDiff, Nat.reduceAdd, Nat.reduceMul, Nat.reduceSub, Nat.reduceLT, w3]; repeat' (first | exact Ok.out | with_reducible refine And.intro ?_ ?_ | (simp; done)))
 | (cases h; replace h := hr; clear hr; (try simp only [bs, ↓reduceIte] at h))
 | (cases h; done))
        refine SemL.re _ _ 1 0 (by rw [hB]; exact Nat.le_of_ble_eq_true rfl) (by rw [hB]; exact Nat.le_of_ble_eq_true rfl) ?_ ?_ (IH (rest, k + 1, weighSs f.body e) ⟨g2, hp, by dsimp only; omega, r1⟩ (Nat.lt_succ_self _))
        · (simp only [go_sem, hlt, hget, hpu, hinc, Int.reduceLE, ↓reduceIte, reduceCtorEq, Nat.reduceEqDiff, Nat.reduceLeDiff, Nat.reduceAdd, Nat.reduceMul, Nat.reduceSub, Nat.reduceLT]; repeat' (first | exact Ok.out | with_reducible refine And.intro ?_ ?_))
        · (simp only [go_sem, hlt, hget, hpu, hinc, Int.reduceLE, ↓reduceIte, reduceCtorEq, Nat.reduceEqDiff, Nat.reduceLeDiff, Nat.reduceAdd, Nat.reduceMul, Nat.reduceSub, Nat.reduceLT]; repeat' (first | exact Ok.out | with_reducible refine And.intro ?_ ?_))
      | cons a ms =>
        obtain ⟨hget, k2, hlt, k5⟩ := drop_cons k1
        simp only [weighMs] at hw
        by_cases he : e ≤ 20000
        · have e1 : decide (e ≤ 20000) = true := by simp; omega
          have w4 : IntKind.wrap .i64 ((j : Int) + 1) = ((j + 1 : Nat) : Int) := by rw [wrap_ok] <;> omega
          rw [if_pos he] at hw
          obtain ⟨v1, v2, v3⟩ := weighT_mono (t := a.name) (n := e) (by omega) k4
          have v4 := (weighT_in (t := a.name) (n := e) (by omega)).2.1 he
          have eM := fun s => weighT_s a.name (n := e) (by omega) k4 s
          repeat' (first
 | simp only [go_sem, hlt, hget, hpu, hinc, Int.reduceLE, ↓reduceIte, reduceCtorEq, Nat.reduceEqDiff, Nat.reduceLeDiff, Nat.reduceAdd, Nat.reduceMul, Nat.reduceSub, Nat.reduceLT, e1, w4]
 | (with_reducible refine CU (eM _) ?_)
 | (with_reducible first | refine CB_ofT (by assumption) fun hc => ?_ | refine CB_ofF (by assumption) fun hc => ?_ | refine CB_split (fun hc => ?_) fun hc => ?_) <;> (try simp only [hc, bs, ↓reduceIte] at h) <;> (try simp only [hc])
 | ((with_reducible first | refine leafR hQ ?_ | refine leafN hQ ?_); (try cases h); simp only [resL, oneD, Option.some.injEq, exists_eq_left', go_sem, hlt, hget, hpu, hinc, Int.reduceLE, ↓reduceIte, reduceCtorEq, Nat.reduceEqDiff, Nat.reduceLeDiff, Nat.reduceAdd, Nat.reduceMul, Nat.reduceSub, Nat.reduceLT, e1, w4]; repeat' (first | exact Ok.out | with_reducible refine And.intro ?_ ?_ | (simp; done)))
 | (cases h; replace h := hr; clear hr; (try simp only [bs, ↓reduceIte] at h))
 | (cases h; done))
          refine SemL.re _ _ 2 0 (by rw [hB]; exact Nat.le_of_ble_eq_true rfl) (by rw [hB]; exact Nat.le_of_ble_eq_true rfl) ?_ ?_ (IH2 (ms, j + 1, weighT a.name e) ⟨k2, hw, by dsimp only; omega, v2⟩ (Nat.lt_succ_self _))
          · (simp only [go_sem, hlt, hget, hpu, hinc, Int.reduceLE, ↓reduceIte, reduceCtorEq, Nat.reduceEqDiff, Nat.reduceLeDiff, Nat.reduceAdd, Nat.reduceMul, Nat.reduceSub, Nat.reduceLT]; repeat' (first | exact Ok.out | with_reducible refine And.intro ?_ ?_))
          · (simp only [go_sem, hlt, hget, hpu, hinc, Int.reduceLE, ↓reduceIte, reduceCtorEq, Nat.reduceEqDiff, Nat.reduceLeDiff, Nat.reduceAdd, Nat.reduceMul, Nat.reduceSub, Nat.reduceLT]; repeat' (first | exact Ok.out | with_reducible refine And.intro ?_ ?_))
        · have e1 : decide (e ≤ 20000) = false := by simp; omega
          rw [if_neg he] at hw
          subst hw
          repeat' (first
 | simp only [go_sem, hlt, hget, hpu, hinc, Int.reduceLE, ↓reduceIte, reduceCtorEq, Nat.reduceEqDiff, Nat.reduceLeDiff, Nat.reduceAdd, Nat.reduceMul, Nat.reduceSub, Nat.reduceLT, e1, w3]
 | (with_reducible refine CU (eT _) ?_)
 | (with_reducible first | refine CB_ofT (by assumption) fun hc => ?_ | refine CB_ofF (by assumption) fun hc => ?_ | refine CB_split (fun hc => ?_) fun hc => ?_) <;> (try simp only [hc, bs, ↓reduceIte] at h) <;> (try simp only [hc])
 | ((with_reducible first | refine leafR hQ ?_ | refine leafN hQ ?_); (try cases h); simp only [resL, oneD, Option.some.injEq, exists_eq_left', go_sem, hlt, hget, hpu, hinc, Int.reduceLE, ↓reduceIte, reduceCtorEq, Nat.reduceEqDiff, Nat.reduceLeDiff, Nat.reduceAdd, Nat.reduceMul, Nat.reduceSub, Nat.reduceLT, e1, w3]; repeat' (first | exact Ok.out | with_reducible refine And.intro ?_ ?_ | (simp; done)))
 | (cases h; replace h := hr; clear hr; (try simp only [bs, ↓reduceIte] at h))
 | (cases h; done))
          refine SemL.re _ _ 1 0 (by rw [hB]; exact Nat.le_of_ble_eq_true rfl) (by rw [hB]; exact Nat.le_of_ble_eq_true rfl) ?_ ?_ (IH (rest, k + 1, weighSs f.body e) ⟨g2, hp, by dsimp only; omega, r1⟩ (Nat.lt_succ_self _))
          · (simp only [go_sem, hlt, hget, hpu, hinc, Int.reduceLE, ↓reduceIte, reduceCtorEq, Nat.reduceEqDiff, Nat.reduceLeDiff, Nat.reduceAdd, Nat.reduceMul, Nat.reduceSub, Nat.reduceLT]; repeat' (first | exact Ok.out | with_reducible refine And.intro ?_ ?_))
          · (simp only [go_sem, hlt, hget, hpu, hinc, Int.reduceLE, ↓reduceIte, reduceCtorEq, Nat.reduceEqDiff, Nat.reduceLeDiff, Nat.reduceAdd, Nat.reduceMul, Nat.reduceSub, Nat.reduceLT]; repeat' (first | exact Ok.out | with_reducible refine And.intro ?_ ?_))
    · have c1 : decide (c ≤ 20000) = false := by simp; omega
      rw [if_neg hc] at hp
      subst hp
      repeat' (first
 | simp only [go_sem, hlt, hget, hpu, hinc, Int.reduceLE, ↓reduceIte, reduceCtorEq, Nat.reduceEqDiff, Nat.reduceLeDiff, Nat.reduceAdd, Nat.reduceMul, Nat.reduceSub, Nat.reduceLT, c1]
 | (with_reducible first | refine CB_ofT (by assumption) fun hc => ?_ | refine CB_ofF (by assumption) fun hc => ?_ | refine CB_split (fun hc => ?_) fun hc => ?_) <;> (try simp only [hc, bs, ↓reduceIte] at h) <;> (try simp only [hc])
 | ((with_reducible first | refine leafR hQ ?_ | refine leafN hQ ?_); (try cases h); simp only [resL, oneD, Option.some.injEq, exists_eq_left', go_sem, hlt, hget, hpu, hinc, Int.reduceLE, ↓reduceIte, reduceCtorEq, Nat.reduceEqDiff, Nat.reduceLeDiff, Nat.reduceAdd, Nat.reduceMul, Nat.reduceSub, Nat.reduceLT, c1]; repeat' (first | exact Ok.out | with_reducible refine And.intro ?_ ?_ | (simp; done)))
 | (cases h; replace h := hr; clear hr; (try simp only [bs, ↓reduceIte] at h))
 | (cases h; done))

end Go.Abs

/-! Pr5 -/

namespace Go.Abs

set_option maxRecDepth 8000
set_option linter.unusedSimpArgs false
set_option linter.unusedVariables false
open Go.Proofs

def muchR (x : Ex) : Int := if arityI x.op < 2 then 7 else bindB x.op
theorem arity2 {op : Int} (ho : (decide (5 ≤ op) && decide (op ≤ 17)) = true) : arityI op = 2 := by
  simp only [Bool.and_eq_true, decide_eq_true_eq] at ho
  have c : (decide (op ≥ 5) && decide (op ≤ 17)) = true := by simp; omega
  have c1 : (op == 1) = false := beq_eq_false_iff_ne.2 (by omega)
  have c2 : (op == 2) = false := beq_eq_false_iff_ne.2 (by omega)
  have c3 : (op == 3) = false := beq_eq_false_iff_ne.2 (by omega)
  have c4 : (op == 4) = false := beq_eq_false_iff_ne.2 (by omega)
  simp only [arityI, c, c1, c2, c3, c4, Bool.or_self, Bool.false_eq_true, ↓reduceIte]
theorem much_s {x : Ex} (h : arityI x.op = 2 → (decide (5 ≤ x.op) && decide (x.op ≤ 17)) = true) (ha : arityI x.op ≤ 2) (s : St) : Fun Tryd.prog n_ref3_much [.agg (encEx x)] s (.int .i64 (muchR x)) s := by
  refine Fun.pure ?_ (by simp [D.oks, D.ok, okEx]) rfl s
  have h1 := fun s => Arity_s x.op s
  unfold S0 muchR
  by_cases c : arityI x.op < 2
  · have c1 : decide (arityI x.op < 2) = true := decide_eq_true c
    rw [if_pos c]
    refine Fun.go has_ref3_much rfl fun B Q hB hQ => ?_
    have hlt : 0 < 1 := Nat.zero_lt_one
    have hget : 0 < 1 := Nat.zero_lt_one
    have hpu : 0 < 1 := Nat.zero_lt_one
    have hinc : 0 < 1 := Nat.zero_lt_one
    repeat' (first
 | simp only [go_sem, hlt, hget, hpu, hinc, Int.reduceLE, ↓reduceIte, reduceCtorEq, Nat.reduceEqDiff, Nat.reduceLeDiff, Nat.reduceAdd, Nat.reduceMul, Nat.reduceSub, Nat.reduceLT, c1]
 | (with_reducible refine CU (h1 _) ?_)
 | (with_reducible first | refine CB_ofT (by assumption) fun hc => ?_ | refine CB_ofF (by assumption) fun hc => ?_ | refine CB_split (fun hc => ?_) fun hc => ?_) <;> (try simp only [hc, bs, ↓reduceIte] at h) <;> (try simp only [hc])
 | ((with_reducible first | refine leafR hQ ?_ | refine leafN hQ ?_); (try cases h); simp only [resL, oneD, Option.some.injEq, exists_eq_left', go_sem, hlt, hget, hpu, hinc, Int.reduceLE, ↓reduceIte, reduceCtorEq, Nat.reduceEqDiff, Nat.reduceLeDiff, Nat.reduceAdd, Nat.reduceMul, Nat.reduceSub, Nat.reduceLT, c1]; repeat' (first | exact Ok.out | with_reducible refine And.intro ?_ ?_ | (simp; done)))
 | (cases h; replace h := hr; clear hr; (try simp only [bs, ↓reduceIte] at h))
 | (cases h; done))
  · have c1 : decide (arityI x.op < 2) = false := decide_eq_false c
    have ho := h (by omega)
    rw [if_neg c]
    unfold bindB
    refine Fun.go has_ref3_much rfl fun B Q hB hQ => ?_
    have hlt : 0 < 1 := Nat.zero_lt_one
    have hget : 0 < 1 := Nat.zero_lt_one
    have hpu : 0 < 1 := Nat.zero_lt_one
    have hinc : 0 < 1 := Nat.zero_lt_one
    repeat' (first
 | simp only [go_sem, hlt, hget, hpu, hinc, Int.reduceLE, ↓reduceIte, reduceCtorEq, Nat.reduceEqDiff, Nat.reduceLeDiff, Nat.reduceAdd, Nat.reduceMul, Nat.reduceSub, Nat.reduceLT, c1]
 | (with_reducible refine CU (h1 _) ?_)
 | (with_reducible refine CU (signs_s ho _) ?_)
 | (with_reducible refine CU (Binds_s _ _) ?_)
 | (with_reducible first | refine CB_ofT (by assumption) fun hc => ?_ | refine CB_ofF (by assumption) fun hc => ?_ | refine CB_split (fun hc => ?_) fun hc => ?_) <;> (try simp only [hc, bs, ↓reduceIte] at h) <;> (try simp only [hc])
 | ((with_reducible first | refine leafR hQ ?_ | refine leafN hQ ?_); (try cases h); simp only [resL, oneD, Option.some.injEq, exists_eq_left', go_sem, hlt, hget, hpu, hinc, Int.reduceLE, ↓reduceIte, reduceCtorEq, Nat.reduceEqDiff, Nat.reduceLeDiff, Nat.reduceAdd, Nat.reduceMul, Nat.reduceSub, Nat.reduceLT, c1]; repeat' (first | exact Ok.out | with_reducible refine And.intro ?_ ?_ | (simp; done)))
 | (cases h; replace h := hr; clear hr; (try simp only [bs, ↓reduceIte] at h))
 | (cases h; done))

theorem rkid_s {x : Ex} (hF : FormI x) (hn : x.nodes ≤ 1000000) (he : ∀ s : St, Fun Tryd.prog n_ref3_expr [.agg (encEx x)] s (.str (prE 0 x)) s) {least : Int} (hl : least ≤ 7) (s : St) : Fun Tryd.prog n_ref3_kid [.agg (encEx x), .int .i64 least] s (.str (prE least x)) s := by
  refine Fun.pure ?_ (by simp [D.oks, D.ok, okEx]) rfl s
  have hm : ∀ s : St, Fun Tryd.prog n_ref3_much [.agg (encEx x)] s (.int .i64 (muchR x)) s := by
    cases hF with
    | num n => exact fun s => much_s (by intro h; simp [arityI] at h) (by simp [arityI]) s
    | name n => exact fun s => much_s (by intro h; simp [arityI] at h) (by simp [arityI]) s
    | neg n => exact fun s => much_s (by intro h; simp [arityI] at h) (by simp [arityI]) s
    | no n => exact fun s => much_s (by intro h; simp [arityI] at h) (by simp [arityI]) s
    | two op a b ho => exact fun s => much_s (fun _ => ho) (by simp only [arity2 ho]; omega) s
  have key : prE least x = if muchR x < least then [40] ++ prE 0 x ++ [41] else prE 0 x := by
    cases hF with
    | num n => rw [if_neg (by simp [muchR, arityI]; omega)]; simp only [pr_num]
    | name n => rw [if_neg (by simp [muchR, arityI]; omega)]; simp only [pr_name]
    | neg n => rw [if_neg (by simp [muchR, arityI]; omega)]; simp only [pr_neg]
    | no n => rw [if_neg (by simp [muchR, arityI]; omega)]; simp only [pr_no]
    | two op a b ho =>
      obtain ⟨p1, p2, _⟩ := bindB_pos ho
      have : muchR ⟨op, 0, [], [a, b]⟩ = bindB op := by unfold muchR; simp only [arity2 ho]; rfl
      rw [this, pr_two, pr_two, if_neg (c := bindB op < 0) (by omega)]
  have lx := prE_len hF 0
  have m1 : (1 : Nat) + (prE 0 x).length ≤ maxStr := by unfold maxStr; omega
  have m2 : (prE 0 x).length + 1 + 1 ≤ maxStr := by unfold maxStr; omega
  rw [key]
  unfold S0
  by_cases c : muchR x < least
  · have c1 : decide (muchR x < least) = true := decide_eq_true c
    rw [if_pos c]
    refine Fun.go has_ref3_kid rfl fun B Q hB hQ => ?_
    have hlt : 0 < 1 := Nat.zero_lt_one
    have hget : 0 < 1 := Nat.zero_lt_one
    have hpu : 0 < 1 := Nat.zero_lt_one
    have hinc : 0 < 1 := Nat.zero_lt_one
    repeat' (first
 | simp only [go_sem, hlt, hget, hpu, hinc, Int.reduceLE, ↓reduceIte, reduceCtorEq, Nat.reduceEqDiff, Nat.reduceLeDiff, Nat.reduceAdd, Nat.reduceMul, Nat.reduceSub, Nat.reduceLT, c1, m1, m2]
 | (with_reducible refine CU (hm _) ?_)
 | (with_reducible refine CU (he _) ?_)
 | (with_reducible first | refine CB_ofT (by assumption) fun hc => ?_ | refine CB_ofF (by assumption) fun hc => ?_ | refine CB_split (fun hc => ?_) fun hc => ?_) <;> (try simp only [hc, bs, ↓reduceIte] at h) <;> (try simp only [hc])
 | ((with_reducible first | refine leafR hQ ?_ | refine leafN hQ ?_); (try cases h); simp only [resL, oneD, Option.some.injEq, exists_eq_left', go_sem, hlt, hget, hpu, hinc, Int.reduceLE, ↓reduceIte, reduceCtorEq, Nat.reduceEqDiff, Nat.reduceLeDiff, Nat.reduceAdd, Nat.reduceMul, Nat.reduceSub, Nat.reduceLT, c1, m1, m2]; repeat' (first | exact Ok.out | with_reducible refine And.intro ?_ ?_ | (simp; done)))
 | (cases h; replace h := hr; clear hr; (try simp only [bs, ↓reduceIte] at h))
 | (cases h; done))
  · have c1 : decide (muchR x < least) = false := decide_eq_false c
    rw [if_neg c]
    refine Fun.go has_ref3_kid rfl fun B Q hB hQ => ?_
    have hlt : 0 < 1 := Nat.zero_lt_one
    have hget : 0 < 1 := Nat.zero_lt_one
    have hpu : 0 < 1 := Nat.zero_lt_one
    have hinc : 0 < 1 := Nat.zero_lt_one
    repeat' (first
 | simp only [go_sem, hlt, hget, hpu, hinc, Int.reduceLE, ↓reduceIte, reduceCtorEq, Nat.reduceEqDiff, Nat.reduceLeDiff, Nat.reduceAdd, Nat.reduceMul, Nat.reduceSub, Nat.reduceLT, c1]
 | (with_reducible refine CU (hm _) ?_)
 | (with_reducible refine CU (he _) ?_)
 | (with_reducible first | refine CB_ofT (by assumption) fun hc => ?_ | refine CB_ofF (by assumption) fun hc => ?_ | refine CB_split (fun hc => ?_) fun hc => ?_) <;> (try simp only [hc, bs, ↓reduceIte] at h) <;> (try simp only [hc])
 | ((with_reducible first | refine leafR hQ ?_ | refine leafN hQ ?_); (try cases h); simp only [resL, oneD, Option.some.injEq, exists_eq_left', go_sem, hlt, hget, hpu, hinc, Int.reduceLE, ↓reduceIte, reduceCtorEq, Nat.reduceEqDiff, Nat.reduceLeDiff, Nat.reduceAdd, Nat.reduceMul, Nat.reduceSub, Nat.reduceLT, c1]; repeat' (first | exact Ok.out | with_reducible refine And.intro ?_ ?_ | (simp; done)))
 | (cases h; replace h := hr; clear hr; (try simp only [bs, ↓reduceIte] at h))
 | (cases h; done))

theorem rexpr_s {x : Ex} (h : FormI x) : x.nodes ≤ 1000000 → ∀ s : St, Fun Tryd.prog n_ref3_expr [.agg (encEx x)] s (.str (prE 0 x)) s := by
  induction h with
  | num n h0 h1 => intro _ s; rw [pr_num]; exact expr_num h0 h1 s
  | name t h => intro _ s; rw [pr_name]; exact expr_name t s
  | neg y hy ih =>
    intro hn s
    refine Fun.pure ?_ (by simp [D.oks, D.ok, okEx]) rfl s
    simp only [Ex.nodes, Ex.nodess] at hn
    have i1 := rkid_s hy (by omega) (ih (by omega)) (least := 7) (by omega)
    have l1 := prE_len hy 7
    have m1 : (1 : Nat) + (prE 7 y).length ≤ maxStr := by unfold maxStr; omega
    have a1 : arityI 3 = 1 := rfl
    have b0 : ((1 : Int) == 0) = false := rfl
    have b1 : ((1 : Int) == 1) = true := rfl
    have b3 : ((3 : Int) == 3) = true := rfl
    rw [pr_neg]
    unfold S0
    refine Fun.go has_ref3_expr rfl fun B Q hB hQ => ?_
    have hlt : 0 < 1 := Nat.zero_lt_one
    have hget : 0 < 1 := Nat.zero_lt_one
    have hpu : 0 < 1 := Nat.zero_lt_one
    have hinc : 0 < 1 := Nat.zero_lt_one
    repeat' (first
 | simp only [go_sem, hlt, hget, hpu, hinc, Int.reduceLE, ↓reduceIte, reduceCtorEq, Nat.reduceEqDiff, Nat.reduceLeDiff, Nat.reduceAdd, Nat.reduceMul, Nat.reduceSub, Nat.reduceLT, a1, b0, b1, b3, m1]
 | (with_reducible refine CU (Arity_s _ _) ?_)
 | (with_reducible refine CU (i1 _) ?_)
 | (with_reducible first | refine CB_ofT (by assumption) fun hc => ?_ | refine CB_ofF (by assumption) fun hc => ?_ | refine CB_split (fun hc => ?_) fun hc => ?_) <;> (try simp only [hc, bs, ↓reduceIte] at h) <;> (try simp only [hc])
 | ((with_reducible first | refine leafR hQ ?_ | refine leafN hQ ?_); (try cases h); simp only [resL, oneD, Option.some.injEq, exists_eq_left', go_sem, hlt, hget, hpu, hinc, Int.reduceLE, ↓reduceIte, reduceCtorEq, Nat.reduceEqDiff, Nat.reduceLeDiff, Nat.reduceAdd, Nat.reduceMul, Nat.reduceSub, Nat.reduceLT, a1, b0, b1, b3, m1]; repeat' (first | exact Ok.out | with_reducible refine And.intro ?_ ?_ | (simp; done)))
 | (cases h; replace h := hr; clear hr; (try simp only [bs, ↓reduceIte] at h))
 | (cases h; done))
  | no y hy ih =>
    intro hn s
    refine Fun.pure ?_ (by simp [D.oks, D.ok, okEx]) rfl s
    simp only [Ex.nodes, Ex.nodess] at hn
    have i1 := rkid_s hy (by omega) (ih (by omega)) (least := 7) (by omega)
    have l1 := prE_len hy 7
    have m1 : (1 : Nat) + (prE 7 y).length ≤ maxStr := by unfold maxStr; omega
    have a1 : arityI 4 = 1 := rfl
    have b0 : ((1 : Int) == 0) = false := rfl
    have b1 : ((1 : Int) == 1) = true := rfl
    have b3 : ((4 : Int) == 3) = false := rfl
    rw [pr_no]
    unfold S0
    refine Fun.go has_ref3_expr rfl fun B Q hB hQ => ?_
    have hlt : 0 < 1 := Nat.zero_lt_one
    have hget : 0 < 1 := Nat.zero_lt_one
    have hpu : 0 < 1 := Nat.zero_lt_one
    have hinc : 0 < 1 := Nat.zero_lt_one
    repeat' (first
 | simp only [go_sem, hlt, hget, hpu, hinc, Int.reduceLE, ↓reduceIte, reduceCtorEq, Nat.reduceEqDiff, Nat.reduceLeDiff, Nat.reduceAdd, Nat.reduceMul, Nat.reduceSub, Nat.reduceLT, a1, b0, b1, b3, m1]
 | (with_reducible refine CU (Arity_s _ _) ?_)
 | (with_reducible refine CU (i1 _) ?_)
 | (with_reducible first | refine CB_ofT (by assumption) fun hc => ?_ | refine CB_ofF (by assumption) fun hc => ?_ | refine CB_split (fun hc => ?_) fun hc => ?_) <;> (try simp only [hc, bs, ↓reduceIte] at h) <;> (try simp only [hc])
 | ((with_reducible first | refine leafR hQ ?_ | refine leafN hQ ?_); (try cases h); simp only [resL, oneD, Option.some.injEq, exists_eq_left', go_sem, hlt, hget, hpu, hinc, Int.reduceLE, ↓reduceIte, reduceCtorEq, Nat.reduceEqDiff, Nat.reduceLeDiff, Nat.reduceAdd, Nat.reduceMul, Nat.reduceSub, Nat.reduceLT, a1, b0, b1, b3, m1]; repeat' (first | exact Ok.out | with_reducible refine And.intro ?_ ?_ | (simp; done)))
 | (cases h; replace h := hr; clear hr; (try simp only [bs, ↓reduceIte] at h))
 | (cases h; done))
  | two op a b ho ha hb iha ihb =>
    intro hn s
    refine Fun.pure ?_ (by simp [D.oks, D.ok, okEx]) rfl s
    simp only [Ex.nodes, Ex.nodess] at hn
    obtain ⟨p1, p2, _⟩ := bindB_pos ho
    have i1 := rkid_s ha (by omega) (iha (by omega)) (least := bindB op) (by omega)
    have i2 := rkid_s hb (by omega) (ihb (by omega)) (least := bindB op + 1) (by omega)
    have em : muchR ⟨op, 0, [], [a, b]⟩ = bindB op := by unfold muchR; simp only [arity2 ho]; rfl
    have hm := fun s => much_s (x := ⟨op, 0, [], [a, b]⟩) (fun _ => ho) (by simp only [arity2 ho]; omega) s
    rw [em] at hm
    simp only [encEx_eq, List.map_cons, List.map_nil] at hm
    simp only [← encEx_eq] at hm
    have l1 := prE_len ha (bindB op)
    have l2 := prE_len hb (bindB op + 1)
    have l3 := signR_len' ho
    have hw : IntKind.wrap .i64 (bindB op + 1) = bindB op + 1 := by rw [wrap_ok] <;> omega
    have m1 : (prE (bindB op) a).length + 1 ≤ maxStr := by unfold maxStr; omega
    have m2 : (prE (bindB op) a).length + 1 + (signR op).length ≤ maxStr := by unfold maxStr; omega
    have m3 : (prE (bindB op) a).length + 1 + (signR op).length + 1 ≤ maxStr := by unfold maxStr; omega
    have m4 : (prE (bindB op) a).length + 1 + (signR op).length + 1 + (prE (bindB op + 1) b).length ≤ maxStr := by unfold maxStr; omega
    have a1 := arity2 ho
    have b0 : ((2 : Int) == 0) = false := rfl
    have b1 : ((2 : Int) == 1) = false := rfl
    rw [pr_two, if_neg (by omega)]
    unfold prT
    unfold S0
    refine Fun.go has_ref3_expr rfl fun B Q hB hQ => ?_
    have hlt : 0 < 1 := Nat.zero_lt_one
    have hget : 0 < 1 := Nat.zero_lt_one
    have hpu : 0 < 1 := Nat.zero_lt_one
    have hinc : 0 < 1 := Nat.zero_lt_one
    repeat' (first
 | simp only [go_sem, hlt, hget, hpu, hinc, Int.reduceLE, ↓reduceIte, reduceCtorEq, Nat.reduceEqDiff, Nat.reduceLeDiff, Nat.reduceAdd, Nat.reduceMul, Nat.reduceSub, Nat.reduceLT, a1, b0, b1, hw, m1, m2, m3, m4, Int.toNat_one, List.getElem?_cons_succ, List.getElem?_cons_zero]
 | (with_reducible refine CU (Arity_s _ _) ?_)
 | (with_reducible refine CU (i1 _) ?_)
 | (with_reducible refine CU (i2 _) ?_)
 | (with_reducible refine CU (signs_s ho _) ?_)
 | (with_reducible refine CU (hm _) ?_)
 | (with_reducible first | refine CB_ofT (by assumption) fun hc => ?_ | refine CB_ofF (by assumption) fun hc => ?_ | refine CB_split (fun hc => ?_) fun hc => ?_) <;> (try simp only [hc, bs, ↓reduceIte] at h) <;> (try simp only [hc])
 | ((with_reducible first | refine leafR hQ ?_ | refine leafN hQ ?_); (try cases h); simp only [resL, oneD, Option.some.injEq, exists_eq_left', go_sem, hlt, hget, hpu, hinc, Int.reduceLE, ↓reduceIte, reduceCtorEq, Nat.reduceEqDiff, Nat.reduceLeDiff, Nat.reduceAdd, Nat.reduceMul, Nat.reduceSub, Nat.reduceLT, a1, b0, b1, hw, m1, m2, m3, m4, Int.toNat_one, List.getElem?_cons_succ, List.getElem?_cons_zero]; repeat' (first | exact Ok.out | with_reducible refine And.intro ?_ ?_ | (simp; done)))
 | (cases h; replace h := hr; clear hr; (try simp only [bs, ↓reduceIte] at h))
 | (cases h; done))

/-! ### Texts -/

def joinF (sep : Str) : Nat → List Str → Str
  | _, [] => []
  | k, a :: l => (if k = 0 then [] else sep) ++ (a ++ joinF sep (k + 1) l)
theorem joinF_succ (sep : Str) : ∀ (l : List Str) (k : Nat), joinF sep (k + 1) l = (l.map (sep ++ ·)).flatten
  | [], _ => rfl
  | a :: l, k => by simp only [joinF, joinF_succ sep l, List.map_cons, List.flatten_cons, if_neg (Nat.succ_ne_zero k), List.append_assoc]
theorem joinF_eq (sep : Str) : ∀ l : List Str, joinF sep 0 l = Lib.join l sep
  | [] => by simp [joinF, Lib.join]
  | [a] => by simp [joinF, Lib.join, List.intercalate]
  | a :: b :: l => by
    have := joinF_eq sep (b :: l)
    simp only [joinF, ↓reduceIte, List.nil_append] at this
    have e : Lib.join (a :: b :: l) sep = a ++ (sep ++ Lib.join (b :: l) sep) := by simp only [Lib.join, List.intercalate_cons_cons, List.append_assoc]
    rw [e, ← this]
    simp only [joinF, ↓reduceIte, List.nil_append, if_neg (Nat.succ_ne_zero 0), joinF_succ, Nat.zero_add]

theorem rJoin_0 {l : List Str} {sep : Str} (hn : l.length ≤ 140737488355328) (hlen : (Lib.join l sep).length ≤ 540000000000) (s : St) :
    Fun Tryd.prog n_ref3_Join [.slice .shared 1 (l.map encStr), .str sep] s (.str (Lib.join l sep)) s := by
  refine Fun.pure ?_ (by simp [D.oks, D.ok, okrStr, Tag.ok]) rfl s
  generalize hR : Lib.join l sep = R
  rw [hR] at hlen
  rw [← joinF_eq] at hR
  unfold S0
  refine Fun.go has_ref3_Join rfl fun B Q hB hQ => ?_
  have hlt : 0 < 1 := Nat.zero_lt_one
  have hget : 0 < 1 := Nat.zero_lt_one
  have hpu : 0 < 1 := Nat.zero_lt_one
  have hinc : 0 < 1 := Nat.zero_lt_one
  repeat' (first
 | simp only [go_sem, hlt, hget, hpu, hinc, Int.reduceLE, ↓reduceIte, reduceCtorEq, Nat.reduceEqDiff, Nat.reduceLeDiff, Nat.reduceAdd, Nat.reduceMul, Nat.reduceSub, Nat.reduceLT]
 | (with_reducible first | refine CB_ofT (by assumption) fun hc => ?_ | refine CB_ofF (by assumption) fun hc => ?_ | refine CB_split (fun hc => ?_) fun hc => ?_) <;> (try simp only [hc, bs, ↓reduceIte] at h) <;> (try simp only [hc])
 | ((with_reducible first | refine leafR hQ ?_ | refine leafN hQ ?_); (try cases h); simp only [resL, oneD, Option.some.injEq, exists_eq_left', go_sem, hlt, hget, hpu, hinc, Int.reduceLE, ↓reduceIte, reduceCtorEq, Nat.reduceEqDiff, Nat.reduceLeDiff, Nat.reduceAdd, Nat.reduceMul, Nat.reduceSub, Nat.reduceLT]; repeat' (first | exact Ok.out | with_reducible refine And.intro ?_ ?_ | (simp; done)))
 | (cases h; replace h := hr; clear hr; (try simp only [bs, ↓reduceIte] at h))
 | (cases h; done))
  refine SemL.re _ _ 0 0 (by rw [hB]; exact Nat.le_of_ble_eq_true rfl) (by rw [hB]; exact Nat.le_of_ble_eq_true rfl) ?_ ?_ (SemL.ind (ι := List Str × Nat × Str) (fun i => l.drop i.2.1 = i.1 ∧ i.2.2 ++ joinF sep i.2.1 i.1 = R) (fun i => i.1.length)
    (fun i => [(0, .slice .shared 1 (l.map encStr)), (1, .str sep), (5, .str i.2.2), (7, .slice .shared 1 (l.map encStr)), (8, .int .i64 (l.length : Int)), (9, .int .i64 (i.2.1 : Int))]) (fun i => ⟨[], []⟩) ?_ (l, 0, []) ⟨rfl, hR⟩)
  · (simp only [go_sem, hlt, hget, hpu, hinc, Int.reduceLE, ↓reduceIte, reduceCtorEq, Nat.reduceEqDiff, Nat.reduceLeDiff, Nat.reduceAdd, Nat.reduceMul, Nat.reduceSub, Nat.reduceLT]; repeat' (first | exact Ok.out | with_reducible refine And.intro ?_ ?_))
  · (simp only [go_sem, hlt, hget, hpu, hinc, Int.reduceLE, ↓reduceIte, reduceCtorEq, Nat.reduceEqDiff, Nat.reduceLeDiff, Nat.reduceAdd, Nat.reduceMul, Nat.reduceSub, Nat.reduceLT]; repeat' (first | exact Ok.out | with_reducible refine And.intro ?_ ?_))
  rintro ⟨rest, k, acc⟩ ⟨h1, h2⟩ IH
  dsimp only at h1 h2
  cases rest with
  | nil =>
    have hlt := drop_nil h1
    simp only [joinF, List.append_nil] at h2
    subst h2
    repeat' (first
 | simp only [go_sem, hlt, hget, hpu, hinc, Int.reduceLE, ↓reduceIte, reduceCtorEq, Nat.reduceEqDiff, Nat.reduceLeDiff, Nat.reduceAdd, Nat.reduceMul, Nat.reduceSub, Nat.reduceLT]
 | (with_reducible first | refine CB_ofT (by assumption) fun hc => ?_ | refine CB_ofF (by assumption) fun hc => ?_ | refine CB_split (fun hc => ?_) fun hc => ?_) <;> (try simp only [hc, bs, ↓reduceIte] at h) <;> (try simp only [hc])
 | ((with_reducible first | refine leafR hQ ?_ | refine leafN hQ ?_); (try cases h); simp only [resL, oneD, Option.some.injEq, exists_eq_left', go_sem, hlt, hget, hpu, hinc, Int.reduceLE, ↓reduceIte, reduceCtorEq, Nat.reduceEqDiff, Nat.reduceLeDiff, Nat.reduceAdd, Nat.reduceMul, Nat.reduceSub, Nat.reduceLT]; repeat' (first | exact Ok.out | with_reducible refine And.intro ?_ ?_ | (simp; done)))
 | (cases h; replace h := hr; clear hr; (try simp only [bs, ↓reduceIte] at h))
 | (cases h; done))
  | cons a rest =>
    obtain ⟨hget, g2, hlt, g4⟩ := drop_cons h1
    have hk : k < 4611686018427387904 := by omega
    have w1 : IntKind.wrap .i64 ((k : Int) + 1) = ((k + 1 : Nat) : Int) := by rw [wrap_ok] <;> omega
    simp only [joinF] at h2
    have hl2 := congrArg List.length h2
    simp only [List.length_append] at hl2
    by_cases k0 : k = 0
    · have c : decide ((k : Int) > 0) = false := by simp; omega
      have m1 : acc.length + a.length ≤ maxStr := by unfold maxStr; omega
      rw [if_pos k0, List.nil_append] at h2
      repeat' (first
 | simp only [go_sem, hlt, hget, hpu, hinc, Int.reduceLE, ↓reduceIte, reduceCtorEq, Nat.reduceEqDiff, Nat.reduceLeDiff, Nat.reduceAdd, Nat.reduceMul, Nat.reduceSub, Nat.reduceLT, c, w1, m1]
 | (with_reducible first | refine CB_ofT (by assumption) fun hc => ?_ | refine CB_ofF (by assumption) fun hc => ?_ | refine CB_split (fun hc => ?_) fun hc => ?_) <;> (try simp only [hc, bs, ↓reduceIte] at h) <;> (try simp only [hc])
 | ((with_reducible first | refine leafR hQ ?_ | refine leafN hQ ?_); (try cases h); simp only [resL, oneD, Option.some.injEq, exists_eq_left', go_sem, hlt, hget, hpu, hinc, Int.reduceLE, ↓reduceIte, reduceCtorEq, Nat.reduceEqDiff, Nat.reduceLeDiff, Nat.reduceAdd, Nat.reduceMul, Nat.reduceSub, Nat.reduceLT, c, w1, m1]; repeat' (first | exact Ok.out | with_reducible refine And.intro ?_ ?_ | (simp; done)))
 | (cases h; replace h := hr; clear hr; (try simp only [bs, ↓reduceIte] at h))
 | (cases h; done))
      refine SemL.re _ _ 0 0 (by rw [hB]; exact Nat.le_of_ble_eq_true rfl) (by rw [hB]; exact Nat.le_of_ble_eq_true rfl) ?_ ?_ (IH (rest, k + 1, acc ++ a) ⟨g2, by rw [← h2]; simp only [List.append_assoc]⟩ (by simp))
      · (simp only [go_sem, hlt, hget, hpu, hinc, Int.reduceLE, ↓reduceIte, reduceCtorEq, Nat.reduceEqDiff, Nat.reduceLeDiff, Nat.reduceAdd, Nat.reduceMul, Nat.reduceSub, Nat.reduceLT]; repeat' (first | exact Ok.out | with_reducible refine And.intro ?_ ?_))
      · (simp only [go_sem, hlt, hget, hpu, hinc, Int.reduceLE, ↓reduceIte, reduceCtorEq, Nat.reduceEqDiff, Nat.reduceLeDiff, Nat.reduceAdd, Nat.reduceMul, Nat.reduceSub, Nat.reduceLT]; repeat' (first | exact Ok.out | with_reducible refine And.intro ?_ ?_))
    · have c : decide ((k : Int) > 0) = true := by simp; omega
      rw [if_neg k0] at hl2 h2
      have m1 : acc.length + sep.length ≤ maxStr := by unfold maxStr; omega
      have m2 : acc.length + sep.length + a.length ≤ maxStr := by unfold maxStr; omega
      repeat' (first
 | simp only [go_sem, hlt, hget, hpu, hinc, Int.reduceLE, ↓reduceIte, reduceCtorEq, Nat.reduceEqDiff, Nat.reduceLeDiff, Nat.reduceAdd, Nat.reduceMul, Nat.reduceSub, Nat.reduceLT, c, w1, m1, m2]
 | (with_reducible first | refine CB_ofT (by assumption) fun hc => ?_ | refine CB_ofF (by assumption) fun hc => ?_ | refine CB_split (fun hc => ?_) fun hc => ?_) <;> (try simp only [hc, bs, ↓reduceIte] at h) <;> (try simp only [hc])
 | ((with_reducible first | refine leafR hQ ?_ | refine leafN hQ ?_); (try cases h); simp only [resL, oneD, Option.some.injEq, exists_eq_left', go_sem, hlt, hget, hpu, hinc, Int.reduceLE, ↓reduceIte, reduceCtorEq, Nat.reduceEqDiff, Nat.reduceLeDiff, Nat.reduceAdd, Nat.reduceMul, Nat.reduceSub, Nat.reduceLT, c, w1, m1, m2]; repeat' (first | exact Ok.out | with_reducible refine And.intro ?_ ?_ | (simp; done)))
 | (cases h; replace h := hr; clear hr; (try simp only [bs, ↓reduceIte] at h))
 | (cases h; done))
      refine SemL.re _ _ 0 0 (by rw [hB]; exact Nat.le_of_ble_eq_true rfl) (by rw [hB]; exact Nat.le_of_ble_eq_true rfl) ?_ ?_ (IH (rest, k + 1, acc ++ sep ++ a) ⟨g2, by rw [← h2]; simp only [List.append_assoc]⟩ (by simp))
      · (simp only [go_sem, hlt, hget, hpu, hinc, Int.reduceLE, ↓reduceIte, reduceCtorEq, Nat.reduceEqDiff, Nat.reduceLeDiff, Nat.reduceAdd, Nat.reduceMul, Nat.reduceSub, Nat.reduceLT]; repeat' (first | exact Ok.out | with_reducible refine And.intro ?_ ?_))
      · (simp only [go_sem, hlt, hget, hpu, hinc, Int.reduceLE, ↓reduceIte, reduceCtorEq, Nat.reduceEqDiff, Nat.reduceLeDiff, Nat.reduceAdd, Nat.reduceMul, Nat.reduceSub, Nat.reduceLT]; repeat' (first | exact Ok.out | with_reducible refine And.intro ?_ ?_))
theorem rJoin_s {l : List Str} {sep : Str} (hn : l.length ≤ 140737488355328) (hlen : (Lib.join l sep).length ≤ 540000000000) (g : Tag) (s : St) :
    Fun Tryd.prog n_ref3_Join [.slice g 1 (l.map encStr), .str sep] s (.str (Lib.join l sep)) s :=
  ACalls.weak (.cons (Wk.shared _ _ _) (.cons (Wk.refl _) .nil)) (rJoin_0 hn hlen s)

theorem rwith_s {l : List Str} (hn : l.length ≤ 10000000) (h : ∀ t ∈ l, t.length ≤ 8) (s : St) : Fun Tryd.prog n_ref3_with [.slice .shared 1 (l.map encStr), .str [58, 32]] s (.str (marksS l)) s := by
  refine Fun.pure ?_ (by simp [D.oks, D.ok, okrStr, Tag.ok]) rfl s
  unfold S0
  generalize hR : marksS l = R
  have hlen := marksS_len h
  rw [hR] at hlen
  refine Fun.go has_ref3_with rfl fun B Q hB hQ => ?_
  have hlt : 0 < 1 := Nat.zero_lt_one
  have hget : 0 < 1 := Nat.zero_lt_one
  have hpu : 0 < 1 := Nat.zero_lt_one
  have hinc : 0 < 1 := Nat.zero_lt_one
  repeat' (first
 | simp only [go_sem, hlt, hget, hpu, hinc, Int.reduceLE, ↓reduceIte, reduceCtorEq, Nat.reduceEqDiff, Nat.reduceLeDiff, Nat.reduceAdd, Nat.reduceMul, Nat.reduceSub, Nat.reduceLT]
 | (with_reducible first | refine CB_ofT (by assumption) fun hc => ?_ | refine CB_ofF (by assumption) fun hc => ?_ | refine CB_split (fun hc => ?_) fun hc => ?_) <;> (try simp only [hc, bs, ↓reduceIte] at h) <;> (try simp only [hc])
 | ((with_reducible first | refine leafR hQ ?_ | refine leafN hQ ?_); (try cases h); simp only [resL, oneD, Option.some.injEq, exists_eq_left', go_sem, hlt, hget, hpu, hinc, Int.reduceLE, ↓reduceIte, reduceCtorEq, Nat.reduceEqDiff, Nat.reduceLeDiff, Nat.reduceAdd, Nat.reduceMul, Nat.reduceSub, Nat.reduceLT]; repeat' (first | exact Ok.out | with_reducible refine And.intro ?_ ?_ | (simp; done)))
 | (cases h; replace h := hr; clear hr; (try simp only [bs, ↓reduceIte] at h))
 | (cases h; done))
  refine SemL.re _ _ 0 0 (by rw [hB]; exact Nat.le_of_ble_eq_true rfl) (by rw [hB]; exact Nat.le_of_ble_eq_true rfl) ?_ ?_ (SemL.ind (ι := List Str × Nat × Str) (fun i => l.drop i.2.1 = i.1 ∧ i.2.2 ++ marksS i.1 = R) (fun i => i.1.length)
    (fun i => [(0, .slice .shared 1 (l.map encStr)), (1, .str [58, 32]), (5, .str i.2.2), (7, .slice .shared 1 (l.map encStr)), (8, .int .i64 (l.length : Int)), (9, .int .i64 (i.2.1 : Int))]) (fun i => ⟨[], []⟩) ?_ (l, 0, []) ⟨rfl, hR⟩)
  · (simp only [go_sem, hlt, hget, hpu, hinc, Int.reduceLE, ↓reduceIte, reduceCtorEq, Nat.reduceEqDiff, Nat.reduceLeDiff, Nat.reduceAdd, Nat.reduceMul, Nat.reduceSub, Nat.reduceLT]; repeat' (first | exact Ok.out | with_reducible refine And.intro ?_ ?_))
  · (simp only [go_sem, hlt, hget, hpu, hinc, Int.reduceLE, ↓reduceIte, reduceCtorEq, Nat.reduceEqDiff, Nat.reduceLeDiff, Nat.reduceAdd, Nat.reduceMul, Nat.reduceSub, Nat.reduceLT]; repeat' (first | exact Ok.out | with_reducible refine And.intro ?_ ?_))
  rintro ⟨rest, k, acc⟩ ⟨h1, h2⟩ IH
  dsimp only at h1 h2
  cases rest with
  | nil =>
    have hlt := drop_nil h1
    simp only [marksS, List.append_nil] at h2
    repeat' (first
 | simp only [go_sem, hlt, hget, hpu, hinc, Int.reduceLE, ↓reduceIte, reduceCtorEq, Nat.reduceEqDiff, Nat.reduceLeDiff, Nat.reduceAdd, Nat.reduceMul, Nat.reduceSub, Nat.reduceLT, h2]
 | (with_reducible first | refine CB_ofT (by assumption) fun hc => ?_ | refine CB_ofF (by assumption) fun hc => ?_ | refine CB_split (fun hc => ?_) fun hc => ?_) <;> (try simp only [hc, bs, ↓reduceIte] at h) <;> (try simp only [hc])
 | ((with_reducible first | refine leafR hQ ?_ | refine leafN hQ ?_); (try cases h); simp only [resL, oneD, Option.some.injEq, exists_eq_left', go_sem, hlt, hget, hpu, hinc, Int.reduceLE, ↓reduceIte, reduceCtorEq, Nat.reduceEqDiff, Nat.reduceLeDiff, Nat.reduceAdd, Nat.reduceMul, Nat.reduceSub, Nat.reduceLT, h2]; repeat' (first | exact Ok.out | with_reducible refine And.intro ?_ ?_ | (simp; done)))
 | (cases h; replace h := hr; clear hr; (try simp only [bs, ↓reduceIte] at h))
 | (cases h; done))
  | cons t rest =>
    obtain ⟨hget, g2, hlt, g4⟩ := drop_cons h1
    have hpu : k < 4611686018427387904 := by omega
    have w1 : IntKind.wrap .i64 ((k : Int) + 1) = ((k + 1 : Nat) : Int) := by rw [wrap_ok] <;> omega
    have hal : acc.length + t.length + 2 ≤ R.length := by rw [← h2]; simp only [marksS, List.length_append, List.length_cons, List.length_nil]; omega
    have m1 : t.length + 1 + 1 ≤ maxStr := by unfold maxStr; omega
    have m2 : acc.length + (t.length + 1 + 1) ≤ maxStr := by unfold maxStr; omega
    repeat' (first
 | simp only [go_sem, hlt, hget, hpu, hinc, Int.reduceLE, ↓reduceIte, reduceCtorEq, Nat.reduceEqDiff, Nat.reduceLeDiff, Nat.reduceAdd, Nat.reduceMul, Nat.reduceSub, Nat.reduceLT, w1, m1, m2]
 | (with_reducible first | refine CB_ofT (by assumption) fun hc => ?_ | refine CB_ofF (by assumption) fun hc => ?_ | refine CB_split (fun hc => ?_) fun hc => ?_) <;> (try simp only [hc, bs, ↓reduceIte] at h) <;> (try simp only [hc])
 | ((with_reducible first | refine leafR hQ ?_ | refine leafN hQ ?_); (try cases h); simp only [resL, oneD, Option.some.injEq, exists_eq_left', go_sem, hlt, hget, hpu, hinc, Int.reduceLE, ↓reduceIte, reduceCtorEq, Nat.reduceEqDiff, Nat.reduceLeDiff, Nat.reduceAdd, Nat.reduceMul, Nat.reduceSub, Nat.reduceLT, w1, m1, m2]; repeat' (first | exact Ok.out | with_reducible refine And.intro ?_ ?_ | (simp; done)))
 | (cases h; replace h := hr; clear hr; (try simp only [bs, ↓reduceIte] at h))
 | (cases h; done))
    refine SemL.re _ _ 0 0 (by rw [hB]; exact Nat.le_of_ble_eq_true rfl) (by rw [hB]; exact Nat.le_of_ble_eq_true rfl) ?_ ?_ (IH (rest, k + 1, acc ++ (t ++ [58, 32])) ⟨g2, by rw [← h2]; simp [marksS]⟩ (by simp))
    · (simp only [go_sem, hlt, hget, hpu, hinc, Int.reduceLE, ↓reduceIte, reduceCtorEq, Nat.reduceEqDiff, Nat.reduceLeDiff, Nat.reduceAdd, Nat.reduceMul, Nat.reduceSub, Nat.reduceLT]; repeat' (first | exact Ok.out | with_reducible refine And.intro ?_ ?_))
    · (simp only [go_sem, hlt, hget, hpu, hinc, Int.reduceLE, ↓reduceIte, reduceCtorEq, Nat.reduceEqDiff, Nat.reduceLeDiff, Nat.reduceAdd, Nat.reduceMul, Nat.reduceSub, Nat.reduceLT]; repeat' (first | exact Ok.out | with_reducible refine And.intro ?_ ?_))

end Go.Abs

/-! Pr6 -/

namespace Go.Abs

set_option maxRecDepth 8000
set_option linter.unusedSimpArgs false
set_option linter.unusedVariables false
open Go.Proofs

theorem rcall_s {s : Sm} (h : s.PrO) (hs : s.size ≤ 1000000) (st : St) : Fun Tryd.prog n_ref3_call [.agg (encSm s)] st (.str (callS s.name s.proc s.args ++ [59])) st := by
  refine Fun.pure ?_ (by simp [D.oks, D.ok, okSm]) rfl st
  obtain ⟨id, kind, labels, name, proc, x, has, args, thn, els⟩ := s
  obtain ⟨hx, _, hname, hproc, hargs, _, _⟩ := h
  dsimp only at hx hname hproc hargs ⊢
  simp only [Sm.size] at hs
  unfold S0
  have hal := args_len hargs
  have asz := Ar.sizes_len args
  have ej := fun s => rJoin_s (l := args.map argS) (sep := [44, 32]) (by simp; omega) (by omega) (.tok 0) s
  have m1 : proc.length + 1 ≤ maxStr := by unfold maxStr; omega
  have m2 : proc.length + 1 + (Lib.join (args.map argS) [44, 32]).length ≤ maxStr := by unfold maxStr; omega
  have m3 : proc.length + 1 + (Lib.join (args.map argS) [44, 32]).length + 1 + 1 ≤ maxStr := by unfold maxStr; omega
  have m4 : name.length + 1 + 1 + 1 ≤ maxStr := by unfold maxStr; omega
  have m5 : name.length + 1 + 1 + 1 + (proc.length + 1 + (Lib.join (args.map argS) [44, 32]).length + 1 + 1) ≤ maxStr := by unfold maxStr; omega
  refine Fun.go has_ref3_call rfl fun B Q hB hQ => ?_
  have hlt : 0 < 1 := Nat.zero_lt_one
  have hget : 0 < 1 := Nat.zero_lt_one
  have hpu : 0 < 1 := Nat.zero_lt_one
  have hinc : 0 < 1 := Nat.zero_lt_one
  repeat' (first
 | simp only [go_sem, hlt, hget, hpu, hinc, Int.reduceLE, ↓reduceIte, reduceCtorEq, Nat.reduceEqDiff, Nat.reduceLeDiff, Nat.reduceAdd, Nat.reduceMul, Nat.reduceSub, Nat.reduceLT]
 | (with_reducible first | refine CB_ofT (by assumption) fun hc => ?_ | refine CB_ofF (by assumption) fun hc => ?_ | refine CB_split (fun hc => ?_) fun hc => ?_) <;> (try simp only [hc, bs, ↓reduceIte] at h) <;> (try simp only [hc])
 | ((with_reducible first | refine leafR hQ ?_ | refine leafN hQ ?_); (try cases h); simp only [resL, oneD, Option.some.injEq, exists_eq_left', go_sem, hlt, hget, hpu, hinc, Int.reduceLE, ↓reduceIte, reduceCtorEq, Nat.reduceEqDiff, Nat.reduceLeDiff, Nat.reduceAdd, Nat.reduceMul, Nat.reduceSub, Nat.reduceLT]; repeat' (first | exact Ok.out | with_reducible refine And.intro ?_ ?_ | (simp; done)))
 | (cases h; replace h := hr; clear hr; (try simp only [bs, ↓reduceIte] at h))
 | (cases h; done))
  refine SemL.tokT 3 1 rfl ?_
  simp only [go_sem, hlt, hget, hpu, hinc, Int.reduceLE, ↓reduceIte, reduceCtorEq, Nat.reduceEqDiff, Nat.reduceLeDiff, Nat.reduceAdd, Nat.reduceMul, Nat.reduceSub, Nat.reduceLT]
  refine SemL.re _ _ 1 1 (by rw [hB]; exact Nat.le_of_ble_eq_true rfl) (by rw [hB]; exact Nat.le_of_ble_eq_true rfl) ?_ ?_ (SemL.ind (ι := List Ar × Nat × List Str) (fun i => args.drop i.2.1 = i.1 ∧ i.2.2 ++ i.1.map argS = args.map argS ∧ i.2.2.length = i.2.1) (fun i => i.1.length)
    (fun i => [(1, .ptr 0 0), (3, .slice (.tok 0) 1 (i.2.2.map encStr)), (8, .slice .shared 6 (args.map encAr)), (9, .int .i64 (args.length : Int)), (10, .int .i64 (i.2.1 : Int))]) (fun i => ⟨[encSm ⟨id, kind, labels, name, proc, x, has, args, thn, els⟩], [some i.2.1]⟩) ?_ (args, 0, []) ⟨rfl, rfl, rfl⟩)
  · (simp only [go_sem, hlt, hget, hpu, hinc, Int.reduceLE, ↓reduceIte, reduceCtorEq, Nat.reduceEqDiff, Nat.reduceLeDiff, Nat.reduceAdd, Nat.reduceMul, Nat.reduceSub, Nat.reduceLT]; repeat' (first | exact Ok.out | with_reducible refine And.intro ?_ ?_))
  · (simp only [go_sem, hlt, hget, hpu, hinc, Int.reduceLE, ↓reduceIte, reduceCtorEq, Nat.reduceEqDiff, Nat.reduceLeDiff, Nat.reduceAdd, Nat.reduceMul, Nat.reduceSub, Nat.reduceLT]; repeat' (first | exact Ok.out | with_reducible refine And.intro ?_ ?_))
  rintro ⟨rest, k, acc⟩ ⟨h1, h2, h3⟩ IH
  dsimp only at h1 h2 h3
  cases rest with
  | nil =>
    have hlt := drop_nil h1
    simp only [List.map_nil, List.append_nil] at h2
    subst h2
    cases cn : name == [] with
    | true =>
      have ec : callS name proc args ++ [59] = proc ++ [40] ++ Lib.join (args.map argS) [44, 32] ++ [41, 59] := by rw [callS, if_pos (by simpa using cn), List.nil_append]; simp only [List.append_assoc, List.cons_append, List.nil_append]
      repeat' (first
 | simp only [go_sem, hlt, hget, hpu, hinc, Int.reduceLE, ↓reduceIte, reduceCtorEq, Nat.reduceEqDiff, Nat.reduceLeDiff, Nat.reduceAdd, Nat.reduceMul, Nat.reduceSub, Nat.reduceLT, m1, m2, m3, cn, ec]
 | (with_reducible refine CU (ej _) ?_)
 | (with_reducible first | refine CB_ofT (by assumption) fun hc => ?_ | refine CB_ofF (by assumption) fun hc => ?_ | refine CB_split (fun hc => ?_) fun hc => ?_) <;> (try simp only [hc, bs, ↓reduceIte] at h) <;> (try simp only [hc])
 | ((with_reducible first | refine leafR hQ ?_ | refine leafN hQ ?_); (try cases h); simp only [resL, oneD, Option.some.injEq, exists_eq_left', go_sem, hlt, hget, hpu, hinc, Int.reduceLE, ↓reduceIte, reduceCtorEq, Nat.reduceEqDiff, Nat.reduceLeDiff, Nat.reduceAdd, Nat.reduceMul, Nat.reduceSub, Nat.reduceLT, m1, m2, m3, cn, ec]; repeat' (first | exact Ok.out | with_reducible refine And.intro ?_ ?_ | (simp; done)))
 | (cases h; replace h := hr; clear hr; (try simp only [bs, ↓reduceIte] at h))
 | (cases h; done))
    | false =>
      have ec : callS name proc args ++ [59] = name ++ [32, 61, 32] ++ (proc ++ [40] ++ Lib.join (args.map argS) [44, 32] ++ [41, 59]) := by rw [callS, if_neg (by simpa using cn)]; simp only [List.append_assoc, List.cons_append, List.nil_append]
      repeat' (first
 | simp only [go_sem, hlt, hget, hpu, hinc, Int.reduceLE, ↓reduceIte, reduceCtorEq, Nat.reduceEqDiff, Nat.reduceLeDiff, Nat.reduceAdd, Nat.reduceMul, Nat.reduceSub, Nat.reduceLT, m1, m2, m3, m4, m5, cn, ec]
 | (with_reducible refine CU (ej _) ?_)
 | (with_reducible first | refine CB_ofT (by assumption) fun hc => ?_ | refine CB_ofF (by assumption) fun hc => ?_ | refine CB_split (fun hc => ?_) fun hc => ?_) <;> (try simp only [hc, bs, ↓reduceIte] at h) <;> (try simp only [hc])
 | ((with_reducible first | refine leafR hQ ?_ | refine leafN hQ ?_); (try cases h); simp only [resL, oneD, Option.some.injEq, exists_eq_left', go_sem, hlt, hget, hpu, hinc, Int.reduceLE, ↓reduceIte, reduceCtorEq, Nat.reduceEqDiff, Nat.reduceLeDiff, Nat.reduceAdd, Nat.reduceMul, Nat.reduceSub, Nat.reduceLT, m1, m2, m3, m4, m5, cn, ec]; repeat' (first | exact Ok.out | with_reducible refine And.intro ?_ ?_ | (simp; done)))
 | (cases h; replace h := hr; clear hr; (try simp only [bs, ↓reduceIte] at h))
 | (cases h; done))
  | cons a rest =>
    obtain ⟨hget, g2, hlt, g4⟩ := drop_cons h1
    have hmem := List.mem_of_getElem? hget
    obtain ⟨ha1, ha2⟩ := hargs a hmem
    have hsz := Ar.sizes_mem hmem
    have han := nodes_size a.x.size a.x (Nat.le_refl _)
    have hk : k < 4611686018427387904 := by omega
    have w1 : IntKind.wrap .i64 ((k : Int) + 1) = ((k + 1 : Nat) : Int) := by rw [wrap_ok] <;> omega
    have hpu : (k + 1) * 17 ≤ maxStr := by unfold maxStr; omega
    cases hr : a.ref with
    | true =>
      have m1 : (4 : Nat) + a.name.length ≤ maxStr := by unfold maxStr; omega
      have ea : argS a = [114, 101, 102, 32] ++ a.name := by simp only [argS, hr, ↓reduceIte]
      repeat' (first
 | simp only [go_sem, hlt, hget, hpu, hinc, Int.reduceLE, ↓reduceIte, reduceCtorEq, Nat.reduceEqDiff, Nat.reduceLeDiff, Nat.reduceAdd, Nat.reduceMul, Nat.reduceSub, Nat.reduceLT, hr, m1, w1, h3]
 | (with_reducible first | refine CB_ofT (by assumption) fun hc => ?_ | refine CB_ofF (by assumption) fun hc => ?_ | refine CB_split (fun hc => ?_) fun hc => ?_) <;> (try simp only [hc, bs, ↓reduceIte] at h) <;> (try simp only [hc])
 | ((with_reducible first | refine leafR hQ ?_ | refine leafN hQ ?_); (try cases h); simp only [resL, oneD, Option.some.injEq, exists_eq_left', go_sem, hlt, hget, hpu, hinc, Int.reduceLE, ↓reduceIte, reduceCtorEq, Nat.reduceEqDiff, Nat.reduceLeDiff, Nat.reduceAdd, Nat.reduceMul, Nat.reduceSub, Nat.reduceLT, hr, m1, w1, h3]; repeat' (first | exact Ok.out | with_reducible refine And.intro ?_ ?_ | (simp; done)))
 | (cases h; replace h := hr; clear hr; (try simp only [bs, ↓reduceIte] at h))
 | (cases h; done))
      refine SemL.re _ _ 1 1 (by rw [hB]; exact Nat.le_of_ble_eq_true rfl) (by rw [hB]; exact Nat.le_of_ble_eq_true rfl) ?_ ?_ (IH (rest, k + 1, acc ++ [argS a]) ⟨g2, by rw [← h2]; simp, by simp [h3]⟩ (by simp))
      · (simp only [go_sem, hlt, hget, hpu, hinc, Int.reduceLE, ↓reduceIte, reduceCtorEq, Nat.reduceEqDiff, Nat.reduceLeDiff, Nat.reduceAdd, Nat.reduceMul, Nat.reduceSub, Nat.reduceLT, ea, List.cons_append, List.nil_append]; repeat' (first | exact Ok.out | with_reducible refine And.intro ?_ ?_))
      · (simp only [go_sem, hlt, hget, hpu, hinc, Int.reduceLE, ↓reduceIte, reduceCtorEq, Nat.reduceEqDiff, Nat.reduceLeDiff, Nat.reduceAdd, Nat.reduceMul, Nat.reduceSub, Nat.reduceLT, ea, List.cons_append, List.nil_append]; repeat' (first | exact Ok.out | with_reducible refine And.intro ?_ ?_))
    | false =>
      have e1 := fun s => rexpr_s (ha2 hr) (by omega) s
      have ea : argS a = prE 0 a.x := by simp only [argS, hr, Bool.false_eq_true, ↓reduceIte]
      repeat' (first
 | simp only [go_sem, hlt, hget, hpu, hinc, Int.reduceLE, ↓reduceIte, reduceCtorEq, Nat.reduceEqDiff, Nat.reduceLeDiff, Nat.reduceAdd, Nat.reduceMul, Nat.reduceSub, Nat.reduceLT, hr, w1, h3]
 | (with_reducible refine CU (e1 _) ?_)
 | (with_reducible first | refine CB_ofT (by assumption) fun hc => ?_ | refine CB_ofF (by assumption) fun hc => ?_ | refine CB_split (fun hc => ?_) fun hc => ?_) <;> (try simp only [hc, bs, ↓reduceIte] at h) <;> (try simp only [hc])
 | ((with_reducible first | refine leafR hQ ?_ | refine leafN hQ ?_); (try cases h); simp only [resL, oneD, Option.some.injEq, exists_eq_left', go_sem, hlt, hget, hpu, hinc, Int.reduceLE, ↓reduceIte, reduceCtorEq, Nat.reduceEqDiff, Nat.reduceLeDiff, Nat.reduceAdd, Nat.reduceMul, Nat.reduceSub, Nat.reduceLT, hr, w1, h3]; repeat' (first | exact Ok.out | with_reducible refine And.intro ?_ ?_ | (simp; done)))
 | (cases h; replace h := hr; clear hr; (try simp only [bs, ↓reduceIte] at h))
 | (cases h; done))
      refine SemL.re _ _ 1 1 (by rw [hB]; exact Nat.le_of_ble_eq_true rfl) (by rw [hB]; exact Nat.le_of_ble_eq_true rfl) ?_ ?_ (IH (rest, k + 1, acc ++ [argS a]) ⟨g2, by rw [← h2]; simp, by simp [h3]⟩ (by simp))
      · (simp only [go_sem, hlt, hget, hpu, hinc, Int.reduceLE, ↓reduceIte, reduceCtorEq, Nat.reduceEqDiff, Nat.reduceLeDiff, Nat.reduceAdd, Nat.reduceMul, Nat.reduceSub, Nat.reduceLT, ea, List.cons_append, List.nil_append]; repeat' (first | exact Ok.out | with_reducible refine And.intro ?_ ?_))
      · (simp only [go_sem, hlt, hget, hpu, hinc, Int.reduceLE, ↓reduceIte, reduceCtorEq, Nat.reduceEqDiff, Nat.reduceLeDiff, Nat.reduceAdd, Nat.reduceMul, Nat.reduceSub, Nat.reduceLT, ea, List.cons_append, List.nil_append]; repeat' (first | exact Ok.out | with_reducible refine And.intro ?_ ?_))

/-- A statement's first line. -/
def lineT (s : Sm) : Str := if s.kind = 6 then [119, 104, 105, 108, 101, 32, 40] ++ prE 0 s.x ++ [41, 32, 123] else if s.kind = 5 then [105, 102, 32, 40] ++ prE 0 s.x ++ [41, 32, 123] else plainS s.kind s.name s.proc s.x s.has s.args ++ [59]

theorem rline_s {s : Sm} (h : s.PrO) (hs : s.size ≤ 1000000) (st : St) : Fun Tryd.prog n_ref3_line [.agg (encSm s)] st (.str (lineT s)) st := by
  refine Fun.pure ?_ (by simp [D.oks, D.ok, okSm]) rfl st
  have ecall := fun st => rcall_s h hs st
  obtain ⟨id, kind, labels, name, proc, x, has, args, thn, els⟩ := s
  obtain ⟨hx, _, hname, hproc, hargs, hkind, _⟩ := h
  dsimp only at hx hname hproc hargs hkind ecall ⊢
  simp only [encSm_eq] at ecall
  simp only [Sm.size] at hs
  have hns := nodes_size x.size x (Nat.le_refl _)
  have hxn : x.nodes ≤ 1000000 := by omega
  have k1 : kind = 1 → FormI x := fun k => hx (by simp [Sm.hasX, k])
  have k3 : kind = 3 → FormI x := fun k => hx (by simp [Sm.hasX, k])
  have k5 : kind = 5 → FormI x := fun k => hx (by simp [Sm.hasX, k])
  have k6 : kind = 6 → FormI x := fun k => hx (by simp [Sm.hasX, k])
  have k9 : kind = 9 → has = true → FormI x := fun k h => hx (by simp [Sm.hasX, k, h])
  have ee := fun (hF : FormI x) s => rexpr_s hF hxn s
  simp only [encEx_eq] at ee
  unfold S0 lineT plainS
  dsimp only
  have : kind = 1 ∨ kind = 2 ∨ kind = 3 ∨ kind = 4 ∨ kind = 5 ∨ kind = 6 ∨ kind = 7 ∨ kind = 8 ∨ kind = 9 ∨ kind = 10 := by omega
  have m2 : (5 : Nat) + name.length ≤ maxStr := by unfold maxStr; omega
  have m3 : name.length + 1 + 1 + 1 + 1 + 1 + 1 ≤ maxStr := by unfold maxStr; omega
  rcases this with rfl | rfl | rfl | rfl | rfl | rfl | rfl | rfl | rfl | rfl
  · have e1 := ee (k1 rfl)
    have := prE_len (k1 rfl) 0
    have m1 : name.length + 1 + 1 + 1 ≤ maxStr := by unfold maxStr; omega
    have m2 : name.length + 1 + 1 + 1 + (prE 0 x).length ≤ maxStr := by unfold maxStr; omega
    have m3 : name.length + 1 + 1 + 1 + (prE 0 x).length + 1 ≤ maxStr := by unfold maxStr; omega
    refine Fun.go has_ref3_line rfl fun B Q hB hQ => ?_
    have hlt : 0 < 1 := Nat.zero_lt_one
    have hget : 0 < 1 := Nat.zero_lt_one
    have hpu : 0 < 1 := Nat.zero_lt_one
    have hinc : 0 < 1 := Nat.zero_lt_one
    repeat' (first
 | simp only [go_sem, hlt, hget, hpu, hinc, Int.reduceLE, ↓reduceIte, reduceCtorEq, Nat.reduceEqDiff, Nat.reduceLeDiff, Nat.reduceAdd, Nat.reduceMul, Nat.reduceSub, Nat.reduceLT, Int.reduceEq, Int.reduceBEq, m1, m2, m3]
 | (with_reducible refine CU (e1 _) ?_)
 | (with_reducible first | refine CB_ofT (by assumption) fun hc => ?_ | refine CB_ofF (by assumption) fun hc => ?_ | refine CB_split (fun hc => ?_) fun hc => ?_) <;> (try simp only [hc, bs, ↓reduceIte] at h) <;> (try simp only [hc])
 | ((with_reducible first | refine leafR hQ ?_ | refine leafN hQ ?_); (try cases h); simp only [resL, oneD, Option.some.injEq, exists_eq_left', go_sem, hlt, hget, hpu, hinc, Int.reduceLE, ↓reduceIte, reduceCtorEq, Nat.reduceEqDiff, Nat.reduceLeDiff, Nat.reduceAdd, Nat.reduceMul, Nat.reduceSub, Nat.reduceLT, Int.reduceEq, Int.reduceBEq, m1, m2, m3]; repeat' (first | exact Ok.out | with_reducible refine And.intro ?_ ?_ | (simp; done)))
 | (cases h; replace h := hr; clear hr; (try simp only [bs, ↓reduceIte] at h))
 | (cases h; done))
  · refine Fun.go has_ref3_line rfl fun B Q hB hQ => ?_
    have hlt : 0 < 1 := Nat.zero_lt_one
    have hget : 0 < 1 := Nat.zero_lt_one
    have hpu : 0 < 1 := Nat.zero_lt_one
    have hinc : 0 < 1 := Nat.zero_lt_one
    repeat' (first
 | simp only [go_sem, hlt, hget, hpu, hinc, Int.reduceLE, ↓reduceIte, reduceCtorEq, Nat.reduceEqDiff, Nat.reduceLeDiff, Nat.reduceAdd, Nat.reduceMul, Nat.reduceSub, Nat.reduceLT, Int.reduceEq, Int.reduceBEq, m2, m3]
 | (with_reducible first | refine CB_ofT (by assumption) fun hc => ?_ | refine CB_ofF (by assumption) fun hc => ?_ | refine CB_split (fun hc => ?_) fun hc => ?_) <;> (try simp only [hc, bs, ↓reduceIte] at h) <;> (try simp only [hc])
 | ((with_reducible first | refine leafR hQ ?_ | refine leafN hQ ?_); (try cases h); simp only [resL, oneD, Option.some.injEq, exists_eq_left', go_sem, hlt, hget, hpu, hinc, Int.reduceLE, ↓reduceIte, reduceCtorEq, Nat.reduceEqDiff, Nat.reduceLeDiff, Nat.reduceAdd, Nat.reduceMul, Nat.reduceSub, Nat.reduceLT, Int.reduceEq, Int.reduceBEq, m2, m3]; repeat' (first | exact Ok.out | with_reducible refine And.intro ?_ ?_ | (simp; done)))
 | (cases h; replace h := hr; clear hr; (try simp only [bs, ↓reduceIte] at h))
 | (cases h; done))
  · have e1 := ee (k3 rfl)
    have := prE_len (k3 rfl) 0
    have m1 : (6 : Nat) + (prE 0 x).length ≤ maxStr := by unfold maxStr; omega
    have m2 : (prE 0 x).length + 1 + 1 + 1 + 1 + 1 + 1 + 1 ≤ maxStr := by unfold maxStr; omega
    refine Fun.go has_ref3_line rfl fun B Q hB hQ => ?_
    have hlt : 0 < 1 := Nat.zero_lt_one
    have hget : 0 < 1 := Nat.zero_lt_one
    have hpu : 0 < 1 := Nat.zero_lt_one
    have hinc : 0 < 1 := Nat.zero_lt_one
    repeat' (first
 | simp only [go_sem, hlt, hget, hpu, hinc, Int.reduceLE, ↓reduceIte, reduceCtorEq, Nat.reduceEqDiff, Nat.reduceLeDiff, Nat.reduceAdd, Nat.reduceMul, Nat.reduceSub, Nat.reduceLT, Int.reduceEq, Int.reduceBEq, m1, m2]
 | (with_reducible refine CU (e1 _) ?_)
 | (with_reducible first | refine CB_ofT (by assumption) fun hc => ?_ | refine CB_ofF (by assumption) fun hc => ?_ | refine CB_split (fun hc => ?_) fun hc => ?_) <;> (try simp only [hc, bs, ↓reduceIte] at h) <;> (try simp only [hc])
 | ((with_reducible first | refine leafR hQ ?_ | refine leafN hQ ?_); (try cases h); simp only [resL, oneD, Option.some.injEq, exists_eq_left', go_sem, hlt, hget, hpu, hinc, Int.reduceLE, ↓reduceIte, reduceCtorEq, Nat.reduceEqDiff, Nat.reduceLeDiff, Nat.reduceAdd, Nat.reduceMul, Nat.reduceSub, Nat.reduceLT, Int.reduceEq, Int.reduceBEq, m1, m2]; repeat' (first | exact Ok.out | with_reducible refine And.intro ?_ ?_ | (simp; done)))
 | (cases h; replace h := hr; clear hr; (try simp only [bs, ↓reduceIte] at h))
 | (cases h; done))
  · refine Fun.go has_ref3_line rfl fun B Q hB hQ => ?_
    have hlt : 0 < 1 := Nat.zero_lt_one
    have hget : 0 < 1 := Nat.zero_lt_one
    have hpu : 0 < 1 := Nat.zero_lt_one
    have hinc : 0 < 1 := Nat.zero_lt_one
    repeat' (first
 | simp only [go_sem, hlt, hget, hpu, hinc, Int.reduceLE, ↓reduceIte, reduceCtorEq, Nat.reduceEqDiff, Nat.reduceLeDiff, Nat.reduceAdd, Nat.reduceMul, Nat.reduceSub, Nat.reduceLT, Int.reduceEq, Int.reduceBEq]
 | (with_reducible refine CU (ecall _) ?_)
 | (with_reducible first | refine CB_ofT (by assumption) fun hc => ?_ | refine CB_ofF (by assumption) fun hc => ?_ | refine CB_split (fun hc => ?_) fun hc => ?_) <;> (try simp only [hc, bs, ↓reduceIte] at h) <;> (try simp only [hc])
 | ((with_reducible first | refine leafR hQ ?_ | refine leafN hQ ?_); (try cases h); simp only [resL, oneD, Option.some.injEq, exists_eq_left', go_sem, hlt, hget, hpu, hinc, Int.reduceLE, ↓reduceIte, reduceCtorEq, Nat.reduceEqDiff, Nat.reduceLeDiff, Nat.reduceAdd, Nat.reduceMul, Nat.reduceSub, Nat.reduceLT, Int.reduceEq, Int.reduceBEq]; repeat' (first | exact Ok.out | with_reducible refine And.intro ?_ ?_ | (simp; done)))
 | (cases h; replace h := hr; clear hr; (try simp only [bs, ↓reduceIte] at h))
 | (cases h; done))
  · have e1 := ee (k5 rfl)
    have := prE_len (k5 rfl) 0
    have m1 : (4 : Nat) + (prE 0 x).length ≤ maxStr := by unfold maxStr; omega
    have m2 : (prE 0 x).length + 1 + 1 + 1 + 1 + 1 + 1 + 1 ≤ maxStr := by unfold maxStr; omega
    refine Fun.go has_ref3_line rfl fun B Q hB hQ => ?_
    have hlt : 0 < 1 := Nat.zero_lt_one
    have hget : 0 < 1 := Nat.zero_lt_one
    have hpu : 0 < 1 := Nat.zero_lt_one
    have hinc : 0 < 1 := Nat.zero_lt_one
    repeat' (first
 | simp only [go_sem, hlt, hget, hpu, hinc, Int.reduceLE, ↓reduceIte, reduceCtorEq, Nat.reduceEqDiff, Nat.reduceLeDiff, Nat.reduceAdd, Nat.reduceMul, Nat.reduceSub, Nat.reduceLT, Int.reduceEq, Int.reduceBEq, m1, m2]
 | (with_reducible refine CU (e1 _) ?_)
 | (with_reducible first | refine CB_ofT (by assumption) fun hc => ?_ | refine CB_ofF (by assumption) fun hc => ?_ | refine CB_split (fun hc => ?_) fun hc => ?_) <;> (try simp only [hc, bs, ↓reduceIte] at h) <;> (try simp only [hc])
 | ((with_reducible first | refine leafR hQ ?_ | refine leafN hQ ?_); (try cases h); simp only [resL, oneD, Option.some.injEq, exists_eq_left', go_sem, hlt, hget, hpu, hinc, Int.reduceLE, ↓reduceIte, reduceCtorEq, Nat.reduceEqDiff, Nat.reduceLeDiff, Nat.reduceAdd, Nat.reduceMul, Nat.reduceSub, Nat.reduceLT, Int.reduceEq, Int.reduceBEq, m1, m2]; repeat' (first | exact Ok.out | with_reducible refine And.intro ?_ ?_ | (simp; done)))
 | (cases h; replace h := hr; clear hr; (try simp only [bs, ↓reduceIte] at h))
 | (cases h; done))
  · have e1 := ee (k6 rfl)
    have := prE_len (k6 rfl) 0
    have m1 : (7 : Nat) + (prE 0 x).length ≤ maxStr := by unfold maxStr; omega
    have m2 : (prE 0 x).length + 1 + 1 + 1 + 1 + 1 + 1 + 1 + 1 + 1 + 1 ≤ maxStr := by unfold maxStr; omega
    refine Fun.go has_ref3_line rfl fun B Q hB hQ => ?_
    have hlt : 0 < 1 := Nat.zero_lt_one
    have hget : 0 < 1 := Nat.zero_lt_one
    have hpu : 0 < 1 := Nat.zero_lt_one
    have hinc : 0 < 1 := Nat.zero_lt_one
    repeat' (first
 | simp only [go_sem, hlt, hget, hpu, hinc, Int.reduceLE, ↓reduceIte, reduceCtorEq, Nat.reduceEqDiff, Nat.reduceLeDiff, Nat.reduceAdd, Nat.reduceMul, Nat.reduceSub, Nat.reduceLT, Int.reduceEq, Int.reduceBEq, m1, m2]
 | (with_reducible refine CU (e1 _) ?_)
 | (with_reducible first | refine CB_ofT (by assumption) fun hc => ?_ | refine CB_ofF (by assumption) fun hc => ?_ | refine CB_split (fun hc => ?_) fun hc => ?_) <;> (try simp only [hc, bs, ↓reduceIte] at h) <;> (try simp only [hc])
 | ((with_reducible first | refine leafR hQ ?_ | refine leafN hQ ?_); (try cases h); simp only [resL, oneD, Option.some.injEq, exists_eq_left', go_sem, hlt, hget, hpu, hinc, Int.reduceLE, ↓reduceIte, reduceCtorEq, Nat.reduceEqDiff, Nat.reduceLeDiff, Nat.reduceAdd, Nat.reduceMul, Nat.reduceSub, Nat.reduceLT, Int.reduceEq, Int.reduceBEq, m1, m2]; repeat' (first | exact Ok.out | with_reducible refine And.intro ?_ ?_ | (simp; done)))
 | (cases h; replace h := hr; clear hr; (try simp only [bs, ↓reduceIte] at h))
 | (cases h; done))
  · refine Fun.go has_ref3_line rfl fun B Q hB hQ => ?_
    have hlt : 0 < 1 := Nat.zero_lt_one
    have hget : 0 < 1 := Nat.zero_lt_one
    have hpu : 0 < 1 := Nat.zero_lt_one
    have hinc : 0 < 1 := Nat.zero_lt_one
    repeat' (first
 | simp only [go_sem, hlt, hget, hpu, hinc, Int.reduceLE, ↓reduceIte, reduceCtorEq, Nat.reduceEqDiff, Nat.reduceLeDiff, Nat.reduceAdd, Nat.reduceMul, Nat.reduceSub, Nat.reduceLT, Int.reduceEq, Int.reduceBEq]
 | (with_reducible first | refine CB_ofT (by assumption) fun hc => ?_ | refine CB_ofF (by assumption) fun hc => ?_ | refine CB_split (fun hc => ?_) fun hc => ?_) <;> (try simp only [hc, bs, ↓reduceIte] at h) <;> (try simp only [hc])
 | ((with_reducible first | refine leafR hQ ?_ | refine leafN hQ ?_); (try cases h); simp only [resL, oneD, Option.some.injEq, exists_eq_left', go_sem, hlt, hget, hpu, hinc, Int.reduceLE, ↓reduceIte, reduceCtorEq, Nat.reduceEqDiff, Nat.reduceLeDiff, Nat.reduceAdd, Nat.reduceMul, Nat.reduceSub, Nat.reduceLT, Int.reduceEq, Int.reduceBEq]; repeat' (first | exact Ok.out | with_reducible refine And.intro ?_ ?_ | (simp; done)))
 | (cases h; replace h := hr; clear hr; (try simp only [bs, ↓reduceIte] at h))
 | (cases h; done))
  · refine Fun.go has_ref3_line rfl fun B Q hB hQ => ?_
    have hlt : 0 < 1 := Nat.zero_lt_one
    have hget : 0 < 1 := Nat.zero_lt_one
    have hpu : 0 < 1 := Nat.zero_lt_one
    have hinc : 0 < 1 := Nat.zero_lt_one
    repeat' (first
 | simp only [go_sem, hlt, hget, hpu, hinc, Int.reduceLE, ↓reduceIte, reduceCtorEq, Nat.reduceEqDiff, Nat.reduceLeDiff, Nat.reduceAdd, Nat.reduceMul, Nat.reduceSub, Nat.reduceLT, Int.reduceEq, Int.reduceBEq]
 | (with_reducible first | refine CB_ofT (by assumption) fun hc => ?_ | refine CB_ofF (by assumption) fun hc => ?_ | refine CB_split (fun hc => ?_) fun hc => ?_) <;> (try simp only [hc, bs, ↓reduceIte] at h) <;> (try simp only [hc])
 | ((with_reducible first | refine leafR hQ ?_ | refine leafN hQ ?_); (try cases h); simp only [resL, oneD, Option.some.injEq, exists_eq_left', go_sem, hlt, hget, hpu, hinc, Int.reduceLE, ↓reduceIte, reduceCtorEq, Nat.reduceEqDiff, Nat.reduceLeDiff, Nat.reduceAdd, Nat.reduceMul, Nat.reduceSub, Nat.reduceLT, Int.reduceEq, Int.reduceBEq]; repeat' (first | exact Ok.out | with_reducible refine And.intro ?_ ?_ | (simp; done)))
 | (cases h; replace h := hr; clear hr; (try simp only [bs, ↓reduceIte] at h))
 | (cases h; done))
  · cases hh : has with
    | true =>
      have e1 := ee (k9 rfl hh)
      have := prE_len (k9 rfl hh) 0
      have m1 : (7 : Nat) + (prE 0 x).length ≤ maxStr := by unfold maxStr; omega
      have m2 : (prE 0 x).length + 1 + 1 + 1 + 1 + 1 + 1 + 1 + 1 ≤ maxStr := by unfold maxStr; omega
      refine Fun.go has_ref3_line rfl fun B Q hB hQ => ?_
      have hlt : 0 < 1 := Nat.zero_lt_one
      have hget : 0 < 1 := Nat.zero_lt_one
      have hpu : 0 < 1 := Nat.zero_lt_one
      have hinc : 0 < 1 := Nat.zero_lt_one
      repeat' (first
 | simp only [go_sem, hlt, hget, hpu, hinc, Int.reduceLE, ↓reduceIte, reduceCtorEq, Nat.reduceEqDiff, Nat.reduceLeDiff, Nat.reduceAdd, Nat.reduceMul, Nat.reduceSub, Nat.reduceLT, Int.reduceEq, Int.reduceBEq, m1, m2]
 | (with_reducible refine CU (e1 _) ?_)
 | (with_reducible first | refine CB_ofT (by assumption) fun hc => ?_ | refine CB_ofF (by assumption) fun hc => ?_ | refine CB_split (fun hc => ?_) fun hc => ?_) <;> (try simp only [hc, bs, ↓reduceIte] at h) <;> (try simp only [hc])
 | ((with_reducible first | refine leafR hQ ?_ | refine leafN hQ ?_); (try cases h); simp only [resL, oneD, Option.some.injEq, exists_eq_left', go_sem, hlt, hget, hpu, hinc, Int.reduceLE, ↓reduceIte, reduceCtorEq, Nat.reduceEqDiff, Nat.reduceLeDiff, Nat.reduceAdd, Nat.reduceMul, Nat.reduceSub, Nat.reduceLT, Int.reduceEq, Int.reduceBEq, m1, m2]; repeat' (first | exact Ok.out | with_reducible refine And.intro ?_ ?_ | (simp; done)))
 | (cases h; replace h := hr; clear hr; (try simp only [bs, ↓reduceIte] at h))
 | (cases h; done))
    | false =>
      refine Fun.go has_ref3_line rfl fun B Q hB hQ => ?_
      have hlt : 0 < 1 := Nat.zero_lt_one
      have hget : 0 < 1 := Nat.zero_lt_one
      have hpu : 0 < 1 := Nat.zero_lt_one
      have hinc : 0 < 1 := Nat.zero_lt_one
      repeat' (first
 | simp only [go_sem, hlt, hget, hpu, hinc, Int.reduceLE, ↓reduceIte, reduceCtorEq, Nat.reduceEqDiff, Nat.reduceLeDiff, Nat.reduceAdd, Nat.reduceMul, Nat.reduceSub, Nat.reduceLT, Int.reduceEq, Int.reduceBEq]
 | (with_reducible first | refine CB_ofT (by assumption) fun hc => ?_ | refine CB_ofF (by assumption) fun hc => ?_ | refine CB_split (fun hc => ?_) fun hc => ?_) <;> (try simp only [hc, bs, ↓reduceIte] at h) <;> (try simp only [hc])
 | ((with_reducible first | refine leafR hQ ?_ | refine leafN hQ ?_); (try cases h); simp only [resL, oneD, Option.some.injEq, exists_eq_left', go_sem, hlt, hget, hpu, hinc, Int.reduceLE, ↓reduceIte, reduceCtorEq, Nat.reduceEqDiff, Nat.reduceLeDiff, Nat.reduceAdd, Nat.reduceMul, Nat.reduceSub, Nat.reduceLT, Int.reduceEq, Int.reduceBEq]; repeat' (first | exact Ok.out | with_reducible refine And.intro ?_ ?_ | (simp; done)))
 | (cases h; replace h := hr; clear hr; (try simp only [bs, ↓reduceIte] at h))
 | (cases h; done))
  · refine Fun.go has_ref3_line rfl fun B Q hB hQ => ?_
    have hlt : 0 < 1 := Nat.zero_lt_one
    have hget : 0 < 1 := Nat.zero_lt_one
    have hpu : 0 < 1 := Nat.zero_lt_one
    have hinc : 0 < 1 := Nat.zero_lt_one
    repeat' (first
 | simp only [go_sem, hlt, hget, hpu, hinc, Int.reduceLE, ↓reduceIte, reduceCtorEq, Nat.reduceEqDiff, Nat.reduceLeDiff, Nat.reduceAdd, Nat.reduceMul, Nat.reduceSub, Nat.reduceLT, Int.reduceEq, Int.reduceBEq, m2, m3]
 | (with_reducible first | refine CB_ofT (by assumption) fun hc => ?_ | refine CB_ofF (by assumption) fun hc => ?_ | refine CB_split (fun hc => ?_) fun hc => ?_) <;> (try simp only [hc, bs, ↓reduceIte] at h) <;> (try simp only [hc])
 | ((with_reducible first | refine leafR hQ ?_ | refine leafN hQ ?_); (try cases h); simp only [resL, oneD, Option.some.injEq, exists_eq_left', go_sem, hlt, hget, hpu, hinc, Int.reduceLE, ↓reduceIte, reduceCtorEq, Nat.reduceEqDiff, Nat.reduceLeDiff, Nat.reduceAdd, Nat.reduceMul, Nat.reduceSub, Nat.reduceLT, Int.reduceEq, Int.reduceBEq, m2, m3]; repeat' (first | exact Ok.out | with_reducible refine And.intro ?_ ?_ | (simp; done)))
 | (cases h; replace h := hr; clear hr; (try simp only [bs, ↓reduceIte] at h))
 | (cases h; done))

theorem lineT_len {s : Sm} (h : s.PrO) : (lineT s).length ≤ 25 * s.x.size + 27 * Ar.sizes s.args + 31 := by
  have h1 := plainS_len h
  have h6 := nodes_size s.x.size s.x (Nat.le_refl _)
  unfold lineT
  split
  · rename_i k
    have h5 := prE_len (h.x (by simp [Sm.hasX, k])) 0
    simp only [List.length_append, List.length_cons, List.length_nil]; omega
  split
  · rename_i k
    have h5 := prE_len (h.x (by simp [Sm.hasX, k])) 0
    simp only [List.length_append, List.length_cons, List.length_nil]; omega
  · simp only [List.length_append, List.length_cons, List.length_nil]; omega

end Go.Abs

/-! Pr7 -/

namespace Go.Abs

set_option maxRecDepth 8000
set_option linter.unusedSimpArgs false
set_option linter.unusedVariables false
open Go.Proofs

theorem rowS_line (inn : Nat) (s : Sm) : rowS inn s = List.replicate inn 32 ++ marksS s.labels ++ lineT s ++ [10] ++ (if s.kind = 5 ∨ s.kind = 6 then
    rowsS (inn + 1) s.thn ++ (if s.kind = 5 ∧ s.els.length ≠ 0 then List.replicate inn 32 ++ [125, 32, 101, 108, 115, 101, 32, 123, 10] ++ rowsS (inn + 1) s.els else []) ++ (List.replicate inn 32 ++ [125, 10]) else []) := by
  rw [rowS_eq]
  unfold lineT lineS
  by_cases c6 : s.kind = 6
  · simp [c6]
  · by_cases c5 : s.kind = 5
    · by_cases ce : s.els.length = 0
      · simp only [c5, ce, Int.reduceEq, ↓reduceIte, true_or, ne_eq, not_true_eq_false, and_false, List.append_assoc, List.cons_append, List.nil_append]
      · simp only [c5, ce, Int.reduceEq, ↓reduceIte, true_or, ne_eq, not_false_eq_true, and_true, List.append_assoc, List.cons_append, List.nil_append]
    · simp only [c6, c5, ↓reduceIte, or_self, List.append_assoc, List.cons_append, List.nil_append, List.append_nil]

theorem rrows_n : ∀ (m : Nat) (l : List Sm), Sm.sizes l ≤ m → Sm.sizes l ≤ 1000000 → ∀ (inn : Nat), Sm.PrRs inn l → ∀ s : St,
    Fun Tryd.prog n_ref3_rows [.slice .shared 13 (l.map encSm), .str (List.replicate inn 32)] s (.str (rowsS inn l)) s := by
  intro m
  induction m with
  | zero =>
    intro l h hs inn hp s
    cases l with
    | nil =>
      have z : decide ((0 : Int) < 0) = false := rfl
      simp only [rowsS]
      refine Fun.pure ?_ (by simp [D.oks, D.ok, D.okr, Tag.ok]) rfl s
      unfold S0
      refine Fun.go has_ref3_rows rfl fun B Q hB hQ => ?_
      have hlt : 0 < 1 := Nat.zero_lt_one
      have hget : 0 < 1 := Nat.zero_lt_one
      have hpu : 0 < 1 := Nat.zero_lt_one
      have hinc : 0 < 1 := Nat.zero_lt_one
      repeat' (first
 | simp only [go_sem, hlt, hget, hpu, hinc, Int.reduceLE, ↓reduceIte, reduceCtorEq, Nat.reduceEqDiff, Nat.reduceLeDiff, Nat.reduceAdd, Nat.reduceMul, Nat.reduceSub, Nat.reduceLT, z]
 | (with_reducible refine SemL.onceW ?_)
 | (with_reducible first | refine CB_ofT (by assumption) fun hc => ?_ | refine CB_ofF (by assumption) fun hc => ?_ | refine CB_split (fun hc => ?_) fun hc => ?_) <;> (try simp only [hc, bs, ↓reduceIte] at h) <;> (try simp only [hc])
 | ((with_reducible first | refine leafR hQ ?_ | refine leafN hQ ?_); (try cases h); simp only [resL, oneD, Option.some.injEq, exists_eq_left', go_sem, hlt, hget, hpu, hinc, Int.reduceLE, ↓reduceIte, reduceCtorEq, Nat.reduceEqDiff, Nat.reduceLeDiff, Nat.reduceAdd, Nat.reduceMul, Nat.reduceSub, Nat.reduceLT, z]; repeat' (first | exact Ok.out | with_reducible refine And.intro ?_ ?_ | (simp; done)))
 | (cases h; replace h := hr; clear hr; (try simp only [bs, ↓reduceIte] at h))
 | (cases h; done))
    | cons s l => simp only [Sm.sizes] at h; omega
  | succ m ih =>
    intro l h hs inn hp s
    refine Fun.pure ?_ (by simp [D.oks, D.ok, okrSm, Tag.ok]) rfl s
    unfold S0
    generalize hR : rowsS inn l = R
    have hRl := rowsS_len l hp
    rw [hR] at hRl
    have hlen := Sm.sizes_len l
    refine Fun.go has_ref3_rows rfl fun B Q hB hQ => ?_
    have hlt : 0 < 1 := Nat.zero_lt_one
    have hget : 0 < 1 := Nat.zero_lt_one
    have hpu : 0 < 1 := Nat.zero_lt_one
    have hinc : 0 < 1 := Nat.zero_lt_one
    repeat' (first
 | simp only [go_sem, hlt, hget, hpu, hinc, Int.reduceLE, ↓reduceIte, reduceCtorEq, Nat.reduceEqDiff, Nat.reduceLeDiff, Nat.reduceAdd, Nat.reduceMul, Nat.reduceSub, Nat.reduceLT]
 | (with_reducible first | refine CB_ofT (by assumption) fun hc => ?_ | refine CB_ofF (by assumption) fun hc => ?_ | refine CB_split (fun hc => ?_) fun hc => ?_) <;> (try simp only [hc, bs, ↓reduceIte] at h) <;> (try simp only [hc])
 | ((with_reducible first | refine leafR hQ ?_ | refine leafN hQ ?_); (try cases h); simp only [resL, oneD, Option.some.injEq, exists_eq_left', go_sem, hlt, hget, hpu, hinc, Int.reduceLE, ↓reduceIte, reduceCtorEq, Nat.reduceEqDiff, Nat.reduceLeDiff, Nat.reduceAdd, Nat.reduceMul, Nat.reduceSub, Nat.reduceLT]; repeat' (first | exact Ok.out | with_reducible refine And.intro ?_ ?_ | (simp; done)))
 | (cases h; replace h := hr; clear hr; (try simp only [bs, ↓reduceIte] at h))
 | (cases h; done))
    refine SemL.re _ _ 0 0 (by rw [hB]; exact Nat.le_of_ble_eq_true rfl) (by rw [hB]; exact Nat.le_of_ble_eq_true rfl) ?_ ?_ (SemL.ind (ι := List Sm × Nat × Str) (fun i => l.drop i.2.1 = i.1 ∧ i.2.2 ++ rowsS inn i.1 = R) (fun i => i.1.length)
      (fun i => [(1, .str (List.replicate inn 32)), (5, .str i.2.2), (8, .slice .shared 13 (l.map encSm)), (9, .int .i64 (l.length : Int)), (10, .int .i64 (i.2.1 : Int))]) (fun i => ⟨[], []⟩) ?_ (l, 0, []) ⟨rfl, hR⟩)
    · (simp only [go_sem, hlt, hget, hpu, hinc, Int.reduceLE, ↓reduceIte, reduceCtorEq, Nat.reduceEqDiff, Nat.reduceLeDiff, Nat.reduceAdd, Nat.reduceMul, Nat.reduceSub, Nat.reduceLT]; repeat' (first | exact Ok.out | with_reducible refine And.intro ?_ ?_))
    · (simp only [go_sem, hlt, hget, hpu, hinc, Int.reduceLE, ↓reduceIte, reduceCtorEq, Nat.reduceEqDiff, Nat.reduceLeDiff, Nat.reduceAdd, Nat.reduceMul, Nat.reduceSub, Nat.reduceLT]; repeat' (first | exact Ok.out | with_reducible refine And.intro ?_ ?_))
    rintro ⟨rest, k, acc⟩ ⟨h1, h2⟩ IH
    dsimp only at h1 h2
    cases rest with
    | nil =>
      have hlt := drop_nil h1
      simp only [rowsS, List.append_nil] at h2
      subst h2
      repeat' (first
 | simp only [go_sem, hlt, hget, hpu, hinc, Int.reduceLE, ↓reduceIte, reduceCtorEq, Nat.reduceEqDiff, Nat.reduceLeDiff, Nat.reduceAdd, Nat.reduceMul, Nat.reduceSub, Nat.reduceLT]
 | (with_reducible first | refine CB_ofT (by assumption) fun hc => ?_ | refine CB_ofF (by assumption) fun hc => ?_ | refine CB_split (fun hc => ?_) fun hc => ?_) <;> (try simp only [hc, bs, ↓reduceIte] at h) <;> (try simp only [hc])
 | ((with_reducible first | refine leafR hQ ?_ | refine leafN hQ ?_); (try cases h); simp only [resL, oneD, Option.some.injEq, exists_eq_left', go_sem, hlt, hget, hpu, hinc, Int.reduceLE, ↓reduceIte, reduceCtorEq, Nat.reduceEqDiff, Nat.reduceLeDiff, Nat.reduceAdd, Nat.reduceMul, Nat.reduceSub, Nat.reduceLT]; repeat' (first | exact Ok.out | with_reducible refine And.intro ?_ ?_ | (simp; done)))
 | (cases h; replace h := hr; clear hr; (try simp only [bs, ↓reduceIte] at h))
 | (cases h; done))
    | cons s rest =>
      obtain ⟨hget, g2, hlt, g4⟩ := drop_cons h1
      have hmem := List.mem_of_getElem? hget
      have hsz := Sm.sizes_mem hmem
      have hPR := PrRs_mem hp hmem
      obtain ⟨ho, hin, hpt, hpe⟩ := (PrR_eq _ _).1 hPR
      have hk : k < 4611686018427387904 := by omega
      have hsz2 : s.labels.length + s.x.size + Ar.sizes s.args + Sm.sizes s.thn + Sm.sizes s.els + 1 ≤ s.size := by cases s; simp only [Sm.size]; omega
      have w1 : IntKind.wrap .i64 ((k : Int) + 1) = ((k + 1 : Nat) : Int) := by rw [wrap_ok] <;> omega
      have lm := marksS_len ho.lab
      have lp := lineT_len ho
      have em := fun st => rwith_s (by omega) ho.lab st
      have el := fun st => rline_s ho (by omega) st
      have et := fun st => ih s.thn (by omega) (by omega) (inn + 1) hpt st
      have ee := fun st => ih s.els (by omega) (by omega) (inn + 1) hpe st
      have lt := rowsS_len s.thn hpt
      have le := rowsS_len s.els hpe
      have hrow := rowS_line inn s
      have lr := rowS_len s hPR
      have hrep : List.replicate inn (32 : UInt8) ++ [32] = List.replicate (inn + 1) 32 := List.replicate_succ'.symm
      simp only [rowsS] at h2
      have hl2 := congrArg List.length h2
      rw [hrow] at hl2
      simp only [List.length_append, List.length_replicate, List.length_cons, List.length_nil] at hl2
      have b1 : inn + (marksS s.labels).length ≤ maxStr := by unfold maxStr; omega
      have b2 : inn + (marksS s.labels).length + (lineT s).length ≤ maxStr := by unfold maxStr; omega
      have b3 : inn + (marksS s.labels).length + (lineT s).length + 1 ≤ maxStr := by unfold maxStr; omega
      have b4 : acc.length + (inn + (marksS s.labels).length + (lineT s).length + 1) ≤ maxStr := by unfold maxStr; omega
      cases c5 : s.kind == 5 with
      | true =>
        have c5' : s.kind = 5 := by simpa using c5
        rw [if_pos (.inl c5')] at hl2
        rw [if_pos (.inl c5')] at hrow
        simp only [List.length_append, List.length_replicate, List.length_cons, List.length_nil] at hl2
        have b5 : inn + 1 ≤ maxStr := by unfold maxStr; omega
        have b6 : acc.length + (inn + (marksS s.labels).length + (lineT s).length + 1) + (rowsS (inn + 1) s.thn).length ≤ maxStr := by unfold maxStr; omega
        have b7 : inn + 1 + 1 ≤ maxStr := by unfold maxStr; omega
        cases ce : decide ((s.els.length : Int) > 0) with
        | true =>
          have ce' : s.els.length ≠ 0 := by have := of_decide_eq_true ce; omega
          rw [if_pos ⟨c5', ce'⟩] at hl2
          rw [if_pos ⟨c5', ce'⟩] at hrow
          simp only [List.length_append, List.length_replicate, List.length_cons, List.length_nil] at hl2
          have b8 : inn + 1 + 1 + 1 + 1 + 1 + 1 + 1 + 1 + 1 ≤ maxStr := by unfold maxStr; omega
          have b9 : inn + 1 + 1 + 1 + 1 + 1 + 1 + 1 + 1 + 1 + (rowsS (inn + 1) s.els).length ≤ maxStr := by unfold maxStr; omega
          have b10 : acc.length + (inn + (marksS s.labels).length + (lineT s).length + 1) + (rowsS (inn + 1) s.thn).length + (inn + 1 + 1 + 1 + 1 + 1 + 1 + 1 + 1 + 1 + (rowsS (inn + 1) s.els).length) ≤ maxStr := by unfold maxStr; omega
          have b11 : acc.length + (inn + (marksS s.labels).length + (lineT s).length + 1) + (rowsS (inn + 1) s.thn).length + (inn + 1 + 1 + 1 + 1 + 1 + 1 + 1 + 1 + 1 + (rowsS (inn + 1) s.els).length) + (inn + 1 + 1) ≤ maxStr := by unfold maxStr; omega
          repeat' (first
 | simp only [go_sem, hlt, hget, hpu, hinc, Int.reduceLE, ↓reduceIte, reduceCtorEq, Nat.reduceEqDiff, Nat.reduceLeDiff, Nat.reduceAdd, Nat.reduceMul, Nat.reduceSub, Nat.reduceLT, c5, ce, w1, b1, b2, b3, b4, b5, b6, b7, b8, b9, b10, b11, hrep, List.length_replicate]
 | (with_reducible refine CU (em _) ?_)
 | (with_reducible refine CU (el _) ?_)
 | (with_reducible refine CU (et _) ?_)
 | (with_reducible refine CU (ee _) ?_)
 | (with_reducible first | refine CB_ofT (by assumption) fun hc => ?_ | refine CB_ofF (by assumption) fun hc => ?_ | refine CB_split (fun hc => ?_) fun hc => ?_) <;> (try simp only [hc, bs, ↓reduceIte] at h) <;> (try simp only [hc])
 | ((with_reducible first | refine leafR hQ ?_ | refine leafN hQ ?_); (try cases h); simp only [resL, oneD, Option.some.injEq, exists_eq_left', go_sem, hlt, hget, hpu, hinc, Int.reduceLE, ↓reduceIte, reduceCtorEq, Nat.reduceEqDiff, Nat.reduceLeDiff, Nat.reduceAdd, Nat.reduceMul, Nat.reduceSub, Nat.reduceLT, c5, ce, w1, b1, b2, b3, b4, b5, b6, b7, b8, b9, b10, b11, hrep, List.length_replicate]; repeat' (first | exact Ok.out | with_reducible refine And.intro ?_ ?_ | (simp; done)))
 | (cases h; replace h := hr; clear hr; (try simp only [bs, ↓reduceIte] at h))
 | (cases h; done))
          refine SemL.re _ _ 0 0 (by rw [hB]; exact Nat.le_of_ble_eq_true rfl) (by rw [hB]; exact Nat.le_of_ble_eq_true rfl) ?_ ?_ (IH (rest, k + 1, acc ++ (List.replicate inn 32 ++ marksS s.labels ++ lineT s ++ [10]) ++ rowsS (inn + 1) s.thn ++ (List.replicate inn 32 ++ [125, 32, 101, 108, 115, 101, 32, 123, 10] ++ rowsS (inn + 1) s.els) ++ (List.replicate inn 32 ++ [125, 10])) ⟨g2, by rw [← h2, hrow]; simp only [List.append_assoc]⟩ (by simp))
          · (simp only [go_sem, hlt, hget, hpu, hinc, Int.reduceLE, ↓reduceIte, reduceCtorEq, Nat.reduceEqDiff, Nat.reduceLeDiff, Nat.reduceAdd, Nat.reduceMul, Nat.reduceSub, Nat.reduceLT]; repeat' (first | exact Ok.out | with_reducible refine And.intro ?_ ?_))
          · (simp only [go_sem, hlt, hget, hpu, hinc, Int.reduceLE, ↓reduceIte, reduceCtorEq, Nat.reduceEqDiff, Nat.reduceLeDiff, Nat.reduceAdd, Nat.reduceMul, Nat.reduceSub, Nat.reduceLT]; repeat' (first | exact Ok.out | with_reducible refine And.intro ?_ ?_))
        | false =>
          have ce' : s.els.length = 0 := by have := of_decide_eq_false ce; omega
          rw [if_neg (fun h => h.2 ce')] at hl2
          rw [if_neg (fun h => h.2 ce')] at hrow
          simp only [List.length_append, List.length_replicate, List.length_cons, List.length_nil] at hl2
          have b11 : acc.length + (inn + (marksS s.labels).length + (lineT s).length + 1) + (rowsS (inn + 1) s.thn).length + (inn + 1 + 1) ≤ maxStr := by unfold maxStr; omega
          repeat' (first
 | simp only [go_sem, hlt, hget, hpu, hinc, Int.reduceLE, ↓reduceIte, reduceCtorEq, Nat.reduceEqDiff, Nat.reduceLeDiff, Nat.reduceAdd, Nat.reduceMul, Nat.reduceSub, Nat.reduceLT, c5, ce, w1, b1, b2, b3, b4, b5, b6, b7, b11, hrep, List.length_replicate]
 | (with_reducible refine CU (em _) ?_)
 | (with_reducible refine CU (el _) ?_)
 | (with_reducible refine CU (et _) ?_)
 | (with_reducible first | refine CB_ofT (by assumption) fun hc => ?_ | refine CB_ofF (by assumption) fun hc => ?_ | refine CB_split (fun hc => ?_) fun hc => ?_) <;> (try simp only [hc, bs, ↓reduceIte] at h) <;> (try simp only [hc])
 | ((with_reducible first | refine leafR hQ ?_ | refine leafN hQ ?_); (try cases h); simp only [resL, oneD, Option.some.injEq, exists_eq_left', go_sem, hlt, hget, hpu, hinc, Int.reduceLE, ↓reduceIte, reduceCtorEq, Nat.reduceEqDiff, Nat.reduceLeDiff, Nat.reduceAdd, Nat.reduceMul, Nat.reduceSub, Nat.reduceLT, c5, ce, w1, b1, b2, b3, b4, b5, b6, b7, b11, hrep, List.length_replicate]; repeat' (first | exact Ok.out | with_reducible refine And.intro ?_ ?_ | (simp; done)))
 | (cases h; replace h := hr; clear hr; (try simp only [bs, ↓reduceIte] at h))
 | (cases h; done))
          refine SemL.re _ _ 0 0 (by rw [hB]; exact Nat.le_of_ble_eq_true rfl) (by rw [hB]; exact Nat.le_of_ble_eq_true rfl) ?_ ?_ (IH (rest, k + 1, acc ++ (List.replicate inn 32 ++ marksS s.labels ++ lineT s ++ [10]) ++ rowsS (inn + 1) s.thn ++ (List.replicate inn 32 ++ [125, 10])) ⟨g2, by rw [← h2, hrow]; simp only [List.append_assoc, List.nil_append]⟩ (by simp))
          · (simp only [go_sem, hlt, hget, hpu, hinc, Int.reduceLE, ↓reduceIte, reduceCtorEq, Nat.reduceEqDiff, Nat.reduceLeDiff, Nat.reduceAdd, Nat.reduceMul, Nat.reduceSub, Nat.reduceLT]; repeat' (first | exact Ok.out | with_reducible refine And.intro ?_ ?_))
          · (simp only [go_sem, hlt, hget, hpu, hinc, Int.reduceLE, ↓reduceIte, reduceCtorEq, Nat.reduceEqDiff, Nat.reduceLeDiff, Nat.reduceAdd, Nat.reduceMul, Nat.reduceSub, Nat.reduceLT]; repeat' (first | exact Ok.out | with_reducible refine And.intro ?_ ?_))
      | false =>
      have c5' : ¬ s.kind = 5 := by simpa using c5
      cases c6 : s.kind == 6 with
      | true =>
        have c6' : s.kind = 6 := by simpa using c6
        have hels := ho.els c6'
        have ce : decide ((s.els.length : Int) > 0) = false := by rw [hels]; rfl
        rw [if_pos (.inr c6'), if_neg (fun h => c5' h.1)] at hl2
        rw [if_pos (.inr c6'), if_neg (fun h => c5' h.1)] at hrow
        simp only [List.length_append, List.length_replicate, List.length_cons, List.length_nil] at hl2
        have b5 : inn + 1 ≤ maxStr := by unfold maxStr; omega
        have b6 : acc.length + (inn + (marksS s.labels).length + (lineT s).length + 1) + (rowsS (inn + 1) s.thn).length ≤ maxStr := by unfold maxStr; omega
        have b7 : inn + 1 + 1 ≤ maxStr := by unfold maxStr; omega
        have b11 : acc.length + (inn + (marksS s.labels).length + (lineT s).length + 1) + (rowsS (inn + 1) s.thn).length + (inn + 1 + 1) ≤ maxStr := by unfold maxStr; omega
        repeat' (first
 | simp only [go_sem, hlt, hget, hpu, hinc, Int.reduceLE, ↓reduceIte, reduceCtorEq, Nat.reduceEqDiff, Nat.reduceLeDiff, Nat.reduceAdd, Nat.reduceMul, Nat.reduceSub, Nat.reduceLT, c5, c6, ce, w1, b1, b2, b3, b4, b5, b6, b7, b11, hrep, List.length_replicate]
 | (with_reducible refine CU (em _) ?_)
 | (with_reducible refine CU (el _) ?_)
 | (with_reducible refine CU (et _) ?_)
 | (with_reducible first | refine CB_ofT (by assumption) fun hc => ?_ | refine CB_ofF (by assumption) fun hc => ?_ | refine CB_split (fun hc => ?_) fun hc => ?_) <;> (try simp only [hc, bs, ↓reduceIte] at h) <;> (try simp only [hc])
 | ((with_reducible first | refine leafR hQ ?_ | refine leafN hQ ?_); (try cases h); simp only [resL, oneD, Option.some.injEq, exists_eq_left', go_sem, hlt, hget, hpu, hinc, Int.reduceLE, ↓reduceIte, reduceCtorEq, Nat.reduceEqDiff, Nat.reduceLeDiff, Nat.reduceAdd, Nat.reduceMul, Nat.reduceSub, Nat.reduceLT, c5, c6, ce, w1, b1, b2, b3, b4, b5, b6, b7, b11, hrep, List.length_replicate]; repeat' (first | exact Ok.out | with_reducible refine And.intro ?_ ?_ | (simp; done)))
 | (cases h; replace h := hr; clear hr; (try simp only [bs, ↓reduceIte] at h))
 | (cases h; done))
        refine SemL.re _ _ 0 0 (by rw [hB]; exact Nat.le_of_ble_eq_true rfl) (by rw [hB]; exact Nat.le_of_ble_eq_true rfl) ?_ ?_ (IH (rest, k + 1, acc ++ (List.replicate inn 32 ++ marksS s.labels ++ lineT s ++ [10]) ++ rowsS (inn + 1) s.thn ++ (List.replicate inn 32 ++ [125, 10])) ⟨g2, by rw [← h2, hrow]; simp only [List.append_assoc, List.nil_append]⟩ (by simp))
        · (simp only [go_sem, hlt, hget, hpu, hinc, Int.reduceLE, ↓reduceIte, reduceCtorEq, Nat.reduceEqDiff, Nat.reduceLeDiff, Nat.reduceAdd, Nat.reduceMul, Nat.reduceSub, Nat.reduceLT]; repeat' (first | exact Ok.out | with_reducible refine And.intro ?_ ?_))
        · (simp only [go_sem, hlt, hget, hpu, hinc, Int.reduceLE, ↓reduceIte, reduceCtorEq, Nat.reduceEqDiff, Nat.reduceLeDiff, Nat.reduceAdd, Nat.reduceMul, Nat.reduceSub, Nat.reduceLT]; repeat' (first | exact Ok.out | with_reducible refine And.intro ?_ ?_))
      | false =>
        have c6' : ¬ s.kind = 6 := by simpa using c6
        rw [if_neg (by omega)] at hrow
        repeat' (first
 | simp only [go_sem, hlt, hget, hpu, hinc, Int.reduceLE, ↓reduceIte, reduceCtorEq, Nat.reduceEqDiff, Nat.reduceLeDiff, Nat.reduceAdd, Nat.reduceMul, Nat.reduceSub, Nat.reduceLT, c5, c6, w1, b1, b2, b3, b4, List.length_replicate]
 | (with_reducible refine CU (em _) ?_)
 | (with_reducible refine CU (el _) ?_)
 | (with_reducible first | refine CB_ofT (by assumption) fun hc => ?_ | refine CB_ofF (by assumption) fun hc => ?_ | refine CB_split (fun hc => ?_) fun hc => ?_) <;> (try simp only [hc, bs, ↓reduceIte] at h) <;> (try simp only [hc])
 | ((with_reducible first | refine leafR hQ ?_ | refine leafN hQ ?_); (try cases h); simp only [resL, oneD, Option.some.injEq, exists_eq_left', go_sem, hlt, hget, hpu, hinc, Int.reduceLE, ↓reduceIte, reduceCtorEq, Nat.reduceEqDiff, Nat.reduceLeDiff, Nat.reduceAdd, Nat.reduceMul, Nat.reduceSub, Nat.reduceLT, c5, c6, w1, b1, b2, b3, b4, List.length_replicate]; repeat' (first | exact Ok.out | with_reducible refine And.intro ?_ ?_ | (simp; done)))
 | (cases h; replace h := hr; clear hr; (try simp only [bs, ↓reduceIte] at h))
 | (cases h; done))
        refine SemL.re _ _ 0 0 (by rw [hB]; exact Nat.le_of_ble_eq_true rfl) (by rw [hB]; exact Nat.le_of_ble_eq_true rfl) ?_ ?_ (IH (rest, k + 1, acc ++ (List.replicate inn 32 ++ marksS s.labels ++ lineT s ++ [10])) ⟨g2, by rw [← h2, hrow]; simp only [List.append_assoc, List.nil_append]⟩ (by simp))
        · (simp only [go_sem, hlt, hget, hpu, hinc, Int.reduceLE, ↓reduceIte, reduceCtorEq, Nat.reduceEqDiff, Nat.reduceLeDiff, Nat.reduceAdd, Nat.reduceMul, Nat.reduceSub, Nat.reduceLT]; repeat' (first | exact Ok.out | with_reducible refine And.intro ?_ ?_))
        · (simp only [go_sem, hlt, hget, hpu, hinc, Int.reduceLE, ↓reduceIte, reduceCtorEq, Nat.reduceEqDiff, Nat.reduceLeDiff, Nat.reduceAdd, Nat.reduceMul, Nat.reduceSub, Nat.reduceLT]; repeat' (first | exact Ok.out | with_reducible refine And.intro ?_ ?_))

end Go.Abs

/-! Pr8 -/

namespace Go.Abs

set_option maxRecDepth 8000
set_option linter.unusedSimpArgs false
set_option linter.unusedVariables false
open Go.Proofs

theorem procS_T (f : Pc) : procS f = ([112, 114, 111, 99, 32] ++ f.name ++ [40] ++ Lib.join (f.params.map paramS) [44, 32] ++ [41, 32, 123, 10]) ++ (if f.vars.length = 0 then [] else ([32, 118, 97, 114, 32] ++ Lib.join f.vars [44, 32] ++ [59, 10])) ++ (rowsS 1 f.body ++ marksS f.fin ++ [125, 10]) := by
  unfold procS lineS
  split <;> simp only [List.append_assoc, List.cons_append, List.nil_append, List.replicate_zero, List.replicate_succ]
theorem globsS_T (l : List Str) : globsS l = if l.length = 0 then [] else [103, 108, 111, 98, 97, 108, 32] ++ Lib.join l [44, 32] ++ [59, 10] := by
  unfold globsS lineS
  split <;> simp only [List.append_assoc, List.cons_append, List.nil_append, List.replicate_zero]

set_option maxHeartbeats 1600000 in
theorem rPrint_s {p : Pg} (hf : p.Fine) (hg : p.may = true → p.PrG) (hs : p.size ≤ 1000000) (s : St) : Fun Tryd.prog n_ref3_Print [.agg (encPg p)] s (.str (if p.may then textS p else [])) s := by
  refine Fun.pure ?_ (by simp only [D.oks, D.ok, okPg]; rfl) rfl s
  have hm := fun s => May_s hf s
  cases cm : p.may with
  | false =>
    rw [if_neg (by simp)]
    unfold S0
    refine Fun.go has_ref3_Print rfl fun B Q hB hQ => ?_
    have hlt : 0 < 1 := Nat.zero_lt_one
    have hget : 0 < 1 := Nat.zero_lt_one
    have hpu : 0 < 1 := Nat.zero_lt_one
    have hinc : 0 < 1 := Nat.zero_lt_one
    repeat' (first
 | simp only [go_sem, hlt, hget, hpu, hinc, Int.reduceLE, ↓reduceIte, reduceCtorEq, Nat.reduceEqDiff, Nat.reduceLeDiff, Nat.reduceAdd, Nat.reduceMul, Nat.reduceSub, Nat.reduceLT, cm]
 | (with_reducible refine CU (hm _) ?_)
 | (with_reducible first | refine CB_ofT (by assumption) fun hc => ?_ | refine CB_ofF (by assumption) fun hc => ?_ | refine CB_split (fun hc => ?_) fun hc => ?_) <;> (try simp only [hc, bs, ↓reduceIte] at h) <;> (try simp only [hc])
 | ((with_reducible first | refine leafR hQ ?_ | refine leafN hQ ?_); (try cases h); simp only [resL, oneD, Option.some.injEq, exists_eq_left', go_sem, hlt, hget, hpu, hinc, Int.reduceLE, ↓reduceIte, reduceCtorEq, Nat.reduceEqDiff, Nat.reduceLeDiff, Nat.reduceAdd, Nat.reduceMul, Nat.reduceSub, Nat.reduceLT, cm]; repeat' (first | exact Ok.out | with_reducible refine And.intro ?_ ?_ | (simp; done)))
 | (cases h; replace h := hr; clear hr; (try simp only [bs, ↓reduceIte] at h))
 | (cases h; done))
  | true =>
    rw [if_pos rfl]
    have hg := hg cm
    have hps : Pc.sizes p.procs ≤ 1000000 := by simp only [Pg.size] at hs; omega
    have hgl : p.globals.length ≤ 1000000 := by simp only [Pg.size] at hs; omega
    have hpl := Pc.sizes_len p.procs
    have lg := globsS_len hg.globals
    have lp := procsS_len hg.procs
    have ls := short_len [44, 32] hg.globals
    have egl := globsS_T p.globals
    simp only [List.length_cons, List.length_nil] at ls
    generalize hR : textS p = R
    have hRl : R.length ≤ 540000000000 := by rw [← hR]; simp only [textS, List.length_append]; omega
    unfold textS at hR
    unfold S0
    have ej := fun s => rJoin_s (l := p.globals) (sep := [44, 32]) (by omega) (by omega) .shared s
    have b1 : (7 : Nat) + (Lib.join p.globals [44, 32]).length ≤ maxStr := by unfold maxStr; omega
    have b2 : (Lib.join p.globals [44, 32]).length + 1 + 1 + 1 + 1 + 1 + 1 + 1 + 1 + 1 ≤ maxStr := by unfold maxStr; omega
    refine Fun.go has_ref3_Print rfl fun B Q hB hQ => ?_
    have hlt : 0 < 1 := Nat.zero_lt_one
    have hget : 0 < 1 := Nat.zero_lt_one
    have hpu : 0 < 1 := Nat.zero_lt_one
    have hinc : 0 < 1 := Nat.zero_lt_one
    have key : ∀ i : List Pc × Nat × Str, (p.procs.drop i.2.1 = i.1 ∧ i.2.2 ++ procsS i.1 = R) →
        SemL Tryd.prog B 82 Q4L (inBlockQ 0 (thenQ (wpC Tryd.prog B 82 Q4Q Q) Q))
          [(3, .str i.2.2), (22, .slice .shared 5 (p.procs.map encPc)), (23, .int .i64 (p.procs.length : Int)), (24, .int .i64 (i.2.1 : Int))] ⟨[encPg p], []⟩ := by
      refine SemL.ind (ι := List Pc × Nat × Str) (fun i => p.procs.drop i.2.1 = i.1 ∧ i.2.2 ++ procsS i.1 = R) (fun i => i.1.length) (fun i => [(3, .str i.2.2), (22, .slice .shared 5 (p.procs.map encPc)), (23, .int .i64 (p.procs.length : Int)), (24, .int .i64 (i.2.1 : Int))]) (fun i => ⟨[encPg p], []⟩) ?_
      rintro ⟨rest, k, acc⟩ ⟨h1, h2⟩ IH
      dsimp only at h1 h2
      cases rest with
      | nil =>
        have hlt := drop_nil h1
        simp only [procsS, List.append_nil] at h2
        subst h2
        repeat' (first
 | simp only [go_sem, hlt, hget, hpu, hinc, Int.reduceLE, ↓reduceIte, reduceCtorEq, Nat.reduceEqDiff, Nat.reduceLeDiff, Nat.reduceAdd, Nat.reduceMul, Nat.reduceSub, Nat.reduceLT]
 | (with_reducible first | refine CB_ofT (by assumption) fun hc => ?_ | refine CB_ofF (by assumption) fun hc => ?_ | refine CB_split (fun hc => ?_) fun hc => ?_) <;> (try simp only [hc, bs, ↓reduceIte] at h) <;> (try simp only [hc])
 | ((with_reducible first | refine leafR hQ ?_ | refine leafN hQ ?_); (try cases h); simp only [resL, oneD, Option.some.injEq, exists_eq_left', go_sem, hlt, hget, hpu, hinc, Int.reduceLE, ↓reduceIte, reduceCtorEq, Nat.reduceEqDiff, Nat.reduceLeDiff, Nat.reduceAdd, Nat.reduceMul, Nat.reduceSub, Nat.reduceLT]; repeat' (first | exact Ok.out | with_reducible refine And.intro ?_ ?_ | (simp; done)))
 | (cases h; replace h := hr; clear hr; (try simp only [bs, ↓reduceIte] at h))
 | (cases h; done))
      | cons f rest =>
        obtain ⟨hget, g2, hlt, g4⟩ := drop_cons h1
        have hmem := List.mem_of_getElem? hget
        have hsz := Pc.sizes_mem hmem
        have hP := hg.procs f hmem
        have hk : k < 4611686018427387904 := by omega
        have w1 : IntKind.wrap .i64 ((k : Int) + 1) = ((k + 1 : Nat) : Int) := by rw [wrap_ok] <;> omega
        simp only [procsS] at h2
        have eT := procS_T f
        have hfz : f.params.length + f.vars.length + f.fin.length + Sm.sizes f.body + 1 ≤ f.size := by unfold Pc.size; omega
        repeat' (first
 | simp only [go_sem, hlt, hget, hpu, hinc, Int.reduceLE, ↓reduceIte, reduceCtorEq, Nat.reduceEqDiff, Nat.reduceLeDiff, Nat.reduceAdd, Nat.reduceMul, Nat.reduceSub, Nat.reduceLT]
 | (with_reducible first | refine CB_ofT (by assumption) fun hc => ?_ | refine CB_ofF (by assumption) fun hc => ?_ | refine CB_split (fun hc => ?_) fun hc => ?_) <;> (try simp only [hc, bs, ↓reduceIte] at h) <;> (try simp only [hc])
 | ((with_reducible first | refine leafR hQ ?_ | refine leafN hQ ?_); (try cases h); simp only [resL, oneD, Option.some.injEq, exists_eq_left', go_sem, hlt, hget, hpu, hinc, Int.reduceLE, ↓reduceIte, reduceCtorEq, Nat.reduceEqDiff, Nat.reduceLeDiff, Nat.reduceAdd, Nat.reduceMul, Nat.reduceSub, Nat.reduceLT]; repeat' (first | exact Ok.out | with_reducible refine And.intro ?_ ?_ | (simp; done)))
 | (cases h; replace h := hr; clear hr; (try simp only [bs, ↓reduceIte] at h))
 | (cases h; done))
        refine SemL.tokT 6 1 rfl ?_
        simp only [go_sem, hlt, hget, hpu, hinc, Int.reduceLE, ↓reduceIte, reduceCtorEq, Nat.reduceEqDiff, Nat.reduceLeDiff, Nat.reduceAdd, Nat.reduceMul, Nat.reduceSub, Nat.reduceLT]
        refine SemL.re _ _ 2 1 (by rw [hB]; exact Nat.le_of_ble_eq_true rfl) (by rw [hB]; exact Nat.le_of_ble_eq_true rfl) ?_ ?_ (SemL.ind (ι := List Pm × Nat × List Str) (fun i => f.params.drop i.2.1 = i.1 ∧ i.2.2 ++ i.1.map paramS = f.params.map paramS ∧ i.2.2.length = i.2.1) (fun i => i.1.length)
          (fun i => [(3, .str acc), (22, .slice .shared 5 (p.procs.map encPc)), (23, .int .i64 (p.procs.length : Int)), (24, .int .i64 (k : Int)), (5, .ptr 1 0), (6, .slice (.tok 0) 1 (i.2.2.map encStr)), (29, .slice .shared 2 (f.params.map encPm)), (30, .int .i64 (f.params.length : Int)), (31, .int .i64 (i.2.1 : Int))]) (fun i => ⟨[encPg p, encPc f], [some i.2.1]⟩) ?_ (f.params, 0, []) ⟨rfl, rfl, rfl⟩)
        · (simp only [go_sem, hlt, hget, hpu, hinc, Int.reduceLE, ↓reduceIte, reduceCtorEq, Nat.reduceEqDiff, Nat.reduceLeDiff, Nat.reduceAdd, Nat.reduceMul, Nat.reduceSub, Nat.reduceLT]; repeat' (first | exact Ok.out | with_reducible refine And.intro ?_ ?_))
        · (simp only [go_sem, hlt, hget, hpu, hinc, Int.reduceLE, ↓reduceIte, reduceCtorEq, Nat.reduceEqDiff, Nat.reduceLeDiff, Nat.reduceAdd, Nat.reduceMul, Nat.reduceSub, Nat.reduceLT]; repeat' (first | exact Ok.out | with_reducible refine And.intro ?_ ?_))
        rintro ⟨ps, j, out⟩ ⟨p1, p2, p3⟩ IH2
        dsimp only at p1 p2 p3
        cases ps with
        | nil =>
          have hlt := drop_nil p1
          simp only [List.map_nil, List.append_nil] at p2
          subst p2
          have lps := params_len hP.params
          have lvs := short_len [44, 32] hP.vars
          have lms := marksS_len hP.fin
          have lrs := rowsS_len f.body hP.body
          have lnm := hP.name
          simp only [List.length_cons, List.length_nil] at lvs
          have ej := fun s => rJoin_s (l := f.params.map paramS) (sep := [44, 32]) (by simp; omega) (by omega) (.tok 0) s
          have em := fun st => rwith_s (by omega) hP.fin st
          have er : ∀ st, Fun Tryd.prog n_ref3_rows [.slice .shared 13 (f.body.map encSm), .str [32]] st (.str (rowsS 1 f.body)) st := fun st => rrows_n _ f.body (Nat.le_refl _) (by omega) 1 hP.body st
          have hl2 := congrArg List.length h2
          rw [eT] at hl2
          rw [eT] at h2
          have b1 : (5 : Nat) + f.name.length ≤ maxStr := by unfold maxStr; omega
          have b2 : f.name.length + 1 + 1 + 1 + 1 + 1 + 1 ≤ maxStr := by unfold maxStr; omega
          have b3 : f.name.length + 1 + 1 + 1 + 1 + 1 + 1 + (Lib.join (f.params.map paramS) [44, 32]).length ≤ maxStr := by unfold maxStr; omega
          have b4 : f.name.length + 1 + (Lib.join (f.params.map paramS) [44, 32]).length + 1 + 1 + 1 + 1 + 1 + 1 + 1 + 1 + 1 ≤ maxStr := by unfold maxStr; omega
          have b8 : (rowsS 1 f.body).length + (marksS f.fin).length ≤ maxStr := by unfold maxStr; omega
          have b9 : (rowsS 1 f.body).length + (marksS f.fin).length + 1 + 1 ≤ maxStr := by unfold maxStr; omega
          simp only [List.length_append, List.length_cons, List.length_nil] at hl2
          have b5 : acc.length + (f.name.length + 1 + (Lib.join (f.params.map paramS) [44, 32]).length + 1 + 1 + 1 + 1 + 1 + 1 + 1 + 1 + 1) ≤ maxStr := by unfold maxStr; omega
          cases cv : decide ((f.vars.length : Int) > 0) with
          | false =>
            have cv' : f.vars.length = 0 := by have := of_decide_eq_false cv; omega
            rw [if_pos cv'] at h2 hl2
            simp only [List.length_nil] at hl2
            have b10 : acc.length + (f.name.length + 1 + (Lib.join (f.params.map paramS) [44, 32]).length + 1 + 1 + 1 + 1 + 1 + 1 + 1 + 1 + 1) + ((rowsS 1 f.body).length + (marksS f.fin).length + 1 + 1) ≤ maxStr := by unfold maxStr; omega
            have hl := IH (rest, k + 1, acc ++ ([112, 114, 111, 99, 32] ++ f.name ++ [40] ++ Lib.join (f.params.map paramS) [44, 32] ++ [41, 32, 123, 10]) ++ (rowsS 1 f.body ++ marksS f.fin ++ [125, 10])) ⟨g2, by rw [← h2]; simp only [List.append_assoc, List.cons_append, List.nil_append]⟩ (by simp)
            simp only [List.cons_append, List.nil_append] at hl
            repeat' (first
 | simp only [go_sem, hlt, hget, hpu, hinc, Int.reduceLE, ↓reduceIte, reduceCtorEq, Nat.reduceEqDiff, Nat.reduceLeDiff, Nat.reduceAdd, Nat.reduceMul, Nat.reduceSub, Nat.reduceLT, w1, cv, b1, b2, b3, b4, b5, b8, b9, b10]
 | (with_reducible refine CU (ej _) ?_)
 | (with_reducible refine CU (em _) ?_)
 | (with_reducible refine CU (er _) ?_)
 | (with_reducible first | refine CB_ofT (by assumption) fun hc => ?_ | refine CB_ofF (by assumption) fun hc => ?_ | refine CB_split (fun hc => ?_) fun hc => ?_) <;> (try simp only [hc, bs, ↓reduceIte] at h) <;> (try simp only [hc])
 | ((with_reducible first | refine leafR hQ ?_ | refine leafN hQ ?_); (try cases h); simp only [resL, oneD, Option.some.injEq, exists_eq_left', go_sem, hlt, hget, hpu, hinc, Int.reduceLE, ↓reduceIte, reduceCtorEq, Nat.reduceEqDiff, Nat.reduceLeDiff, Nat.reduceAdd, Nat.reduceMul, Nat.reduceSub, Nat.reduceLT, w1, cv, b1, b2, b3, b4, b5, b8, b9, b10]; repeat' (first | exact Ok.out | with_reducible refine And.intro ?_ ?_ | (simp; done)))
 | (cases h; replace h := hr; clear hr; (try simp only [bs, ↓reduceIte] at h))
 | (cases h; done))
            refine SemL.re _ _ 1 0 (by rw [hB]; exact Nat.le_of_ble_eq_true rfl) (by rw [hB]; exact Nat.le_of_ble_eq_true rfl) ?_ ?_ (hl)
            · (simp only [go_sem, hlt, hget, hpu, hinc, Int.reduceLE, ↓reduceIte, reduceCtorEq, Nat.reduceEqDiff, Nat.reduceLeDiff, Nat.reduceAdd, Nat.reduceMul, Nat.reduceSub, Nat.reduceLT]; repeat' (first | exact Ok.out | with_reducible refine And.intro ?_ ?_))
            · (simp only [go_sem, hlt, hget, hpu, hinc, Int.reduceLE, ↓reduceIte, reduceCtorEq, Nat.reduceEqDiff, Nat.reduceLeDiff, Nat.reduceAdd, Nat.reduceMul, Nat.reduceSub, Nat.reduceLT]; repeat' (first | exact Ok.out | with_reducible refine And.intro ?_ ?_))
          | true =>
            have cv' : f.vars.length ≠ 0 := by have := of_decide_eq_true cv; omega
            rw [if_neg cv'] at h2 hl2
            simp only [List.length_append, List.length_cons, List.length_nil] at hl2
            have ej2 := fun s => rJoin_s (l := f.vars) (sep := [44, 32]) (by omega) (by omega) .shared s
            have b6 : (5 : Nat) + (Lib.join f.vars [44, 32]).length ≤ maxStr := by unfold maxStr; omega
            have b7 : (Lib.join f.vars [44, 32]).length + 1 + 1 + 1 + 1 + 1 + 1 + 1 ≤ maxStr := by unfold maxStr; omega
            have b11 : acc.length + (f.name.length + 1 + (Lib.join (f.params.map paramS) [44, 32]).length + 1 + 1 + 1 + 1 + 1 + 1 + 1 + 1 + 1) + ((Lib.join f.vars [44, 32]).length + 1 + 1 + 1 + 1 + 1 + 1 + 1) ≤ maxStr := by unfold maxStr; omega
            have b10 : acc.length + (f.name.length + 1 + (Lib.join (f.params.map paramS) [44, 32]).length + 1 + 1 + 1 + 1 + 1 + 1 + 1 + 1 + 1) + ((Lib.join f.vars [44, 32]).length + 1 + 1 + 1 + 1 + 1 + 1 + 1) + ((rowsS 1 f.body).length + (marksS f.fin).length + 1 + 1) ≤ maxStr := by unfold maxStr; omega
            have hl := IH (rest, k + 1, acc ++ ([112, 114, 111, 99, 32] ++ f.name ++ [40] ++ Lib.join (f.params.map paramS) [44, 32] ++ [41, 32, 123, 10]) ++ ([32, 118, 97, 114, 32] ++ Lib.join f.vars [44, 32] ++ [59, 10]) ++ (rowsS 1 f.body ++ marksS f.fin ++ [125, 10])) ⟨g2, by rw [← h2]; simp only [List.append_assoc, List.cons_append, List.nil_append]⟩ (by simp)
            simp only [List.cons_append, List.nil_append] at hl
            repeat' (first
 | simp only [go_sem, hlt, hget, hpu, hinc, Int.reduceLE, ↓reduceIte, reduceCtorEq, Nat.reduceEqDiff, Nat.reduceLeDiff, Nat.reduceAdd, Nat.reduceMul, Nat.reduceSub, Nat.reduceLT, w1, cv, b1, b2, b3, b4, b5, b6, b7, b8, b9, b10, b11]
 | (with_reducible refine CU (ej _) ?_)
 | (with_reducible refine CU (ej2 _) ?_)
 | (with_reducible refine CU (em _) ?_)
 | (with_reducible refine CU (er _) ?_)
 | (with_reducible first | refine CB_ofT (by assumption) fun hc => ?_ | refine CB_ofF (by assumption) fun hc => ?_ | refine CB_split (fun hc => ?_) fun hc => ?_) <;> (try simp only [hc, bs, ↓reduceIte] at h) <;> (try simp only [hc])
 | ((with_reducible first | refine leafR hQ ?_ | refine leafN hQ ?_); (try cases h); simp only [resL, oneD, Option.some.injEq, exists_eq_left', go_sem, hlt, hget, hpu, hinc, Int.reduceLE, ↓reduceIte, reduceCtorEq, Nat.reduceEqDiff, Nat.reduceLeDiff, Nat.reduceAdd, Nat.reduceMul, Nat.reduceSub, Nat.reduceLT, w1, cv, b1, b2, b3, b4, b5, b6, b7, b8, b9, b10, b11]; repeat' (first | exact Ok.out | with_reducible refine And.intro ?_ ?_ | (simp; done)))
 | (cases h; replace h := hr; clear hr; (try simp only [bs, ↓reduceIte] at h))
 | (cases h; done))
            refine SemL.re _ _ 1 0 (by rw [hB]; exact Nat.le_of_ble_eq_true rfl) (by rw [hB]; exact Nat.le_of_ble_eq_true rfl) ?_ ?_ (hl)
            · (simp only [go_sem, hlt, hget, hpu, hinc, Int.reduceLE, ↓reduceIte, reduceCtorEq, Nat.reduceEqDiff, Nat.reduceLeDiff, Nat.reduceAdd, Nat.reduceMul, Nat.reduceSub, Nat.reduceLT]; repeat' (first | exact Ok.out | with_reducible refine And.intro ?_ ?_))
            · (simp only [go_sem, hlt, hget, hpu, hinc, Int.reduceLE, ↓reduceIte, reduceCtorEq, Nat.reduceEqDiff, Nat.reduceLeDiff, Nat.reduceAdd, Nat.reduceMul, Nat.reduceSub, Nat.reduceLT]; repeat' (first | exact Ok.out | with_reducible refine And.intro ?_ ?_))
        | cons a ps =>
          obtain ⟨hget, q2, hlt, q4⟩ := drop_cons p1
          have hmem2 := List.mem_of_getElem? hget
          have han := hP.params a hmem2
          have hj : j < 4611686018427387904 := by omega
          have w2 : IntKind.wrap .i64 ((j : Int) + 1) = ((j + 1 : Nat) : Int) := by rw [wrap_ok] <;> omega
          have hpu : (j + 1) * 17 ≤ maxStr := by unfold maxStr; omega
          have ea : paramS a = (if a.ref = true then [114, 101, 102, 32] else []) ++ a.name := rfl
          cases hr : a.ref with
          | true =>
            rw [hr] at ea
            have m1 : (4 : Nat) + a.name.length ≤ maxStr := by unfold maxStr; omega
            repeat' (first
 | simp only [go_sem, hlt, hget, hpu, hinc, Int.reduceLE, ↓reduceIte, reduceCtorEq, Nat.reduceEqDiff, Nat.reduceLeDiff, Nat.reduceAdd, Nat.reduceMul, Nat.reduceSub, Nat.reduceLT, hr, m1, w2, p3]
 | (with_reducible first | refine CB_ofT (by assumption) fun hc => ?_ | refine CB_ofF (by assumption) fun hc => ?_ | refine CB_split (fun hc => ?_) fun hc => ?_) <;> (try simp only [hc, bs, ↓reduceIte] at h) <;> (try simp only [hc])
 | ((with_reducible first | refine leafR hQ ?_ | refine leafN hQ ?_); (try cases h); simp only [resL, oneD, Option.some.injEq, exists_eq_left', go_sem, hlt, hget, hpu, hinc, Int.reduceLE, ↓reduceIte, reduceCtorEq, Nat.reduceEqDiff, Nat.reduceLeDiff, Nat.reduceAdd, Nat.reduceMul, Nat.reduceSub, Nat.reduceLT, hr, m1, w2, p3]; repeat' (first | exact Ok.out | with_reducible refine And.intro ?_ ?_ | (simp; done)))
 | (cases h; replace h := hr; clear hr; (try simp only [bs, ↓reduceIte] at h))
 | (cases h; done))
            refine SemL.re _ _ 2 1 (by rw [hB]; exact Nat.le_of_ble_eq_true rfl) (by rw [hB]; exact Nat.le_of_ble_eq_true rfl) ?_ ?_ (IH2 (ps, j + 1, out ++ [paramS a]) ⟨q2, by rw [← p2]; simp, by simp [p3]⟩ (by simp))
            · (simp only [go_sem, hlt, hget, hpu, hinc, Int.reduceLE, ↓reduceIte, reduceCtorEq, Nat.reduceEqDiff, Nat.reduceLeDiff, Nat.reduceAdd, Nat.reduceMul, Nat.reduceSub, Nat.reduceLT, ea, List.cons_append, List.nil_append]; repeat' (first | exact Ok.out | with_reducible refine And.intro ?_ ?_))
            · (simp only [go_sem, hlt, hget, hpu, hinc, Int.reduceLE, ↓reduceIte, reduceCtorEq, Nat.reduceEqDiff, Nat.reduceLeDiff, Nat.reduceAdd, Nat.reduceMul, Nat.reduceSub, Nat.reduceLT, ea, List.cons_append, List.nil_append]; repeat' (first | exact Ok.out | with_reducible refine And.intro ?_ ?_))
          | false =>
            rw [hr] at ea
            repeat' (first
 | simp only [go_sem, hlt, hget, hpu, hinc, Int.reduceLE, ↓reduceIte, reduceCtorEq, Nat.reduceEqDiff, Nat.reduceLeDiff, Nat.reduceAdd, Nat.reduceMul, Nat.reduceSub, Nat.reduceLT, hr, w2, p3, List.nil_append]
 | (with_reducible first | refine CB_ofT (by assumption) fun hc => ?_ | refine CB_ofF (by assumption) fun hc => ?_ | refine CB_split (fun hc => ?_) fun hc => ?_) <;> (try simp only [hc, bs, ↓reduceIte] at h) <;> (try simp only [hc])
 | ((with_reducible first | refine leafR hQ ?_ | refine leafN hQ ?_); (try cases h); simp only [resL, oneD, Option.some.injEq, exists_eq_left', go_sem, hlt, hget, hpu, hinc, Int.reduceLE, ↓reduceIte, reduceCtorEq, Nat.reduceEqDiff, Nat.reduceLeDiff, Nat.reduceAdd, Nat.reduceMul, Nat.reduceSub, Nat.reduceLT, hr, w2, p3, List.nil_append]; repeat' (first | exact Ok.out | with_reducible refine And.intro ?_ ?_ | (simp; done)))
 | (cases h; replace h := hr; clear hr; (try simp only [bs, ↓reduceIte] at h))
 | (cases h; done))
            refine SemL.re _ _ 2 1 (by rw [hB]; exact Nat.le_of_ble_eq_true rfl) (by rw [hB]; exact Nat.le_of_ble_eq_true rfl) ?_ ?_ (IH2 (ps, j + 1, out ++ [paramS a]) ⟨q2, by rw [← p2]; simp, by simp [p3]⟩ (by simp))
            · (simp only [go_sem, hlt, hget, hpu, hinc, Int.reduceLE, ↓reduceIte, reduceCtorEq, Nat.reduceEqDiff, Nat.reduceLeDiff, Nat.reduceAdd, Nat.reduceMul, Nat.reduceSub, Nat.reduceLT, ea, List.cons_append, List.nil_append]; repeat' (first | exact Ok.out | with_reducible refine And.intro ?_ ?_))
            · (simp only [go_sem, hlt, hget, hpu, hinc, Int.reduceLE, ↓reduceIte, reduceCtorEq, Nat.reduceEqDiff, Nat.reduceLeDiff, Nat.reduceAdd, Nat.reduceMul, Nat.reduceSub, Nat.reduceLT, ea, List.cons_append, List.nil_append]; repeat' (first | exact Ok.out | with_reducible refine And.intro ?_ ?_))
    cases cg : decide ((p.globals.length : Int) > 0) with
    | true =>
      have cg' : p.globals.length ≠ 0 := by have := of_decide_eq_true cg; omega
      rw [if_neg cg'] at egl
      have hl := key (p.procs, 0, globsS p.globals) ⟨rfl, hR⟩
      simp only [egl, List.cons_append, List.nil_append] at hl
      repeat' (first
 | simp only [go_sem, hlt, hget, hpu, hinc, Int.reduceLE, ↓reduceIte, reduceCtorEq, Nat.reduceEqDiff, Nat.reduceLeDiff, Nat.reduceAdd, Nat.reduceMul, Nat.reduceSub, Nat.reduceLT, cm, cg, b1, b2]
 | (with_reducible refine CU (hm _) ?_)
 | (with_reducible refine CU (ej _) ?_)
 | (with_reducible first | refine CB_ofT (by assumption) fun hc => ?_ | refine CB_ofF (by assumption) fun hc => ?_ | refine CB_split (fun hc => ?_) fun hc => ?_) <;> (try simp only [hc, bs, ↓reduceIte] at h) <;> (try simp only [hc])
 | ((with_reducible first | refine leafR hQ ?_ | refine leafN hQ ?_); (try cases h); simp only [resL, oneD, Option.some.injEq, exists_eq_left', go_sem, hlt, hget, hpu, hinc, Int.reduceLE, ↓reduceIte, reduceCtorEq, Nat.reduceEqDiff, Nat.reduceLeDiff, Nat.reduceAdd, Nat.reduceMul, Nat.reduceSub, Nat.reduceLT, cm, cg, b1, b2]; repeat' (first | exact Ok.out | with_reducible refine And.intro ?_ ?_ | (simp; done)))
 | (cases h; replace h := hr; clear hr; (try simp only [bs, ↓reduceIte] at h))
 | (cases h; done))
      refine SemL.re _ _ 1 0 (by rw [hB]; exact Nat.le_of_ble_eq_true rfl) (by rw [hB]; exact Nat.le_of_ble_eq_true rfl) ?_ ?_ (hl)
      · (simp only [go_sem, hlt, hget, hpu, hinc, Int.reduceLE, ↓reduceIte, reduceCtorEq, Nat.reduceEqDiff, Nat.reduceLeDiff, Nat.reduceAdd, Nat.reduceMul, Nat.reduceSub, Nat.reduceLT]; repeat' (first | exact Ok.out | with_reducible refine And.intro ?_ ?_))
      · (simp only [go_sem, hlt, hget, hpu, hinc, Int.reduceLE, ↓reduceIte, reduceCtorEq, Nat.reduceEqDiff, Nat.reduceLeDiff, Nat.reduceAdd, Nat.reduceMul, Nat.reduceSub, Nat.reduceLT]; repeat' (first | exact Ok.out | with_reducible refine And.intro ?_ ?_))
    | false =>
      have cg' : p.globals.length = 0 := by have := of_decide_eq_false cg; omega
      rw [if_pos cg'] at egl
      have hl := key (p.procs, 0, globsS p.globals) ⟨rfl, hR⟩
      simp only [egl] at hl
      repeat' (first
 | simp only [go_sem, hlt, hget, hpu, hinc, Int.reduceLE, ↓reduceIte, reduceCtorEq, Nat.reduceEqDiff, Nat.reduceLeDiff, Nat.reduceAdd, Nat.reduceMul, Nat.reduceSub, Nat.reduceLT, cm, cg]
 | (with_reducible refine CU (hm _) ?_)
 | (with_reducible first | refine CB_ofT (by assumption) fun hc => ?_ | refine CB_ofF (by assumption) fun hc => ?_ | refine CB_split (fun hc => ?_) fun hc => ?_) <;> (try simp only [hc, bs, ↓reduceIte] at h) <;> (try simp only [hc])
 | ((with_reducible first | refine leafR hQ ?_ | refine leafN hQ ?_); (try cases h); simp only [resL, oneD, Option.some.injEq, exists_eq_left', go_sem, hlt, hget, hpu, hinc, Int.reduceLE, ↓reduceIte, reduceCtorEq, Nat.reduceEqDiff, Nat.reduceLeDiff, Nat.reduceAdd, Nat.reduceMul, Nat.reduceSub, Nat.reduceLT, cm, cg]; repeat' (first | exact Ok.out | with_reducible refine And.intro ?_ ?_ | (simp; done)))
 | (cases h; replace h := hr; clear hr; (try simp only [bs, ↓reduceIte] at h))
 | (cases h; done))
      refine SemL.re _ _ 1 0 (by rw [hB]; exact Nat.le_of_ble_eq_true rfl) (by rw [hB]; exact Nat.le_of_ble_eq_true rfl) ?_ ?_ (hl)
      · (simp only [go_sem, hlt, hget, hpu, hinc, Int.reduceLE, ↓reduceIte, reduceCtorEq, Nat.reduceEqDiff, Nat.reduceLeDiff, Nat.reduceAdd, Nat.reduceMul, Nat.reduceSub, Nat.reduceLT]; repeat' (first | exact Ok.out | with_reducible refine And.intro ?_ ?_))
      · (simp only [go_sem, hlt, hget, hpu, hinc, Int.reduceLE, ↓reduceIte, reduceCtorEq, Nat.reduceEqDiff, Nat.reduceLeDiff, Nat.reduceAdd, Nat.reduceMul, Nat.reduceSub, Nat.reduceLT]; repeat' (first | exact Ok.out | with_reducible refine And.intro ?_ ?_))

end Go.Abs

/-! Some -/

namespace Go.Abs

set_option maxRecDepth 8000
set_option linter.unusedSimpArgs false
set_option linter.unusedVariables false
open Go.Proofs

theorem some_may : some0.may = true := by decide +kernel
theorem some_text : textS some0 = source := by decide +kernel
theorem some_rng : some0.rng := by
  intro f hf
  simp only [some0, List.mem_cons, List.not_mem_nil, or_false] at hf
  rcases hf with rfl | rfl <;> simp [Sm.rngs, Sm.rng, Ex.rng, Ex.rngs, exNum, exName, exTwo, ex0]

def prB : Pc := ⟨[112], [⟨[120], false⟩, ⟨[121], true⟩], [], [
    ⟨5, 1, [], [121], [], exTwo 8 (exName [121]) (exName [120]), false, [], [], []⟩,
    ⟨6, 5, [], [], [], exTwo 12 (exName [121]) (exNum 9), false, [], [⟨7, 10, [], [101], [], ex0, false, [], [], []⟩], []⟩,
    ⟨8, 9, [], [], [], exName [121], true, [], [], []⟩], [[101]]⟩
def stB : Sm := ⟨6, 5, [], [], [], exTwo 12 (exName [121]) (exNum 9), false, [], [⟨7, 10, [], [101], [], ex0, false, [], [], []⟩], []⟩
theorem some_prB : some0.procs[1]? = some prB := rfl
theorem some_stB : prB.body[1]? = some stB := rfl

theorem printed5_s (s : St) : Fun Tryd.prog n_law5_printed [] s (.bool true) s := by
  refine Fun.pure ?_ rfl rfl s
  have hsz : some0.size ≤ 1000000 := by decide +kernel
  have h1 := pText_s (may_FineP some_may (by omega)) (fun _ => may_PrG some_may some_rng) hsz
  rw [if_pos some_may, some_text] at h1
  have h2 := pExpr_s (x := stB.x) (by simp [stB, Ex.rng, Ex.rngs, exNum, exName, exTwo]) (by decide) (by simp [stB, Ex.texts, Ex.textss, exNum, exName, exTwo]) (by decide)
  have e : printE stB.x = [121, 32, 62, 32, 57] := by decide +kernel
  rw [e] at h2
  have b1 : (source == source) = true := beq_self_eq_true _
  have b2 : (([121, 32, 62, 32, 57] : Str) == [121, 32, 62, 32, 57]) = true := rfl
  have e1 := some_prB
  have e2 := some_stB
  have hS := fun s => Some_s s
  generalize some0 = P at *
  generalize prB = F at *
  generalize stB = T at *
  unfold S0
  refine Fun.go has_law5_printed rfl fun B Q hB hQ => ?_
  have hlt : 0 < 1 := Nat.zero_lt_one
  have hget : 0 < 1 := Nat.zero_lt_one
  have hpu : 0 < 1 := Nat.zero_lt_one
  have hinc : 0 < 1 := Nat.zero_lt_one
  repeat' (first
 | simp only [go_sem, hlt, hget, hpu, hinc, Int.reduceLE, ↓reduceIte, reduceCtorEq, Nat.reduceEqDiff, Nat.reduceLeDiff, Nat.reduceAdd, Nat.reduceMul, Nat.reduceSub, Nat.reduceLT, Int.toNat_one, e1, e2, b1, b2]
 | (with_reducible refine CU (hS _) ?_)
 | (with_reducible refine CU (h1 _) ?_)
 | (with_reducible refine CU (h2 _) ?_)
 | (with_reducible refine CU (Source_s _) ?_)
 | (with_reducible first | refine CB_ofT (by assumption) fun hc => ?_ | refine CB_ofF (by assumption) fun hc => ?_ | refine CB_split (fun hc => ?_) fun hc => ?_) <;> (try simp only [hc, bs, ↓reduceIte] at h) <;> (try simp only [hc])
 | ((with_reducible first | refine leafR hQ ?_ | refine leafN hQ ?_); (try cases h); simp only [resL, oneD, Option.some.injEq, exists_eq_left', go_sem, hlt, hget, hpu, hinc, Int.reduceLE, ↓reduceIte, reduceCtorEq, Nat.reduceEqDiff, Nat.reduceLeDiff, Nat.reduceAdd, Nat.reduceMul, Nat.reduceSub, Nat.reduceLT, Int.toNat_one, e1, e2, b1, b2]; repeat' (first | exact Ok.out | with_reducible refine And.intro ?_ ?_ | (simp; done)))
 | (cases h; replace h := hr; clear hr; (try simp only [bs, ↓reduceIte] at h))
 | (cases h; done))

end Go.Abs

/-! LawPr1 -/

namespace Go.Abs

set_option maxRecDepth 8000
set_option linter.unusedSimpArgs false
set_option linter.unusedVariables false
open Go.Proofs

theorem printAll_s {p : Pg} (hr : p.rng) (s : St) : Fun Tryd.prog n_law5_PrintAll [.agg (encPg p)] s (.bool true) s := by
  refine Fun.pure ?_ (by simp only [D.oks, D.ok, okPg]; rfl) rfl s
  have h0 := fun s => printed5_s s
  have hf := fun s => Fits_s p s
  unfold S0
  cases c : decide (p.weigh ≤ 20000) with
  | false =>
    refine Fun.go has_law5_PrintAll rfl fun B Q hB hQ => ?_
    have hlt : 0 < 1 := Nat.zero_lt_one
    have hget : 0 < 1 := Nat.zero_lt_one
    have hpu : 0 < 1 := Nat.zero_lt_one
    have hinc : 0 < 1 := Nat.zero_lt_one
    repeat' (first
 | simp only [go_sem, hlt, hget, hpu, hinc, Int.reduceLE, ↓reduceIte, reduceCtorEq, Nat.reduceEqDiff, Nat.reduceLeDiff, Nat.reduceAdd, Nat.reduceMul, Nat.reduceSub, Nat.reduceLT, c]
 | (with_reducible refine CU (h0 _) ?_)
 | (with_reducible refine CU (hf _) ?_)
 | (with_reducible first | refine CB_ofT (by assumption) fun hc => ?_ | refine CB_ofF (by assumption) fun hc => ?_ | refine CB_split (fun hc => ?_) fun hc => ?_) <;> (try simp only [hc, bs, ↓reduceIte] at h) <;> (try simp only [hc])
 | ((with_reducible first | refine leafR hQ ?_ | refine leafN hQ ?_); (try cases h); simp only [resL, oneD, Option.some.injEq, exists_eq_left', go_sem, hlt, hget, hpu, hinc, Int.reduceLE, ↓reduceIte, reduceCtorEq, Nat.reduceEqDiff, Nat.reduceLeDiff, Nat.reduceAdd, Nat.reduceMul, Nat.reduceSub, Nat.reduceLT, c]; repeat' (first | exact Ok.out | with_reducible refine And.intro ?_ ?_ | (simp; done)))
 | (cases h; replace h := hr; clear hr; (try simp only [bs, ↓reduceIte] at h))
 | (cases h; done))
  | true =>
    obtain ⟨hs, hP⟩ := weigh_fits (of_decide_eq_true c)
    have h1 := fun s => pText_s hP (fun h => may_PrG (by rw [← mayP_eq]; exact h) hr) (by omega) s
    have h2 := fun s => rPrint_s (fineP_fine hP) (fun h => may_PrG h hr) (by omega) s
    have b1 : ((if p.may = true then textS p else []) == (if p.may = true then textS p else [])) = true := beq_self_eq_true _
    generalize (if p.may = true then textS p else []) = T at *
    refine Fun.go has_law5_PrintAll rfl fun B Q hB hQ => ?_
    have hlt : 0 < 1 := Nat.zero_lt_one
    have hget : 0 < 1 := Nat.zero_lt_one
    have hpu : 0 < 1 := Nat.zero_lt_one
    have hinc : 0 < 1 := Nat.zero_lt_one
    repeat' (first
 | simp only [go_sem, hlt, hget, hpu, hinc, Int.reduceLE, ↓reduceIte, reduceCtorEq, Nat.reduceEqDiff, Nat.reduceLeDiff, Nat.reduceAdd, Nat.reduceMul, Nat.reduceSub, Nat.reduceLT, c, b1]
 | (with_reducible refine CU (h0 _) ?_)
 | (with_reducible refine CU (hf _) ?_)
 | (with_reducible refine CU (h1 _) ?_)
 | (with_reducible refine CU (h2 _) ?_)
 | (with_reducible first | refine CB_ofT (by assumption) fun hc => ?_ | refine CB_ofF (by assumption) fun hc => ?_ | refine CB_split (fun hc => ?_) fun hc => ?_) <;> (try simp only [hc, bs, ↓reduceIte] at h) <;> (try simp only [hc])
 | ((with_reducible first | refine leafR hQ ?_ | refine leafN hQ ?_); (try cases h); simp only [resL, oneD, Option.some.injEq, exists_eq_left', go_sem, hlt, hget, hpu, hinc, Int.reduceLE, ↓reduceIte, reduceCtorEq, Nat.reduceEqDiff, Nat.reduceLeDiff, Nat.reduceAdd, Nat.reduceMul, Nat.reduceSub, Nat.reduceLT, c, b1]; repeat' (first | exact Ok.out | with_reducible refine And.intro ?_ ?_ | (simp; done)))
 | (cases h; replace h := hr; clear hr; (try simp only [bs, ↓reduceIte] at h))
 | (cases h; done))

end Go.Abs

/-! Glue2 -/

namespace Go.Abs

def M0 : Map := ⟨fun _ _ => none, fun _ => (0, none), fun _ => none⟩

/-- Of what was there nothing turns. -/
def Kept (w w' : World) : Prop := w.keptBut w' (fun _ => False) ∧ ∀ a : Addr, a.block < w.heap.size → w'.frozen? a = w.frozen? a

theorem Kept.frame {w w' : World} (h : Kept w w') (may : MemPlace → Prop) : w.keptBut w' may := World.keptBut_mono (fun _ f => f.elim) h.1

theorem Ext.toKept {M M' : Map} {s' : St} {w w' : World} (e : Ext M S0 w M' s' w') : Kept w w' := by
  have hh : ∀ b, b < w.heap.size → w'.heap[b]? = w.heap[b]? := fun b hb =>
    e.kept b hb (fun o ho => by simp [S0] at ho) (fun t c z hl => by obtain ⟨n, hn⟩ := hl; simp [S0] at hn)
  refine ⟨⟨e.os, e.output, fun i hi => ?_⟩, fun a ha => ?_⟩
  · rw [hh i hi]
    exact (World.keptBut_refl w (fun _ => False)).2.2 i hi
  · simp only [World.frozen?, hh _ ha]

theorem rel0 (G : Nat → Nat → Option Value) (w : World) (h : ∀ b o v, G b o = some v → w.cell? ⟨b, o, none⟩ = some v ∧ v.oneCell' = true) : Rel ⟨G, fun _ => (0, none), fun _ => none⟩ S0 w :=
  ⟨h, fun o ds e => by simp [S0] at e, fun o ho => by simp [S0] at ho, fun o o' ho => by simp [S0] at ho, fun t n e => by simp [S0] at e,
    fun t b c z o hl => by obtain ⟨n, hn⟩ := hl; simp [S0] at hn, fun t t' b c z c' z' hl => by obtain ⟨n, hn⟩ := hl; simp [S0] at hn⟩

/-- The listed variables hold what they hold, in a world. -/
def LaidW (w : World) : Prop := ∀ g cs, tabs g = some cs → ∃ T fr, w.heap[g]? = some (.cells cs T fr)
theorem laid0 (G : Nat → Nat → Option Value) {w : World} (h : LaidW w) : Laid ⟨G, fun _ => (0, none), fun _ => none⟩ S0 w :=
  fun g cs hg => ⟨h g cs hg, fun o ho => by simp [S0] at ho, fun t c z hl => by obtain ⟨n, hn⟩ := hl; simp [S0] at hn⟩

/-- A law is called. -/
theorem law_calls {P : Program} {f : FuncId} {args : List D} {vargs : Array Value} {w : World} {G : Nat → Nat → Option Value} (h : ACalls P f args S0 fun d _ => d = .bool true)
    (hG : ∀ b o v, G b o = some v → w.cell? ⟨b, o, none⟩ = some v ∧ v.oneCell' = true) (hl : vargs.size = args.length)
    (ha : ∀ (i : Nat) (d : D) (v : Value), args[i]? = some d → vargs[i]? = some v → RD ⟨G, fun _ => (0, none), fun _ => none⟩ S0 d v) (hlaid : LaidW w) :
    Calls P f vargs w fun e w' => e = .returned (.bool true) ∧ Kept w w' := by
  refine (h _ w vargs (rel0 G w hG) (laid0 G hlaid) hl ha).mono fun e w' hw => ?_
  obtain ⟨M', d, v, s', rfl, rfl, he, _, hv⟩ := hw
  rw [hv.bool_inv]
  exact ⟨rfl, he.toKept⟩

section
variable {P : Program} {H : Type} {enc : TypeId × Value → H}

/-- The row's closing condition, where nothing turns of what was there. -/
theorem post_of_kept {f : Func} {s : ChangeSpec} {apart fresh handsOn again : Bool} {W W' : World} {args : Array Value} {v : Value} {ds gs : List (DataW H)} {before pa pv : List MemPlace}
    (hW : DataW.Whole enc P f.params.toList s.vars apart W args.toList ds gs before)
    (hres : ∀ (b : Nat) (sp : Nat → Bool) (hd : Bool), DataW.TrodAll enc P W' b sp hd f.resultTypes.toList (v.resultList f.resultTypes.size) (s.fn H (ds ++ gs)).results [])
    (hargs : ∀ sp : Nat → Bool, (∀ p ∈ before, sp p.block = true) → DataW.TrodAll enc P W' 0 sp true f.params.toList args.toList (s.fn H (ds ++ gs)).args pa)
    (hvars : ∀ sp : Nat → Bool, (∀ p ∈ before, sp p.block = true) → DataW.TrodVars enc P W' sp s.vars (s.fn H (ds ++ gs)).vars pv)
    (hps : before = pa ++ pv) (hk : Kept W W')
    (hok : ∀ (j : Nat) (t : TypeId) (r : Value), f.resultTypes[j]? = some t → (v.resultList f.resultTypes.size)[j]? = some r → Value.okWide P W' .any 0 t r) :
    s.post enc P f apart fresh handsOn again W args v W' := by
  have hlt : ∀ p ∈ before, p.block < W.heap.size := fun p hp => hW.lt p hp
  have hold : ∀ p ∈ before, (fun b => decide (b < W.heap.size)) p.block = true := fun p hp => by simpa using hlt p hp
  refine ⟨ds, gs, before, [], pa, pv, hW, hres _ _ _, hargs _ hold, hvars _ hold, World.keptBut_mono (fun p hp => ⟨hp, ?_⟩) (hk.frame (· ∈ before)), fun _ => ?_⟩
  · rw [hps, List.mem_append] at hp
    exact Or.inr hp
  · obtain ⟨_, _, _, _, _, hz, hn⟩ := hW
    refine ⟨hok, _, _, ([] ++ pa) ++ pv, ⟨[] ++ pa, pv, ChangeShapes.trodAll_append (hargs _ (fun _ _ => rfl)) (hres _ _ _), hvars _ (fun _ _ => rfl), rfl, ?_, ?_⟩, ?_⟩
    · intro b off hp
      have hp' : MemPlace.cell b off ∈ before := by rw [hps]; simpa using hp
      rw [hk.2 _ (hlt _ hp')]
      exact hz b off hp'
    · intro ha
      have := hn ha
      rw [hps] at this
      simpa using this
    · intro p hp _
      rw [hps]
      simpa using hp
end
end Go.Abs

/-! Join -/

namespace Go.Abs
open Go.RowKit Go.ChangeShapes Go.WideShapes

/-- All that can be read. -/
def memG (w : World) (b o : Nat) : Option Value :=
  match w.cell? ⟨b, o, none⟩ with
  | some v => if v.oneCell' = true then some v else none
  | none => none
theorem memG_ok {w : World} (b o : Nat) (v : Value) (h : memG w b o = some v) : w.cell? ⟨b, o, none⟩ = some v ∧ v.oneCell' = true := by
  unfold memG at h
  split at h
  · split at h
    · cases h; exact ⟨‹_›, ‹_›⟩
    · cases h
  · cases h
/-- All of it is fixed. -/
def memM (w : World) : Map := ⟨memG w, fun _ => (0, none), fun _ => none⟩

theorem Kept.sameAt {w w' : World} (h : Kept w w') {p : MemPlace} (hp : p.block < w.heap.size) : w.sameAt w' p := by
  have hk := h.1.2.2 p.block hp
  cases p with
  | cell b off =>
    simp only [MemPlace.block] at hk hp
    simp only [World.sameAt, World.cell?]
    split at hk
    · rename_i c t fr c' t' fr' e e'
      rw [e, e']
      simp only [hk.2.2.2 off (fun f => f)]
    · rename_i es clock es' clock' e e'
      rw [e, e']
    · rw [hk]
  | map b =>
    simp only [MemPlace.block] at hk hp
    simp only [World.sameAt]
    split at hk
    · rename_i c t fr c' t' fr' e e'
      rw [e, e']
      obtain ⟨rfl, rfl, hs, hc⟩ := hk
      have : c' = c := by
        apply Array.ext_getElem?
        intro i
        exact hc i (fun f => f)
      rw [this]
    · rename_i es clock es' clock' e e'
      rcases hk with f | ⟨rfl, rfl⟩
      · exact f.elim
      · rw [e, e']
    · exact hk

section
variable {P : Program} {H : Type} {enc : TypeId × Value → H} {T : TypeId → Prop}

theorem args_again (K : Kids P T) (hz : ∀ {t e : TypeId}, T t → P.underlying t = some (.slice e) → 0 < P.cellsOf e) {W W' : World} (hk : Kept W W') {sp : Nat → Bool} :
    ∀ {ts : List TypeId} {vs : List Value} {ds : List (DataW H)} {ps : List MemPlace}, (∀ t ∈ ts, T t) → (∀ p ∈ ps, p.block < W.heap.size) → (∀ p ∈ ps, sp p.block = true) →
      DataW.TrodAll enc P W 0 (fun _ => true) true ts vs ds ps → DataW.TrodAll enc P W' 0 sp true ts vs ds ps
  | [], [], [], _, _, _, _, h => h
  | t :: ts, v :: vs, d :: ds, ps, hT, hlt, hs, ⟨p, q, ⟨n, h1⟩, h2, e⟩ => by
    subst e
    refine ⟨p, q, ⟨n, DataW.trod_stays K hz (fun f => by cases f) (hT t (List.mem_cons_self ..)) h1 (fun x hx => hk.sameAt (hlt x (List.mem_append_left _ hx))) (fun x hx => hs x (List.mem_append_left _ hx))⟩, ?_, rfl⟩
    exact args_again K hz hk (fun t ht => hT t (List.mem_cons_of_mem _ ht)) (fun x hx => hlt x (List.mem_append_right _ hx)) (fun x hx => hs x (List.mem_append_right _ hx)) h2
  | [], [], _ :: _, _, _, _, _, h => h.elim
  | [], _ :: _, _, _, _, _, _, h => h.elim
  | _ :: _, [], _, _, _, _, _, h => h.elim
  | _ :: _, _ :: _, [], _, _, _, _, h => h.elim

/-- The row's closing condition. -/
theorem law_post (K : Kids P T) (hz : ∀ {t e : TypeId}, T t → P.underlying t = some (.slice e) → 0 < P.cellsOf e) {f : Func} {s : ChangeSpec} {apart fresh handsOn again : Bool} {tb : TypeId} {W W' : World} {args : Array Value} {ds gs : List (DataW H)} {before : List MemPlace}
    (hT : ∀ t ∈ f.params.toList, T t) (hb : P.underlying tb = some .bool) (hr : f.resultTypes = #[tb]) (hvars : s.vars = []) (hW : DataW.Whole enc P f.params.toList s.vars apart W args.toList ds gs before)
    (hfn : s.fn H (ds ++ gs) = { results := [.lit (.bool true)], args := ds }) (hk : Kept W W') : s.post enc P f apart fresh handsOn again W args (.bool true) W' := by
  have hW' := hW
  have hlt : ∀ p ∈ before, p.block < W.heap.size := fun p hp => hW.lt p hp
  obtain ⟨p, q, hA, hV, rfl, hfz, hnd⟩ := hW
  rw [hvars] at hV
  obtain ⟨rfl, rfl⟩ := trodVars_none hV
  simp only [List.append_nil] at hlt hfn
  refine post_of_kept (pa := p) (pv := []) hW' (fun b sp hd => ?_) (fun sp hsp => ?_) (fun sp hsp => ?_) rfl hk (ok_one hr rfl (okWide_bool_mk hb _))
  · rw [List.append_nil, hfn, hr]
    exact trodAll_cons_mk (shut_bool hb _) trodAll_mk0
  · rw [List.append_nil, hfn]
    simp only [List.append_nil] at hsp
    exact args_again K hz hk hT hlt hsp hA
  · rw [List.append_nil, hfn, hvars]
    rfl

/-- A law is called with arguments that can be read. -/
theorem law_run {f : FuncId} {args : List D} {vargs : Array Value} {w : World} (h : ACalls P f args S0 fun d _ => d = .bool true) (hl : vargs.size = args.length)
    (ha : ∀ (i : Nat) (d : D) (v : Value), args[i]? = some d → vargs[i]? = some v → RD (memM w) S0 d v) (hlaid : LaidW w) : Calls P f vargs w fun e w' => e = .returned (.bool true) ∧ Kept w w' :=
  law_calls (G := memG w) h memG_ok hl ha hlaid
end

end Go.Abs

/-! Join2 -/

namespace Go.Abs
set_option linter.unusedSimpArgs false
set_option linter.unusedVariables false
open Go.RowKit Go.ChangeShapes Go.WideShapes

end Go.Abs

/-! Join3 -/

namespace Go.Abs
set_option linter.unusedSimpArgs false
set_option linter.unusedVariables false
open Go.RowKit Go.ChangeShapes Go.WideShapes

/-- A row of cells is these. -/
def Rowed (W : World) (ds : List D) (cs : List Value) : Prop := ds.length = cs.length ∧ (∀ (i : Nat) (d : D) (v : Value), ds[i]? = some d → cs[i]? = some v → RD (memM W) S0 d v) ∧ ∀ v ∈ cs, v.oneCell' = true

theorem Rowed.one {W : World} {d : D} {v : Value} (h : RD (memM W) S0 d v) (hv : v.oneCell' = true) : Rowed W [d] [v] := by
  refine ⟨rfl, fun i d' v' h1 h2 => ?_, fun u hu => by simp at hu; subst hu; exact hv⟩
  cases i with
  | zero => simp at h1 h2; subst h1 h2; exact h
  | succ i => simp at h1
theorem Rowed.app {W : World} {ds ds' : List D} {cs cs' : List Value} (h : Rowed W ds cs) (h' : Rowed W ds' cs') : Rowed W (ds ++ ds') (cs ++ cs') := by
  obtain ⟨a1, a2, a3⟩ := h
  obtain ⟨b1, b2, b3⟩ := h'
  refine ⟨by simp [a1, b1], fun i d v h1 h2 => ?_, fun v hv => ?_⟩
  · by_cases hi : i < ds.length
    · rw [List.getElem?_append_left hi] at h1
      rw [List.getElem?_append_left (by omega)] at h2
      exact a2 i d v h1 h2
    · rw [List.getElem?_append_right (by omega)] at h1
      rw [List.getElem?_append_right (by omega), ← a1] at h2
      exact b2 _ d v h1 h2
  · rcases List.mem_append.1 hv with hv | hv
    · exact a3 v hv
    · exact b3 v hv
/-- A part, then the rest. -/
theorem Rowed.at {W : World} {ds ds' : List D} {cs : List Value} {o n : Nat} (h : Rowed W ds ((cs.drop o).take n)) (h' : Rowed W ds' (cs.drop (o + n))) : Rowed W (ds ++ ds') (cs.drop o) := by
  have e : cs.drop o = (cs.drop o).take n ++ cs.drop (o + n) := by rw [← List.drop_drop, List.take_append_drop]
  rw [e]
  exact h.app h'
theorem Rowed.end {W : World} {cs : List Value} {o : Nat} (h : cs.length = o) : Rowed W [] (cs.drop o) := by
  rw [← h, List.drop_length]
  exact ⟨rfl, fun i d v h => by simp at h, fun v hv => by cases hv⟩

section
variable {H : Type} {enc : TypeId × Value → H} {P : Program} {W : World} {sp : Nat → Bool}

def structOf (P : Program) (t : TypeId) : List (TypeId × Nat) :=
  match P.underlying t with
  | some (.struct fs) => fs.toList.map fun f => (f.type, f.offset)
  | _ => []

theorem struct_fields {t : TypeId} {l : List (TypeId × Nat)} {fuel : Nat} {cs : List Value} {x : DataW H × List MemPlace} (h : structOf P t = l) (hne : l ≠ []) (ht : DataW.trod enc P W 0 sp true fuel t cs = some x) :
    ∃ n, fuel = n + 1 ∧ cs.length = P.cellsOf t ∧ ∀ (i : Nat) (f : TypeId × Nat), l[i]? = some f → ∃ y, DataW.trod enc P W 0 sp true n f.1 ((cs.drop f.2).take (P.cellsOf f.1)) = some y := by
  unfold structOf at h
  split at h
  · rename_i fs hu
    obtain ⟨xs, n, e, _, hl, hlen, hf⟩ := DataW.trod_struct hu ht
    refine ⟨n, e, hl, fun i f hi => ?_⟩
    subst h
    rw [List.getElem?_map, Option.map_eq_some_iff] at hi
    obtain ⟨g, hg, rfl⟩ := hi
    have hg' : fs[i]? = some g := by simpa using hg
    have hi : i < xs.length := by rw [hlen]; exact (Array.getElem?_eq_some_iff.1 hg').1
    exact ⟨xs[i], by rw [hf i g hg', List.getElem?_eq_getElem hi]⟩
  · exact absurd h.symm hne

theorem structOf_some {t : TypeId} {l : List (TypeId × Nat)} (h : structOf P t = l) (hne : l ≠ []) : ∃ fs, P.underlying t = some (.struct fs) := by
  unfold structOf at h
  split at h
  · exact ⟨_, ‹_›⟩
  · exact absurd h.symm hne

theorem choose_list {α : Type} {Q : Nat → α → Prop} : ∀ n, (∀ i, i < n → ∃ y, Q i y) → ∃ ys : List α, ys.length = n ∧ ∀ i y, ys[i]? = some y → Q i y
  | 0, _ => ⟨[], rfl, fun i y h => by simp at h⟩
  | n + 1, h => by
    obtain ⟨ys, h1, h2⟩ := choose_list n fun i hi => h i (by omega)
    obtain ⟨y, hy⟩ := h n (by omega)
    refine ⟨ys ++ [y], by simp [h1], fun i z hz => ?_⟩
    by_cases hi : i < ys.length
    · rw [List.getElem?_append_left hi] at hz; exact h2 i z hz
    · rw [List.getElem?_append_right (by omega)] at hz
      have : i - ys.length = 0 := by
        rcases Nat.eq_zero_or_pos (i - ys.length) with h | h
        · exact h
        · rw [List.getElem?_eq_none (by simp only [List.length_cons, List.length_nil]; omega)] at hz; cases hz
      rw [this] at hz
      simp at hz
      subst hz
      have : i = n := by omega
      subst this
      exact hy

/-- A list of things that can be read. -/
theorem rd_slice {α : Type} (en : α → List D) (good : α → Prop) {z : Nat} {t e : TypeId} {fuel : Nat} {cs : List Value} {x : DataW H × List MemPlace} (ht : P.underlying t = some (.slice e)) (hz : P.cellsOf e = z) (hz0 : 0 < z) (hen : ∀ y, (en y).length = z)
    (hel : ∀ n < fuel, ∀ cs x, DataW.trod enc P W 0 sp true n e cs = some x → ∃ y, Rowed W (en y) cs ∧ good y) (h : DataW.trod enc P W 0 sp true fuel t cs = some x) :
    ∃ ys : List α, Rowed W [.slice .shared z (ys.map en)] cs ∧ ∀ y ∈ ys, good y := by
  rcases DataW.trod_slice ht h with ⟨rfl, _⟩ | ⟨a, len, cap, elems, rest, n, hn, rfl, _, hb, hl, hm, hlen, hcell, _, _⟩
  · exact ⟨[], Rowed.one (.snil _ _ _ rfl trivial) rfl, fun y hy => by cases hy⟩
  · by_cases h0 : len = 0
    · subst h0
      exact ⟨[], Rowed.one (.semp _ _ _) rfl, fun y hy => by cases hy⟩
    · obtain ⟨ys, hys, hall⟩ := choose_list (Q := fun i y => good y ∧ ∃ cs', W.cells? 0 (a.add (i * z)) z = some cs' ∧ Rowed W (en y) cs') len fun i hi => by
        have hc := hcell i hi
        rw [List.getElem?_eq_getElem (by omega), hz, Option.bind_eq_some_iff] at hc
        obtain ⟨cs', h1, h2⟩ := hc
        obtain ⟨y, h3, h4⟩ := hel n (by omega) _ _ h2
        exact ⟨y, h4, cs', h1, h3⟩
      have cell : ∀ i y, ys[i]? = some y → ∀ (j : Nat) d, (en y)[j]? = some d → ∃ v, W.cell? ((a.add (i * z)).add j) = some v ∧ RD (memM W) S0 d v ∧ v.oneCell' = true := by
        intro i y hy j d hd
        obtain ⟨_, cs', h1, h2, h3, h4⟩ := hall i y hy
        obtain ⟨_, k1, k2⟩ := World.cells?_some h1
        have hj : j < z := by rw [← hen y]; exact (List.getElem?_eq_some_iff.1 hd).1
        have hv : cs'[j]? = some cs'[j] := List.getElem?_eq_getElem (by omega)
        exact ⟨cs'[j], by rw [k2 j hj, hv], h3 j d _ hd hv, h4 _ (List.getElem_mem _)⟩
      obtain ⟨b, off, spot⟩ := a
      have hspot : spot = none := by
        have hy : ys[0]? = some (ys[0]'(by omega)) := List.getElem?_eq_getElem (by omega)
        obtain ⟨d, hd⟩ : ∃ d, (en (ys[0]'(by omega)))[0]? = some d := ⟨_, List.getElem?_eq_getElem (show 0 < (en (ys[0]'(by omega))).length by rw [hen]; exact hz0)⟩
        obtain ⟨v, hv, _⟩ := cell 0 _ hy 0 _ hd
        have := World.cell?_spot hv
        simpa [Addr.add] using this
      subst hspot
      have e : (ys.map en).length = len := by simp [hys]
      have := RD.slice (M := memM W) (s := S0) .shared z (ys.map en) b off cap (by omega) (fun row hr => by obtain ⟨y, _, rfl⟩ := List.mem_map.1 hr; exact hen y)
        (fun i row j d h1 h2 => by
          rw [List.getElem?_map, Option.map_eq_some_iff] at h1
          obtain ⟨y, h1, rfl⟩ := h1
          obtain ⟨v, hv, _, h4⟩ := cell i y h1 j d h2
          rw [add_plain, add_plain] at hv
          refine ⟨v, ?_⟩
          show memG W b (off + (i * z + j)) = _
          unfold memG
          rw [show off + (i * z + j) = off + i * z + j by omega, hv]
          simp [h4])
        (fun i row j d u h1 h2 hu => by
          rw [List.getElem?_map, Option.map_eq_some_iff] at h1
          obtain ⟨y, h1, rfl⟩ := h1
          obtain ⟨v, hv, h3, h4⟩ := cell i y h1 j d h2
          rw [add_plain, add_plain] at hv
          obtain ⟨hu, _⟩ := memG_ok _ _ _ hu
          rw [show off + (i * z + j) = off + i * z + j by omega, hv] at hu
          cases hu
          exact h3) trivial
      rw [e] at this
      refine ⟨ys, Rowed.one this rfl, fun y hy => ?_⟩
      obtain ⟨i, hi⟩ := List.getElem?_of_mem hy
      exact (hall i y hi).1

theorem rd_i64 {t : TypeId} {fuel : Nat} {cs : List Value} {x : DataW H × List MemPlace} (ht : P.underlying t = some (.int .i64)) (h : DataW.trod enc P W 0 sp true fuel t cs = some x) : ∃ n : Int, Rowed W [.int .i64 n] cs ∧ n ≤ 9223372036854775807 ∧ -9223372036854775808 ≤ n := by
  obtain ⟨n, rfl, _, hw⟩ := DataW.trod_int ht h
  simp [Lit.wf, IntKind.min, IntKind.max, IntKind.signed, IntKind.bits] at hw
  exact ⟨n, Rowed.one (.int _ _) rfl, by omega, by omega⟩
theorem rd_bool {t : TypeId} {fuel : Nat} {cs : List Value} {x : DataW H × List MemPlace} (ht : P.underlying t = some .bool) (h : DataW.trod enc P W 0 sp true fuel t cs = some x) : ∃ b : Bool, Rowed W [.bool b] cs := by
  obtain ⟨n, rfl, _⟩ := DataW.trod_bool ht h
  exact ⟨n, Rowed.one (.bool _) rfl⟩
theorem rd_str {t : TypeId} {fuel : Nat} {cs : List Value} {x : DataW H × List MemPlace} (ht : P.underlying t = some .string) (h : DataW.trod enc P W 0 sp true fuel t cs = some x) : ∃ s : Str, Rowed W (encStr s) cs ∧ s.length ≤ maxLen := by
  obtain ⟨s, rfl, _, hm⟩ := DataW.trod_string ht h
  obtain ⟨⟨l⟩⟩ := s
  exact ⟨l, Rowed.one (.str l) rfl, hm⟩

/-- Expressions. -/
theorem rd_ex {tE tI tN tS tK : TypeId} (hE : structOf P tE = [(tI, 0), (tN, 1), (tS, 2), (tK, 3)]) (hEc : P.cellsOf tE = 4) (hI : P.underlying tI = some (.int .i64)) (hN : P.underlying tN = some (.int .i64)) (hS : P.underlying tS = some .string) (hK : P.underlying tK = some (.slice tE))
    (cI : P.cellsOf tI = 1) (cN : P.cellsOf tN = 1) (cS : P.cellsOf tS = 1) (cK : P.cellsOf tK = 1) :
    ∀ (fuel : Nat) (cs : List Value) (x : DataW H × List MemPlace), DataW.trod enc P W 0 sp true fuel tE cs = some x → ∃ y : Ex, Rowed W (encEx y) cs ∧ y.rng := by
  intro fuel
  induction fuel using Nat.strongRecOn with
  | _ fuel ih =>
    intro cs x h
    obtain ⟨n, rfl, hl, hf⟩ := struct_fields hE (by simp) h
    obtain ⟨y0, h0⟩ := hf 0 _ rfl
    obtain ⟨y1, h1⟩ := hf 1 _ rfl
    obtain ⟨y2, h2⟩ := hf 2 _ rfl
    obtain ⟨y3, h3⟩ := hf 3 _ rfl
    dsimp only at h0 h1 h2 h3
    rw [cI] at h0
    rw [cN] at h1
    rw [cS] at h2
    rw [cK] at h3
    obtain ⟨op, r0, _⟩ := rd_i64 hI h0
    obtain ⟨m, r1, hm, _⟩ := rd_i64 hN h1
    obtain ⟨s, r2, _⟩ := rd_str hS h2
    obtain ⟨ks, r3, hg⟩ := rd_slice (W := W) encEx Ex.rng hK hEc (by decide) lenEx (fun k hk cs x hx => ih k (by omega) cs x hx) h3
    refine ⟨⟨op, m, s, ks⟩, ?_, hm, ?_⟩
    · have := r0.at (r1.at (r2.at (r3.at (Rowed.end (by rw [hl, hEc])))))
      rw [encEx_eq]
      simpa [encStr] using this
    · clear r3
      induction ks with
      | nil => exact trivial
      | cons k ks ihk => exact ⟨hg k (by simp), ihk fun y hy => hg y (by simp [hy])⟩

/-- Of a whole argument. -/
theorem Rowed.agg {ds : List D} {v : Value} (h : Rowed W ds v.cells.toList) (hv : ∃ vs, v = .agg vs) : RD (memM W) S0 (.agg ds) v := by
  obtain ⟨vs, rfl⟩ := hv
  obtain ⟨h1, h2, h3⟩ := h
  have e : (Value.agg vs).cells = vs := rfl
  rw [e] at h1 h2 h3
  refine .agg ds vs (by simpa using h1) (fun v hv => h3 v (by simpa using hv)) fun i d v hd hv => h2 i d v hd (by simpa using hv)
end

end Go.Abs

/-! Join4 -/

namespace Go.Abs
set_option linter.unusedSimpArgs false
set_option linter.unusedVariables false
open Go.Proofs Go.RowKit Go.ChangeShapes Go.WideShapes

section
variable {H : Type} {enc : TypeId × Value → H} {W : World} {sp : Nat → Bool}

theorem rdp_ex (fuel : Nat) (cs : List Value) (x : DataW H × List MemPlace) (h : DataW.trod enc Tryd.prog W 0 sp true fuel 31 cs = some x) : ∃ y : Ex, Rowed W (encEx y) cs ∧ y.rng :=
  rd_ex (tE := 31) (tI := 3) (tN := 2) (tS := 9) (tK := 29) (by kernel_rfl) (by kernel_rfl) (by kernel_rfl) (by kernel_rfl) (by kernel_rfl) (by kernel_rfl) (by kernel_rfl) (by kernel_rfl) (by kernel_rfl) (by kernel_rfl) _ _ _ h
theorem ut_strs : Tryd.prog.underlying 22 = some (.slice 9) := by kernel_rfl
theorem ut_str : Tryd.prog.underlying 9 = some .string := by kernel_rfl
theorem ut_int : Tryd.prog.underlying 3 = some (.int .i64) := by kernel_rfl
theorem ut_bool : Tryd.prog.underlying 4 = some .bool := by kernel_rfl
theorem ct_str : Tryd.prog.cellsOf 9 = 1 := by kernel_rfl
theorem ct_int : Tryd.prog.cellsOf 3 = 1 := by kernel_rfl
theorem ct_bool : Tryd.prog.cellsOf 4 = 1 := by kernel_rfl
theorem ct_strs : Tryd.prog.cellsOf 22 = 1 := by kernel_rfl
theorem ct_ex : Tryd.prog.cellsOf 31 = 4 := by kernel_rfl
theorem rdp_strs {fuel : Nat} {cs : List Value} {x : DataW H × List MemPlace} (h : DataW.trod enc Tryd.prog W 0 sp true fuel 22 cs = some x) : ∃ l : List Str, Rowed W [.slice .shared 1 (l.map encStr)] cs := by
  obtain ⟨l, h, _⟩ := rd_slice (W := W) encStr (fun _ => True) ut_strs ct_str (by decide) (fun _ => rfl) (fun k hk cs x hx => by
    obtain ⟨s, hs, _⟩ := rd_str ut_str hx
    exact ⟨s, hs, trivial⟩) h
  exact ⟨l, h⟩

theorem rdp_pm {fuel : Nat} {cs : List Value} {x : DataW H × List MemPlace} (h : DataW.trod enc Tryd.prog W 0 sp true fuel 60 cs = some x) : ∃ y : Pm, Rowed W (encPm y) cs := by
  obtain ⟨n, rfl, hl, hf⟩ := struct_fields (l := [(9, 0), (4, 1)]) (by kernel_rfl) (by simp) h
  have hc : Tryd.prog.cellsOf 60 = 2 := by kernel_rfl
  obtain ⟨y0, h0⟩ := hf 0 _ rfl
  obtain ⟨y1, h1⟩ := hf 1 _ rfl
  dsimp only at h0 h1
  rw [ct_str] at h0
  rw [ct_bool] at h1
  obtain ⟨s, r0, _⟩ := rd_str ut_str h0
  obtain ⟨b, r1⟩ := rd_bool ut_bool h1
  refine ⟨⟨s, b⟩, ?_⟩
  have := r0.at (r1.at (Rowed.end (by rw [hl, hc])))
  simpa [encStr, encPm] using this

theorem rdp_ar {fuel : Nat} {cs : List Value} {x : DataW H × List MemPlace} (h : DataW.trod enc Tryd.prog W 0 sp true fuel 98 cs = some x) : ∃ y : Ar, Rowed W (encAr y) cs ∧ y.x.rng := by
  obtain ⟨n, rfl, hl, hf⟩ := struct_fields (l := [(4, 0), (9, 1), (31, 2)]) (by kernel_rfl) (by simp) h
  have hc : Tryd.prog.cellsOf 98 = 6 := by kernel_rfl
  obtain ⟨y0, h0⟩ := hf 0 _ rfl
  obtain ⟨y1, h1⟩ := hf 1 _ rfl
  obtain ⟨y2, h2⟩ := hf 2 _ rfl
  dsimp only at h0 h1 h2
  rw [ct_bool] at h0
  rw [ct_str] at h1
  rw [ct_ex] at h2
  obtain ⟨b, r0⟩ := rd_bool ut_bool h0
  obtain ⟨s, r1, _⟩ := rd_str ut_str h1
  obtain ⟨e, r2, hr⟩ := rdp_ex _ _ _ h2
  refine ⟨⟨b, s, e⟩, ?_, hr⟩
  have := r0.at (r1.at (r2.at (Rowed.end (by rw [hl, hc]))))
  rw [encEx_eq] at this
  simpa [encStr, encAr] using this

theorem rngs_all : ∀ {l : List Sm}, (∀ s ∈ l, s.rng) → Sm.rngs l
  | [], _ => trivial
  | s :: l, h => ⟨h s (List.mem_cons_self ..), rngs_all fun t m => h t (List.mem_cons_of_mem _ m)⟩

theorem rdp_sm : ∀ (fuel : Nat) (cs : List Value) (x : DataW H × List MemPlace), DataW.trod enc Tryd.prog W 0 sp true fuel 57 cs = some x → ∃ y : Sm, Rowed W (encSm y) cs ∧ y.rng := by
  intro fuel
  induction fuel using Nat.strongRecOn with
  | _ fuel ih =>
    intro cs x h
    obtain ⟨n, rfl, hl, hf⟩ := struct_fields (l := [(3, 0), (3, 1), (22, 2), (9, 3), (9, 4), (31, 5), (4, 9), (55, 10), (36, 11), (36, 12)]) (by kernel_rfl) (by simp) h
    have hc : Tryd.prog.cellsOf 57 = 13 := by kernel_rfl
    have ca : Tryd.prog.cellsOf 55 = 1 := by kernel_rfl
    have cs' : Tryd.prog.cellsOf 36 = 1 := by kernel_rfl
    have ua : Tryd.prog.underlying 55 = some (.slice 98) := by kernel_rfl
    have us : Tryd.prog.underlying 36 = some (.slice 57) := by kernel_rfl
    have ca6 : Tryd.prog.cellsOf 98 = 6 := by kernel_rfl
    obtain ⟨y0, h0⟩ := hf 0 _ rfl
    obtain ⟨y1, h1⟩ := hf 1 _ rfl
    obtain ⟨y2, h2⟩ := hf 2 _ rfl
    obtain ⟨y3, h3⟩ := hf 3 _ rfl
    obtain ⟨y4, h4⟩ := hf 4 _ rfl
    obtain ⟨y5, h5⟩ := hf 5 _ rfl
    obtain ⟨y6, h6⟩ := hf 6 _ rfl
    obtain ⟨y7, h7⟩ := hf 7 _ rfl
    obtain ⟨y8, h8⟩ := hf 8 _ rfl
    obtain ⟨y9, h9⟩ := hf 9 _ rfl
    dsimp only at h0 h1 h2 h3 h4 h5 h6 h7 h8 h9
    rw [ct_int] at h0 h1
    rw [ct_strs] at h2
    rw [ct_str] at h3 h4
    rw [ct_ex] at h5
    rw [ct_bool] at h6
    rw [ca] at h7
    rw [cs'] at h8 h9
    obtain ⟨id, r0, _⟩ := rd_i64 ut_int h0
    obtain ⟨kind, r1, _⟩ := rd_i64 ut_int h1
    obtain ⟨labels, r2⟩ := rdp_strs h2
    obtain ⟨name, r3, _⟩ := rd_str ut_str h3
    obtain ⟨proc, r4, _⟩ := rd_str ut_str h4
    obtain ⟨e, r5, hr⟩ := rdp_ex _ _ _ h5
    obtain ⟨b, r6⟩ := rd_bool ut_bool h6
    obtain ⟨args, r7, ha⟩ := rd_slice (W := W) encAr (fun a => a.x.rng) ua ca6 (by decide) (fun _ => rfl) (fun k hk cs x hx => rdp_ar hx) h7
    obtain ⟨thn, r8, ht⟩ := rd_slice (W := W) encSm Sm.rng us hc (by decide) lenSm (fun k hk cs x hx => ih k (by omega) cs x hx) h8
    obtain ⟨els, r9, he⟩ := rd_slice (W := W) encSm Sm.rng us hc (by decide) lenSm (fun k hk cs x hx => ih k (by omega) cs x hx) h9
    refine ⟨⟨id, kind, labels, name, proc, e, b, args, thn, els⟩, ?_, hr, ha, rngs_all ht, rngs_all he⟩
    have := r0.at (r1.at (r2.at (r3.at (r4.at (r5.at (r6.at (r7.at (r8.at (r9.at (Rowed.end (by rw [hl, hc])))))))))))
    rw [encEx_eq] at this
    rw [encSm_eq]
    simpa [encStr] using this

theorem rdp_pc {fuel : Nat} {cs : List Value} {x : DataW H × List MemPlace} (h : DataW.trod enc Tryd.prog W 0 sp true fuel 38 cs = some x) : ∃ y : Pc, Rowed W (encPc y) cs ∧ Sm.rngs y.body := by
  obtain ⟨n, rfl, hl, hf⟩ := struct_fields (l := [(9, 0), (35, 1), (22, 2), (36, 3), (22, 4)]) (by kernel_rfl) (by simp) h
  have hc : Tryd.prog.cellsOf 38 = 5 := by kernel_rfl
  have cp : Tryd.prog.cellsOf 35 = 1 := by kernel_rfl
  have cs' : Tryd.prog.cellsOf 36 = 1 := by kernel_rfl
  have up : Tryd.prog.underlying 35 = some (.slice 60) := by kernel_rfl
  have us : Tryd.prog.underlying 36 = some (.slice 57) := by kernel_rfl
  have cp2 : Tryd.prog.cellsOf 60 = 2 := by kernel_rfl
  have cs13 : Tryd.prog.cellsOf 57 = 13 := by kernel_rfl
  obtain ⟨y0, h0⟩ := hf 0 _ rfl
  obtain ⟨y1, h1⟩ := hf 1 _ rfl
  obtain ⟨y2, h2⟩ := hf 2 _ rfl
  obtain ⟨y3, h3⟩ := hf 3 _ rfl
  obtain ⟨y4, h4⟩ := hf 4 _ rfl
  dsimp only at h0 h1 h2 h3 h4
  rw [ct_str] at h0
  rw [cp] at h1
  rw [ct_strs] at h2 h4
  rw [cs'] at h3
  obtain ⟨name, r0, _⟩ := rd_str ut_str h0
  obtain ⟨ps, r1, _⟩ := rd_slice (W := W) encPm (fun _ => True) up cp2 (by decide) (fun _ => rfl) (fun k hk cs x hx => by
    obtain ⟨y, hy⟩ := rdp_pm hx
    exact ⟨y, hy, trivial⟩) h1
  obtain ⟨vars, r2⟩ := rdp_strs h2
  obtain ⟨body, r3, hb⟩ := rd_slice (W := W) encSm Sm.rng us cs13 (by decide) lenSm (fun k hk cs x hx => rdp_sm k cs x hx) h3
  obtain ⟨fin, r4⟩ := rdp_strs h4
  refine ⟨⟨name, ps, vars, body, fin⟩, ?_, rngs_all hb⟩
  have := r0.at (r1.at (r2.at (r3.at (r4.at (Rowed.end (by rw [hl, hc]))))))
  simpa [encStr, encPc] using this

theorem rdp_pg {fuel : Nat} {cs : List Value} {x : DataW H × List MemPlace} (h : DataW.trod enc Tryd.prog W 0 sp true fuel 25 cs = some x) : ∃ y : Pg, Rowed W (encPg y) cs ∧ y.rng := by
  obtain ⟨n, rfl, hl, hf⟩ := struct_fields (l := [(22, 0), (23, 1)]) (by kernel_rfl) (by simp) h
  have hc : Tryd.prog.cellsOf 25 = 2 := by kernel_rfl
  have cp : Tryd.prog.cellsOf 23 = 1 := by kernel_rfl
  have up : Tryd.prog.underlying 23 = some (.slice 38) := by kernel_rfl
  have cp5 : Tryd.prog.cellsOf 38 = 5 := by kernel_rfl
  obtain ⟨y0, h0⟩ := hf 0 _ rfl
  obtain ⟨y1, h1⟩ := hf 1 _ rfl
  dsimp only at h0 h1
  rw [ct_strs] at h0
  rw [cp] at h1
  obtain ⟨globals, r0⟩ := rdp_strs h0
  obtain ⟨procs, r1, hp⟩ := rd_slice (W := W) encPc (fun f => Sm.rngs f.body) up cp5 (by decide) (fun _ => rfl) (fun k hk cs x hx => rdp_pc hx) h1
  refine ⟨⟨globals, procs⟩, ?_, hp⟩
  have := r0.at (r1.at (Rowed.end (by rw [hl, hc])))
  simpa [encPg] using this
end

end Go.Abs

/-! Laid5 -/

namespace Go.Proofs.YtcknbmdkefcinaaDoor
open Go.ChangeShapes Go.WideShapes Go.ChangeAt Go.RowKit Go.Abs
set_option linter.unusedVariables false

theorem own : ownKnob Tryd.prog.godebug = none := by kernel_rfl
theorem kids : Kids Tryd.prog (· < Tryd.prog.types.size) := kids_rows (by kernel_rfl) (by kernel_rfl)
theorem full : ∀ {t e : TypeId}, t < Tryd.prog.types.size → Tryd.prog.underlying t = some (.slice e) → 0 < Tryd.prog.cellsOf e := fun {t e} => slices_full_of Tryd.prog (by kernel_rfl) t e

/-- The variables that the rows list. -/
def laid3 : List (String × DataW Unit) := [("math/bits.deBruijn32tab", Rows.laid_math_bits_deBruijn32tab), ("math/bits.deBruijn64tab", Rows.laid_math_bits_deBruijn64tab), ("internal/strconv.uint64pow10", Rows.laid_internal_strconv_uint64pow10)]

theorem laid_pow : (Rows.laid_internal_strconv_uint64pow10 : DataW Unit) = Lib.tabData .u64 Lib.pow10Tab := by kernel_rfl

theorem laidW_of {W : World} (h : laidMetH Tryd.prog laid3 W) : LaidW W := by
  have h1 : laidMet Tryd.prog [("internal/strconv.uint64pow10", Lib.tabData .u64 Lib.pow10Tab)] W := by
    have := (laidMetH_iff.1 h).1.filter fun x => x.1 == "internal/strconv.uint64pow10"
    rw [← laid_pow]
    exact this
  have ht : Lib.TabIs Tryd.prog W "internal/strconv.uint64pow10" .u64 Lib.pow10Tab :=
    Lib.tabIs_of_head (g := gPow) (t := 159) (e := 135) (n := 20) (by kernel_rfl) (by kernel_rfl) (by kernel_rfl) (by kernel_rfl) (by kernel_rfl) (by kernel_rfl) h1
  have hg : Tryd.prog.globalNamed "internal/strconv.uint64pow10" = some gPow := by kernel_rfl
  unfold Lib.TabIs World.var? at ht
  rw [hg] at ht
  simp only [Option.bind_some] at ht
  intro g cs hcs
  unfold tabs at hcs
  split at hcs
  · rename_i hgg
    subst hgg
    cases hcs
    split at ht
    · rename_i cs' T fr e
      cases ht
      exact ⟨T, fr, e⟩
    · cases ht
  · cases hcs

/-- A table's cells. -/
def tabCells : DataW Unit → Array Value
  | .agg l => (l.map fun | .lit (.int k n) => Value.int k n | _ => .int .i64 0).toArray
  | _ => #[]
/-- A world in which the tables are laid. -/
noncomputable def laidWorld (os : Os) : World :=
  let w0 := World.holding Tryd.prog os ⟨#[], #[], []⟩
  let lay := fun (h : Array Obj) (g : Nat) (d : DataW Unit) => h.modify g fun
      | .cells _ t frozen => .cells (tabCells d) t frozen
      | o => o
  { w0 with heap := lay (lay (lay w0.heap 1 Rows.laid_internal_strconv_uint64pow10) 2 Rows.laid_math_bits_deBruijn32tab) 3 Rows.laid_math_bits_deBruijn64tab }
theorem laid_met (os : Os) (args : Array Value) : laidMetH Tryd.prog laid3 ((laidWorld os).forCall (fun _ _ => 0) ⟨#[], args, []⟩).memory :=
  laidMetH_iff.2 ⟨(LaidIn.of_run [2, 3, 1] 8 (by kernel_rfl) (by kernel_rfl) (by kernel_rfl) (by kernel_rfl)).met, fun x hx => by
    have : laid3.filter (fun x => x.2.handleName?.isSome) = [] := by kernel_rfl
    rw [this] at hx; cases hx⟩

end Go.Proofs.YtcknbmdkefcinaaDoor

/-! PrintAll -/

namespace Go.Proofs.YtcknbmdkefcinaaDoor.printAll
open Go.ChangeShapes Go.WideShapes Go.ChangeAt Go.RowKit Go.Abs
set_option linter.unusedVariables false

theorem walk (w : World) (hL : LaidW w) (x : Pg) (hr : x.rng) (v : Value) (hv : RD (memM w) S0 (.agg (encPg x)) v) : Calls Tryd.prog 3 #[v] w fun e w' => e = .returned (.bool true) ∧ Kept w w' := by
  refine law_run (args := [.agg (encPg x)]) ((printAll_s hr S0).mono fun _ _ h => h.1) rfl ?_ hL
  intro i d v h1 h2
  match i, h1, h2 with
  | 0, h1, h2 => simp at h1 h2; subst h1 h2; exact hv

set_option maxRecDepth 100000 in
theorem lifted (os : Os) (started : os.Started) (H : Type) (enc : TypeId × Value → H) :
    ReturnsInHanded {} Tryd.checked os 3 .any (fun w args => (Rows.printAllSpec.pre enc Tryd.prog Tryd.f3 Rows.printAllRow.domain false w args ∧ laidMetH Tryd.prog laid3 w) ∧ sizedMet enc Tryd.prog Tryd.f3 (OpenSpec.ofChange Rows.printAllSpec) false w args)
      (Rows.printAllSpec.post enc Tryd.prog Tryd.f3 false true false false) := by
  refine returnsInHanded_of_change_and (C := Tryd.checked) (X := fun w _ => laidMetH Tryd.prog laid3 w) (fun _ _ _ hh h => h.of_heap hh) own started (by kernel_rfl) Tryd.func3
    (ChangeSpec.witness_at (enc := enc) (C := Tryd.checked) (os := os) (X := fun w _ => laidMetH Tryd.prog laid3 w) false (laidWorld os) #[.agg #[.slice none 0 0, .slice none 0 0]] 8 rfl (by kernel_rfl) (by kernel_rfl) (by kernel_rfl) (by kernel_rfl) (by kernel_rfl) (laid_met os _)) ?_
  intro W base args ds gs before hval0 hW hcnd _ hL _
  have hval : ∀ (j : Nat) t v, Tryd.f3.params[j]? = some t → args[j]? = some v → Value.okWide Tryd.prog W .any base t v := hval0
  have hW' := hW
  obtain ⟨p, q, hA0, hV, rfl, hfz, hnd⟩ := hW
  have hA : DataW.TrodAll enc Tryd.prog W 0 (fun _ => true) true Tryd.f3.params.toList args.toList ds p := hA0
  rw [Tryd.params3] at hA hval
  obtain ⟨v0, d0, rfl, rfl, hd0⟩ := trodAll_one hA
  obtain ⟨rfl, rfl⟩ := trodVars_none hV
  have hgo : ∃ x : Pg, RD (memM W) S0 (.agg (encPg x)) v0 ∧ x.rng := by
    obtain ⟨fuel, hf⟩ := hd0
    obtain ⟨y, h1, h2⟩ := rdp_pg hf
    obtain ⟨fs, hfs⟩ := structOf_some (P := Tryd.prog) (t := 25) (l := [(22, 0), (23, 1)]) (by kernel_rfl) (by simp)
    obtain ⟨cs, e, _⟩ := okWide_struct hfs (hval 0 25 _ rfl rfl)
    exact ⟨y, h1.agg ⟨cs, e⟩, h2⟩
  obtain ⟨x, hv, hr⟩ := hgo
  refine (walk W (laidW_of hL) x hr v0 hv).mono fun e W' ⟨he, hg⟩ => ?_
  subst he
  exact ⟨_, rfl, law_post kids full (by rw [Tryd.params3]; decide) Tryd.underlying4 (by kernel_rfl) rfl hW' rfl hg⟩

theorem over : Rows.PrintAllSaid :=
  OpenClaim.holds_of_wide 3 Tryd.f3 rfl rfl rfl rfl rfl rfl rfl ⟨rfl, rfl, rfl, rfl, rfl⟩ rfl rfl rfl rfl rfl (by kernel_rfl) Tryd.func3 (by kernel_rfl)
    (of_decide_eq_true (by kernel_rfl)) (by unfold Func.isWrapper; first | (rw [if_pos (by decide +kernel)]; kernel_rfl) | (rw [if_neg (by decide +kernel)]; exact ⟨rfl, rfl⟩))
    (fun os started H enc _ => lifted os started H enc)

theorem proved : Rows.PrintAllCardSaid :=
  Claim7.holds_tied_plain_at .later [] [.data, .data, .data] true (true, "c4602d4ef5bdffa21f560167e243406d26df7374ad6c9b92d056c6ba37991ec5") false
    over (fun _ h => by cases h) (by kernel_rfl) (fun _ h => by cases h) printAll_row_tie rfl ⟨rfl, rfl⟩ (by kernel_rfl) rfl
    (fun f fn hf hfn => by
      obtain rfl : f = 3 := Option.some.inj ((show Tryd.prog.funcNamed "whittler/whittlerlaw5.PrintAll" = some 3 by kernel_rfl).symm.trans hf) |>.symm
      obtain rfl : fn = Tryd.f3 := (Option.some.inj (Tryd.func3.symm.trans hfn)).symm
      exact ⟨by kernel_rfl, fun j t ht => by
        rw [Tryd.params3] at ht
        have h3 : t = 25 := by
          rcases j with _ | j
          · simpa using ht.symm
          · simp at ht
        subst h3
        exact (show Tryd.prog.wantsStandIn 25 = false by kernel_rfl)⟩)
    (by kernel_rfl)
#print axioms proved
end Go.Proofs.YtcknbmdkefcinaaDoor.printAll
