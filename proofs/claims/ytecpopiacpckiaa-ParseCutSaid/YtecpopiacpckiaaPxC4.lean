/-
  What is proved here: the statement ParseCutSaid: whatever the arguments, the law, called, gives true, and of what was there nothing turns.
  No conditions.
-/
import Derived.Test.YtecpopiacpckiaaPxC3
import Derived.RowKit3
import Derived.WalkKit
import Derived.ProofKit
import Derived.OpenShut
import Derived.ShutString
import Derived.ChangeMaps5
import Derived.ChangeStays
import Derived.Test.YtecpopiacpckiaaRows

/-! Cut2 -/

namespace Go.Abs
set_option linter.unusedSimpArgs false
set_option linter.unusedVariables false

section
variable {l l' : List Tok} {N : Nat}

/-- The first row ends behind the place; the second one ends there. -/
structure CutEnv (l l' : List Tok) (N : Nat) (t' : Tok) : Prop where
  env : Env l l' N False
  len : l.length = N + 2
  fin : ∃ e, l[N + 1]? = some e ∧ e.kind = 0
  at' : l'[N]? = some t'
  k0 : t'.kind = 0

variable {t' : Tok}

/-- Told at the end. -/
def Told (t' : Tok) (r : Rd) : Prop := r.code = 3 ∧ r.fat = t'.pos

theorem peek_end (C : CutEnv l l' N t') {r : Rd} (hl : r.l = l) (hi : N < r.i) {t : Tok} (ht : r.peek = some t) : r.i = N + 1 ∧ t.kind = 0 := by
  have h := (peek_get ht).2.1
  rw [hl] at h
  have hlt := (List.getElem?_eq_some_iff.1 h).1
  rw [C.len] at hlt
  have e : r.i = N + 1 := by omega
  obtain ⟨u, h1, h2⟩ := C.fin
  rw [e, h1] at h
  cases h
  exact ⟨e, h2⟩

theorem bad3 {r r1 : Rd} (hg : r.good = true) {t : Tok} (ht : r.peek = some t) (h : r.bad 3 = some r1) : r1.code = 3 ∧ r1.fat = t.pos := by
  unfold Rd.bad at h
  rw [if_pos hg, ht] at h
  cases h
  exact ⟨rfl, rfl⟩

/-- No statement begins where the row ends. -/
theorem stmt_end {m n : Nat} {nest : Int} {r : Rd} (hg : r.good = true) {t : Tok} (ht : r.peek = some t) (hk : t.kind = 0) {p : Sm × Rd} (hp : Rd.stmt m n nest r = some p) : p.2.code = 3 ∧ p.2.fat = t.pos := by
  cases n with
  | zero => simp only [Rd.stmt] at hp; cases hp
  | succ n =>
    have e1 : (t.kind == 1) = false := by simp [hk]
    have e3 : (t.kind != 3) = true := by simp [hk]
    simp only [Rd.stmt, Rd.begins, ht, Option.bind_some, e1, e3, Bool.false_eq_true, ↓reduceIte, Bool.not_false] at hp
    rw [Option.bind_eq_some_iff] at hp
    obtain ⟨r1, h1, hp⟩ := hp
    cases hp
    exact bad3 hg ht h1

theorem rowsL_told {m n : Nat} {nest : Int} {body : Bool} {out : List Sm} {r : Rd} (hc : r.code = 3) {p : (List Sm × List Str) × Rd} (h : Rd.rowsL m n nest body out r = some p) : p.2 = r := by
  cases n with
  | zero => simp only [Rd.rowsL] at h; cases h
  | succ n =>
    have hg : r.good = false := by simp [Rd.good, hc]
    simp only [Rd.rowsL, hg, Bool.false_eq_true, ↓reduceIte] at h
    cases h
    rfl

/-- A row of statements ends behind no end. -/
theorem rowsL_end {m : Nat} (C : CutEnv l l' N t') {n : Nat} {nest : Int} {body : Bool} {out : List Sm} {r : Rd} (hl : r.l = l) (hi : N < r.i) {p : (List Sm × List Str) × Rd} (h : Rd.rowsL m n nest body out r = some p) (hg : p.2.good = true) : False := by
  cases n with
  | zero => simp only [Rd.rowsL] at h; cases h
  | succ n =>
    simp only [Rd.rowsL] at h
    split at h
    · rename_i hr
      rw [Option.bind_eq_some_iff] at h
      obtain ⟨ls, h1, h⟩ := h
      rw [Option.bind_eq_some_iff] at h
      obtain ⟨b, h2, h⟩ := h
      have kl := labels_k m [] r (Keep.refl r) _ h1
      have mono : N < ls.2.i := by
        have : ∀ (n : Nat) (L : List Str) (r : Rd) (p : List Str × Rd), Rd.labels n L r = some p → r.i ≤ p.2.i := by
          intro n
          induction n with
          | zero => intro L r p h; simp only [Rd.labels] at h; cases h
          | succ n ih =>
            intro L r p h
            simp only [Rd.labels] at h
            rw [Option.bind_eq_some_iff] at h
            obtain ⟨b, _, h⟩ := h
            split at h
            · rw [Option.bind_eq_some_iff] at h
              obtain ⟨t, _, h⟩ := h
              rw [Option.bind_eq_some_iff] at h
              obtain ⟨L', _, h⟩ := h
              have := ih _ _ _ h
              dsimp only at this
              omega
            · cases h; exact Nat.le_refl _
        have := this _ _ _ _ h1
        omega
      unfold Rd.is at h2
      rw [Option.bind_eq_some_iff] at h2
      obtain ⟨t, ht, h2⟩ := h2
      obtain ⟨_, hk⟩ := peek_end C (kl.l.trans hl) mono ht
      have hb : b = false := by cases h2; simp [hk]
      subst hb
      simp only [Bool.false_and, Bool.false_eq_true, ↓reduceIte] at h
      rw [Option.bind_eq_some_iff] at h
      obtain ⟨s, h3, h⟩ := h
      rw [Option.bind_eq_some_iff] at h
      obtain ⟨o, _, h⟩ := h
      cases hlg : ls.2.good
      · have hs : s.2.good = false := by
          cases n with
          | zero => simp only [Rd.stmt] at h3; cases h3
          | succ n =>
            have e1 : (t.kind == 1) = false := by simp [hk]
            have e3 : (t.kind != 3) = true := by simp [hk]
            simp only [Rd.stmt, Rd.begins, ht, Option.bind_some, e1, e3, Bool.false_eq_true, ↓reduceIte, Bool.not_false, Rd.bad, hlg, Option.bind_some] at h3
            cases h3; exact hlg
        have := rowsL_bad hs h
        rw [this] at hg; cases hg
      · have h4 := stmt_end hlg ht hk h3
        have := rowsL_told h4.1 h
        rw [this] at hg
        simp [Rd.good, h4.1] at hg
    · rename_i hr
      cases h
      exact hr hg

theorem rowsL_cut (C : CutEnv l l' N t') {m : Nat} : ∀ (n : Nat) (nest : Int) (out : List Sm) (r r' : Rd), Rel2 l l' r r' → r.good = true → r.i ≤ N → ∀ p q, Rd.rowsL m n nest true out r = some p → p.2.good = true → p.2.i = N + 1 →
    Rd.rowsL m n nest true out r' = some q → Told t' q.2 := by
  intro n
  induction n with
  | zero => intro nest out r r' _ _ _ p q h; simp only [Rd.rowsL] at h; cases h
  | succ n ih =>
    intro nest out r r' R hg hi p q h hpg hpi h'
    have hg' : r'.good = true := by simp only [Rd.good, R.ec]; exact hg
    simp only [Rd.rowsL, hg, ↓reduceIte] at h
    simp only [Rd.rowsL, hg', ↓reduceIte] at h'
    rw [Option.bind_eq_some_iff] at h
    obtain ⟨⟨ls, s⟩, h1, h⟩ := h
    rw [Option.bind_eq_some_iff] at h
    obtain ⟨b, h2, h⟩ := h
    have kl := labels_k m [] r (Keep.refl r) _ h1
    obtain ⟨m1, m2, m3⟩ := labels_sim C.env m [] r r' (fun _ => R) _ h1
    dsimp only at m1 m2 m3 kl h2 h
    unfold Rd.is at h2
    rw [Option.bind_eq_some_iff] at h2
    obtain ⟨t, ht, h2⟩ := h2
    have sg : s.good = true := by
      cases hsg : s.good
      · exfalso
        split at h
        · cases h; rw [hsg] at hpg; cases hpg
        · rw [Option.bind_eq_some_iff] at h
          obtain ⟨sv, h3, h⟩ := h
          rw [Option.bind_eq_some_iff] at h
          obtain ⟨o, _, h⟩ := h
          have e : sv.2.good = true → s.good = true := fun g => ((stmts_n n).2.2.1 _ _ _ h3).g g
          have : sv.2.good = false := by
            cases hx : sv.2.good
            · rfl
            · have := e hx; rw [hsg] at this; cases this
          have := rowsL_bad this h
          rw [this] at hpg; cases hpg
      · rfl
    rcases Nat.lt_or_ge N s.i with hsi | hsi
    · -- behind the place
      exfalso
      obtain ⟨_, hk⟩ := peek_end C (kl.l.trans R.el) hsi ht
      have hb : b = false := by cases h2; simp [hk]
      subst hb
      simp only [Bool.false_and, Bool.false_eq_true, ↓reduceIte] at h
      rw [Option.bind_eq_some_iff] at h
      obtain ⟨sv, h3, h⟩ := h
      rw [Option.bind_eq_some_iff] at h
      obtain ⟨o, _, h⟩ := h
      have h4 := stmt_end sg ht hk h3
      have := rowsL_told h4.1 h
      rw [this] at hpg
      simp [Rd.good, h4.1] at hpg
    · obtain ⟨s', e', R'⟩ := m3 (.inr ⟨sg, hsi⟩)
      rw [e', Option.bind_some] at h'
      have sg' : s'.good = true := by simp only [Rd.good, R'.ec]; exact sg
      rcases Nat.lt_or_eq_of_le hsi with hlt | heq
      · -- ahead of the place
        obtain ⟨u, hu, te⟩ := peek_low C.env (r := s) (r' := s') (fun _ => R') (.inr ⟨sg, hsi⟩) (.inr hlt) ht
        have h2' : s'.is [125] = some b := by
          unfold Rd.is
          rw [hu, Option.bind_some, te.k, te.x]
          exact h2
        rw [h2', Option.bind_some] at h'
        cases b
        · simp only [Bool.false_and, Bool.false_eq_true, ↓reduceIte] at h h'
          rw [Option.bind_eq_some_iff] at h
          obtain ⟨⟨sv, s2⟩, h3, h⟩ := h
          rw [Option.bind_eq_some_iff] at h
          obtain ⟨o, h4, h⟩ := h
          obtain ⟨n1, n2, n3⟩ := (stmts_sim C.env n).2.2.1 nest s s' (fun _ => R') _ h3
          have kn := (stmts_n n).2.2.1 _ _ _ h3
          dsimp only at n1 n2 n3 kn h h4
          have s2g : s2.good = true := by
            cases hx : s2.good
            · have := rowsL_bad hx h; rw [this] at hpg; cases hpg
            · rfl
          rcases Nat.lt_or_ge N s2.i with h5 | h5
          · exact (rowsL_end C (kn.l.trans (kl.l.trans R.el)) h5 h hpg).elim
          · obtain ⟨s2', e2, R2⟩ := n3 (.inr ⟨s2g, h5⟩)
            rw [e2, Option.bind_some] at h'
            dsimp only at h'
            rw [h4, Option.bind_some] at h'
            exact ih _ _ _ _ R2 s2g h5 _ _ h hpg hpi h'
        · simp only [Bool.true_or, Bool.and_self, ↓reduceIte] at h
          cases h
          dsimp only at hpi
          omega
      · -- at the place
        have hp' : s'.peek = some t' := by
          have h6 : s'.i < 4611686018427387904 := by rw [R'.ei]; exact (peek_get ht).1
          have h7 : s'.l[s'.i]? = some t' := by rw [R'.el', R'.ei, heq]; exact C.at'
          simp only [Rd.peek, getO_eq h6 h7, Option.bind_some, C.k0]
          rfl
        have h2' : s'.is [125] = some false := by
          unfold Rd.is
          rw [hp', Option.bind_some, C.k0]
          rfl
        rw [h2', Option.bind_some] at h'
        simp only [Bool.false_and, Bool.false_eq_true, ↓reduceIte] at h'
        rw [Option.bind_eq_some_iff] at h'
        obtain ⟨sv, h3, h'⟩ := h'
        rw [Option.bind_eq_some_iff] at h'
        obtain ⟨o, _, h'⟩ := h'
        have h4 := stmt_end sg' hp' C.k0 h3
        have := rowsL_told h4.1 h'
        rw [this]
        exact h4

theorem self_env (l : List Tok) : Env l l 0 True := ⟨fun i t ht _ => ⟨t, ht, rfl, rfl, rfl⟩, fun f => absurd trivial f⟩
theorem self_sr {r : Rd} (hg : r.good = true) : SR r.l r.l 0 True r r := fun _ => ⟨rfl, rfl, rfl, rfl, rfl, .inl (by simpa [Rd.good] using hg)⟩

theorem vars_lk {m : Nat} {r0 : Rd} : ∀ (n : Nat) (l : List Str) (r : Rd), Keep r0 r → Pt (Rd.vars m n l r) (fun p => Keep r0 p.2) := by
  intro n
  induction n with
  | zero => intro l r _; simp only [Rd.vars]; exact Pt.none
  | succ n ih =>
    intro l r h
    simp only [Rd.vars]
    exact (take_k h _).bind fun q hq => Pt.ite (fun _ => (names_k _ _ _ hq).bind fun x hx => ih _ _ hx) fun _ => Pt.some hq

theorem rows_cut (C : CutEnv l l' N t') {m n : Nat} {nest : Int} {r r' : Rd} (R : Rel2 l l' r r') (hg : r.good = true) (hi : r.i ≤ N) {p q : (List Sm × List Str) × Rd} (h : Rd.rows m n nest true r = some p) (hpg : p.2.good = true) (hpi : p.2.i = N + 1)
    (h' : Rd.rows m n nest true r' = some q) : Told t' q.2 := by
  cases n with
  | zero => simp only [Rd.rows] at h; cases h
  | succ n =>
    simp only [Rd.rows] at h h'
    exact rowsL_cut C _ _ _ _ _ R hg hi _ _ h hpg hpi h'

theorem procB_cut (C : CutEnv l l' N t') {m : Nat} {name : Str} {ps : List Pm} {r r' : Rd} (R : Rel2 l l' r r') (hg : r.good = true) (hi : r.i ≤ N) {p q : Pc × Rd} (h : Rd.procB m name ps r = some p) (hpg : p.2.good = true) (hpi : p.2.i = N + 1)
    (h' : Rd.procB m name ps r' = some q) : Told t' q.2 := by
  unfold Rd.procB at h h'
  rw [Option.bind_eq_some_iff] at h
  obtain ⟨⟨v, s⟩, h1, h⟩ := h
  rw [Option.bind_eq_some_iff] at h
  obtain ⟨b, h2, h⟩ := h
  cases h
  dsimp only at hpg hpi h2
  obtain ⟨m1, m2, m3⟩ := vars_sim C.env m [] r r' (fun _ => R) _ h1
  have kv := vars_lk m [] r (Keep.refl r) _ h1
  dsimp only at m1 m2 m3 kv
  have sg : s.good = true := by
    cases m with
    | zero => simp only [Rd.rows] at h2; cases h2
    | succ m =>
      simp only [Rd.rows] at h2
      cases hx : s.good
      · have := rowsL_bad hx h2; rw [this] at hpg; cases hpg
      · rfl
  rcases Nat.lt_or_ge N s.i with h5 | h5
  · exfalso
    cases m with
    | zero => simp only [Rd.rows] at h2; cases h2
    | succ m =>
      simp only [Rd.rows] at h2
      exact rowsL_end C (kv.l.trans R.el) h5 h2 hpg
  · obtain ⟨s', e, R'⟩ := m3 (.inr ⟨sg, h5⟩)
    rw [e, Option.bind_some] at h'
    rw [Option.bind_eq_some_iff] at h'
    obtain ⟨b', h3, h'⟩ := h'
    cases h'
    exact rows_cut C R' sg h5 h2 hpg hpi h3

theorem pre_sim {A : Prop} (E : Env l l' N A) {m : Nat} {r r' : Rd} (h : SR l l' N A r r') : Sim l l' N A r (Rd.pre m r) (Rd.pre m r') := by
  unfold Rd.pre
  refine (name_sim E h _).bind fun a q q' hq => (want_sim E hq (by decide) (by decide)).bind fun u u' hu => ?_
  refine Sim.ask (fun b hb hc => other_sim E hu (by decide) (by decide) hb hc) fun b _ => Sim.ite (fun _ => ?_) fun _ => ?_
  · refine (params_sim E _ _ _ _ hu).bind fun c s s' hs => (want_sim E hs (by decide) (by decide)).bind fun v v' hv => ?_
    exact (want_sim E hv (by decide) (by decide)).bind fun w w' hw => Sim.ret _ hw
  · exact (want_sim E hu (by decide) (by decide)).bind fun v v' hv => (want_sim E hv (by decide) (by decide)).bind fun w w' hw => Sim.ret _ hw

theorem params_lk {r0 : Rd} : ∀ (n : Nat) (l : List Pm) (r : Rd), Keep r0 r → Pt (Rd.params n l r) (fun p => Keep r0 p.2) := by
  intro n
  induction n with
  | zero => intro l r _; simp only [Rd.params]; exact Pt.none
  | succ n ih =>
    intro l r h
    simp only [Rd.params]
    exact Pt.ite (fun _ => (take_k h _).bind fun q hq => (name_k hq _).bind fun x hx => Pt.any fun l => (take_k hx _).bind fun c hc => Pt.ite (fun _ => Pt.some hc) fun _ => ih _ _ hc) fun _ => Pt.some h
theorem pre_k {m : Nat} {r0 r : Rd} (h : Keep r0 r) : Pt (Rd.pre m r) (fun p => Keep r0 p.2) := by
  unfold Rd.pre
  refine (name_k h _).bind fun x hx => (want_k hx _).bind fun r1 h1 => Pt.any fun b => Pt.ite (fun _ => ?_) fun _ => ?_
  · exact (params_lk _ _ _ h1).bind fun q hq => (want_k hq _).bind fun r hr => (want_k hr _).bind fun r hr => Pt.some hr
  · exact (want_k h1 _).bind fun r hr => (want_k hr _).bind fun r hr => Pt.some hr

theorem procB_good {m : Nat} {name : Str} {ps : List Pm} {r : Rd} {p : Pc × Rd} (h : Rd.procB m name ps r = some p) (hg : p.2.good = true) : r.good = true := by
  unfold Rd.procB at h
  rw [Option.bind_eq_some_iff] at h
  obtain ⟨v, h1, h⟩ := h
  rw [Option.bind_eq_some_iff] at h
  obtain ⟨b, h2, h⟩ := h
  cases h
  have kv := vars_lk m [] r (Keep.refl r) _ h1
  refine kv.g ?_
  cases m with
  | zero => simp only [Rd.rows] at h2; cases h2
  | succ m =>
    simp only [Rd.rows] at h2
    cases hx : v.2.good
    · have := rowsL_bad hx h2; rw [this] at hg; cases hg
    · rfl

theorem proc_cut (C : CutEnv l l' N t') {m : Nat} {r r' : Rd} (R : Rel2 l l' r r') (hg : r.good = true) (hi : r.i ≤ N) {p q : Pc × Rd} (h : Rd.proc m r = some p) (hpg : p.2.good = true) (hpi : p.2.i = N + 1)
    (h' : Rd.proc m r' = some q) : Told t' q.2 := by
  rw [proc_pre] at h h'
  rw [Option.bind_eq_some_iff] at h
  obtain ⟨⟨y, s⟩, h1, h⟩ := h
  obtain ⟨m1, m2, m3⟩ := pre_sim C.env (m := m) (r := r) (r' := r') (fun _ => R) _ h1
  have kp := pre_k (Keep.refl r) _ h1
  dsimp only at m1 m2 m3 kp h
  have sg := procB_good h hpg
  rcases Nat.lt_or_ge N s.i with h5 | h5
  · exfalso
    unfold Rd.procB at h
    rw [Option.bind_eq_some_iff] at h
    obtain ⟨v, h2, h⟩ := h
    rw [Option.bind_eq_some_iff] at h
    obtain ⟨b, h3, h⟩ := h
    cases h
    have kv := vars_lk m [] s (Keep.refl s) _ h2
    obtain ⟨a, _, _⟩ := vars_sim (self_env s.l) m [] s s (self_sr sg) _ h2
    cases m with
    | zero => simp only [Rd.rows] at h3; cases h3
    | succ m =>
      simp only [Rd.rows] at h3
      exact rowsL_end C (kv.l.trans (kp.l.trans R.el)) (by omega) h3 hpg
  · obtain ⟨s', e, R'⟩ := m3 (.inr ⟨sg, h5⟩)
    rw [e, Option.bind_some] at h'
    exact procB_cut C R' sg h5 h hpg hpi h'

theorem procs_cut (C : CutEnv l l' N t') {m : Nat} (hu : ∀ u, l[N]? = some u → u.text = [125] ∧ u.kind ≠ 0) : ∀ (n : Nat) (L : List Pc) (r r' : Rd), Rel2 l l' r r' → r.good = true → r.i ≤ N → ∀ p q, Rd.procs m n L r = some p → p.2.good = true → p.2.i = N + 1 →
    Rd.procs m n L r' = some q → Told t' q.2 := by
  intro n
  induction n with
  | zero => intro L r r' _ _ _ p q h; simp only [Rd.procs] at h; cases h
  | succ n ih =>
    intro L r r' R hg hi p q h hpg hpi h'
    have hg' : r'.good = true := by simp only [Rd.good, R.ec]; exact hg
    simp only [Rd.procs, Rd.isProc, Rd.notEnd, hg, ↓reduceIte] at h
    rw [Option.bind_eq_some_iff] at h
    obtain ⟨b, h1, h⟩ := h
    have h1' := h1
    unfold Rd.is at h1
    rw [Option.bind_eq_some_iff] at h1
    obtain ⟨t, ht, h1⟩ := h1
    rcases Nat.lt_or_eq_of_le hi with hlt | heq
    · obtain ⟨u, hu', te⟩ := peek_low C.env (r := r) (r' := r') (fun _ => R) (.inr ⟨hg, hi⟩) (.inr hlt) ht
      have h2' : r'.is [112, 114, 111, 99] = some b := by
        unfold Rd.is
        rw [hu', Option.bind_some, te.k, te.x]
        exact h1
      simp only [Rd.procs, Rd.isProc, Rd.notEnd, hg', ↓reduceIte, h2', Option.bind_some] at h'
      cases b
      · exfalso
        simp only [Bool.false_eq_true, ↓reduceIte, ht, Option.bind_some] at h
        split at h
        · rw [Option.bind_eq_some_iff] at h
          obtain ⟨r2, h5, h⟩ := h
          have := (bad_b r (by decide) _ h5).2
          cases h
          rw [this] at hpg; cases hpg
        · cases h
          dsimp only at hpi
          omega
      · simp only [↓reduceIte] at h h'
        split at h
        · exfalso
          rw [Option.bind_eq_some_iff] at h
          obtain ⟨r2, h5, h⟩ := h
          have := (bad_b r (by decide) _ h5).2
          cases h
          rw [this] at hpg; cases hpg
        · rename_i h16
          rw [if_neg h16] at h'
          rw [Option.bind_eq_some_iff] at h
          obtain ⟨⟨x, s⟩, h3, h⟩ := h
          rw [Option.bind_eq_some_iff] at h
          obtain ⟨L', h4, h⟩ := h
          rw [Option.bind_eq_some_iff] at h'
          obtain ⟨⟨x', s'⟩, h3', h'⟩ := h'
          rw [Option.bind_eq_some_iff] at h'
          obtain ⟨L2, h4', h'⟩ := h'
          dsimp only at h h' h4 h4'
          have sg : s.good = true := by
            cases hx : s.good
            · have := procs_bad hx h; rw [this] at hpg; rw [hx] at hpg; cases hpg
            · rfl
          have R1 : Rel2 l l' { r with i := r.i + 1 } { r' with i := r'.i + 1 } := ⟨R.el, R.el', by dsimp only; rw [R.ei], R.en, R.ec, R.ef⟩
          obtain ⟨m1, m2, m3⟩ := proc_sim C.env (m := m) (r := { r with i := r.i + 1 }) (r' := { r' with i := r'.i + 1 }) (fun _ => R1) _ h3
          dsimp only at m1 m2 m3
          rcases Nat.lt_or_ge N s.i with h5 | h5
          · -- the last one
            have hsl : s.l = l := by
              have := proc_pre m { r with i := r.i + 1 }
              rw [h3] at this
              have h9 := this.symm
              rw [Option.bind_eq_some_iff] at h9
              obtain ⟨y, g1, g2⟩ := h9
              have kp := pre_k (Keep.refl _) _ g1
              unfold Rd.procB at g2
              rw [Option.bind_eq_some_iff] at g2
              obtain ⟨v, g3, g2⟩ := g2
              rw [Option.bind_eq_some_iff] at g2
              obtain ⟨bb, g4, g2⟩ := g2
              cases g2
              have kv := vars_lk m [] _ (Keep.refl _) _ g3
              have kr := ((stmts_n m).1 _ _ _ _ g4).l
              rw [kr, kv.l, kp.l]
              exact R.el
            have hsi : s.i = N + 1 := by
              cases n with
              | zero => simp only [Rd.procs] at h; cases h
              | succ n =>
                simp only [Rd.procs, Rd.isProc, sg, ↓reduceIte] at h
                rw [Option.bind_eq_some_iff] at h
                obtain ⟨b2, g1, h⟩ := h
                unfold Rd.is at g1
                rw [Option.bind_eq_some_iff] at g1
                obtain ⟨v, g2, g1⟩ := g1
                exact (peek_end C hsl h5 g2).1
            have told := proc_cut C (m := m) R1 hg hlt h3 sg hsi h3'
            have : s'.good = false := by
              have hc := told.1
              dsimp only at hc
              simp [Rd.good, hc]
            have := procs_bad this h'
            rw [this]
            exact told
          · obtain ⟨s2, e2, R2⟩ := m3 (.inr ⟨sg, h5⟩)
            rw [e2] at h3'
            cases h3'
            rw [h4] at h4'
            cases h4'
            exact ih _ _ _ R2 sg h5 _ _ h hpg hpi h'
    · exfalso
      have := (peek_get ht).2.1
      rw [R.el, heq] at this
      obtain ⟨hu1, hu2⟩ := hu t this
      have hb : b = false := by
        cases h1
        rw [hu1]
        have : (([125] : Str) == [112, 114, 111, 99]) = false := by decide
        simp [this]
      subst hb
      have hk : (t.kind != 0) = true := by simpa using hu2
      simp only [Bool.false_eq_true, ↓reduceIte, ht, Option.bind_some, hk] at h
      rw [Option.bind_eq_some_iff] at h
      obtain ⟨r2, h5, h⟩ := h
      have := (bad_b r (by decide) _ h5).2
      cases h
      rw [this] at hpg; cases hpg

theorem globals_lk {m : Nat} {r0 : Rd} : ∀ (n : Nat) (l : List Str) (r : Rd), Keep r0 r → Pt (Rd.globals m n l r) (fun p => Keep r0 p.2) := by
  intro n
  induction n with
  | zero => intro l r _; simp only [Rd.globals]; exact Pt.none
  | succ n ih =>
    intro l r h
    simp only [Rd.globals]
    exact (take_k h _).bind fun q hq => Pt.ite (fun _ => (names_k _ _ _ hq).bind fun x hx => ih _ _ hx) fun _ => Pt.some hq

theorem program_cut (C : CutEnv l l' N t') {m : Nat} (hu : ∀ u, l[N]? = some u → u.text = [125] ∧ u.kind ≠ 0) {r r' : Rd} (R : Rel2 l l' r r') (hg : r.good = true) (hi : r.i = 0) {p q : Pg × Rd} (h : Rd.program m r = some p) (hpg : p.2.good = true) (hpi : p.2.i = N + 1) (hne : p.1.procs ≠ [])
    (h' : Rd.program m r' = some q) : Told t' q.2 := by
  unfold Rd.program at h h'
  rw [Option.bind_eq_some_iff] at h
  obtain ⟨⟨g, s⟩, h1, h⟩ := h
  rw [Option.bind_eq_some_iff] at h
  obtain ⟨⟨ps, s2⟩, h2, h⟩ := h
  cases h
  dsimp only at hpg hpi hne h2
  obtain ⟨m1, m2, m3⟩ := globals_sim C.env m [] r r' (fun _ => R) _ h1
  have kg := globals_lk m [] r (Keep.refl r) _ h1
  dsimp only at m1 m2 m3 kg
  have sg : s.good = true := by
    cases hx : s.good
    · have := procs_bad hx h2
      cases this
      rw [hx] at hpg; cases hpg
    · rfl
  rcases Nat.lt_or_ge N s.i with h5 | h5
  · exfalso
    cases m with
    | zero => simp only [Rd.procs] at h2; cases h2
    | succ m =>
      simp only [Rd.procs, Rd.isProc, Rd.notEnd, sg, ↓reduceIte] at h2
      rw [Option.bind_eq_some_iff] at h2
      obtain ⟨b, g1, h2⟩ := h2
      unfold Rd.is at g1
      rw [Option.bind_eq_some_iff] at g1
      obtain ⟨v, g2, g1⟩ := g1
      have hk := (peek_end C (kg.l.trans R.el) h5 g2).2
      have hb : b = false := by cases g1; simp [hk]
      subst hb
      have hk0 : (v.kind != 0) = false := by simp [hk]
      simp only [Bool.false_eq_true, ↓reduceIte, g2, Option.bind_some, hk0] at h2
      cases h2
      exact hne rfl
  · obtain ⟨s', e, R'⟩ := m3 (.inr ⟨sg, h5⟩)
    rw [e, Option.bind_some] at h'
    rw [Option.bind_eq_some_iff] at h'
    obtain ⟨q2, h3, h'⟩ := h'
    cases h'
    exact procs_cut C hu _ _ _ _ R' sg h5 _ _ h2 hpg hpi h3

end
end Go.Abs

/-! Glue2 -/

namespace Go.Abs

def M0 : Map := ⟨fun _ _ => none, fun _ => 0, fun _ => none⟩

/-- Of what was there nothing turns. -/
def Kept (w w' : World) : Prop := w.keptBut w' (fun _ => False) ∧ ∀ a : Addr, a.block < w.heap.size → w'.frozen? a = w.frozen? a

theorem Kept.frame {w w' : World} (h : Kept w w') (may : MemPlace → Prop) : w.keptBut w' may := World.keptBut_mono (fun _ f => f.elim) h.1

theorem Ext.toKept {M M' : Map} {s' : St} {w w' : World} (e : Ext M S0 w M' s' w') : Kept w w' := by
  have hh : ∀ b, b < w.heap.size → w'.heap[b]? = w.heap[b]? := fun b hb =>
    e.kept b hb (fun o ho => by simp [S0] at ho) (fun t c z hl => by obtain ⟨n, hn⟩ := hl; simp [S0] at hn)
  refine ⟨⟨e.os, e.output, fun i hi => ?_⟩, fun a ha => ?_⟩
  · rw [hh i hi]
    exact (World.keptBut_refl w (fun _ => False)).2.2 i hi
  · simp only [World.frozen?, hh _ ha]

theorem rel0 (G : Nat → Nat → Option Value) (w : World) (h : ∀ b o v, G b o = some v → w.cell? ⟨b, o, none⟩ = some v ∧ v.oneCell' = true) : Rel ⟨G, fun _ => 0, fun _ => none⟩ S0 w :=
  ⟨h, fun o ds e => by simp [S0] at e, fun o ho => by simp [S0] at ho, fun o o' ho => by simp [S0] at ho, fun t n e => by simp [S0] at e,
    fun t b c z o hl => by obtain ⟨n, hn⟩ := hl; simp [S0] at hn, fun t t' b c z c' z' hl => by obtain ⟨n, hn⟩ := hl; simp [S0] at hn⟩

/-- A law is called. -/
theorem law_calls {P : Program} {f : FuncId} {args : List D} {vargs : Array Value} {w : World} {G : Nat → Nat → Option Value} (h : ACalls P f args S0 fun d _ => d = .bool true)
    (hG : ∀ b o v, G b o = some v → w.cell? ⟨b, o, none⟩ = some v ∧ v.oneCell' = true) (hl : vargs.size = args.length)
    (ha : ∀ (i : Nat) (d : D) (v : Value), args[i]? = some d → vargs[i]? = some v → RD ⟨G, fun _ => 0, fun _ => none⟩ S0 d v) :
    Calls P f vargs w fun e w' => e = .returned (.bool true) ∧ Kept w w' := by
  refine (h _ w vargs (rel0 G w hG) hl ha).mono fun e w' hw => ?_
  obtain ⟨M', d, v, s', rfl, rfl, he, _, hv⟩ := hw
  rw [hv.bool_inv]
  exact ⟨rfl, he.toKept⟩

section
variable {P : Program} {H : Type} {enc : TypeId × Value → H}

/-- The row's closing condition, where nothing turns of what was there. -/
theorem post_of_kept {f : Func} {s : ChangeSpec} {apart fresh handsOn again : Bool} {W W' : World} {args : Array Value} {v : Value} {ds gs : List (DataW H)} {before pa pv : List MemPlace}
    (hW : DataW.Whole enc P f.params.toList s.vars apart W args.toList ds gs before)
    (hres : ∀ (b : Nat) (sp : Nat → Bool) (hd : Bool), DataW.TrodAll enc P W' b sp hd f.resultTypes.toList (v.resultList f.resultTypes.size) (s.fn H (ds ++ gs)).results [])
    (hargs : ∀ sp : Nat → Bool, (∀ p ∈ before, sp p.block = true) → DataW.TrodAll enc P W' 0 sp true f.params.toList args.toList (s.fn H (ds ++ gs)).args pa)
    (hvars : ∀ sp : Nat → Bool, (∀ p ∈ before, sp p.block = true) → DataW.TrodVars enc P W' sp s.vars (s.fn H (ds ++ gs)).vars pv)
    (hps : before = pa ++ pv) (hk : Kept W W')
    (hok : ∀ (j : Nat) (t : TypeId) (r : Value), f.resultTypes[j]? = some t → (v.resultList f.resultTypes.size)[j]? = some r → Value.okWide P W' .any 0 t r) :
    s.post enc P f apart fresh handsOn again W args v W' := by
  have hlt : ∀ p ∈ before, p.block < W.heap.size := fun p hp => hW.lt p hp
  have hold : ∀ p ∈ before, (fun b => decide (b < W.heap.size)) p.block = true := fun p hp => by simpa using hlt p hp
  refine ⟨ds, gs, before, [], pa, pv, hW, hres _ _ _, hargs _ hold, hvars _ hold, World.keptBut_mono (fun p hp => ⟨hp, ?_⟩) (hk.frame (· ∈ before)), fun _ => ?_⟩
  · rw [hps, List.mem_append] at hp
    exact Or.inr hp
  · obtain ⟨_, _, _, _, _, hz, hn⟩ := hW
    refine ⟨hok, _, _, ([] ++ pa) ++ pv, ⟨[] ++ pa, pv, ChangeShapes.trodAll_append (hargs _ (fun _ _ => rfl)) (hres _ _ _), hvars _ (fun _ _ => rfl), rfl, ?_, ?_⟩, ?_⟩
    · intro b off hp
      have hp' : MemPlace.cell b off ∈ before := by rw [hps]; simpa using hp
      rw [hk.2 _ (hlt _ hp')]
      exact hz b off hp'
    · intro ha
      have := hn ha
      rw [hps] at this
      simpa using this
    · intro p hp _
      rw [hps]
      simpa using hp
end
end Go.Abs

/-! Join -/

namespace Go.Abs
open Go.RowKit Go.ChangeShapes Go.WideShapes

/-- All that can be read. -/
def memG (w : World) (b o : Nat) : Option Value :=
  match w.cell? ⟨b, o, none⟩ with
  | some v => if v.oneCell' = true then some v else none
  | none => none
theorem memG_ok {w : World} (b o : Nat) (v : Value) (h : memG w b o = some v) : w.cell? ⟨b, o, none⟩ = some v ∧ v.oneCell' = true := by
  unfold memG at h
  split at h
  · split at h
    · cases h; exact ⟨‹_›, ‹_›⟩
    · cases h
  · cases h
/-- All of it is fixed. -/
def memM (w : World) : Map := ⟨memG w, fun _ => 0, fun _ => none⟩

theorem Kept.sameAt {w w' : World} (h : Kept w w') {p : MemPlace} (hp : p.block < w.heap.size) : w.sameAt w' p := by
  have hk := h.1.2.2 p.block hp
  cases p with
  | cell b off =>
    simp only [MemPlace.block] at hk hp
    simp only [World.sameAt, World.cell?]
    split at hk
    · rename_i c t fr c' t' fr' e e'
      rw [e, e']
      simp only [hk.2.2.2 off (fun f => f)]
    · rename_i es clock es' clock' e e'
      rw [e, e']
    · rw [hk]
  | map b =>
    simp only [MemPlace.block] at hk hp
    simp only [World.sameAt]
    split at hk
    · rename_i c t fr c' t' fr' e e'
      rw [e, e']
      obtain ⟨rfl, rfl, hs, hc⟩ := hk
      have : c' = c := by
        apply Array.ext_getElem?
        intro i
        exact hc i (fun f => f)
      rw [this]
    · rename_i es clock es' clock' e e'
      rcases hk with f | ⟨rfl, rfl⟩
      · exact f.elim
      · rw [e, e']
    · exact hk

section
variable {P : Program} {H : Type} {enc : TypeId × Value → H} {T : TypeId → Prop}

theorem args_again (K : Kids P T) (hz : ∀ {t e : TypeId}, T t → P.underlying t = some (.slice e) → 0 < P.cellsOf e) {W W' : World} (hk : Kept W W') {sp : Nat → Bool} :
    ∀ {ts : List TypeId} {vs : List Value} {ds : List (DataW H)} {ps : List MemPlace}, (∀ t ∈ ts, T t) → (∀ p ∈ ps, p.block < W.heap.size) → (∀ p ∈ ps, sp p.block = true) →
      DataW.TrodAll enc P W 0 (fun _ => true) true ts vs ds ps → DataW.TrodAll enc P W' 0 sp true ts vs ds ps
  | [], [], [], _, _, _, _, h => h
  | t :: ts, v :: vs, d :: ds, ps, hT, hlt, hs, ⟨p, q, ⟨n, h1⟩, h2, e⟩ => by
    subst e
    refine ⟨p, q, ⟨n, DataW.trod_stays K hz (fun f => by cases f) (hT t (List.mem_cons_self ..)) h1 (fun x hx => hk.sameAt (hlt x (List.mem_append_left _ hx))) (fun x hx => hs x (List.mem_append_left _ hx))⟩, ?_, rfl⟩
    exact args_again K hz hk (fun t ht => hT t (List.mem_cons_of_mem _ ht)) (fun x hx => hlt x (List.mem_append_right _ hx)) (fun x hx => hs x (List.mem_append_right _ hx)) h2
  | [], [], _ :: _, _, _, _, _, h => h.elim
  | [], _ :: _, _, _, _, _, _, h => h.elim
  | _ :: _, [], _, _, _, _, _, h => h.elim
  | _ :: _, _ :: _, [], _, _, _, _, h => h.elim

/-- The row's closing condition. -/
theorem law_post (K : Kids P T) (hz : ∀ {t e : TypeId}, T t → P.underlying t = some (.slice e) → 0 < P.cellsOf e) {f : Func} {s : ChangeSpec} {apart fresh handsOn again : Bool} {tb : TypeId} {W W' : World} {args : Array Value} {ds gs : List (DataW H)} {before : List MemPlace}
    (hT : ∀ t ∈ f.params.toList, T t) (hb : P.underlying tb = some .bool) (hr : f.resultTypes = #[tb]) (hvars : s.vars = []) (hW : DataW.Whole enc P f.params.toList s.vars apart W args.toList ds gs before)
    (hfn : s.fn H (ds ++ gs) = { results := [.lit (.bool true)], args := ds }) (hk : Kept W W') : s.post enc P f apart fresh handsOn again W args (.bool true) W' := by
  have hW' := hW
  have hlt : ∀ p ∈ before, p.block < W.heap.size := fun p hp => hW.lt p hp
  obtain ⟨p, q, hA, hV, rfl, hfz, hnd⟩ := hW
  rw [hvars] at hV
  obtain ⟨rfl, rfl⟩ := trodVars_none hV
  simp only [List.append_nil] at hlt hfn
  refine post_of_kept (pa := p) (pv := []) hW' (fun b sp hd => ?_) (fun sp hsp => ?_) (fun sp hsp => ?_) rfl hk (ok_one hr rfl (okWide_bool_mk hb _))
  · rw [List.append_nil, hfn, hr]
    exact trodAll_cons_mk (shut_bool hb _) trodAll_mk0
  · rw [List.append_nil, hfn]
    simp only [List.append_nil] at hsp
    exact args_again K hz hk hT hlt hsp hA
  · rw [List.append_nil, hfn, hvars]
    rfl

/-- A law is called with arguments that can be read. -/
theorem law_run {f : FuncId} {args : List D} {vargs : Array Value} {w : World} (h : ACalls P f args S0 fun d _ => d = .bool true) (hl : vargs.size = args.length)
    (ha : ∀ (i : Nat) (d : D) (v : Value), args[i]? = some d → vargs[i]? = some v → RD (memM w) S0 d v) : Calls P f vargs w fun e w' => e = .returned (.bool true) ∧ Kept w w' :=
  law_calls (G := memG w) h memG_ok hl ha
end

end Go.Abs

/-! LawCut -/

namespace Go.Abs

set_option maxRecDepth 8000
set_option linter.unusedSimpArgs false
set_option linter.unusedVariables false
open Go.Proofs

theorem tokE_k {pos : Nat} {s : Str} {t : Tok} (h : tokE pos s = .inl t) : 1 ≤ t.kind ∧ t.kind ≤ 4 ∧ (t.kind = 3 → isWord t.text = true) := by
  cases s with
  | nil => simp only [tokE] at h; cases h
  | cons c r =>
    simp only [tokE] at h
    split at h
    · split at h
      · cases h
      · cases h
        dsimp only
        cases hw : isWord ((c :: r).take (runL (c :: r)))
        · simp
        · simp
    · split at h
      · split at h
        · cases h
        · split at h
          · cases h; simp
          · cases h
      · split at h
        · cases h
        · cases h; simp
theorem Lx.kinds {pos : Nat} {s : Str} {l : List Tok} (h : Lx pos s l) : ∀ t ∈ l, 1 ≤ t.kind ∧ t.kind ≤ 4 ∧ (t.kind = 3 → isWord t.text = true) := by
  induction h with
  | nil => simp
  | blank pos c r l h k ih => exact ih
  | rem pos c r l h h2 k ih => exact ih
  | tok pos c r t l h h2 ht k ih =>
    intro u hu
    rcases List.mem_cons.1 hu with rfl | hu
    · exact tokE_k ht
    · exact ih u hu

theorem parseM_ok {m : Nat} {text : Str} {p : Pg} {fat : Int} (h : parseM m text = some (p, 0, fat)) :
    ∃ (l : List Tok) (P : Pg × Rd), Lx 0 text l ∧ text.length ≤ 100000 ∧ l.length ≤ 2000 ∧ lexAll text = (l ++ [tEnd text.length], 0, 0) ∧ Rd.program m (rd0 (l ++ [tEnd text.length])) = some P ∧ P.2.code = 0 ∧ p = P.1.number ∧ P.1.size < 1073741824 ∧ fat = 0 := by
  unfold parseM at h
  split at h
  · rename_i hc
    simp only [Option.some.injEq, Prod.mk.injEq] at h
    have h2 := congrArg Prod.fst h.2
    dsimp only at h2
    simp only [bne_iff_ne, ne_eq] at hc
    exact absurd h2 hc
  · rename_i hc
    have h0 : (lexAll text).2.1 = 0 := by simpa using hc
    obtain ⟨l, hl, h1, h2, e⟩ := Lx_lexAll h0
    rw [e] at h
    rw [Option.bind_eq_some_iff] at h
    obtain ⟨P, hP, h⟩ := h
    split at h
    · rename_i hc2
      simp only [Option.some.injEq, Prod.mk.injEq] at h
      simp only [bne_iff_ne, ne_eq] at hc2
      exact absurd h.2.1 hc2
    · rename_i hc2
      rw [Option.bind_eq_some_iff] at h
      obtain ⟨q, h3, h⟩ := h
      unfold Pg.numberO at h3
      split at h3
      · cases h3
        cases h
        exact ⟨l, P, hl, h1, h2, e, hP, by simpa using hc2, rfl, ‹_›, rfl⟩
      · cases h3

theorem cut_law {text : Str} {p : Pg} {fat : Int} (h : parseM fuelM text = some (p, 0, fat)) (hne : p.procs ≠ []) :
    ∃ (l1 : List Tok) (u : Tok) (cut : Nat), lexAll text = (l1 ++ [u, tEnd text.length], 0, 0) ∧ l1.length ≤ 2000 ∧ u.pos = (cut : Int) ∧ cut ≤ text.length ∧ u.text = [125] ∧ parseM fuelM (text.take cut) = some (pg0, 3, (cut : Int)) := by
  obtain ⟨l, P, hl, hlen, hl2, e, hP, hcode, hp, _, _⟩ := parseM_ok h
  have hPg : P.2.good = true := by simp [Rd.good, hcode]
  have hPne : P.1.procs ≠ [] := by
    intro hh
    apply hne
    rw [hp]
    simp only [Pg.number, hh, Pc.nums]
  have h0g : (rd0 (l ++ [tEnd text.length])).good = true := rfl
  have hPl : P.2.l = l ++ [tEnd text.length] := by
    obtain ⟨_, _, m3⟩ := program_all (self_env _) (self_sr h0g) _ hP
    obtain ⟨q', _, R⟩ := m3 (.inl trivial)
    exact R.el
  have hlast : Brace P.2 ∧ ∃ t, P.2.peek = some t ∧ t.kind = 0 := by
    have hP2 := hP
    unfold Rd.program at hP2
    rw [Option.bind_eq_some_iff] at hP2
    obtain ⟨g, _, hP2⟩ := hP2
    rw [Option.bind_eq_some_iff] at hP2
    obtain ⟨q, h2, hP2⟩ := hP2
    cases hP2
    exact procs_last _ _ _ _ h2 hPg hPne
  obtain ⟨⟨u, hu, huk, hux, hi0⟩, t, ht, htk⟩ := hlast
  have hkinds := hl.kinds
  have hi : P.2.i = l.length := by
    have := (peek_get ht).2.1
    rw [hPl] at this
    have hlt := (List.getElem?_eq_some_iff.1 this).1
    simp only [List.length_append, List.length_cons, List.length_nil] at hlt
    rcases Nat.lt_or_ge P.2.i l.length with h5 | h5
    · rw [List.getElem?_append_left h5] at this
      have := (hkinds t (List.mem_of_getElem? this)).1
      omega
    · omega
  rw [hPl, hi] at hu
  rw [hi] at hi0
  rw [List.getElem?_append_left (by omega)] at hu
  have hul := List.mem_of_getElem? hu
  obtain ⟨l1, rfl⟩ : ∃ l1, l = l1 ++ [u] := by
    refine ⟨l.dropLast, ?_⟩
    have hne : l ≠ [] := by intro h; rw [h] at hi0; simp at hi0
    have e1 : l.getLast hne = u := by
      rw [List.getLast_eq_getElem]
      exact (List.getElem?_eq_some_iff.1 hu).2
    rw [← e1, List.dropLast_concat_getLast]
  have hk4 : u.kind = 4 := by
    obtain ⟨_, _, hw⟩ := hkinds u hul
    simp only [Bool.or_eq_true, beq_iff_eq] at huk
    rcases huk with hk | hk
    · exfalso
      have := hw hk
      rw [hux] at this
      exact absurd this (by decide)
    · exact hk
  have hpos := hl.pos.1 u hul
  obtain ⟨cut, hcut⟩ : ∃ cut : Nat, u.pos = (cut : Int) := ⟨u.pos.toNat, by omega⟩
  have hcl : cut < text.length := by omega
  have hLx : Lx 0 (text.take cut) l1 := hl.cut (k := cut) rfl (by rw [hcut]; simp)
  have htl : (text.take cut).length = cut := by rw [List.length_take]; omega
  have e2 := lexAll_Lx hLx (by rw [htl]; omega) (by simp only [List.length_append, List.length_cons, List.length_nil] at hl2; omega)
  rw [htl] at e2
  refine ⟨l1, u, cut, by rw [e]; simp, by simp only [List.length_append, List.length_cons, List.length_nil] at hl2; omega, hcut, by omega, hux, ?_⟩
  have C : CutEnv (l1 ++ [u] ++ [tEnd text.length]) (l1 ++ [tEnd cut]) l1.length (tEnd cut) := by
    refine ⟨⟨fun i v hv hh => ?_, fun _ => ⟨u, tEnd cut, by simp, by simp, .inr ⟨hk4, hux⟩, .inl rfl⟩⟩, by simp, ⟨tEnd text.length, by simp, rfl⟩, by simp, rfl⟩
    rcases hh with hh | hh
    · exact hh.elim
    · rw [List.append_assoc, List.getElem?_append_left hh] at hv
      rw [List.getElem?_append_left hh]
      exact ⟨v, hv, rfl, rfl, rfl⟩
  obtain ⟨X, hX, _⟩ := parseM_t (text.take cut)
  rw [hX]
  unfold parseM at hX
  rw [e2] at hX
  have hn0 : ((0 : Int) != 0) = false := rfl
  simp only [hn0, Bool.false_eq_true, ↓reduceIte] at hX
  rw [Option.bind_eq_some_iff] at hX
  obtain ⟨q, hq, hX⟩ := hX
  have told := program_cut C (by intro v hv; simp at hv; subst hv; exact ⟨hux, by omega⟩) (r := rd0 (l1 ++ [u] ++ [tEnd text.length])) (r' := rd0 (l1 ++ [tEnd cut])) ⟨rfl, rfl, rfl, rfl, rfl, .inl rfl⟩ rfl rfl hP hPg (by rw [hi]; simp) hPne hq
  have h3 : (q.2.code != 0) = true := by rw [told.1]; rfl
  simp only [h3, ↓reduceIte] at hX
  cases hX
  rw [told.1, told.2]
  rfl

theorem ParseCut_true (text : Str) : Fun Try.prog n_law4_ParseCut [.str text] S0 (.bool true) S0 := by
  obtain ⟨⟨p, c, fat⟩, h, hsz⟩ := parseM_t (cutM text)
  have h1 := fun s => Parse_s h (cutM_len text) s
  have hlex := fun s => all_s (cutM text) (cutM_len text) s
  have hcut := fun s => Cut_s text s
  have hcl : (cutM text).length ≤ 100100 := by unfold cutM; simp only [List.length_take]; omega
  generalize cutM text = T at *
  dsimp only at h1 hsz
  unfold S0
  cases hc : c != 0
  · have hc0 : c = 0 := by simpa using hc
    subst hc0
    cases hpr : p.procs with
    | nil =>
      have e1 : (((p.procs.length : Nat) : Int) == 0) = true := by rw [hpr]; rfl
      clear h
      refine Fun.go has_law4_ParseCut rfl fun B Q hB hQ => ?_
      have hlt : 0 < 1 := Nat.zero_lt_one
      have hget : 0 < 1 := Nat.zero_lt_one
      have hpu : 0 < 1 := Nat.zero_lt_one
      have hinc : 0 < 1 := Nat.zero_lt_one
      repeat' (first
 | simp only [go_sem, hlt, hget, hpu, hinc, Int.reduceLE, ↓reduceIte, reduceCtorEq, Nat.reduceEqDiff, Nat.reduceLeDiff, Nat.reduceAdd, Nat.reduceMul, Nat.reduceSub, Nat.reduceLT, hc, e1]
 | (with_reducible refine CU (parsed_0 _) ?_)
 | (with_reducible refine CU (hcut _) ?_)
 | (with_reducible refine CU (hlex _) ?_)
 | (with_reducible refine CU (h1 _) ?_)
 | (with_reducible first | refine CB_ofT (by assumption) fun hc => ?_ | refine CB_ofF (by assumption) fun hc => ?_ | refine CB_split (fun hc => ?_) fun hc => ?_) <;> (try simp only [hc, bs, ↓reduceIte] at h) <;> (try simp only [hc])
 | ((with_reducible first | refine leafR hQ ?_ | refine leafN hQ ?_); (try cases h); simp only [resL, oneD, Option.some.injEq, exists_eq_left', go_sem, hlt, hget, hpu, hinc, Int.reduceLE, ↓reduceIte, reduceCtorEq, Nat.reduceEqDiff, Nat.reduceLeDiff, Nat.reduceAdd, Nat.reduceMul, Nat.reduceSub, Nat.reduceLT, hc, e1]; repeat' (first | exact Ok.out | with_reducible refine And.intro ?_ ?_ | (simp; done)))
 | (cases h; replace h := hr; clear hr; (try simp only [bs, ↓reduceIte] at h))
 | (cases h; done))
    | cons f rest =>
      have hne : p.procs ≠ [] := by rw [hpr]; simp
      have e1 : (((p.procs.length : Nat) : Int) == 0) = false := by rw [hpr]; simp; omega
      obtain ⟨l1, u, cut, hL, hl1, hpos, hcle, hux, hp2⟩ := cut_law h hne
      have h2 := fun s => Parse_s hp2 (by simp only [List.length_take]; omega) s
      have h3 := fun s => Eq_s (a := pg0) (b := pg0) (Nat.lt_of_lt_of_le (Nat.le_of_ble_eq_true (by kernel_rfl : Nat.ble (pg0.size + 1) 1000 = true)) (Nat.le_of_ble_eq_true rfl)) s
      rw [Pg.beq_refl] at h3
      simp only [pg0, mkPg, List.map_nil] at h2 h3
      obtain ⟨L, hLL⟩ : ∃ L, L = l1 ++ [u, tEnd T.length] := ⟨_, rfl⟩
      rw [hL, ← hLL] at hlex
      have hlenL : L.length = l1.length + 2 := by rw [hLL]; simp
      have hget : L[l1.length]? = some u := by rw [hLL]; simp
      have w1 : IntKind.wrap .i64 (((l1.length + 2 : Nat) : Int) - 2) = (l1.length : Int) := by rw [wrap_ok] <;> omega
      have d1 : decide (((l1.length + 2 : Nat) : Int) < 2) = false := by simp; omega
      have d2 : decide ((cut : Int) < 0) = false := by simp
      have d3 : decide ((cut : Int) > (T.length : Int)) = false := by simp; omega
      have d4 : ((cut : Int) ≤ (T.length : Int)) = True := by simp; omega
      have e33 : ((3 : Int) == 3) = true := rfl
      have eu : (u.text == [125]) = true := by rw [hux]; rfl
      have ecc : ((cut : Int) == (cut : Int)) = true := by simp
      clear h hL hLL
      have hlt : 0 < 1 := Nat.zero_lt_one
      refine Fun.go has_law4_ParseCut rfl fun B Q hB hQ => ?_
      have hpu : 0 < 1 := Nat.zero_lt_one
      have hinc : 0 < 1 := Nat.zero_lt_one
      repeat' (first
 | simp only [go_sem, hlt, hget, hpu, hinc, Int.reduceLE, ↓reduceIte, reduceCtorEq, Nat.reduceEqDiff, Nat.reduceLeDiff, Nat.reduceAdd, Nat.reduceMul, Nat.reduceSub, Nat.reduceLT, hc, e1, hlenL, w1, d1, d2, d3, hpos, d4, eu, ecc, e33]
 | (with_reducible refine CU (parsed_0 _) ?_)
 | (with_reducible refine CU (hcut _) ?_)
 | (with_reducible refine CU (hlex _) ?_)
 | (with_reducible refine CU (h1 _) ?_)
 | (with_reducible refine CU (h2 _) ?_)
 | (with_reducible first | refine CB_ofT (by assumption) fun hc => ?_ | refine CB_ofF (by assumption) fun hc => ?_ | refine CB_split (fun hc => ?_) fun hc => ?_) <;> (try simp only [hc, bs, ↓reduceIte] at h) <;> (try simp only [hc])
 | ((with_reducible first | refine leafR hQ ?_ | refine leafN hQ ?_); (try cases h); simp only [resL, oneD, Option.some.injEq, exists_eq_left', go_sem, hlt, hget, hpu, hinc, Int.reduceLE, ↓reduceIte, reduceCtorEq, Nat.reduceEqDiff, Nat.reduceLeDiff, Nat.reduceAdd, Nat.reduceMul, Nat.reduceSub, Nat.reduceLT, hc, e1, hlenL, w1, d1, d2, d3, hpos, d4, eu, ecc, e33]; repeat' (first | exact Ok.out | with_reducible refine And.intro ?_ ?_ | (simp; done)))
 | (cases h; replace h := hr; clear hr; (try simp only [bs, ↓reduceIte] at h))
 | (cases h; done))
      refine CL.useW (h3 _) Ok.out ?_
      repeat' (first
 | simp only [go_sem, hlt, hget, hpu, hinc, Int.reduceLE, ↓reduceIte, reduceCtorEq, Nat.reduceEqDiff, Nat.reduceLeDiff, Nat.reduceAdd, Nat.reduceMul, Nat.reduceSub, Nat.reduceLT]
 | (with_reducible first | refine CB_ofT (by assumption) fun hc => ?_ | refine CB_ofF (by assumption) fun hc => ?_ | refine CB_split (fun hc => ?_) fun hc => ?_) <;> (try simp only [hc, bs, ↓reduceIte] at h) <;> (try simp only [hc])
 | ((with_reducible first | refine leafR hQ ?_ | refine leafN hQ ?_); (try cases h); simp only [resL, oneD, Option.some.injEq, exists_eq_left', go_sem, hlt, hget, hpu, hinc, Int.reduceLE, ↓reduceIte, reduceCtorEq, Nat.reduceEqDiff, Nat.reduceLeDiff, Nat.reduceAdd, Nat.reduceMul, Nat.reduceSub, Nat.reduceLT]; repeat' (first | exact Ok.out | with_reducible refine And.intro ?_ ?_ | (simp; done)))
 | (cases h; replace h := hr; clear hr; (try simp only [bs, ↓reduceIte] at h))
 | (cases h; done))
  · clear h
    refine Fun.go has_law4_ParseCut rfl fun B Q hB hQ => ?_
    have hlt : 0 < 1 := Nat.zero_lt_one
    have hget : 0 < 1 := Nat.zero_lt_one
    have hpu : 0 < 1 := Nat.zero_lt_one
    have hinc : 0 < 1 := Nat.zero_lt_one
    repeat' (first
 | simp only [go_sem, hlt, hget, hpu, hinc, Int.reduceLE, ↓reduceIte, reduceCtorEq, Nat.reduceEqDiff, Nat.reduceLeDiff, Nat.reduceAdd, Nat.reduceMul, Nat.reduceSub, Nat.reduceLT, hc]
 | (with_reducible refine CU (parsed_0 _) ?_)
 | (with_reducible refine CU (hcut _) ?_)
 | (with_reducible refine CU (hlex _) ?_)
 | (with_reducible refine CU (h1 _) ?_)
 | (with_reducible first | refine CB_ofT (by assumption) fun hc => ?_ | refine CB_ofF (by assumption) fun hc => ?_ | refine CB_split (fun hc => ?_) fun hc => ?_) <;> (try simp only [hc, bs, ↓reduceIte] at h) <;> (try simp only [hc])
 | ((with_reducible first | refine leafR hQ ?_ | refine leafN hQ ?_); (try cases h); simp only [resL, oneD, Option.some.injEq, exists_eq_left', go_sem, hlt, hget, hpu, hinc, Int.reduceLE, ↓reduceIte, reduceCtorEq, Nat.reduceEqDiff, Nat.reduceLeDiff, Nat.reduceAdd, Nat.reduceMul, Nat.reduceSub, Nat.reduceLT, hc]; repeat' (first | exact Ok.out | with_reducible refine And.intro ?_ ?_ | (simp; done)))
 | (cases h; replace h := hr; clear hr; (try simp only [bs, ↓reduceIte] at h))
 | (cases h; done))

end Go.Abs

/-! ParseCut -/

namespace Go.Proofs.Ytecpopiacpckiaa.parseCut
open Go.ChangeShapes Go.WideShapes Go.ChangeAt Go.RowKit Go.Abs
set_option linter.unusedVariables false

theorem own : ownKnob Try.prog.godebug = none := by kernel_rfl
theorem kids : Kids Try.prog (· < Try.prog.types.size) := kids_rows (by kernel_rfl) (by kernel_rfl)
theorem full : ∀ {t e : TypeId}, t < Try.prog.types.size → Try.prog.underlying t = some (.slice e) → 0 < Try.prog.cellsOf e := fun {t e} => slices_full_of Try.prog (by kernel_rfl) t e

theorem walk (w : World) (x0 : ByteArray) : Calls Try.prog 7 #[.string x0] w fun e w' => e = .returned (.bool true) ∧ Kept w w' := by
  refine law_run (args := [.str x0.data.toList]) ((ParseCut_true x0.data.toList).mono fun _ _ h => h.1) rfl ?_
  intro i d v h1 h2
  match i, h1, h2 with
  | 0, h1, h2 => simp at h1 h2; subst h1 h2; exact RD.str _

set_option maxRecDepth 100000 in
theorem lifted (os : Os) (started : os.Started) (H : Type) (enc : TypeId × Value → H) :
    ReturnsInHanded {} Try.checked os 7 .any (Rows.parseCutSpec.pre6 enc Try.prog Try.f7 Rows.parseCutRow.domain false) (Rows.parseCutSpec.post enc Try.prog Try.f7 false true false false) := by
  refine returnsInHanded_of_change (C := Try.checked) own started (by kernel_rfl) Try.func7
    (ChangeSpec.witness6 (enc := enc) (C := Try.checked) false ⟨#[], #[.string ⟨#[]⟩], []⟩ 8 (by kernel_rfl) (by kernel_rfl) (by kernel_rfl) (by kernel_rfl)) ?_
  intro W base args ds gs before hval0 hW hcnd _
  have hval : ∀ (j : Nat) t v, Try.f7.params[j]? = some t → args[j]? = some v → Value.okWide Try.prog W .any base t v := hval0
  have hW' := hW
  obtain ⟨p, q, hA0, hV, rfl, hfz, hnd⟩ := hW
  have hA : DataW.TrodAll enc Try.prog W 0 (fun _ => true) true Try.f7.params.toList args.toList ds p := hA0
  rw [Try.params7] at hA hval
  obtain ⟨v0, d0, rfl, rfl, hd0⟩ := trodAll_one hA
  obtain ⟨x0, rfl, rfl, rfl, _⟩ := Go.ChangeMaps.open_string Try.underlying9 (hval 0 _ _ rfl rfl) hd0
  obtain ⟨rfl, rfl⟩ := trodVars_none hV
  refine (walk W x0).mono fun e W' ⟨he, hg⟩ => ?_
  subst he
  exact ⟨_, rfl, law_post kids full (by rw [Try.params7]; decide) Try.underlying4 (by kernel_rfl) rfl hW' rfl hg⟩

theorem over : Rows.parseCutRow.holds Try.pinned (OpenSpec.ofChange Rows.parseCutSpec) :=
  OpenClaim.holds_of_wide 7 Try.f7 rfl rfl rfl rfl rfl rfl rfl ⟨rfl, rfl, rfl, rfl, rfl⟩ rfl rfl rfl rfl rfl (by kernel_rfl) Try.func7 (by kernel_rfl)
    (of_decide_eq_true (by kernel_rfl)) (by unfold Func.isWrapper; first | (rw [if_pos (by decide +kernel)]; kernel_rfl) | (rw [if_neg (by decide +kernel)]; exact ⟨rfl, rfl⟩))
    (fun os started H enc _ => lifted os started H enc)

theorem proved : Rows.ParseCutSaid :=
  over
#print axioms proved
end Go.Proofs.Ytecpopiacpckiaa.parseCut
