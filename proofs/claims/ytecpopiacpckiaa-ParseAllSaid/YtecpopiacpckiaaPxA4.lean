/-
  What is proved here: part 4 of the road to the claim (Tot3, Parsed2, RefLex1, RefLex2, RefLex3, Ref4, Ref5, Ref6, MirNum, Ref7, Ref8).
  No conditions.
-/
import Derived.Test.YtecpopiacpckiaaPxA3
import Derived.KernelRfl

/-! Tot3 -/

namespace Go.Abs
set_option linter.unusedSimpArgs false
set_option linter.unusedVariables false

theorem incI_t {n : Int} (h1 : -1000000 < n) (h2 : n < 1000000) : incI n = some (n + 1) := by
  simp only [incI]; rw [if_pos (by omega)]
theorem inc_t {n : Nat} (h : n ≤ 201) : inc n = some (n + 1) := by
  simp only [inc]; rw [if_pos (by omega)]

/-- What statements leave. -/
structure StQ (r r' : Rd) : Prop where
  to : r.To r'
  n : r'.good = true → r'.n ≤ 200

theorem Rd.ToE.q {r r' : Rd} (h : r.ToE r') (hn : r.good = true → r.n ≤ 200) : StQ r r' := ⟨h.to, fun g => by rw [h.n]; exact hn (h.to.g g)⟩
theorem StQ.trans {a b c : Rd} (h : StQ a b) (k : StQ b c) : StQ a c := ⟨h.to.trans k.to, k.n⟩

def RowsT (r : Rd) (p : (List Sm × List Str) × Rd) : Prop := StQ r p.2 ∧ (p.2.good = true → Sm.sizes p.1.1 + p.1.2.length + 8 * r.i ≤ 8 * p.2.i)

theorem stmts_t {m : Nat} (hm : 6006 ≤ m) : ∀ n : Nat,
    (∀ (r : Rd) (nest : Int), r.Ok → r.n ≤ 200 → r.good = true → -100000 < nest → nest < 100000 - n → 5 * (r.l.length - r.i) + 1 ≤ n → Tt (Rd.stmt m n nest r) fun p => StQ r p.2 ∧ (p.2.good = true → p.1.size + 1 + 8 * r.i ≤ 8 * p.2.i)) ∧
    (∀ (r : Rd) (nest : Int) (body : Bool) (out : List Sm), r.Ok → (r.good = true → r.n ≤ 200) → out.length ≤ r.i → -100000 < nest → nest < 100000 - n → 5 * (r.l.length - r.i) + 2 ≤ n →
      Tt (Rd.rowsL m n nest body out r) fun p => StQ r p.2 ∧ (p.2.good = true → Sm.sizes p.1.1 + p.1.2.length + 8 * r.i ≤ Sm.sizes out + 8 * p.2.i)) ∧
    (∀ (r : Rd) (nest : Int) (body : Bool), r.Ok → (r.good = true → r.n ≤ 200) → -100000 < nest → nest < 100000 - n → 5 * (r.l.length - r.i) + 3 ≤ n → Tt (Rd.rows m n nest body r) (RowsT r)) ∧
    (∀ (r : Rd) (nest : Int), r.Ok → (r.good = true → r.n ≤ 200) → -100000 < nest → nest < 100000 - n → 5 * (r.l.length - r.i) + 4 ≤ n → Tt (Rd.block m n nest r) fun p => StQ r p.2 ∧ (p.2.good = true → Sm.sizes p.1 + 8 * r.i ≤ 8 * p.2.i)) ∧
    (∀ (r : Rd) (nest : Int), r.Ok → (r.good = true → r.n ≤ 200) → -100000 < nest → nest < 100000 - n → 5 * (r.l.length - r.i) + 5 ≤ n → Tt (Rd.choice m n nest r) fun p => StQ r p.2 ∧ (p.2.good = true → p.1.size + 8 * r.i ≤ 2 + 8 * p.2.i)) := by
  intro n
  induction n with
  | zero => exact ⟨fun r k _ _ _ _ _ h => by omega, fun r k b o _ _ _ _ _ h => by omega, fun r k b _ _ _ _ h => by omega, fun r k _ _ _ _ h => by omega, fun r k _ _ _ _ h => by omega⟩
  | succ n ih =>
  obtain ⟨ih1, ih2, ih3, ih4, ih5⟩ := ih
  refine ⟨fun r nest h h200 hg hk1 hk2 hn => ?_, fun r nest body out h h200 hout hk1 hk2 hn => ?_, fun r nest body h h200 hk1 hk2 hn => ?_, fun r nest h h200 hk1 hk2 hn => ?_, fun r nest h h200 hk1 hk2 hn => ?_⟩
  · have hlt := h.lt
    simp only [Rd.stmt]
    refine (begins_t h).bind fun b hb => Tt.ite (fun hc => ?_) (fun hc => ?_)
    · exact (bad_t h (by decide)).bind fun r' hr => Tt.some ⟨hr.1.q fun _ => h200, fun hg => by rw [hr.2.1] at hg; cases hg⟩
    have hi1 := hb (by simpa using hc)
    rw [inc_t h.n1, Option.bind_some]
    have hok : ({ r with n := r.n + 1 } : Rd).Ok := ⟨h.k, h.lt, h.len, h.last, by dsimp only; omega⟩
    have hto : r.To { r with n := r.n + 1 } := ⟨hok, rfl, Nat.le_refl _, fun h' => h', fun h' => by rw [hg] at h'; cases h'⟩
    refine Tt.ite (fun hc2 => ?_) (fun hc2 => ?_)
    · exact (bad_t hok (by decide)).bind fun r' hr => Tt.some ⟨⟨hto.trans hr.1.to, fun hg => by rw [hr.2.1] at hg; cases hg⟩, fun hg => by rw [hr.2.1] at hg; cases hg⟩
    have hk : r.n + 1 ≤ 200 := by
      simp only [Bool.or_eq_true, decide_eq_true_eq, not_or] at hc2
      omega
    refine (peek_t hok).bind fun t ht => Tt.ite (fun hc3 => ?_) (fun hc3 => ?_)
    · refine (named_t hm hok).mono fun p hp => ⟨⟨hto.trans hp.1.to, fun _ => by rw [hp.1.n]; exact hk⟩, fun hgo => ?_⟩
      have := hp.2 hgo
      dsimp only at this
      omega
    have hok2 : ({ r with n := r.n + 1, i := r.i + 1 } : Rd).Ok := ⟨h.k, hi1, h.len, h.last, by dsimp only; omega⟩
    have hto2 : r.To { r with n := r.n + 1, i := r.i + 1 } := ⟨hok2, rfl, Nat.le_succ _, fun h' => h', fun h' => by rw [hg] at h'; cases h'⟩
    refine Tt.ite (fun hc4 => ?_) (fun hc4 => Tt.ite (fun hc5 => ?_) (fun hc5 => ?_))
    · refine (ih5 _ nest hok2 (fun _ => hk) hk1 (by omega) (by dsimp only; omega)).mono fun p hp => ⟨⟨hto2.trans hp.1.to, hp.1.n⟩, fun hgo => ?_⟩
      have := hp.2 hgo
      dsimp only at this
      omega
    · refine (head_t hm hok2).bind fun x hx => ?_
      have hl := hx.1.to.l
      have hi := hx.1.to.i
      have hl3 := hx.1.to.ok.lt
      dsimp only at hl hi
      refine (ih4 x.2 nest hx.1.to.ok (fun _ => by rw [hx.1.n]; exact hk) hk1 (by omega) (by rw [hl] at hl3 ⊢; omega)).bind fun b hb => Tt.some ⟨⟨hto2.trans (hx.1.to.trans hb.1.to), hb.1.n⟩, fun hgo => ?_⟩
      have a1 := hb.2 hgo
      have a2 := hx.2 (hb.1.to.g hgo)
      simp only [sm_size0, Ar.sizes, Sm.sizes, List.length_nil]
      dsimp only at a2
      omega
    · refine (plain_t hm _ hok2).bind fun s hs => (want_t hs.1.to.ok _).bind fun r2 h2 => Tt.some ⟨⟨hto2.trans (hs.1.to.trans h2.1.to), fun _ => by rw [h2.1.n, hs.1.n]; exact hk⟩, fun hgo => ?_⟩
      have a1 := h2.2 hgo
      have a2 := hs.2 (h2.1.to.g hgo)
      dsimp only at a2 ⊢
      omega
  · have hlt := h.lt
    have hlen := h.len
    simp only [Rd.rowsL]
    refine Tt.ite (fun hg => ?_) (fun hg => Tt.some ⟨⟨.refl h, h200⟩, fun hg' => absurd hg' hg⟩)
    refine (labels_t m [] r h (Nat.zero_le _) (by omega) (by omega)).bind fun l hl => ?_
    have hl1 := hl.1.to.l
    have hl2 := hl.1.to.i
    have hl3 := hl.2.2
    have hl4 := hl.1.to.ok.lt
    have hlg : l.2.good = true := by rw [hl.2.1]; exact hg
    have hln : l.2.n ≤ 200 := by rw [hl.1.n]; exact h200 hg
    simp only [List.length_nil, Nat.zero_mul, Nat.zero_add] at hl3
    rw [hl1] at hl4
    refine (is_t hl.1.to.ok _).bind fun b hb => Tt.ite (fun hc => ?_) (fun hc => ?_)
    · have hbt : b = true := by simp only [Bool.and_eq_true] at hc; exact hc.1
      have hon := Rd.ToE.on hl.1.to.ok hlg (hb hbt)
      refine Tt.some ⟨(hl.1.trans hon).q h200, fun hgo => ?_⟩
      dsimp only
      omega
    · refine (ih1 l.2 nest hl.1.to.ok hln hlg hk1 (by omega) (by rw [hl1]; omega)).bind fun s hs => (push_t (by omega) (by decide)).bind fun out' ho' => ?_
      subst ho'
      have hq : StQ r s.2 := (hl.1.q h200).trans hs.1
      cases hgs : s.2.good with
      | false =>
        cases n with
        | zero => omega
        | succ n =>
          have e : Rd.rowsL m (n + 1) nest body (out ++ [{ s.1 with labels := l.1 }]) s.2 = some (([], []), s.2) := by
            simp only [Rd.rowsL, hgs, Bool.false_eq_true, ↓reduceIte]
          rw [e]
          exact Tt.some ⟨hq, fun hg' => by rw [hgs] at hg'; cases hg'⟩
      | true =>
        have a1 := hs.2 hgs
        have hs1 := hs.1.to.l
        have hs2 := hs.1.to.ok.lt
        rw [hs1, hl1] at hs2
        refine (ih2 s.2 nest body _ hs.1.to.ok hs.1.n (by simp; omega) hk1 (by omega) (by rw [hs1, hl1]; omega)).mono fun p hp => ⟨hq.trans hp.1, fun hgo => ?_⟩
        have a2 := hp.2 hgo
        rw [Sm.sizes_app] at a2
        have a3 : Sm.size ⟨s.1.id, s.1.kind, l.1, s.1.name, s.1.proc, s.1.x, s.1.has, s.1.args, s.1.thn, s.1.els⟩ ≤ s.1.size + l.1.length := by
          obtain ⟨s1, s2⟩ := s
          cases s1
          simp only [Sm.size]
          omega
        omega
  · simp only [Rd.rows]
    refine (ih2 r nest body [] h h200 (Nat.zero_le _) hk1 (by omega) (by omega)).mono fun p hp => ⟨hp.1, fun hgo => ?_⟩
    have := hp.2 hgo
    simp only [Sm.sizes] at this
    omega
  · have hlt := h.lt
    simp only [Rd.block]
    refine (want_t h _).bind fun r1 h1 => ?_
    have hl := h1.1.to.l
    have hi := h1.1.to.i
    have hl2 := h1.1.to.ok.lt
    rw [hl] at hl2
    rw [incI_t (by omega) (by omega), Option.bind_some]
    refine (ih3 r1 (nest + 1) false h1.1.to.ok (h1.1.q h200).n (by omega) (by omega) (by rw [hl]; omega)).bind fun p hp => Tt.some ⟨(h1.1.q h200).trans hp.1, fun hgo => ?_⟩
    have := hp.2 hgo
    dsimp only
    omega
  · have hlt := h.lt
    simp only [Rd.choice]
    refine (head_t hm h).bind fun x hx => ?_
    have hl := hx.1.to.l
    have hi := hx.1.to.i
    have hl2 := hx.1.to.ok.lt
    rw [hl] at hl2
    refine (ih4 x.2 nest hx.1.to.ok (hx.1.q h200).n hk1 (by omega) (by rw [hl]; omega)).bind fun t ht => (take_t ht.1.to.ok _).bind fun q hq => Tt.ite (fun hc => ?_) (fun hc => ?_)
    · have hlt1 := ht.1.to.l
      have hit1 := ht.1.to.i
      have hq1 := hq.1.to.l
      have hq2 := hq.1.to.i
      have hq3 := hq.1.to.ok.lt
      rw [hq1, hlt1, hl] at hq3
      refine (ih4 q.2 nest hq.1.to.ok (hq.1.q ht.1.n).n hk1 (by omega) (by rw [hq1, hlt1, hl]; omega)).bind fun e he => Tt.some ⟨(hx.1.q h200).trans (ht.1.trans ((hq.1.q ht.1.n).trans he.1)), fun hgo => ?_⟩
      have g1 := he.1.to.g hgo
      have g2 := hq.1.to.g g1
      have g3 := ht.1.to.g g2
      have a1 := he.2 hgo
      have a2 := ht.2 g2
      have a3 := hx.2 g3
      simp only [sm_size0, Ar.sizes, List.length_nil]
      omega
    · have hqf : q.1 = false := by simpa using hc
      rw [hq.2.2 hqf]
      refine Tt.some ⟨(hx.1.q h200).trans ht.1, fun hgo => ?_⟩
      have a2 := ht.2 hgo
      have a3 := hx.2 (ht.1.to.g hgo)
      simp only [sm_size0, Ar.sizes, Sm.sizes, List.length_nil]
      omega

theorem rows_t {m n : Nat} (hm : 6006 ≤ m) {r : Rd} {body : Bool} (h : r.Ok) (h200 : r.good = true → r.n ≤ 200) (hn : 10010 ≤ n) (hn2 : n ≤ 90000) : Tt (Rd.rows m n 1 body r) (RowsT r) := by
  have := h.len
  exact (stmts_t hm n).2.2.1 r 1 body h h200 (by omega) (by omega) (by omega)

theorem params_t : ∀ (n : Nat) (l : List Pm) (r : Rd), r.Ok → l.length ≤ r.i → r.l.length - r.i ≤ n + 1 → 0 < n →
    Tt (Rd.params n l r) fun p => r.ToE p.2 ∧ (p.2.good = true → p.1.length + r.i ≤ l.length + p.2.i) := by
  intro n
  induction n with
  | zero => intro l r _ _ _ h; omega
  | succ n ih =>
    intro l r h hl hn _
    have hlt := h.lt
    have hlen := h.len
    simp only [Rd.params]
    refine Tt.ite (fun hg => ?_) (fun hg => Tt.some ⟨.refl h, fun _ => Nat.le_refl _⟩)
    refine (take_t h _).bind fun q hq => (name_t hq.1.to.ok _).bind fun x hx => (push_t (by omega) (by decide)).bind fun l' hl' => ?_
    subst hl'
    have hqi := hq.1.to.i
    refine (take_t hx.1.to.ok _).bind fun c hc => Tt.ite (fun hcc => ?_) (fun hcc => ?_)
    · have hcf : c.1 = false := by simpa using hcc
      rw [hc.2.2 hcf]
      refine Tt.some ⟨hq.1.trans hx.1, fun hgo => ?_⟩
      have := hx.2 hgo
      simp; omega
    · have hct : c.1 = true := by simpa using hcc
      obtain ⟨e1, e2, e3⟩ := hc.2.1 hct
      have h2 := hx.2 e2
      have l1 := hq.1.to.l
      have l2 := hx.1.to.l
      have l3 := hc.1.to.l
      have hi := hc.1.to.ok.lt
      rw [l3, l2, l1] at hi
      refine (ih _ c.2 hc.1.to.ok (by simp; omega) (by rw [l3, l2, l1]; omega) (by omega)).mono fun p hp => ⟨hq.1.trans (hx.1.trans (hc.1.trans hp.1)), fun hgo => ?_⟩
      have := hp.2 hgo
      simp at this
      omega

theorem vars_t {m : Nat} (hm : 6006 ≤ m) : ∀ (n : Nat) (l : List Str) (r : Rd), r.Ok → l.length ≤ r.i → r.l.length - r.i + 1 ≤ n →
    Tt (Rd.vars m n l r) fun p => r.ToE p.2 ∧ (p.2.good = true → p.1.length + r.i ≤ l.length + p.2.i) := by
  intro n
  induction n with
  | zero => intro l r _ _ h; omega
  | succ n ih =>
    intro l r h hl hn
    have hlt := h.lt
    have hlen := h.len
    simp only [Rd.vars]
    refine (take_t h _).bind fun q hq => Tt.ite (fun hc => ?_) (fun hc => ?_)
    · obtain ⟨e1, e2, e3⟩ := hq.2.1 hc
      have l1 := hq.1.to.l
      have hi := hq.1.to.ok.lt
      rw [l1] at hi
      refine (names_t m l 16 q.2 hq.1.to.ok (by omega) (by rw [l1]; omega) (by omega)).bind fun x hx => ?_
      have l2 := hx.1.to.l
      have i2 := hx.1.to.i
      have hi2 := hx.1.to.ok.lt
      rw [l2, l1] at hi2
      cases hgx : x.2.good with
      | false =>
        cases n with
        | zero => omega
        | succ n =>
          have e : Rd.vars m (n + 1) x.1 x.2 = some (x.1, x.2) := by
            simp only [Rd.vars, Rd.take, hgx, Bool.not_false, ↓reduceIte, Option.bind_some, Bool.false_eq_true]
          rw [e]
          exact Tt.some ⟨hq.1.trans hx.1, fun hg' => by rw [hgx] at hg'; cases hg'⟩
      | true =>
        refine (ih x.1 x.2 hx.1.to.ok (hx.2.2.2 hgx) (by rw [l2, l1]; omega)).mono fun p hp => ⟨hq.1.trans (hx.1.trans hp.1), fun hgo => ?_⟩
        have a1 := hp.2 hgo
        have a2 := hx.2.2.1 hgx
        omega
    · have hqf : q.1 = false := by simpa using hc
      rw [hq.2.2 hqf]
      exact Tt.some ⟨.refl h, fun _ => Nat.le_refl _⟩

theorem procB_t {m : Nat} (hm : 10010 ≤ m) (hm2 : m ≤ 90000) {name : Str} {ps : List Pm} {r : Rd} (h : r.Ok) (h200 : r.good = true → r.n ≤ 200) :
    Tt (Rd.procB m name ps r) fun p => StQ r p.2 ∧ (p.2.good = true → p.1.size + 8 * r.i ≤ 1 + ps.length + 8 * p.2.i) := by
  have hlen := h.len
  unfold Rd.procB
  refine (vars_t (by omega) m [] r h (Nat.zero_le _) (by omega)).bind fun v hv => (rows_t (by omega) hv.1.to.ok (hv.1.q h200).n hm hm2).bind fun b hb => Tt.some ⟨(hv.1.q h200).trans hb.1, fun hgo => ?_⟩
  have a1 := hb.2 hgo
  have a2 := hv.2 (hb.1.to.g hgo)
  have a3 := hv.1.to.i
  simp only [Pc.size, List.length_nil] at a2 ⊢
  omega

theorem proc_t {m : Nat} (hm : 10010 ≤ m) (hm2 : m ≤ 90000) {r : Rd} (h : r.Ok) (h200 : r.good = true → r.n ≤ 200) :
    Tt (Rd.proc m r) fun p => StQ r p.2 ∧ (p.2.good = true → p.1.size + 1 + 8 * r.i ≤ 8 * p.2.i) := by
  have hlen := h.len
  unfold Rd.proc
  refine (name_t h _).bind fun x hx => (want_t hx.1.to.ok _).bind fun r1 h1 => (other_t h1.1.to.ok _).bind fun b hb => Tt.ite (fun hc => ?_) (fun hc => ?_)
  · have l1 := h1.1.to.ok.len
    refine (params_t m [] r1 h1.1.to.ok (Nat.zero_le _) (by omega) (by omega)).bind fun q hq => (want_t hq.1.to.ok _).bind fun r2 h2 => (want_t h2.1.to.ok _).bind fun r3 h3 => ?_
    have q3 : StQ r r3 := (hx.1.q h200).trans ((h1.1.q (hx.1.q h200).n).trans ((hq.1.q (h1.1.q (hx.1.q h200).n).n).trans ((h2.1.q (hq.1.q (h1.1.q (hx.1.q h200).n).n).n).trans (h3.1.q (h2.1.q (hq.1.q (h1.1.q (hx.1.q h200).n).n).n).n))))
    refine (procB_t hm hm2 h3.1.to.ok q3.n).mono fun p hp => ⟨q3.trans hp.1, fun hgo => ?_⟩
    have g3 := hp.1.to.g hgo
    have g2 := h3.1.to.g g3
    have gq := h2.1.to.g g2
    have g1 := hq.1.to.g gq
    have gx := h1.1.to.g g1
    have a0 := hx.2 gx
    have a1 := h1.2 g1
    have a2 := hq.2 gq
    have a3 := h2.2 g2
    have a4 := h3.2 g3
    have a5 := hp.2 hgo
    simp only [List.length_nil] at a2
    omega
  · refine (want_t h1.1.to.ok _).bind fun r2 h2 => (want_t h2.1.to.ok _).bind fun r3 h3 => ?_
    have q3 : StQ r r3 := (hx.1.q h200).trans ((h1.1.q (hx.1.q h200).n).trans ((h2.1.q (h1.1.q (hx.1.q h200).n).n).trans (h3.1.q (h2.1.q (h1.1.q (hx.1.q h200).n).n).n)))
    refine (procB_t hm hm2 h3.1.to.ok q3.n).mono fun p hp => ⟨q3.trans hp.1, fun hgo => ?_⟩
    have g3 := hp.1.to.g hgo
    have g2 := h3.1.to.g g3
    have g1 := h2.1.to.g g2
    have gx := h1.1.to.g g1
    have a0 := hx.2 gx
    have a1 := h1.2 g1
    have a3 := h2.2 g2
    have a4 := h3.2 g3
    have a5 := hp.2 hgo
    simp only [List.length_nil] at a5
    omega

theorem globals_t {m : Nat} (hm : 6006 ≤ m) : ∀ (n : Nat) (l : List Str) (r : Rd), r.Ok → l.length ≤ r.i → r.l.length - r.i + 1 ≤ n →
    Tt (Rd.globals m n l r) fun p => r.ToE p.2 ∧ (p.2.good = true → p.1.length + r.i ≤ l.length + p.2.i) := by
  intro n
  induction n with
  | zero => intro l r _ _ h; omega
  | succ n ih =>
    intro l r h hl hn
    have hlt := h.lt
    have hlen := h.len
    simp only [Rd.globals]
    refine (take_t h _).bind fun q hq => Tt.ite (fun hc => ?_) (fun hc => ?_)
    · obtain ⟨e1, e2, e3⟩ := hq.2.1 hc
      have l1 := hq.1.to.l
      have hi := hq.1.to.ok.lt
      rw [l1] at hi
      refine (names_t m l 16 q.2 hq.1.to.ok (by omega) (by rw [l1]; omega) (by omega)).bind fun x hx => ?_
      have l2 := hx.1.to.l
      have i2 := hx.1.to.i
      have hi2 := hx.1.to.ok.lt
      rw [l2, l1] at hi2
      cases hgx : x.2.good with
      | false =>
        cases n with
        | zero => omega
        | succ n =>
          have e : Rd.globals m (n + 1) x.1 x.2 = some (x.1, x.2) := by
            simp only [Rd.globals, Rd.take, hgx, Bool.not_false, ↓reduceIte, Option.bind_some, Bool.false_eq_true]
          rw [e]
          exact Tt.some ⟨hq.1.trans hx.1, fun hg' => by rw [hgx] at hg'; cases hg'⟩
      | true =>
        refine (ih x.1 x.2 hx.1.to.ok (hx.2.2.2 hgx) (by rw [l2, l1]; omega)).mono fun p hp => ⟨hq.1.trans (hx.1.trans hp.1), fun hgo => ?_⟩
        have a1 := hp.2 hgo
        have a2 := hx.2.2.1 hgx
        omega
    · have hqf : q.1 = false := by simpa using hc
      rw [hq.2.2 hqf]
      exact Tt.some ⟨.refl h, fun _ => Nat.le_refl _⟩

theorem isProc_t {r : Rd} (h : r.Ok) : Tt r.isProc fun b => b = true → r.good = true ∧ r.i + 1 < r.l.length := by
  unfold Rd.isProc
  exact Tt.ite (fun hg => (is_t h _).mono fun b hb hbt => ⟨hg, hb hbt⟩) (fun hg => Tt.some (by simp))
theorem notEnd_t {r : Rd} (h : r.Ok) : Tt r.notEnd fun b => b = true → r.good = true := by
  unfold Rd.notEnd
  exact Tt.ite (fun hg => (peek_t h).bind fun t _ => Tt.some fun _ => hg) (fun hg => Tt.some (by simp))

theorem procs_t {m : Nat} (hm : 10010 ≤ m) (hm2 : m ≤ 90000) : ∀ (n : Nat) (l : List Pc) (r : Rd), r.Ok → (r.good = true → r.n ≤ 200) → l.length ≤ r.i → r.l.length - r.i + 1 ≤ n →
    Tt (Rd.procs m n l r) fun p => StQ r p.2 ∧ (p.2.good = true → Pc.sizes p.1 + 8 * r.i ≤ Pc.sizes l + 8 * p.2.i) := by
  intro n
  induction n with
  | zero => intro l r _ _ _ h; omega
  | succ n ih =>
    intro l r h h200 hl hn
    have hlt := h.lt
    have hlen := h.len
    simp only [Rd.procs]
    have tail : ∀ r1 : Rd, r1.Ok → (r1.good = true → r1.n ≤ 200) → ∀ l1 : List Pc, Tt (r1.notEnd.bind fun b => if b then (r1.bad 3).bind fun r => some (l1, r) else some (l1, r1)) fun p => StQ r1 p.2 ∧ (p.2.good = true → Pc.sizes p.1 + 8 * r1.i ≤ Pc.sizes l1 + 8 * p.2.i) := by
      intro r1 hr1 hr2 l1
      refine (notEnd_t hr1).bind fun b hb => Tt.ite (fun hc => ?_) (fun hc => Tt.some ⟨(Rd.ToE.refl hr1).q hr2, fun _ => Nat.le_refl _⟩)
      exact (bad_t hr1 (by decide)).bind fun r' hr => Tt.some ⟨hr.1.q hr2, fun hg => by rw [hr.2.1] at hg; cases hg⟩
    refine (isProc_t h).bind fun b hb => Tt.ite (fun hc => ?_) (fun hc => tail r h h200 l)
    obtain ⟨hg, hi1⟩ := hb hc
    refine Tt.ite (fun hc2 => ?_) (fun hc2 => ?_)
    · exact (bad_t h (by decide)).bind fun r' hr => Tt.some ⟨hr.1.q h200, fun hg => by rw [hr.2.1] at hg; cases hg⟩
    have hon := Rd.ToE.on h hg hi1
    refine (proc_t hm hm2 hon.to.ok (hon.q h200).n).bind fun x hx => (push_t (by omega) (by decide)).bind fun l' hl' => ?_
    subst hl'
    have hq := (hon.q h200).trans hx.1
    have l2 := hx.1.to.l
    have i2 := hx.1.to.i
    have hi2 := hx.1.to.ok.lt
    dsimp only at l2 i2
    rw [l2] at hi2
    cases hgx : x.2.good with
    | false =>
      cases n with
      | zero => omega
      | succ n =>
        have e : Rd.procs m (n + 1) (l ++ [x.1]) x.2 = some (l ++ [x.1], x.2) := by
          simp only [Rd.procs, Rd.isProc, Rd.notEnd, hgx, ↓reduceIte, Option.bind_some, Bool.false_eq_true]
        rw [e]
        exact Tt.some ⟨hq, fun hg' => by rw [hgx] at hg'; cases hg'⟩
    | true =>
      have a0 := hx.2 hgx
      dsimp only at a0
      refine (ih (l ++ [x.1]) x.2 hx.1.to.ok hx.1.n (by simp; omega) (by rw [l2]; omega)).mono fun p hp => ⟨hq.trans hp.1, fun hgo => ?_⟩
      have a1 := hp.2 hgo
      rw [Pc.sizes_app] at a1
      omega

theorem program_t {m : Nat} (hm : 10010 ≤ m) (hm2 : m ≤ 90000) {r : Rd} (h : r.Ok) (h0 : r.i = 0) (hn : r.n = 0) : Tt (Rd.program m r) fun p => StQ r p.2 ∧ (p.2.good = true → p.1.size ≤ 1 + 9 * p.2.i) := by
  have hlen := h.len
  unfold Rd.program
  have h200 : r.good = true → r.n ≤ 200 := fun _ => by omega
  refine (globals_t (by omega) m [] r h (Nat.zero_le _) (by omega)).bind fun g hg => ?_
  have l1 := hg.1.to.l
  refine (procs_t hm hm2 m [] g.2 hg.1.to.ok (hg.1.q h200).n (Nat.zero_le _) (by rw [l1]; omega)).bind fun q hq => Tt.some ⟨(hg.1.q h200).trans hq.1, fun hgo => ?_⟩
  have a1 := hq.2 hgo
  have a2 := hg.2 (hq.1.to.g hgo)
  have a3 := hq.1.to.i
  simp only [Pg.size, Pc.sizes, List.length_nil] at a1 a2 ⊢
  omega

/-! ### The lexer's tokens -/

def TokOk (t : Tok) : Prop := 1 ≤ t.kind ∧ t.kind ≤ 4

theorem tokE_ok {pos : Nat} {s : Str} {t : Tok} (h : tokE pos s = .inl t) : TokOk t := by
  cases s with
  | nil => simp only [tokE] at h; cases h
  | cons c r =>
    simp only [tokE] at h
    split at h
    · split at h
      · cases h
      · cases h; simp only [TokOk]; split <;> omega
    · split at h
      · split at h
        · cases h
        · split at h
          · cases h; simp [TokOk]
          · cases h
      · split at h
        · cases h
        · cases h; simp [TokOk]

theorem lexF_ok : ∀ (n pos : Nat) (s : Str) (out : List Tok), s.length < n → out.length ≤ 2000 → (∀ t ∈ out, TokOk t) →
    (lexF n pos s out).2.1 = 0 → ∃ l e, (lexF n pos s out).1 = l ++ [e] ∧ e.kind = 0 ∧ l.length ≤ 2000 ∧ ∀ t ∈ l, TokOk t := by
  intro n
  induction n with
  | zero => intro pos s out h; omega
  | succ n ih =>
    intro pos s out hn ho hok h
    cases s with
    | nil => exact ⟨out, ⟨0, [], 0, pos⟩, by simp [lexF], rfl, ho, hok⟩
    | cons c r =>
      simp only [List.length_cons] at hn
      simp only [lexF] at h ⊢
      split
      · rename_i hb
        rw [if_pos hb] at h
        exact ih _ _ _ (by omega) ho hok h
      · rename_i hb
        rw [if_neg hb] at h
        split
        · rename_i hc
          rw [if_pos hc] at h
          have hpos : 0 < lineL (c :: r) := by
            have : ((c.toNat : Int) != 10) = true := by simp only [beq_iff_eq] at hc; simp [hc]
            simp [lineL, this]
          exact ih _ _ _ (by rw [List.length_drop, List.length_cons]; omega) ho hok h
        · rename_i hc
          rw [if_neg hc] at h
          cases ht : tokE pos (c :: r) with
          | inr e =>
            simp only [ht] at h
            exfalso
            have : e = 2 ∨ e = 4 := by
              simp only [tokE] at ht
              repeat' split at ht
              all_goals first | (cases ht; simp; done) | cases ht
            omega
          | inl t =>
            simp only [ht] at h ⊢
            split
            · rename_i h2
              rw [if_pos h2] at h
              cases h
            · rename_i h2
              rw [if_neg h2] at h
              have hpos : 0 < t.text.length := by
                have : ∀ s : Str, t.text = s → 0 < s.length → 0 < t.text.length := fun s e h => by rw [e]; exact h
                simp only [tokE] at ht
                cases hL : isL c
                · simp only [hL, Bool.false_eq_true, ↓reduceIte] at ht
                  cases hD : isD c
                  · simp only [hD, Bool.false_eq_true, ↓reduceIte] at ht
                    split at ht
                    · cases ht
                    · cases ht; simp only [List.length_take, List.length_cons]; omega
                  · have k0 : 0 < runD (c :: r) := by simp [runD, hD]
                    simp only [hD, ↓reduceIte] at ht
                    split at ht
                    · cases ht
                    · split at ht
                      · cases ht; simp only [List.length_take, List.length_cons]; omega
                      · cases ht
                · have k0 : 0 < runL (c :: r) := by simp [runL, hL]
                  simp only [hL, ↓reduceIte] at ht
                  split at ht
                  · cases ht
                  · cases ht; simp only [List.length_take, List.length_cons]; omega
              refine ih _ _ _ (by rw [List.length_drop, List.length_cons]; omega) (by simp; omega) ?_ h
              intro t' ht'
              rcases List.mem_append.1 ht' with h3 | h3
              · exact hok t' h3
              · simp at h3; subst h3; exact tokE_ok ht

theorem lexAll_ok {text : Str} (h : (lexAll text).2.1 = 0) : (rd0 (lexAll text).1).Ok := by
  unfold lexAll at h ⊢
  split at h
  · cases h
  · rename_i hl
    rw [if_neg hl]
    obtain ⟨l, e, h1, h2, h3, h4⟩ := lexF_ok _ 0 text [] (Nat.lt_succ_self _) (Nat.zero_le _) (by simp) h
    rw [h1]
    refine ⟨fun t ht => ?_, by simp [rd0], by simp [rd0]; omega, fun t ht => ?_, by simp [rd0]⟩
    · simp only [rd0] at ht
      rcases List.mem_append.1 ht with h5 | h5
      · have := h4 t h5; simp only [TokOk] at this; omega
      · simp at h5; subst h5; omega
    · simp only [rd0, List.length_append, List.length_singleton, Nat.add_sub_cancel] at ht
      rw [List.getElem?_append_right (Nat.le_refl _)] at ht
      simp at ht
      subst ht
      exact h2

/-! ### Texts -/

def fuelM : Nat := 20000

mutual
theorem Sm.num_size (b : Bool) (n : Nat) : ∀ s : Sm, (Sm.num b n s).1.size = s.size
  | ⟨id, kind, labels, name, proc, x, has, args, thn, els⟩ => by
    simp only [Sm.num, Sm.size, Sm.nums_size b _ thn, Sm.nums_size b _ els]
theorem Sm.nums_size (b : Bool) (n : Nat) : ∀ l : List Sm, Sm.sizes (Sm.nums b n l).1 = Sm.sizes l
  | [] => rfl
  | s :: l => by simp only [Sm.nums, Sm.sizes, Sm.num_size b _ s, Sm.nums_size b _ l]
end
theorem Pc.nums_size : ∀ (n : Nat) (l : List Pc), Pc.sizes (Pc.nums n l) = Pc.sizes l
  | n, [] => rfl
  | n, f :: l => by simp only [Pc.nums, Pc.sizes, Pc.size, Sm.nums_size, Pc.nums_size _ l]
theorem Pg.number_size (p : Pg) : p.number.size = p.size := by simp only [Pg.number, Pg.size, Pc.nums_size]

theorem parseM_t (text : Str) : Tt (parseM fuelM text) fun p => p.1.size < 100000 := by
  unfold parseM
  refine Tt.ite (fun hz => Tt.some (by simp [pg0, Pg.size, Pc.sizes])) (fun hz => ?_)
  have h0 : (lexAll text).2.1 = 0 := by simpa using hz
  have hok := lexAll_ok h0
  refine (program_t (by decide) (by decide) hok rfl rfl).bind fun p hp => Tt.ite (fun _ => Tt.some (by simp [pg0, Pg.size, Pc.sizes])) (fun hc => ?_)
  have hg : p.2.good = true := by simpa [Rd.good] using hc
  have hs := hp.2 hg
  have hi := hp.1.to.ok.lt
  have hl := hp.1.to.ok.len
  have : p.1.size < 1073741824 := by omega
  simp only [Pg.numberO, this, ↓reduceIte, Option.bind_some]
  refine Tt.some ?_
  rw [Pg.number_size]
  omega

end Go.Abs

/-! Parsed2 -/

namespace Go.Abs

set_option maxRecDepth 8000
set_option linter.unusedSimpArgs false
set_option linter.unusedVariables false
open Go.Proofs

theorem parse_source : parseM fuelM source = some (some0, 0, 0) := by kernel_rfl
theorem expr_one : exprM fuelM [49, 32, 43, 32, 97] = some (exTwo 8 (exNum 1) (exName [97]), 0, 0) := by kernel_rfl
theorem source_len : source.length < 4611686018427387904 := by simp [source]
theorem one_len : ([49, 32, 43, 32, 97] : Str).length < 4611686018427387904 := by decide
theorem some0_ble : Nat.ble (some0.size + 1) 1000 = true := by kernel_rfl
theorem some0_size : some0.size < 1073741824 := Nat.lt_of_lt_of_le (Nat.le_of_ble_eq_true some0_ble) (Nat.le_of_ble_eq_true rfl)

theorem parsed_0 (s : St) : Fun Try.prog n_law4_parsed [] s (.bool true) s := by
  refine Fun.pure ?_ rfl rfl s
  have h1 := fun s => Parse_s parse_source source_len s
  have h2 := fun s => Expr_s expr_one one_len s
  have h3 := fun s => Eq_s (b := some0) some0_size s
  rw [Pg.beq_refl] at h3
  have z0 : ((0 : Int) == 0) = true := rfl
  have z8 : ((8 : Int) == 8) = true := rfl
  have z2 : ((2 : Int) == 2) = true := rfl
  unfold S0
  refine Fun.go has_law4_parsed rfl fun B Q hB hQ => ?_
  have hlt : 0 < 1 := Nat.zero_lt_one
  have hget : 0 < 1 := Nat.zero_lt_one
  have hpu : 0 < 1 := Nat.zero_lt_one
  have hinc : 0 < 1 := Nat.zero_lt_one
  repeat' (first
 | simp only [go_sem, hlt, hget, hpu, hinc, Int.reduceLE, ↓reduceIte, reduceCtorEq, Nat.reduceEqDiff, Nat.reduceLeDiff, Nat.reduceAdd, Nat.reduceMul, Nat.reduceSub, Nat.reduceLT, z0, z8, z2, exTwo, Int.cast_ofNat_Int]
 | (with_reducible refine CU (Source_s _) ?_)
 | (with_reducible refine CU (Some_s _) ?_)
 | (with_reducible refine CU (h1 _) ?_)
 | (with_reducible refine CU (h2 _) ?_)
 | (with_reducible refine CU (h3 _) ?_)
 | (with_reducible first | refine CB_ofT (by assumption) fun hc => ?_ | refine CB_ofF (by assumption) fun hc => ?_ | refine CB_split (fun hc => ?_) fun hc => ?_) <;> (try simp only [hc, bs, ↓reduceIte] at h) <;> (try simp only [hc])
 | ((with_reducible first | refine leafR hQ ?_ | refine leafN hQ ?_); (try cases h); simp only [resL, oneD, Option.some.injEq, exists_eq_left', go_sem, hlt, hget, hpu, hinc, Int.reduceLE, ↓reduceIte, reduceCtorEq, Nat.reduceEqDiff, Nat.reduceLeDiff, Nat.reduceAdd, Nat.reduceMul, Nat.reduceSub, Nat.reduceLT, z0, z8, z2, exTwo, Int.cast_ofNat_Int]; repeat' (first | exact Ok.out | with_reducible refine And.intro ?_ ?_ | (simp; done)))
 | (cases h; replace h := hr; clear hr; (try simp only [bs, ↓reduceIte] at h))
 | (cases h; done))

end Go.Abs

/-! RefLex1 -/

namespace Go.Abs

set_option maxRecDepth 8000
set_option linter.unusedSimpArgs false
set_option linter.unusedVariables false
open Go.Proofs

theorem Rsmall_s (c : UInt8) (s : St) : Fun Try.prog n_ref1_small [.int .u8 (c.toNat : Int)] s (.bool (isL c)) s := by
  refine Fun.pure ?_ rfl rfl s
  generalize h : isL c = b
  unfold isL at h
  unfold S0
  refine Fun.go has_ref1_small rfl fun B Q hB hQ => ?_
  have hlt : 0 < 1 := Nat.zero_lt_one
  have hget : 0 < 1 := Nat.zero_lt_one
  have hpu : 0 < 1 := Nat.zero_lt_one
  have hinc : 0 < 1 := Nat.zero_lt_one
  repeat' (first
 | simp only [go_sem, hlt, hget, hpu, hinc, Int.reduceLE, ↓reduceIte, reduceCtorEq, Nat.reduceEqDiff, Nat.reduceLeDiff, Nat.reduceAdd, Nat.reduceMul, Nat.reduceSub, Nat.reduceLT]
 | (with_reducible first | refine CB_ofT (by assumption) fun hc => ?_ | refine CB_ofF (by assumption) fun hc => ?_ | refine CB_split (fun hc => ?_) fun hc => ?_) <;> (try simp only [hc, bs, ↓reduceIte] at h) <;> (try simp only [hc])
 | ((with_reducible first | refine leafR hQ ?_ | refine leafN hQ ?_); (try cases h); simp only [resL, oneD, Option.some.injEq, exists_eq_left', go_sem, hlt, hget, hpu, hinc, Int.reduceLE, ↓reduceIte, reduceCtorEq, Nat.reduceEqDiff, Nat.reduceLeDiff, Nat.reduceAdd, Nat.reduceMul, Nat.reduceSub, Nat.reduceLT]; repeat' (first | exact Ok.out | with_reducible refine And.intro ?_ ?_ | (simp; done)))
 | (cases h; replace h := hr; clear hr; (try simp only [bs, ↓reduceIte] at h))
 | (cases h; done))

theorem Rdigit_s (c : UInt8) (s : St) : Fun Try.prog n_ref1_digit [.int .u8 (c.toNat : Int)] s (.bool (isD c)) s := by
  refine Fun.pure ?_ rfl rfl s
  generalize h : isD c = b
  unfold isD at h
  unfold S0
  refine Fun.go has_ref1_digit rfl fun B Q hB hQ => ?_
  have hlt : 0 < 1 := Nat.zero_lt_one
  have hget : 0 < 1 := Nat.zero_lt_one
  have hpu : 0 < 1 := Nat.zero_lt_one
  have hinc : 0 < 1 := Nat.zero_lt_one
  repeat' (first
 | simp only [go_sem, hlt, hget, hpu, hinc, Int.reduceLE, ↓reduceIte, reduceCtorEq, Nat.reduceEqDiff, Nat.reduceLeDiff, Nat.reduceAdd, Nat.reduceMul, Nat.reduceSub, Nat.reduceLT]
 | (with_reducible first | refine CB_ofT (by assumption) fun hc => ?_ | refine CB_ofF (by assumption) fun hc => ?_ | refine CB_split (fun hc => ?_) fun hc => ?_) <;> (try simp only [hc, bs, ↓reduceIte] at h) <;> (try simp only [hc])
 | ((with_reducible first | refine leafR hQ ?_ | refine leafN hQ ?_); (try cases h); simp only [resL, oneD, Option.some.injEq, exists_eq_left', go_sem, hlt, hget, hpu, hinc, Int.reduceLE, ↓reduceIte, reduceCtorEq, Nat.reduceEqDiff, Nat.reduceLeDiff, Nat.reduceAdd, Nat.reduceMul, Nat.reduceSub, Nat.reduceLT]; repeat' (first | exact Ok.out | with_reducible refine And.intro ?_ ?_ | (simp; done)))
 | (cases h; replace h := hr; clear hr; (try simp only [bs, ↓reduceIte] at h))
 | (cases h; done))

theorem Rblank_s (c : UInt8) (s : St) : Fun Try.prog n_ref1_blank [.int .u8 (c.toNat : Int)] s (.bool (isB c)) s := by
  refine Fun.pure ?_ rfl rfl s
  generalize h : isB c = b
  unfold isB at h
  unfold S0
  refine Fun.go has_ref1_blank rfl fun B Q hB hQ => ?_
  have hlt : 0 < 1 := Nat.zero_lt_one
  have hget : 0 < 1 := Nat.zero_lt_one
  have hpu : 0 < 1 := Nat.zero_lt_one
  have hinc : 0 < 1 := Nat.zero_lt_one
  repeat' (first
 | simp only [go_sem, hlt, hget, hpu, hinc, Int.reduceLE, ↓reduceIte, reduceCtorEq, Nat.reduceEqDiff, Nat.reduceLeDiff, Nat.reduceAdd, Nat.reduceMul, Nat.reduceSub, Nat.reduceLT]
 | (with_reducible first | refine CB_ofT (by assumption) fun hc => ?_ | refine CB_ofF (by assumption) fun hc => ?_ | refine CB_split (fun hc => ?_) fun hc => ?_) <;> (try simp only [hc, bs, ↓reduceIte] at h) <;> (try simp only [hc])
 | ((with_reducible first | refine leafR hQ ?_ | refine leafN hQ ?_); (try cases h); simp only [resL, oneD, Option.some.injEq, exists_eq_left', go_sem, hlt, hget, hpu, hinc, Int.reduceLE, ↓reduceIte, reduceCtorEq, Nat.reduceEqDiff, Nat.reduceLeDiff, Nat.reduceAdd, Nat.reduceMul, Nat.reduceSub, Nat.reduceLT]; repeat' (first | exact Ok.out | with_reducible refine And.intro ?_ ?_ | (simp; done)))
 | (cases h; replace h := hr; clear hr; (try simp only [bs, ↓reduceIte] at h))
 | (cases h; done))

theorem Words_s (s : St) : Fun Try.prog n_ref1_Words [] s (.slice .shared 1 [[.str [103, 108, 111, 98, 97, 108]], [.str [112, 114, 111, 99]], [.str [118, 97, 114]], [.str [114, 101, 102]], [.str [105, 102]], [.str [101, 108, 115, 101]], [.str [119, 104, 105, 108, 101]], [.str [98, 114, 101, 97, 107]], [.str [99, 111, 110, 116, 105, 110, 117, 101]], [.str [114, 101, 116, 117, 114, 110]], [.str [103, 111, 116, 111]], [.str [114, 101, 97, 100]], [.str [112, 114, 105, 110, 116]]]) s := by
  refine Fun.pure ?_ rfl rfl s
  unfold S0
  refine Fun.go has_ref1_Words rfl fun B Q hB hQ => ?_
  have hlt : 0 < 1 := Nat.zero_lt_one
  have hget : 0 < 1 := Nat.zero_lt_one
  have hpu : 0 < 1 := Nat.zero_lt_one
  have hinc : 0 < 1 := Nat.zero_lt_one
  repeat' (first
 | simp only [go_sem, hlt, hget, hpu, hinc, Int.reduceLE, ↓reduceIte, reduceCtorEq, Nat.reduceEqDiff, Nat.reduceLeDiff, Nat.reduceAdd, Nat.reduceMul, Nat.reduceSub, Nat.reduceLT]
 | (with_reducible first | refine CB_ofT (by assumption) fun hc => ?_ | refine CB_ofF (by assumption) fun hc => ?_ | refine CB_split (fun hc => ?_) fun hc => ?_) <;> (try simp only [hc, bs, ↓reduceIte] at h) <;> (try simp only [hc])
 | ((with_reducible first | refine leafR hQ ?_ | refine leafN hQ ?_); (try cases h); simp only [resL, oneD, Option.some.injEq, exists_eq_left', go_sem, hlt, hget, hpu, hinc, Int.reduceLE, ↓reduceIte, reduceCtorEq, Nat.reduceEqDiff, Nat.reduceLeDiff, Nat.reduceAdd, Nat.reduceMul, Nat.reduceSub, Nat.reduceLT]; repeat' (first | exact Ok.out | with_reducible refine And.intro ?_ ?_ | (simp; done)))
 | (cases h; replace h := hr; clear hr; (try simp only [bs, ↓reduceIte] at h))
 | (cases h; done))

def isWordR (s : Str) : Bool :=
  [103, 108, 111, 98, 97, 108] == s || [112, 114, 111, 99] == s || [118, 97, 114] == s || [114, 101, 102] == s || [105, 102] == s || [101, 108, 115, 101] == s || [119, 104, 105, 108, 101] == s || [98, 114, 101, 97, 107] == s || [99, 111, 110, 116, 105, 110, 117, 101] == s || [114, 101, 116, 117, 114, 110] == s || [103, 111, 116, 111] == s || [114, 101, 97, 100] == s || [112, 114, 105, 110, 116] == s
theorem isWordR_eq (s : Str) : isWordR s = isWord s := by
  have e : ∀ a : Str, (a == s) = (s == a) := fun a => BEq.comm
  simp only [isWordR, isWord, e]

theorem RWord_s (text : Str) (s : St) : Fun Try.prog n_ref1_Word [.str text] s (.bool (isWord text)) s := by
  refine Fun.pure ?_ rfl rfl s
  rw [← isWordR_eq]
  generalize h : isWordR text = p
  unfold isWordR at h
  unfold S0
  refine Fun.go has_ref1_Word rfl fun B Q hB hQ => ?_
  have hlt : 0 < 1 := Nat.zero_lt_one
  have hget : 0 < 1 := Nat.zero_lt_one
  have hpu : 0 < 1 := Nat.zero_lt_one
  have hinc : 0 < 1 := Nat.zero_lt_one
  repeat' (first
 | simp only [go_sem, hlt, hget, hpu, hinc, Int.reduceLE, ↓reduceIte, reduceCtorEq, Nat.reduceEqDiff, Nat.reduceLeDiff, Nat.reduceAdd, Nat.reduceMul, Nat.reduceSub, Nat.reduceLT, Int.cast_ofNat_Int, wrap_ok, Int.reduceAdd, Int.reduceLT, Int.reduceNeg, decide_true, decide_false, Int.reduceToNat]
 | (with_reducible refine CU (Words_s _) ?_)
 | (with_reducible refine SemL.onceW ?_)
 | (with_reducible first | refine CB_ofT (by assumption) fun hc => ?_ | refine CB_ofF (by assumption) fun hc => ?_ | refine CB_split (fun hc => ?_) fun hc => ?_) <;> (try simp only [hc, bs, ↓reduceIte] at h) <;> (try simp only [hc])
 | ((with_reducible first | refine leafR hQ ?_ | refine leafN hQ ?_); (try cases h); simp only [resL, oneD, Option.some.injEq, exists_eq_left', go_sem, hlt, hget, hpu, hinc, Int.reduceLE, ↓reduceIte, reduceCtorEq, Nat.reduceEqDiff, Nat.reduceLeDiff, Nat.reduceAdd, Nat.reduceMul, Nat.reduceSub, Nat.reduceLT, Int.cast_ofNat_Int, wrap_ok, Int.reduceAdd, Int.reduceLT, Int.reduceNeg, decide_true, decide_false, Int.reduceToNat]; repeat' (first | exact Ok.out | with_reducible refine And.intro ?_ ?_ | (simp; done)))
 | (cases h; replace h := hr; clear hr; (try simp only [bs, ↓reduceIte] at h))
 | (cases h; done))

theorem from_true {text : Str} (hl : text.length < 4611686018427387904) (s : St) : Fun Try.prog n_ref1_from [.str text, .bool true] s (.int .i64 ((runL text : Nat) : Int)) s := by
  refine Fun.pure ?_ rfl rfl s
  unfold S0
  refine Fun.go has_ref1_from rfl fun B Q hB hQ => ?_
  have hlt : 0 < 1 := Nat.zero_lt_one
  have hget : 0 < 1 := Nat.zero_lt_one
  have hpu : 0 < 1 := Nat.zero_lt_one
  have hinc : 0 < 1 := Nat.zero_lt_one
  repeat' (first
 | simp only [go_sem, hlt, hget, hpu, hinc, Int.reduceLE, ↓reduceIte, reduceCtorEq, Nat.reduceEqDiff, Nat.reduceLeDiff, Nat.reduceAdd, Nat.reduceMul, Nat.reduceSub, Nat.reduceLT]
 | (with_reducible first | refine CB_ofT (by assumption) fun hc => ?_ | refine CB_ofF (by assumption) fun hc => ?_ | refine CB_split (fun hc => ?_) fun hc => ?_) <;> (try simp only [hc, bs, ↓reduceIte] at h) <;> (try simp only [hc])
 | ((with_reducible first | refine leafR hQ ?_ | refine leafN hQ ?_); (try cases h); simp only [resL, oneD, Option.some.injEq, exists_eq_left', go_sem, hlt, hget, hpu, hinc, Int.reduceLE, ↓reduceIte, reduceCtorEq, Nat.reduceEqDiff, Nat.reduceLeDiff, Nat.reduceAdd, Nat.reduceMul, Nat.reduceSub, Nat.reduceLT]; repeat' (first | exact Ok.out | with_reducible refine And.intro ?_ ?_ | (simp; done)))
 | (cases h; replace h := hr; clear hr; (try simp only [bs, ↓reduceIte] at h))
 | (cases h; done))
  refine SemL.re _ _ 0 0 (by rw [hB]; exact Nat.le_of_ble_eq_true rfl) (by rw [hB]; exact Nat.le_of_ble_eq_true rfl) ?_ ?_ (SemL.ind (ι := Str × Nat) (fun i => text.drop i.2 = i.1 ∧ i.2 + runL i.1 = runL text) (fun i => i.1.length)
    (fun i => [(0, .str text), (1, .bool true), (5, .int .i64 (i.2 : Int))]) (fun i => ⟨[], []⟩) ?_ (text, 0) ⟨rfl, Nat.zero_add _⟩)
  · (simp only [go_sem, hlt, hget, hpu, hinc, Int.reduceLE, ↓reduceIte, reduceCtorEq, Nat.reduceEqDiff, Nat.reduceLeDiff, Nat.reduceAdd, Nat.reduceMul, Nat.reduceSub, Nat.reduceLT]; repeat' (first | exact Ok.out | with_reducible refine And.intro ?_ ?_))
  · (simp only [go_sem, hlt, hget, hpu, hinc, Int.reduceLE, ↓reduceIte, reduceCtorEq, Nat.reduceEqDiff, Nat.reduceLeDiff, Nat.reduceAdd, Nat.reduceMul, Nat.reduceSub, Nat.reduceLT]; repeat' (first | exact Ok.out | with_reducible refine And.intro ?_ ?_))
  rintro ⟨rest, k⟩ ⟨h1, h2⟩ IH
  dsimp only at h1 h2
  cases rest with
  | nil =>
    have hlt := drop_nil h1
    simp only [runL, Nat.add_zero] at h2
    rw [← h2] at hQ
    repeat' (first
 | simp only [go_sem, hlt, hget, hpu, hinc, Int.reduceLE, ↓reduceIte, reduceCtorEq, Nat.reduceEqDiff, Nat.reduceLeDiff, Nat.reduceAdd, Nat.reduceMul, Nat.reduceSub, Nat.reduceLT]
 | (with_reducible first | refine CB_ofT (by assumption) fun hc => ?_ | refine CB_ofF (by assumption) fun hc => ?_ | refine CB_split (fun hc => ?_) fun hc => ?_) <;> (try simp only [hc, bs, ↓reduceIte] at h) <;> (try simp only [hc])
 | ((with_reducible first | refine leafR hQ ?_ | refine leafN hQ ?_); (try cases h); simp only [resL, oneD, Option.some.injEq, exists_eq_left', go_sem, hlt, hget, hpu, hinc, Int.reduceLE, ↓reduceIte, reduceCtorEq, Nat.reduceEqDiff, Nat.reduceLeDiff, Nat.reduceAdd, Nat.reduceMul, Nat.reduceSub, Nat.reduceLT]; repeat' (first | exact Ok.out | with_reducible refine And.intro ?_ ?_ | (simp; done)))
 | (cases h; replace h := hr; clear hr; (try simp only [bs, ↓reduceIte] at h))
 | (cases h; done))
  | cons c rest =>
    obtain ⟨hget, g2, hlt, g4⟩ := drop_cons h1
    have hpu : k < 4611686018427387904 := by omega
    cases hb : (isL c || isD c)
    · simp only [runL, hb, Bool.false_eq_true, ↓reduceIte, Nat.add_zero] at h2
      rw [← h2] at hQ
      simp only [Bool.or_eq_false_iff] at hb
      repeat' (first
 | simp only [go_sem, hlt, hget, hpu, hinc, Int.reduceLE, ↓reduceIte, reduceCtorEq, Nat.reduceEqDiff, Nat.reduceLeDiff, Nat.reduceAdd, Nat.reduceMul, Nat.reduceSub, Nat.reduceLT, hb.1, hb.2]
 | (with_reducible refine CU (Rsmall_s _ _) ?_)
 | (with_reducible refine CU (Rdigit_s _ _) ?_)
 | (with_reducible first | refine CB_ofT (by assumption) fun hc => ?_ | refine CB_ofF (by assumption) fun hc => ?_ | refine CB_split (fun hc => ?_) fun hc => ?_) <;> (try simp only [hc, bs, ↓reduceIte] at h) <;> (try simp only [hc])
 | ((with_reducible first | refine leafR hQ ?_ | refine leafN hQ ?_); (try cases h); simp only [resL, oneD, Option.some.injEq, exists_eq_left', go_sem, hlt, hget, hpu, hinc, Int.reduceLE, ↓reduceIte, reduceCtorEq, Nat.reduceEqDiff, Nat.reduceLeDiff, Nat.reduceAdd, Nat.reduceMul, Nat.reduceSub, Nat.reduceLT, hb.1, hb.2]; repeat' (first | exact Ok.out | with_reducible refine And.intro ?_ ?_ | (simp; done)))
 | (cases h; replace h := hr; clear hr; (try simp only [bs, ↓reduceIte] at h))
 | (cases h; done))
    · simp only [runL, hb, ↓reduceIte] at h2
      cases hb1 : isD c
      · rw [hb1, Bool.or_false] at hb
        repeat' (first
 | simp only [go_sem, hlt, hget, hpu, hinc, Int.reduceLE, ↓reduceIte, reduceCtorEq, Nat.reduceEqDiff, Nat.reduceLeDiff, Nat.reduceAdd, Nat.reduceMul, Nat.reduceSub, Nat.reduceLT, hb, hb1]
 | (with_reducible refine CU (Rsmall_s _ _) ?_)
 | (with_reducible refine CU (Rdigit_s _ _) ?_)
 | (with_reducible first | refine CB_ofT (by assumption) fun hc => ?_ | refine CB_ofF (by assumption) fun hc => ?_ | refine CB_split (fun hc => ?_) fun hc => ?_) <;> (try simp only [hc, bs, ↓reduceIte] at h) <;> (try simp only [hc])
 | ((with_reducible first | refine leafR hQ ?_ | refine leafN hQ ?_); (try cases h); simp only [resL, oneD, Option.some.injEq, exists_eq_left', go_sem, hlt, hget, hpu, hinc, Int.reduceLE, ↓reduceIte, reduceCtorEq, Nat.reduceEqDiff, Nat.reduceLeDiff, Nat.reduceAdd, Nat.reduceMul, Nat.reduceSub, Nat.reduceLT, hb, hb1]; repeat' (first | exact Ok.out | with_reducible refine And.intro ?_ ?_ | (simp; done)))
 | (cases h; replace h := hr; clear hr; (try simp only [bs, ↓reduceIte] at h))
 | (cases h; done))
        refine SemL.re _ _ 0 0 (by rw [hB]; exact Nat.le_of_ble_eq_true rfl) (by rw [hB]; exact Nat.le_of_ble_eq_true rfl) ?_ ?_ (IH (rest, k + 1) ⟨g2, by dsimp only; omega⟩ (Nat.lt_succ_self _))
        · (simp only [go_sem, hlt, hget, hpu, hinc, Int.reduceLE, ↓reduceIte, reduceCtorEq, Nat.reduceEqDiff, Nat.reduceLeDiff, Nat.reduceAdd, Nat.reduceMul, Nat.reduceSub, Nat.reduceLT]; repeat' (first | exact Ok.out | with_reducible refine And.intro ?_ ?_))
        · (simp only [go_sem, hlt, hget, hpu, hinc, Int.reduceLE, ↓reduceIte, reduceCtorEq, Nat.reduceEqDiff, Nat.reduceLeDiff, Nat.reduceAdd, Nat.reduceMul, Nat.reduceSub, Nat.reduceLT]; repeat' (first | exact Ok.out | with_reducible refine And.intro ?_ ?_))
      · repeat' (first
 | simp only [go_sem, hlt, hget, hpu, hinc, Int.reduceLE, ↓reduceIte, reduceCtorEq, Nat.reduceEqDiff, Nat.reduceLeDiff, Nat.reduceAdd, Nat.reduceMul, Nat.reduceSub, Nat.reduceLT, hb1]
 | (with_reducible refine CU (Rsmall_s _ _) ?_)
 | (with_reducible refine CU (Rdigit_s _ _) ?_)
 | (with_reducible first | refine CB_ofT (by assumption) fun hc => ?_ | refine CB_ofF (by assumption) fun hc => ?_ | refine CB_split (fun hc => ?_) fun hc => ?_) <;> (try simp only [hc, bs, ↓reduceIte] at h) <;> (try simp only [hc])
 | ((with_reducible first | refine leafR hQ ?_ | refine leafN hQ ?_); (try cases h); simp only [resL, oneD, Option.some.injEq, exists_eq_left', go_sem, hlt, hget, hpu, hinc, Int.reduceLE, ↓reduceIte, reduceCtorEq, Nat.reduceEqDiff, Nat.reduceLeDiff, Nat.reduceAdd, Nat.reduceMul, Nat.reduceSub, Nat.reduceLT, hb1]; repeat' (first | exact Ok.out | with_reducible refine And.intro ?_ ?_ | (simp; done)))
 | (cases h; replace h := hr; clear hr; (try simp only [bs, ↓reduceIte] at h))
 | (cases h; done))
        refine SemL.re _ _ 0 0 (by rw [hB]; exact Nat.le_of_ble_eq_true rfl) (by rw [hB]; exact Nat.le_of_ble_eq_true rfl) ?_ ?_ (IH (rest, k + 1) ⟨g2, by dsimp only; omega⟩ (Nat.lt_succ_self _))
        · (simp only [go_sem, hlt, hget, hpu, hinc, Int.reduceLE, ↓reduceIte, reduceCtorEq, Nat.reduceEqDiff, Nat.reduceLeDiff, Nat.reduceAdd, Nat.reduceMul, Nat.reduceSub, Nat.reduceLT]; repeat' (first | exact Ok.out | with_reducible refine And.intro ?_ ?_))
        · (simp only [go_sem, hlt, hget, hpu, hinc, Int.reduceLE, ↓reduceIte, reduceCtorEq, Nat.reduceEqDiff, Nat.reduceLeDiff, Nat.reduceAdd, Nat.reduceMul, Nat.reduceSub, Nat.reduceLT]; repeat' (first | exact Ok.out | with_reducible refine And.intro ?_ ?_))

theorem from_false {text : Str} (hl : text.length < 4611686018427387904) (s : St) : Fun Try.prog n_ref1_from [.str text, .bool false] s (.int .i64 ((runD text : Nat) : Int)) s := by
  refine Fun.pure ?_ rfl rfl s
  unfold S0
  refine Fun.go has_ref1_from rfl fun B Q hB hQ => ?_
  have hlt : 0 < 1 := Nat.zero_lt_one
  have hget : 0 < 1 := Nat.zero_lt_one
  have hpu : 0 < 1 := Nat.zero_lt_one
  have hinc : 0 < 1 := Nat.zero_lt_one
  repeat' (first
 | simp only [go_sem, hlt, hget, hpu, hinc, Int.reduceLE, ↓reduceIte, reduceCtorEq, Nat.reduceEqDiff, Nat.reduceLeDiff, Nat.reduceAdd, Nat.reduceMul, Nat.reduceSub, Nat.reduceLT]
 | (with_reducible first | refine CB_ofT (by assumption) fun hc => ?_ | refine CB_ofF (by assumption) fun hc => ?_ | refine CB_split (fun hc => ?_) fun hc => ?_) <;> (try simp only [hc, bs, ↓reduceIte] at h) <;> (try simp only [hc])
 | ((with_reducible first | refine leafR hQ ?_ | refine leafN hQ ?_); (try cases h); simp only [resL, oneD, Option.some.injEq, exists_eq_left', go_sem, hlt, hget, hpu, hinc, Int.reduceLE, ↓reduceIte, reduceCtorEq, Nat.reduceEqDiff, Nat.reduceLeDiff, Nat.reduceAdd, Nat.reduceMul, Nat.reduceSub, Nat.reduceLT]; repeat' (first | exact Ok.out | with_reducible refine And.intro ?_ ?_ | (simp; done)))
 | (cases h; replace h := hr; clear hr; (try simp only [bs, ↓reduceIte] at h))
 | (cases h; done))
  refine SemL.re _ _ 0 0 (by rw [hB]; exact Nat.le_of_ble_eq_true rfl) (by rw [hB]; exact Nat.le_of_ble_eq_true rfl) ?_ ?_ (SemL.ind (ι := Str × Nat) (fun i => text.drop i.2 = i.1 ∧ i.2 + runD i.1 = runD text) (fun i => i.1.length)
    (fun i => [(0, .str text), (1, .bool false), (5, .int .i64 (i.2 : Int))]) (fun i => ⟨[], []⟩) ?_ (text, 0) ⟨rfl, Nat.zero_add _⟩)
  · (simp only [go_sem, hlt, hget, hpu, hinc, Int.reduceLE, ↓reduceIte, reduceCtorEq, Nat.reduceEqDiff, Nat.reduceLeDiff, Nat.reduceAdd, Nat.reduceMul, Nat.reduceSub, Nat.reduceLT]; repeat' (first | exact Ok.out | with_reducible refine And.intro ?_ ?_))
  · (simp only [go_sem, hlt, hget, hpu, hinc, Int.reduceLE, ↓reduceIte, reduceCtorEq, Nat.reduceEqDiff, Nat.reduceLeDiff, Nat.reduceAdd, Nat.reduceMul, Nat.reduceSub, Nat.reduceLT]; repeat' (first | exact Ok.out | with_reducible refine And.intro ?_ ?_))
  rintro ⟨rest, k⟩ ⟨h1, h2⟩ IH
  dsimp only at h1 h2
  cases rest with
  | nil =>
    have hlt := drop_nil h1
    simp only [runD, Nat.add_zero] at h2
    rw [← h2] at hQ
    repeat' (first
 | simp only [go_sem, hlt, hget, hpu, hinc, Int.reduceLE, ↓reduceIte, reduceCtorEq, Nat.reduceEqDiff, Nat.reduceLeDiff, Nat.reduceAdd, Nat.reduceMul, Nat.reduceSub, Nat.reduceLT]
 | (with_reducible first | refine CB_ofT (by assumption) fun hc => ?_ | refine CB_ofF (by assumption) fun hc => ?_ | refine CB_split (fun hc => ?_) fun hc => ?_) <;> (try simp only [hc, bs, ↓reduceIte] at h) <;> (try simp only [hc])
 | ((with_reducible first | refine leafR hQ ?_ | refine leafN hQ ?_); (try cases h); simp only [resL, oneD, Option.some.injEq, exists_eq_left', go_sem, hlt, hget, hpu, hinc, Int.reduceLE, ↓reduceIte, reduceCtorEq, Nat.reduceEqDiff, Nat.reduceLeDiff, Nat.reduceAdd, Nat.reduceMul, Nat.reduceSub, Nat.reduceLT]; repeat' (first | exact Ok.out | with_reducible refine And.intro ?_ ?_ | (simp; done)))
 | (cases h; replace h := hr; clear hr; (try simp only [bs, ↓reduceIte] at h))
 | (cases h; done))
  | cons c rest =>
    obtain ⟨hget, g2, hlt, g4⟩ := drop_cons h1
    have hpu : k < 4611686018427387904 := by omega
    cases hb : isD c
    · simp only [runD, hb, Bool.false_eq_true, ↓reduceIte, Nat.add_zero] at h2
      rw [← h2] at hQ
      repeat' (first
 | simp only [go_sem, hlt, hget, hpu, hinc, Int.reduceLE, ↓reduceIte, reduceCtorEq, Nat.reduceEqDiff, Nat.reduceLeDiff, Nat.reduceAdd, Nat.reduceMul, Nat.reduceSub, Nat.reduceLT, hb]
 | (with_reducible refine CU (Rdigit_s _ _) ?_)
 | (with_reducible first | refine CB_ofT (by assumption) fun hc => ?_ | refine CB_ofF (by assumption) fun hc => ?_ | refine CB_split (fun hc => ?_) fun hc => ?_) <;> (try simp only [hc, bs, ↓reduceIte] at h) <;> (try simp only [hc])
 | ((with_reducible first | refine leafR hQ ?_ | refine leafN hQ ?_); (try cases h); simp only [resL, oneD, Option.some.injEq, exists_eq_left', go_sem, hlt, hget, hpu, hinc, Int.reduceLE, ↓reduceIte, reduceCtorEq, Nat.reduceEqDiff, Nat.reduceLeDiff, Nat.reduceAdd, Nat.reduceMul, Nat.reduceSub, Nat.reduceLT, hb]; repeat' (first | exact Ok.out | with_reducible refine And.intro ?_ ?_ | (simp; done)))
 | (cases h; replace h := hr; clear hr; (try simp only [bs, ↓reduceIte] at h))
 | (cases h; done))
    · simp only [runD, hb, ↓reduceIte] at h2
      repeat' (first
 | simp only [go_sem, hlt, hget, hpu, hinc, Int.reduceLE, ↓reduceIte, reduceCtorEq, Nat.reduceEqDiff, Nat.reduceLeDiff, Nat.reduceAdd, Nat.reduceMul, Nat.reduceSub, Nat.reduceLT, hb]
 | (with_reducible refine CU (Rdigit_s _ _) ?_)
 | (with_reducible first | refine CB_ofT (by assumption) fun hc => ?_ | refine CB_ofF (by assumption) fun hc => ?_ | refine CB_split (fun hc => ?_) fun hc => ?_) <;> (try simp only [hc, bs, ↓reduceIte] at h) <;> (try simp only [hc])
 | ((with_reducible first | refine leafR hQ ?_ | refine leafN hQ ?_); (try cases h); simp only [resL, oneD, Option.some.injEq, exists_eq_left', go_sem, hlt, hget, hpu, hinc, Int.reduceLE, ↓reduceIte, reduceCtorEq, Nat.reduceEqDiff, Nat.reduceLeDiff, Nat.reduceAdd, Nat.reduceMul, Nat.reduceSub, Nat.reduceLT, hb]; repeat' (first | exact Ok.out | with_reducible refine And.intro ?_ ?_ | (simp; done)))
 | (cases h; replace h := hr; clear hr; (try simp only [bs, ↓reduceIte] at h))
 | (cases h; done))
      refine SemL.re _ _ 0 0 (by rw [hB]; exact Nat.le_of_ble_eq_true rfl) (by rw [hB]; exact Nat.le_of_ble_eq_true rfl) ?_ ?_ (IH (rest, k + 1) ⟨g2, by dsimp only; omega⟩ (Nat.lt_succ_self _))
      · (simp only [go_sem, hlt, hget, hpu, hinc, Int.reduceLE, ↓reduceIte, reduceCtorEq, Nat.reduceEqDiff, Nat.reduceLeDiff, Nat.reduceAdd, Nat.reduceMul, Nat.reduceSub, Nat.reduceLT]; repeat' (first | exact Ok.out | with_reducible refine And.intro ?_ ?_))
      · (simp only [go_sem, hlt, hget, hpu, hinc, Int.reduceLE, ↓reduceIte, reduceCtorEq, Nat.reduceEqDiff, Nat.reduceLeDiff, Nat.reduceAdd, Nat.reduceMul, Nat.reduceSub, Nat.reduceLT]; repeat' (first | exact Ok.out | with_reducible refine And.intro ?_ ?_))

set_option maxRecDepth 20000 in
theorem Rsign_s {c : UInt8} {r : Str} (s : St) : Fun Try.prog n_ref1_sign [.str (c :: r)] s (.int .i64 ((signL (c :: r) : Nat) : Int)) s := by
  refine Fun.pure ?_ rfl rfl s
  generalize h : signL (c :: r) = k
  unfold S0
  cases r with
  | nil =>
    have e : decide (((1 : Nat) : Int) ≥ 2) = false := rfl
    have e' : decide ((1 : Int) ≥ 2) = false := rfl
    simp only [signL, sign1] at h
    refine Fun.go has_ref1_sign rfl fun B Q hB hQ => ?_
    have hlt : 0 < 1 := Nat.zero_lt_one
    have hget : 0 < 1 := Nat.zero_lt_one
    have hpu : 0 < 1 := Nat.zero_lt_one
    have hinc : 0 < 1 := Nat.zero_lt_one
    repeat' (first
 | simp only [go_sem, hlt, hget, hpu, hinc, Int.reduceLE, ↓reduceIte, reduceCtorEq, Nat.reduceEqDiff, Nat.reduceLeDiff, Nat.reduceAdd, Nat.reduceMul, Nat.reduceSub, Nat.reduceLT, ne_eq, not_false_eq_true, e, e', Int.cast_ofNat_Int, wrap_ok, Int.reduceAdd, Int.reduceLT, Int.reduceNeg, decide_true, decide_false, Int.reduceToNat]
 | (with_reducible refine SemL.onceW ?_)
 | (with_reducible first | refine CB_ofT (by assumption) fun hc => ?_ | refine CB_ofF (by assumption) fun hc => ?_ | refine CB_split (fun hc => ?_) fun hc => ?_) <;> (try simp only [hc, bs, ↓reduceIte] at h) <;> (try simp only [hc])
 | ((with_reducible first | refine leafR hQ ?_ | refine leafN hQ ?_); (try cases h); simp only [resL, oneD, Option.some.injEq, exists_eq_left', go_sem, hlt, hget, hpu, hinc, Int.reduceLE, ↓reduceIte, reduceCtorEq, Nat.reduceEqDiff, Nat.reduceLeDiff, Nat.reduceAdd, Nat.reduceMul, Nat.reduceSub, Nat.reduceLT, ne_eq, not_false_eq_true, e, e', Int.cast_ofNat_Int, wrap_ok, Int.reduceAdd, Int.reduceLT, Int.reduceNeg, decide_true, decide_false, Int.reduceToNat]; repeat' (first | exact Ok.out | with_reducible refine And.intro ?_ ?_ | (simp; done)))
 | (cases h; replace h := hr; clear hr; (try simp only [bs, ↓reduceIte] at h))
 | (cases h; done))
  | cons d r =>
    have e : decide (((r.length + 1 + 1 : Nat) : Int) ≥ 2) = true := by simp; omega
    have e2 : (2 : Int) ≤ ((r.length + 1 + 1 : Nat) : Int) := by omega
    simp only [signL, sign1, sign2] at h
    refine Fun.go has_ref1_sign rfl fun B Q hB hQ => ?_
    have hlt : 0 < 1 := Nat.zero_lt_one
    have hget : 0 < 1 := Nat.zero_lt_one
    have hpu : 0 < 1 := Nat.zero_lt_one
    have hinc : 0 < 1 := Nat.zero_lt_one
    repeat' (first
 | simp only [go_sem, hlt, hget, hpu, hinc, Int.reduceLE, ↓reduceIte, reduceCtorEq, Nat.reduceEqDiff, Nat.reduceLeDiff, Nat.reduceAdd, Nat.reduceMul, Nat.reduceSub, Nat.reduceLT, ne_eq, not_false_eq_true, e, e2, Int.cast_ofNat_Int, wrap_ok, Int.reduceAdd, Int.reduceLT, Int.reduceNeg, decide_true, decide_false, Int.reduceToNat]
 | (with_reducible refine SemL.onceW ?_)
 | (with_reducible first | refine CB_ofT (by assumption) fun hc => ?_ | refine CB_ofF (by assumption) fun hc => ?_ | refine CB_split (fun hc => ?_) fun hc => ?_) <;> (try simp only [hc, bs, ↓reduceIte] at h) <;> (try simp only [hc])
 | ((with_reducible first | refine leafR hQ ?_ | refine leafN hQ ?_); (try cases h); simp only [resL, oneD, Option.some.injEq, exists_eq_left', go_sem, hlt, hget, hpu, hinc, Int.reduceLE, ↓reduceIte, reduceCtorEq, Nat.reduceEqDiff, Nat.reduceLeDiff, Nat.reduceAdd, Nat.reduceMul, Nat.reduceSub, Nat.reduceLT, ne_eq, not_false_eq_true, e, e2, Int.cast_ofNat_Int, wrap_ok, Int.reduceAdd, Int.reduceLT, Int.reduceNeg, decide_true, decide_false, Int.reduceToNat]; repeat' (first | exact Ok.out | with_reducible refine And.intro ?_ ?_ | (simp; done)))
 | (cases h; replace h := hr; clear hr; (try simp only [bs, ↓reduceIte] at h))
 | (cases h; done))

end Go.Abs

/-! RefLex2 -/

namespace Go.Abs

set_option maxRecDepth 8000
set_option linter.unusedSimpArgs false
set_option linter.unusedVariables false
open Go.Proofs

/-- What digits say. -/
def valD : Int → Str → Int
  | n, [] => n
  | n, c :: r => valD (n * 10 + ((c.toNat : Int) - 48)) r

theorem valD_ge : ∀ (s : Str) (n : Int), 0 ≤ n → (∀ c ∈ s, isD c = true) → n * 10 ^ s.length ≤ valD n s
  | [], n, h, _ => by simp [valD]
  | c :: r, n, h, hd => by
    have hc := isD_range (hd c (List.mem_cons_self ..))
    have ih := valD_ge r (n * 10 + ((c.toNat : Int) - 48)) (by omega) (fun d hm => hd d (List.mem_cons_of_mem _ hm))
    simp only [valD, List.length_cons]
    refine Int.le_trans ?_ ih
    rw [Int.pow_succ, ← Int.mul_assoc, Int.mul_assoc n, Int.mul_comm (10 ^ r.length) 10, ← Int.mul_assoc]
    exact Int.mul_le_mul_of_nonneg_right (by omega) (Int.pow_nonneg (by decide))

theorem valD_mono : ∀ (s : Str) (n : Int), 0 ≤ n → (∀ c ∈ s, isD c = true) → n ≤ valD n s
  | [], n, h, _ => by simp [valD]
  | c :: r, n, h, hd => by
    have hc := isD_range (hd c (List.mem_cons_self ..))
    have ih := valD_mono r (n * 10 + ((c.toNat : Int) - 48)) (by omega) (fun d hm => hd d (List.mem_cons_of_mem _ hm))
    simp only [valD]
    omega

theorem valD_lt : ∀ (s : Str) (n : Int), 0 ≤ n → (∀ c ∈ s, isD c = true) → valD n s < (n + 1) * 10 ^ s.length
  | [], n, h, _ => by simp [valD]; omega
  | c :: r, n, h, hd => by
    have hc := isD_range (hd c (List.mem_cons_self ..))
    have ih := valD_lt r (n * 10 + ((c.toNat : Int) - 48)) (by omega) (fun d hm => hd d (List.mem_cons_of_mem _ hm))
    simp only [valD, List.length_cons]
    refine Int.lt_of_lt_of_le ih ?_
    rw [Int.pow_succ, ← Int.mul_assoc, Int.mul_assoc (n + 1), Int.mul_comm (10 ^ r.length) 10, ← Int.mul_assoc]
    exact Int.mul_le_mul_of_nonneg_right (by omega) (Int.pow_nonneg (by decide))

theorem worth_val : ∀ (s : Str) (n : Int), 0 ≤ n → n ≤ 9223372036854775807 → (∀ c ∈ s, isD c = true) → worth n s = if valD n s ≤ 9223372036854775807 then some (valD n s) else none
  | [], n, h, h2, _ => by simp [worth, valD, h2]
  | c :: r, n, h, h2, hd => by
    have hc := isD_range (hd c (List.mem_cons_self ..))
    have hr : ∀ d ∈ r, isD d = true := fun d hm => hd d (List.mem_cons_of_mem _ hm)
    have e : valD n (c :: r) = valD (n * 10 + ((c.toNat : Int) - 48)) r := rfl
    rw [e]
    simp only [worth]
    by_cases hn : n > (9223372036854775807 - ((c.toNat : Int) - 48)) / 10
    · rw [if_pos hn]
      have := valD_mono r (n * 10 + ((c.toNat : Int) - 48)) (by omega) hr
      rw [if_neg (by omega)]
    · rw [if_neg hn]
      exact worth_val r _ (by omega) (by omega) hr

theorem wrap_u64 {x : Int} (h1 : 0 ≤ x) (h2 : x < 18446744073709551616) : IntKind.wrap .u64 x = x := by
  simp [IntKind.wrap, IntKind.bits, IntKind.signed]; omega
theorem Worth_s {text : Str} (hd : ∀ c ∈ text, isD c = true) (hl : text.length ≤ 19) (s : St) :
    Fun Try.prog n_ref1_Worth [.str text] s (.tuple [.int .i64 (IntKind.wrap .i64 (valD 0 text)), .bool (decide (valD 0 text ≤ 9223372036854775807))]) s := by
  refine Fun.pure ?_ rfl rfl s
  have hgt : decide ((text.length : Int) > 19) = false := by simp; omega
  have htop : valD 0 text < 10000000000000000000 := by
    have h1 := valD_lt text 0 (Int.le_refl 0) hd
    have h2 : (10 : Int) ^ text.length ≤ 10 ^ 19 := by
      have : (10 : Nat) ^ text.length ≤ 10 ^ 19 := Nat.pow_le_pow_right (by decide) hl
      have e1 : ((10 ^ text.length : Nat) : Int) = (10 : Int) ^ text.length := by simp
      have e2 : ((10 ^ 19 : Nat) : Int) = (10 : Int) ^ 19 := by simp
      rw [← e1, ← e2]; exact_mod_cast this
    have h3 : (10 : Int) ^ 19 = 10000000000000000000 := by decide
    omega
  unfold S0
  refine Fun.go has_ref1_Worth rfl fun B Q hB hQ => ?_
  have hlt : 0 < 1 := Nat.zero_lt_one
  have hget : 0 < 1 := Nat.zero_lt_one
  have hpu : 0 < 1 := Nat.zero_lt_one
  have hinc : 0 < 1 := Nat.zero_lt_one
  repeat' (first
 | simp only [go_sem, hlt, hget, hpu, hinc, Int.reduceLE, ↓reduceIte, reduceCtorEq, Nat.reduceEqDiff, Nat.reduceLeDiff, Nat.reduceAdd, Nat.reduceMul, Nat.reduceSub, Nat.reduceLT, hgt]
 | (with_reducible first | refine CB_ofT (by assumption) fun hc => ?_ | refine CB_ofF (by assumption) fun hc => ?_ | refine CB_split (fun hc => ?_) fun hc => ?_) <;> (try simp only [hc, bs, ↓reduceIte] at h) <;> (try simp only [hc])
 | ((with_reducible first | refine leafR hQ ?_ | refine leafN hQ ?_); (try cases h); simp only [resL, oneD, Option.some.injEq, exists_eq_left', go_sem, hlt, hget, hpu, hinc, Int.reduceLE, ↓reduceIte, reduceCtorEq, Nat.reduceEqDiff, Nat.reduceLeDiff, Nat.reduceAdd, Nat.reduceMul, Nat.reduceSub, Nat.reduceLT, hgt]; repeat' (first | exact Ok.out | with_reducible refine And.intro ?_ ?_ | (simp; done)))
 | (cases h; replace h := hr; clear hr; (try simp only [bs, ↓reduceIte] at h))
 | (cases h; done))
  refine SemL.re _ _ 0 0 (by rw [hB]; exact Nat.le_of_ble_eq_true rfl) (by rw [hB]; exact Nat.le_of_ble_eq_true rfl) ?_ ?_ (SemL.ind (ι := Str × Nat × Int) (fun i => text.drop i.2.1 = i.1 ∧ 0 ≤ i.2.2 ∧ valD i.2.2 i.1 = valD 0 text) (fun i => i.1.length)
    (fun i => [(0, .str text), (4, .int .u64 i.2.2), (5, .int .i64 (i.2.1 : Int))]) (fun i => ⟨[], []⟩) ?_ (text, 0, 0) ⟨rfl, Int.le_refl 0, rfl⟩)
  · (simp only [go_sem, hlt, hget, hpu, hinc, Int.reduceLE, ↓reduceIte, reduceCtorEq, Nat.reduceEqDiff, Nat.reduceLeDiff, Nat.reduceAdd, Nat.reduceMul, Nat.reduceSub, Nat.reduceLT]; repeat' (first | exact Ok.out | with_reducible refine And.intro ?_ ?_))
  · (simp only [go_sem, hlt, hget, hpu, hinc, Int.reduceLE, ↓reduceIte, reduceCtorEq, Nat.reduceEqDiff, Nat.reduceLeDiff, Nat.reduceAdd, Nat.reduceMul, Nat.reduceSub, Nat.reduceLT]; repeat' (first | exact Ok.out | with_reducible refine And.intro ?_ ?_))
  rintro ⟨rest, k, n⟩ ⟨h1, h2, h3⟩ IH
  dsimp only at h1 h2 h3
  cases rest with
  | nil =>
    have hlt := drop_nil h1
    simp only [valD] at h3
    rw [← h3] at hQ
    repeat' (first
 | simp only [go_sem, hlt, hget, hpu, hinc, Int.reduceLE, ↓reduceIte, reduceCtorEq, Nat.reduceEqDiff, Nat.reduceLeDiff, Nat.reduceAdd, Nat.reduceMul, Nat.reduceSub, Nat.reduceLT]
 | (with_reducible first | refine CB_ofT (by assumption) fun hc => ?_ | refine CB_ofF (by assumption) fun hc => ?_ | refine CB_split (fun hc => ?_) fun hc => ?_) <;> (try simp only [hc, bs, ↓reduceIte] at h) <;> (try simp only [hc])
 | ((with_reducible first | refine leafR hQ ?_ | refine leafN hQ ?_); (try cases h); simp only [resL, oneD, Option.some.injEq, exists_eq_left', go_sem, hlt, hget, hpu, hinc, Int.reduceLE, ↓reduceIte, reduceCtorEq, Nat.reduceEqDiff, Nat.reduceLeDiff, Nat.reduceAdd, Nat.reduceMul, Nat.reduceSub, Nat.reduceLT]; repeat' (first | exact Ok.out | with_reducible refine And.intro ?_ ?_ | (simp; done)))
 | (cases h; replace h := hr; clear hr; (try simp only [bs, ↓reduceIte] at h))
 | (cases h; done))
  | cons c rest =>
    obtain ⟨hget, g2, hlt, g4⟩ := drop_cons h1
    have hpu : k < 4611686018427387904 := by omega
    have hc := isD_range (hd c (List.mem_of_getElem? hget))
    simp only [valD] at h3
    have hmono := valD_mono rest (n * 10 + ((c.toNat : Int) - 48)) (by omega) (fun d hm => hd d (by
      have : d ∈ text.drop k := by rw [h1]; exact List.mem_cons_of_mem _ hm
      exact List.mem_of_mem_drop this))
    have w1 : IntKind.wrap .u8 ((c.toNat : Int) - 48) = (c.toNat : Int) - 48 := by rw [IntKind.wrap_u8]; omega
    have w2 : IntKind.wrap .u64 ((c.toNat : Int) - 48) = (c.toNat : Int) - 48 := by exact wrap_u64 (by omega) (by omega)
    have w3 : IntKind.wrap .u64 (n * 10) = n * 10 := by exact wrap_u64 (by omega) (by omega)
    have w4 : IntKind.wrap .u64 (n * 10 + ((c.toNat : Int) - 48)) = n * 10 + ((c.toNat : Int) - 48) := by exact wrap_u64 (by omega) (by omega)
    repeat' (first
 | simp only [go_sem, hlt, hget, hpu, hinc, Int.reduceLE, ↓reduceIte, reduceCtorEq, Nat.reduceEqDiff, Nat.reduceLeDiff, Nat.reduceAdd, Nat.reduceMul, Nat.reduceSub, Nat.reduceLT, w1, w2, w3, w4]
 | (with_reducible first | refine CB_ofT (by assumption) fun hc => ?_ | refine CB_ofF (by assumption) fun hc => ?_ | refine CB_split (fun hc => ?_) fun hc => ?_) <;> (try simp only [hc, bs, ↓reduceIte] at h) <;> (try simp only [hc])
 | ((with_reducible first | refine leafR hQ ?_ | refine leafN hQ ?_); (try cases h); simp only [resL, oneD, Option.some.injEq, exists_eq_left', go_sem, hlt, hget, hpu, hinc, Int.reduceLE, ↓reduceIte, reduceCtorEq, Nat.reduceEqDiff, Nat.reduceLeDiff, Nat.reduceAdd, Nat.reduceMul, Nat.reduceSub, Nat.reduceLT, w1, w2, w3, w4]; repeat' (first | exact Ok.out | with_reducible refine And.intro ?_ ?_ | (simp; done)))
 | (cases h; replace h := hr; clear hr; (try simp only [bs, ↓reduceIte] at h))
 | (cases h; done))
    refine SemL.re _ _ 0 0 (by rw [hB]; exact Nat.le_of_ble_eq_true rfl) (by rw [hB]; exact Nat.le_of_ble_eq_true rfl) ?_ ?_ (IH (rest, k + 1, n * 10 + ((c.toNat : Int) - 48)) ⟨g2, by dsimp only; omega, h3⟩ (Nat.lt_succ_self _))
    · (simp only [go_sem, hlt, hget, hpu, hinc, Int.reduceLE, ↓reduceIte, reduceCtorEq, Nat.reduceEqDiff, Nat.reduceLeDiff, Nat.reduceAdd, Nat.reduceMul, Nat.reduceSub, Nat.reduceLT]; repeat' (first | exact Ok.out | with_reducible refine And.intro ?_ ?_))
    · (simp only [go_sem, hlt, hget, hpu, hinc, Int.reduceLE, ↓reduceIte, reduceCtorEq, Nat.reduceEqDiff, Nat.reduceLeDiff, Nat.reduceAdd, Nat.reduceMul, Nat.reduceSub, Nat.reduceLT]; repeat' (first | exact Ok.out | with_reducible refine And.intro ?_ ?_))

theorem Worth_big {text : Str} (hl : text.length > 19) (s : St) : Fun Try.prog n_ref1_Worth [.str text] s (.tuple [.int .i64 0, .bool false]) s := by
  refine Fun.pure ?_ rfl rfl s
  have hgt : decide ((text.length : Int) > 19) = true := by simp; omega
  unfold S0
  refine Fun.go has_ref1_Worth rfl fun B Q hB hQ => ?_
  have hlt : 0 < 1 := Nat.zero_lt_one
  have hget : 0 < 1 := Nat.zero_lt_one
  have hpu : 0 < 1 := Nat.zero_lt_one
  have hinc : 0 < 1 := Nat.zero_lt_one
  repeat' (first
 | simp only [go_sem, hlt, hget, hpu, hinc, Int.reduceLE, ↓reduceIte, reduceCtorEq, Nat.reduceEqDiff, Nat.reduceLeDiff, Nat.reduceAdd, Nat.reduceMul, Nat.reduceSub, Nat.reduceLT, hgt]
 | (with_reducible first | refine CB_ofT (by assumption) fun hc => ?_ | refine CB_ofF (by assumption) fun hc => ?_ | refine CB_split (fun hc => ?_) fun hc => ?_) <;> (try simp only [hc, bs, ↓reduceIte] at h) <;> (try simp only [hc])
 | ((with_reducible first | refine leafR hQ ?_ | refine leafN hQ ?_); (try cases h); simp only [resL, oneD, Option.some.injEq, exists_eq_left', go_sem, hlt, hget, hpu, hinc, Int.reduceLE, ↓reduceIte, reduceCtorEq, Nat.reduceEqDiff, Nat.reduceLeDiff, Nat.reduceAdd, Nat.reduceMul, Nat.reduceSub, Nat.reduceLT, hgt]; repeat' (first | exact Ok.out | with_reducible refine And.intro ?_ ?_ | (simp; done)))
 | (cases h; replace h := hr; clear hr; (try simp only [bs, ↓reduceIte] at h))
 | (cases h; done))

theorem isWord_len {s : Str} (h : isWord s = true) : s.length ≤ 8 := by
  simp only [isWord, Bool.or_eq_true, beq_iff_eq] at h
  rcases h with ((((((((((((h | h) | h) | h) | h) | h) | h) | h) | h) | h) | h) | h) | h) <;> subst h <;> decide

def tok0 : Tok := ⟨0, [], 0, 0⟩
def tokR (x : Tok ⊕ Int) : Tok × Int :=
  match x with
  | .inl t => (t, 0)
  | .inr e => (tok0, e)

theorem token_s {c : UInt8} {r : Str} {pos : Nat} (hl : (c :: r).length < 4611686018427387904) (s : St) :
    Fun Try.prog n_ref1_token [.str (c :: r), .int .i64 (pos : Int)] s (.tuple [.agg (encTok (tokR (tokE pos (c :: r))).1), .int .i64 (tokR (tokE pos (c :: r))).2]) s := by
  refine Fun.pure ?_ rfl (by simp [D.ok, D.oks, okTok]) s
  generalize h : tokR (tokE pos (c :: r)) = p
  simp only [tokE] at h
  have hft := fun s => from_true hl s
  have hff := fun s => from_false hl s
  have hk1 := runL_len (c :: r)
  have hk2 := runD_len (c :: r)
  have hk3 := signL_len (c :: r)
  have hs := fun s => Rsign_s (c := c) (r := r) s
  have hall := runD_all (c :: r)
  generalize hK1 : runL (c :: r) = k1 at h hft hk1
  generalize hK2 : runD (c :: r) = k2 at h hff hk2 hall
  generalize hK3 : signL (c :: r) = k3 at h hs hk3
  have l1 : ((c :: r).take k1).length = k1 := by rw [List.length_take]; omega
  have l2 : ((c :: r).take k2).length = k2 := by rw [List.length_take]; omega
  unfold S0
  cases hL : isL c
  · simp only [hL, Bool.false_eq_true, ↓reduceIte] at h
    cases hD : isD c
    · simp only [hD, Bool.false_eq_true, ↓reduceIte] at h
      have e1 : (0 : Int) ≤ (k3 : Int) ∧ (k3 : Int) ≤ ((c :: r).length : Int) := by omega
      simp only [List.length_cons] at e1
      by_cases hz : k3 = 0
      · have hz' : ((k3 : Int) == 0) = true := by simp [hz]
        simp only [hz, ↓reduceIte, tokR, tok0] at h
        refine Fun.go has_ref1_token rfl fun B Q hB hQ => ?_
        have hlt : 0 < 1 := Nat.zero_lt_one
        have hget : 0 < 1 := Nat.zero_lt_one
        have hpu : 0 < 1 := Nat.zero_lt_one
        have hinc : 0 < 1 := Nat.zero_lt_one
        repeat' (first
 | simp only [go_sem, hlt, hget, hpu, hinc, Int.reduceLE, ↓reduceIte, reduceCtorEq, Nat.reduceEqDiff, Nat.reduceLeDiff, Nat.reduceAdd, Nat.reduceMul, Nat.reduceSub, Nat.reduceLT, hL, hD, hz']
 | (with_reducible refine CU (Rsmall_s _ _) ?_)
 | (with_reducible refine CU (Rdigit_s _ _) ?_)
 | (with_reducible refine CU (hs _) ?_)
 | (with_reducible first | refine CB_ofT (by assumption) fun hc => ?_ | refine CB_ofF (by assumption) fun hc => ?_ | refine CB_split (fun hc => ?_) fun hc => ?_) <;> (try simp only [hc, bs, ↓reduceIte] at h) <;> (try simp only [hc])
 | ((with_reducible first | refine leafR hQ ?_ | refine leafN hQ ?_); (try cases h); simp only [resL, oneD, Option.some.injEq, exists_eq_left', go_sem, hlt, hget, hpu, hinc, Int.reduceLE, ↓reduceIte, reduceCtorEq, Nat.reduceEqDiff, Nat.reduceLeDiff, Nat.reduceAdd, Nat.reduceMul, Nat.reduceSub, Nat.reduceLT, hL, hD, hz']; repeat' (first | exact Ok.out | with_reducible refine And.intro ?_ ?_ | (simp; done)))
 | (cases h; replace h := hr; clear hr; (try simp only [bs, ↓reduceIte] at h))
 | (cases h; done))
      · have hz' : ((k3 : Int) == 0) = false := by simp; omega
        simp only [hz, ↓reduceIte, tokR] at h
        refine Fun.go has_ref1_token rfl fun B Q hB hQ => ?_
        have hlt : 0 < 1 := Nat.zero_lt_one
        have hget : 0 < 1 := Nat.zero_lt_one
        have hpu : 0 < 1 := Nat.zero_lt_one
        have hinc : 0 < 1 := Nat.zero_lt_one
        repeat' (first
 | simp only [go_sem, hlt, hget, hpu, hinc, Int.reduceLE, ↓reduceIte, reduceCtorEq, Nat.reduceEqDiff, Nat.reduceLeDiff, Nat.reduceAdd, Nat.reduceMul, Nat.reduceSub, Nat.reduceLT, hL, hD, hz', e1]
 | (with_reducible refine CU (Rsmall_s _ _) ?_)
 | (with_reducible refine CU (Rdigit_s _ _) ?_)
 | (with_reducible refine CU (hs _) ?_)
 | (with_reducible first | refine CB_ofT (by assumption) fun hc => ?_ | refine CB_ofF (by assumption) fun hc => ?_ | refine CB_split (fun hc => ?_) fun hc => ?_) <;> (try simp only [hc, bs, ↓reduceIte] at h) <;> (try simp only [hc])
 | ((with_reducible first | refine leafR hQ ?_ | refine leafN hQ ?_); (try cases h); simp only [resL, oneD, Option.some.injEq, exists_eq_left', go_sem, hlt, hget, hpu, hinc, Int.reduceLE, ↓reduceIte, reduceCtorEq, Nat.reduceEqDiff, Nat.reduceLeDiff, Nat.reduceAdd, Nat.reduceMul, Nat.reduceSub, Nat.reduceLT, hL, hD, hz', e1]; repeat' (first | exact Ok.out | with_reducible refine And.intro ?_ ?_ | (simp; done)))
 | (cases h; replace h := hr; clear hr; (try simp only [bs, ↓reduceIte] at h))
 | (cases h; done))
    · simp only [hD, ↓reduceIte, l2] at h
      have hk0 : 0 < k2 := by rw [← hK2]; simp [runD, hD]
      have e1 : (0 : Int) ≤ (k2 : Int) ∧ (k2 : Int) ≤ ((c :: r).length : Int) := by omega
      simp only [List.length_cons] at e1
      have hfirst : ((c :: r).take k2)[0]? = some c := by rw [List.getElem?_take_of_lt hk0]; rfl
      by_cases hz : k2 > 1 ∧ (c.toNat : Int) = 48
      · have z1 : decide ((k2 : Int) > 1) = true := by simp; omega
        have z2 : ((c.toNat : Int) == 48) = true := by simp [hz.2]
        rw [if_pos hz] at h
        simp only [tokR, tok0] at h
        refine Fun.go has_ref1_token rfl fun B Q hB hQ => ?_
        have hlt : 0 < 1 := Nat.zero_lt_one
        have hget : 0 < 1 := Nat.zero_lt_one
        have hpu : 0 < 1 := Nat.zero_lt_one
        have hinc : 0 < 1 := Nat.zero_lt_one
        repeat' (first
 | simp only [go_sem, hlt, hget, hpu, hinc, Int.reduceLE, ↓reduceIte, reduceCtorEq, Nat.reduceEqDiff, Nat.reduceLeDiff, Nat.reduceAdd, Nat.reduceMul, Nat.reduceSub, Nat.reduceLT, hL, hD, z1, z2, e1, l2, hfirst]
 | (with_reducible refine CU (Rsmall_s _ _) ?_)
 | (with_reducible refine CU (Rdigit_s _ _) ?_)
 | (with_reducible refine CU (hff _) ?_)
 | (with_reducible first | refine CB_ofT (by assumption) fun hc => ?_ | refine CB_ofF (by assumption) fun hc => ?_ | refine CB_split (fun hc => ?_) fun hc => ?_) <;> (try simp only [hc, bs, ↓reduceIte] at h) <;> (try simp only [hc])
 | ((with_reducible first | refine leafR hQ ?_ | refine leafN hQ ?_); (try cases h); simp only [resL, oneD, Option.some.injEq, exists_eq_left', go_sem, hlt, hget, hpu, hinc, Int.reduceLE, ↓reduceIte, reduceCtorEq, Nat.reduceEqDiff, Nat.reduceLeDiff, Nat.reduceAdd, Nat.reduceMul, Nat.reduceSub, Nat.reduceLT, hL, hD, z1, z2, e1, l2, hfirst]; repeat' (first | exact Ok.out | with_reducible refine And.intro ?_ ?_ | (simp; done)))
 | (cases h; replace h := hr; clear hr; (try simp only [bs, ↓reduceIte] at h))
 | (cases h; done))
      · have hz' : decide ((k2 : Int) > 1) = false ∨ (decide ((k2 : Int) > 1) = true ∧ ((c.toNat : Int) == 48) = false) := by
          by_cases h1 : k2 > 1
          · right; exact ⟨by simp; omega, by simp; intro h2; exact hz ⟨h1, h2⟩⟩
          · left; simp; omega
        rw [if_neg hz] at h
        rw [worth_val _ _ (Int.le_refl 0) (by decide) hall] at h
        have hw : Fun Try.prog n_ref1_Worth [.str ((c :: r).take k2)] S0 (.tuple [.int .i64 (if valD 0 ((c :: r).take k2) ≤ 9223372036854775807 then valD 0 ((c :: r).take k2) else 0), .bool (decide (valD 0 ((c :: r).take k2) ≤ 9223372036854775807))]) S0 ∨
            (¬ valD 0 ((c :: r).take k2) ≤ 9223372036854775807 ∧ ∃ v : Int, Fun Try.prog n_ref1_Worth [.str ((c :: r).take k2)] S0 (.tuple [.int .i64 v, .bool false]) S0) := by
          by_cases hbig : k2 > 19
          · right
            refine ⟨?_, 0, Worth_big (by rw [l2]; omega) S0⟩
            have h48 : ¬ (c.toNat : Int) = 48 := fun e => hz ⟨by omega, e⟩
            have hc := isD_range hD
            have hk2e : (c :: r).take k2 = c :: r.take (k2 - 1) := by
              cases k2 with
              | zero => omega
              | succ k => rfl
            rw [hk2e]
            have hge := valD_ge (r.take (k2 - 1)) ((c.toNat : Int) - 48) (by omega) (fun d hm => hall d (by rw [hk2e]; exact List.mem_cons_of_mem _ hm))
            have hlen : (r.take (k2 - 1)).length = k2 - 1 := by rw [List.length_take]; simp only [List.length_cons] at hk2; omega
            rw [hlen] at hge
            have hp : (10 : Int) ^ 19 ≤ 10 ^ (k2 - 1) := by
              have : (10 : Nat) ^ 19 ≤ 10 ^ (k2 - 1) := Nat.pow_le_pow_right (by decide) (by omega)
              have e1 : ((10 ^ (k2 - 1) : Nat) : Int) = (10 : Int) ^ (k2 - 1) := by simp
              have e2 : ((10 ^ 19 : Nat) : Int) = (10 : Int) ^ 19 := by simp
              rw [← e1, ← e2]; exact_mod_cast this
            have h19 : (10 : Int) ^ 19 = 10000000000000000000 := by decide
            have hm : (1 : Int) * 10 ^ (k2 - 1) ≤ ((c.toNat : Int) - 48) * 10 ^ (k2 - 1) := Int.mul_le_mul_of_nonneg_right (by omega) (Int.pow_nonneg (by decide))
            have : valD 0 (c :: r.take (k2 - 1)) = valD ((c.toNat : Int) - 48) (r.take (k2 - 1)) := by simp [valD]
            omega
          · have hW := Worth_s hall (by rw [l2]; omega) S0
            by_cases hv : valD 0 ((c :: r).take k2) ≤ 9223372036854775807
            · left
              have h0 := valD_mono _ 0 (Int.le_refl 0) hall
              rw [wrap_ok (by omega) (by omega)] at hW
              simpa [hv] using hW
            · right
              refine ⟨hv, IntKind.wrap .i64 (valD 0 ((c :: r).take k2)), ?_⟩
              have : decide (valD 0 ((c :: r).take k2) ≤ 9223372036854775807) = false := by simpa using hv
              rw [this] at hW
              exact hW
        rcases hw with hw | ⟨hv, v, hw⟩
        · by_cases hv : valD 0 ((c :: r).take k2) ≤ 9223372036854775807
          · have hv' : decide (valD 0 ((c :: r).take k2) ≤ 9223372036854775807) = true := by simpa using hv
            rw [if_pos hv] at h hw
            rw [hv'] at hw
            simp only [tokR] at h
            have hwp := fun s => hw.pure rfl rfl s
            refine Fun.go has_ref1_token rfl fun B Q hB hQ => ?_
            have hlt : 0 < 1 := Nat.zero_lt_one
            have hget : 0 < 1 := Nat.zero_lt_one
            have hpu : 0 < 1 := Nat.zero_lt_one
            have hinc : 0 < 1 := Nat.zero_lt_one
            rcases hz' with z1 | ⟨z1, z2⟩
            · repeat' (first
 | simp only [go_sem, hlt, hget, hpu, hinc, Int.reduceLE, ↓reduceIte, reduceCtorEq, Nat.reduceEqDiff, Nat.reduceLeDiff, Nat.reduceAdd, Nat.reduceMul, Nat.reduceSub, Nat.reduceLT, hL, hD, z1, e1, l2, hfirst]
 | (with_reducible refine CU (Rsmall_s _ _) ?_)
 | (with_reducible refine CU (Rdigit_s _ _) ?_)
 | (with_reducible refine CU (hff _) ?_)
 | (with_reducible refine CU (hwp _) ?_)
 | (with_reducible first | refine CB_ofT (by assumption) fun hc => ?_ | refine CB_ofF (by assumption) fun hc => ?_ | refine CB_split (fun hc => ?_) fun hc => ?_) <;> (try simp only [hc, bs, ↓reduceIte] at h) <;> (try simp only [hc])
 | ((with_reducible first | refine leafR hQ ?_ | refine leafN hQ ?_); (try cases h); simp only [resL, oneD, Option.some.injEq, exists_eq_left', go_sem, hlt, hget, hpu, hinc, Int.reduceLE, ↓reduceIte, reduceCtorEq, Nat.reduceEqDiff, Nat.reduceLeDiff, Nat.reduceAdd, Nat.reduceMul, Nat.reduceSub, Nat.reduceLT, hL, hD, z1, e1, l2, hfirst]; repeat' (first | exact Ok.out | with_reducible refine And.intro ?_ ?_ | (simp; done)))
 | (cases h; replace h := hr; clear hr; (try simp only [bs, ↓reduceIte] at h))
 | (cases h; done))
            · repeat' (first
 | simp only [go_sem, hlt, hget, hpu, hinc, Int.reduceLE, ↓reduceIte, reduceCtorEq, Nat.reduceEqDiff, Nat.reduceLeDiff, Nat.reduceAdd, Nat.reduceMul, Nat.reduceSub, Nat.reduceLT, hL, hD, z1, z2, e1, l2, hfirst]
 | (with_reducible refine CU (Rsmall_s _ _) ?_)
 | (with_reducible refine CU (Rdigit_s _ _) ?_)
 | (with_reducible refine CU (hff _) ?_)
 | (with_reducible refine CU (hwp _) ?_)
 | (with_reducible first | refine CB_ofT (by assumption) fun hc => ?_ | refine CB_ofF (by assumption) fun hc => ?_ | refine CB_split (fun hc => ?_) fun hc => ?_) <;> (try simp only [hc, bs, ↓reduceIte] at h) <;> (try simp only [hc])
 | ((with_reducible first | refine leafR hQ ?_ | refine leafN hQ ?_); (try cases h); simp only [resL, oneD, Option.some.injEq, exists_eq_left', go_sem, hlt, hget, hpu, hinc, Int.reduceLE, ↓reduceIte, reduceCtorEq, Nat.reduceEqDiff, Nat.reduceLeDiff, Nat.reduceAdd, Nat.reduceMul, Nat.reduceSub, Nat.reduceLT, hL, hD, z1, z2, e1, l2, hfirst]; repeat' (first | exact Ok.out | with_reducible refine And.intro ?_ ?_ | (simp; done)))
 | (cases h; replace h := hr; clear hr; (try simp only [bs, ↓reduceIte] at h))
 | (cases h; done))
          · have hv' : decide (valD 0 ((c :: r).take k2) ≤ 9223372036854775807) = false := by simpa using hv
            rw [if_neg hv] at h hw
            rw [hv'] at hw
            simp only [tokR, tok0] at h
            have hwp := fun s => hw.pure rfl rfl s
            refine Fun.go has_ref1_token rfl fun B Q hB hQ => ?_
            have hlt : 0 < 1 := Nat.zero_lt_one
            have hget : 0 < 1 := Nat.zero_lt_one
            have hpu : 0 < 1 := Nat.zero_lt_one
            have hinc : 0 < 1 := Nat.zero_lt_one
            rcases hz' with z1 | ⟨z1, z2⟩
            · repeat' (first
 | simp only [go_sem, hlt, hget, hpu, hinc, Int.reduceLE, ↓reduceIte, reduceCtorEq, Nat.reduceEqDiff, Nat.reduceLeDiff, Nat.reduceAdd, Nat.reduceMul, Nat.reduceSub, Nat.reduceLT, hL, hD, z1, e1, l2, hfirst]
 | (with_reducible refine CU (Rsmall_s _ _) ?_)
 | (with_reducible refine CU (Rdigit_s _ _) ?_)
 | (with_reducible refine CU (hff _) ?_)
 | (with_reducible refine CU (hwp _) ?_)
 | (with_reducible first | refine CB_ofT (by assumption) fun hc => ?_ | refine CB_ofF (by assumption) fun hc => ?_ | refine CB_split (fun hc => ?_) fun hc => ?_) <;> (try simp only [hc, bs, ↓reduceIte] at h) <;> (try simp only [hc])
 | ((with_reducible first | refine leafR hQ ?_ | refine leafN hQ ?_); (try cases h); simp only [resL, oneD, Option.some.injEq, exists_eq_left', go_sem, hlt, hget, hpu, hinc, Int.reduceLE, ↓reduceIte, reduceCtorEq, Nat.reduceEqDiff, Nat.reduceLeDiff, Nat.reduceAdd, Nat.reduceMul, Nat.reduceSub, Nat.reduceLT, hL, hD, z1, e1, l2, hfirst]; repeat' (first | exact Ok.out | with_reducible refine And.intro ?_ ?_ | (simp; done)))
 | (cases h; replace h := hr; clear hr; (try simp only [bs, ↓reduceIte] at h))
 | (cases h; done))
            · repeat' (first
 | simp only [go_sem, hlt, hget, hpu, hinc, Int.reduceLE, ↓reduceIte, reduceCtorEq, Nat.reduceEqDiff, Nat.reduceLeDiff, Nat.reduceAdd, Nat.reduceMul, Nat.reduceSub, Nat.reduceLT, hL, hD, z1, z2, e1, l2, hfirst]
 | (with_reducible refine CU (Rsmall_s _ _) ?_)
 | (with_reducible refine CU (Rdigit_s _ _) ?_)
 | (with_reducible refine CU (hff _) ?_)
 | (with_reducible refine CU (hwp _) ?_)
 | (with_reducible first | refine CB_ofT (by assumption) fun hc => ?_ | refine CB_ofF (by assumption) fun hc => ?_ | refine CB_split (fun hc => ?_) fun hc => ?_) <;> (try simp only [hc, bs, ↓reduceIte] at h) <;> (try simp only [hc])
 | ((with_reducible first | refine leafR hQ ?_ | refine leafN hQ ?_); (try cases h); simp only [resL, oneD, Option.some.injEq, exists_eq_left', go_sem, hlt, hget, hpu, hinc, Int.reduceLE, ↓reduceIte, reduceCtorEq, Nat.reduceEqDiff, Nat.reduceLeDiff, Nat.reduceAdd, Nat.reduceMul, Nat.reduceSub, Nat.reduceLT, hL, hD, z1, z2, e1, l2, hfirst]; repeat' (first | exact Ok.out | with_reducible refine And.intro ?_ ?_ | (simp; done)))
 | (cases h; replace h := hr; clear hr; (try simp only [bs, ↓reduceIte] at h))
 | (cases h; done))
        · rw [if_neg hv] at h
          simp only [tokR, tok0] at h
          have hwp := fun s => hw.pure rfl rfl s
          refine Fun.go has_ref1_token rfl fun B Q hB hQ => ?_
          have hlt : 0 < 1 := Nat.zero_lt_one
          have hget : 0 < 1 := Nat.zero_lt_one
          have hpu : 0 < 1 := Nat.zero_lt_one
          have hinc : 0 < 1 := Nat.zero_lt_one
          rcases hz' with z1 | ⟨z1, z2⟩
          · repeat' (first
 | simp only [go_sem, hlt, hget, hpu, hinc, Int.reduceLE, ↓reduceIte, reduceCtorEq, Nat.reduceEqDiff, Nat.reduceLeDiff, Nat.reduceAdd, Nat.reduceMul, Nat.reduceSub, Nat.reduceLT, hL, hD, z1, e1, l2, hfirst]
 | (with_reducible refine CU (Rsmall_s _ _) ?_)
 | (with_reducible refine CU (Rdigit_s _ _) ?_)
 | (with_reducible refine CU (hff _) ?_)
 | (with_reducible refine CU (hwp _) ?_)
 | (with_reducible first | refine CB_ofT (by assumption) fun hc => ?_ | refine CB_ofF (by assumption) fun hc => ?_ | refine CB_split (fun hc => ?_) fun hc => ?_) <;> (try simp only [hc, bs, ↓reduceIte] at h) <;> (try simp only [hc])
 | ((with_reducible first | refine leafR hQ ?_ | refine leafN hQ ?_); (try cases h); simp only [resL, oneD, Option.some.injEq, exists_eq_left', go_sem, hlt, hget, hpu, hinc, Int.reduceLE, ↓reduceIte, reduceCtorEq, Nat.reduceEqDiff, Nat.reduceLeDiff, Nat.reduceAdd, Nat.reduceMul, Nat.reduceSub, Nat.reduceLT, hL, hD, z1, e1, l2, hfirst]; repeat' (first | exact Ok.out | with_reducible refine And.intro ?_ ?_ | (simp; done)))
 | (cases h; replace h := hr; clear hr; (try simp only [bs, ↓reduceIte] at h))
 | (cases h; done))
          · repeat' (first
 | simp only [go_sem, hlt, hget, hpu, hinc, Int.reduceLE, ↓reduceIte, reduceCtorEq, Nat.reduceEqDiff, Nat.reduceLeDiff, Nat.reduceAdd, Nat.reduceMul, Nat.reduceSub, Nat.reduceLT, hL, hD, z1, z2, e1, l2, hfirst]
 | (with_reducible refine CU (Rsmall_s _ _) ?_)
 | (with_reducible refine CU (Rdigit_s _ _) ?_)
 | (with_reducible refine CU (hff _) ?_)
 | (with_reducible refine CU (hwp _) ?_)
 | (with_reducible first | refine CB_ofT (by assumption) fun hc => ?_ | refine CB_ofF (by assumption) fun hc => ?_ | refine CB_split (fun hc => ?_) fun hc => ?_) <;> (try simp only [hc, bs, ↓reduceIte] at h) <;> (try simp only [hc])
 | ((with_reducible first | refine leafR hQ ?_ | refine leafN hQ ?_); (try cases h); simp only [resL, oneD, Option.some.injEq, exists_eq_left', go_sem, hlt, hget, hpu, hinc, Int.reduceLE, ↓reduceIte, reduceCtorEq, Nat.reduceEqDiff, Nat.reduceLeDiff, Nat.reduceAdd, Nat.reduceMul, Nat.reduceSub, Nat.reduceLT, hL, hD, z1, z2, e1, l2, hfirst]; repeat' (first | exact Ok.out | with_reducible refine And.intro ?_ ?_ | (simp; done)))
 | (cases h; replace h := hr; clear hr; (try simp only [bs, ↓reduceIte] at h))
 | (cases h; done))
  · simp only [hL, ↓reduceIte, l1] at h
    have e1 : (0 : Int) ≤ (k1 : Int) ∧ (k1 : Int) ≤ ((c :: r).length : Int) := by omega
    simp only [List.length_cons] at e1
    cases hw : isWord ((c :: r).take k1)
    · by_cases hz : k1 > 8
      · have z1 : decide ((k1 : Int) > 8) = true := by simp; omega
        simp only [hz, ↓reduceIte, tokR, tok0] at h
        refine Fun.go has_ref1_token rfl fun B Q hB hQ => ?_
        have hlt : 0 < 1 := Nat.zero_lt_one
        have hget : 0 < 1 := Nat.zero_lt_one
        have hpu : 0 < 1 := Nat.zero_lt_one
        have hinc : 0 < 1 := Nat.zero_lt_one
        repeat' (first
 | simp only [go_sem, hlt, hget, hpu, hinc, Int.reduceLE, ↓reduceIte, reduceCtorEq, Nat.reduceEqDiff, Nat.reduceLeDiff, Nat.reduceAdd, Nat.reduceMul, Nat.reduceSub, Nat.reduceLT, hL, hw, e1, l1, z1]
 | (with_reducible refine CU (Rsmall_s _ _) ?_)
 | (with_reducible refine CU (hft _) ?_)
 | (with_reducible refine CU (RWord_s _ _) ?_)
 | (with_reducible first | refine CB_ofT (by assumption) fun hc => ?_ | refine CB_ofF (by assumption) fun hc => ?_ | refine CB_split (fun hc => ?_) fun hc => ?_) <;> (try simp only [hc, bs, ↓reduceIte] at h) <;> (try simp only [hc])
 | ((with_reducible first | refine leafR hQ ?_ | refine leafN hQ ?_); (try cases h); simp only [resL, oneD, Option.some.injEq, exists_eq_left', go_sem, hlt, hget, hpu, hinc, Int.reduceLE, ↓reduceIte, reduceCtorEq, Nat.reduceEqDiff, Nat.reduceLeDiff, Nat.reduceAdd, Nat.reduceMul, Nat.reduceSub, Nat.reduceLT, hL, hw, e1, l1, z1]; repeat' (first | exact Ok.out | with_reducible refine And.intro ?_ ?_ | (simp; done)))
 | (cases h; replace h := hr; clear hr; (try simp only [bs, ↓reduceIte] at h))
 | (cases h; done))
      · have z1 : decide ((k1 : Int) > 8) = false := by simp; omega
        simp only [hz, ↓reduceIte, tokR, hw, Bool.false_eq_true] at h
        refine Fun.go has_ref1_token rfl fun B Q hB hQ => ?_
        have hlt : 0 < 1 := Nat.zero_lt_one
        have hget : 0 < 1 := Nat.zero_lt_one
        have hpu : 0 < 1 := Nat.zero_lt_one
        have hinc : 0 < 1 := Nat.zero_lt_one
        repeat' (first
 | simp only [go_sem, hlt, hget, hpu, hinc, Int.reduceLE, ↓reduceIte, reduceCtorEq, Nat.reduceEqDiff, Nat.reduceLeDiff, Nat.reduceAdd, Nat.reduceMul, Nat.reduceSub, Nat.reduceLT, hL, hw, e1, l1, z1]
 | (with_reducible refine CU (Rsmall_s _ _) ?_)
 | (with_reducible refine CU (hft _) ?_)
 | (with_reducible refine CU (RWord_s _ _) ?_)
 | (with_reducible first | refine CB_ofT (by assumption) fun hc => ?_ | refine CB_ofF (by assumption) fun hc => ?_ | refine CB_split (fun hc => ?_) fun hc => ?_) <;> (try simp only [hc, bs, ↓reduceIte] at h) <;> (try simp only [hc])
 | ((with_reducible first | refine leafR hQ ?_ | refine leafN hQ ?_); (try cases h); simp only [resL, oneD, Option.some.injEq, exists_eq_left', go_sem, hlt, hget, hpu, hinc, Int.reduceLE, ↓reduceIte, reduceCtorEq, Nat.reduceEqDiff, Nat.reduceLeDiff, Nat.reduceAdd, Nat.reduceMul, Nat.reduceSub, Nat.reduceLT, hL, hw, e1, l1, z1]; repeat' (first | exact Ok.out | with_reducible refine And.intro ?_ ?_ | (simp; done)))
 | (cases h; replace h := hr; clear hr; (try simp only [bs, ↓reduceIte] at h))
 | (cases h; done))
    · have hz : ¬ k1 > 8 := by have := isWord_len hw; omega
      simp only [hz, ↓reduceIte, tokR, hw] at h
      refine Fun.go has_ref1_token rfl fun B Q hB hQ => ?_
      have hlt : 0 < 1 := Nat.zero_lt_one
      have hget : 0 < 1 := Nat.zero_lt_one
      have hpu : 0 < 1 := Nat.zero_lt_one
      have hinc : 0 < 1 := Nat.zero_lt_one
      repeat' (first
 | simp only [go_sem, hlt, hget, hpu, hinc, Int.reduceLE, ↓reduceIte, reduceCtorEq, Nat.reduceEqDiff, Nat.reduceLeDiff, Nat.reduceAdd, Nat.reduceMul, Nat.reduceSub, Nat.reduceLT, hL, hw, e1, l1]
 | (with_reducible refine CU (Rsmall_s _ _) ?_)
 | (with_reducible refine CU (hft _) ?_)
 | (with_reducible refine CU (RWord_s _ _) ?_)
 | (with_reducible first | refine CB_ofT (by assumption) fun hc => ?_ | refine CB_ofF (by assumption) fun hc => ?_ | refine CB_split (fun hc => ?_) fun hc => ?_) <;> (try simp only [hc, bs, ↓reduceIte] at h) <;> (try simp only [hc])
 | ((with_reducible first | refine leafR hQ ?_ | refine leafN hQ ?_); (try cases h); simp only [resL, oneD, Option.some.injEq, exists_eq_left', go_sem, hlt, hget, hpu, hinc, Int.reduceLE, ↓reduceIte, reduceCtorEq, Nat.reduceEqDiff, Nat.reduceLeDiff, Nat.reduceAdd, Nat.reduceMul, Nat.reduceSub, Nat.reduceLT, hL, hw, e1, l1]; repeat' (first | exact Ok.out | with_reducible refine And.intro ?_ ?_ | (simp; done)))
 | (cases h; replace h := hr; clear hr; (try simp only [bs, ↓reduceIte] at h))
 | (cases h; done))

end Go.Abs

/-! RefLex3 -/

namespace Go.Abs

set_option maxRecDepth 8000
set_option linter.unusedSimpArgs false
set_option linter.unusedVariables false
open Go.Proofs

theorem tokE_err {pos : Nat} {s : Str} {e : Int} (h : tokE pos s = .inr e) : e = 2 ∨ e = 4 := by
  cases s with
  | nil => simp only [tokE] at h; cases h; exact .inl rfl
  | cons c r =>
    simp only [tokE] at h
    repeat' split at h
    all_goals first | (cases h; simp; done) | cases h

theorem tokE_len {pos : Nat} {s : Str} {t : Tok} (h : tokE pos s = .inl t) : 0 < t.text.length ∧ t.text.length ≤ s.length := by
  cases s with
  | nil => simp only [tokE] at h; cases h
  | cons c r =>
    have k1 := runL_len (c :: r)
    have k2 := runD_len (c :: r)
    have k3 := signL_len (c :: r)
    simp only [tokE] at h
    cases hL : isL c
    · simp only [hL, Bool.false_eq_true, ↓reduceIte] at h
      cases hD : isD c
      · simp only [hD, Bool.false_eq_true, ↓reduceIte] at h
        by_cases hz : signL (c :: r) = 0
        · rw [if_pos hz] at h; cases h
        · rw [if_neg hz] at h; cases h
          simp only [List.length_take]; omega
      · have k0 : 0 < runD (c :: r) := by simp [runD, hD]
        simp only [hD, ↓reduceIte] at h
        split at h
        · cases h
        · split at h
          · cases h; simp only [List.length_take]; omega
          · cases h
    · have k0 : 0 < runL (c :: r) := by simp [runL, hL]
      simp only [hL, ↓reduceIte] at h
      split at h
      · cases h
      · cases h; simp only [List.length_take]; omega

theorem Lex_s (text : Str) (hl : text.length < 4611686018427387904) (s : St) :
    Fun Try.prog n_ref1_Lex [.str text] s (.tuple [.slice .shared 4 ((lexAll text).1.map encTok), .agg (encF (lexAll text).2)]) s := by
  refine Fun.pure ?_ rfl (by simp [D.ok, D.oks, okrTok, Tag.ok, encF]) s
  generalize h : lexAll text = p
  unfold lexAll at h
  unfold S0
  refine Fun.go has_ref1_Lex rfl fun B Q hB hQ => ?_
  have hlt : 0 < 1 := Nat.zero_lt_one
  have hget : 0 < 1 := Nat.zero_lt_one
  have hpu : 0 < 1 := Nat.zero_lt_one
  have hinc : 0 < 1 := Nat.zero_lt_one
  by_cases hz : text.length > 100000
  · have hgt : decide ((text.length : Int) > 100000) = true := by simp; omega
    rw [if_pos hz] at h
    repeat' (first
 | simp only [go_sem, hlt, hget, hpu, hinc, Int.reduceLE, ↓reduceIte, reduceCtorEq, Nat.reduceEqDiff, Nat.reduceLeDiff, Nat.reduceAdd, Nat.reduceMul, Nat.reduceSub, Nat.reduceLT, hgt]
 | (with_reducible first | refine CB_ofT (by assumption) fun hc => ?_ | refine CB_ofF (by assumption) fun hc => ?_ | refine CB_split (fun hc => ?_) fun hc => ?_) <;> (try simp only [hc, bs, ↓reduceIte] at h) <;> (try simp only [hc])
 | ((with_reducible first | refine leafR hQ ?_ | refine leafN hQ ?_); (try cases h); simp only [resL, oneD, Option.some.injEq, exists_eq_left', go_sem, hlt, hget, hpu, hinc, Int.reduceLE, ↓reduceIte, reduceCtorEq, Nat.reduceEqDiff, Nat.reduceLeDiff, Nat.reduceAdd, Nat.reduceMul, Nat.reduceSub, Nat.reduceLT, hgt]; repeat' (first | exact Ok.out | with_reducible refine And.intro ?_ ?_ | (simp; done)))
 | (cases h; replace h := hr; clear hr; (try simp only [bs, ↓reduceIte] at h))
 | (cases h; done))
  · have hgt : decide ((text.length : Int) > 100000) = false := by simp; omega
    rw [if_neg hz] at h
    have hl' : text.length ≤ 100000 := by omega
    repeat' (first
 | simp only [go_sem, hlt, hget, hpu, hinc, Int.reduceLE, ↓reduceIte, reduceCtorEq, Nat.reduceEqDiff, Nat.reduceLeDiff, Nat.reduceAdd, Nat.reduceMul, Nat.reduceSub, Nat.reduceLT, hgt]
 | (with_reducible first | refine CB_ofT (by assumption) fun hc => ?_ | refine CB_ofF (by assumption) fun hc => ?_ | refine CB_split (fun hc => ?_) fun hc => ?_) <;> (try simp only [hc, bs, ↓reduceIte] at h) <;> (try simp only [hc])
 | ((with_reducible first | refine leafR hQ ?_ | refine leafN hQ ?_); (try cases h); simp only [resL, oneD, Option.some.injEq, exists_eq_left', go_sem, hlt, hget, hpu, hinc, Int.reduceLE, ↓reduceIte, reduceCtorEq, Nat.reduceEqDiff, Nat.reduceLeDiff, Nat.reduceAdd, Nat.reduceMul, Nat.reduceSub, Nat.reduceLT, hgt]; repeat' (first | exact Ok.out | with_reducible refine And.intro ?_ ?_ | (simp; done)))
 | (cases h; replace h := hr; clear hr; (try simp only [bs, ↓reduceIte] at h))
 | (cases h; done))
    refine SemL.tokT 4 4 rfl ?_
    simp only [go_sem, hlt, hget, hpu, hinc, Int.reduceLE, ↓reduceIte, reduceCtorEq, Nat.reduceEqDiff, Nat.reduceLeDiff, Nat.reduceAdd, Nat.reduceMul, Nat.reduceSub, Nat.reduceLT]
    refine SemL.re _ _ 1 1 (by rw [hB]; exact Nat.le_of_ble_eq_true rfl) (by rw [hB]; exact Nat.le_of_ble_eq_true rfl) ?_ ?_ (SemL.ind (ι := Nat × Nat × Str × List Tok) (fun i => lexF i.1 i.2.1 i.2.2.1 i.2.2.2 = p ∧ text.drop i.2.1 = i.2.2.1 ∧ i.2.2.1.length < i.1 ∧ i.2.2.2.length ≤ 2000 ∧ i.2.1 ≤ text.length) (fun i => i.1)
      (fun i => [(0, .str text), (3, .ptr 0 0), (4, .slice (.tok 0) 4 (i.2.2.2.map encTok)), (5, .int .i64 (i.2.1 : Int))]) (fun i => ⟨[[.int .i64 0, .int .i64 0]], [some i.2.2.2.length]⟩) ?_ (text.length + 1, 0, text, []) ⟨h, rfl, Nat.lt_succ_self _, Nat.zero_le _, Nat.zero_le _⟩)
    · (simp only [go_sem, hlt, hget, hpu, hinc, Int.reduceLE, ↓reduceIte, reduceCtorEq, Nat.reduceEqDiff, Nat.reduceLeDiff, Nat.reduceAdd, Nat.reduceMul, Nat.reduceSub, Nat.reduceLT]; repeat' (first | exact Ok.out | with_reducible refine And.intro ?_ ?_))
    · (simp only [go_sem, hlt, hget, hpu, hinc, Int.reduceLE, ↓reduceIte, reduceCtorEq, Nat.reduceEqDiff, Nat.reduceLeDiff, Nat.reduceAdd, Nat.reduceMul, Nat.reduceSub, Nat.reduceLT]; repeat' (first | exact Ok.out | with_reducible refine And.intro ?_ ?_))
    rintro ⟨n, pos, rest, out⟩ ⟨h, h1, hn, ho, hp⟩ IH
    dsimp only at h h1 hn ho hp
    have hroom : (out.length + 1) * 41 ≤ maxStr := by simp only [maxStr]; omega
    cases n with
    | zero => omega
    | succ n =>
    cases rest with
    | nil =>
      have hlt := drop_nil h1
      have hpe : pos = text.length := by have := List.drop_eq_nil_iff.1 h1; omega
      subst hpe
      simp only [lexF] at h
      repeat' (first
 | simp only [go_sem, hlt, hget, hpu, hinc, Int.reduceLE, ↓reduceIte, reduceCtorEq, Nat.reduceEqDiff, Nat.reduceLeDiff, Nat.reduceAdd, Nat.reduceMul, Nat.reduceSub, Nat.reduceLT, hroom]
 | (with_reducible first | refine CB_ofT (by assumption) fun hc => ?_ | refine CB_ofF (by assumption) fun hc => ?_ | refine CB_split (fun hc => ?_) fun hc => ?_) <;> (try simp only [hc, bs, ↓reduceIte] at h) <;> (try simp only [hc])
 | ((with_reducible first | refine leafR hQ ?_ | refine leafN hQ ?_); (try cases h); simp only [resL, oneD, Option.some.injEq, exists_eq_left', go_sem, hlt, hget, hpu, hinc, Int.reduceLE, ↓reduceIte, reduceCtorEq, Nat.reduceEqDiff, Nat.reduceLeDiff, Nat.reduceAdd, Nat.reduceMul, Nat.reduceSub, Nat.reduceLT, hroom]; repeat' (first | exact Ok.out | with_reducible refine And.intro ?_ ?_ | (simp; done)))
 | (cases h; replace h := hr; clear hr; (try simp only [bs, ↓reduceIte] at h))
 | (cases h; done))
    | cons c r =>
      obtain ⟨hget, g2, hlt, g4⟩ := drop_cons h1
      have hpu : pos < 4611686018427387904 := by omega
      have hn' : r.length < n := by simp only [List.length_cons] at hn; omega
      cases hb : isB c
      · cases hc : ((c.toNat : Int) == 35)
        · simp only [lexF, hb, Bool.false_eq_true, ↓reduceIte, hc] at h
          have hrl : (c :: r).length = text.length - pos := by rw [← h1, List.length_drop]
          have e1 : (0 : Int) ≤ (pos : Int) ∧ (pos : Int) ≤ (text.length : Int) ∧ (text.length : Int) ≤ (text.length : Int) := by omega
          have e2 : (text.take text.length).drop pos = c :: r := by rw [List.take_length, h1]
          have htok := fun s => token_s (c := c) (r := r) (pos := pos) (by omega) s
          cases ht : tokE pos (c :: r) with
          | inr e =>
            simp only [ht] at h
            simp only [ht, tokR, tok0] at htok
            have he : (e == 0) = false ∧ (e != 0) = true := by rcases tokE_err ht with rfl | rfl <;> exact ⟨rfl, rfl⟩
            repeat' (first
 | simp only [go_sem, hlt, hget, hpu, hinc, Int.reduceLE, ↓reduceIte, reduceCtorEq, Nat.reduceEqDiff, Nat.reduceLeDiff, Nat.reduceAdd, Nat.reduceMul, Nat.reduceSub, Nat.reduceLT, hb, hc, e1, e2, he.1, he.2, Int.le_refl]
 | (with_reducible refine CU (Rblank_s _ _) ?_)
 | (with_reducible refine CU (htok _) ?_)
 | (with_reducible first | refine CB_ofT (by assumption) fun hc => ?_ | refine CB_ofF (by assumption) fun hc => ?_ | refine CB_split (fun hc => ?_) fun hc => ?_) <;> (try simp only [hc, bs, ↓reduceIte] at h) <;> (try simp only [hc])
 | ((with_reducible first | refine leafR hQ ?_ | refine leafN hQ ?_); (try cases h); simp only [resL, oneD, Option.some.injEq, exists_eq_left', go_sem, hlt, hget, hpu, hinc, Int.reduceLE, ↓reduceIte, reduceCtorEq, Nat.reduceEqDiff, Nat.reduceLeDiff, Nat.reduceAdd, Nat.reduceMul, Nat.reduceSub, Nat.reduceLT, hb, hc, e1, e2, he.1, he.2, Int.le_refl]; repeat' (first | exact Ok.out | with_reducible refine And.intro ?_ ?_ | (simp; done)))
 | (cases h; replace h := hr; clear hr; (try simp only [bs, ↓reduceIte] at h))
 | (cases h; done))
          | inl t =>
            simp only [ht] at h
            simp only [ht, tokR] at htok
            obtain ⟨t1, t2⟩ := tokE_len ht
            have z0 : ((0 : Int) == 0) = true := rfl
            have z0' : ((0 : Int) != 0) = false := rfl
            have z4 : ((4 : Int) != 0) = true := rfl
            have e3 : IntKind.wrap .i64 ((pos : Int) + (t.text.length : Int)) = ((pos + t.text.length : Nat) : Int) := by rw [wrap_ok] <;> omega
            by_cases ho2 : out.length = 2000
            · have ho3 : ((out.length : Int) == 2000) = true := by simp [ho2]
              simp only [ho2, ↓reduceIte] at h
              repeat' (first
 | simp only [go_sem, hlt, hget, hpu, hinc, Int.reduceLE, ↓reduceIte, reduceCtorEq, Nat.reduceEqDiff, Nat.reduceLeDiff, Nat.reduceAdd, Nat.reduceMul, Nat.reduceSub, Nat.reduceLT, hb, hc, e1, e2, z0, z0', z4, ho3, Int.le_refl]
 | (with_reducible refine CU (Rblank_s _ _) ?_)
 | (with_reducible refine CU (htok _) ?_)
 | (with_reducible first | refine CB_ofT (by assumption) fun hc => ?_ | refine CB_ofF (by assumption) fun hc => ?_ | refine CB_split (fun hc => ?_) fun hc => ?_) <;> (try simp only [hc, bs, ↓reduceIte] at h) <;> (try simp only [hc])
 | ((with_reducible first | refine leafR hQ ?_ | refine leafN hQ ?_); (try cases h); simp only [resL, oneD, Option.some.injEq, exists_eq_left', go_sem, hlt, hget, hpu, hinc, Int.reduceLE, ↓reduceIte, reduceCtorEq, Nat.reduceEqDiff, Nat.reduceLeDiff, Nat.reduceAdd, Nat.reduceMul, Nat.reduceSub, Nat.reduceLT, hb, hc, e1, e2, z0, z0', z4, ho3, Int.le_refl]; repeat' (first | exact Ok.out | with_reducible refine And.intro ?_ ?_ | (simp; done)))
 | (cases h; replace h := hr; clear hr; (try simp only [bs, ↓reduceIte] at h))
 | (cases h; done))
            · have ho3 : ((out.length : Int) == 2000) = false := by simp; omega
              have ho4 : (out ++ [t]).length ≤ 2000 := by simp; omega
              simp only [ho2, ↓reduceIte] at h
              have fin : text.drop (pos + t.text.length) = (c :: r).drop t.text.length := by rw [← h1, List.drop_drop]
              have hlen2 : ((c :: r).drop t.text.length).length < n := by rw [List.length_drop]; omega
              repeat' (first
 | simp only [go_sem, hlt, hget, hpu, hinc, Int.reduceLE, ↓reduceIte, reduceCtorEq, Nat.reduceEqDiff, Nat.reduceLeDiff, Nat.reduceAdd, Nat.reduceMul, Nat.reduceSub, Nat.reduceLT, hb, hc, e1, e2, z0, z0', ho3, hroom, e3, Int.le_refl]
 | (with_reducible refine CU (Rblank_s _ _) ?_)
 | (with_reducible refine CU (htok _) ?_)
 | (with_reducible first | refine CB_ofT (by assumption) fun hc => ?_ | refine CB_ofF (by assumption) fun hc => ?_ | refine CB_split (fun hc => ?_) fun hc => ?_) <;> (try simp only [hc, bs, ↓reduceIte] at h) <;> (try simp only [hc])
 | ((with_reducible first | refine leafR hQ ?_ | refine leafN hQ ?_); (try cases h); simp only [resL, oneD, Option.some.injEq, exists_eq_left', go_sem, hlt, hget, hpu, hinc, Int.reduceLE, ↓reduceIte, reduceCtorEq, Nat.reduceEqDiff, Nat.reduceLeDiff, Nat.reduceAdd, Nat.reduceMul, Nat.reduceSub, Nat.reduceLT, hb, hc, e1, e2, z0, z0', ho3, hroom, e3, Int.le_refl]; repeat' (first | exact Ok.out | with_reducible refine And.intro ?_ ?_ | (simp; done)))
 | (cases h; replace h := hr; clear hr; (try simp only [bs, ↓reduceIte] at h))
 | (cases h; done))
              rw [show out.length + 1 = (out ++ [t]).length from by simp]
              refine SemL.re _ _ 1 1 (by rw [hB]; exact Nat.le_of_ble_eq_true rfl) (by rw [hB]; exact Nat.le_of_ble_eq_true rfl) ?_ ?_ (IH (n, pos + t.text.length, (c :: r).drop t.text.length, out ++ [t]) ⟨h, fin, hlen2, ho4, by dsimp only; omega⟩ (Nat.lt_succ_self _))
              · (simp only [go_sem, hlt, hget, hpu, hinc, Int.reduceLE, ↓reduceIte, reduceCtorEq, Nat.reduceEqDiff, Nat.reduceLeDiff, Nat.reduceAdd, Nat.reduceMul, Nat.reduceSub, Nat.reduceLT]; repeat' (first | exact Ok.out | with_reducible refine And.intro ?_ ?_))
              · (simp only [go_sem, hlt, hget, hpu, hinc, Int.reduceLE, ↓reduceIte, reduceCtorEq, Nat.reduceEqDiff, Nat.reduceLeDiff, Nat.reduceAdd, Nat.reduceMul, Nat.reduceSub, Nat.reduceLT]; repeat' (first | exact Ok.out | with_reducible refine And.intro ?_ ?_))
        · have hk := lineL_pos (r := r) hc
          have hk2 := lineL_len (c :: r)
          have hk3 : (c :: r).length = text.length - pos := by rw [← h1, List.length_drop]
          simp only [lexF, hb, Bool.false_eq_true, ↓reduceIte, hc] at h
          generalize hL : lineL (c :: r) = L at h hk hk2
          have fin : text.drop (pos + L) = (c :: r).drop L := by rw [← h1, List.drop_drop]
          have hlen : ((c :: r).drop L).length < n := by rw [List.length_drop]; omega
          repeat' (first
 | simp only [go_sem, hlt, hget, hpu, hinc, Int.reduceLE, ↓reduceIte, reduceCtorEq, Nat.reduceEqDiff, Nat.reduceLeDiff, Nat.reduceAdd, Nat.reduceMul, Nat.reduceSub, Nat.reduceLT, hb, hc]
 | (with_reducible refine CU (Rblank_s _ _) ?_)
 | (with_reducible first | refine CB_ofT (by assumption) fun hc => ?_ | refine CB_ofF (by assumption) fun hc => ?_ | refine CB_split (fun hc => ?_) fun hc => ?_) <;> (try simp only [hc, bs, ↓reduceIte] at h) <;> (try simp only [hc])
 | ((with_reducible first | refine leafR hQ ?_ | refine leafN hQ ?_); (try cases h); simp only [resL, oneD, Option.some.injEq, exists_eq_left', go_sem, hlt, hget, hpu, hinc, Int.reduceLE, ↓reduceIte, reduceCtorEq, Nat.reduceEqDiff, Nat.reduceLeDiff, Nat.reduceAdd, Nat.reduceMul, Nat.reduceSub, Nat.reduceLT, hb, hc]; repeat' (first | exact Ok.out | with_reducible refine And.intro ?_ ?_ | (simp; done)))
 | (cases h; replace h := hr; clear hr; (try simp only [bs, ↓reduceIte] at h))
 | (cases h; done))
          refine SemL.re _ _ 1 1 (by rw [hB]; exact Nat.le_of_ble_eq_true rfl) (by rw [hB]; exact Nat.le_of_ble_eq_true rfl) ?_ ?_ (SemL.ind (ι := Str × Nat) (fun i => text.drop i.2 = i.1 ∧ i.2 + lineL i.1 = pos + L) (fun i => i.1.length)
            (fun i => [(0, .str text), (3, .ptr 0 0), (4, .slice (.tok 0) 4 (out.map encTok)), (5, .int .i64 (i.2 : Int))]) (fun i => ⟨[[.int .i64 0, .int .i64 0]], [some out.length]⟩) ?_ (c :: r, pos) ⟨h1, by dsimp only; omega⟩)
          · (simp only [go_sem, hlt, hget, hpu, hinc, Int.reduceLE, ↓reduceIte, reduceCtorEq, Nat.reduceEqDiff, Nat.reduceLeDiff, Nat.reduceAdd, Nat.reduceMul, Nat.reduceSub, Nat.reduceLT]; repeat' (first | exact Ok.out | with_reducible refine And.intro ?_ ?_))
          · (simp only [go_sem, hlt, hget, hpu, hinc, Int.reduceLE, ↓reduceIte, reduceCtorEq, Nat.reduceEqDiff, Nat.reduceLeDiff, Nat.reduceAdd, Nat.reduceMul, Nat.reduceSub, Nat.reduceLT]; repeat' (first | exact Ok.out | with_reducible refine And.intro ?_ ?_))
          rintro ⟨rest, k⟩ ⟨j1, j2⟩ IHl
          dsimp only at j1 j2
          cases rest with
          | nil =>
            have hge := drop_nil j1
            simp only [lineL, Nat.add_zero] at j2
            subst j2
            repeat' (first
 | simp only [go_sem, hlt, hget, hpu, hinc, Int.reduceLE, ↓reduceIte, reduceCtorEq, Nat.reduceEqDiff, Nat.reduceLeDiff, Nat.reduceAdd, Nat.reduceMul, Nat.reduceSub, Nat.reduceLT, hge]
 | (with_reducible first | refine CB_ofT (by assumption) fun hc => ?_ | refine CB_ofF (by assumption) fun hc => ?_ | refine CB_split (fun hc => ?_) fun hc => ?_) <;> (try simp only [hc, bs, ↓reduceIte] at h) <;> (try simp only [hc])
 | ((with_reducible first | refine leafR hQ ?_ | refine leafN hQ ?_); (try cases h); simp only [resL, oneD, Option.some.injEq, exists_eq_left', go_sem, hlt, hget, hpu, hinc, Int.reduceLE, ↓reduceIte, reduceCtorEq, Nat.reduceEqDiff, Nat.reduceLeDiff, Nat.reduceAdd, Nat.reduceMul, Nat.reduceSub, Nat.reduceLT, hge]; repeat' (first | exact Ok.out | with_reducible refine And.intro ?_ ?_ | (simp; done)))
 | (cases h; replace h := hr; clear hr; (try simp only [bs, ↓reduceIte] at h))
 | (cases h; done))
            refine SemL.re _ _ 1 1 (by rw [hB]; exact Nat.le_of_ble_eq_true rfl) (by rw [hB]; exact Nat.le_of_ble_eq_true rfl) ?_ ?_ (IH (n, pos + L, (c :: r).drop L, out) ⟨h, fin, hlen, ho, by dsimp only; omega⟩ (Nat.lt_succ_self _))
            · (simp only [go_sem, hlt, hget, hpu, hinc, Int.reduceLE, ↓reduceIte, reduceCtorEq, Nat.reduceEqDiff, Nat.reduceLeDiff, Nat.reduceAdd, Nat.reduceMul, Nat.reduceSub, Nat.reduceLT]; repeat' (first | exact Ok.out | with_reducible refine And.intro ?_ ?_))
            · (simp only [go_sem, hlt, hget, hpu, hinc, Int.reduceLE, ↓reduceIte, reduceCtorEq, Nat.reduceEqDiff, Nat.reduceLeDiff, Nat.reduceAdd, Nat.reduceMul, Nat.reduceSub, Nat.reduceLT]; repeat' (first | exact Ok.out | with_reducible refine And.intro ?_ ?_))
          | cons d rest =>
            obtain ⟨hget, g2, hge, g5⟩ := drop_cons j1
            have hlt : k < 4611686018427387904 := by omega
            cases hd : ((d.toNat : Int) != 10)
            · simp only [lineL, hd, Bool.false_eq_true, ↓reduceIte, Nat.add_zero] at j2
              subst j2
              repeat' (first
 | simp only [go_sem, hlt, hget, hpu, hinc, Int.reduceLE, ↓reduceIte, reduceCtorEq, Nat.reduceEqDiff, Nat.reduceLeDiff, Nat.reduceAdd, Nat.reduceMul, Nat.reduceSub, Nat.reduceLT, hge, hd]
 | (with_reducible first | refine CB_ofT (by assumption) fun hc => ?_ | refine CB_ofF (by assumption) fun hc => ?_ | refine CB_split (fun hc => ?_) fun hc => ?_) <;> (try simp only [hc, bs, ↓reduceIte] at h) <;> (try simp only [hc])
 | ((with_reducible first | refine leafR hQ ?_ | refine leafN hQ ?_); (try cases h); simp only [resL, oneD, Option.some.injEq, exists_eq_left', go_sem, hlt, hget, hpu, hinc, Int.reduceLE, ↓reduceIte, reduceCtorEq, Nat.reduceEqDiff, Nat.reduceLeDiff, Nat.reduceAdd, Nat.reduceMul, Nat.reduceSub, Nat.reduceLT, hge, hd]; repeat' (first | exact Ok.out | with_reducible refine And.intro ?_ ?_ | (simp; done)))
 | (cases h; replace h := hr; clear hr; (try simp only [bs, ↓reduceIte] at h))
 | (cases h; done))
              refine SemL.re _ _ 1 1 (by rw [hB]; exact Nat.le_of_ble_eq_true rfl) (by rw [hB]; exact Nat.le_of_ble_eq_true rfl) ?_ ?_ (IH (n, pos + L, (c :: r).drop L, out) ⟨h, fin, hlen, ho, by dsimp only; omega⟩ (Nat.lt_succ_self _))
              · (simp only [go_sem, hlt, hget, hpu, hinc, Int.reduceLE, ↓reduceIte, reduceCtorEq, Nat.reduceEqDiff, Nat.reduceLeDiff, Nat.reduceAdd, Nat.reduceMul, Nat.reduceSub, Nat.reduceLT]; repeat' (first | exact Ok.out | with_reducible refine And.intro ?_ ?_))
              · (simp only [go_sem, hlt, hget, hpu, hinc, Int.reduceLE, ↓reduceIte, reduceCtorEq, Nat.reduceEqDiff, Nat.reduceLeDiff, Nat.reduceAdd, Nat.reduceMul, Nat.reduceSub, Nat.reduceLT]; repeat' (first | exact Ok.out | with_reducible refine And.intro ?_ ?_))
            · simp only [lineL, hd, ↓reduceIte] at j2
              repeat' (first
 | simp only [go_sem, hlt, hget, hpu, hinc, Int.reduceLE, ↓reduceIte, reduceCtorEq, Nat.reduceEqDiff, Nat.reduceLeDiff, Nat.reduceAdd, Nat.reduceMul, Nat.reduceSub, Nat.reduceLT, hge, hd]
 | (with_reducible first | refine CB_ofT (by assumption) fun hc => ?_ | refine CB_ofF (by assumption) fun hc => ?_ | refine CB_split (fun hc => ?_) fun hc => ?_) <;> (try simp only [hc, bs, ↓reduceIte] at h) <;> (try simp only [hc])
 | ((with_reducible first | refine leafR hQ ?_ | refine leafN hQ ?_); (try cases h); simp only [resL, oneD, Option.some.injEq, exists_eq_left', go_sem, hlt, hget, hpu, hinc, Int.reduceLE, ↓reduceIte, reduceCtorEq, Nat.reduceEqDiff, Nat.reduceLeDiff, Nat.reduceAdd, Nat.reduceMul, Nat.reduceSub, Nat.reduceLT, hge, hd]; repeat' (first | exact Ok.out | with_reducible refine And.intro ?_ ?_ | (simp; done)))
 | (cases h; replace h := hr; clear hr; (try simp only [bs, ↓reduceIte] at h))
 | (cases h; done))
              refine SemL.re _ _ 1 1 (by rw [hB]; exact Nat.le_of_ble_eq_true rfl) (by rw [hB]; exact Nat.le_of_ble_eq_true rfl) ?_ ?_ (IHl (rest, k + 1) ⟨g2, by dsimp only; omega⟩ (Nat.lt_succ_self _))
              · (simp only [go_sem, hlt, hget, hpu, hinc, Int.reduceLE, ↓reduceIte, reduceCtorEq, Nat.reduceEqDiff, Nat.reduceLeDiff, Nat.reduceAdd, Nat.reduceMul, Nat.reduceSub, Nat.reduceLT]; repeat' (first | exact Ok.out | with_reducible refine And.intro ?_ ?_))
              · (simp only [go_sem, hlt, hget, hpu, hinc, Int.reduceLE, ↓reduceIte, reduceCtorEq, Nat.reduceEqDiff, Nat.reduceLeDiff, Nat.reduceAdd, Nat.reduceMul, Nat.reduceSub, Nat.reduceLT]; repeat' (first | exact Ok.out | with_reducible refine And.intro ?_ ?_))
      · simp only [lexF, hb, ↓reduceIte] at h
        repeat' (first
 | simp only [go_sem, hlt, hget, hpu, hinc, Int.reduceLE, ↓reduceIte, reduceCtorEq, Nat.reduceEqDiff, Nat.reduceLeDiff, Nat.reduceAdd, Nat.reduceMul, Nat.reduceSub, Nat.reduceLT, hb]
 | (with_reducible refine CU (Rblank_s _ _) ?_)
 | (with_reducible first | refine CB_ofT (by assumption) fun hc => ?_ | refine CB_ofF (by assumption) fun hc => ?_ | refine CB_split (fun hc => ?_) fun hc => ?_) <;> (try simp only [hc, bs, ↓reduceIte] at h) <;> (try simp only [hc])
 | ((with_reducible first | refine leafR hQ ?_ | refine leafN hQ ?_); (try cases h); simp only [resL, oneD, Option.some.injEq, exists_eq_left', go_sem, hlt, hget, hpu, hinc, Int.reduceLE, ↓reduceIte, reduceCtorEq, Nat.reduceEqDiff, Nat.reduceLeDiff, Nat.reduceAdd, Nat.reduceMul, Nat.reduceSub, Nat.reduceLT, hb]; repeat' (first | exact Ok.out | with_reducible refine And.intro ?_ ?_ | (simp; done)))
 | (cases h; replace h := hr; clear hr; (try simp only [bs, ↓reduceIte] at h))
 | (cases h; done))
        refine SemL.re _ _ 1 1 (by rw [hB]; exact Nat.le_of_ble_eq_true rfl) (by rw [hB]; exact Nat.le_of_ble_eq_true rfl) ?_ ?_ (IH (n, pos + 1, r, out) ⟨h, g2, hn', ho, g4⟩ (Nat.lt_succ_self _))
        · (simp only [go_sem, hlt, hget, hpu, hinc, Int.reduceLE, ↓reduceIte, reduceCtorEq, Nat.reduceEqDiff, Nat.reduceLeDiff, Nat.reduceAdd, Nat.reduceMul, Nat.reduceSub, Nat.reduceLT]; repeat' (first | exact Ok.out | with_reducible refine And.intro ?_ ?_))
        · (simp only [go_sem, hlt, hget, hpu, hinc, Int.reduceLE, ↓reduceIte, reduceCtorEq, Nat.reduceEqDiff, Nat.reduceLeDiff, Nat.reduceAdd, Nat.reduceMul, Nat.reduceSub, Nat.reduceLT]; repeat' (first | exact Ok.out | with_reducible refine And.intro ?_ ?_))

end Go.Abs

/-! Ref4 -/

namespace Go.Abs

set_option maxRecDepth 8000
set_option linter.unusedSimpArgs false
set_option linter.unusedVariables false
open Go.Proofs

/-- A text, no longer than some more than a text may be. -/
def cutM (s : Str) : Str := s.take (min s.length 100100)

theorem Cut_s (text : Str) (s : St) : Fun Try.prog n_ref3_Cut [.str text] s (.str (cutM text)) s := by
  refine Fun.pure ?_ rfl rfl s
  have e : (if (100100 : Int) < (text.length : Int) then (100100 : Int) else (text.length : Int)) = ((min text.length 100100 : Nat) : Int) := by split <;> omega
  have e1 : (0 : Int) ≤ ((min text.length 100100 : Nat) : Int) ∧ ((min text.length 100100 : Nat) : Int) ≤ (text.length : Int) := by omega
  unfold S0
  refine Fun.go has_ref3_Cut rfl fun B Q hB hQ => ?_
  have hlt : 0 < 1 := Nat.zero_lt_one
  have hget : 0 < 1 := Nat.zero_lt_one
  have hpu : 0 < 1 := Nat.zero_lt_one
  have hinc : 0 < 1 := Nat.zero_lt_one
  repeat' (first
 | simp only [go_sem, hlt, hget, hpu, hinc, Int.reduceLE, ↓reduceIte, reduceCtorEq, Nat.reduceEqDiff, Nat.reduceLeDiff, Nat.reduceAdd, Nat.reduceMul, Nat.reduceSub, Nat.reduceLT, e, e1, cutM, Bool.false_eq_true]
 | (with_reducible first | refine CB_ofT (by assumption) fun hc => ?_ | refine CB_ofF (by assumption) fun hc => ?_ | refine CB_split (fun hc => ?_) fun hc => ?_) <;> (try simp only [hc, bs, ↓reduceIte] at h) <;> (try simp only [hc])
 | ((with_reducible first | refine leafR hQ ?_ | refine leafN hQ ?_); (try cases h); simp only [resL, oneD, Option.some.injEq, exists_eq_left', go_sem, hlt, hget, hpu, hinc, Int.reduceLE, ↓reduceIte, reduceCtorEq, Nat.reduceEqDiff, Nat.reduceLeDiff, Nat.reduceAdd, Nat.reduceMul, Nat.reduceSub, Nat.reduceLT, e, e1, cutM, Bool.false_eq_true]; repeat' (first | exact Ok.out | with_reducible refine And.intro ?_ ?_ | (simp; done)))
 | (cases h; replace h := hr; clear hr; (try simp only [bs, ↓reduceIte] at h))
 | (cases h; done))

theorem cutM_len (text : Str) : (cutM text).length < 4611686018427387904 := by
  simp only [cutM, List.length_take]; omega

end Go.Abs

/-! Ref5 -/

namespace Go.Abs

set_option maxRecDepth 8000
set_option linter.unusedSimpArgs false
set_option linter.unusedVariables false
open Go.Proofs

theorem ge_not (a b : Int) : decide (a ≥ b) = !decide (a < b) := by
  by_cases h : a < b
  · simp [h]
  · simp [h]; omega

theorem Pname_s {z : D} [Cell z] {room full : Bool} {r : Rd} {p : Str × Rd} (h : r.name room = some p) (hf : full = !room) {s : St} {o : Nat} (ho : s.objs[o]? = some (encRc z r)) :
    Fun Try.prog n_ref3_P_name [.ptr o 0, .bool full] s (.str p.1) ⟨s.objs.set o (encRc z p.2), s.toks⟩ := by
  refine Fun.meth ?_ rfl (okRc z r) (okRc z p.2) rfl ho
  subst hf
  unfold Rd.name at h
  rw [Option.bind_eq_some_iff] at h
  obtain ⟨t, h1, h⟩ := h
  obtain ⟨hlt, hget, hkl, hkh⟩ := peek_get h1
  cases hg : r.good
  · have hb : r.bad 3 = some r := by simp [Rd.bad, hg]
    simp only [hg, Bool.not_false, Bool.true_or, ↓reduceIte, hb, Option.bind_some] at h
    cases h
    refine Fun.go has_ref3_P_name rfl fun B Q hB hQ => ?_
    have hlt : 0 < 1 := Nat.zero_lt_one
    have hget : 0 < 1 := Nat.zero_lt_one
    have hpu : 0 < 1 := Nat.zero_lt_one
    have hinc : 0 < 1 := Nat.zero_lt_one
    repeat' (first
 | simp only [go_sem, hlt, hget, hpu, hinc, Int.reduceLE, ↓reduceIte, reduceCtorEq, Nat.reduceEqDiff, Nat.reduceLeDiff, Nat.reduceAdd, Nat.reduceMul, Nat.reduceSub, Nat.reduceLT]
 | (with_reducible refine CU (Pok_s (by with_unfolding_all rfl)) ?_)
 | (with_reducible first | refine CB_ofT (by assumption) fun hc => ?_ | refine CB_ofF (by assumption) fun hc => ?_ | refine CB_split (fun hc => ?_) fun hc => ?_) <;> (try simp only [hc, bs, ↓reduceIte] at h) <;> (try simp only [hc])
 | ((with_reducible first | refine leafR hQ ?_ | refine leafN hQ ?_); (try cases h); simp only [resL, oneD, Option.some.injEq, exists_eq_left', go_sem, hlt, hget, hpu, hinc, Int.reduceLE, ↓reduceIte, reduceCtorEq, Nat.reduceEqDiff, Nat.reduceLeDiff, Nat.reduceAdd, Nat.reduceMul, Nat.reduceSub, Nat.reduceLT]; repeat' (first | exact Ok.out | with_reducible refine And.intro ?_ ?_ | (simp; done)))
 | (cases h; replace h := hr; clear hr; (try simp only [bs, ↓reduceIte] at h))
 | (cases h; done))
  · simp only [hg, Bool.not_true, Bool.false_or] at h
    cases hk : (t.kind != 1)
    · have hk' : (t.kind == 1) = true := by simpa using hk
      simp only [hk, Bool.false_eq_true, ↓reduceIte] at h
      cases room
      · simp only [Bool.not_false, ↓reduceIte] at h
        refine Fun.go has_ref3_P_name rfl fun B Q hB hQ => ?_
        have hpu : 0 < 1 := Nat.zero_lt_one
        have hinc : 0 < 1 := Nat.zero_lt_one
        repeat' (first
 | simp only [go_sem, hlt, hget, hpu, hinc, Int.reduceLE, ↓reduceIte, reduceCtorEq, Nat.reduceEqDiff, Nat.reduceLeDiff, Nat.reduceAdd, Nat.reduceMul, Nat.reduceSub, Nat.reduceLT, hk']
 | (rw [Option.bind_eq_some_iff] at h; obtain ⟨_, h1, h⟩ := h; first | (with_reducible refine CU (Pfail_s h1 (by with_unfolding_all rfl)) ?_))
 | (with_reducible refine CU (Pok_s (by with_unfolding_all rfl)) ?_)
 | (with_reducible first | refine CB_ofT (by assumption) fun hc => ?_ | refine CB_ofF (by assumption) fun hc => ?_ | refine CB_split (fun hc => ?_) fun hc => ?_) <;> (try simp only [hc, bs, ↓reduceIte] at h) <;> (try simp only [hc])
 | ((with_reducible first | refine leafR hQ ?_ | refine leafN hQ ?_); (try cases h); simp only [resL, oneD, Option.some.injEq, exists_eq_left', go_sem, hlt, hget, hpu, hinc, Int.reduceLE, ↓reduceIte, reduceCtorEq, Nat.reduceEqDiff, Nat.reduceLeDiff, Nat.reduceAdd, Nat.reduceMul, Nat.reduceSub, Nat.reduceLT, hk']; repeat' (first | exact Ok.out | with_reducible refine And.intro ?_ ?_ | (simp; done)))
 | (cases h; replace h := hr; clear hr; (try simp only [bs, ↓reduceIte] at h))
 | (cases h; done))
      · simp only [Bool.not_true, Bool.false_eq_true, ↓reduceIte] at h
        refine Fun.go has_ref3_P_name rfl fun B Q hB hQ => ?_
        have hpu : 0 < 1 := Nat.zero_lt_one
        have hinc : 0 < 1 := Nat.zero_lt_one
        repeat' (first
 | simp only [go_sem, hlt, hget, hpu, hinc, Int.reduceLE, ↓reduceIte, reduceCtorEq, Nat.reduceEqDiff, Nat.reduceLeDiff, Nat.reduceAdd, Nat.reduceMul, Nat.reduceSub, Nat.reduceLT, hk']
 | (rw [Option.bind_eq_some_iff] at h; obtain ⟨_, h1, h⟩ := h; first | (with_reducible refine CU (Pfail_s h1 (by with_unfolding_all rfl)) ?_))
 | (with_reducible refine CU (Pok_s (by with_unfolding_all rfl)) ?_)
 | (with_reducible first | refine CB_ofT (by assumption) fun hc => ?_ | refine CB_ofF (by assumption) fun hc => ?_ | refine CB_split (fun hc => ?_) fun hc => ?_) <;> (try simp only [hc, bs, ↓reduceIte] at h) <;> (try simp only [hc])
 | ((with_reducible first | refine leafR hQ ?_ | refine leafN hQ ?_); (try cases h); simp only [resL, oneD, Option.some.injEq, exists_eq_left', go_sem, hlt, hget, hpu, hinc, Int.reduceLE, ↓reduceIte, reduceCtorEq, Nat.reduceEqDiff, Nat.reduceLeDiff, Nat.reduceAdd, Nat.reduceMul, Nat.reduceSub, Nat.reduceLT, hk']; repeat' (first | exact Ok.out | with_reducible refine And.intro ?_ ?_ | (simp; done)))
 | (cases h; replace h := hr; clear hr; (try simp only [bs, ↓reduceIte] at h))
 | (cases h; done))
    · have hk' : (t.kind == 1) = false := by simpa using hk
      simp only [hk, ↓reduceIte] at h
      refine Fun.go has_ref3_P_name rfl fun B Q hB hQ => ?_
      have hpu : 0 < 1 := Nat.zero_lt_one
      have hinc : 0 < 1 := Nat.zero_lt_one
      repeat' (first
 | simp only [go_sem, hlt, hget, hpu, hinc, Int.reduceLE, ↓reduceIte, reduceCtorEq, Nat.reduceEqDiff, Nat.reduceLeDiff, Nat.reduceAdd, Nat.reduceMul, Nat.reduceSub, Nat.reduceLT, hk']
 | (rw [Option.bind_eq_some_iff] at h; obtain ⟨_, h1, h⟩ := h; first | (with_reducible refine CU (Pfail_s h1 (by with_unfolding_all rfl)) ?_))
 | (with_reducible refine CU (Pok_s (by with_unfolding_all rfl)) ?_)
 | (with_reducible first | refine CB_ofT (by assumption) fun hc => ?_ | refine CB_ofF (by assumption) fun hc => ?_ | refine CB_split (fun hc => ?_) fun hc => ?_) <;> (try simp only [hc, bs, ↓reduceIte] at h) <;> (try simp only [hc])
 | ((with_reducible first | refine leafR hQ ?_ | refine leafN hQ ?_); (try cases h); simp only [resL, oneD, Option.some.injEq, exists_eq_left', go_sem, hlt, hget, hpu, hinc, Int.reduceLE, ↓reduceIte, reduceCtorEq, Nat.reduceEqDiff, Nat.reduceLeDiff, Nat.reduceAdd, Nat.reduceMul, Nat.reduceSub, Nat.reduceLT, hk']; repeat' (first | exact Ok.out | with_reducible refine And.intro ?_ ?_ | (simp; done)))
 | (cases h; replace h := hr; clear hr; (try simp only [bs, ↓reduceIte] at h))
 | (cases h; done))

theorem take_good {r : Rd} {s : Str} {q : Bool × Rd} (h : r.take s = some q) (hq : q.1 = true) : q.2.good = true ∧ r.good = true := by
  unfold Rd.take at h
  cases hg : r.good
  · simp only [hg, Bool.not_false, ↓reduceIte, Option.some.injEq] at h
    rw [← h] at hq; cases hq
  · simp only [hg, Bool.not_true, Bool.false_eq_true, ↓reduceIte] at h
    rw [Option.bind_eq_some_iff] at h
    obtain ⟨b, h1, h⟩ := h
    cases b
    · simp at h; rw [← h] at hq; cases hq
    · simp at h; rw [← h]; exact ⟨hg, rfl⟩

/-- What comes behind a name in a row of names. -/
def Rd.namesT (n : Nat) (l : List Str) (most : Int) (r : Rd) : Option (List Str × Rd) :=
  (r.take [44]).bind fun q => if !q.1 then (q.2.want [59]).bind fun r => some (l, r) else Rd.names n l most q.2

theorem names_good {n : Nat} {l : List Str} {most : Int} {r : Rd} {p : List Str × Rd} (h : Rd.names n l most r = some p) (hg : r.good = true) :
    ∃ k, n = k + 1 ∧ ((r.name (decide ((l.length : Int) < most))).bind fun p => (push 17 l p.1).bind fun l => Rd.namesT k l most p.2) = some p := by
  cases n with
  | zero => simp only [Rd.names] at h; cases h
  | succ n =>
    simp only [Rd.names, hg, ↓reduceIte] at h
    exact ⟨n, rfl, h⟩

theorem Plist_0 {z : D} [Cell z] {n : Nat} {l : List Str} {most : Int} {r : Rd} {p : List Str × Rd} (h : Rd.names n l most r = some p) (hg : r.good = true) :
    Fun Try.prog n_ref3_P_list [.ptr 0 0, .slice (.tok 0) 1 (l.map encStr), .int .i64 most] ⟨[encRc z r], [some l.length]⟩ (.slice (.tok 0) 1 (p.1.map encStr)) ⟨[encRc z p.2], [some p.1.length]⟩ := by
  replace h := names_good h hg
  obtain ⟨n, rfl, h⟩ := h
  refine Fun.go has_ref3_P_list rfl fun B Q hB hQ => ?_
  have hlt : 0 < 1 := Nat.zero_lt_one
  have hget : 0 < 1 := Nat.zero_lt_one
  have hpu : 0 < 1 := Nat.zero_lt_one
  have hinc : 0 < 1 := Nat.zero_lt_one
  repeat' (first
 | simp only [go_sem, hlt, hget, hpu, hinc, Int.reduceLE, ↓reduceIte, reduceCtorEq, Nat.reduceEqDiff, Nat.reduceLeDiff, Nat.reduceAdd, Nat.reduceMul, Nat.reduceSub, Nat.reduceLT]
 | (rw [Option.bind_eq_some_iff] at h; obtain ⟨_, h1, h⟩ := h; first | (with_reducible refine CU (Pname_s h1 (ge_not _ _) (by with_unfolding_all rfl)) ?_) | (obtain ⟨hpu, hpush⟩ := push_some h1; subst hpush; simp only [go_sem, hlt, hget, hpu, hinc, Int.reduceLE, ↓reduceIte, reduceCtorEq, Nat.reduceEqDiff, Nat.reduceLeDiff, Nat.reduceAdd, Nat.reduceMul, Nat.reduceSub, Nat.reduceLT]))
 | (with_reducible first | refine CB_ofT (by assumption) fun hc => ?_ | refine CB_ofF (by assumption) fun hc => ?_ | refine CB_split (fun hc => ?_) fun hc => ?_) <;> (try simp only [hc, bs, ↓reduceIte] at h) <;> (try simp only [hc])
 | ((with_reducible first | refine leafR hQ ?_ | refine leafN hQ ?_); (try cases h); simp only [resL, oneD, Option.some.injEq, exists_eq_left', go_sem, hlt, hget, hpu, hinc, Int.reduceLE, ↓reduceIte, reduceCtorEq, Nat.reduceEqDiff, Nat.reduceLeDiff, Nat.reduceAdd, Nat.reduceMul, Nat.reduceSub, Nat.reduceLT]; repeat' (first | exact Ok.out | with_reducible refine And.intro ?_ ?_ | (simp; done)))
 | (cases h; replace h := hr; clear hr; (try simp only [bs, ↓reduceIte] at h))
 | (cases h; done))
  refine SemL.re _ _ 1 1 (by rw [hB]; exact Nat.le_of_ble_eq_true rfl) (by rw [hB]; exact Nat.le_of_ble_eq_true rfl) ?_ ?_ (SemL.ind (ι := Nat × List Str × Rd × Nat) (fun i => Rd.namesT i.1 i.2.1 most i.2.2.1 = some p ∧ i.2.2.2 = i.2.1.length) (fun i => i.1)
    (fun i => [(0, .ptr 0 0), (1, .slice (.tok 0) 1 (i.2.1.map encStr)), (2, .int .i64 most)]) (fun i => ⟨[encRc z i.2.2.1], [some i.2.2.2]⟩) ?_ (n, _, _, l.length + 1) ⟨h, by simp⟩)
  · (simp only [go_sem, hlt, hget, hpu, hinc, Int.reduceLE, ↓reduceIte, reduceCtorEq, Nat.reduceEqDiff, Nat.reduceLeDiff, Nat.reduceAdd, Nat.reduceMul, Nat.reduceSub, Nat.reduceLT]; repeat' (first | exact Ok.out | with_reducible refine And.intro ?_ ?_))
  · (simp only [go_sem, hlt, hget, hpu, hinc, Int.reduceLE, ↓reduceIte, reduceCtorEq, Nat.reduceEqDiff, Nat.reduceLeDiff, Nat.reduceAdd, Nat.reduceMul, Nat.reduceSub, Nat.reduceLT]; repeat' (first | exact Ok.out | with_reducible refine And.intro ?_ ?_))
  rintro ⟨n, l, r, k⟩ ⟨h, hk⟩ IH
  dsimp only at hk; subst hk
  simp only [Rd.namesT] at h
  rw [Option.bind_eq_some_iff] at h
  obtain ⟨q, h1, h⟩ := h
  have tk := fun {s : St} {o : Nat} (ho : s.objs[o]? = some (encRc z r)) => Ptake_s h1 ho
  cases hq : q.1
  · simp only [hq, Bool.not_false, ↓reduceIte] at h
    repeat' (first
 | simp only [go_sem, hlt, hget, hpu, hinc, Int.reduceLE, ↓reduceIte, reduceCtorEq, Nat.reduceEqDiff, Nat.reduceLeDiff, Nat.reduceAdd, Nat.reduceMul, Nat.reduceSub, Nat.reduceLT, hq]
 | (rw [Option.bind_eq_some_iff] at h; obtain ⟨_, h1, h⟩ := h; first | (with_reducible refine CU (Pwant_s h1 (by with_unfolding_all rfl)) ?_))
 | (with_reducible refine CU (tk (by with_unfolding_all rfl)) ?_)
 | (with_reducible first | refine CB_ofT (by assumption) fun hc => ?_ | refine CB_ofF (by assumption) fun hc => ?_ | refine CB_split (fun hc => ?_) fun hc => ?_) <;> (try simp only [hc, bs, ↓reduceIte] at h) <;> (try simp only [hc])
 | ((with_reducible first | refine leafR hQ ?_ | refine leafN hQ ?_); (try cases h); simp only [resL, oneD, Option.some.injEq, exists_eq_left', go_sem, hlt, hget, hpu, hinc, Int.reduceLE, ↓reduceIte, reduceCtorEq, Nat.reduceEqDiff, Nat.reduceLeDiff, Nat.reduceAdd, Nat.reduceMul, Nat.reduceSub, Nat.reduceLT, hq]; repeat' (first | exact Ok.out | with_reducible refine And.intro ?_ ?_ | (simp; done)))
 | (cases h; replace h := hr; clear hr; (try simp only [bs, ↓reduceIte] at h))
 | (cases h; done))
  · simp only [hq, Bool.not_true, Bool.false_eq_true, ↓reduceIte] at h
    replace h := names_good h (take_good h1 hq).1
    obtain ⟨n, rfl, h⟩ := h
    repeat' (first
 | simp only [go_sem, hlt, hget, hpu, hinc, Int.reduceLE, ↓reduceIte, reduceCtorEq, Nat.reduceEqDiff, Nat.reduceLeDiff, Nat.reduceAdd, Nat.reduceMul, Nat.reduceSub, Nat.reduceLT, hq]
 | (rw [Option.bind_eq_some_iff] at h; obtain ⟨_, h1, h⟩ := h; first | (with_reducible refine CU (Pname_s h1 (ge_not _ _) (by with_unfolding_all rfl)) ?_) | (obtain ⟨hpu, hpush⟩ := push_some h1; subst hpush; simp only [go_sem, hlt, hget, hpu, hinc, Int.reduceLE, ↓reduceIte, reduceCtorEq, Nat.reduceEqDiff, Nat.reduceLeDiff, Nat.reduceAdd, Nat.reduceMul, Nat.reduceSub, Nat.reduceLT]))
 | (with_reducible refine CU (tk (by with_unfolding_all rfl)) ?_)
 | (with_reducible first | refine CB_ofT (by assumption) fun hc => ?_ | refine CB_ofF (by assumption) fun hc => ?_ | refine CB_split (fun hc => ?_) fun hc => ?_) <;> (try simp only [hc, bs, ↓reduceIte] at h) <;> (try simp only [hc])
 | ((with_reducible first | refine leafR hQ ?_ | refine leafN hQ ?_); (try cases h); simp only [resL, oneD, Option.some.injEq, exists_eq_left', go_sem, hlt, hget, hpu, hinc, Int.reduceLE, ↓reduceIte, reduceCtorEq, Nat.reduceEqDiff, Nat.reduceLeDiff, Nat.reduceAdd, Nat.reduceMul, Nat.reduceSub, Nat.reduceLT, hq]; repeat' (first | exact Ok.out | with_reducible refine And.intro ?_ ?_ | (simp; done)))
 | (cases h; replace h := hr; clear hr; (try simp only [bs, ↓reduceIte] at h))
 | (cases h; done))
    refine SemL.re _ _ 1 1 (by rw [hB]; exact Nat.le_of_ble_eq_true rfl) (by rw [hB]; exact Nat.le_of_ble_eq_true rfl) ?_ ?_ (IH (n, _, _, l.length + 1) ⟨h, by simp⟩ (Nat.lt_succ_self _))
    · (simp only [go_sem, hlt, hget, hpu, hinc, Int.reduceLE, ↓reduceIte, reduceCtorEq, Nat.reduceEqDiff, Nat.reduceLeDiff, Nat.reduceAdd, Nat.reduceMul, Nat.reduceSub, Nat.reduceLT]; repeat' (first | exact Ok.out | with_reducible refine And.intro ?_ ?_))
    · (simp only [go_sem, hlt, hget, hpu, hinc, Int.reduceLE, ↓reduceIte, reduceCtorEq, Nat.reduceEqDiff, Nat.reduceLeDiff, Nat.reduceAdd, Nat.reduceMul, Nat.reduceSub, Nat.reduceLT]; repeat' (first | exact Ok.out | with_reducible refine And.intro ?_ ?_))

/-- A word that a statement begins with. -/
def begW (s : Str) : Bool := s == [105, 102] || s == [119, 104, 105, 108, 101] || s == [98, 114, 101, 97, 107] || s == [99, 111, 110, 116, 105, 110, 117, 101] || s == [114, 101, 116, 117, 114, 110] || s == [103, 111, 116, 111] || s == [114, 101, 97, 100] || s == [112, 114, 105, 110, 116]

theorem Pbegins_s {z : D} [Cell z] {r : Rd} {b : Bool} (h : r.begins = some b) (hg : r.good = true) (ht : ∀ t, r.l[r.i]? = some t → t.kind = 4 → begW t.text = false) {s : St} {o : Nat} (ho : s.objs[o]? = some (encRc z r)) :
    Fun Try.prog n_ref3_P_begins [.ptr o 0] s (.bool b) ⟨s.objs.set o (encRc z r), s.toks⟩ := by
  refine Fun.meth ?_ rfl (okRc z r) (okRc z r) rfl ho
  unfold Rd.begins at h
  rw [Option.bind_eq_some_iff] at h
  obtain ⟨t, h1, h⟩ := h
  obtain ⟨hlt, hget, hkl, hkh⟩ := peek_get h1
  have ht := ht t hget
  have his : ∀ w : Str, ∀ {s : St} {o : Nat}, s.objs[o]? = some (encRc z r) → Fun Try.prog n_ref3_P_is [.ptr o 0, .str w] s (.bool ((t.kind == 3 || t.kind == 4) && t.text == w)) ⟨s.objs.set o (encRc z r), s.toks⟩ :=
    fun w s o ho => Pis_s (by simp only [Rd.isO, hg, ↓reduceIte, Rd.is, h1, Option.bind_some]) ho
  have hpu : 0 < 1 := Nat.zero_lt_one
  have hinc : 0 < 1 := Nat.zero_lt_one
  by_cases k1 : t.kind = 1
  · have e : (t.kind == 1) = true := by simpa using k1
    simp only [e, ↓reduceIte] at h
    refine Fun.go has_ref3_P_begins rfl fun B Q hB hQ => ?_
    repeat' (first
 | simp only [go_sem, hlt, hget, hpu, hinc, Int.reduceLE, ↓reduceIte, reduceCtorEq, Nat.reduceEqDiff, Nat.reduceLeDiff, Nat.reduceAdd, Nat.reduceMul, Nat.reduceSub, Nat.reduceLT, e]
 | (with_reducible refine CU (Pok_s (by with_unfolding_all rfl)) ?_)
 | (with_reducible first | refine CB_ofT (by assumption) fun hc => ?_ | refine CB_ofF (by assumption) fun hc => ?_ | refine CB_split (fun hc => ?_) fun hc => ?_) <;> (try simp only [hc, bs, ↓reduceIte] at h) <;> (try simp only [hc])
 | ((with_reducible first | refine leafR hQ ?_ | refine leafN hQ ?_); (try cases h); simp only [resL, oneD, Option.some.injEq, exists_eq_left', go_sem, hlt, hget, hpu, hinc, Int.reduceLE, ↓reduceIte, reduceCtorEq, Nat.reduceEqDiff, Nat.reduceLeDiff, Nat.reduceAdd, Nat.reduceMul, Nat.reduceSub, Nat.reduceLT, e]; repeat' (first | exact Ok.out | with_reducible refine And.intro ?_ ?_ | (simp; done)))
 | (cases h; replace h := hr; clear hr; (try simp only [bs, ↓reduceIte] at h))
 | (cases h; done))
  · have e : (t.kind == 1) = false := by simpa using k1
    by_cases k3 : t.kind = 3
    · have e3 : (t.kind == 3 || t.kind == 4) = true := by simp [k3]
      have e4 : (t.kind != 3) = false := by simp [k3]
      simp only [e, e4, Bool.false_eq_true, ↓reduceIte] at h
      refine Fun.go has_ref3_P_begins rfl fun B Q hB hQ => ?_
      repeat' (first
 | simp only [go_sem, hlt, hget, hpu, hinc, Int.reduceLE, ↓reduceIte, reduceCtorEq, Nat.reduceEqDiff, Nat.reduceLeDiff, Nat.reduceAdd, Nat.reduceMul, Nat.reduceSub, Nat.reduceLT, e, e3, bs, Int.cast_ofNat_Int, wrap_ok, Int.reduceAdd, Int.reduceLT, Int.reduceNeg, decide_true, decide_false, Int.reduceToNat]
 | (with_reducible refine CU (Pok_s (by with_unfolding_all rfl)) ?_)
 | (with_reducible refine CU (his _ (by with_unfolding_all rfl)) ?_)
 | (with_reducible refine SemL.onceW ?_)
 | (with_reducible first | refine CB_ofT (by assumption) fun hc => ?_ | refine CB_ofF (by assumption) fun hc => ?_ | refine CB_split (fun hc => ?_) fun hc => ?_) <;> (try simp only [hc, bs, ↓reduceIte] at h) <;> (try simp only [hc])
 | ((with_reducible first | refine leafR hQ ?_ | refine leafN hQ ?_); (try cases h); simp only [resL, oneD, Option.some.injEq, exists_eq_left', go_sem, hlt, hget, hpu, hinc, Int.reduceLE, ↓reduceIte, reduceCtorEq, Nat.reduceEqDiff, Nat.reduceLeDiff, Nat.reduceAdd, Nat.reduceMul, Nat.reduceSub, Nat.reduceLT, e, e3, bs, Int.cast_ofNat_Int, wrap_ok, Int.reduceAdd, Int.reduceLT, Int.reduceNeg, decide_true, decide_false, Int.reduceToNat]; repeat' (first | exact Ok.out | with_reducible refine And.intro ?_ ?_ | (simp; done)))
 | (cases h; replace h := hr; clear hr; (try simp only [bs, ↓reduceIte] at h))
 | (cases h; done))
    · have e4 : (t.kind != 3) = true := by simp [k3]
      have e3 : ∀ w, begW w = true → ((t.kind == 3 || t.kind == 4) && t.text == w) = false := by
        intro w hw
        by_cases k4 : t.kind = 4
        · by_cases hx : t.text = w
          · rw [hx] at ht; rw [ht k4] at hw; cases hw
          · simp [hx]
        · simp [k3, k4]
      have w1 := e3 [105, 102] rfl
      have w2 := e3 [119, 104, 105, 108, 101] rfl
      have w3 := e3 [98, 114, 101, 97, 107] rfl
      have w4 := e3 [99, 111, 110, 116, 105, 110, 117, 101] rfl
      have w5 := e3 [114, 101, 116, 117, 114, 110] rfl
      have w6 := e3 [103, 111, 116, 111] rfl
      have w7 := e3 [114, 101, 97, 100] rfl
      have w8 := e3 [112, 114, 105, 110, 116] rfl
      simp only [e, e4, Bool.false_eq_true, ↓reduceIte] at h
      refine Fun.go has_ref3_P_begins rfl fun B Q hB hQ => ?_
      repeat' (first
 | simp only [go_sem, hlt, hget, hpu, hinc, Int.reduceLE, ↓reduceIte, reduceCtorEq, Nat.reduceEqDiff, Nat.reduceLeDiff, Nat.reduceAdd, Nat.reduceMul, Nat.reduceSub, Nat.reduceLT, e, w1, w2, w3, w4, w5, w6, w7, w8, Int.cast_ofNat_Int, wrap_ok, Int.reduceAdd, Int.reduceLT, Int.reduceNeg, decide_true, decide_false, Int.reduceToNat]
 | (with_reducible refine CU (Pok_s (by with_unfolding_all rfl)) ?_)
 | (with_reducible refine CU (his _ (by with_unfolding_all rfl)) ?_)
 | (with_reducible refine SemL.onceW ?_)
 | (with_reducible first | refine CB_ofT (by assumption) fun hc => ?_ | refine CB_ofF (by assumption) fun hc => ?_ | refine CB_split (fun hc => ?_) fun hc => ?_) <;> (try simp only [hc, bs, ↓reduceIte] at h) <;> (try simp only [hc])
 | ((with_reducible first | refine leafR hQ ?_ | refine leafN hQ ?_); (try cases h); simp only [resL, oneD, Option.some.injEq, exists_eq_left', go_sem, hlt, hget, hpu, hinc, Int.reduceLE, ↓reduceIte, reduceCtorEq, Nat.reduceEqDiff, Nat.reduceLeDiff, Nat.reduceAdd, Nat.reduceMul, Nat.reduceSub, Nat.reduceLT, e, w1, w2, w3, w4, w5, w6, w7, w8, Int.cast_ofNat_Int, wrap_ok, Int.reduceAdd, Int.reduceLT, Int.reduceNeg, decide_true, decide_false, Int.reduceToNat]; repeat' (first | exact Ok.out | with_reducible refine And.intro ?_ ?_ | (simp; done)))
 | (cases h; replace h := hr; clear hr; (try simp only [bs, ↓reduceIte] at h))
 | (cases h; done))

theorem take_f {r : Rd} (hg : r.good = false) (s : Str) : r.take s = some (false, r) := by simp [Rd.take, hg]
theorem bad_f {r : Rd} (hg : r.good = false) (c : Int) : r.bad c = some r := by simp only [Rd.bad, hg, Bool.false_eq_true, ↓reduceIte]
theorem want_f {r : Rd} (hg : r.good = false) (s : Str) : r.want s = some r := by simp only [Rd.want, take_f hg, Option.bind_some, Bool.not_false, ↓reduceIte, bad_f hg]

/-- What a call hands in, in its brackets. -/
def Rd.argsM (m : Nat) (r : Rd) : Option (List Ar × Rd) :=
  (r.want [40]).bind fun r => (r.take [41]).bind fun q =>
    if q.1 then some ([], q.2)
    else if q.2.good then (Rd.callL m m [] q.2).bind fun x => (x.2.want [41]).bind fun r => some (x.1, r)
    else some ([], q.2)

theorem call_args {m : Nat} {name proc : Str} {r : Rd} {p : Sm × Rd} (h : Rd.call m name proc r = some p) :
    ((Rd.argsM m r).bind fun q => (q.2.want [59]).bind fun r => some ((⟨0, 4, [], name, proc, ex0, false, q.1, [], []⟩ : Sm), r)) = some p := by
  unfold Rd.call Rd.other at h
  unfold Rd.argsM
  rw [Option.bind_eq_some_iff] at h
  obtain ⟨r1, h1, h⟩ := h
  rw [h1, Option.bind_some]
  cases hg : r1.good
  · simp only [hg, Bool.false_eq_true, ↓reduceIte, Option.bind_some, want_f hg] at h
    simp only [take_f hg, Option.bind_some, hg, Bool.false_eq_true, ↓reduceIte, want_f hg]
    exact h
  · simp only [hg, ↓reduceIte] at h
    rw [Option.bind_assoc, Option.bind_eq_some_iff] at h
    obtain ⟨c, h2, h⟩ := h
    cases c
    · have ht : r1.take [41] = some (false, r1) := by simp [Rd.take, hg, h2]
      simp only [Bool.not_false, Option.bind_some, ↓reduceIte] at h
      simp only [ht, Option.bind_some, Bool.false_eq_true, ↓reduceIte, hg, Option.bind_assoc]
      exact h
    · have ht : r1.take [41] = some (true, { r1 with i := r1.i + 1 }) := by simp [Rd.take, hg, h2]
      simp only [Bool.not_true, Option.bind_some, Bool.false_eq_true, ↓reduceIte, Rd.want, ht] at h
      simp only [ht, Option.bind_some, ↓reduceIte]
      exact h

theorem Pargs_s {z : D} [Cell z] {m : Nat} {r : Rd} {p : List Ar × Rd} (h : Rd.argsM m r = some p) {s : St} {o : Nat} (ho : s.objs[o]? = some (encRc z r)) :
    Fun Try.prog n_ref3_P_args [.ptr o 0] s (.slice .shared 6 (p.1.map encAr)) ⟨s.objs.set o (encRc z p.2), s.toks⟩ := by
  refine Fun.meth ?_ rfl (okRc z r) (okRc z p.2) (by simp [D.ok, okrAr, Tag.ok]) ho
  unfold Rd.argsM at h
  rw [Option.bind_eq_some_iff] at h
  obtain ⟨r1, h1, h⟩ := h
  rw [Option.bind_eq_some_iff] at h
  obtain ⟨q, h2, h⟩ := h
  have wa := fun {s : St} {o : Nat} (ho : s.objs[o]? = some (encRc z r)) => Pwant_s h1 ho
  have tk := fun {s : St} {o : Nat} (ho : s.objs[o]? = some (encRc z r1)) => Ptake_s h2 ho
  cases hq : q.1
  · simp only [hq, Bool.false_eq_true, ↓reduceIte] at h
    cases hg : q.2.good
    · simp only [hg, Bool.false_eq_true, ↓reduceIte] at h
      have wf := fun {s : St} {o : Nat} (ho : s.objs[o]? = some (encRc z q.2)) => Pwant_s (want_f hg [41]) ho
      refine Fun.go has_ref3_P_args rfl fun B Q hB hQ => ?_
      have hlt : 0 < 1 := Nat.zero_lt_one
      have hget : 0 < 1 := Nat.zero_lt_one
      have hpu : 0 < 1 := Nat.zero_lt_one
      have hinc : 0 < 1 := Nat.zero_lt_one
      repeat' (first
 | simp only [go_sem, hlt, hget, hpu, hinc, Int.reduceLE, ↓reduceIte, reduceCtorEq, Nat.reduceEqDiff, Nat.reduceLeDiff, Nat.reduceAdd, Nat.reduceMul, Nat.reduceSub, Nat.reduceLT, hq]
 | (with_reducible refine CU (wa (by with_unfolding_all rfl)) ?_)
 | (with_reducible refine CU (tk (by with_unfolding_all rfl)) ?_)
 | (with_reducible refine CU (Pok_s (by with_unfolding_all rfl)) ?_)
 | (with_reducible refine CU (wf (by with_unfolding_all rfl)) ?_)
 | (with_reducible refine SemL.onceW ?_)
 | (with_reducible first | refine CB_ofT (by assumption) fun hc => ?_ | refine CB_ofF (by assumption) fun hc => ?_ | refine CB_split (fun hc => ?_) fun hc => ?_) <;> (try simp only [hc, bs, ↓reduceIte] at h) <;> (try simp only [hc])
 | ((with_reducible first | refine leafR hQ ?_ | refine leafN hQ ?_); (try cases h); simp only [resL, oneD, Option.some.injEq, exists_eq_left', go_sem, hlt, hget, hpu, hinc, Int.reduceLE, ↓reduceIte, reduceCtorEq, Nat.reduceEqDiff, Nat.reduceLeDiff, Nat.reduceAdd, Nat.reduceMul, Nat.reduceSub, Nat.reduceLT, hq]; repeat' (first | exact Ok.out | with_reducible refine And.intro ?_ ?_ | (simp; done)))
 | (cases h; replace h := hr; clear hr; (try simp only [bs, ↓reduceIte] at h))
 | (cases h; done))
    · simp only [hg, ↓reduceIte] at h
      rw [Option.bind_eq_some_iff] at h
      obtain ⟨y, h, hr⟩ := h
      refine Fun.go has_ref3_P_args rfl fun B Q hB hQ => ?_
      have hlt : 0 < 1 := Nat.zero_lt_one
      have hget : 0 < 1 := Nat.zero_lt_one
      have hpu : 0 < 1 := Nat.zero_lt_one
      have hinc : 0 < 1 := Nat.zero_lt_one
      repeat' (first
 | simp only [go_sem, hlt, hget, hpu, hinc, Int.reduceLE, ↓reduceIte, reduceCtorEq, Nat.reduceEqDiff, Nat.reduceLeDiff, Nat.reduceAdd, Nat.reduceMul, Nat.reduceSub, Nat.reduceLT, hq]
 | (with_reducible refine CU (wa (by with_unfolding_all rfl)) ?_)
 | (with_reducible refine CU (tk (by with_unfolding_all rfl)) ?_)
 | (with_reducible first | refine CB_ofT (by assumption) fun hc => ?_ | refine CB_ofF (by assumption) fun hc => ?_ | refine CB_split (fun hc => ?_) fun hc => ?_) <;> (try simp only [hc, bs, ↓reduceIte] at h) <;> (try simp only [hc])
 | ((with_reducible first | refine leafR hQ ?_ | refine leafN hQ ?_); (try cases h); simp only [resL, oneD, Option.some.injEq, exists_eq_left', go_sem, hlt, hget, hpu, hinc, Int.reduceLE, ↓reduceIte, reduceCtorEq, Nat.reduceEqDiff, Nat.reduceLeDiff, Nat.reduceAdd, Nat.reduceMul, Nat.reduceSub, Nat.reduceLT, hq]; repeat' (first | exact Ok.out | with_reducible refine And.intro ?_ ?_ | (simp; done)))
 | (cases h; replace h := hr; clear hr; (try simp only [bs, ↓reduceIte] at h))
 | (cases h; done))
      refine SemL.tokT 3 6 rfl ?_
      simp only [go_sem, hlt, hget, hpu, hinc, Int.reduceLE, ↓reduceIte, reduceCtorEq, Nat.reduceEqDiff, Nat.reduceLeDiff, Nat.reduceAdd, Nat.reduceMul, Nat.reduceSub, Nat.reduceLT]
      refine SemL.re _ _ 1 1 (by rw [hB]; exact Nat.le_of_ble_eq_true rfl) (by rw [hB]; exact Nat.le_of_ble_eq_true rfl) ?_ ?_ (SemL.ind (ι := Nat × List Ar × Rd × Nat) (fun i => Rd.callL m i.1 i.2.1 i.2.2.1 = some y ∧ i.2.2.2 = i.2.1.length) (fun i => i.1)
        (fun i => [(0, .ptr 0 0), (3, .slice (.tok 0) 6 (i.2.1.map encAr))]) (fun i => ⟨[encRc z i.2.2.1], [some i.2.2.2]⟩) ?_ (m, [], q.2, 0) ⟨h, rfl⟩)
      · (simp only [go_sem, hlt, hget, hpu, hinc, Int.reduceLE, ↓reduceIte, reduceCtorEq, Nat.reduceEqDiff, Nat.reduceLeDiff, Nat.reduceAdd, Nat.reduceMul, Nat.reduceSub, Nat.reduceLT]; repeat' (first | exact Ok.out | with_reducible refine And.intro ?_ ?_))
      · (simp only [go_sem, hlt, hget, hpu, hinc, Int.reduceLE, ↓reduceIte, reduceCtorEq, Nat.reduceEqDiff, Nat.reduceLeDiff, Nat.reduceAdd, Nat.reduceMul, Nat.reduceSub, Nat.reduceLT]; repeat' (first | exact Ok.out | with_reducible refine And.intro ?_ ?_))
      rintro ⟨n, l, r, k⟩ ⟨h, hk⟩ IH
      dsimp only at hk; subst hk
      cases n with
      | zero => simp only [Rd.callL] at h; cases h
      | succ n =>
        simp only [Rd.callL] at h
        repeat' (first
 | simp only [go_sem, hlt, hget, hpu, hinc, Int.reduceLE, ↓reduceIte, reduceCtorEq, Nat.reduceEqDiff, Nat.reduceLeDiff, Nat.reduceAdd, Nat.reduceMul, Nat.reduceSub, Nat.reduceLT]
 | (rw [Option.bind_eq_some_iff] at h; obtain ⟨_, h1, h⟩ := h; first | (with_reducible refine CU (Ptake_s h1 (by with_unfolding_all rfl)) ?_) | (obtain ⟨hpu, hpush⟩ := push_some h1; subst hpush; simp only [go_sem, hlt, hget, hpu, hinc, Int.reduceLE, ↓reduceIte, reduceCtorEq, Nat.reduceEqDiff, Nat.reduceLeDiff, Nat.reduceAdd, Nat.reduceMul, Nat.reduceSub, Nat.reduceLT]) | (with_reducible refine CU (Pname_s h1 rfl (by with_unfolding_all rfl)) ?_) | (with_reducible refine CU (Pexpr_s h1 (by with_unfolding_all rfl)) ?_) | (with_reducible refine CU (Pwant_s h1 (by with_unfolding_all rfl)) ?_))
 | (with_reducible refine CU (Pok_s (by with_unfolding_all rfl)) ?_)
 | (with_reducible first | refine CB_ofT (by assumption) fun hc => ?_ | refine CB_ofF (by assumption) fun hc => ?_ | refine CB_split (fun hc => ?_) fun hc => ?_) <;> (try simp only [hc, bs, ↓reduceIte] at h) <;> (try simp only [hc])
 | ((with_reducible first | refine leafR hQ ?_ | refine leafN hQ ?_); (try cases h); simp only [resL, oneD, Option.some.injEq, exists_eq_left', go_sem, hlt, hget, hpu, hinc, Int.reduceLE, ↓reduceIte, reduceCtorEq, Nat.reduceEqDiff, Nat.reduceLeDiff, Nat.reduceAdd, Nat.reduceMul, Nat.reduceSub, Nat.reduceLT]; repeat' (first | exact Ok.out | with_reducible refine And.intro ?_ ?_ | (simp; done)))
 | (cases h; replace h := hr; clear hr; (try simp only [bs, ↓reduceIte] at h))
 | (cases h; done))
        · refine SemL.re _ _ 1 1 (by rw [hB]; exact Nat.le_of_ble_eq_true rfl) (by rw [hB]; exact Nat.le_of_ble_eq_true rfl) ?_ ?_ (IH (n, _, _, l.length + 1) ⟨h, by simp⟩ (Nat.lt_succ_self _))
          · (simp only [go_sem, hlt, hget, hpu, hinc, Int.reduceLE, ↓reduceIte, reduceCtorEq, Nat.reduceEqDiff, Nat.reduceLeDiff, Nat.reduceAdd, Nat.reduceMul, Nat.reduceSub, Nat.reduceLT]; repeat' (first | exact Ok.out | with_reducible refine And.intro ?_ ?_))
          · (simp only [go_sem, hlt, hget, hpu, hinc, Int.reduceLE, ↓reduceIte, reduceCtorEq, Nat.reduceEqDiff, Nat.reduceLeDiff, Nat.reduceAdd, Nat.reduceMul, Nat.reduceSub, Nat.reduceLT]; repeat' (first | exact Ok.out | with_reducible refine And.intro ?_ ?_))
        · refine SemL.re _ _ 1 1 (by rw [hB]; exact Nat.le_of_ble_eq_true rfl) (by rw [hB]; exact Nat.le_of_ble_eq_true rfl) ?_ ?_ (IH (n, _, _, l.length + 1) ⟨h, by simp⟩ (Nat.lt_succ_self _))
          · (simp only [go_sem, hlt, hget, hpu, hinc, Int.reduceLE, ↓reduceIte, reduceCtorEq, Nat.reduceEqDiff, Nat.reduceLeDiff, Nat.reduceAdd, Nat.reduceMul, Nat.reduceSub, Nat.reduceLT]; repeat' (first | exact Ok.out | with_reducible refine And.intro ?_ ?_))
          · (simp only [go_sem, hlt, hget, hpu, hinc, Int.reduceLE, ↓reduceIte, reduceCtorEq, Nat.reduceEqDiff, Nat.reduceLeDiff, Nat.reduceAdd, Nat.reduceMul, Nat.reduceSub, Nat.reduceLT]; repeat' (first | exact Ok.out | with_reducible refine And.intro ?_ ?_))
  · simp only [hq, ↓reduceIte] at h
    refine Fun.go has_ref3_P_args rfl fun B Q hB hQ => ?_
    have hlt : 0 < 1 := Nat.zero_lt_one
    have hget : 0 < 1 := Nat.zero_lt_one
    have hpu : 0 < 1 := Nat.zero_lt_one
    have hinc : 0 < 1 := Nat.zero_lt_one
    repeat' (first
 | simp only [go_sem, hlt, hget, hpu, hinc, Int.reduceLE, ↓reduceIte, reduceCtorEq, Nat.reduceEqDiff, Nat.reduceLeDiff, Nat.reduceAdd, Nat.reduceMul, Nat.reduceSub, Nat.reduceLT, hq]
 | (with_reducible refine CU (wa (by with_unfolding_all rfl)) ?_)
 | (with_reducible refine CU (tk (by with_unfolding_all rfl)) ?_)
 | (with_reducible first | refine CB_ofT (by assumption) fun hc => ?_ | refine CB_ofF (by assumption) fun hc => ?_ | refine CB_split (fun hc => ?_) fun hc => ?_) <;> (try simp only [hc, bs, ↓reduceIte] at h) <;> (try simp only [hc])
 | ((with_reducible first | refine leafR hQ ?_ | refine leafN hQ ?_); (try cases h); simp only [resL, oneD, Option.some.injEq, exists_eq_left', go_sem, hlt, hget, hpu, hinc, Int.reduceLE, ↓reduceIte, reduceCtorEq, Nat.reduceEqDiff, Nat.reduceLeDiff, Nat.reduceAdd, Nat.reduceMul, Nat.reduceSub, Nat.reduceLT, hq]; repeat' (first | exact Ok.out | with_reducible refine And.intro ?_ ?_ | (simp; done)))
 | (cases h; replace h := hr; clear hr; (try simp only [bs, ↓reduceIte] at h))
 | (cases h; done))

end Go.Abs

/-! Ref6 -/

namespace Go.Abs

set_option maxRecDepth 8000
set_option linter.unusedSimpArgs false
set_option linter.unusedVariables false
open Go.Proofs

/-- A statement that begins with a name, behind that name and but for its semicolon. -/
def Rd.namedM (m : Nat) (name : Str) (r : Rd) : Option (Sm × Rd) :=
  (r.isO [40]).bind fun b =>
    if b then (Rd.argsM m r).bind fun q => some (⟨0, 4, [], [], name, ex0, false, q.1, [], []⟩, q.2)
    else (r.want [61]).bind fun r => (r.ahead [40]).bind fun b =>
      if b then (r.name true).bind fun y => (Rd.argsM m y.2).bind fun q => some (⟨0, 4, [], name, y.1, ex0, false, q.1, [], []⟩, q.2)
      else (Rd.whole m r).bind fun y => some (⟨0, 1, [], name, [], y.1, false, [], [], []⟩, y.2)

/-- And the semicolon. -/
def semi (p : Sm × Rd) : Option (Sm × Rd) := (p.2.want [59]).bind fun r => some (p.1, r)

theorem named_M {m : Nat} {r : Rd} {t : Tok} {p : Sm × Rd} (h : Rd.named m r = some p) (hg : r.good = true) (h1 : r.peek = some t) (hk : t.kind = 1) :
    (Rd.namedM m t.text { r with i := r.i + 1 }).bind semi = some p := by
  have hn : r.name true = some (t.text, { r with i := r.i + 1 }) := by simp [Rd.name, h1, hg, hk]
  have hg' : ({ r with i := r.i + 1 } : Rd).good = true := hg
  unfold Rd.named at h
  rw [hn, Option.bind_some] at h
  unfold Rd.namedM
  simp only [Rd.isO, hg', ↓reduceIte]
  rw [Option.bind_eq_some_iff] at h
  obtain ⟨b, h2, h⟩ := h
  rw [h2, Option.bind_some]
  cases b
  · simp only [Bool.false_eq_true, ↓reduceIte, Option.bind_assoc] at h ⊢
    rw [Option.bind_eq_some_iff] at h
    obtain ⟨r1, h3, h⟩ := h
    rw [h3, Option.bind_some]
    rw [Option.bind_eq_some_iff] at h
    obtain ⟨c, h4, h⟩ := h
    rw [h4, Option.bind_some]
    cases c
    · simp only [Bool.false_eq_true, ↓reduceIte, Option.bind_assoc, Option.bind_some, semi] at h ⊢
      exact h
    · simp only [↓reduceIte, Option.bind_assoc, Option.bind_some, semi] at h ⊢
      rw [Option.bind_eq_some_iff] at h
      obtain ⟨y, h5, h⟩ := h
      rw [h5, Option.bind_some]
      exact call_args h
  · simp only [↓reduceIte, Option.bind_assoc, Option.bind_some, semi] at h ⊢
    exact call_args h

theorem Pnamed_s {z : D} [Cell z] {m : Nat} {name : Str} {r : Rd} {p : Sm × Rd} (h : Rd.namedM m name r = some p) {s : St} {o : Nat} (ho : s.objs[o]? = some (encRc z r)) :
    Fun Try.prog n_ref3_P_named [.ptr o 0, .str name] s (.agg (encSm p.1)) ⟨s.objs.set o (encRc z p.2), s.toks⟩ := by
  refine Fun.meth ?_ rfl (okRc z r) (okRc z p.2) (by simp [D.ok, okSm]) ho
  unfold Rd.namedM Rd.ahead at h
  refine Fun.go has_ref3_P_named rfl fun B Q hB hQ => ?_
  have hlt : 0 < 1 := Nat.zero_lt_one
  have hget : 0 < 1 := Nat.zero_lt_one
  have hpu : 0 < 1 := Nat.zero_lt_one
  have hinc : 0 < 1 := Nat.zero_lt_one
  repeat' (first
 | simp only [go_sem, hlt, hget, hpu, hinc, Int.reduceLE, ↓reduceIte, reduceCtorEq, Nat.reduceEqDiff, Nat.reduceLeDiff, Nat.reduceAdd, Nat.reduceMul, Nat.reduceSub, Nat.reduceLT]
 | (rw [Option.bind_eq_some_iff] at h; obtain ⟨_, h1, h⟩ := h; first | (with_reducible refine CU (Pis_s h1 (by with_unfolding_all rfl)) ?_) | (with_reducible refine CU (Pargs_s h1 (by with_unfolding_all rfl)) ?_) | (with_reducible refine CU (Pwant_s h1 (by with_unfolding_all rfl)) ?_) | (obtain ⟨hlt, hget, hkl, hkh⟩ := peek_get h1; simp only [go_sem, hget, hlt, hget, hpu, hinc, Int.reduceLE, ↓reduceIte, reduceCtorEq, Nat.reduceEqDiff, Nat.reduceLeDiff, Nat.reduceAdd, Nat.reduceMul, Nat.reduceSub, Nat.reduceLT]) | (obtain ⟨hltq, hget⟩ := getO_some h1; simp only [go_sem, hget, hlt, hget, hpu, hinc, Int.reduceLE, ↓reduceIte, reduceCtorEq, Nat.reduceEqDiff, Nat.reduceLeDiff, Nat.reduceAdd, Nat.reduceMul, Nat.reduceSub, Nat.reduceLT]) | (with_reducible refine CU (Pname_s h1 rfl (by with_unfolding_all rfl)) ?_) | (with_reducible refine CU (Pexpr_s h1 (by with_unfolding_all rfl)) ?_))
 | (with_reducible refine CU (Pok_s (by with_unfolding_all rfl)) ?_)
 | (with_reducible first | refine CB_ofT (by assumption) fun hc => ?_ | refine CB_ofF (by assumption) fun hc => ?_ | refine CB_split (fun hc => ?_) fun hc => ?_) <;> (try simp only [hc, bs, ↓reduceIte] at h) <;> (try simp only [hc])
 | ((with_reducible first | refine leafR hQ ?_ | refine leafN hQ ?_); (try cases h); simp only [resL, oneD, Option.some.injEq, exists_eq_left', go_sem, hlt, hget, hpu, hinc, Int.reduceLE, ↓reduceIte, reduceCtorEq, Nat.reduceEqDiff, Nat.reduceLeDiff, Nat.reduceAdd, Nat.reduceMul, Nat.reduceSub, Nat.reduceLT]; repeat' (first | exact Ok.out | with_reducible refine And.intro ?_ ?_ | (simp; done)))
 | (cases h; replace h := hr; clear hr; (try simp only [bs, ↓reduceIte] at h))
 | (cases h; done))

theorem take_tok {r : Rd} {t : Tok} (hg : r.good = true) (h1 : r.peek = some t) (w : Str) : r.take w = some (if (t.kind == 3 || t.kind == 4) && t.text == w then (true, { r with i := r.i + 1 }) else (false, r)) := by
  simp only [Rd.take, hg, Bool.not_true, Bool.false_eq_true, ↓reduceIte, Rd.is, h1, Option.bind_some]
  cases (t.kind == 3 || t.kind == 4) && t.text == w <;> rfl

theorem Psmall_name {z : D} [Cell z] {m : Nat} {r : Rd} {t : Tok} {p : Sm × Rd} (hg : r.good = true) (h1 : r.peek = some t) (hk : t.kind = 1) (h : Rd.namedM m t.text { r with i := r.i + 1 } = some p) {s : St} {o : Nat} (ho : s.objs[o]? = some (encRc z r)) :
    Fun Try.prog n_ref3_P_small [.ptr o 0] s (.agg (encSm p.1)) ⟨s.objs.set o (encRc z p.2), s.toks⟩ := by
  refine Fun.meth ?_ rfl (okRc z r) (okRc z p.2) (by simp [D.ok, okSm]) ho
  have tf : ∀ w : Str, ∀ {s : St} {o : Nat}, s.objs[o]? = some (encRc z r) → Fun Try.prog n_ref3_P_take [.ptr o 0, .str w] s (.bool false) ⟨s.objs.set o (encRc z r), s.toks⟩ := fun w s o ho => by
    have e := take_tok hg h1 w
    have e2 : (t.kind == 3 || t.kind == 4) = false := by simp [hk]
    simp only [e2, Bool.false_and, Bool.false_eq_true, ↓reduceIte] at e
    exact Ptake_s e ho
  have nm : ∀ {s : St} {o : Nat}, s.objs[o]? = some (encRc z r) → Fun Try.prog n_ref3_P_name [.ptr o 0, .bool false] s (.str t.text) ⟨s.objs.set o (encRc z { r with i := r.i + 1 }), s.toks⟩ := fun {s} {o} ho =>
    Pname_s (room := true) (by simp [Rd.name, h1, hg, hk] : r.name true = some (t.text, { r with i := r.i + 1 })) rfl ho
  refine Fun.go has_ref3_P_small rfl fun B Q hB hQ => ?_
  have hlt : 0 < 1 := Nat.zero_lt_one
  have hget : 0 < 1 := Nat.zero_lt_one
  have hpu : 0 < 1 := Nat.zero_lt_one
  have hinc : 0 < 1 := Nat.zero_lt_one
  repeat' (first
 | simp only [go_sem, hlt, hget, hpu, hinc, Int.reduceLE, ↓reduceIte, reduceCtorEq, Nat.reduceEqDiff, Nat.reduceLeDiff, Nat.reduceAdd, Nat.reduceMul, Nat.reduceSub, Nat.reduceLT]
 | (with_reducible refine CU (tf _ (by with_unfolding_all rfl)) ?_)
 | (with_reducible refine CU (nm (by with_unfolding_all rfl)) ?_)
 | (with_reducible refine CU (Pnamed_s h (by with_unfolding_all rfl)) ?_)
 | (with_reducible first | refine CB_ofT (by assumption) fun hc => ?_ | refine CB_ofF (by assumption) fun hc => ?_ | refine CB_split (fun hc => ?_) fun hc => ?_) <;> (try simp only [hc, bs, ↓reduceIte] at h) <;> (try simp only [hc])
 | ((with_reducible first | refine leafR hQ ?_ | refine leafN hQ ?_); (try cases h); simp only [resL, oneD, Option.some.injEq, exists_eq_left', go_sem, hlt, hget, hpu, hinc, Int.reduceLE, ↓reduceIte, reduceCtorEq, Nat.reduceEqDiff, Nat.reduceLeDiff, Nat.reduceAdd, Nat.reduceMul, Nat.reduceSub, Nat.reduceLT]; repeat' (first | exact Ok.out | with_reducible refine And.intro ?_ ?_ | (simp; done)))
 | (cases h; replace h := hr; clear hr; (try simp only [bs, ↓reduceIte] at h))
 | (cases h; done))

theorem Psmall_word {z : D} [Cell z] {m : Nat} {r : Rd} {t : Tok} {p : Sm × Rd} (hg : r.good = true) (h1 : r.peek = some t) (hk : t.kind = 3) (hw : begW t.text = true) (hi : (t.text == [105, 102]) = false) (hh : (t.text == [119, 104, 105, 108, 101]) = false)
    (h : Rd.plain m t.text { r with i := r.i + 1 } = some p) {s : St} {o : Nat} (ho : s.objs[o]? = some (encRc z r)) :
    Fun Try.prog n_ref3_P_small [.ptr o 0] s (.agg (encSm p.1)) ⟨s.objs.set o (encRc z p.2), s.toks⟩ := by
  refine Fun.meth ?_ rfl (okRc z r) (okRc z p.2) (by simp [D.ok, okSm]) ho
  have tf : ∀ w : Str, (t.text == w) = false → ∀ {s : St} {o : Nat}, s.objs[o]? = some (encRc z r) → Fun Try.prog n_ref3_P_take [.ptr o 0, .str w] s (.bool false) ⟨s.objs.set o (encRc z r), s.toks⟩ := fun w hw s o ho => by
    have e := take_tok hg h1 w
    simp only [hw, Bool.and_false, Bool.false_eq_true, ↓reduceIte] at e
    exact Ptake_s e ho
  have tt : ∀ {s : St} {o : Nat}, s.objs[o]? = some (encRc z r) → Fun Try.prog n_ref3_P_take [.ptr o 0, .str t.text] s (.bool true) ⟨s.objs.set o (encRc z { r with i := r.i + 1 }), s.toks⟩ := fun {s} {o} ho => by
    have e := take_tok hg h1 t.text
    have e2 : (t.kind == 3 || t.kind == 4) = true := by simp [hk]
    simp only [e2, beq_self_eq_true, Bool.and_self, ↓reduceIte] at e
    exact Ptake_s e ho
  have hg' : ({ r with i := r.i + 1 } : Rd).good = true := hg
  have his : ∀ b, ({ r with i := r.i + 1 } : Rd).is [59] = some b → ({ r with i := r.i + 1 } : Rd).isO [59] = some b := fun b hb => by simp only [Rd.isO, hg', ↓reduceIte, hb]
  generalize t.text = w at hw hi hh h tf tt
  simp only [begW, hi, hh, Bool.false_or, Bool.or_eq_true, beq_iff_eq] at hw
  rcases hw with ((((hw | hw) | hw) | hw) | hw) | hw <;> subst hw
  · unfold Rd.plain at h
    rw [if_pos (by decide)] at h
    refine Fun.go has_ref3_P_small rfl fun B Q hB hQ => ?_
    have hlt : 0 < 1 := Nat.zero_lt_one
    have hget : 0 < 1 := Nat.zero_lt_one
    have hpu : 0 < 1 := Nat.zero_lt_one
    have hinc : 0 < 1 := Nat.zero_lt_one
    repeat' (first
 | simp only [go_sem, hlt, hget, hpu, hinc, Int.reduceLE, ↓reduceIte, reduceCtorEq, Nat.reduceEqDiff, Nat.reduceLeDiff, Nat.reduceAdd, Nat.reduceMul, Nat.reduceSub, Nat.reduceLT]
 | (rw [Option.bind_eq_some_iff] at h; obtain ⟨_, h1, h⟩ := h; first | (with_reducible refine CU (Pname_s h1 rfl (by with_unfolding_all rfl)) ?_) | (with_reducible refine CU (Pis_s (his _ h1) (by with_unfolding_all rfl)) ?_) | (with_reducible refine CU (Pexpr_s h1 (by with_unfolding_all rfl)) ?_))
 | (with_reducible refine CU (tt (by with_unfolding_all rfl)) ?_)
 | (with_reducible refine CU (tf _ (by decide) (by with_unfolding_all rfl)) ?_)
 | (with_reducible first | refine CB_ofT (by assumption) fun hc => ?_ | refine CB_ofF (by assumption) fun hc => ?_ | refine CB_split (fun hc => ?_) fun hc => ?_) <;> (try simp only [hc, bs, ↓reduceIte] at h) <;> (try simp only [hc])
 | ((with_reducible first | refine leafR hQ ?_ | refine leafN hQ ?_); (try cases h); simp only [resL, oneD, Option.some.injEq, exists_eq_left', go_sem, hlt, hget, hpu, hinc, Int.reduceLE, ↓reduceIte, reduceCtorEq, Nat.reduceEqDiff, Nat.reduceLeDiff, Nat.reduceAdd, Nat.reduceMul, Nat.reduceSub, Nat.reduceLT]; repeat' (first | exact Ok.out | with_reducible refine And.intro ?_ ?_ | (simp; done)))
 | (cases h; replace h := hr; clear hr; (try simp only [bs, ↓reduceIte] at h))
 | (cases h; done))
  · unfold Rd.plain at h
    rw [if_neg (by decide), if_pos (by decide)] at h
    refine Fun.go has_ref3_P_small rfl fun B Q hB hQ => ?_
    have hlt : 0 < 1 := Nat.zero_lt_one
    have hget : 0 < 1 := Nat.zero_lt_one
    have hpu : 0 < 1 := Nat.zero_lt_one
    have hinc : 0 < 1 := Nat.zero_lt_one
    repeat' (first
 | simp only [go_sem, hlt, hget, hpu, hinc, Int.reduceLE, ↓reduceIte, reduceCtorEq, Nat.reduceEqDiff, Nat.reduceLeDiff, Nat.reduceAdd, Nat.reduceMul, Nat.reduceSub, Nat.reduceLT]
 | (rw [Option.bind_eq_some_iff] at h; obtain ⟨_, h1, h⟩ := h; first | (with_reducible refine CU (Pname_s h1 rfl (by with_unfolding_all rfl)) ?_) | (with_reducible refine CU (Pis_s (his _ h1) (by with_unfolding_all rfl)) ?_) | (with_reducible refine CU (Pexpr_s h1 (by with_unfolding_all rfl)) ?_))
 | (with_reducible refine CU (tt (by with_unfolding_all rfl)) ?_)
 | (with_reducible refine CU (tf _ (by decide) (by with_unfolding_all rfl)) ?_)
 | (with_reducible first | refine CB_ofT (by assumption) fun hc => ?_ | refine CB_ofF (by assumption) fun hc => ?_ | refine CB_split (fun hc => ?_) fun hc => ?_) <;> (try simp only [hc, bs, ↓reduceIte] at h) <;> (try simp only [hc])
 | ((with_reducible first | refine leafR hQ ?_ | refine leafN hQ ?_); (try cases h); simp only [resL, oneD, Option.some.injEq, exists_eq_left', go_sem, hlt, hget, hpu, hinc, Int.reduceLE, ↓reduceIte, reduceCtorEq, Nat.reduceEqDiff, Nat.reduceLeDiff, Nat.reduceAdd, Nat.reduceMul, Nat.reduceSub, Nat.reduceLT]; repeat' (first | exact Ok.out | with_reducible refine And.intro ?_ ?_ | (simp; done)))
 | (cases h; replace h := hr; clear hr; (try simp only [bs, ↓reduceIte] at h))
 | (cases h; done))
  · unfold Rd.plain at h
    rw [if_neg (by decide), if_neg (by decide), if_pos (by decide)] at h
    refine Fun.go has_ref3_P_small rfl fun B Q hB hQ => ?_
    have hlt : 0 < 1 := Nat.zero_lt_one
    have hget : 0 < 1 := Nat.zero_lt_one
    have hpu : 0 < 1 := Nat.zero_lt_one
    have hinc : 0 < 1 := Nat.zero_lt_one
    repeat' (first
 | simp only [go_sem, hlt, hget, hpu, hinc, Int.reduceLE, ↓reduceIte, reduceCtorEq, Nat.reduceEqDiff, Nat.reduceLeDiff, Nat.reduceAdd, Nat.reduceMul, Nat.reduceSub, Nat.reduceLT]
 | (rw [Option.bind_eq_some_iff] at h; obtain ⟨_, h1, h⟩ := h; first | (with_reducible refine CU (Pname_s h1 rfl (by with_unfolding_all rfl)) ?_) | (with_reducible refine CU (Pis_s (his _ h1) (by with_unfolding_all rfl)) ?_) | (with_reducible refine CU (Pexpr_s h1 (by with_unfolding_all rfl)) ?_))
 | (with_reducible refine CU (tt (by with_unfolding_all rfl)) ?_)
 | (with_reducible refine CU (tf _ (by decide) (by with_unfolding_all rfl)) ?_)
 | (with_reducible first | refine CB_ofT (by assumption) fun hc => ?_ | refine CB_ofF (by assumption) fun hc => ?_ | refine CB_split (fun hc => ?_) fun hc => ?_) <;> (try simp only [hc, bs, ↓reduceIte] at h) <;> (try simp only [hc])
 | ((with_reducible first | refine leafR hQ ?_ | refine leafN hQ ?_); (try cases h); simp only [resL, oneD, Option.some.injEq, exists_eq_left', go_sem, hlt, hget, hpu, hinc, Int.reduceLE, ↓reduceIte, reduceCtorEq, Nat.reduceEqDiff, Nat.reduceLeDiff, Nat.reduceAdd, Nat.reduceMul, Nat.reduceSub, Nat.reduceLT]; repeat' (first | exact Ok.out | with_reducible refine And.intro ?_ ?_ | (simp; done)))
 | (cases h; replace h := hr; clear hr; (try simp only [bs, ↓reduceIte] at h))
 | (cases h; done))
  · unfold Rd.plain at h
    rw [if_neg (by decide), if_neg (by decide), if_neg (by decide), if_pos (by decide)] at h
    refine Fun.go has_ref3_P_small rfl fun B Q hB hQ => ?_
    have hlt : 0 < 1 := Nat.zero_lt_one
    have hget : 0 < 1 := Nat.zero_lt_one
    have hpu : 0 < 1 := Nat.zero_lt_one
    have hinc : 0 < 1 := Nat.zero_lt_one
    repeat' (first
 | simp only [go_sem, hlt, hget, hpu, hinc, Int.reduceLE, ↓reduceIte, reduceCtorEq, Nat.reduceEqDiff, Nat.reduceLeDiff, Nat.reduceAdd, Nat.reduceMul, Nat.reduceSub, Nat.reduceLT]
 | (rw [Option.bind_eq_some_iff] at h; obtain ⟨_, h1, h⟩ := h; first | (with_reducible refine CU (Pname_s h1 rfl (by with_unfolding_all rfl)) ?_) | (with_reducible refine CU (Pis_s (his _ h1) (by with_unfolding_all rfl)) ?_) | (with_reducible refine CU (Pexpr_s h1 (by with_unfolding_all rfl)) ?_))
 | (with_reducible refine CU (tt (by with_unfolding_all rfl)) ?_)
 | (with_reducible refine CU (tf _ (by decide) (by with_unfolding_all rfl)) ?_)
 | (with_reducible first | refine CB_ofT (by assumption) fun hc => ?_ | refine CB_ofF (by assumption) fun hc => ?_ | refine CB_split (fun hc => ?_) fun hc => ?_) <;> (try simp only [hc, bs, ↓reduceIte] at h) <;> (try simp only [hc])
 | ((with_reducible first | refine leafR hQ ?_ | refine leafN hQ ?_); (try cases h); simp only [resL, oneD, Option.some.injEq, exists_eq_left', go_sem, hlt, hget, hpu, hinc, Int.reduceLE, ↓reduceIte, reduceCtorEq, Nat.reduceEqDiff, Nat.reduceLeDiff, Nat.reduceAdd, Nat.reduceMul, Nat.reduceSub, Nat.reduceLT]; repeat' (first | exact Ok.out | with_reducible refine And.intro ?_ ?_ | (simp; done)))
 | (cases h; replace h := hr; clear hr; (try simp only [bs, ↓reduceIte] at h))
 | (cases h; done))
  · unfold Rd.plain at h
    rw [if_neg (by decide), if_neg (by decide), if_neg (by decide), if_neg (by decide), if_pos (by decide)] at h
    refine Fun.go has_ref3_P_small rfl fun B Q hB hQ => ?_
    have hlt : 0 < 1 := Nat.zero_lt_one
    have hget : 0 < 1 := Nat.zero_lt_one
    have hpu : 0 < 1 := Nat.zero_lt_one
    have hinc : 0 < 1 := Nat.zero_lt_one
    repeat' (first
 | simp only [go_sem, hlt, hget, hpu, hinc, Int.reduceLE, ↓reduceIte, reduceCtorEq, Nat.reduceEqDiff, Nat.reduceLeDiff, Nat.reduceAdd, Nat.reduceMul, Nat.reduceSub, Nat.reduceLT]
 | (rw [Option.bind_eq_some_iff] at h; obtain ⟨_, h1, h⟩ := h; first | (with_reducible refine CU (Pname_s h1 rfl (by with_unfolding_all rfl)) ?_) | (with_reducible refine CU (Pis_s (his _ h1) (by with_unfolding_all rfl)) ?_) | (with_reducible refine CU (Pexpr_s h1 (by with_unfolding_all rfl)) ?_))
 | (with_reducible refine CU (tt (by with_unfolding_all rfl)) ?_)
 | (with_reducible refine CU (tf _ (by decide) (by with_unfolding_all rfl)) ?_)
 | (with_reducible first | refine CB_ofT (by assumption) fun hc => ?_ | refine CB_ofF (by assumption) fun hc => ?_ | refine CB_split (fun hc => ?_) fun hc => ?_) <;> (try simp only [hc, bs, ↓reduceIte] at h) <;> (try simp only [hc])
 | ((with_reducible first | refine leafR hQ ?_ | refine leafN hQ ?_); (try cases h); simp only [resL, oneD, Option.some.injEq, exists_eq_left', go_sem, hlt, hget, hpu, hinc, Int.reduceLE, ↓reduceIte, reduceCtorEq, Nat.reduceEqDiff, Nat.reduceLeDiff, Nat.reduceAdd, Nat.reduceMul, Nat.reduceSub, Nat.reduceLT]; repeat' (first | exact Ok.out | with_reducible refine And.intro ?_ ?_ | (simp; done)))
 | (cases h; replace h := hr; clear hr; (try simp only [bs, ↓reduceIte] at h))
 | (cases h; done))
  · unfold Rd.plain at h
    rw [if_neg (by decide), if_neg (by decide), if_neg (by decide), if_neg (by decide), if_neg (by decide), if_pos (by decide)] at h
    refine Fun.go has_ref3_P_small rfl fun B Q hB hQ => ?_
    have hlt : 0 < 1 := Nat.zero_lt_one
    have hget : 0 < 1 := Nat.zero_lt_one
    have hpu : 0 < 1 := Nat.zero_lt_one
    have hinc : 0 < 1 := Nat.zero_lt_one
    repeat' (first
 | simp only [go_sem, hlt, hget, hpu, hinc, Int.reduceLE, ↓reduceIte, reduceCtorEq, Nat.reduceEqDiff, Nat.reduceLeDiff, Nat.reduceAdd, Nat.reduceMul, Nat.reduceSub, Nat.reduceLT]
 | (rw [Option.bind_eq_some_iff] at h; obtain ⟨_, h1, h⟩ := h; first | (with_reducible refine CU (Pname_s h1 rfl (by with_unfolding_all rfl)) ?_) | (with_reducible refine CU (Pis_s (his _ h1) (by with_unfolding_all rfl)) ?_) | (with_reducible refine CU (Pexpr_s h1 (by with_unfolding_all rfl)) ?_))
 | (with_reducible refine CU (tt (by with_unfolding_all rfl)) ?_)
 | (with_reducible refine CU (tf _ (by decide) (by with_unfolding_all rfl)) ?_)
 | (with_reducible first | refine CB_ofT (by assumption) fun hc => ?_ | refine CB_ofF (by assumption) fun hc => ?_ | refine CB_split (fun hc => ?_) fun hc => ?_) <;> (try simp only [hc, bs, ↓reduceIte] at h) <;> (try simp only [hc])
 | ((with_reducible first | refine leafR hQ ?_ | refine leafN hQ ?_); (try cases h); simp only [resL, oneD, Option.some.injEq, exists_eq_left', go_sem, hlt, hget, hpu, hinc, Int.reduceLE, ↓reduceIte, reduceCtorEq, Nat.reduceEqDiff, Nat.reduceLeDiff, Nat.reduceAdd, Nat.reduceMul, Nat.reduceSub, Nat.reduceLT]; repeat' (first | exact Ok.out | with_reducible refine And.intro ?_ ?_ | (simp; done)))
 | (cases h; replace h := hr; clear hr; (try simp only [bs, ↓reduceIte] at h))
 | (cases h; done))

end Go.Abs

/-! MirNum -/

namespace Go.Abs
set_option linter.unusedSimpArgs false
set_option linter.unusedVariables false

/-- If it answers, then so. -/
def Pt {α : Type} (o : Option α) (Q : α → Prop) : Prop := ∀ a, o = some a → Q a
theorem Pt.bind {α β : Type} {o : Option α} {f : α → Option β} {Q : α → Prop} {R : β → Prop} (h : Pt o Q) (k : ∀ a, Q a → Pt (f a) R) : Pt (o.bind f) R := by
  intro b hb
  rw [Option.bind_eq_some_iff] at hb
  obtain ⟨a, h1, h2⟩ := hb
  exact k a (h a h1) b h2
theorem Pt.any {α β : Type} {o : Option α} {f : α → Option β} {R : β → Prop} (k : ∀ a, Pt (f a) R) : Pt (o.bind f) R := by
  intro b hb
  rw [Option.bind_eq_some_iff] at hb
  obtain ⟨a, h1, h2⟩ := hb
  exact k a b h2
theorem Pt.some {α : Type} {a : α} {Q : α → Prop} (h : Q a) : Pt (some a) Q := fun b hb => by cases hb; exact h
theorem Pt.none {α : Type} {Q : α → Prop} : Pt (none : Option α) Q := fun b hb => by cases hb
theorem Pt.ite {α : Type} {c : Prop} [Decidable c] {a b : Option α} {Q : α → Prop} (h1 : c → Pt a Q) (h2 : ¬ c → Pt b Q) : Pt (if c then a else b) Q := by
  by_cases h : c
  · rw [if_pos h]; exact h1 h
  · rw [if_neg h]; exact h2 h
theorem Pt.mono {α : Type} {o : Option α} {Q R : α → Prop} (h : Pt o Q) (k : ∀ a, Q a → R a) : Pt o R := fun a ha => k a (h a ha)

structure Keep (a b : Rd) : Prop where
  l : b.l = a.l
  n : b.n = a.n
  g : b.good = true → a.good = true
theorem Keep.refl (r : Rd) : Keep r r := ⟨rfl, rfl, id⟩
theorem Keep.i {a b : Rd} (h : Keep a b) (k : Nat) : Keep a { b with i := k } := ⟨h.l, h.n, h.g⟩
theorem Keep.f {a b : Rd} (h : Keep a b) (hg : b.good = true) (c f : Int) : Keep a { b with code := c, fat := f } := ⟨h.l, h.n, fun _ => h.g hg⟩
theorem bad_k {r0 r : Rd} (h : Keep r0 r) (c : Int) : Pt (r.bad c) (Keep r0) := by
  unfold Rd.bad
  exact Pt.ite (fun hg => Pt.any fun t => Pt.some (h.f hg _ _)) (fun _ => Pt.some h)
theorem take_k {r0 r : Rd} (h : Keep r0 r) (s : Str) : Pt (r.take s) (fun p => Keep r0 p.2) := by
  unfold Rd.take
  exact Pt.ite (fun hg => Pt.some h) (fun _ => Pt.any fun b => Pt.ite (fun _ => Pt.some h) (fun _ => Pt.some (h.i _)))
theorem want_k {r0 r : Rd} (h : Keep r0 r) (s : Str) : Pt (r.want s) (Keep r0) := by
  unfold Rd.want
  exact (take_k h s).bind fun p hp => Pt.ite (fun _ => bad_k hp _) (fun _ => Pt.some hp)
theorem name_k {r0 r : Rd} (h : Keep r0 r) (room : Bool) : Pt (r.name room) (fun p => Keep r0 p.2) := by
  unfold Rd.name
  exact Pt.any fun t => Pt.ite (fun _ => (bad_k h _).bind fun r hr => Pt.some hr) (fun _ => Pt.ite (fun _ => (bad_k h _).bind fun r hr => Pt.some hr) (fun _ => Pt.some (h.i _)))

theorem expr_k {r0 : Rd} : ∀ n : Nat, (∀ r : Rd, Keep r0 r → Pt (Rd.one n r) (fun p => Keep r0 p.2)) ∧ (∀ (r : Rd) (k : Int), Keep r0 r → Pt (Rd.two n k r) (fun p => Keep r0 p.2)) ∧
    (∀ (r : Rd) (k : Int) (x : Ex), Keep r0 r → Pt (Rd.twoL n k x r) (fun p => Keep r0 p.2)) := by
  intro n
  induction n with
  | zero => exact ⟨fun r _ => by simp only [Rd.one]; exact Pt.none, fun r k _ => by simp only [Rd.two]; exact Pt.none, fun r k x _ => by simp only [Rd.twoL]; exact Pt.none⟩
  | succ n ih =>
    obtain ⟨ih1, ih2, ih3⟩ := ih
    refine ⟨fun r h => ?_, fun r k h => ?_, fun r k x h => ?_⟩
    · simp only [Rd.one]
      refine Pt.any fun t => Pt.ite (fun _ => Pt.some h) fun _ => Pt.ite (fun _ => Pt.some (h.i _)) fun _ => Pt.ite (fun _ => Pt.some (h.i _)) fun _ => ?_
      refine (take_k h _).bind fun p hp => Pt.ite (fun _ => (ih2 _ _ hp).bind fun x hx => (want_k hx _).bind fun r hr => Pt.some hr) fun _ => ?_
      refine (take_k hp _).bind fun p hp => Pt.ite (fun _ => (ih1 _ hp).bind fun x hx => Pt.some hx) fun _ => ?_
      refine (take_k hp _).bind fun p hp => Pt.ite (fun _ => (ih1 _ hp).bind fun x hx => Pt.some hx) fun _ => ?_
      exact (bad_k hp _).bind fun r hr => Pt.some hr
    · simp only [Rd.two]
      exact (ih1 _ h).bind fun x hx => ih3 _ _ _ hx
    · simp only [Rd.twoL]
      exact Pt.ite (fun _ => Pt.any fun t => Pt.ite (fun _ => Pt.some h) fun _ => (ih2 _ _ (h.i _)).bind fun y hy => ih3 _ _ _ hy) (fun _ => Pt.some h)

theorem whole_k {n : Nat} {r0 r : Rd} (h : Keep r0 r) : Pt (Rd.whole n r) (fun p => Keep r0 p.2) := by
  unfold Rd.whole
  exact Pt.any fun t => ((expr_k n).2.1 _ _ h).bind fun x hx => Pt.ite (fun hg => Pt.any fun d => Pt.ite (fun _ => Pt.some (hx.f hg _ _)) fun _ => Pt.some hx) fun _ => Pt.some hx

theorem names_k {most : Int} {r0 : Rd} : ∀ (n : Nat) (l : List Str) (r : Rd), Keep r0 r → Pt (Rd.names n l most r) (fun p => Keep r0 p.2) := by
  intro n
  induction n with
  | zero => intro l r _; simp only [Rd.names]; exact Pt.none
  | succ n ih =>
    intro l r h
    simp only [Rd.names]
    exact Pt.ite (fun _ => (name_k h _).bind fun p hp => Pt.any fun l => (take_k hp _).bind fun q hq => Pt.ite (fun _ => (want_k hq _).bind fun r hr => Pt.some hr) fun _ => ih _ _ hq) fun _ => Pt.some h

theorem labels_k {r0 : Rd} : ∀ (n : Nat) (l : List Str) (r : Rd), Keep r0 r → Pt (Rd.labels n l r) (fun p => Keep r0 p.2) := by
  intro n
  induction n with
  | zero => intro l r _; simp only [Rd.labels]; exact Pt.none
  | succ n ih =>
    intro l r h
    simp only [Rd.labels]
    exact Pt.any fun b => Pt.ite (fun _ => Pt.any fun t => Pt.any fun l => ih _ _ (h.i _)) fun _ => Pt.some h

theorem callL_k {m : Nat} {r0 : Rd} : ∀ (n : Nat) (l : List Ar) (r : Rd), Keep r0 r → Pt (Rd.callL m n l r) (fun p => Keep r0 p.2) := by
  intro n
  induction n with
  | zero => intro l r _; simp only [Rd.callL]; exact Pt.none
  | succ n ih =>
    intro l r h
    simp only [Rd.callL]
    refine Pt.ite (fun _ => (take_k h _).bind fun p hp => Pt.ite (fun _ => ?_) fun _ => ?_) fun _ => Pt.some h
    · exact (name_k hp _).bind fun x hx => Pt.any fun l => (take_k hx _).bind fun c hc => Pt.ite (fun _ => Pt.some hc) fun _ => ih _ _ hc
    · exact (whole_k hp).bind fun x hx => Pt.any fun l => (take_k hx _).bind fun c hc => Pt.ite (fun _ => Pt.some hc) fun _ => ih _ _ hc

/-- A statement in which none stands. -/
def SmK (r0 : Rd) (p : Sm × Rd) : Prop := Keep r0 p.2 ∧ p.1.thn = [] ∧ p.1.els = []

theorem call_k {m : Nat} {name proc : Str} {r0 r : Rd} (h : Keep r0 r) : Pt (Rd.call m name proc r) (SmK r0) := by
  unfold Rd.call
  refine (want_k h _).bind fun r hr => Pt.any fun b => Pt.ite (fun _ => ?_) fun _ => ?_
  · exact (callL_k _ _ _ hr).bind fun q hq => (want_k hq _).bind fun r hr => (want_k hr _).bind fun r hr => Pt.some ⟨hr, rfl, rfl⟩
  · exact (want_k hr _).bind fun r hr => (want_k hr _).bind fun r hr => Pt.some ⟨hr, rfl, rfl⟩

theorem named_k {m : Nat} {r0 r : Rd} (h : Keep r0 r) : Pt (Rd.named m r) (SmK r0) := by
  unfold Rd.named
  refine (name_k h _).bind fun x hx => Pt.any fun b => Pt.ite (fun _ => call_k hx) fun _ => (want_k hx _).bind fun r hr => Pt.any fun b => Pt.ite (fun _ => ?_) fun _ => ?_
  · exact (name_k hr _).bind fun y hy => call_k hy
  · exact (whole_k hr).bind fun y hy => (want_k hy _).bind fun r hr => Pt.some ⟨hr, rfl, rfl⟩

theorem plain_k {m : Nat} {word : Str} {r0 r : Rd} (h : Keep r0 r) : Pt (Rd.plain m word r) (SmK r0) := by
  unfold Rd.plain
  refine Pt.ite (fun _ => Pt.some ⟨h, rfl, rfl⟩) fun _ => Pt.ite (fun _ => Pt.some ⟨h, rfl, rfl⟩) fun _ => Pt.ite (fun _ => Pt.any fun b => Pt.ite (fun _ => (whole_k h).bind fun x hx => Pt.some ⟨hx, rfl, rfl⟩) fun _ => Pt.some ⟨h, rfl, rfl⟩) fun _ => ?_
  refine Pt.ite (fun _ => (name_k h _).bind fun x hx => Pt.some ⟨hx, rfl, rfl⟩) fun _ => Pt.ite (fun _ => (name_k h _).bind fun x hx => Pt.some ⟨hx, rfl, rfl⟩) fun _ => Pt.ite (fun _ => (whole_k h).bind fun x hx => Pt.some ⟨hx, rfl, rfl⟩) fun _ => Pt.some ⟨h, rfl, rfl⟩

theorem head_k {m : Nat} {r0 r : Rd} (h : Keep r0 r) : Pt (Rd.head m r) (fun p => Keep r0 p.2) := by
  unfold Rd.head
  exact (want_k h _).bind fun r hr => (whole_k hr).bind fun x hx => (want_k hx _).bind fun r hr => Pt.some hr

/-! ### Numbering -/

theorem Sm.nums_app (b : Bool) (s : Sm) : ∀ (l : List Sm) (n : Nat), Sm.nums b n (l ++ [s]) = ((Sm.nums b n l).1 ++ [(Sm.num b (Sm.nums b n l).2 s).1], (Sm.num b (Sm.nums b n l).2 s).2)
  | [], n => by simp only [List.nil_append, Sm.nums]
  | x :: l, n => by simp only [List.cons_append, Sm.nums, Sm.nums_app b s l]
theorem Sm.num_labels (b : Bool) (n : Nat) (l : List Str) : ∀ s : Sm, Sm.num b n { s with labels := l } = ({ (Sm.num b n s).1 with labels := l }, (Sm.num b n s).2)
  | ⟨_, _, _, _, _, _, _, _, _, _⟩ => by simp only [Sm.num]
theorem Sm.num_flat (b : Bool) (n : Nat) : ∀ s : Sm, s.thn = [] → s.els = [] → (Sm.num b n s).2 = n + 1
  | ⟨_, _, _, _, _, _, _, _, _, _⟩, h1, h2 => by dsimp only at h1 h2; subst h1; subst h2; simp only [Sm.num, Sm.nums]

/-- From a reader to a later one, with so many statements between. -/
structure Num (r : Rd) (k : Nat) (r' : Rd) : Prop where
  l : r'.l = r.l
  g : r'.good = true → r.good = true
  n : r'.good = true → k = r'.n
  le : r'.good = true → r.n ≤ 200 → r'.n ≤ 200

theorem bad_b (r : Rd) {c : Int} (hc : c ≠ 0) : Pt (r.bad c) (fun r' => r'.l = r.l ∧ r'.good = false) := by
  unfold Rd.bad
  refine Pt.ite (fun hg => Pt.any fun t => Pt.some ⟨rfl, ?_⟩) (fun hg => Pt.some ⟨rfl, by simpa using hg⟩)
  simpa using hc
theorem Num.bad {r r' : Rd} {k : Nat} (h : r'.l = r.l ∧ r'.good = false) : Num r k r' := by
  have e : ¬ r'.good = true := by rw [h.2]; decide
  exact ⟨h.1, fun g => (e g).elim, fun g => (e g).elim, fun g => (e g).elim⟩
theorem Num.keep {r a b : Rd} {k : Nat} (h : Num r k a) (e : Keep a b) : Num r k b :=
  ⟨e.l.trans h.l, fun g => h.g (e.g g), fun g => (h.n (e.g g)).trans e.n.symm, fun g hn => by rw [e.n]; exact h.le (e.g g) hn⟩
theorem Num.trans {r a b : Rd} {k j : Nat} (h : Num r k a) (e : Num a j b) : Num r j b :=
  ⟨e.l.trans h.l, fun g => h.g (e.g g), e.n, fun g hn => e.le g (h.le (e.g g) hn)⟩
theorem Num.refl (r : Rd) : Num r r.n r := ⟨rfl, id, fun _ => rfl, fun _ h => h⟩

theorem stmts_n {m : Nat} : ∀ n : Nat,
    (∀ (nest : Int) (body : Bool) (r : Rd), Pt (Rd.rows m n nest body r) fun p => Num r (Sm.nums true r.n p.1.1).2 p.2) ∧
    (∀ (nest : Int) (body : Bool) (out : List Sm) (r0 r : Rd), Num r0 (Sm.nums true r0.n out).2 r → Pt (Rd.rowsL m n nest body out r) fun p => Num r0 (Sm.nums true r0.n p.1.1).2 p.2) ∧
    (∀ (nest : Int) (r : Rd), Pt (Rd.stmt m n nest r) fun p => Num r (Sm.num true r.n p.1).2 p.2) ∧
    (∀ (nest : Int) (r : Rd), Pt (Rd.block m n nest r) fun p => Num r (Sm.nums true r.n p.1).2 p.2) ∧
    (∀ (nest : Int) (r : Rd), Pt (Rd.choice m n nest r) fun p => Num r (Sm.nums true (Sm.nums true r.n p.1.thn).2 p.1.els).2 p.2) := by
  intro n
  induction n with
  | zero =>
    refine ⟨fun _ _ r => ?_, fun _ _ _ _ r _ => ?_, fun _ r => ?_, fun _ r => ?_, fun _ r => ?_⟩
    · simp only [Rd.rows]; exact Pt.none
    · simp only [Rd.rowsL]; exact Pt.none
    · simp only [Rd.stmt]; exact Pt.none
    · simp only [Rd.block]; exact Pt.none
    · simp only [Rd.choice]; exact Pt.none
  | succ n ih =>
    obtain ⟨i1, i2, i3, i4, i5⟩ := ih
    refine ⟨fun nest body r => ?_, fun nest body out r0 r h => ?_, fun nest r => ?_, fun nest r => ?_, fun nest r => ?_⟩
    · simp only [Rd.rows]
      exact i2 _ _ _ _ _ ⟨rfl, id, fun _ => rfl, fun _ h => h⟩
    · simp only [Rd.rowsL]
      refine Pt.ite (fun hg => ?_) (fun hg => ?_)
      · refine (labels_k m [] r (Keep.refl r)).bind fun l hl => Pt.any fun b => Pt.ite (fun _ => Pt.some (h.keep (hl.i _))) fun _ => ?_
        refine (i3 nest l.2).bind fun s hs => ?_
        refine Pt.bind (Q := fun l' => l' = out ++ [{ s.1 with labels := l.1 }]) (fun a ha => (push_some ha).2) fun l' e => ?_
        subst e
        refine i2 _ _ _ _ _ ?_
        rw [Sm.nums_app, Sm.num_labels]
        have h2 := h.keep hl
        refine ⟨hs.l.trans h2.l, fun g => h2.g (hs.g g), fun g => ?_, fun g hn => hs.le g (h2.le (hs.g g) hn)⟩
        rw [h2.n (hs.g g)]
        exact hs.n g
      · have hg : r.good = false := by simpa using hg
        exact Pt.some (Num.bad ⟨h.l, hg⟩)
    · simp only [Rd.stmt]
      refine Pt.any fun b => Pt.ite (fun _ => (bad_b r (by decide)).bind fun r' hr => Pt.some (Num.bad hr)) fun _ => ?_
      refine Pt.bind (Q := fun k => k = r.n + 1) (fun a ha => (inc_some ha).2) fun k e => ?_
      subst e
      refine Pt.ite (fun _ => (bad_b _ (by decide)).bind fun r' hr => Pt.some (Num.bad hr)) fun hl => ?_
      have hk : r.n + 1 ≤ 200 := by
        simp only [Bool.or_eq_true, decide_eq_true_eq, not_or] at hl
        omega
      have h0 : ∀ j, Num r (r.n + 1) { r with i := j, n := r.n + 1 } := fun j => ⟨rfl, id, fun _ => rfl, fun _ _ => hk⟩
      refine Pt.any fun t => Pt.ite (fun _ => ?_) fun _ => Pt.ite (fun _ => ?_) fun _ => Pt.ite (fun _ => ?_) fun _ => ?_
      · refine (named_k (Keep.refl _)).mono fun p hp => ?_
        rw [Sm.num_flat true _ _ hp.2.1 hp.2.2]
        exact (h0 r.i).keep hp.1
      · refine (i5 nest _).mono fun p hp => ?_
        obtain ⟨⟨_, _, _, _, _, _, _, _, _, _⟩, r'⟩ := p
        simp only [Sm.num]
        exact (h0 _).trans hp
      · refine (head_k (Keep.refl _)).bind fun x hx => (i4 nest x.2).bind fun b hb => Pt.some ?_
        simp only [Sm.num, Sm.nums]
        have e := hx.n
        dsimp only at e
        rw [← e]
        exact ((h0 _).keep hx).trans hb
      · refine (plain_k (Keep.refl _)).bind fun s hs => (want_k hs.1 _).bind fun r' hr => Pt.some ?_
        rw [Sm.num_flat true _ _ hs.2.1 hs.2.2]
        exact (h0 _).keep hr
    · simp only [Rd.block]
      refine (want_k (Keep.refl r) _).bind fun r1 hr => Pt.any fun k => (i1 k false r1).bind fun p hp => Pt.some ?_
      rw [← hr.n]
      exact ((Num.refl r).keep hr).trans hp
    · simp only [Rd.choice]
      refine (head_k (Keep.refl r)).bind fun x hx => (i4 nest x.2).bind fun t ht => (take_k (Keep.refl t.2) _).bind fun q hq => Pt.ite (fun _ => ?_) fun _ => ?_
      · refine (i4 nest q.2).bind fun e he => Pt.some ?_
        dsimp only
        have h1 := (((Num.refl r).keep hx).trans ht).keep hq
        have h2 := h1.trans he
        refine ⟨h2.l, h2.g, fun g => ?_, h2.le⟩
        have e1 := he.n g
        have e2 := h1.n (he.g g)
        rw [hx.n] at e2
        rw [e2]
        exact e1
      · refine Pt.some ?_
        dsimp only [Sm.nums]
        rw [← hx.n]
        exact (((Num.refl r).keep hx).trans ht).keep hq

end Go.Abs

/-! Ref7 -/

namespace Go.Abs

set_option maxRecDepth 8000
set_option linter.unusedSimpArgs false
set_option linter.unusedVariables false
open Go.Proofs

/-- The count of statements; left open behind a fault. -/
def cN (r : Rd) : D := match r.good with | true => .int .i64 r.n | false => .junk
instance (r : Rd) : Cell (cN r) := by
  unfold cN
  cases r.good
  · exact inferInstanceAs (Cell .junk)
  · exact inferInstanceAs (Cell (.int .i64 _))
def stD (g : Bool) (v : Sm) : List D := match g with | true => encSm v | false => [.junk, .junk, .junk, .junk, .junk, .junk, .junk, .junk, .junk, .junk, .junk, .junk, .junk]
theorem okStD (g : Bool) (v : Sm) : D.oks 0 0 (stD g v) = true := by
  cases g
  · rfl
  · exact okSm v

/-- No sign bears a word's text. -/
def TW (l : List Tok) : Prop := ∀ t ∈ l, t.kind = 4 → begW t.text = false

abbrev C_rblk (m n : Nat) : Prop := ∀ {k : Int} {z : D} [Cell z] {r r1 : Rd} {p : (List Sm × List Str) × Rd}, r.want [123] = some r1 → Rd.rows m n k false r1 = some p → TW r.l → (r1.good = true → z = .int .i64 r1.n) → (r1.good = true → r1.n ≤ 200) →
  ∀ {s : St} {o : Nat}, s.objs[o]? = some (encRc z r) →
  Fun Try.prog n_ref3_P_block [.ptr o 0, .int .i64 k, .bool false] s (.tuple [.slice .shared 13 ((Sm.nums true r1.n p.1.1).1.map encSm), .slice .shared 1 (p.1.2.map encStr)]) ⟨s.objs.set o (encRc (cN p.2) p.2), s.toks⟩
abbrev C_rstmt (m n : Nat) : Prop := ∀ {nest : Int} {labels : List Str} {r : Rd} {p : Sm × Rd}, Rd.stmt m n nest r = some p → r.good = true → TW r.l → r.n ≤ 200 →
  ∀ {s : St} {o : Nat}, s.objs[o]? = some (encRc (.int .i64 r.n) r) →
  Fun Try.prog n_ref3_P_stmt [.ptr o 0, .slice .shared 1 (labels.map encStr), .int .i64 nest] s (.agg (stD p.2.good (Sm.num true r.n { p.1 with labels := labels }).1)) ⟨s.objs.set o (encRc (cN p.2) p.2), s.toks⟩

theorem cN_f {r : Rd} (h : r.good = false) : cN r = .junk := by simp [cN, h]
theorem cN_t {r : Rd} (h : r.good = true) : cN r = .int .i64 r.n := by simp [cN, h]

set_option maxHeartbeats 2000000 in
theorem rstmt_step {m n : Nat} (blk : ∀ j ≤ n, C_rblk m j) : C_rstmt m (n + 1) := by
  intro nest labels r p h hg hT hN s o ho
  refine Fun.meth ?_ (by simp [D.oks, D.ok, okrStr, Tag.ok]) (okRc _ r) (okRc _ p.2) (by simp [D.ok, okStD]) ho
  simp only [Rd.stmt] at h
  rw [Option.bind_eq_some_iff] at h
  obtain ⟨b, hb, h⟩ := h
  have bg := fun {z : D} [Cell z] {s : St} {o : Nat} (ho : s.objs[o]? = some (encRc z r)) => Pbegins_s hb hg (fun t ht => hT t (List.mem_of_getElem? ht)) ho
  have hinc : 0 < 1 := Nat.zero_lt_one
  cases b
  · simp only [Bool.not_false, ↓reduceIte] at h
    rw [Option.bind_eq_some_iff] at h
    obtain ⟨r1, h1, h⟩ := h
    have e := (bad_b r (by decide) _ h1).2
    cases h
    have fl := fun {z : D} [Cell z] {s : St} {o : Nat} (ho : s.objs[o]? = some (encRc z r)) => Pfail_s h1 ho
    dsimp only
    rw [e, cN_f e]
    refine Fun.go has_ref3_P_stmt rfl fun B Q hB hQ => ?_
    have hlt : 0 < 1 := Nat.zero_lt_one
    have hget : 0 < 1 := Nat.zero_lt_one
    have hpu : 0 < 1 := Nat.zero_lt_one
    have hinc : 0 < 1 := Nat.zero_lt_one
    repeat' (first
 | simp only [go_sem, hlt, hget, hpu, hinc, Int.reduceLE, ↓reduceIte, reduceCtorEq, Nat.reduceEqDiff, Nat.reduceLeDiff, Nat.reduceAdd, Nat.reduceMul, Nat.reduceSub, Nat.reduceLT, stD]
 | (with_reducible refine CU (bg (by with_unfolding_all rfl)) ?_)
 | (with_reducible refine CU (fl (by with_unfolding_all rfl)) ?_)
 | (with_reducible first | refine CB_ofT (by assumption) fun hc => ?_ | refine CB_ofF (by assumption) fun hc => ?_ | refine CB_split (fun hc => ?_) fun hc => ?_) <;> (try simp only [hc, bs, ↓reduceIte] at h) <;> (try simp only [hc])
 | ((with_reducible first | refine leafR hQ ?_ | refine leafN hQ ?_); (try cases h); simp only [resL, oneD, Option.some.injEq, exists_eq_left', go_sem, hlt, hget, hpu, hinc, Int.reduceLE, ↓reduceIte, reduceCtorEq, Nat.reduceEqDiff, Nat.reduceLeDiff, Nat.reduceAdd, Nat.reduceMul, Nat.reduceSub, Nat.reduceLT, stD]; repeat' (first | exact Ok.out | with_reducible refine And.intro ?_ ?_ | (simp; done)))
 | (cases h; replace h := hr; clear hr; (try simp only [bs, ↓reduceIte] at h))
 | (cases h; done))
  · simp only [Bool.not_true, Bool.false_eq_true, ↓reduceIte] at h
    rw [Option.bind_eq_some_iff] at h
    obtain ⟨k, hk, h⟩ := h
    obtain ⟨hinc, rfl⟩ := inc_some hk
    by_cases hlim : r.n = 200 ∨ nest > 12
    · have e1 : (decide (((r.n + 1 : Nat) : Int) > 200) || decide (nest > 12)) = true := by
        simp only [Bool.or_eq_true, decide_eq_true_eq]; omega
      rw [if_pos e1] at h
      rw [Option.bind_eq_some_iff] at h
      obtain ⟨r1, h1, h⟩ := h
      have e := (bad_b _ (by decide) _ h1).2
      cases h
      have fl := fun {z : D} [Cell z] {s : St} {o : Nat} (ho : s.objs[o]? = some (encRc z { r with n := r.n + 1 })) => Pfail_s h1 ho
      dsimp only
      rw [e, cN_f e]
      by_cases h200 : r.n = 200
      · have q1 : ((r.n : Int) == 200) = true := by simp [h200]
        refine Fun.go has_ref3_P_stmt rfl fun B Q hB hQ => ?_
        have hlt : 0 < 1 := Nat.zero_lt_one
        have hget : 0 < 1 := Nat.zero_lt_one
        have hpu : 0 < 1 := Nat.zero_lt_one
        repeat' (first
 | simp only [go_sem, hlt, hget, hpu, hinc, Int.reduceLE, ↓reduceIte, reduceCtorEq, Nat.reduceEqDiff, Nat.reduceLeDiff, Nat.reduceAdd, Nat.reduceMul, Nat.reduceSub, Nat.reduceLT, stD, q1]
 | (with_reducible refine CU (bg (by with_unfolding_all rfl)) ?_)
 | (with_reducible refine CU (fl (by with_unfolding_all rfl)) ?_)
 | (with_reducible first | refine CB_ofT (by assumption) fun hc => ?_ | refine CB_ofF (by assumption) fun hc => ?_ | refine CB_split (fun hc => ?_) fun hc => ?_) <;> (try simp only [hc, bs, ↓reduceIte] at h) <;> (try simp only [hc])
 | ((with_reducible first | refine leafR hQ ?_ | refine leafN hQ ?_); (try cases h); simp only [resL, oneD, Option.some.injEq, exists_eq_left', go_sem, hlt, hget, hpu, hinc, Int.reduceLE, ↓reduceIte, reduceCtorEq, Nat.reduceEqDiff, Nat.reduceLeDiff, Nat.reduceAdd, Nat.reduceMul, Nat.reduceSub, Nat.reduceLT, stD, q1]; repeat' (first | exact Ok.out | with_reducible refine And.intro ?_ ?_ | (simp; done)))
 | (cases h; replace h := hr; clear hr; (try simp only [bs, ↓reduceIte] at h))
 | (cases h; done))
      · have q1 : ((r.n : Int) == 200) = false := by simp; omega
        have q2 : decide (nest > 12) = true := by simp; omega
        refine Fun.go has_ref3_P_stmt rfl fun B Q hB hQ => ?_
        have hlt : 0 < 1 := Nat.zero_lt_one
        have hget : 0 < 1 := Nat.zero_lt_one
        have hpu : 0 < 1 := Nat.zero_lt_one
        repeat' (first
 | simp only [go_sem, hlt, hget, hpu, hinc, Int.reduceLE, ↓reduceIte, reduceCtorEq, Nat.reduceEqDiff, Nat.reduceLeDiff, Nat.reduceAdd, Nat.reduceMul, Nat.reduceSub, Nat.reduceLT, stD, q1, q2]
 | (with_reducible refine CU (bg (by with_unfolding_all rfl)) ?_)
 | (with_reducible refine CU (fl (by with_unfolding_all rfl)) ?_)
 | (with_reducible first | refine CB_ofT (by assumption) fun hc => ?_ | refine CB_ofF (by assumption) fun hc => ?_ | refine CB_split (fun hc => ?_) fun hc => ?_) <;> (try simp only [hc, bs, ↓reduceIte] at h) <;> (try simp only [hc])
 | ((with_reducible first | refine leafR hQ ?_ | refine leafN hQ ?_); (try cases h); simp only [resL, oneD, Option.some.injEq, exists_eq_left', go_sem, hlt, hget, hpu, hinc, Int.reduceLE, ↓reduceIte, reduceCtorEq, Nat.reduceEqDiff, Nat.reduceLeDiff, Nat.reduceAdd, Nat.reduceMul, Nat.reduceSub, Nat.reduceLT, stD, q1, q2]; repeat' (first | exact Ok.out | with_reducible refine And.intro ?_ ?_ | (simp; done)))
 | (cases h; replace h := hr; clear hr; (try simp only [bs, ↓reduceIte] at h))
 | (cases h; done))
    · have e1 : ¬ (decide (((r.n + 1 : Nat) : Int) > 200) || decide (nest > 12)) = true := by
        simp only [Bool.or_eq_true, decide_eq_true_eq]; omega
      rw [if_neg e1] at h
      have q1 : ((r.n : Int) == 200) = false := by simp; omega
      have q2 : decide (nest > 12) = false := by simp; omega
      have hg1 : ({ r with n := r.n + 1 } : Rd).good = true := hg
      rw [Option.bind_eq_some_iff] at h
      obtain ⟨t, ht, h⟩ := h
      have tk := take_tok hg1 ht
      by_cases k1 : t.kind = 1
      · have hn : Rd.named m { r with n := r.n + 1 } = some p := by
          have e : (t.kind == 1) = true := by simp [k1]
          simpa only [e, ↓reduceIte] using h
        have hkp := named_k (Keep.refl _) _ hn
        have hM := named_M hn hg1 ht k1
        rw [Option.bind_eq_some_iff] at hM
        obtain ⟨q, hq, hs⟩ := hM
        unfold semi at hs
        rw [Option.bind_eq_some_iff] at hs
        obtain ⟨r2, hw, hs⟩ := hs
        cases hs
        obtain ⟨⟨id, kind, lab, name, proc, x, has, args, thn, els⟩, r3⟩ := q
        obtain ⟨hkp, ht1, ht2⟩ := hkp
        dsimp only at ht1 ht2 hw
        subst ht1 ht2
        have hn2 : r2.n = r.n + 1 := hkp.n
        have e2 : (t.kind == 3 || t.kind == 4) = false := by simp [k1]
        have tf : ∀ w : Str, ∀ {z : D} [Cell z] {s : St} {o : Nat}, s.objs[o]? = some (encRc z { r with n := r.n + 1 }) → Fun Try.prog n_ref3_P_take [.ptr o 0, .str w] s (.bool false) ⟨s.objs.set o (encRc z { r with n := r.n + 1 }), s.toks⟩ := fun w z _ s o ho => by
          have e := tk w
          simp only [e2, Bool.false_and, Bool.false_eq_true, ↓reduceIte] at e
          exact Ptake_s e ho
        have iw := fun {z : D} [Cell z] {s : St} {o : Nat} (ho : s.objs[o]? = some (encRc z { r with n := r.n + 1 })) => Pis_s (text := [119, 104, 105, 108, 101]) (b := false) (by simp only [Rd.isO, hg1, ↓reduceIte, Rd.is, ht, Option.bind_some, e2, Bool.false_and]) ho
        have sml := fun {z : D} [Cell z] {s : St} {o : Nat} (ho : s.objs[o]? = some (encRc z { r with n := r.n + 1 })) => Psmall_name hg1 ht k1 hq ho
        have wn := fun {z : D} [Cell z] {s : St} {o : Nat} (ho : s.objs[o]? = some (encRc z r3)) => Pwant_s hw ho
        dsimp only [Sm.num, Sm.nums, ↓reduceIte]
        cases hgo : r2.good
        · rw [cN_f hgo]
          refine Fun.go has_ref3_P_stmt rfl fun B Q hB hQ => ?_
          have hlt : 0 < 1 := Nat.zero_lt_one
          have hget : 0 < 1 := Nat.zero_lt_one
          have hpu : 0 < 1 := Nat.zero_lt_one
          repeat' (first
 | simp only [go_sem, hlt, hget, hpu, hinc, Int.reduceLE, ↓reduceIte, reduceCtorEq, Nat.reduceEqDiff, Nat.reduceLeDiff, Nat.reduceAdd, Nat.reduceMul, Nat.reduceSub, Nat.reduceLT, stD, q1, q2]
 | (with_reducible refine CU (bg (by with_unfolding_all rfl)) ?_)
 | (with_reducible refine CU (iw (by with_unfolding_all rfl)) ?_)
 | (with_reducible refine CU (tf _ (by with_unfolding_all rfl)) ?_)
 | (with_reducible refine CU (sml (by with_unfolding_all rfl)) ?_)
 | (with_reducible refine CU (wn (by with_unfolding_all rfl)) ?_)
 | (with_reducible first | refine CB_ofT (by assumption) fun hc => ?_ | refine CB_ofF (by assumption) fun hc => ?_ | refine CB_split (fun hc => ?_) fun hc => ?_) <;> (try simp only [hc, bs, ↓reduceIte] at h) <;> (try simp only [hc])
 | ((with_reducible first | refine leafR hQ ?_ | refine leafN hQ ?_); (try cases h); simp only [resL, oneD, Option.some.injEq, exists_eq_left', go_sem, hlt, hget, hpu, hinc, Int.reduceLE, ↓reduceIte, reduceCtorEq, Nat.reduceEqDiff, Nat.reduceLeDiff, Nat.reduceAdd, Nat.reduceMul, Nat.reduceSub, Nat.reduceLT, stD, q1, q2]; repeat' (first | exact Ok.out | with_reducible refine And.intro ?_ ?_ | (simp; done)))
 | (cases h; replace h := hr; clear hr; (try simp only [bs, ↓reduceIte] at h))
 | (cases h; done))
        · rw [cN_t hgo, hn2]
          refine Fun.go has_ref3_P_stmt rfl fun B Q hB hQ => ?_
          have hlt : 0 < 1 := Nat.zero_lt_one
          have hget : 0 < 1 := Nat.zero_lt_one
          have hpu : 0 < 1 := Nat.zero_lt_one
          repeat' (first
 | simp only [go_sem, hlt, hget, hpu, hinc, Int.reduceLE, ↓reduceIte, reduceCtorEq, Nat.reduceEqDiff, Nat.reduceLeDiff, Nat.reduceAdd, Nat.reduceMul, Nat.reduceSub, Nat.reduceLT, stD, q1, q2, encSm_eq]
 | (with_reducible refine CU (bg (by with_unfolding_all rfl)) ?_)
 | (with_reducible refine CU (iw (by with_unfolding_all rfl)) ?_)
 | (with_reducible refine CU (tf _ (by with_unfolding_all rfl)) ?_)
 | (with_reducible refine CU (sml (by with_unfolding_all rfl)) ?_)
 | (with_reducible refine CU (wn (by with_unfolding_all rfl)) ?_)
 | (with_reducible first | refine CB_ofT (by assumption) fun hc => ?_ | refine CB_ofF (by assumption) fun hc => ?_ | refine CB_split (fun hc => ?_) fun hc => ?_) <;> (try simp only [hc, bs, ↓reduceIte] at h) <;> (try simp only [hc])
 | ((with_reducible first | refine leafR hQ ?_ | refine leafN hQ ?_); (try cases h); simp only [resL, oneD, Option.some.injEq, exists_eq_left', go_sem, hlt, hget, hpu, hinc, Int.reduceLE, ↓reduceIte, reduceCtorEq, Nat.reduceEqDiff, Nat.reduceLeDiff, Nat.reduceAdd, Nat.reduceMul, Nat.reduceSub, Nat.reduceLT, stD, q1, q2, encSm_eq]; repeat' (first | exact Ok.out | with_reducible refine And.intro ?_ ?_ | (simp; done)))
 | (cases h; replace h := hr; clear hr; (try simp only [bs, ↓reduceIte] at h))
 | (cases h; done))
      · have hb2 : t.kind = 3 ∧ begW t.text = true := by
          unfold Rd.begins at hb
          have ht' : r.peek = some t := ht
          have e : (t.kind == 1) = false := by simpa using k1
          rw [ht', Option.bind_some] at hb
          simp only [e, Bool.false_eq_true, ↓reduceIte, Option.some.injEq] at hb
          by_cases k3 : t.kind = 3
          · have e3 : (t.kind != 3) = false := by simp [k3]
            simp only [e3, Bool.false_eq_true, ↓reduceIte] at hb
            exact ⟨k3, hb⟩
          · have e3 : (t.kind != 3) = true := by simp [k3]
            simp only [e3, ↓reduceIte] at hb
            cases hb
        obtain ⟨k3, hw3⟩ := hb2
        have e1 : (t.kind == 1) = false := by simpa using k1
        have e2 : (t.kind == 3 || t.kind == 4) = true := by simp [k3]
        simp only [e1, Bool.false_eq_true, ↓reduceIte] at h
        have tf : ∀ w : Str, (t.text == w) = false → ∀ {z : D} [Cell z] {s : St} {o : Nat}, s.objs[o]? = some (encRc z { r with n := r.n + 1 }) → Fun Try.prog n_ref3_P_take [.ptr o 0, .str w] s (.bool false) ⟨s.objs.set o (encRc z { r with n := r.n + 1 }), s.toks⟩ := fun w hw z _ s o ho => by
          have e := tk w
          simp only [hw, Bool.and_false, Bool.false_eq_true, ↓reduceIte] at e
          exact Ptake_s e ho
        have iw := fun {z : D} [Cell z] {s : St} {o : Nat} (ho : s.objs[o]? = some (encRc z { r with n := r.n + 1 })) => Pis_s (text := [119, 104, 105, 108, 101]) (b := t.text == [119, 104, 105, 108, 101]) (by simp only [Rd.isO, hg1, ↓reduceIte, Rd.is, ht, Option.bind_some, e2, Bool.true_and]) ho
        cases hi : t.text == [105, 102]
        · cases hh : t.text == [119, 104, 105, 108, 101]
          · simp only [hi, hh, Bool.false_eq_true, ↓reduceIte] at h
            rw [Option.bind_eq_some_iff] at h
            obtain ⟨q, hq, hs⟩ := h
            have hkp := plain_k (Keep.refl _) _ hq
            rw [Option.bind_eq_some_iff] at hs
            obtain ⟨r2, hw, hs⟩ := hs
            have hkw := want_k hkp.1 _ _ hw
            cases hs
            obtain ⟨⟨id, kind, lab, name, proc, x, has, args, thn, els⟩, r3⟩ := q
            obtain ⟨hkp, ht1, ht2⟩ := hkp
            dsimp only at ht1 ht2 hw
            subst ht1 ht2
            have hn2 : r2.n = r.n + 1 := hkw.n
            have sml := fun {z : D} [Cell z] {s : St} {o : Nat} (ho : s.objs[o]? = some (encRc z { r with n := r.n + 1 })) => Psmall_word hg1 ht k3 hw3 hi hh hq ho
            have wn := fun {z : D} [Cell z] {s : St} {o : Nat} (ho : s.objs[o]? = some (encRc z r3)) => Pwant_s hw ho
            dsimp only [Sm.num, Sm.nums, ↓reduceIte]
            cases hgo : r2.good
            · rw [cN_f hgo]
              refine Fun.go has_ref3_P_stmt rfl fun B Q hB hQ => ?_
              have hlt : 0 < 1 := Nat.zero_lt_one
              have hget : 0 < 1 := Nat.zero_lt_one
              have hpu : 0 < 1 := Nat.zero_lt_one
              repeat' (first
 | simp only [go_sem, hlt, hget, hpu, hinc, Int.reduceLE, ↓reduceIte, reduceCtorEq, Nat.reduceEqDiff, Nat.reduceLeDiff, Nat.reduceAdd, Nat.reduceMul, Nat.reduceSub, Nat.reduceLT, stD, q1, q2]
 | (with_reducible refine CU (bg (by with_unfolding_all rfl)) ?_)
 | (with_reducible refine CU (iw (by with_unfolding_all rfl)) ?_)
 | (with_reducible refine CU (tf _ hi (by with_unfolding_all rfl)) ?_)
 | (with_reducible refine CU (tf _ hh (by with_unfolding_all rfl)) ?_)
 | (with_reducible refine CU (sml (by with_unfolding_all rfl)) ?_)
 | (with_reducible refine CU (wn (by with_unfolding_all rfl)) ?_)
 | (with_reducible first | refine CB_ofT (by assumption) fun hc => ?_ | refine CB_ofF (by assumption) fun hc => ?_ | refine CB_split (fun hc => ?_) fun hc => ?_) <;> (try simp only [hc, bs, ↓reduceIte] at h) <;> (try simp only [hc])
 | ((with_reducible first | refine leafR hQ ?_ | refine leafN hQ ?_); (try cases h); simp only [resL, oneD, Option.some.injEq, exists_eq_left', go_sem, hlt, hget, hpu, hinc, Int.reduceLE, ↓reduceIte, reduceCtorEq, Nat.reduceEqDiff, Nat.reduceLeDiff, Nat.reduceAdd, Nat.reduceMul, Nat.reduceSub, Nat.reduceLT, stD, q1, q2]; repeat' (first | exact Ok.out | with_reducible refine And.intro ?_ ?_ | (simp; done)))
 | (cases h; replace h := hr; clear hr; (try simp only [bs, ↓reduceIte] at h))
 | (cases h; done))
            · rw [cN_t hgo, hn2]
              refine Fun.go has_ref3_P_stmt rfl fun B Q hB hQ => ?_
              have hlt : 0 < 1 := Nat.zero_lt_one
              have hget : 0 < 1 := Nat.zero_lt_one
              have hpu : 0 < 1 := Nat.zero_lt_one
              repeat' (first
 | simp only [go_sem, hlt, hget, hpu, hinc, Int.reduceLE, ↓reduceIte, reduceCtorEq, Nat.reduceEqDiff, Nat.reduceLeDiff, Nat.reduceAdd, Nat.reduceMul, Nat.reduceSub, Nat.reduceLT, stD, q1, q2, encSm_eq]
 | (with_reducible refine CU (bg (by with_unfolding_all rfl)) ?_)
 | (with_reducible refine CU (iw (by with_unfolding_all rfl)) ?_)
 | (with_reducible refine CU (tf _ hi (by with_unfolding_all rfl)) ?_)
 | (with_reducible refine CU (tf _ hh (by with_unfolding_all rfl)) ?_)
 | (with_reducible refine CU (sml (by with_unfolding_all rfl)) ?_)
 | (with_reducible refine CU (wn (by with_unfolding_all rfl)) ?_)
 | (with_reducible first | refine CB_ofT (by assumption) fun hc => ?_ | refine CB_ofF (by assumption) fun hc => ?_ | refine CB_split (fun hc => ?_) fun hc => ?_) <;> (try simp only [hc, bs, ↓reduceIte] at h) <;> (try simp only [hc])
 | ((with_reducible first | refine leafR hQ ?_ | refine leafN hQ ?_); (try cases h); simp only [resL, oneD, Option.some.injEq, exists_eq_left', go_sem, hlt, hget, hpu, hinc, Int.reduceLE, ↓reduceIte, reduceCtorEq, Nat.reduceEqDiff, Nat.reduceLeDiff, Nat.reduceAdd, Nat.reduceMul, Nat.reduceSub, Nat.reduceLT, stD, q1, q2, encSm_eq]; repeat' (first | exact Ok.out | with_reducible refine And.intro ?_ ?_ | (simp; done)))
 | (cases h; replace h := hr; clear hr; (try simp only [bs, ↓reduceIte] at h))
 | (cases h; done))
          · simp only [hi, hh, Bool.false_eq_true, ↓reduceIte] at h
            rw [Option.bind_eq_some_iff] at h
            obtain ⟨x, hx, h⟩ := h
            rw [Option.bind_eq_some_iff] at h
            obtain ⟨bl, hbl, h⟩ := h
            unfold Rd.head at hx
            rw [Option.bind_eq_some_iff] at hx
            obtain ⟨ra, hwa, hx⟩ := hx
            rw [Option.bind_eq_some_iff] at hx
            obtain ⟨y, hy, hx⟩ := hx
            rw [Option.bind_eq_some_iff] at hx
            obtain ⟨rb, hwb, hx⟩ := hx
            cases hx
            have ka := want_k (Keep.refl _) _ _ hwa
            have ky := whole_k ka _ hy
            have kb := want_k ky _ _ hwb
            cases n with
            | zero => simp only [Rd.block] at hbl; cases hbl
            | succ n =>
            simp only [Rd.block] at hbl
            rw [Option.bind_eq_some_iff] at hbl
            obtain ⟨rc, hwc, hbl⟩ := hbl
            have kc := want_k kb _ _ hwc
            rw [Option.bind_eq_some_iff] at hbl
            obtain ⟨kk, hkk, hbl⟩ := hbl
            obtain ⟨hin2, rfl⟩ := incI_some hkk
            rw [Option.bind_eq_some_iff] at hbl
            obtain ⟨pr, hpr, hbl⟩ := hbl
            cases hbl
            cases h
            have hcn : rc.n = r.n + 1 := kc.n
            have bk := fun {s : St} {o : Nat} (ho : s.objs[o]? = some (encRc (.int .i64 ((r.n + 1 : Nat) : Int)) rb)) =>
              blk n (by omega) hwc hpr (by rw [kb.l]; exact hT) (fun _ => by rw [hcn]) (fun _ => by rw [hcn]; omega) ho
            have hnum := ((stmts_n n).1 _ _ _ _ hpr).n
            rw [hcn] at bk hnum
            have tt := fun {z : D} [Cell z] {s : St} {o : Nat} (ho : s.objs[o]? = some (encRc z { r with n := r.n + 1 })) => Ptake_s (p := (true, { r with n := r.n + 1, i := r.i + 1 })) (text := [119, 104, 105, 108, 101]) (by rw [tk, e2, hh]; rfl) ho
            have wa := fun {z : D} [Cell z] {s : St} {o : Nat} (ho : s.objs[o]? = some (encRc z { r with n := r.n + 1, i := r.i + 1 })) => Pwant_s hwa ho
            have ey := fun {z : D} [Cell z] {s : St} {o : Nat} (ho : s.objs[o]? = some (encRc z ra)) => Pexpr_s hy ho
            have wb := fun {z : D} [Cell z] {s : St} {o : Nat} (ho : s.objs[o]? = some (encRc z y.2)) => Pwant_s hwb ho
            dsimp only [Sm.num, Sm.nums, ↓reduceIte]
            cases hgo : pr.2.good
            · rw [cN_f hgo] at bk ⊢
              refine Fun.go has_ref3_P_stmt rfl fun B Q hB hQ => ?_
              have hlt : 0 < 1 := Nat.zero_lt_one
              have hget : 0 < 1 := Nat.zero_lt_one
              have hpu : 0 < 1 := Nat.zero_lt_one
              repeat' (first
 | simp only [go_sem, hlt, hget, hpu, hinc, Int.reduceLE, ↓reduceIte, reduceCtorEq, Nat.reduceEqDiff, Nat.reduceLeDiff, Nat.reduceAdd, Nat.reduceMul, Nat.reduceSub, Nat.reduceLT, stD, q1, q2, hin2, hh]
 | (with_reducible refine CU (bg (by with_unfolding_all rfl)) ?_)
 | (with_reducible refine CU (iw (by with_unfolding_all rfl)) ?_)
 | (with_reducible refine CU (tf _ hi (by with_unfolding_all rfl)) ?_)
 | (with_reducible refine CU (tt (by with_unfolding_all rfl)) ?_)
 | (with_reducible refine CU (wa (by with_unfolding_all rfl)) ?_)
 | (with_reducible refine CU (ey (by with_unfolding_all rfl)) ?_)
 | (with_reducible refine CU (wb (by with_unfolding_all rfl)) ?_)
 | (with_reducible refine CU (bk (by with_unfolding_all rfl)) ?_)
 | (with_reducible first | refine CB_ofT (by assumption) fun hc => ?_ | refine CB_ofF (by assumption) fun hc => ?_ | refine CB_split (fun hc => ?_) fun hc => ?_) <;> (try simp only [hc, bs, ↓reduceIte] at h) <;> (try simp only [hc])
 | ((with_reducible first | refine leafR hQ ?_ | refine leafN hQ ?_); (try cases h); simp only [resL, oneD, Option.some.injEq, exists_eq_left', go_sem, hlt, hget, hpu, hinc, Int.reduceLE, ↓reduceIte, reduceCtorEq, Nat.reduceEqDiff, Nat.reduceLeDiff, Nat.reduceAdd, Nat.reduceMul, Nat.reduceSub, Nat.reduceLT, stD, q1, q2, hin2, hh]; repeat' (first | exact Ok.out | with_reducible refine And.intro ?_ ?_ | (simp; done)))
 | (cases h; replace h := hr; clear hr; (try simp only [bs, ↓reduceIte] at h))
 | (cases h; done))
            · rw [cN_t hgo] at bk ⊢
              refine Fun.go has_ref3_P_stmt rfl fun B Q hB hQ => ?_
              have hlt : 0 < 1 := Nat.zero_lt_one
              have hget : 0 < 1 := Nat.zero_lt_one
              have hpu : 0 < 1 := Nat.zero_lt_one
              repeat' (first
 | simp only [go_sem, hlt, hget, hpu, hinc, Int.reduceLE, ↓reduceIte, reduceCtorEq, Nat.reduceEqDiff, Nat.reduceLeDiff, Nat.reduceAdd, Nat.reduceMul, Nat.reduceSub, Nat.reduceLT, stD, q1, q2, hin2, hh, encSm_eq]
 | (with_reducible refine CU (bg (by with_unfolding_all rfl)) ?_)
 | (with_reducible refine CU (iw (by with_unfolding_all rfl)) ?_)
 | (with_reducible refine CU (tf _ hi (by with_unfolding_all rfl)) ?_)
 | (with_reducible refine CU (tt (by with_unfolding_all rfl)) ?_)
 | (with_reducible refine CU (wa (by with_unfolding_all rfl)) ?_)
 | (with_reducible refine CU (ey (by with_unfolding_all rfl)) ?_)
 | (with_reducible refine CU (wb (by with_unfolding_all rfl)) ?_)
 | (with_reducible refine CU (bk (by with_unfolding_all rfl)) ?_)
 | (with_reducible first | refine CB_ofT (by assumption) fun hc => ?_ | refine CB_ofF (by assumption) fun hc => ?_ | refine CB_split (fun hc => ?_) fun hc => ?_) <;> (try simp only [hc, bs, ↓reduceIte] at h) <;> (try simp only [hc])
 | ((with_reducible first | refine leafR hQ ?_ | refine leafN hQ ?_); (try cases h); simp only [resL, oneD, Option.some.injEq, exists_eq_left', go_sem, hlt, hget, hpu, hinc, Int.reduceLE, ↓reduceIte, reduceCtorEq, Nat.reduceEqDiff, Nat.reduceLeDiff, Nat.reduceAdd, Nat.reduceMul, Nat.reduceSub, Nat.reduceLT, stD, q1, q2, hin2, hh, encSm_eq]; repeat' (first | exact Ok.out | with_reducible refine And.intro ?_ ?_ | (simp; done)))
 | (cases h; replace h := hr; clear hr; (try simp only [bs, ↓reduceIte] at h))
 | (cases h; done))
        · have hh : (t.text == [119, 104, 105, 108, 101]) = false := by
            have e : t.text = [105, 102] := by simpa using hi
            rw [e]; rfl
          simp only [hi, ↓reduceIte] at h
          cases n with
          | zero => simp only [Rd.choice] at h; cases h
          | succ n =>
          simp only [Rd.choice] at h
          rw [Option.bind_eq_some_iff] at h
          obtain ⟨x, hx, h⟩ := h
          rw [Option.bind_eq_some_iff] at h
          obtain ⟨bl, hbl, h⟩ := h
          rw [Option.bind_eq_some_iff] at h
          obtain ⟨q, hq, h⟩ := h
          unfold Rd.head at hx
          rw [Option.bind_eq_some_iff] at hx
          obtain ⟨ra, hwa, hx⟩ := hx
          rw [Option.bind_eq_some_iff] at hx
          obtain ⟨y, hy, hx⟩ := hx
          rw [Option.bind_eq_some_iff] at hx
          obtain ⟨rb, hwb, hx⟩ := hx
          cases hx
          have ka := want_k (Keep.refl _) _ _ hwa
          have ky := whole_k ka _ hy
          have kb := want_k ky _ _ hwb
          cases n with
          | zero => simp only [Rd.block] at hbl; cases hbl
          | succ n =>
          simp only [Rd.block] at hbl
          rw [Option.bind_eq_some_iff] at hbl
          obtain ⟨rc, hwc, hbl⟩ := hbl
          have kc := want_k kb _ _ hwc
          rw [Option.bind_eq_some_iff] at hbl
          obtain ⟨kk, hkk, hbl⟩ := hbl
          obtain ⟨hin2, rfl⟩ := incI_some hkk
          rw [Option.bind_eq_some_iff] at hbl
          obtain ⟨pr, hpr, hbl⟩ := hbl
          cases hbl
          have hcn : rc.n = r.n + 1 := kc.n
          have bk := fun {s : St} {o : Nat} (ho : s.objs[o]? = some (encRc (.int .i64 ((r.n + 1 : Nat) : Int)) rb)) =>
            blk n (by omega) hwc hpr (by rw [kb.l]; exact hT) (fun _ => by rw [hcn]) (fun _ => by rw [hcn]; omega) ho
          have hnum := (stmts_n n).1 _ _ _ _ hpr
          have hnn := hnum.n
          rw [hcn] at bk hnn
          have tt := fun {z : D} [Cell z] {s : St} {o : Nat} (ho : s.objs[o]? = some (encRc z { r with n := r.n + 1 })) => Ptake_s (p := (true, { r with n := r.n + 1, i := r.i + 1 })) (text := [105, 102]) (by rw [tk, e2, hi]; rfl) ho
          have wa := fun {z : D} [Cell z] {s : St} {o : Nat} (ho : s.objs[o]? = some (encRc z { r with n := r.n + 1, i := r.i + 1 })) => Pwant_s hwa ho
          have ey := fun {z : D} [Cell z] {s : St} {o : Nat} (ho : s.objs[o]? = some (encRc z ra)) => Pexpr_s hy ho
          have wb := fun {z : D} [Cell z] {s : St} {o : Nat} (ho : s.objs[o]? = some (encRc z y.2)) => Pwant_s hwb ho
          have te := fun {z : D} [Cell z] {s : St} {o : Nat} (ho : s.objs[o]? = some (encRc z pr.2)) => Ptake_s hq ho
          have kq := take_k (Keep.refl _) _ _ hq
          dsimp only at te kq hq
          cases hq1 : q.1
          · simp only [hq1, Bool.false_eq_true, ↓reduceIte] at h
            cases h
            dsimp only [Sm.num, Sm.nums, ↓reduceIte]
            cases hgo : q.2.good
            · rw [cN_f hgo]
              refine Fun.go has_ref3_P_stmt rfl fun B Q hB hQ => ?_
              have hlt : 0 < 1 := Nat.zero_lt_one
              have hget : 0 < 1 := Nat.zero_lt_one
              have hpu : 0 < 1 := Nat.zero_lt_one
              repeat' (first
 | simp only [go_sem, hlt, hget, hpu, hinc, Int.reduceLE, ↓reduceIte, reduceCtorEq, Nat.reduceEqDiff, Nat.reduceLeDiff, Nat.reduceAdd, Nat.reduceMul, Nat.reduceSub, Nat.reduceLT, stD, q1, q2, hin2, hh, hq1]
 | (with_reducible refine CU (bg (by with_unfolding_all rfl)) ?_)
 | (with_reducible refine CU (iw (by with_unfolding_all rfl)) ?_)
 | (with_reducible refine CU (tt (by with_unfolding_all rfl)) ?_)
 | (with_reducible refine CU (wa (by with_unfolding_all rfl)) ?_)
 | (with_reducible refine CU (ey (by with_unfolding_all rfl)) ?_)
 | (with_reducible refine CU (wb (by with_unfolding_all rfl)) ?_)
 | (with_reducible refine CU (bk (by with_unfolding_all rfl)) ?_)
 | (with_reducible refine CU (te (by with_unfolding_all rfl)) ?_)
 | (with_reducible first | refine CB_ofT (by assumption) fun hc => ?_ | refine CB_ofF (by assumption) fun hc => ?_ | refine CB_split (fun hc => ?_) fun hc => ?_) <;> (try simp only [hc, bs, ↓reduceIte] at h) <;> (try simp only [hc])
 | ((with_reducible first | refine leafR hQ ?_ | refine leafN hQ ?_); (try cases h); simp only [resL, oneD, Option.some.injEq, exists_eq_left', go_sem, hlt, hget, hpu, hinc, Int.reduceLE, ↓reduceIte, reduceCtorEq, Nat.reduceEqDiff, Nat.reduceLeDiff, Nat.reduceAdd, Nat.reduceMul, Nat.reduceSub, Nat.reduceLT, stD, q1, q2, hin2, hh, hq1]; repeat' (first | exact Ok.out | with_reducible refine And.intro ?_ ?_ | (simp; done)))
 | (cases h; replace h := hr; clear hr; (try simp only [bs, ↓reduceIte] at h))
 | (cases h; done))
            · rw [cN_t hgo, kq.n]
              rw [cN_t (kq.g hgo)] at bk
              refine Fun.go has_ref3_P_stmt rfl fun B Q hB hQ => ?_
              have hlt : 0 < 1 := Nat.zero_lt_one
              have hget : 0 < 1 := Nat.zero_lt_one
              have hpu : 0 < 1 := Nat.zero_lt_one
              repeat' (first
 | simp only [go_sem, hlt, hget, hpu, hinc, Int.reduceLE, ↓reduceIte, reduceCtorEq, Nat.reduceEqDiff, Nat.reduceLeDiff, Nat.reduceAdd, Nat.reduceMul, Nat.reduceSub, Nat.reduceLT, stD, q1, q2, hin2, hh, hq1, encSm_eq]
 | (with_reducible refine CU (bg (by with_unfolding_all rfl)) ?_)
 | (with_reducible refine CU (iw (by with_unfolding_all rfl)) ?_)
 | (with_reducible refine CU (tt (by with_unfolding_all rfl)) ?_)
 | (with_reducible refine CU (wa (by with_unfolding_all rfl)) ?_)
 | (with_reducible refine CU (ey (by with_unfolding_all rfl)) ?_)
 | (with_reducible refine CU (wb (by with_unfolding_all rfl)) ?_)
 | (with_reducible refine CU (bk (by with_unfolding_all rfl)) ?_)
 | (with_reducible refine CU (te (by with_unfolding_all rfl)) ?_)
 | (with_reducible first | refine CB_ofT (by assumption) fun hc => ?_ | refine CB_ofF (by assumption) fun hc => ?_ | refine CB_split (fun hc => ?_) fun hc => ?_) <;> (try simp only [hc, bs, ↓reduceIte] at h) <;> (try simp only [hc])
 | ((with_reducible first | refine leafR hQ ?_ | refine leafN hQ ?_); (try cases h); simp only [resL, oneD, Option.some.injEq, exists_eq_left', go_sem, hlt, hget, hpu, hinc, Int.reduceLE, ↓reduceIte, reduceCtorEq, Nat.reduceEqDiff, Nat.reduceLeDiff, Nat.reduceAdd, Nat.reduceMul, Nat.reduceSub, Nat.reduceLT, stD, q1, q2, hin2, hh, hq1, encSm_eq]; repeat' (first | exact Ok.out | with_reducible refine And.intro ?_ ?_ | (simp; done)))
 | (cases h; replace h := hr; clear hr; (try simp only [bs, ↓reduceIte] at h))
 | (cases h; done))
          · simp only [hq1, ↓reduceIte] at h
            obtain ⟨hqg, hpg⟩ := take_good hq hq1
            rw [Option.bind_eq_some_iff] at h
            obtain ⟨b2, hb2, h⟩ := h
            simp only [Rd.block] at hb2
            rw [Option.bind_eq_some_iff] at hb2
            obtain ⟨rd, hwd, hb2⟩ := hb2
            have kd := want_k kq _ _ hwd
            rw [hkk, Option.bind_some] at hb2
            rw [Option.bind_eq_some_iff] at hb2
            obtain ⟨pr2, hpr2, hb2⟩ := hb2
            cases hb2
            cases h
            have hdn : rd.n = (Sm.nums true (r.n + 1) pr.1.1).2 := by rw [kd.n]; exact (hnn hpg).symm
            have hle : pr.2.n ≤ 200 := hnum.le hpg (by rw [hcn]; omega)
            rw [cN_t hpg] at bk
            have bk2 := fun {s : St} {o : Nat} (ho : s.objs[o]? = some (encRc (.int .i64 (pr.2.n : Int)) q.2)) =>
              blk n (by omega) hwd hpr2 (by rw [kq.l, hnum.l, kc.l]; exact hT) (fun _ => by rw [kd.n]) (fun _ => by rw [kd.n]; exact hle) ho
            rw [hdn] at bk2
            dsimp only [Sm.num, Sm.nums, ↓reduceIte]
            cases hgo : pr2.2.good
            · rw [cN_f hgo] at bk2 ⊢
              refine Fun.go has_ref3_P_stmt rfl fun B Q hB hQ => ?_
              have hlt : 0 < 1 := Nat.zero_lt_one
              have hget : 0 < 1 := Nat.zero_lt_one
              have hpu : 0 < 1 := Nat.zero_lt_one
              repeat' (first
 | simp only [go_sem, hlt, hget, hpu, hinc, Int.reduceLE, ↓reduceIte, reduceCtorEq, Nat.reduceEqDiff, Nat.reduceLeDiff, Nat.reduceAdd, Nat.reduceMul, Nat.reduceSub, Nat.reduceLT, stD, q1, q2, hin2, hh, hq1]
 | (with_reducible refine CU (bg (by with_unfolding_all rfl)) ?_)
 | (with_reducible refine CU (iw (by with_unfolding_all rfl)) ?_)
 | (with_reducible refine CU (tt (by with_unfolding_all rfl)) ?_)
 | (with_reducible refine CU (wa (by with_unfolding_all rfl)) ?_)
 | (with_reducible refine CU (ey (by with_unfolding_all rfl)) ?_)
 | (with_reducible refine CU (wb (by with_unfolding_all rfl)) ?_)
 | (with_reducible refine CU (bk (by with_unfolding_all rfl)) ?_)
 | (with_reducible refine CU (te (by with_unfolding_all rfl)) ?_)
 | (with_reducible refine CU (bk2 (by with_unfolding_all rfl)) ?_)
 | (with_reducible first | refine CB_ofT (by assumption) fun hc => ?_ | refine CB_ofF (by assumption) fun hc => ?_ | refine CB_split (fun hc => ?_) fun hc => ?_) <;> (try simp only [hc, bs, ↓reduceIte] at h) <;> (try simp only [hc])
 | ((with_reducible first | refine leafR hQ ?_ | refine leafN hQ ?_); (try cases h); simp only [resL, oneD, Option.some.injEq, exists_eq_left', go_sem, hlt, hget, hpu, hinc, Int.reduceLE, ↓reduceIte, reduceCtorEq, Nat.reduceEqDiff, Nat.reduceLeDiff, Nat.reduceAdd, Nat.reduceMul, Nat.reduceSub, Nat.reduceLT, stD, q1, q2, hin2, hh, hq1]; repeat' (first | exact Ok.out | with_reducible refine And.intro ?_ ?_ | (simp; done)))
 | (cases h; replace h := hr; clear hr; (try simp only [bs, ↓reduceIte] at h))
 | (cases h; done))
            · rw [cN_t hgo] at bk2 ⊢
              refine Fun.go has_ref3_P_stmt rfl fun B Q hB hQ => ?_
              have hlt : 0 < 1 := Nat.zero_lt_one
              have hget : 0 < 1 := Nat.zero_lt_one
              have hpu : 0 < 1 := Nat.zero_lt_one
              repeat' (first
 | simp only [go_sem, hlt, hget, hpu, hinc, Int.reduceLE, ↓reduceIte, reduceCtorEq, Nat.reduceEqDiff, Nat.reduceLeDiff, Nat.reduceAdd, Nat.reduceMul, Nat.reduceSub, Nat.reduceLT, stD, q1, q2, hin2, hh, hq1, encSm_eq]
 | (with_reducible refine CU (bg (by with_unfolding_all rfl)) ?_)
 | (with_reducible refine CU (iw (by with_unfolding_all rfl)) ?_)
 | (with_reducible refine CU (tt (by with_unfolding_all rfl)) ?_)
 | (with_reducible refine CU (wa (by with_unfolding_all rfl)) ?_)
 | (with_reducible refine CU (ey (by with_unfolding_all rfl)) ?_)
 | (with_reducible refine CU (wb (by with_unfolding_all rfl)) ?_)
 | (with_reducible refine CU (bk (by with_unfolding_all rfl)) ?_)
 | (with_reducible refine CU (te (by with_unfolding_all rfl)) ?_)
 | (with_reducible refine CU (bk2 (by with_unfolding_all rfl)) ?_)
 | (with_reducible first | refine CB_ofT (by assumption) fun hc => ?_ | refine CB_ofF (by assumption) fun hc => ?_ | refine CB_split (fun hc => ?_) fun hc => ?_) <;> (try simp only [hc, bs, ↓reduceIte] at h) <;> (try simp only [hc])
 | ((with_reducible first | refine leafR hQ ?_ | refine leafN hQ ?_); (try cases h); simp only [resL, oneD, Option.some.injEq, exists_eq_left', go_sem, hlt, hget, hpu, hinc, Int.reduceLE, ↓reduceIte, reduceCtorEq, Nat.reduceEqDiff, Nat.reduceLeDiff, Nat.reduceAdd, Nat.reduceMul, Nat.reduceSub, Nat.reduceLT, stD, q1, q2, hin2, hh, hq1, encSm_eq]; repeat' (first | exact Ok.out | with_reducible refine And.intro ?_ ?_ | (simp; done)))
 | (cases h; replace h := hr; clear hr; (try simp only [bs, ↓reduceIte] at h))
 | (cases h; done))

end Go.Abs

/-! Ref8 -/

namespace Go.Abs

set_option maxRecDepth 8000
set_option linter.unusedSimpArgs false
set_option linter.unusedVariables false
open Go.Proofs

theorem isO_good {r : Rd} {s : Str} {b : Bool} (h : r.is s = some b) (hg : r.good = true) : r.isO s = some b := by simp only [Rd.isO, hg, ↓reduceIte, h]

theorem rblk_false {m n : Nat} (stm : ∀ j < n, C_rstmt m j) {k : Int} {z : D} [Cell z] {r r1 : Rd} {p : (List Sm × List Str) × Rd} (h1 : r.want [123] = some r1) (h : Rd.rows m (n + 1) k false r1 = some p) (hT : TW r.l)
    (hz : r1.good = true → z = .int .i64 r1.n) (hN : r1.good = true → r1.n ≤ 200) :
    Fun Try.prog n_ref3_P_block [.ptr 0 0, .int .i64 k, .bool false] ⟨[encRc z r], []⟩ (.tuple [.slice .shared 13 ((Sm.nums true r1.n p.1.1).1.map encSm), .slice .shared 1 (p.1.2.map encStr)]) ⟨[encRc (cN p.2) p.2], []⟩ := by
  simp only [Rd.rows] at h
  have kw := want_k (Keep.refl r) _ _ h1
  have wa := fun {z : D} [Cell z] {s : St} {o : Nat} (ho : s.objs[o]? = some (encRc z r)) => Pwant_s h1 ho
  cases hg : r1.good
  · cases n with
    | zero => simp only [Rd.rowsL] at h; cases h
    | succ n =>
      simp only [Rd.rowsL, hg, Bool.false_eq_true, ↓reduceIte] at h
      cases h
      simp only [Sm.nums, cN_f hg]
      refine Fun.go has_ref3_P_block rfl fun B Q hB hQ => ?_
      have hlt : 0 < 1 := Nat.zero_lt_one
      have hget : 0 < 1 := Nat.zero_lt_one
      have hpu : 0 < 1 := Nat.zero_lt_one
      have hinc : 0 < 1 := Nat.zero_lt_one
      repeat' (first
 | simp only [go_sem, hlt, hget, hpu, hinc, Int.reduceLE, ↓reduceIte, reduceCtorEq, Nat.reduceEqDiff, Nat.reduceLeDiff, Nat.reduceAdd, Nat.reduceMul, Nat.reduceSub, Nat.reduceLT]
 | (with_reducible refine CU (wa (by with_unfolding_all rfl)) ?_)
 | (with_reducible refine CU (Pok_s (by with_unfolding_all rfl)) ?_)
 | (with_reducible refine SemL.onceW ?_)
 | (with_reducible first | refine CB_ofT (by assumption) fun hc => ?_ | refine CB_ofF (by assumption) fun hc => ?_ | refine CB_split (fun hc => ?_) fun hc => ?_) <;> (try simp only [hc, bs, ↓reduceIte] at h) <;> (try simp only [hc])
 | ((with_reducible first | refine leafR hQ ?_ | refine leafN hQ ?_); (try cases h); simp only [resL, oneD, Option.some.injEq, exists_eq_left', go_sem, hlt, hget, hpu, hinc, Int.reduceLE, ↓reduceIte, reduceCtorEq, Nat.reduceEqDiff, Nat.reduceLeDiff, Nat.reduceAdd, Nat.reduceMul, Nat.reduceSub, Nat.reduceLT]; repeat' (first | exact Ok.out | with_reducible refine And.intro ?_ ?_ | (simp; done)))
 | (cases h; replace h := hr; clear hr; (try simp only [bs, ↓reduceIte] at h))
 | (cases h; done))
  · have e := hz hg
    subst e
    refine Fun.go has_ref3_P_block rfl fun B Q hB hQ => ?_
    have hlt : 0 < 1 := Nat.zero_lt_one
    have hget : 0 < 1 := Nat.zero_lt_one
    have hpu : 0 < 1 := Nat.zero_lt_one
    have hinc : 0 < 1 := Nat.zero_lt_one
    repeat' (first
 | simp only [go_sem, hlt, hget, hpu, hinc, Int.reduceLE, ↓reduceIte, reduceCtorEq, Nat.reduceEqDiff, Nat.reduceLeDiff, Nat.reduceAdd, Nat.reduceMul, Nat.reduceSub, Nat.reduceLT]
 | (with_reducible refine CU (wa (by with_unfolding_all rfl)) ?_)
 | (with_reducible first | refine CB_ofT (by assumption) fun hc => ?_ | refine CB_ofF (by assumption) fun hc => ?_ | refine CB_split (fun hc => ?_) fun hc => ?_) <;> (try simp only [hc, bs, ↓reduceIte] at h) <;> (try simp only [hc])
 | ((with_reducible first | refine leafR hQ ?_ | refine leafN hQ ?_); (try cases h); simp only [resL, oneD, Option.some.injEq, exists_eq_left', go_sem, hlt, hget, hpu, hinc, Int.reduceLE, ↓reduceIte, reduceCtorEq, Nat.reduceEqDiff, Nat.reduceLeDiff, Nat.reduceAdd, Nat.reduceMul, Nat.reduceSub, Nat.reduceLT]; repeat' (first | exact Ok.out | with_reducible refine And.intro ?_ ?_ | (simp; done)))
 | (cases h; replace h := hr; clear hr; (try simp only [bs, ↓reduceIte] at h))
 | (cases h; done))
    refine SemL.tokT 8 13 rfl ?_
    simp only [go_sem, hlt, hget, hpu, hinc, Int.reduceLE, ↓reduceIte, reduceCtorEq, Nat.reduceEqDiff, Nat.reduceLeDiff, Nat.reduceAdd, Nat.reduceMul, Nat.reduceSub, Nat.reduceLT]
    refine SemL.re _ _ 1 1 (by rw [hB]; exact Nat.le_of_ble_eq_true rfl) (by rw [hB]; exact Nat.le_of_ble_eq_true rfl) ?_ ?_ (SemL.ind (ι := Nat × List Sm × Rd × Nat) (fun i => Rd.rowsL m i.1 k false i.2.1 i.2.2.1 = some p ∧ i.2.2.2 = i.2.1.length ∧ i.1 ≤ n ∧ i.2.2.1.good = true ∧ i.2.2.1.l = r.l ∧ i.2.2.1.n ≤ 200 ∧ (Sm.nums true r1.n i.2.1).2 = i.2.2.1.n) (fun i => i.1)
      (fun i => [(0, .ptr 0 0), (1, .int .i64 k), (2, .bool false), (8, .slice (.tok 0) 13 ((Sm.nums true r1.n i.2.1).1.map encSm))]) (fun i => ⟨[encRc (.int .i64 i.2.2.1.n) i.2.2.1], [some i.2.2.2]⟩) ?_ (n, [], r1, 0) ⟨h, rfl, Nat.le_refl _, hg, kw.l, hN hg, rfl⟩)
    · (simp only [go_sem, hlt, hget, hpu, hinc, Int.reduceLE, ↓reduceIte, reduceCtorEq, Nat.reduceEqDiff, Nat.reduceLeDiff, Nat.reduceAdd, Nat.reduceMul, Nat.reduceSub, Nat.reduceLT, Sm.nums, List.map_nil]; repeat' (first | exact Ok.out | with_reducible refine And.intro ?_ ?_))
    · (simp only [go_sem, hlt, hget, hpu, hinc, Int.reduceLE, ↓reduceIte, reduceCtorEq, Nat.reduceEqDiff, Nat.reduceLeDiff, Nat.reduceAdd, Nat.reduceMul, Nat.reduceSub, Nat.reduceLT, Sm.nums, List.map_nil]; repeat' (first | exact Ok.out | with_reducible refine And.intro ?_ ?_))
    rintro ⟨j, out, r2, kk⟩ ⟨h, hk, hj, hg2, hl2, hn2, hnum⟩ IH
    dsimp only at hk hj hg2 hl2 hn2 hnum; subst hk
    cases j with
    | zero => simp only [Rd.rowsL] at h; cases h
    | succ j =>
      have stm_j := @stm j (by omega)
      simp only [Rd.rowsL, hg2, ↓reduceIte] at h
      rw [Option.bind_eq_some_iff] at h
      obtain ⟨l, h, hr⟩ := h
      repeat' (first
 | simp only [go_sem, hlt, hget, hpu, hinc, Int.reduceLE, ↓reduceIte, reduceCtorEq, Nat.reduceEqDiff, Nat.reduceLeDiff, Nat.reduceAdd, Nat.reduceMul, Nat.reduceSub, Nat.reduceLT]
 | (with_reducible refine CU (Pok_s (by with_unfolding_all rfl)) ?_)
 | (with_reducible first | refine CB_ofT (by assumption) fun hc => ?_ | refine CB_ofF (by assumption) fun hc => ?_ | refine CB_split (fun hc => ?_) fun hc => ?_) <;> (try simp only [hc, bs, ↓reduceIte] at h) <;> (try simp only [hc])
 | ((with_reducible first | refine leafR hQ ?_ | refine leafN hQ ?_); (try cases h); simp only [resL, oneD, Option.some.injEq, exists_eq_left', go_sem, hlt, hget, hpu, hinc, Int.reduceLE, ↓reduceIte, reduceCtorEq, Nat.reduceEqDiff, Nat.reduceLeDiff, Nat.reduceAdd, Nat.reduceMul, Nat.reduceSub, Nat.reduceLT]; repeat' (first | exact Ok.out | with_reducible refine And.intro ?_ ?_ | (simp; done)))
 | (cases h; replace h := hr; clear hr; (try simp only [bs, ↓reduceIte] at h))
 | (cases h; done))
      refine SemL.tokT 9 1 rfl ?_
      simp only [go_sem, hlt, hget, hpu, hinc, Int.reduceLE, ↓reduceIte, reduceCtorEq, Nat.reduceEqDiff, Nat.reduceLeDiff, Nat.reduceAdd, Nat.reduceMul, Nat.reduceSub, Nat.reduceLT]
      refine SemL.re _ _ 1 2 (by rw [hB]; exact Nat.le_of_ble_eq_true rfl) (by rw [hB]; exact Nat.le_of_ble_eq_true rfl) ?_ ?_ (SemL.ind (ι := Nat × List Str × Rd × Nat) (fun i => Rd.labels i.1 i.2.1 i.2.2.1 = some l ∧ i.2.2.2 = i.2.1.length ∧ Keep r2 i.2.2.1 ∧ i.2.2.1.good = true) (fun i => i.1)
        (fun i => [(0, .ptr 0 0), (1, .int .i64 k), (2, .bool false), (8, .slice (.tok 0) 13 ((Sm.nums true r1.n out).1.map encSm)), (9, .slice (.tok 1) 1 (i.2.1.map encStr))]) (fun i => ⟨[encRc (.int .i64 r2.n) i.2.2.1], [some out.length, some i.2.2.2]⟩) ?_ (m, [], r2, 0) ⟨h, rfl, Keep.refl _, hg2⟩)
      · (simp only [go_sem, hlt, hget, hpu, hinc, Int.reduceLE, ↓reduceIte, reduceCtorEq, Nat.reduceEqDiff, Nat.reduceLeDiff, Nat.reduceAdd, Nat.reduceMul, Nat.reduceSub, Nat.reduceLT, List.map_nil]; repeat' (first | exact Ok.out | with_reducible refine And.intro ?_ ?_))
      · (simp only [go_sem, hlt, hget, hpu, hinc, Int.reduceLE, ↓reduceIte, reduceCtorEq, Nat.reduceEqDiff, Nat.reduceLeDiff, Nat.reduceAdd, Nat.reduceMul, Nat.reduceSub, Nat.reduceLT, List.map_nil]; repeat' (first | exact Ok.out | with_reducible refine And.intro ?_ ?_))
      rintro ⟨j2, ls, r3, kk⟩ ⟨h, hk, hkp, hg3⟩ IHl
      dsimp only at hk hkp hg3; subst hk
      cases j2 with
      | zero => simp only [Rd.labels] at h; cases h
      | succ j2 =>
        simp only [Rd.labels, Rd.ahead, hg3, ↓reduceIte] at h
        rw [Option.bind_assoc, Option.bind_eq_some_iff] at h
        obtain ⟨t, ht, h⟩ := h
        obtain ⟨hlt, hget, hkl, hkh⟩ := peek_get ht
        have hcn : cN { r3 with i := r3.i + 1 } = .int .i64 r2.n := (cN_t (r := { r3 with i := r3.i + 1 }) hg3).trans (congrArg (fun n : Nat => D.int .i64 n) hkp.n)
        simp only [ht, Option.bind_some] at h
        cases hk1 : t.kind == 1
        · simp only [hk1, Bool.false_eq_true, ↓reduceIte, Option.bind_some] at h
          cases h
          dsimp only at hr
          replace h := hr
          clear hr
          repeat' (first
 | simp only [go_sem, hlt, hget, hpu, hinc, Int.reduceLE, ↓reduceIte, reduceCtorEq, Nat.reduceEqDiff, Nat.reduceLeDiff, Nat.reduceAdd, Nat.reduceMul, Nat.reduceSub, Nat.reduceLT, hk1, hcn]
 | (rw [Option.bind_eq_some_iff] at h; obtain ⟨_, h1, h⟩ := h; first | (with_reducible refine CU (Pis_s (isO_good h1 hg3) (by with_unfolding_all rfl)) ?_))
 | (with_reducible refine CU (Pok_s (by with_unfolding_all rfl)) ?_)
 | (with_reducible first | refine CB_ofT (by assumption) fun hc => ?_ | refine CB_ofF (by assumption) fun hc => ?_ | refine CB_split (fun hc => ?_) fun hc => ?_) <;> (try simp only [hc, bs, ↓reduceIte] at h) <;> (try simp only [hc])
 | ((with_reducible first | refine leafR hQ ?_ | refine leafN hQ ?_); (try cases h); simp only [resL, oneD, Option.some.injEq, exists_eq_left', go_sem, hlt, hget, hpu, hinc, Int.reduceLE, ↓reduceIte, reduceCtorEq, Nat.reduceEqDiff, Nat.reduceLeDiff, Nat.reduceAdd, Nat.reduceMul, Nat.reduceSub, Nat.reduceLT, hk1, hcn]; repeat' (first | exact Ok.out | with_reducible refine And.intro ?_ ?_ | (simp; done)))
 | (cases h; replace h := hr; clear hr; (try simp only [bs, ↓reduceIte] at h))
 | (cases h; done))
          all_goals
            rw [Option.bind_eq_some_iff] at h
            obtain ⟨sv, hs, h⟩ := h
            rw [Option.bind_eq_some_iff] at h
            obtain ⟨o2, hp, h⟩ := h
            obtain ⟨hpu, rfl⟩ := push_some hp
            have hn3 : r3.n = r2.n := hkp.n
            have hT3 : TW r3.l := by rw [hkp.l, hl2]; exact hT
            have sc := fun {s : St} {o : Nat} (ho : s.objs[o]? = some (encRc (.int .i64 r3.n) r3)) => stm_j (labels := ls) hs hg3 hT3 (by rw [hn3]; exact hn2) ho
            rw [hn3] at sc
            have hns := (stmts_n j).2.2.1 _ _ _ hs
            refine CL.useW (@sc _ 0 (by with_unfolding_all rfl)) Ok.out ?_
            cases hgo : sv.2.good
            · rw [cN_f hgo]
              cases j with
              | zero => simp only [Rd.rowsL] at h; cases h
              | succ j =>
                simp only [Rd.rowsL, hgo, Bool.false_eq_true, ↓reduceIte] at h
                cases h
                simp only [Sm.nums, cN_f hgo] at hQ
                repeat' (first
 | simp only [go_sem, hlt, hget, hpu, hinc, Int.reduceLE, ↓reduceIte, reduceCtorEq, Nat.reduceEqDiff, Nat.reduceLeDiff, Nat.reduceAdd, Nat.reduceMul, Nat.reduceSub, Nat.reduceLT, stD, hgo, Sm.nums_len]
 | (with_reducible refine CU (Pok_s (by with_unfolding_all rfl)) ?_)
 | (with_reducible refine SemL.onceW ?_)
 | (with_reducible first | refine CB_ofT (by assumption) fun hc => ?_ | refine CB_ofF (by assumption) fun hc => ?_ | refine CB_split (fun hc => ?_) fun hc => ?_) <;> (try simp only [hc, bs, ↓reduceIte] at h) <;> (try simp only [hc])
 | ((with_reducible first | refine leafR hQ ?_ | refine leafN hQ ?_); (try cases h); simp only [resL, oneD, Option.some.injEq, exists_eq_left', go_sem, hlt, hget, hpu, hinc, Int.reduceLE, ↓reduceIte, reduceCtorEq, Nat.reduceEqDiff, Nat.reduceLeDiff, Nat.reduceAdd, Nat.reduceMul, Nat.reduceSub, Nat.reduceLT, stD, hgo, Sm.nums_len]; repeat' (first | exact Ok.out | with_reducible refine And.intro ?_ ?_ | (simp; done)))
 | (cases h; replace h := hr; clear hr; (try simp only [bs, ↓reduceIte] at h))
 | (cases h; done))
            · rw [cN_t hgo]
              have hnum2 : (Sm.nums true r1.n (out ++ [{ sv.1 with labels := ls }])).2 = sv.2.n := by
                rw [Sm.nums_app, Sm.num_labels]; dsimp only; rw [hnum, ← hn3]; exact hns.n hgo
              repeat' (first
 | simp only [go_sem, hlt, hget, hpu, hinc, Int.reduceLE, ↓reduceIte, reduceCtorEq, Nat.reduceEqDiff, Nat.reduceLeDiff, Nat.reduceAdd, Nat.reduceMul, Nat.reduceSub, Nat.reduceLT, stD, hgo, Sm.nums_len]
 | (with_reducible first | refine CB_ofT (by assumption) fun hc => ?_ | refine CB_ofF (by assumption) fun hc => ?_ | refine CB_split (fun hc => ?_) fun hc => ?_) <;> (try simp only [hc, bs, ↓reduceIte] at h) <;> (try simp only [hc])
 | ((with_reducible first | refine leafR hQ ?_ | refine leafN hQ ?_); (try cases h); simp only [resL, oneD, Option.some.injEq, exists_eq_left', go_sem, hlt, hget, hpu, hinc, Int.reduceLE, ↓reduceIte, reduceCtorEq, Nat.reduceEqDiff, Nat.reduceLeDiff, Nat.reduceAdd, Nat.reduceMul, Nat.reduceSub, Nat.reduceLT, stD, hgo, Sm.nums_len]; repeat' (first | exact Ok.out | with_reducible refine And.intro ?_ ?_ | (simp; done)))
 | (cases h; replace h := hr; clear hr; (try simp only [bs, ↓reduceIte] at h))
 | (cases h; done))
              have hls : sv.2.l = r.l := by rw [hns.l, hkp.l]; exact hl2
              have hle : sv.2.n ≤ 200 := hns.le hgo (by rw [hn3]; exact hn2)
              rw [hn3] at hns
              refine SemL.re _ _ 1 1 (by rw [hB]; exact Nat.le_of_ble_eq_true rfl) (by rw [hB]; exact Nat.le_of_ble_eq_true rfl) ?_ ?_ (IH (j, _, _, out.length + 1) ⟨h, by simp, by dsimp only; omega, hgo, hls, hle, hnum2⟩ (Nat.lt_succ_self _))
              · (simp only [go_sem, hlt, hget, hpu, hinc, Int.reduceLE, ↓reduceIte, reduceCtorEq, Nat.reduceEqDiff, Nat.reduceLeDiff, Nat.reduceAdd, Nat.reduceMul, Nat.reduceSub, Nat.reduceLT, stD, hgo, hnum, hn3, Sm.nums_app, List.map_append, List.map_cons, List.map_nil]; repeat' (first | exact Ok.out | with_reducible refine And.intro ?_ ?_))
              · (simp only [go_sem, hlt, hget, hpu, hinc, Int.reduceLE, ↓reduceIte, reduceCtorEq, Nat.reduceEqDiff, Nat.reduceLeDiff, Nat.reduceAdd, Nat.reduceMul, Nat.reduceSub, Nat.reduceLT, stD, hgo, hnum, hn3, Sm.nums_app, List.map_append, List.map_cons, List.map_nil]; repeat' (first | exact Ok.out | with_reducible refine And.intro ?_ ?_))
        · simp only [hk1, ↓reduceIte] at h
          rw [Option.bind_assoc, Option.bind_eq_some_iff] at h
          obtain ⟨u, hu, h⟩ := h
          obtain ⟨hltq, hgetu⟩ := getO_some hu
          simp only [Option.bind_some] at h
          cases hcu : (u.kind == 4 && u.text == [58])
          · simp only [hcu, Bool.false_eq_true, ↓reduceIte] at h
            cases h
            dsimp only at hr
            replace h := hr
            clear hr
            cases hu4 : u.kind == 4
            · repeat' (first
 | simp only [go_sem, hlt, hget, hpu, hinc, Int.reduceLE, ↓reduceIte, reduceCtorEq, Nat.reduceEqDiff, Nat.reduceLeDiff, Nat.reduceAdd, Nat.reduceMul, Nat.reduceSub, Nat.reduceLT, hk1, hcn, hgetu, hu4]
 | (rw [Option.bind_eq_some_iff] at h; obtain ⟨_, h1, h⟩ := h; first | (with_reducible refine CU (Pis_s (isO_good h1 hg3) (by with_unfolding_all rfl)) ?_))
 | (with_reducible refine CU (Pok_s (by with_unfolding_all rfl)) ?_)
 | (with_reducible first | refine CB_ofT (by assumption) fun hc => ?_ | refine CB_ofF (by assumption) fun hc => ?_ | refine CB_split (fun hc => ?_) fun hc => ?_) <;> (try simp only [hc, bs, ↓reduceIte] at h) <;> (try simp only [hc])
 | ((with_reducible first | refine leafR hQ ?_ | refine leafN hQ ?_); (try cases h); simp only [resL, oneD, Option.some.injEq, exists_eq_left', go_sem, hlt, hget, hpu, hinc, Int.reduceLE, ↓reduceIte, reduceCtorEq, Nat.reduceEqDiff, Nat.reduceLeDiff, Nat.reduceAdd, Nat.reduceMul, Nat.reduceSub, Nat.reduceLT, hk1, hcn, hgetu, hu4]; repeat' (first | exact Ok.out | with_reducible refine And.intro ?_ ?_ | (simp; done)))
 | (cases h; replace h := hr; clear hr; (try simp only [bs, ↓reduceIte] at h))
 | (cases h; done))
              all_goals
                rw [Option.bind_eq_some_iff] at h
                obtain ⟨sv, hs, h⟩ := h
                rw [Option.bind_eq_some_iff] at h
                obtain ⟨o2, hp, h⟩ := h
                obtain ⟨hpu, rfl⟩ := push_some hp
                have hn3 : r3.n = r2.n := hkp.n
                have hT3 : TW r3.l := by rw [hkp.l, hl2]; exact hT
                have sc := fun {s : St} {o : Nat} (ho : s.objs[o]? = some (encRc (.int .i64 r3.n) r3)) => stm_j (labels := ls) hs hg3 hT3 (by rw [hn3]; exact hn2) ho
                rw [hn3] at sc
                have hns := (stmts_n j).2.2.1 _ _ _ hs
                refine CL.useW (@sc _ 0 (by with_unfolding_all rfl)) Ok.out ?_
                cases hgo : sv.2.good
                · rw [cN_f hgo]
                  cases j with
                  | zero => simp only [Rd.rowsL] at h; cases h
                  | succ j =>
                    simp only [Rd.rowsL, hgo, Bool.false_eq_true, ↓reduceIte] at h
                    cases h
                    simp only [Sm.nums, cN_f hgo] at hQ
                    repeat' (first
 | simp only [go_sem, hlt, hget, hpu, hinc, Int.reduceLE, ↓reduceIte, reduceCtorEq, Nat.reduceEqDiff, Nat.reduceLeDiff, Nat.reduceAdd, Nat.reduceMul, Nat.reduceSub, Nat.reduceLT, stD, hgo, Sm.nums_len]
 | (with_reducible refine CU (Pok_s (by with_unfolding_all rfl)) ?_)
 | (with_reducible refine SemL.onceW ?_)
 | (with_reducible first | refine CB_ofT (by assumption) fun hc => ?_ | refine CB_ofF (by assumption) fun hc => ?_ | refine CB_split (fun hc => ?_) fun hc => ?_) <;> (try simp only [hc, bs, ↓reduceIte] at h) <;> (try simp only [hc])
 | ((with_reducible first | refine leafR hQ ?_ | refine leafN hQ ?_); (try cases h); simp only [resL, oneD, Option.some.injEq, exists_eq_left', go_sem, hlt, hget, hpu, hinc, Int.reduceLE, ↓reduceIte, reduceCtorEq, Nat.reduceEqDiff, Nat.reduceLeDiff, Nat.reduceAdd, Nat.reduceMul, Nat.reduceSub, Nat.reduceLT, stD, hgo, Sm.nums_len]; repeat' (first | exact Ok.out | with_reducible refine And.intro ?_ ?_ | (simp; done)))
 | (cases h; replace h := hr; clear hr; (try simp only [bs, ↓reduceIte] at h))
 | (cases h; done))
                · rw [cN_t hgo]
                  have hnum2 : (Sm.nums true r1.n (out ++ [{ sv.1 with labels := ls }])).2 = sv.2.n := by
                    rw [Sm.nums_app, Sm.num_labels]; dsimp only; rw [hnum, ← hn3]; exact hns.n hgo
                  repeat' (first
 | simp only [go_sem, hlt, hget, hpu, hinc, Int.reduceLE, ↓reduceIte, reduceCtorEq, Nat.reduceEqDiff, Nat.reduceLeDiff, Nat.reduceAdd, Nat.reduceMul, Nat.reduceSub, Nat.reduceLT, stD, hgo, Sm.nums_len]
 | (with_reducible first | refine CB_ofT (by assumption) fun hc => ?_ | refine CB_ofF (by assumption) fun hc => ?_ | refine CB_split (fun hc => ?_) fun hc => ?_) <;> (try simp only [hc, bs, ↓reduceIte] at h) <;> (try simp only [hc])
 | ((with_reducible first | refine leafR hQ ?_ | refine leafN hQ ?_); (try cases h); simp only [resL, oneD, Option.some.injEq, exists_eq_left', go_sem, hlt, hget, hpu, hinc, Int.reduceLE, ↓reduceIte, reduceCtorEq, Nat.reduceEqDiff, Nat.reduceLeDiff, Nat.reduceAdd, Nat.reduceMul, Nat.reduceSub, Nat.reduceLT, stD, hgo, Sm.nums_len]; repeat' (first | exact Ok.out | with_reducible refine And.intro ?_ ?_ | (simp; done)))
 | (cases h; replace h := hr; clear hr; (try simp only [bs, ↓reduceIte] at h))
 | (cases h; done))
                  have hls : sv.2.l = r.l := by rw [hns.l, hkp.l]; exact hl2
                  have hle : sv.2.n ≤ 200 := hns.le hgo (by rw [hn3]; exact hn2)
                  rw [hn3] at hns
                  refine SemL.re _ _ 1 1 (by rw [hB]; exact Nat.le_of_ble_eq_true rfl) (by rw [hB]; exact Nat.le_of_ble_eq_true rfl) ?_ ?_ (IH (j, _, _, out.length + 1) ⟨h, by simp, by dsimp only; omega, hgo, hls, hle, hnum2⟩ (Nat.lt_succ_self _))
                  · (simp only [go_sem, hlt, hget, hpu, hinc, Int.reduceLE, ↓reduceIte, reduceCtorEq, Nat.reduceEqDiff, Nat.reduceLeDiff, Nat.reduceAdd, Nat.reduceMul, Nat.reduceSub, Nat.reduceLT, stD, hgo, hnum, hn3, Sm.nums_app, List.map_append, List.map_cons, List.map_nil]; repeat' (first | exact Ok.out | with_reducible refine And.intro ?_ ?_))
                  · (simp only [go_sem, hlt, hget, hpu, hinc, Int.reduceLE, ↓reduceIte, reduceCtorEq, Nat.reduceEqDiff, Nat.reduceLeDiff, Nat.reduceAdd, Nat.reduceMul, Nat.reduceSub, Nat.reduceLT, stD, hgo, hnum, hn3, Sm.nums_app, List.map_append, List.map_cons, List.map_nil]; repeat' (first | exact Ok.out | with_reducible refine And.intro ?_ ?_))
            · have hut : (u.text == [58]) = false := by rw [hu4, Bool.true_and] at hcu; exact hcu
              repeat' (first
 | simp only [go_sem, hlt, hget, hpu, hinc, Int.reduceLE, ↓reduceIte, reduceCtorEq, Nat.reduceEqDiff, Nat.reduceLeDiff, Nat.reduceAdd, Nat.reduceMul, Nat.reduceSub, Nat.reduceLT, hk1, hcn, hgetu, hu4, hut]
 | (rw [Option.bind_eq_some_iff] at h; obtain ⟨_, h1, h⟩ := h; first | (with_reducible refine CU (Pis_s (isO_good h1 hg3) (by with_unfolding_all rfl)) ?_))
 | (with_reducible refine CU (Pok_s (by with_unfolding_all rfl)) ?_)
 | (with_reducible first | refine CB_ofT (by assumption) fun hc => ?_ | refine CB_ofF (by assumption) fun hc => ?_ | refine CB_split (fun hc => ?_) fun hc => ?_) <;> (try simp only [hc, bs, ↓reduceIte] at h) <;> (try simp only [hc])
 | ((with_reducible first | refine leafR hQ ?_ | refine leafN hQ ?_); (try cases h); simp only [resL, oneD, Option.some.injEq, exists_eq_left', go_sem, hlt, hget, hpu, hinc, Int.reduceLE, ↓reduceIte, reduceCtorEq, Nat.reduceEqDiff, Nat.reduceLeDiff, Nat.reduceAdd, Nat.reduceMul, Nat.reduceSub, Nat.reduceLT, hk1, hcn, hgetu, hu4, hut]; repeat' (first | exact Ok.out | with_reducible refine And.intro ?_ ?_ | (simp; done)))
 | (cases h; replace h := hr; clear hr; (try simp only [bs, ↓reduceIte] at h))
 | (cases h; done))
              all_goals
                rw [Option.bind_eq_some_iff] at h
                obtain ⟨sv, hs, h⟩ := h
                rw [Option.bind_eq_some_iff] at h
                obtain ⟨o2, hp, h⟩ := h
                obtain ⟨hpu, rfl⟩ := push_some hp
                have hn3 : r3.n = r2.n := hkp.n
                have hT3 : TW r3.l := by rw [hkp.l, hl2]; exact hT
                have sc := fun {s : St} {o : Nat} (ho : s.objs[o]? = some (encRc (.int .i64 r3.n) r3)) => stm_j (labels := ls) hs hg3 hT3 (by rw [hn3]; exact hn2) ho
                rw [hn3] at sc
                have hns := (stmts_n j).2.2.1 _ _ _ hs
                refine CL.useW (@sc _ 0 (by with_unfolding_all rfl)) Ok.out ?_
                cases hgo : sv.2.good
                · rw [cN_f hgo]
                  cases j with
                  | zero => simp only [Rd.rowsL] at h; cases h
                  | succ j =>
                    simp only [Rd.rowsL, hgo, Bool.false_eq_true, ↓reduceIte] at h
                    cases h
                    simp only [Sm.nums, cN_f hgo] at hQ
                    repeat' (first
 | simp only [go_sem, hlt, hget, hpu, hinc, Int.reduceLE, ↓reduceIte, reduceCtorEq, Nat.reduceEqDiff, Nat.reduceLeDiff, Nat.reduceAdd, Nat.reduceMul, Nat.reduceSub, Nat.reduceLT, stD, hgo, Sm.nums_len]
 | (with_reducible refine CU (Pok_s (by with_unfolding_all rfl)) ?_)
 | (with_reducible refine SemL.onceW ?_)
 | (with_reducible first | refine CB_ofT (by assumption) fun hc => ?_ | refine CB_ofF (by assumption) fun hc => ?_ | refine CB_split (fun hc => ?_) fun hc => ?_) <;> (try simp only [hc, bs, ↓reduceIte] at h) <;> (try simp only [hc])
 | ((with_reducible first | refine leafR hQ ?_ | refine leafN hQ ?_); (try cases h); simp only [resL, oneD, Option.some.injEq, exists_eq_left', go_sem, hlt, hget, hpu, hinc, Int.reduceLE, ↓reduceIte, reduceCtorEq, Nat.reduceEqDiff, Nat.reduceLeDiff, Nat.reduceAdd, Nat.reduceMul, Nat.reduceSub, Nat.reduceLT, stD, hgo, Sm.nums_len]; repeat' (first | exact Ok.out | with_reducible refine And.intro ?_ ?_ | (simp; done)))
 | (cases h; replace h := hr; clear hr; (try simp only [bs, ↓reduceIte] at h))
 | (cases h; done))
                · rw [cN_t hgo]
                  have hnum2 : (Sm.nums true r1.n (out ++ [{ sv.1 with labels := ls }])).2 = sv.2.n := by
                    rw [Sm.nums_app, Sm.num_labels]; dsimp only; rw [hnum, ← hn3]; exact hns.n hgo
                  repeat' (first
 | simp only [go_sem, hlt, hget, hpu, hinc, Int.reduceLE, ↓reduceIte, reduceCtorEq, Nat.reduceEqDiff, Nat.reduceLeDiff, Nat.reduceAdd, Nat.reduceMul, Nat.reduceSub, Nat.reduceLT, stD, hgo, Sm.nums_len]
 | (with_reducible first | refine CB_ofT (by assumption) fun hc => ?_ | refine CB_ofF (by assumption) fun hc => ?_ | refine CB_split (fun hc => ?_) fun hc => ?_) <;> (try simp only [hc, bs, ↓reduceIte] at h) <;> (try simp only [hc])
 | ((with_reducible first | refine leafR hQ ?_ | refine leafN hQ ?_); (try cases h); simp only [resL, oneD, Option.some.injEq, exists_eq_left', go_sem, hlt, hget, hpu, hinc, Int.reduceLE, ↓reduceIte, reduceCtorEq, Nat.reduceEqDiff, Nat.reduceLeDiff, Nat.reduceAdd, Nat.reduceMul, Nat.reduceSub, Nat.reduceLT, stD, hgo, Sm.nums_len]; repeat' (first | exact Ok.out | with_reducible refine And.intro ?_ ?_ | (simp; done)))
 | (cases h; replace h := hr; clear hr; (try simp only [bs, ↓reduceIte] at h))
 | (cases h; done))
                  have hls : sv.2.l = r.l := by rw [hns.l, hkp.l]; exact hl2
                  have hle : sv.2.n ≤ 200 := hns.le hgo (by rw [hn3]; exact hn2)
                  rw [hn3] at hns
                  refine SemL.re _ _ 1 1 (by rw [hB]; exact Nat.le_of_ble_eq_true rfl) (by rw [hB]; exact Nat.le_of_ble_eq_true rfl) ?_ ?_ (IH (j, _, _, out.length + 1) ⟨h, by simp, by dsimp only; omega, hgo, hls, hle, hnum2⟩ (Nat.lt_succ_self _))
                  · (simp only [go_sem, hlt, hget, hpu, hinc, Int.reduceLE, ↓reduceIte, reduceCtorEq, Nat.reduceEqDiff, Nat.reduceLeDiff, Nat.reduceAdd, Nat.reduceMul, Nat.reduceSub, Nat.reduceLT, stD, hgo, hnum, hn3, Sm.nums_app, List.map_append, List.map_cons, List.map_nil]; repeat' (first | exact Ok.out | with_reducible refine And.intro ?_ ?_))
                  · (simp only [go_sem, hlt, hget, hpu, hinc, Int.reduceLE, ↓reduceIte, reduceCtorEq, Nat.reduceEqDiff, Nat.reduceLeDiff, Nat.reduceAdd, Nat.reduceMul, Nat.reduceSub, Nat.reduceLT, stD, hgo, hnum, hn3, Sm.nums_app, List.map_append, List.map_cons, List.map_nil]; repeat' (first | exact Ok.out | with_reducible refine And.intro ?_ ?_))
          · simp only [hcu, ↓reduceIte] at h
            rw [Option.bind_eq_some_iff] at h
            obtain ⟨ls2, hp, h⟩ := h
            obtain ⟨hpu, rfl⟩ := push_some hp
            simp only [Bool.and_eq_true] at hcu
            have en : r3.name true = some (t.text, { r3 with i := r3.i + 1 }) := by
              have e : (t.kind != 1) = false := by simpa using hk1
              simp only [Rd.name, ht, Option.bind_some, hg3, e, Bool.not_true, Bool.or_self, Bool.false_eq_true, ↓reduceIte]
            have nm := fun {z : D} [Cell z] {s : St} {o : Nat} (ho : s.objs[o]? = some (encRc z r3)) => Pname_s (room := true) (full := false) en rfl ho
            have hw2 : IntKind.wrap .i64 (((r3.i + 1 : Nat) : Int) + 1) = ((r3.i + 2 : Nat) : Int) := wrap_inc hltq
            repeat' (first
 | simp only [go_sem, hlt, hget, hpu, hinc, Int.reduceLE, ↓reduceIte, reduceCtorEq, Nat.reduceEqDiff, Nat.reduceLeDiff, Nat.reduceAdd, Nat.reduceMul, Nat.reduceSub, Nat.reduceLT, hk1, hgetu, hcu.1, hcu.2, hw2]
 | (with_reducible refine CU (Pok_s (by with_unfolding_all rfl)) ?_)
 | (with_reducible refine CU (nm (by with_unfolding_all rfl)) ?_)
 | (with_reducible first | refine CB_ofT (by assumption) fun hc => ?_ | refine CB_ofF (by assumption) fun hc => ?_ | refine CB_split (fun hc => ?_) fun hc => ?_) <;> (try simp only [hc, bs, ↓reduceIte] at h) <;> (try simp only [hc])
 | ((with_reducible first | refine leafR hQ ?_ | refine leafN hQ ?_); (try cases h); simp only [resL, oneD, Option.some.injEq, exists_eq_left', go_sem, hlt, hget, hpu, hinc, Int.reduceLE, ↓reduceIte, reduceCtorEq, Nat.reduceEqDiff, Nat.reduceLeDiff, Nat.reduceAdd, Nat.reduceMul, Nat.reduceSub, Nat.reduceLT, hk1, hgetu, hcu.1, hcu.2, hw2]; repeat' (first | exact Ok.out | with_reducible refine And.intro ?_ ?_ | (simp; done)))
 | (cases h; replace h := hr; clear hr; (try simp only [bs, ↓reduceIte] at h))
 | (cases h; done))
            refine SemL.re _ _ 1 2 (by rw [hB]; exact Nat.le_of_ble_eq_true rfl) (by rw [hB]; exact Nat.le_of_ble_eq_true rfl) ?_ ?_ (IHl (j2, _, { r3 with i := r3.i + 2 }, ls.length + 1) ⟨h, by simp, hkp.i _, hg3⟩ (Nat.lt_succ_self _))
            · (simp only [go_sem, hlt, hget, hpu, hinc, Int.reduceLE, ↓reduceIte, reduceCtorEq, Nat.reduceEqDiff, Nat.reduceLeDiff, Nat.reduceAdd, Nat.reduceMul, Nat.reduceSub, Nat.reduceLT, hw2, List.map_append, List.map_cons, List.map_nil]; repeat' (first | exact Ok.out | with_reducible refine And.intro ?_ ?_))
            · (simp only [go_sem, hlt, hget, hpu, hinc, Int.reduceLE, ↓reduceIte, reduceCtorEq, Nat.reduceEqDiff, Nat.reduceLeDiff, Nat.reduceAdd, Nat.reduceMul, Nat.reduceSub, Nat.reduceLT, hw2, List.map_append, List.map_cons, List.map_nil]; repeat' (first | exact Ok.out | with_reducible refine And.intro ?_ ?_))

theorem rblk_true {m n : Nat} (stm : ∀ j < n, C_rstmt m j) {k : Int} {z : D} [Cell z] {r : Rd} {p : (List Sm × List Str) × Rd} (h : Rd.rows m (n + 1) k true r = some p) (hT : TW r.l)
    (hz : r.good = true → z = .int .i64 r.n) (hN : r.good = true → r.n ≤ 200) :
    Fun Try.prog n_ref3_P_block [.ptr 0 0, .int .i64 k, .bool true] ⟨[encRc z r], []⟩ (.tuple [.slice .shared 13 ((Sm.nums true r.n p.1.1).1.map encSm), .slice .shared 1 (p.1.2.map encStr)]) ⟨[encRc (cN p.2) p.2], []⟩ := by
  simp only [Rd.rows] at h
  have kw := Keep.refl r
  cases hg : r.good
  · cases n with
    | zero => simp only [Rd.rowsL] at h; cases h
    | succ n =>
      simp only [Rd.rowsL, hg, Bool.false_eq_true, ↓reduceIte] at h
      cases h
      simp only [Sm.nums, cN_f hg]
      refine Fun.go has_ref3_P_block rfl fun B Q hB hQ => ?_
      have hlt : 0 < 1 := Nat.zero_lt_one
      have hget : 0 < 1 := Nat.zero_lt_one
      have hpu : 0 < 1 := Nat.zero_lt_one
      have hinc : 0 < 1 := Nat.zero_lt_one
      repeat' (first
 | simp only [go_sem, hlt, hget, hpu, hinc, Int.reduceLE, ↓reduceIte, reduceCtorEq, Nat.reduceEqDiff, Nat.reduceLeDiff, Nat.reduceAdd, Nat.reduceMul, Nat.reduceSub, Nat.reduceLT]
 | (with_reducible refine CU (Pok_s (by with_unfolding_all rfl)) ?_)
 | (with_reducible refine SemL.onceW ?_)
 | (with_reducible first | refine CB_ofT (by assumption) fun hc => ?_ | refine CB_ofF (by assumption) fun hc => ?_ | refine CB_split (fun hc => ?_) fun hc => ?_) <;> (try simp only [hc, bs, ↓reduceIte] at h) <;> (try simp only [hc])
 | ((with_reducible first | refine leafR hQ ?_ | refine leafN hQ ?_); (try cases h); simp only [resL, oneD, Option.some.injEq, exists_eq_left', go_sem, hlt, hget, hpu, hinc, Int.reduceLE, ↓reduceIte, reduceCtorEq, Nat.reduceEqDiff, Nat.reduceLeDiff, Nat.reduceAdd, Nat.reduceMul, Nat.reduceSub, Nat.reduceLT]; repeat' (first | exact Ok.out | with_reducible refine And.intro ?_ ?_ | (simp; done)))
 | (cases h; replace h := hr; clear hr; (try simp only [bs, ↓reduceIte] at h))
 | (cases h; done))
  · have e := hz hg
    subst e
    refine Fun.go has_ref3_P_block rfl fun B Q hB hQ => ?_
    have hlt : 0 < 1 := Nat.zero_lt_one
    have hget : 0 < 1 := Nat.zero_lt_one
    have hpu : 0 < 1 := Nat.zero_lt_one
    have hinc : 0 < 1 := Nat.zero_lt_one
    repeat' (first
 | simp only [go_sem, hlt, hget, hpu, hinc, Int.reduceLE, ↓reduceIte, reduceCtorEq, Nat.reduceEqDiff, Nat.reduceLeDiff, Nat.reduceAdd, Nat.reduceMul, Nat.reduceSub, Nat.reduceLT]
 | (with_reducible first | refine CB_ofT (by assumption) fun hc => ?_ | refine CB_ofF (by assumption) fun hc => ?_ | refine CB_split (fun hc => ?_) fun hc => ?_) <;> (try simp only [hc, bs, ↓reduceIte] at h) <;> (try simp only [hc])
 | ((with_reducible first | refine leafR hQ ?_ | refine leafN hQ ?_); (try cases h); simp only [resL, oneD, Option.some.injEq, exists_eq_left', go_sem, hlt, hget, hpu, hinc, Int.reduceLE, ↓reduceIte, reduceCtorEq, Nat.reduceEqDiff, Nat.reduceLeDiff, Nat.reduceAdd, Nat.reduceMul, Nat.reduceSub, Nat.reduceLT]; repeat' (first | exact Ok.out | with_reducible refine And.intro ?_ ?_ | (simp; done)))
 | (cases h; replace h := hr; clear hr; (try simp only [bs, ↓reduceIte] at h))
 | (cases h; done))
    refine SemL.tokT 8 13 rfl ?_
    simp only [go_sem, hlt, hget, hpu, hinc, Int.reduceLE, ↓reduceIte, reduceCtorEq, Nat.reduceEqDiff, Nat.reduceLeDiff, Nat.reduceAdd, Nat.reduceMul, Nat.reduceSub, Nat.reduceLT]
    refine SemL.re _ _ 1 1 (by rw [hB]; exact Nat.le_of_ble_eq_true rfl) (by rw [hB]; exact Nat.le_of_ble_eq_true rfl) ?_ ?_ (SemL.ind (ι := Nat × List Sm × Rd × Nat) (fun i => Rd.rowsL m i.1 k true i.2.1 i.2.2.1 = some p ∧ i.2.2.2 = i.2.1.length ∧ i.1 ≤ n ∧ i.2.2.1.good = true ∧ i.2.2.1.l = r.l ∧ i.2.2.1.n ≤ 200 ∧ (Sm.nums true r.n i.2.1).2 = i.2.2.1.n) (fun i => i.1)
      (fun i => [(0, .ptr 0 0), (1, .int .i64 k), (2, .bool true), (8, .slice (.tok 0) 13 ((Sm.nums true r.n i.2.1).1.map encSm))]) (fun i => ⟨[encRc (.int .i64 i.2.2.1.n) i.2.2.1], [some i.2.2.2]⟩) ?_ (n, [], r, 0) ⟨h, rfl, Nat.le_refl _, hg, kw.l, hN hg, rfl⟩)
    · (simp only [go_sem, hlt, hget, hpu, hinc, Int.reduceLE, ↓reduceIte, reduceCtorEq, Nat.reduceEqDiff, Nat.reduceLeDiff, Nat.reduceAdd, Nat.reduceMul, Nat.reduceSub, Nat.reduceLT, Sm.nums, List.map_nil]; repeat' (first | exact Ok.out | with_reducible refine And.intro ?_ ?_))
    · (simp only [go_sem, hlt, hget, hpu, hinc, Int.reduceLE, ↓reduceIte, reduceCtorEq, Nat.reduceEqDiff, Nat.reduceLeDiff, Nat.reduceAdd, Nat.reduceMul, Nat.reduceSub, Nat.reduceLT, Sm.nums, List.map_nil]; repeat' (first | exact Ok.out | with_reducible refine And.intro ?_ ?_))
    rintro ⟨j, out, r2, kk⟩ ⟨h, hk, hj, hg2, hl2, hn2, hnum⟩ IH
    dsimp only at hk hj hg2 hl2 hn2 hnum; subst hk
    cases j with
    | zero => simp only [Rd.rowsL] at h; cases h
    | succ j =>
      have stm_j := @stm j (by omega)
      simp only [Rd.rowsL, hg2, ↓reduceIte] at h
      rw [Option.bind_eq_some_iff] at h
      obtain ⟨l, h, hr⟩ := h
      repeat' (first
 | simp only [go_sem, hlt, hget, hpu, hinc, Int.reduceLE, ↓reduceIte, reduceCtorEq, Nat.reduceEqDiff, Nat.reduceLeDiff, Nat.reduceAdd, Nat.reduceMul, Nat.reduceSub, Nat.reduceLT]
 | (with_reducible refine CU (Pok_s (by with_unfolding_all rfl)) ?_)
 | (with_reducible first | refine CB_ofT (by assumption) fun hc => ?_ | refine CB_ofF (by assumption) fun hc => ?_ | refine CB_split (fun hc => ?_) fun hc => ?_) <;> (try simp only [hc, bs, ↓reduceIte] at h) <;> (try simp only [hc])
 | ((with_reducible first | refine leafR hQ ?_ | refine leafN hQ ?_); (try cases h); simp only [resL, oneD, Option.some.injEq, exists_eq_left', go_sem, hlt, hget, hpu, hinc, Int.reduceLE, ↓reduceIte, reduceCtorEq, Nat.reduceEqDiff, Nat.reduceLeDiff, Nat.reduceAdd, Nat.reduceMul, Nat.reduceSub, Nat.reduceLT]; repeat' (first | exact Ok.out | with_reducible refine And.intro ?_ ?_ | (simp; done)))
 | (cases h; replace h := hr; clear hr; (try simp only [bs, ↓reduceIte] at h))
 | (cases h; done))
      refine SemL.tokT 9 1 rfl ?_
      simp only [go_sem, hlt, hget, hpu, hinc, Int.reduceLE, ↓reduceIte, reduceCtorEq, Nat.reduceEqDiff, Nat.reduceLeDiff, Nat.reduceAdd, Nat.reduceMul, Nat.reduceSub, Nat.reduceLT]
      refine SemL.re _ _ 1 2 (by rw [hB]; exact Nat.le_of_ble_eq_true rfl) (by rw [hB]; exact Nat.le_of_ble_eq_true rfl) ?_ ?_ (SemL.ind (ι := Nat × List Str × Rd × Nat) (fun i => Rd.labels i.1 i.2.1 i.2.2.1 = some l ∧ i.2.2.2 = i.2.1.length ∧ Keep r2 i.2.2.1 ∧ i.2.2.1.good = true) (fun i => i.1)
        (fun i => [(0, .ptr 0 0), (1, .int .i64 k), (2, .bool true), (8, .slice (.tok 0) 13 ((Sm.nums true r.n out).1.map encSm)), (9, .slice (.tok 1) 1 (i.2.1.map encStr))]) (fun i => ⟨[encRc (.int .i64 r2.n) i.2.2.1], [some out.length, some i.2.2.2]⟩) ?_ (m, [], r2, 0) ⟨h, rfl, Keep.refl _, hg2⟩)
      · (simp only [go_sem, hlt, hget, hpu, hinc, Int.reduceLE, ↓reduceIte, reduceCtorEq, Nat.reduceEqDiff, Nat.reduceLeDiff, Nat.reduceAdd, Nat.reduceMul, Nat.reduceSub, Nat.reduceLT, List.map_nil]; repeat' (first | exact Ok.out | with_reducible refine And.intro ?_ ?_))
      · (simp only [go_sem, hlt, hget, hpu, hinc, Int.reduceLE, ↓reduceIte, reduceCtorEq, Nat.reduceEqDiff, Nat.reduceLeDiff, Nat.reduceAdd, Nat.reduceMul, Nat.reduceSub, Nat.reduceLT, List.map_nil]; repeat' (first | exact Ok.out | with_reducible refine And.intro ?_ ?_))
      rintro ⟨j2, ls, r3, kk⟩ ⟨h, hk, hkp, hg3⟩ IHl
      dsimp only at hk hkp hg3; subst hk
      cases j2 with
      | zero => simp only [Rd.labels] at h; cases h
      | succ j2 =>
        simp only [Rd.labels, Rd.ahead, hg3, ↓reduceIte] at h
        rw [Option.bind_assoc, Option.bind_eq_some_iff] at h
        obtain ⟨t, ht, h⟩ := h
        obtain ⟨hlt, hget, hkl, hkh⟩ := peek_get ht
        have hcn : cN { r3 with i := r3.i + 1 } = .int .i64 r2.n := (cN_t (r := { r3 with i := r3.i + 1 }) hg3).trans (congrArg (fun n : Nat => D.int .i64 n) hkp.n)
        simp only [ht, Option.bind_some] at h
        cases hk1 : t.kind == 1
        · simp only [hk1, Bool.false_eq_true, ↓reduceIte, Option.bind_some] at h
          cases h
          dsimp only at hr
          replace h := hr
          clear hr
          repeat' (first
 | simp only [go_sem, hlt, hget, hpu, hinc, Int.reduceLE, ↓reduceIte, reduceCtorEq, Nat.reduceEqDiff, Nat.reduceLeDiff, Nat.reduceAdd, Nat.reduceMul, Nat.reduceSub, Nat.reduceLT, hk1, hcn]
 | (rw [Option.bind_eq_some_iff] at h; obtain ⟨_, h1, h⟩ := h; first | (with_reducible refine CU (Pis_s (isO_good h1 hg3) (by with_unfolding_all rfl)) ?_))
 | (with_reducible refine CU (Pok_s (by with_unfolding_all rfl)) ?_)
 | (with_reducible first | refine CB_ofT (by assumption) fun hc => ?_ | refine CB_ofF (by assumption) fun hc => ?_ | refine CB_split (fun hc => ?_) fun hc => ?_) <;> (try simp only [hc, bs, ↓reduceIte] at h) <;> (try simp only [hc])
 | ((with_reducible first | refine leafR hQ ?_ | refine leafN hQ ?_); (try cases h); simp only [resL, oneD, Option.some.injEq, exists_eq_left', go_sem, hlt, hget, hpu, hinc, Int.reduceLE, ↓reduceIte, reduceCtorEq, Nat.reduceEqDiff, Nat.reduceLeDiff, Nat.reduceAdd, Nat.reduceMul, Nat.reduceSub, Nat.reduceLT, hk1, hcn]; repeat' (first | exact Ok.out | with_reducible refine And.intro ?_ ?_ | (simp; done)))
 | (cases h; replace h := hr; clear hr; (try simp only [bs, ↓reduceIte] at h))
 | (cases h; done))
          all_goals
            rw [Option.bind_eq_some_iff] at h
            obtain ⟨sv, hs, h⟩ := h
            rw [Option.bind_eq_some_iff] at h
            obtain ⟨o2, hp, h⟩ := h
            obtain ⟨hpu, rfl⟩ := push_some hp
            have hn3 : r3.n = r2.n := hkp.n
            have hT3 : TW r3.l := by rw [hkp.l, hl2]; exact hT
            have sc := fun {s : St} {o : Nat} (ho : s.objs[o]? = some (encRc (.int .i64 r3.n) r3)) => stm_j (labels := ls) hs hg3 hT3 (by rw [hn3]; exact hn2) ho
            rw [hn3] at sc
            have hns := (stmts_n j).2.2.1 _ _ _ hs
            refine CL.useW (@sc _ 0 (by with_unfolding_all rfl)) Ok.out ?_
            cases hgo : sv.2.good
            · rw [cN_f hgo]
              cases j with
              | zero => simp only [Rd.rowsL] at h; cases h
              | succ j =>
                simp only [Rd.rowsL, hgo, Bool.false_eq_true, ↓reduceIte] at h
                cases h
                simp only [Sm.nums, cN_f hgo] at hQ
                repeat' (first
 | simp only [go_sem, hlt, hget, hpu, hinc, Int.reduceLE, ↓reduceIte, reduceCtorEq, Nat.reduceEqDiff, Nat.reduceLeDiff, Nat.reduceAdd, Nat.reduceMul, Nat.reduceSub, Nat.reduceLT, stD, hgo, Sm.nums_len]
 | (with_reducible refine CU (Pok_s (by with_unfolding_all rfl)) ?_)
 | (with_reducible refine SemL.onceW ?_)
 | (with_reducible first | refine CB_ofT (by assumption) fun hc => ?_ | refine CB_ofF (by assumption) fun hc => ?_ | refine CB_split (fun hc => ?_) fun hc => ?_) <;> (try simp only [hc, bs, ↓reduceIte] at h) <;> (try simp only [hc])
 | ((with_reducible first | refine leafR hQ ?_ | refine leafN hQ ?_); (try cases h); simp only [resL, oneD, Option.some.injEq, exists_eq_left', go_sem, hlt, hget, hpu, hinc, Int.reduceLE, ↓reduceIte, reduceCtorEq, Nat.reduceEqDiff, Nat.reduceLeDiff, Nat.reduceAdd, Nat.reduceMul, Nat.reduceSub, Nat.reduceLT, stD, hgo, Sm.nums_len]; repeat' (first | exact Ok.out | with_reducible refine And.intro ?_ ?_ | (simp; done)))
 | (cases h; replace h := hr; clear hr; (try simp only [bs, ↓reduceIte] at h))
 | (cases h; done))
            · rw [cN_t hgo]
              have hnum2 : (Sm.nums true r.n (out ++ [{ sv.1 with labels := ls }])).2 = sv.2.n := by
                rw [Sm.nums_app, Sm.num_labels]; dsimp only; rw [hnum, ← hn3]; exact hns.n hgo
              repeat' (first
 | simp only [go_sem, hlt, hget, hpu, hinc, Int.reduceLE, ↓reduceIte, reduceCtorEq, Nat.reduceEqDiff, Nat.reduceLeDiff, Nat.reduceAdd, Nat.reduceMul, Nat.reduceSub, Nat.reduceLT, stD, hgo, Sm.nums_len]
 | (with_reducible first | refine CB_ofT (by assumption) fun hc => ?_ | refine CB_ofF (by assumption) fun hc => ?_ | refine CB_split (fun hc => ?_) fun hc => ?_) <;> (try simp only [hc, bs, ↓reduceIte] at h) <;> (try simp only [hc])
 | ((with_reducible first | refine leafR hQ ?_ | refine leafN hQ ?_); (try cases h); simp only [resL, oneD, Option.some.injEq, exists_eq_left', go_sem, hlt, hget, hpu, hinc, Int.reduceLE, ↓reduceIte, reduceCtorEq, Nat.reduceEqDiff, Nat.reduceLeDiff, Nat.reduceAdd, Nat.reduceMul, Nat.reduceSub, Nat.reduceLT, stD, hgo, Sm.nums_len]; repeat' (first | exact Ok.out | with_reducible refine And.intro ?_ ?_ | (simp; done)))
 | (cases h; replace h := hr; clear hr; (try simp only [bs, ↓reduceIte] at h))
 | (cases h; done))
              have hls : sv.2.l = r.l := by rw [hns.l, hkp.l]; exact hl2
              have hle : sv.2.n ≤ 200 := hns.le hgo (by rw [hn3]; exact hn2)
              rw [hn3] at hns
              refine SemL.re _ _ 1 1 (by rw [hB]; exact Nat.le_of_ble_eq_true rfl) (by rw [hB]; exact Nat.le_of_ble_eq_true rfl) ?_ ?_ (IH (j, _, _, out.length + 1) ⟨h, by simp, by dsimp only; omega, hgo, hls, hle, hnum2⟩ (Nat.lt_succ_self _))
              · (simp only [go_sem, hlt, hget, hpu, hinc, Int.reduceLE, ↓reduceIte, reduceCtorEq, Nat.reduceEqDiff, Nat.reduceLeDiff, Nat.reduceAdd, Nat.reduceMul, Nat.reduceSub, Nat.reduceLT, stD, hgo, hnum, hn3, Sm.nums_app, List.map_append, List.map_cons, List.map_nil]; repeat' (first | exact Ok.out | with_reducible refine And.intro ?_ ?_))
              · (simp only [go_sem, hlt, hget, hpu, hinc, Int.reduceLE, ↓reduceIte, reduceCtorEq, Nat.reduceEqDiff, Nat.reduceLeDiff, Nat.reduceAdd, Nat.reduceMul, Nat.reduceSub, Nat.reduceLT, stD, hgo, hnum, hn3, Sm.nums_app, List.map_append, List.map_cons, List.map_nil]; repeat' (first | exact Ok.out | with_reducible refine And.intro ?_ ?_))
        · simp only [hk1, ↓reduceIte] at h
          rw [Option.bind_assoc, Option.bind_eq_some_iff] at h
          obtain ⟨u, hu, h⟩ := h
          obtain ⟨hltq, hgetu⟩ := getO_some hu
          simp only [Option.bind_some] at h
          cases hcu : (u.kind == 4 && u.text == [58])
          · simp only [hcu, Bool.false_eq_true, ↓reduceIte] at h
            cases h
            dsimp only at hr
            replace h := hr
            clear hr
            cases hu4 : u.kind == 4
            · repeat' (first
 | simp only [go_sem, hlt, hget, hpu, hinc, Int.reduceLE, ↓reduceIte, reduceCtorEq, Nat.reduceEqDiff, Nat.reduceLeDiff, Nat.reduceAdd, Nat.reduceMul, Nat.reduceSub, Nat.reduceLT, hk1, hcn, hgetu, hu4]
 | (rw [Option.bind_eq_some_iff] at h; obtain ⟨_, h1, h⟩ := h; first | (with_reducible refine CU (Pis_s (isO_good h1 hg3) (by with_unfolding_all rfl)) ?_))
 | (with_reducible refine CU (Pok_s (by with_unfolding_all rfl)) ?_)
 | (with_reducible first | refine CB_ofT (by assumption) fun hc => ?_ | refine CB_ofF (by assumption) fun hc => ?_ | refine CB_split (fun hc => ?_) fun hc => ?_) <;> (try simp only [hc, bs, ↓reduceIte] at h) <;> (try simp only [hc])
 | ((with_reducible first | refine leafR hQ ?_ | refine leafN hQ ?_); (try cases h); simp only [resL, oneD, Option.some.injEq, exists_eq_left', go_sem, hlt, hget, hpu, hinc, Int.reduceLE, ↓reduceIte, reduceCtorEq, Nat.reduceEqDiff, Nat.reduceLeDiff, Nat.reduceAdd, Nat.reduceMul, Nat.reduceSub, Nat.reduceLT, hk1, hcn, hgetu, hu4]; repeat' (first | exact Ok.out | with_reducible refine And.intro ?_ ?_ | (simp; done)))
 | (cases h; replace h := hr; clear hr; (try simp only [bs, ↓reduceIte] at h))
 | (cases h; done))
              all_goals
                rw [Option.bind_eq_some_iff] at h
                obtain ⟨sv, hs, h⟩ := h
                rw [Option.bind_eq_some_iff] at h
                obtain ⟨o2, hp, h⟩ := h
                obtain ⟨hpu, rfl⟩ := push_some hp
                have hn3 : r3.n = r2.n := hkp.n
                have hT3 : TW r3.l := by rw [hkp.l, hl2]; exact hT
                have sc := fun {s : St} {o : Nat} (ho : s.objs[o]? = some (encRc (.int .i64 r3.n) r3)) => stm_j (labels := ls) hs hg3 hT3 (by rw [hn3]; exact hn2) ho
                rw [hn3] at sc
                have hns := (stmts_n j).2.2.1 _ _ _ hs
                refine CL.useW (@sc _ 0 (by with_unfolding_all rfl)) Ok.out ?_
                cases hgo : sv.2.good
                · rw [cN_f hgo]
                  cases j with
                  | zero => simp only [Rd.rowsL] at h; cases h
                  | succ j =>
                    simp only [Rd.rowsL, hgo, Bool.false_eq_true, ↓reduceIte] at h
                    cases h
                    simp only [Sm.nums, cN_f hgo] at hQ
                    repeat' (first
 | simp only [go_sem, hlt, hget, hpu, hinc, Int.reduceLE, ↓reduceIte, reduceCtorEq, Nat.reduceEqDiff, Nat.reduceLeDiff, Nat.reduceAdd, Nat.reduceMul, Nat.reduceSub, Nat.reduceLT, stD, hgo, Sm.nums_len]
 | (with_reducible refine CU (Pok_s (by with_unfolding_all rfl)) ?_)
 | (with_reducible refine SemL.onceW ?_)
 | (with_reducible first | refine CB_ofT (by assumption) fun hc => ?_ | refine CB_ofF (by assumption) fun hc => ?_ | refine CB_split (fun hc => ?_) fun hc => ?_) <;> (try simp only [hc, bs, ↓reduceIte] at h) <;> (try simp only [hc])
 | ((with_reducible first | refine leafR hQ ?_ | refine leafN hQ ?_); (try cases h); simp only [resL, oneD, Option.some.injEq, exists_eq_left', go_sem, hlt, hget, hpu, hinc, Int.reduceLE, ↓reduceIte, reduceCtorEq, Nat.reduceEqDiff, Nat.reduceLeDiff, Nat.reduceAdd, Nat.reduceMul, Nat.reduceSub, Nat.reduceLT, stD, hgo, Sm.nums_len]; repeat' (first | exact Ok.out | with_reducible refine And.intro ?_ ?_ | (simp; done)))
 | (cases h; replace h := hr; clear hr; (try simp only [bs, ↓reduceIte] at h))
 | (cases h; done))
                · rw [cN_t hgo]
                  have hnum2 : (Sm.nums true r.n (out ++ [{ sv.1 with labels := ls }])).2 = sv.2.n := by
                    rw [Sm.nums_app, Sm.num_labels]; dsimp only; rw [hnum, ← hn3]; exact hns.n hgo
                  repeat' (first
 | simp only [go_sem, hlt, hget, hpu, hinc, Int.reduceLE, ↓reduceIte, reduceCtorEq, Nat.reduceEqDiff, Nat.reduceLeDiff, Nat.reduceAdd, Nat.reduceMul, Nat.reduceSub, Nat.reduceLT, stD, hgo, Sm.nums_len]
 | (with_reducible first | refine CB_ofT (by assumption) fun hc => ?_ | refine CB_ofF (by assumption) fun hc => ?_ | refine CB_split (fun hc => ?_) fun hc => ?_) <;> (try simp only [hc, bs, ↓reduceIte] at h) <;> (try simp only [hc])
 | ((with_reducible first | refine leafR hQ ?_ | refine leafN hQ ?_); (try cases h); simp only [resL, oneD, Option.some.injEq, exists_eq_left', go_sem, hlt, hget, hpu, hinc, Int.reduceLE, ↓reduceIte, reduceCtorEq, Nat.reduceEqDiff, Nat.reduceLeDiff, Nat.reduceAdd, Nat.reduceMul, Nat.reduceSub, Nat.reduceLT, stD, hgo, Sm.nums_len]; repeat' (first | exact Ok.out | with_reducible refine And.intro ?_ ?_ | (simp; done)))
 | (cases h; replace h := hr; clear hr; (try simp only [bs, ↓reduceIte] at h))
 | (cases h; done))
                  have hls : sv.2.l = r.l := by rw [hns.l, hkp.l]; exact hl2
                  have hle : sv.2.n ≤ 200 := hns.le hgo (by rw [hn3]; exact hn2)
                  rw [hn3] at hns
                  refine SemL.re _ _ 1 1 (by rw [hB]; exact Nat.le_of_ble_eq_true rfl) (by rw [hB]; exact Nat.le_of_ble_eq_true rfl) ?_ ?_ (IH (j, _, _, out.length + 1) ⟨h, by simp, by dsimp only; omega, hgo, hls, hle, hnum2⟩ (Nat.lt_succ_self _))
                  · (simp only [go_sem, hlt, hget, hpu, hinc, Int.reduceLE, ↓reduceIte, reduceCtorEq, Nat.reduceEqDiff, Nat.reduceLeDiff, Nat.reduceAdd, Nat.reduceMul, Nat.reduceSub, Nat.reduceLT, stD, hgo, hnum, hn3, Sm.nums_app, List.map_append, List.map_cons, List.map_nil]; repeat' (first | exact Ok.out | with_reducible refine And.intro ?_ ?_))
                  · (simp only [go_sem, hlt, hget, hpu, hinc, Int.reduceLE, ↓reduceIte, reduceCtorEq, Nat.reduceEqDiff, Nat.reduceLeDiff, Nat.reduceAdd, Nat.reduceMul, Nat.reduceSub, Nat.reduceLT, stD, hgo, hnum, hn3, Sm.nums_app, List.map_append, List.map_cons, List.map_nil]; repeat' (first | exact Ok.out | with_reducible refine And.intro ?_ ?_))
            · have hut : (u.text == [58]) = false := by rw [hu4, Bool.true_and] at hcu; exact hcu
              repeat' (first
 | simp only [go_sem, hlt, hget, hpu, hinc, Int.reduceLE, ↓reduceIte, reduceCtorEq, Nat.reduceEqDiff, Nat.reduceLeDiff, Nat.reduceAdd, Nat.reduceMul, Nat.reduceSub, Nat.reduceLT, hk1, hcn, hgetu, hu4, hut]
 | (rw [Option.bind_eq_some_iff] at h; obtain ⟨_, h1, h⟩ := h; first | (with_reducible refine CU (Pis_s (isO_good h1 hg3) (by with_unfolding_all rfl)) ?_))
 | (with_reducible refine CU (Pok_s (by with_unfolding_all rfl)) ?_)
 | (with_reducible first | refine CB_ofT (by assumption) fun hc => ?_ | refine CB_ofF (by assumption) fun hc => ?_ | refine CB_split (fun hc => ?_) fun hc => ?_) <;> (try simp only [hc, bs, ↓reduceIte] at h) <;> (try simp only [hc])
 | ((with_reducible first | refine leafR hQ ?_ | refine leafN hQ ?_); (try cases h); simp only [resL, oneD, Option.some.injEq, exists_eq_left', go_sem, hlt, hget, hpu, hinc, Int.reduceLE, ↓reduceIte, reduceCtorEq, Nat.reduceEqDiff, Nat.reduceLeDiff, Nat.reduceAdd, Nat.reduceMul, Nat.reduceSub, Nat.reduceLT, hk1, hcn, hgetu, hu4, hut]; repeat' (first | exact Ok.out | with_reducible refine And.intro ?_ ?_ | (simp; done)))
 | (cases h; replace h := hr; clear hr; (try simp only [bs, ↓reduceIte] at h))
 | (cases h; done))
              all_goals
                rw [Option.bind_eq_some_iff] at h
                obtain ⟨sv, hs, h⟩ := h
                rw [Option.bind_eq_some_iff] at h
                obtain ⟨o2, hp, h⟩ := h
                obtain ⟨hpu, rfl⟩ := push_some hp
                have hn3 : r3.n = r2.n := hkp.n
                have hT3 : TW r3.l := by rw [hkp.l, hl2]; exact hT
                have sc := fun {s : St} {o : Nat} (ho : s.objs[o]? = some (encRc (.int .i64 r3.n) r3)) => stm_j (labels := ls) hs hg3 hT3 (by rw [hn3]; exact hn2) ho
                rw [hn3] at sc
                have hns := (stmts_n j).2.2.1 _ _ _ hs
                refine CL.useW (@sc _ 0 (by with_unfolding_all rfl)) Ok.out ?_
                cases hgo : sv.2.good
                · rw [cN_f hgo]
                  cases j with
                  | zero => simp only [Rd.rowsL] at h; cases h
                  | succ j =>
                    simp only [Rd.rowsL, hgo, Bool.false_eq_true, ↓reduceIte] at h
                    cases h
                    simp only [Sm.nums, cN_f hgo] at hQ
                    repeat' (first
 | simp only [go_sem, hlt, hget, hpu, hinc, Int.reduceLE, ↓reduceIte, reduceCtorEq, Nat.reduceEqDiff, Nat.reduceLeDiff, Nat.reduceAdd, Nat.reduceMul, Nat.reduceSub, Nat.reduceLT, stD, hgo, Sm.nums_len]
 | (with_reducible refine CU (Pok_s (by with_unfolding_all rfl)) ?_)
 | (with_reducible refine SemL.onceW ?_)
 | (with_reducible first | refine CB_ofT (by assumption) fun hc => ?_ | refine CB_ofF (by assumption) fun hc => ?_ | refine CB_split (fun hc => ?_) fun hc => ?_) <;> (try simp only [hc, bs, ↓reduceIte] at h) <;> (try simp only [hc])
 | ((with_reducible first | refine leafR hQ ?_ | refine leafN hQ ?_); (try cases h); simp only [resL, oneD, Option.some.injEq, exists_eq_left', go_sem, hlt, hget, hpu, hinc, Int.reduceLE, ↓reduceIte, reduceCtorEq, Nat.reduceEqDiff, Nat.reduceLeDiff, Nat.reduceAdd, Nat.reduceMul, Nat.reduceSub, Nat.reduceLT, stD, hgo, Sm.nums_len]; repeat' (first | exact Ok.out | with_reducible refine And.intro ?_ ?_ | (simp; done)))
 | (cases h; replace h := hr; clear hr; (try simp only [bs, ↓reduceIte] at h))
 | (cases h; done))
                · rw [cN_t hgo]
                  have hnum2 : (Sm.nums true r.n (out ++ [{ sv.1 with labels := ls }])).2 = sv.2.n := by
                    rw [Sm.nums_app, Sm.num_labels]; dsimp only; rw [hnum, ← hn3]; exact hns.n hgo
                  repeat' (first
 | simp only [go_sem, hlt, hget, hpu, hinc, Int.reduceLE, ↓reduceIte, reduceCtorEq, Nat.reduceEqDiff, Nat.reduceLeDiff, Nat.reduceAdd, Nat.reduceMul, Nat.reduceSub, Nat.reduceLT, stD, hgo, Sm.nums_len]
 | (with_reducible first | refine CB_ofT (by assumption) fun hc => ?_ | refine CB_ofF (by assumption) fun hc => ?_ | refine CB_split (fun hc => ?_) fun hc => ?_) <;> (try simp only [hc, bs, ↓reduceIte] at h) <;> (try simp only [hc])
 | ((with_reducible first | refine leafR hQ ?_ | refine leafN hQ ?_); (try cases h); simp only [resL, oneD, Option.some.injEq, exists_eq_left', go_sem, hlt, hget, hpu, hinc, Int.reduceLE, ↓reduceIte, reduceCtorEq, Nat.reduceEqDiff, Nat.reduceLeDiff, Nat.reduceAdd, Nat.reduceMul, Nat.reduceSub, Nat.reduceLT, stD, hgo, Sm.nums_len]; repeat' (first | exact Ok.out | with_reducible refine And.intro ?_ ?_ | (simp; done)))
 | (cases h; replace h := hr; clear hr; (try simp only [bs, ↓reduceIte] at h))
 | (cases h; done))
                  have hls : sv.2.l = r.l := by rw [hns.l, hkp.l]; exact hl2
                  have hle : sv.2.n ≤ 200 := hns.le hgo (by rw [hn3]; exact hn2)
                  rw [hn3] at hns
                  refine SemL.re _ _ 1 1 (by rw [hB]; exact Nat.le_of_ble_eq_true rfl) (by rw [hB]; exact Nat.le_of_ble_eq_true rfl) ?_ ?_ (IH (j, _, _, out.length + 1) ⟨h, by simp, by dsimp only; omega, hgo, hls, hle, hnum2⟩ (Nat.lt_succ_self _))
                  · (simp only [go_sem, hlt, hget, hpu, hinc, Int.reduceLE, ↓reduceIte, reduceCtorEq, Nat.reduceEqDiff, Nat.reduceLeDiff, Nat.reduceAdd, Nat.reduceMul, Nat.reduceSub, Nat.reduceLT, stD, hgo, hnum, hn3, Sm.nums_app, List.map_append, List.map_cons, List.map_nil]; repeat' (first | exact Ok.out | with_reducible refine And.intro ?_ ?_))
                  · (simp only [go_sem, hlt, hget, hpu, hinc, Int.reduceLE, ↓reduceIte, reduceCtorEq, Nat.reduceEqDiff, Nat.reduceLeDiff, Nat.reduceAdd, Nat.reduceMul, Nat.reduceSub, Nat.reduceLT, stD, hgo, hnum, hn3, Sm.nums_app, List.map_append, List.map_cons, List.map_nil]; repeat' (first | exact Ok.out | with_reducible refine And.intro ?_ ?_))
          · simp only [hcu, ↓reduceIte] at h
            rw [Option.bind_eq_some_iff] at h
            obtain ⟨ls2, hp, h⟩ := h
            obtain ⟨hpu, rfl⟩ := push_some hp
            simp only [Bool.and_eq_true] at hcu
            have en : r3.name true = some (t.text, { r3 with i := r3.i + 1 }) := by
              have e : (t.kind != 1) = false := by simpa using hk1
              simp only [Rd.name, ht, Option.bind_some, hg3, e, Bool.not_true, Bool.or_self, Bool.false_eq_true, ↓reduceIte]
            have nm := fun {z : D} [Cell z] {s : St} {o : Nat} (ho : s.objs[o]? = some (encRc z r3)) => Pname_s (room := true) (full := false) en rfl ho
            have hw2 : IntKind.wrap .i64 (((r3.i + 1 : Nat) : Int) + 1) = ((r3.i + 2 : Nat) : Int) := wrap_inc hltq
            repeat' (first
 | simp only [go_sem, hlt, hget, hpu, hinc, Int.reduceLE, ↓reduceIte, reduceCtorEq, Nat.reduceEqDiff, Nat.reduceLeDiff, Nat.reduceAdd, Nat.reduceMul, Nat.reduceSub, Nat.reduceLT, hk1, hgetu, hcu.1, hcu.2, hw2]
 | (with_reducible refine CU (Pok_s (by with_unfolding_all rfl)) ?_)
 | (with_reducible refine CU (nm (by with_unfolding_all rfl)) ?_)
 | (with_reducible first | refine CB_ofT (by assumption) fun hc => ?_ | refine CB_ofF (by assumption) fun hc => ?_ | refine CB_split (fun hc => ?_) fun hc => ?_) <;> (try simp only [hc, bs, ↓reduceIte] at h) <;> (try simp only [hc])
 | ((with_reducible first | refine leafR hQ ?_ | refine leafN hQ ?_); (try cases h); simp only [resL, oneD, Option.some.injEq, exists_eq_left', go_sem, hlt, hget, hpu, hinc, Int.reduceLE, ↓reduceIte, reduceCtorEq, Nat.reduceEqDiff, Nat.reduceLeDiff, Nat.reduceAdd, Nat.reduceMul, Nat.reduceSub, Nat.reduceLT, hk1, hgetu, hcu.1, hcu.2, hw2]; repeat' (first | exact Ok.out | with_reducible refine And.intro ?_ ?_ | (simp; done)))
 | (cases h; replace h := hr; clear hr; (try simp only [bs, ↓reduceIte] at h))
 | (cases h; done))
            refine SemL.re _ _ 1 2 (by rw [hB]; exact Nat.le_of_ble_eq_true rfl) (by rw [hB]; exact Nat.le_of_ble_eq_true rfl) ?_ ?_ (IHl (j2, _, { r3 with i := r3.i + 2 }, ls.length + 1) ⟨h, by simp, hkp.i _, hg3⟩ (Nat.lt_succ_self _))
            · (simp only [go_sem, hlt, hget, hpu, hinc, Int.reduceLE, ↓reduceIte, reduceCtorEq, Nat.reduceEqDiff, Nat.reduceLeDiff, Nat.reduceAdd, Nat.reduceMul, Nat.reduceSub, Nat.reduceLT, hw2, List.map_append, List.map_cons, List.map_nil]; repeat' (first | exact Ok.out | with_reducible refine And.intro ?_ ?_))
            · (simp only [go_sem, hlt, hget, hpu, hinc, Int.reduceLE, ↓reduceIte, reduceCtorEq, Nat.reduceEqDiff, Nat.reduceLeDiff, Nat.reduceAdd, Nat.reduceMul, Nat.reduceSub, Nat.reduceLT, hw2, List.map_append, List.map_cons, List.map_nil]; repeat' (first | exact Ok.out | with_reducible refine And.intro ?_ ?_))

end Go.Abs
