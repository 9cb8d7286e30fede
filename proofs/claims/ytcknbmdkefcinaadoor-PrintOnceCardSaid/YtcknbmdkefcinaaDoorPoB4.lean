/-
  What is proved here: part 4 of the road to the claim (MirNum, MayLaw2, MayLaw3, Sim, Sim2, Sim3, Sim4, MayLaw4, Bld, Pr2, Pr3, Own, MayEq2, Pr4, Ps1, Ps2, PrMay, Pr5, Pr6, Pr7, Ps3, Ps4, Ps5, Pr8).
  No conditions.
-/
import Derived.Test.YtcknbmdkefcinaaDoorPoB3

set_option linter.unusedSimpArgs false
set_option linter.unusedVariables false

/-! MirNum -/

namespace Go.Abs

def Pt {α : Type} (o : Option α) (Q : α → Prop) : Prop := ∀ a, o = some a → Q a
theorem Pt.bind {α β : Type} {o : Option α} {f : α → Option β} {Q : α → Prop} {R : β → Prop} (h : Pt o Q) (k : ∀ a, Q a → Pt (f a) R) : Pt (o.bind f) R := by
 intro b hb
 rw [Option.bind_eq_some_iff] at hb
 obtain ⟨a, h1, h2⟩ := hb
 exact k a (h a h1) b h2
theorem Pt.any {α β : Type} {o : Option α} {f : α → Option β} {R : β → Prop} (k : ∀ a, Pt (f a) R) : Pt (o.bind f) R := by
 intro b hb
 rw [Option.bind_eq_some_iff] at hb
 obtain ⟨a, h1, h2⟩ := hb
 exact k a b h2
theorem Pt.some {α : Type} {a : α} {Q : α → Prop} (h : Q a) : Pt (some a) Q := fun b hb => by cases hb; exact h
theorem Pt.none {α : Type} {Q : α → Prop} : Pt (none : Option α) Q := fun b hb => by cases hb
theorem Pt.ite {α : Type} {c : Prop} [Decidable c] {a b : Option α} {Q : α → Prop} (h1 : c → Pt a Q) (h2 : ¬ c → Pt b Q) : Pt (if c then a else b) Q := by
 by_cases h : c
 · rw [if_pos h]; exact h1 h
 · rw [if_neg h]; exact h2 h
theorem Pt.mono {α : Type} {o : Option α} {Q R : α → Prop} (h : Pt o Q) (k : ∀ a, Q a → R a) : Pt o R := fun a ha => k a (h a ha)

structure Keep (a b : Rd) : Prop where
 l : b.l = a.l
 n : b.n = a.n
 g : b.good = true → a.good = true
theorem Keep.refl (r : Rd) : Keep r r := ⟨rfl, rfl, id⟩
theorem Keep.i {a b : Rd} (h : Keep a b) (k : Nat) : Keep a { b with i := k } := ⟨h.l, h.n, h.g⟩
theorem Keep.f {a b : Rd} (h : Keep a b) (hg : b.good = true) (c f : Int) : Keep a { b with code := c, fat := f } := ⟨h.l, h.n, fun _ => h.g hg⟩
theorem bad_k {r0 r : Rd} (h : Keep r0 r) (c : Int) : Pt (r.bad c) (Keep r0) := by
 unfold Rd.bad
 exact Pt.ite (fun hg => Pt.any fun t => Pt.some (h.f hg _ _)) (fun _ => Pt.some h)
theorem take_k {r0 r : Rd} (h : Keep r0 r) (s : Str) : Pt (r.take s) (fun p => Keep r0 p.2) := by
 unfold Rd.take
 exact Pt.ite (fun hg => Pt.some h) (fun _ => Pt.any fun b => Pt.ite (fun _ => Pt.some h) (fun _ => Pt.some (h.i _)))
theorem want_k {r0 r : Rd} (h : Keep r0 r) (s : Str) : Pt (r.want s) (Keep r0) := by
 unfold Rd.want
 exact (take_k h s).bind fun p hp => Pt.ite (fun _ => bad_k hp _) (fun _ => Pt.some hp)
theorem name_k {r0 r : Rd} (h : Keep r0 r) (room : Bool) : Pt (r.name room) (fun p => Keep r0 p.2) := by
 unfold Rd.name
 exact Pt.any fun t => Pt.ite (fun _ => (bad_k h _).bind fun r hr => Pt.some hr) (fun _ => Pt.ite (fun _ => (bad_k h _).bind fun r hr => Pt.some hr) (fun _ => Pt.some (h.i _)))

theorem expr_k {r0 : Rd} : ∀ n : Nat, (∀ r : Rd, Keep r0 r → Pt (Rd.one n r) (fun p => Keep r0 p.2)) ∧ (∀ (r : Rd) (k : Int), Keep r0 r → Pt (Rd.two n k r) (fun p => Keep r0 p.2)) ∧
   (∀ (r : Rd) (k : Int) (x : Ex), Keep r0 r → Pt (Rd.twoL n k x r) (fun p => Keep r0 p.2)) := by
 intro n
 induction n with
 | zero => exact ⟨fun r _ => by simp only [Rd.one]; exact Pt.none, fun r k _ => by simp only [Rd.two]; exact Pt.none, fun r k x _ => by simp only [Rd.twoL]; exact Pt.none⟩
 | succ n ih =>
   obtain ⟨ih1, ih2, ih3⟩ := ih
   refine ⟨fun r h => ?_, fun r k h => ?_, fun r k x h => ?_⟩
   · simp only [Rd.one]
     refine Pt.any fun t => Pt.ite (fun _ => Pt.some h) fun _ => Pt.ite (fun _ => Pt.some (h.i _)) fun _ => Pt.ite (fun _ => Pt.some (h.i _)) fun _ => ?_
     refine (take_k h _).bind fun p hp => Pt.ite (fun _ => (ih2 _ _ hp).bind fun x hx => (want_k hx _).bind fun r hr => Pt.some hr) fun _ => ?_
     refine (take_k hp _).bind fun p hp => Pt.ite (fun _ => (ih1 _ hp).bind fun x hx => Pt.some hx) fun _ => ?_
     refine (take_k hp _).bind fun p hp => Pt.ite (fun _ => (ih1 _ hp).bind fun x hx => Pt.some hx) fun _ => ?_
     exact (bad_k hp _).bind fun r hr => Pt.some hr
   · simp only [Rd.two]
     exact (ih1 _ h).bind fun x hx => ih3 _ _ _ hx
   · simp only [Rd.twoL]
     exact Pt.ite (fun _ => Pt.any fun t => Pt.ite (fun _ => Pt.some h) fun _ => (ih2 _ _ (h.i _)).bind fun y hy => ih3 _ _ _ hy) (fun _ => Pt.some h)

theorem whole_k {n : Nat} {r0 r : Rd} (h : Keep r0 r) : Pt (Rd.whole n r) (fun p => Keep r0 p.2) := by
 unfold Rd.whole
 exact Pt.any fun t => ((expr_k n).2.1 _ _ h).bind fun x hx => Pt.ite (fun hg => Pt.any fun d => Pt.ite (fun _ => Pt.some (hx.f hg _ _)) fun _ => Pt.some hx) fun _ => Pt.some hx

theorem names_k {most : Int} {r0 : Rd} : ∀ (n : Nat) (l : List Str) (r : Rd), Keep r0 r → Pt (Rd.names n l most r) (fun p => Keep r0 p.2) := by
 intro n
 induction n with
 | zero => intro l r _; simp only [Rd.names]; exact Pt.none
 | succ n ih =>
   intro l r h
   simp only [Rd.names]
   exact Pt.ite (fun _ => (name_k h _).bind fun p hp => Pt.any fun l => (take_k hp _).bind fun q hq => Pt.ite (fun _ => (want_k hq _).bind fun r hr => Pt.some hr) fun _ => ih _ _ hq) fun _ => Pt.some h

theorem labels_k {r0 : Rd} : ∀ (n : Nat) (l : List Str) (r : Rd), Keep r0 r → Pt (Rd.labels n l r) (fun p => Keep r0 p.2) := by
 intro n
 induction n with
 | zero => intro l r _; simp only [Rd.labels]; exact Pt.none
 | succ n ih =>
   intro l r h
   simp only [Rd.labels]
   exact Pt.any fun b => Pt.ite (fun _ => Pt.any fun t => Pt.any fun l => ih _ _ (h.i _)) fun _ => Pt.some h

theorem callL_k {m : Nat} {r0 : Rd} : ∀ (n : Nat) (l : List Ar) (r : Rd), Keep r0 r → Pt (Rd.callL m n l r) (fun p => Keep r0 p.2) := by
 intro n
 induction n with
 | zero => intro l r _; simp only [Rd.callL]; exact Pt.none
 | succ n ih =>
   intro l r h
   simp only [Rd.callL]
   refine Pt.ite (fun _ => (take_k h _).bind fun p hp => Pt.ite (fun _ => ?_) fun _ => ?_) fun _ => Pt.some h
   · exact (name_k hp _).bind fun x hx => Pt.any fun l => (take_k hx _).bind fun c hc => Pt.ite (fun _ => Pt.some hc) fun _ => ih _ _ hc
   · exact (whole_k hp).bind fun x hx => Pt.any fun l => (take_k hx _).bind fun c hc => Pt.ite (fun _ => Pt.some hc) fun _ => ih _ _ hc

def SmK (r0 : Rd) (p : Sm × Rd) : Prop := Keep r0 p.2 ∧ p.1.thn = [] ∧ p.1.els = []

theorem call_k {m : Nat} {name proc : Str} {r0 r : Rd} (h : Keep r0 r) : Pt (Rd.call m name proc r) (SmK r0) := by
 unfold Rd.call
 refine (want_k h _).bind fun r hr => Pt.any fun b => Pt.ite (fun _ => ?_) fun _ => ?_
 · exact (callL_k _ _ _ hr).bind fun q hq => (want_k hq _).bind fun r hr => (want_k hr _).bind fun r hr => Pt.some ⟨hr, rfl, rfl⟩
 · exact (want_k hr _).bind fun r hr => (want_k hr _).bind fun r hr => Pt.some ⟨hr, rfl, rfl⟩

theorem named_k {m : Nat} {r0 r : Rd} (h : Keep r0 r) : Pt (Rd.named m r) (SmK r0) := by
 unfold Rd.named
 refine (name_k h _).bind fun x hx => Pt.any fun b => Pt.ite (fun _ => call_k hx) fun _ => (want_k hx _).bind fun r hr => Pt.any fun b => Pt.ite (fun _ => ?_) fun _ => ?_
 · exact (name_k hr _).bind fun y hy => call_k hy
 · exact (whole_k hr).bind fun y hy => (want_k hy _).bind fun r hr => Pt.some ⟨hr, rfl, rfl⟩

theorem plain_k {m : Nat} {word : Str} {r0 r : Rd} (h : Keep r0 r) : Pt (Rd.plain m word r) (SmK r0) := by
 unfold Rd.plain
 refine Pt.ite (fun _ => Pt.some ⟨h, rfl, rfl⟩) fun _ => Pt.ite (fun _ => Pt.some ⟨h, rfl, rfl⟩) fun _ => Pt.ite (fun _ => Pt.any fun b => Pt.ite (fun _ => (whole_k h).bind fun x hx => Pt.some ⟨hx, rfl, rfl⟩) fun _ => Pt.some ⟨h, rfl, rfl⟩) fun _ => ?_
 refine Pt.ite (fun _ => (name_k h _).bind fun x hx => Pt.some ⟨hx, rfl, rfl⟩) fun _ => Pt.ite (fun _ => (name_k h _).bind fun x hx => Pt.some ⟨hx, rfl, rfl⟩) fun _ => Pt.ite (fun _ => (whole_k h).bind fun x hx => Pt.some ⟨hx, rfl, rfl⟩) fun _ => Pt.some ⟨h, rfl, rfl⟩

theorem head_k {m : Nat} {r0 r : Rd} (h : Keep r0 r) : Pt (Rd.head m r) (fun p => Keep r0 p.2) := by
 unfold Rd.head
 exact (want_k h _).bind fun r hr => (whole_k hr).bind fun x hx => (want_k hx _).bind fun r hr => Pt.some hr

/-! ### Numbering -/

theorem Sm.nums_app (b : Bool) (s : Sm) : ∀ (l : List Sm) (n : Nat), Sm.nums b n (l ++ [s]) = ((Sm.nums b n l).1 ++ [(Sm.num b (Sm.nums b n l).2 s).1], (Sm.num b (Sm.nums b n l).2 s).2)
 | [], n => by simp only [List.nil_append, Sm.nums]
 | x :: l, n => by simp only [List.cons_append, Sm.nums, Sm.nums_app b s l]
theorem Sm.num_labels (b : Bool) (n : Nat) (l : List Str) : ∀ s : Sm, Sm.num b n { s with labels := l } = ({ (Sm.num b n s).1 with labels := l }, (Sm.num b n s).2)
 | ⟨_, _, _, _, _, _, _, _, _, _⟩ => by simp only [Sm.num]
theorem Sm.num_flat (b : Bool) (n : Nat) : ∀ s : Sm, s.thn = [] → s.els = [] → (Sm.num b n s).2 = n + 1
 | ⟨_, _, _, _, _, _, _, _, _, _⟩, h1, h2 => by dsimp only at h1 h2; subst h1; subst h2; simp only [Sm.num, Sm.nums]

structure Num (r : Rd) (k : Nat) (r' : Rd) : Prop where
 l : r'.l = r.l
 g : r'.good = true → r.good = true
 n : r'.good = true → k = r'.n
 le : r'.good = true → r.n ≤ 200 → r'.n ≤ 200

theorem bad_b (r : Rd) {c : Int} (hc : c ≠ 0) : Pt (r.bad c) (fun r' => r'.l = r.l ∧ r'.good = false) := by
 unfold Rd.bad
 refine Pt.ite (fun hg => Pt.any fun t => Pt.some ⟨rfl, ?_⟩) (fun hg => Pt.some ⟨rfl, by simpa using hg⟩)
 simpa using hc
theorem Num.bad {r r' : Rd} {k : Nat} (h : r'.l = r.l ∧ r'.good = false) : Num r k r' := by
 have e : ¬ r'.good = true := by rw [h.2]; decide
 exact ⟨h.1, fun g => (e g).elim, fun g => (e g).elim, fun g => (e g).elim⟩
theorem Num.keep {r a b : Rd} {k : Nat} (h : Num r k a) (e : Keep a b) : Num r k b :=
 ⟨e.l.trans h.l, fun g => h.g (e.g g), fun g => (h.n (e.g g)).trans e.n.symm, fun g hn => by rw [e.n]; exact h.le (e.g g) hn⟩
theorem Num.trans {r a b : Rd} {k j : Nat} (h : Num r k a) (e : Num a j b) : Num r j b :=
 ⟨e.l.trans h.l, fun g => h.g (e.g g), e.n, fun g hn => e.le g (h.le (e.g g) hn)⟩
theorem Num.refl (r : Rd) : Num r r.n r := ⟨rfl, id, fun _ => rfl, fun _ h => h⟩

theorem stmts_n {m : Nat} : ∀ n : Nat,
   (∀ (nest : Int) (body : Bool) (r : Rd), Pt (Rd.rows m n nest body r) fun p => Num r (Sm.nums true r.n p.1.1).2 p.2) ∧
   (∀ (nest : Int) (body : Bool) (out : List Sm) (r0 r : Rd), Num r0 (Sm.nums true r0.n out).2 r → Pt (Rd.rowsL m n nest body out r) fun p => Num r0 (Sm.nums true r0.n p.1.1).2 p.2) ∧
   (∀ (nest : Int) (r : Rd), Pt (Rd.stmt m n nest r) fun p => Num r (Sm.num true r.n p.1).2 p.2) ∧
   (∀ (nest : Int) (r : Rd), Pt (Rd.block m n nest r) fun p => Num r (Sm.nums true r.n p.1).2 p.2) ∧
   (∀ (nest : Int) (r : Rd), Pt (Rd.choice m n nest r) fun p => Num r (Sm.nums true (Sm.nums true r.n p.1.thn).2 p.1.els).2 p.2) := by
 intro n
 induction n with
 | zero =>
   refine ⟨fun _ _ r => ?_, fun _ _ _ _ r _ => ?_, fun _ r => ?_, fun _ r => ?_, fun _ r => ?_⟩
   · simp only [Rd.rows]; exact Pt.none
   · simp only [Rd.rowsL]; exact Pt.none
   · simp only [Rd.stmt]; exact Pt.none
   · simp only [Rd.block]; exact Pt.none
   · simp only [Rd.choice]; exact Pt.none
 | succ n ih =>
   obtain ⟨i1, i2, i3, i4, i5⟩ := ih
   refine ⟨fun nest body r => ?_, fun nest body out r0 r h => ?_, fun nest r => ?_, fun nest r => ?_, fun nest r => ?_⟩
   · simp only [Rd.rows]
     exact i2 _ _ _ _ _ ⟨rfl, id, fun _ => rfl, fun _ h => h⟩
   · simp only [Rd.rowsL]
     refine Pt.ite (fun hg => ?_) (fun hg => ?_)
     · refine (labels_k m [] r (Keep.refl r)).bind fun l hl => Pt.any fun b => Pt.ite (fun _ => Pt.some (h.keep (hl.i _))) fun _ => ?_
       refine (i3 nest l.2).bind fun s hs => ?_
       refine Pt.bind (Q := fun l' => l' = out ++ [{ s.1 with labels := l.1 }]) (fun a ha => (push_some ha).2) fun l' e => ?_
       subst e
       refine i2 _ _ _ _ _ ?_
       rw [Sm.nums_app, Sm.num_labels]
       have h2 := h.keep hl
       refine ⟨hs.l.trans h2.l, fun g => h2.g (hs.g g), fun g => ?_, fun g hn => hs.le g (h2.le (hs.g g) hn)⟩
       rw [h2.n (hs.g g)]
       exact hs.n g
     · have hg : r.good = false := by simpa using hg
       exact Pt.some (Num.bad ⟨h.l, hg⟩)
   · simp only [Rd.stmt]
     refine Pt.any fun b => Pt.ite (fun _ => (bad_b r (by decide)).bind fun r' hr => Pt.some (Num.bad hr)) fun _ => ?_
     refine Pt.bind (Q := fun k => k = r.n + 1) (fun a ha => (inc_some ha).2) fun k e => ?_
     subst e
     refine Pt.ite (fun _ => (bad_b _ (by decide)).bind fun r' hr => Pt.some (Num.bad hr)) fun hl => ?_
     have hk : r.n + 1 ≤ 200 := by
       simp only [Bool.or_eq_true, decide_eq_true_eq, not_or] at hl
       omega
     have h0 : ∀ j, Num r (r.n + 1) { r with i := j, n := r.n + 1 } := fun j => ⟨rfl, id, fun _ => rfl, fun _ _ => hk⟩
     refine Pt.any fun t => Pt.ite (fun _ => ?_) fun _ => Pt.ite (fun _ => ?_) fun _ => Pt.ite (fun _ => ?_) fun _ => ?_
     · refine (named_k (Keep.refl _)).mono fun p hp => ?_
       rw [Sm.num_flat true _ _ hp.2.1 hp.2.2]
       exact (h0 r.i).keep hp.1
     · refine (i5 nest _).mono fun p hp => ?_
       obtain ⟨⟨_, _, _, _, _, _, _, _, _, _⟩, r'⟩ := p
       simp only [Sm.num]
       exact (h0 _).trans hp
     · refine (head_k (Keep.refl _)).bind fun x hx => (i4 nest x.2).bind fun b hb => Pt.some ?_
       simp only [Sm.num, Sm.nums]
       have e := hx.n
       dsimp only at e
       rw [← e]
       exact ((h0 _).keep hx).trans hb
     · refine (plain_k (Keep.refl _)).bind fun s hs => (want_k hs.1 _).bind fun r' hr => Pt.some ?_
       rw [Sm.num_flat true _ _ hs.2.1 hs.2.2]
       exact (h0 _).keep hr
   · simp only [Rd.block]
     refine (want_k (Keep.refl r) _).bind fun r1 hr => Pt.any fun k => (i1 k false r1).bind fun p hp => Pt.some ?_
     rw [← hr.n]
     exact ((Num.refl r).keep hr).trans hp
   · simp only [Rd.choice]
     refine (head_k (Keep.refl r)).bind fun x hx => (i4 nest x.2).bind fun t ht => (take_k (Keep.refl t.2) _).bind fun q hq => Pt.ite (fun _ => ?_) fun _ => ?_
     · refine (i4 nest q.2).bind fun e he => Pt.some ?_
       dsimp only
       have h1 := (((Num.refl r).keep hx).trans ht).keep hq
       have h2 := h1.trans he
       refine ⟨h2.l, h2.g, fun g => ?_, h2.le⟩
       have e1 := he.n g
       have e2 := h1.n (he.g g)
       rw [hx.n] at e2
       rw [e2]
       exact e1
     · refine Pt.some ?_
       dsimp only [Sm.nums]
       rw [← hx.n]
       exact (((Num.refl r).keep hx).trans ht).keep hq

end Go.Abs

/-! MayLaw2 -/

namespace Go.Abs

def SmL (s : Sm) : Prop := ∀ L, mayNames L = true → ({ s with labels := L } : Sm).one = true

theorem ex0_none : ex0.none = true := rfl
theorem isName_nb {s : Str} (h : isName s = true) : (s == []) = false := by cases s; simp [isName] at h; rfl

theorem one_call {id : Int} {name proc : Str} {args : List Ar} (hp : isName proc = true) (hn : name = [] ∨ isName name = true) (ha : Ar.mays args = true) : SmL ⟨id, 4, [], name, proc, ex0, false, args, [], []⟩ := by
 intro L hL
 rcases hn with rfl | hn
 · simp [Sm.one, Sm.hasX, Sm.hasName, Sm.isCall, hL, ex0_none, isName_nb hp, hp, ha]
 · simp [Sm.one, Sm.hasX, Sm.hasName, Sm.isCall, hL, ex0_none, isName_nb hp, hp, ha, hn]
theorem one_assign {id : Int} {name : Str} {x : Ex} (hn : isName name = true) (hx : x.may = true) : SmL ⟨id, 1, [], name, [], x, false, [], [], []⟩ := by
 intro L hL
 simp [Sm.one, Sm.hasX, Sm.hasName, Sm.isCall, hL, hn, hx, Ar.mays]
theorem one_nm {id k : Int} (hk : k = 2 ∨ k = 10) {name : Str} (hn : isName name = true) : SmL ⟨id, k, [], name, [], ex0, false, [], [], []⟩ := by
 intro L hL
 rcases hk with rfl | rfl <;> simp [Sm.one, Sm.hasX, Sm.hasName, Sm.isCall, hL, hn, ex0_none, Ar.mays]
theorem one_print {id : Int} {x : Ex} (hx : x.may = true) : SmL ⟨id, 3, [], [], [], x, false, [], [], []⟩ := by
 intro L hL
 simp [Sm.one, Sm.hasX, Sm.hasName, Sm.isCall, hL, hx, Ar.mays]
theorem one_bare {id k : Int} (hk : k = 7 ∨ k = 8 ∨ k = 9) : SmL ⟨id, k, [], [], [], ex0, false, [], [], []⟩ := by
 intro L hL
 rcases hk with rfl | rfl | rfl <;> simp [Sm.one, Sm.hasX, Sm.hasName, Sm.isCall, hL, ex0_none, Ar.mays]
theorem one_return {id : Int} {x : Ex} (hx : x.may = true) : SmL ⟨id, 9, [], [], [], x, true, [], [], []⟩ := by
 intro L hL
 simp [Sm.one, Sm.hasX, Sm.hasName, Sm.isCall, hL, hx, Ar.mays]
theorem one_if {id : Int} {x : Ex} {thn els : List Sm} (hx : x.may = true) : SmL ⟨id, 5, [], [], [], x, false, [], thn, els⟩ := by
 intro L hL
 simp [Sm.one, Sm.hasX, Sm.hasName, Sm.isCall, hL, hx, Ar.mays]
theorem one_while {id : Int} {x : Ex} {thn : List Sm} (hx : x.may = true) : SmL ⟨id, 6, [], [], [], x, false, [], thn, []⟩ := by
 intro L hL
 simp [Sm.one, Sm.hasX, Sm.hasName, Sm.isCall, hL, hx, Ar.mays]

theorem call_gk {m : Nat} {name proc : Str} {r : Rd} (hT : TKs r.l) (hn : r.good = true → isName proc = true ∧ (name = [] ∨ isName name = true)) : GK r (Rd.call m name proc r) fun s => SmL s ∧ s.thn = [] ∧ s.els = [] := by
 unfold Rd.call
 refine (want_gk r _).bind fun q e g => GK.ask fun b _ => GK.ite (fun _ => ?_) fun _ => ?_
 · refine (callL_gk _ _ q (e ▸ hT) fun _ => rfl).bind fun a s e2 g2 => ?_
   refine (want_gk s _).bind fun u e3 g3 => (want_gk u _).bind fun v e4 g4 => GK.ret fun gv => ?_
   obtain ⟨g5, h5⟩ := g2 (g3 (g4 gv))
   obtain ⟨h6, h7⟩ := hn (g g5)
   exact ⟨one_call h6 h7 h5, rfl, rfl⟩
 · refine (want_gk q _).bind fun u e3 g3 => (want_gk u _).bind fun v e4 g4 => GK.ret fun gv => ?_
   obtain ⟨h6, h7⟩ := hn (g (g3 (g4 gv)))
   exact ⟨one_call h6 h7 rfl, rfl, rfl⟩

theorem named_gk {m : Nat} {r : Rd} (hT : TKs r.l) : GK r (Rd.named m r) fun s => SmL s ∧ s.thn = [] ∧ s.els = [] := by
 unfold Rd.named
 refine (name_gk hT _).bind fun a q e g => GK.ask fun b _ => GK.ite (fun _ => ?_) fun _ => ?_
 · exact call_gk (by rw [e]; exact hT) fun gq => ⟨(g gq).2.1, .inl rfl⟩
 refine (want_gk q _).bind fun u e2 g2 => GK.ask fun b _ => GK.ite (fun _ => ?_) fun _ => ?_
 · refine (name_gk (by rw [e2, e]; exact hT) _).bind fun c s e3 g3 => call_gk (by rw [e3, e2, e]; exact hT) fun gs => ?_
   obtain ⟨g4, h4, _⟩ := g3 gs
   exact ⟨h4, .inr (g (g2 g4)).2.1⟩
 · refine (whole_gk (by rw [e2, e]; exact hT)).bind fun c s e3 g3 => (want_gk s _).bind fun v e4 g4 => GK.ret fun gv => ?_
   obtain ⟨g5, h5⟩ := g3 (g4 gv)
   exact ⟨one_assign (g (g2 g5)).2.1 h5, rfl, rfl⟩

def simpW (s : Str) : Bool := s == [98, 114, 101, 97, 107] || s == [99, 111, 110, 116, 105, 110, 117, 101] || s == [114, 101, 116, 117, 114, 110] || s == [103, 111, 116, 111] || s == [114, 101, 97, 100] || s == [112, 114, 105, 110, 116]
theorem plain_gk {m : Nat} {word : Str} (hw : simpW word = true) {r : Rd} (hT : TKs r.l) : GK r (Rd.plain m word r) fun s => SmL s ∧ s.thn = [] ∧ s.els = [] := by
 unfold Rd.plain
 refine GK.ite (fun _ => GK.ret fun _ => ⟨one_bare (.inl rfl), rfl, rfl⟩) fun h1 => GK.ite (fun _ => GK.ret fun _ => ⟨one_bare (.inr (.inl rfl)), rfl, rfl⟩) fun h2 => GK.ite (fun _ => ?_) fun h3 => ?_
 · refine GK.ask fun b _ => GK.ite (fun _ => ?_) fun _ => GK.ret fun _ => ⟨one_bare (.inr (.inr rfl)), rfl, rfl⟩
   exact (whole_gk hT).bind fun a s e g => GK.ret fun gs => ⟨one_return (g gs).2, rfl, rfl⟩
 refine GK.ite (fun _ => (name_gk hT _).bind fun a s e g => GK.ret fun gs => ⟨one_nm (.inr rfl) (g gs).2.1, rfl, rfl⟩) fun h4 => GK.ite (fun _ => (name_gk hT _).bind fun a s e g => GK.ret fun gs => ⟨one_nm (.inl rfl) (g gs).2.1, rfl, rfl⟩) fun h5 => GK.ite (fun _ => ?_) fun h6 => ?_
 · exact (whole_gk hT).bind fun a s e g => GK.ret fun gs => ⟨one_print (g gs).2, rfl, rfl⟩
 · exfalso
   simp only [simpW, Bool.or_eq_true] at hw
   rcases hw with ((((hw | hw) | hw) | hw) | hw) | hw
   · exact h1 hw
   · exact h2 hw
   · exact h3 hw
   · exact h4 hw
   · exact h5 hw
   · exact h6 hw

theorem head_gk {m : Nat} {r : Rd} (hT : TKs r.l) : GK r (Rd.head m r) fun x => x.may = true := by
 unfold Rd.head
 refine (want_gk r _).bind fun q e g => (whole_gk (by rw [e]; exact hT)).bind fun x s e2 g2 => (want_gk s _).bind fun u e3 g3 => GK.ret fun gu => (g2 (g3 gu)).2

mutual
def Sm.okM (d : Int) : Sm → Prop
 | ⟨id, kind, labels, name, proc, x, has, args, thn, els⟩ => (⟨id, kind, labels, name, proc, x, has, args, thn, els⟩ : Sm).one = true ∧ d ≤ 12 ∧ Sm.oksM (d + 1) thn ∧ Sm.oksM (d + 1) els
def Sm.oksM (d : Int) : List Sm → Prop
 | [] => True
 | s :: l => s.okM d ∧ Sm.oksM d l
end
theorem Sm.okM_eq (d : Int) (s : Sm) : s.okM d ↔ s.one = true ∧ d ≤ 12 ∧ Sm.oksM (d + 1) s.thn ∧ Sm.oksM (d + 1) s.els := by cases s; simp only [Sm.okM]
theorem Sm.oksM_app {d : Int} {s : Sm} (h : s.okM d) : ∀ {l : List Sm}, Sm.oksM d l → Sm.oksM d (l ++ [s])
 | [], _ => ⟨h, trivial⟩
 | t :: l, hl => ⟨hl.1, Sm.oksM_app h hl.2⟩
def SmOk (d : Int) (s : Sm) : Prop := ∀ L, mayNames L = true → ({ s with labels := L } : Sm).okM d
theorem SmOk.of {d : Int} {s : Sm} (h : SmL s) (hd : d ≤ 12) (h1 : Sm.oksM (d + 1) s.thn) (h2 : Sm.oksM (d + 1) s.els) : SmOk d s := fun L hL => (Sm.okM_eq _ _).2 ⟨h L hL, hd, h1, h2⟩

theorem stmts_gk {m : Nat} : ∀ n : Nat,
   (∀ (nest : Int) (body : Bool) (r : Rd), TKs r.l → GK r (Rd.rows m n nest body r) fun p => Sm.oksM nest p.1 ∧ mayNames p.2 = true) ∧
   (∀ (nest : Int) (body : Bool) (out : List Sm) (r : Rd), TKs r.l → (r.good = true → Sm.oksM nest out) → GK r (Rd.rowsL m n nest body out r) fun p => Sm.oksM nest p.1 ∧ mayNames p.2 = true) ∧
   (∀ (nest : Int) (r : Rd), TKs r.l → GK r (Rd.stmt m n nest r) fun s => SmOk nest s) ∧
   (∀ (nest : Int) (r : Rd), TKs r.l → GK r (Rd.block m n nest r) fun l => Sm.oksM (nest + 1) l) ∧
   (∀ (nest : Int) (r : Rd), nest ≤ 12 → TKs r.l → GK r (Rd.choice m n nest r) fun s => SmOk nest s) := by
 intro n
 induction n with
 | zero =>
   refine ⟨fun _ _ r _ => ?_, fun _ _ _ r _ _ => ?_, fun _ r _ => ?_, fun _ r _ => ?_, fun _ r _ _ => ?_⟩
   · simp only [Rd.rows]; exact GK.non
   · simp only [Rd.rowsL]; exact GK.non
   · simp only [Rd.stmt]; exact GK.non
   · simp only [Rd.block]; exact GK.non
   · simp only [Rd.choice]; exact GK.non
 | succ n ih =>
   obtain ⟨i1, i2, i3, i4, i5⟩ := ih
   refine ⟨fun nest body r hT => ?_, fun nest body out r hT ho => ?_, fun nest r hT => ?_, fun nest r hT => ?_, fun nest r h12 hT => ?_⟩
   · simp only [Rd.rows]
     exact i2 _ _ _ _ hT fun _ => trivial
   · simp only [Rd.rowsL]
     refine GK.ite (fun _ => ?_) fun hg => GK.ret fun g => absurd g hg
     refine (labels_gk m [] r hT rfl).bind fun ls q e g => GK.ask fun b _ => GK.ite (fun _ => GK.on _ fun gq => ⟨ho (g gq).1, (g gq).2⟩) fun _ => ?_
     refine (i3 nest q (by rw [e]; exact hT)).bind fun s u e2 g2 => GK.ask fun o2 h2 => i2 _ _ _ u (by rw [e2, e]; exact hT) fun gu => ?_
     obtain ⟨g3, h3⟩ := g2 gu
     obtain ⟨g4, h4⟩ := g g3
     rw [(push_some h2).2]
     exact Sm.oksM_app (h3 _ h4) (ho g4)
   · simp only [Rd.stmt]
     refine GK.ask fun b hb => GK.ite (fun _ => bad_gk (by decide) _ _) fun hbt => GK.ask fun k hk => ?_
     refine GK.from (s := { r with n := k }) ?_ rfl rfl
     refine GK.ite (fun _ => bad_gk (by decide) _ _) fun hl => ?_
     have h12 : nest ≤ 12 := by
       simp only [Bool.or_eq_true, decide_eq_true_eq, not_or] at hl; omega
     refine GK.ask fun t ht => GK.ite (fun _ => (named_gk (r := { r with n := k }) hT).mono fun s hs => SmOk.of hs.1 h12 (by rw [hs.2.1]; trivial) (by rw [hs.2.2]; trivial)) fun hk1 => ?_
     refine GK.from (s := { r with n := k, i := r.i + 1 }) ?_ rfl rfl
     refine GK.ite (fun _ => i5 _ _ h12 hT) fun hif => GK.ite (fun _ => ?_) fun hwh => ?_
     · refine GK.bind (head_gk (r := { r with n := k, i := r.i + 1 }) hT) fun x s e g => ?_
       refine GK.bind (i4 nest s (by rw [e]; exact hT)) fun bl u e2 g2 => GK.ret fun gu => ?_
       obtain ⟨g3, h3⟩ := g2 gu
       exact SmOk.of (one_while (g g3).2) h12 h3 trivial
     · have hw : simpW t.text = true := by
         have ht' : r.peek = some t := ht
         unfold Rd.begins at hb
         rw [ht', Option.bind_some] at hb
         have e1 : (t.kind == 1) = false := by simpa using hk1
         have e2 : (t.text == [105, 102]) = false := by simpa using hif
         have e3 : (t.text == [119, 104, 105, 108, 101]) = false := by simpa using hwh
         have hbt' : b = true := by simpa using hbt
         rw [hbt'] at hb
         simp only [e1, e2, e3, Bool.false_eq_true, ↓reduceIte, Bool.false_or, Option.some.injEq] at hb
         split at hb
         · cases hb
         · simpa only [simpW] using hb
       refine GK.bind (plain_gk (r := { r with n := k, i := r.i + 1 }) hw hT) fun s q e g => ?_
       refine GKR.bind (want_gk q _) fun u e2 g2 => GK.ret fun gu => ?_
       obtain ⟨g3, h3, h4, h5⟩ := g (g2 gu)
       exact SmOk.of h3 h12 (by rw [h4]; trivial) (by rw [h5]; trivial)
   · simp only [Rd.block]
     refine (want_gk r _).bind fun q e g => GK.ask fun k hk => ?_
     have hk := (incI_some hk).2
     subst hk
     exact (i1 _ false q (by rw [e]; exact hT)).bind fun p u e2 g2 => GK.ret fun gu => (g2 gu).2.1
   · simp only [Rd.choice]
     refine (head_gk hT).bind fun x q e g => (i4 nest q (by rw [e]; exact hT)).bind fun th s e2 g2 => (take_gk s _).bind fun c u e3 g3 => GK.ite (fun _ => ?_) fun _ => GK.ret fun gu => ?_
     · refine (i4 nest u (by rw [e3, e2, e]; exact hT)).bind fun el v e4 g4 => GK.ret fun gv => ?_
       obtain ⟨g5, h5⟩ := g4 gv
       obtain ⟨g6, h6⟩ := g2 (g3 g5).1
       exact SmOk.of (one_if (g g6).2) h12 h6 h5
     · obtain ⟨g6, h6⟩ := g2 (g3 gu).1
       exact SmOk.of (one_if (g g6).2) h12 h6 trivial

/-! ### Procedures, programs -/

theorem pmays_app {a : Pm} (h : isName a.name = true) : ∀ {l : List Pm}, Pm.mays l = true → Pm.mays (l ++ [a]) = true
 | [], _ => by simp [Pm.mays, h]
 | s :: l, hl => by
   simp only [Pm.mays, List.cons_append] at hl ⊢
   split at hl
   · cases hl
   · rename_i hs
     rw [if_neg hs]
     exact pmays_app h hl

theorem params_gk : ∀ (n : Nat) (l : List Pm) (r : Rd), TKs r.l → (r.good = true → Pm.mays l = true ∧ l.length ≤ 8) → GK r (Rd.params n l r) fun l => Pm.mays l = true ∧ l.length ≤ 8 := by
 intro n
 induction n with
 | zero => intro l r _ _; simp only [Rd.params]; exact GK.non
 | succ n ih =>
   intro l r hT h
   simp only [Rd.params]
   refine GK.ite (fun _ => (take_gk r _).bind fun b q e g => (name_gk (by rw [e]; exact hT) _).bind fun s q2 e2 g2 => GK.ask fun l2 hl2 => (take_gk q2 _).bind fun c q3 e3 g3 => ?_) fun _ => GK.ret h
   have h3 : q3.good = true → Pm.mays l2 = true ∧ l2.length ≤ 8 := fun gg => by
     rw [(push_some hl2).2]
     obtain ⟨g4, h5, h6⟩ := g2 (g3 gg).1
     simp only [decide_eq_true_eq] at h6
     exact ⟨pmays_app h5 (h (g g4).1).1, by simp; omega⟩
   exact GK.ite (fun _ => GK.ret h3) fun _ => ih _ _ (by rw [e3, e2, e]; exact hT) h3

theorem vars_gk {m : Nat} : ∀ (n : Nat) (l : List Str) (r : Rd), TKs r.l → (r.good = true → mayNames l = true ∧ (l.length : Int) ≤ 16) → GK r (Rd.vars m n l r) fun l => mayNames l = true ∧ (l.length : Int) ≤ 16 := by
 intro n
 induction n with
 | zero => intro l r _ _; simp only [Rd.vars]; exact GK.non
 | succ n ih =>
   intro l r hT h
   simp only [Rd.vars]
   refine (take_gk r _).bind fun b q e g => GK.ite (fun _ => ?_) fun _ => GK.ret fun gq => h (g gq).1
   exact (names_gk _ _ _ (by rw [e]; exact hT) fun gq => h (g gq).1).bind fun l2 q2 e2 g2 => ih _ _ (by rw [e2, e]; exact hT) fun gg => (g2 gg).2
theorem globals_gk {m : Nat} : ∀ (n : Nat) (l : List Str) (r : Rd), TKs r.l → (r.good = true → mayNames l = true ∧ (l.length : Int) ≤ 16) → GK r (Rd.globals m n l r) fun l => mayNames l = true ∧ (l.length : Int) ≤ 16 := by
 intro n
 induction n with
 | zero => intro l r _ _; simp only [Rd.globals]; exact GK.non
 | succ n ih =>
   intro l r hT h
   simp only [Rd.globals]
   refine (take_gk r _).bind fun b q e g => GK.ite (fun _ => ?_) fun _ => GK.ret fun gq => h (g gq).1
   exact (names_gk _ _ _ (by rw [e]; exact hT) fun gq => h (g gq).1).bind fun l2 q2 e2 g2 => ih _ _ (by rw [e2, e]; exact hT) fun gg => (g2 gg).2

structure Pc.okM (f : Pc) : Prop where
 name : isName f.name = true
 params : Pm.mays f.params = true ∧ f.params.length ≤ 8
 vars : mayNames f.vars = true ∧ (f.vars.length : Int) ≤ 16
 fin : mayNames f.fin = true
 body : Sm.oksM 1 f.body

theorem procB_gk {m : Nat} {name : Str} {ps : List Pm} {r : Rd} (hT : TKs r.l) (h : r.good = true → isName name = true ∧ Pm.mays ps = true ∧ ps.length ≤ 8) : GK r (Rd.procB m name ps r) Pc.okM := by
 unfold Rd.procB
 refine (vars_gk m [] r hT fun _ => ⟨rfl, by simp⟩).bind fun v q e g => ((stmts_gk m).1 1 true q (by rw [e]; exact hT)).bind fun b s e2 g2 => GK.ret fun gs => ?_
 obtain ⟨g3, h3, h4⟩ := g2 gs
 obtain ⟨g5, h5⟩ := g g3
 obtain ⟨h6, h7⟩ := h g5
 exact ⟨h6, h7, h5, h4, h3⟩

theorem proc_gk {m : Nat} {r : Rd} (hT : TKs r.l) : GK r (Rd.proc m r) Pc.okM := by
 unfold Rd.proc
 refine (name_gk hT _).bind fun x q e g => (want_gk q _).bind fun u e2 g2 => GK.ask fun b _ => GK.ite (fun _ => ?_) fun _ => ?_
 · refine (params_gk _ _ u (by rw [e2, e]; exact hT) fun _ => ⟨rfl, by simp⟩).bind fun ps s e3 g3 => (want_gk s _).bind fun v e4 g4 => (want_gk v _).bind fun w e5 g5 => procB_gk (by rw [e5, e4, e3, e2, e]; exact hT) fun gw => ?_
   obtain ⟨g6, h6⟩ := g3 (g4 (g5 gw))
   exact ⟨(g (g2 g6)).2.1, h6⟩
 · refine (want_gk u _).bind fun v e4 g4 => (want_gk v _).bind fun w e5 g5 => procB_gk (by rw [e5, e4, e2, e]; exact hT) fun gw => ?_
   exact ⟨(g (g2 (g4 (g5 gw)))).2.1, rfl, by simp⟩

theorem procs_gk {m : Nat} : ∀ (n : Nat) (l : List Pc) (r : Rd), TKs r.l → (r.good = true → (∀ f ∈ l, Pc.okM f) ∧ l.length ≤ 16) → GK r (Rd.procs m n l r) fun l => (∀ f ∈ l, Pc.okM f) ∧ l.length ≤ 16 := by
 intro n
 induction n with
 | zero => intro l r _ _; simp only [Rd.procs]; exact GK.non
 | succ n ih =>
   intro l r hT h
   simp only [Rd.procs]
   refine GK.ask fun b _ => GK.ite (fun _ => GK.ite (fun _ => bad_gk (by decide) _ _) fun h16 => ?_) fun _ => GK.ask fun b _ => GK.ite (fun _ => bad_gk (by decide) _ _) fun _ => GK.ret h
   refine GK.from (s := { r with i := r.i + 1 }) ?_ rfl rfl
   refine GK.bind (f := fun x => (push 113 l x.1).bind fun l => Rd.procs m n l x.2) (proc_gk hT) fun f q e g => GK.ask fun l2 hl2 => ih _ _ (by rw [e]; exact hT) fun gq => ?_
   obtain ⟨g2, h2⟩ := g gq
   obtain ⟨h3, h4⟩ := h g2
   rw [(push_some hl2).2]
   refine ⟨fun x hx => ?_, ?_⟩
   · rcases List.mem_append.1 hx with hx | hx
     · exact h3 x hx
     · simp at hx; subst hx; exact h2
   · have : l.length ≠ 16 := by intro e; simp [e] at h16
     simp; omega

theorem program_gk {m : Nat} {r : Rd} (hT : TKs r.l) : GK r (Rd.program m r) fun p => mayNames p.globals = true ∧ (p.globals.length : Int) ≤ 16 ∧ (∀ f ∈ p.procs, Pc.okM f) ∧ p.procs.length ≤ 16 := by
 unfold Rd.program
 refine (globals_gk m [] r hT fun _ => ⟨rfl, by simp⟩).bind fun gl q e g => (procs_gk m [] q (by rw [e]; exact hT) fun _ => ⟨by simp, by simp⟩).bind fun ps s e2 g2 => GK.ret fun gs => ?_
 obtain ⟨g3, h3⟩ := g2 gs
 exact ⟨(g g3).2.1, (g g3).2.2, h3⟩

end Go.Abs

/-! MayLaw3 -/

namespace Go.Abs

mutual
def Sm.cnt : Sm → Nat
 | ⟨_, _, _, _, _, _, _, _, thn, els⟩ => 1 + Sm.cnts thn + Sm.cnts els
def Sm.cnts : List Sm → Nat
 | [] => 0
 | s :: l => s.cnt + Sm.cnts l
end
mutual
theorem Sm.num_cnt (b : Bool) (n : Nat) : ∀ s : Sm, (Sm.num b n s).2 = n + s.cnt
 | ⟨_, _, _, _, _, _, _, _, thn, els⟩ => by
   simp only [Sm.num, Sm.cnt]
   rw [Sm.nums_cnt b _ els, Sm.nums_cnt b _ thn]; omega
theorem Sm.nums_cnt (b : Bool) (n : Nat) : ∀ l : List Sm, (Sm.nums b n l).2 = n + Sm.cnts l
 | [] => rfl
 | s :: l => by
   simp only [Sm.nums, Sm.cnts]
   rw [Sm.nums_cnt b _ l, Sm.num_cnt b _ s]; omega
end

theorem Sm.one_num (b : Bool) (n : Nat) (s : Sm) : ((Sm.num b n s).1).one = s.one := by
 obtain ⟨id, kind, labels, name, proc, x, has, args, thn, els⟩ := s
 simp only [Sm.num, Sm.one, Sm.hasX, Sm.hasName, Sm.isCall, Sm.nums_len]
 rfl

def Its (n : Nat) (its : List It) : Prop := ∀ (j : Nat) (it : It), its[j]? = some it → it.s.id = ((n + j + 1 : Nat) : Int) ∧ it.deep ≤ 12 ∧ it.s.one = true
theorem Its.app {n k : Nat} {a b : List It} (ha : Its n a) (hk : a.length = k) (hb : Its (n + k) b) : Its n (a ++ b) := by
 intro j it h
 rcases Nat.lt_or_ge j a.length with hj | hj
 · rw [List.getElem?_append_left hj] at h
   exact ha j it h
 · rw [List.getElem?_append_right hj] at h
   obtain ⟨h1, h2⟩ := hb _ it h
   refine ⟨?_, h2⟩
   rw [h1]; congr 1; omega
theorem Its.nil (n : Nat) : Its n [] := fun j it h => by simp at h

mutual
theorem flatS_num : ∀ (s : Sm) (n : Nat) (deep inn : Int) (els : Bool) (out : List It), s.okM deep → out.length + s.cnt ≤ 200 → ∃ its, flatS deep inn els out (Sm.num true n s).1 = out ++ its ∧ its.length = s.cnt ∧ Its n its
 | ⟨id, kind, labels, name, proc, x, has, args, thn, e⟩, n, deep, inn, els, out, h, hc => by
   have h0 := (Sm.okM_eq _ _).1 h
   obtain ⟨h1, h2, h3, h4⟩ := h0
   dsimp only at h3 h4
   have hone := Sm.one_num true n ⟨id, kind, labels, name, proc, x, has, args, thn, e⟩
   simp only [Sm.num, ↓reduceIte, flatS] at hone ⊢
   rw [h1] at hone
   simp only [Sm.cnt] at hc
   have hd : decide (deep ≤ 12) = true := by simp; omega
   simp only [hd, ↓reduceIte]
   obtain ⟨i1, e1, l1, p1⟩ := flatL_num thn (n + 1) (deep + 1) ((n + 1 : Nat) : Int) false (out ++ [⟨⟨((n + 1 : Nat) : Int), kind, labels, name, proc, x, has, args, (Sm.nums true (n + 1) thn).1, (Sm.nums true (Sm.nums true (n + 1) thn).2 e).1⟩, deep, inn, els⟩]) h3 (by simp; omega)
   rw [e1, Sm.nums_cnt]
   obtain ⟨i2, e2, l2, p2⟩ := flatL_num e (n + 1 + Sm.cnts thn) (deep + 1) ((n + 1 : Nat) : Int) true (out ++ [⟨⟨((n + 1 : Nat) : Int), kind, labels, name, proc, x, has, args, (Sm.nums true (n + 1) thn).1, (Sm.nums true (n + 1 + Sm.cnts thn) e).1⟩, deep, inn, els⟩] ++ i1) h4 (by simp; omega)
   rw [e2]
   rw [Sm.nums_cnt] at hone
   refine ⟨_, by rw [List.append_assoc, List.append_assoc], ?_, ?_⟩
   · simp only [List.length_append, List.length_cons, List.length_nil, Sm.cnt]; omega
   · refine Its.app (k := 1) ?_ rfl (Its.app p1 l1 p2)
     intro j it hj
     cases j with
     | zero => simp at hj; subst hj; exact ⟨rfl, h2, hone⟩
     | succ j => simp at hj
theorem flatL_num : ∀ (l : List Sm) (n : Nat) (deep inn : Int) (els : Bool) (out : List It), Sm.oksM deep l → out.length + Sm.cnts l ≤ 200 → ∃ its, flatL deep inn els out (Sm.nums true n l).1 = out ++ its ∧ its.length = Sm.cnts l ∧ Its n its
 | [], n, deep, inn, els, out, h, hc => ⟨[], by simp only [Sm.nums, flatL, List.append_nil], rfl, Its.nil n⟩
 | s :: l, n, deep, inn, els, out, h, hc => by
   simp only [Sm.cnts] at hc
   have hle : decide ((out.length : Int) ≤ 200) = true := by simp only [decide_eq_true_eq]; omega
   simp only [Sm.nums, flatL, hle, ↓reduceIte]
   obtain ⟨i1, e1, l1, p1⟩ := flatS_num s n deep inn els out h.1 (by omega)
   rw [e1, Sm.num_cnt]
   obtain ⟨i2, e2, l2, p2⟩ := flatL_num l (n + s.cnt) deep inn els (out ++ i1) h.2 (by simp; omega)
   rw [e2]
   exact ⟨i1 ++ i2, by rw [List.append_assoc], by simp only [List.length_append, Sm.cnts]; omega, Its.app p1 l1 p2⟩
end

def Pc.tot : List Pc → Nat
 | [] => 0
 | f :: l => Sm.cnts f.body + Pc.tot l

theorem allM_num : ∀ (l : List Pc) (n : Nat) (out : List It), (∀ f ∈ l, f.okM) → out.length + Pc.tot l ≤ 200 → ∃ its, allM out (Pc.nums n l) = out ++ its ∧ its.length = Pc.tot l ∧ Its n its
 | [], n, out, _, _ => ⟨[], by simp only [Pc.nums, allM, List.append_nil], rfl, Its.nil n⟩
 | f :: l, n, out, h, hc => by
   simp only [Pc.tot] at hc
   obtain ⟨i1, e1, l1, p1⟩ := flatL_num f.body n 1 0 false [] (h f (List.mem_cons_self ..)).body (by simp; omega)
   have ef : Pc.flat { f with body := (Sm.nums true n f.body).1 } = i1 := by simp only [Pc.flat]; rw [e1]; rfl
   have hle : decide (((out ++ i1).length : Int) > 200) = false := by simp only [List.length_append, decide_eq_false_iff_not]; omega
   simp only [Pc.nums, allM, ef, hle, Bool.false_eq_true, ↓reduceIte]
   rw [Sm.nums_cnt]
   obtain ⟨i2, e2, l2, p2⟩ := allM_num l (n + Sm.cnts f.body) (out ++ i1) (fun g hg => h g (List.mem_cons_of_mem _ hg)) (by simp; omega)
   rw [e2]
   exact ⟨i1 ++ i2, by rw [List.append_assoc], by simp only [List.length_append, Pc.tot]; omega, Its.app p1 l1 p2⟩

theorem Its.mays : ∀ (l : List It) (n : Nat), Its n l → It.mays n l = true
 | [], _, _ => rfl
 | i :: l, n, h => by
   obtain ⟨h1, h2, h3⟩ := h 0 i rfl
   have e1 : (i.s.id != ((n + 1 : Nat) : Int)) = false := by rw [h1]; simp
   have e2 : decide (i.deep > 12) = false := by simp; omega
   simp only [It.mays, e1, e2, h3, Bool.not_true, Bool.or_self, Bool.false_eq_true, ↓reduceIte]
   refine Its.mays l (n + 1) fun j it hj => ?_
   have := h (j + 1) it (by simpa using hj)
   refine ⟨?_, this.2⟩
   rw [this.1]; congr 1; omega

theorem heads_num : ∀ (l : List Pc) (n : Nat), (∀ f ∈ l, f.okM) → Pc.heads (Pc.nums n l) = true
 | [], _, _ => rfl
 | f :: l, n, h => by
   have k := h f (List.mem_cons_self ..)
   have e1 : decide ((f.params.length : Int) > 8) = false := by have := k.params.2; simp only [decide_eq_false_iff_not]; omega
   have e2 : decide ((f.vars.length : Int) > 16) = false := by have := k.vars.2; simp only [decide_eq_false_iff_not]; omega
   simp only [Pc.nums, Pc.heads, k.name, e1, e2, k.vars.1, k.fin, k.params.1, Bool.not_true, Bool.or_self, Bool.false_eq_true, ↓reduceIte]
   exact heads_num l _ fun g hg => h g (List.mem_cons_of_mem _ hg)
theorem Pc.nums_ln : ∀ (l : List Pc) (n : Nat), (Pc.nums n l).length = l.length
 | [], _ => rfl
 | g :: l, n => by simp only [Pc.nums, List.length_cons, Pc.nums_ln l]

theorem number_may {p : Pg} (h1 : mayNames p.globals = true) (h2 : (p.globals.length : Int) ≤ 16) (h3 : ∀ f ∈ p.procs, f.okM) (h4 : p.procs.length ≤ 16) (h5 : Pc.tot p.procs ≤ 200) : p.number.may = true ∧ p.number.all.length = Pc.tot p.procs := by
 obtain ⟨its, e, hl, hi⟩ := allM_num p.procs 0 [] h3 (by simpa using h5)
 have ea : p.number.all = its := by simp only [Pg.all, Pg.number]; rw [e]; rfl
 have e1 : decide ((p.globals.length : Int) > 16) = false := by simp only [decide_eq_false_iff_not]; omega
 have e2 : decide (((Pc.nums 0 p.procs).length : Int) > 16) = false := by rw [Pc.nums_ln]; simp only [decide_eq_false_iff_not]; omega
 have e3 : decide ((its.length : Int) > 200) = false := by simp only [decide_eq_false_iff_not]; omega
 refine ⟨?_, by rw [ea, hl]⟩
 have e0 : p.number.may = (if decide ((p.globals.length : Int) > 16) || decide (((Pc.nums 0 p.procs).length : Int) > 16) || !(mayNames p.globals) then false
     else if !(Pc.heads (Pc.nums 0 p.procs)) then false else if decide ((p.number.all.length : Int) > 200) then false else It.mays 0 p.number.all) := rfl
 rw [e0, ea]
 simp only [e1, e2, h1, heads_num _ 0 h3, e3, Bool.not_true, Bool.or_self, Bool.false_eq_true, ↓reduceIte]
 exact Its.mays its 0 hi

/-! ### How many were counted -/

theorem procs_n {m : Nat} : ∀ (n : Nat) (l : List Pc) (r0 r : Rd), (r.good = true → r.n = Pc.tot l ∧ r.n ≤ 200) → ∀ p, Rd.procs m n l r = some p → p.2.good = true → p.2.n = Pc.tot p.1 ∧ p.2.n ≤ 200 := by
 have tot_app : ∀ (l : List Pc) (f : Pc), Pc.tot (l ++ [f]) = Pc.tot l + Sm.cnts f.body := by
   intro l f
   induction l with
   | nil => simp [Pc.tot]
   | cons g l ih => simp only [List.cons_append, Pc.tot, ih]; omega
 intro n
 induction n with
 | zero => intro l r0 r _ p h; simp only [Rd.procs] at h; cases h
 | succ n ih =>
   intro l r0 r h0 p h hg
   simp only [Rd.procs] at h
   rw [Option.bind_eq_some_iff] at h
   obtain ⟨b, h1, h⟩ := h
   split at h
   · split at h
     · rw [Option.bind_eq_some_iff] at h
       obtain ⟨q, h2, h⟩ := h
       have := (bad_g (by decide) q h2).2
       cases h
       rw [this] at hg; cases hg
     · rw [Option.bind_eq_some_iff] at h
       obtain ⟨x, h2, h⟩ := h
       rw [Option.bind_eq_some_iff] at h
       obtain ⟨l2, h3, h⟩ := h
       refine ih l2 r0 x.2 (fun gx => ?_) p h hg
       have hl2 := (push_some h3).2
       -- what the procedure counted
       have key : ∀ (r : Rd) (x : Pc × Rd), Rd.proc m r = some x → Num r (Sm.nums true r.n x.1.body).2 x.2 := by
         intro r x hx
         unfold Rd.proc at hx
         have pb : ∀ {name : Str} {ps : List Pm} {s : Rd}, Keep r s → Pt (Rd.procB m name ps s) fun p => Num r (Sm.nums true r.n p.1.body).2 p.2 := by
           intro name ps s hs
           unfold Rd.procB
           have vk : ∀ (n : Nat) (l : List Str) (s : Rd), Keep r s → Pt (Rd.vars m n l s) (fun p => Keep r p.2) := by
             intro n
             induction n with
             | zero => intro l s _; simp only [Rd.vars]; exact Pt.none
             | succ n ih =>
               intro l s h
               simp only [Rd.vars]
               exact (take_k h _).bind fun q hq => Pt.ite (fun _ => (names_k _ _ _ hq).bind fun x hx => ih _ _ hx) fun _ => Pt.some hq
           refine (vk m [] s hs).bind fun v hv => ((stmts_n m).1 _ _ _).bind fun b hb => Pt.some ?_
           dsimp only
           rw [← hv.n]
           exact ((Num.refl r).keep hv).trans hb
         have pk : ∀ (n : Nat) (l : List Pm) (s : Rd), Keep r s → Pt (Rd.params n l s) (fun p => Keep r p.2) := by
           intro n
           induction n with
           | zero => intro l s _; simp only [Rd.params]; exact Pt.none
           | succ n ih =>
             intro l s h
             simp only [Rd.params]
             exact Pt.ite (fun _ => (take_k h _).bind fun q hq => (name_k hq _).bind fun x hx => Pt.any fun l => (take_k hx _).bind fun c hc => Pt.ite (fun _ => Pt.some hc) fun _ => ih _ _ hc) fun _ => Pt.some h
         refine ((name_k (Keep.refl r) true).bind (R := fun p : Pc × Rd => Num r (Sm.nums true r.n p.1.body).2 p.2) fun x hx => (want_k hx _).bind fun r1 h1 => Pt.any fun b => Pt.ite (fun _ => ?_) fun _ => ?_) x hx
         · exact (pk _ _ _ h1).bind fun q hq => (want_k hq _).bind fun r hr => (want_k hr _).bind fun r hr => pb hr
         · exact (want_k h1 _).bind fun r hr => (want_k hr _).bind fun r hr => pb hr
       have hn := key _ _ h2
       obtain ⟨e1, e2⟩ := h0 (hn.g gx)
       have e3 := hn.n gx
       rw [Sm.nums_cnt] at e3
       dsimp only at e3
       rw [hl2, tot_app]
       exact ⟨by omega, hn.le gx e2⟩
   · rw [Option.bind_eq_some_iff] at h
     obtain ⟨b2, h2, h⟩ := h
     split at h
     · rw [Option.bind_eq_some_iff] at h
       obtain ⟨q, h3, h⟩ := h
       have := (bad_g (by decide) q h3).2
       cases h
       rw [this] at hg; cases hg
     · cases h
       exact h0 hg

theorem program_n {m : Nat} {r : Rd} (h0 : r.n = 0) {p : Pg × Rd} (h : Rd.program m r = some p) (hg : p.2.good = true) : p.2.n = Pc.tot p.1.procs ∧ p.2.n ≤ 200 := by
 unfold Rd.program at h
 rw [Option.bind_eq_some_iff] at h
 obtain ⟨g, h1, h⟩ := h
 rw [Option.bind_eq_some_iff] at h
 obtain ⟨q, h2, h⟩ := h
 cases h
 have gk : ∀ (n : Nat) (l : List Str) (s : Rd), Keep r s → Pt (Rd.globals m n l s) (fun p => Keep r p.2) := by
   intro n
   induction n with
   | zero => intro l s _; simp only [Rd.globals]; exact Pt.none
   | succ n ih =>
     intro l s h
     simp only [Rd.globals]
     exact (take_k h _).bind fun q hq => Pt.ite (fun _ => (names_k _ _ _ hq).bind fun x hx => ih _ _ hx) fun _ => Pt.some hq
 have kg := gk m [] r (Keep.refl r) _ h1
 exact procs_n m [] r g.2 (fun _ => by rw [kg.n, h0]; exact ⟨rfl, by omega⟩) q h2 hg

theorem program_may {m : Nat} {l : List Tok} (hT : TKs l) {P : Pg × Rd} (h : Rd.program m (rd0 l) = some P) (hg : P.2.good = true) : P.1.number.may = true ∧ P.1.number.all.length = P.2.n ∧ P.2.n ≤ 200 := by
 obtain ⟨_, g⟩ := program_gk (r := rd0 l) hT P h
 obtain ⟨_, h1, h2, h3, h4⟩ := g hg
 obtain ⟨e, h5⟩ := program_n (r := rd0 l) rfl h hg
 obtain ⟨h6, h7⟩ := number_may h1 h2 h3 h4 (by omega)
 exact ⟨h6, by rw [h7, e], h5⟩

end Go.Abs

/-! Sim -/

namespace Go.Abs

structure TEq (t t' : Tok) : Prop where
 k : t'.kind = t.kind
 x : t'.text = t.text
 n : t'.n = t.n

def Quiet (t : Tok) : Prop := t.kind = 0 ∨ t.kind = 4 ∧ t.text = [125]
def Quiet' (t : Tok) : Prop := t.kind = 0 ∨ t.kind = 3 ∧ t.text = [112, 114, 111, 99]

structure Env (l l' : List Tok) (N : Nat) (A : Prop) : Prop where
 low : ∀ (i : Nat) (t : Tok), l[i]? = some t → (A ∨ i < N) → ∃ t', l'[i]? = some t' ∧ TEq t t'
 at' : ¬ A → ∃ t t', l[N]? = some t ∧ l'[N]? = some t' ∧ Quiet t ∧ Quiet' t'

section
variable {l l' : List Tok} {N : Nat} {A : Prop}

structure Rel2 (l l' : List Tok) (r r' : Rd) : Prop where
 el : r.l = l
 el' : r'.l = l'
 ei : r'.i = r.i
 en : r'.n = r.n
 ec : r'.code = r.code
 ef : r.code = 0 ∨ (r.code = 3 ∨ r.code = 4) ∧ ∃ (j : Nat) (t t' : Tok), l[j]? = some t ∧ l'[j]? = some t' ∧ r.fat = t.pos ∧ r'.fat = t'.pos

def Cnd (N : Nat) (A : Prop) (r : Rd) : Prop := A ∨ r.good = true ∧ r.i ≤ N
def SR (l l' : List Tok) (N : Nat) (A : Prop) (r r' : Rd) : Prop := Cnd N A r → Rel2 l l' r r'

def Sim {α : Type} (l l' : List Tok) (N : Nat) (A : Prop) (r : Rd) (o o' : Option (α × Rd)) : Prop :=
 ∀ p, o = some p → r.i ≤ p.2.i ∧ (p.2.good = true → r.good = true) ∧ (Cnd N A p.2 → ∃ q', o' = some (p.1, q') ∧ Rel2 l l' p.2 q')

theorem Cnd.back {r q : Rd} (h : Cnd N A q) (hi : r.i ≤ q.i) (hg : q.good = true → r.good = true) : Cnd N A r := by
 rcases h with h | h
 · exact .inl h
 · exact .inr ⟨hg h.1, Nat.le_trans hi h.2⟩

theorem Sim.bind {α β : Type} {r : Rd} {o o' : Option (α × Rd)} {f f' : α × Rd → Option (β × Rd)} (h : Sim l l' N A r o o') (k : ∀ a q q', SR l l' N A q q' → Sim l l' N A q (f (a, q)) (f' (a, q'))) :
   Sim l l' N A r (o.bind f) (o'.bind f') := by
 intro p hp
 rw [Option.bind_eq_some_iff] at hp
 obtain ⟨⟨a, q⟩, h1, h2⟩ := hp
 obtain ⟨m1, m2, m3⟩ := h _ h1
 dsimp only at m1 m2 m3
 by_cases hc : Cnd N A q
 · obtain ⟨q', e, rel⟩ := m3 hc
   obtain ⟨n1, n2, n3⟩ := k a q q' (fun _ => rel) _ h2
   refine ⟨Nat.le_trans m1 n1, fun g => m2 (n2 g), fun c => ?_⟩
   obtain ⟨s', e2, rel2⟩ := n3 c
   exact ⟨s', by rw [e]; exact e2, rel2⟩
 · obtain ⟨n1, n2, n3⟩ := k a q q (fun c => absurd c hc) _ h2
   exact ⟨Nat.le_trans m1 n1, fun g => m2 (n2 g), fun c => absurd (c.back n1 n2) hc⟩

def SimR (l l' : List Tok) (N : Nat) (A : Prop) (r : Rd) (o o' : Option Rd) : Prop :=
 ∀ p, o = some p → r.i ≤ p.i ∧ (p.good = true → r.good = true) ∧ (Cnd N A p → ∃ q', o' = some q' ∧ Rel2 l l' p q')

theorem SimR.bind {β : Type} {r : Rd} {o o' : Option Rd} {f : Rd → Option (β × Rd)} (h : SimR l l' N A r o o') (k : ∀ q q', SR l l' N A q q' → Sim l l' N A q (f q) (f q')) :
   Sim l l' N A r (o.bind f) (o'.bind f) := by
 intro p hp
 rw [Option.bind_eq_some_iff] at hp
 obtain ⟨q, h1, h2⟩ := hp
 obtain ⟨m1, m2, m3⟩ := h _ h1
 by_cases hc : Cnd N A q
 · obtain ⟨q', e, rel⟩ := m3 hc
   obtain ⟨n1, n2, n3⟩ := k q q' (fun _ => rel) _ h2
   refine ⟨Nat.le_trans m1 n1, fun g => m2 (n2 g), fun c => ?_⟩
   obtain ⟨s', e2, rel2⟩ := n3 c
   exact ⟨s', by rw [e]; exact e2, rel2⟩
 · obtain ⟨n1, n2, n3⟩ := k q q (fun c => absurd c hc) _ h2
   exact ⟨Nat.le_trans m1 n1, fun g => m2 (n2 g), fun c => absurd (c.back n1 n2) hc⟩

theorem Sim.bindR {α : Type} {r : Rd} {o o' : Option (α × Rd)} {f : α × Rd → Option Rd} (h : Sim l l' N A r o o') (k : ∀ a q q', SR l l' N A q q' → SimR l l' N A q (f (a, q)) (f (a, q'))) :
   SimR l l' N A r (o.bind f) (o'.bind f) := by
 intro p hp
 rw [Option.bind_eq_some_iff] at hp
 obtain ⟨⟨a, q⟩, h1, h2⟩ := hp
 obtain ⟨m1, m2, m3⟩ := h _ h1
 dsimp only at m1 m2 m3
 by_cases hc : Cnd N A q
 · obtain ⟨q', e, rel⟩ := m3 hc
   obtain ⟨n1, n2, n3⟩ := k a q q' (fun _ => rel) _ h2
   refine ⟨Nat.le_trans m1 n1, fun g => m2 (n2 g), fun c => ?_⟩
   obtain ⟨s', e2, rel2⟩ := n3 c
   exact ⟨s', by rw [e]; exact e2, rel2⟩
 · obtain ⟨n1, n2, n3⟩ := k a q q (fun c => absurd c hc) _ h2
   exact ⟨Nat.le_trans m1 n1, fun g => m2 (n2 g), fun c => absurd (c.back n1 n2) hc⟩

theorem Sim.ret {α : Type} {r r' : Rd} (a : α) (h : SR l l' N A r r') : Sim l l' N A r (some (a, r)) (some (a, r')) := by
 intro p hp
 cases hp
 exact ⟨Nat.le_refl _, id, fun c => ⟨r', rfl, h c⟩⟩
theorem Sim.non {α : Type} {r : Rd} {o' : Option (α × Rd)} : Sim l l' N A r none o' := fun p hp => by cases hp
theorem Sim.ask {α β : Type} {r : Rd} {o o' : Option α} {f f' : α → Option (β × Rd)} (h : ∀ a, o = some a → Cnd N A r → o' = some a) (k : ∀ a, o = some a → Sim l l' N A r (f a) (f' a)) : Sim l l' N A r (o.bind f) (o'.bind f') := by
 intro p hp
 rw [Option.bind_eq_some_iff] at hp
 obtain ⟨a, h1, h2⟩ := hp
 obtain ⟨n1, n2, n3⟩ := k a h1 _ h2
 refine ⟨n1, n2, fun c => ?_⟩
 rw [h a h1 (c.back n1 n2)]
 exact n3 c
theorem Sim.same {α β : Type} {r : Rd} {o : Option α} {f f' : α → Option (β × Rd)} (k : ∀ a, o = some a → Sim l l' N A r (f a) (f' a)) : Sim l l' N A r (o.bind f) (o.bind f') := Sim.ask (fun a h _ => h) k
theorem Sim.ite {α : Type} {r : Rd} {c : Prop} [Decidable c] {a b a' b' : Option (α × Rd)} (h1 : c → Sim l l' N A r a a') (h2 : ¬ c → Sim l l' N A r b b') : Sim l l' N A r (if c then a else b) (if c then a' else b') := by
 by_cases h : c
 · rw [if_pos h, if_pos h]; exact h1 h
 · rw [if_neg h, if_neg h]; exact h2 h
theorem SimR.ret {r r' : Rd} (h : SR l l' N A r r') : SimR l l' N A r (some r) (some r') := by
 intro p hp
 cases hp
 exact ⟨Nat.le_refl _, id, fun c => ⟨r', rfl, h c⟩⟩
theorem SimR.eite {r : Rd} {c : Prop} [Decidable c] {a b a' b' : Option Rd} (h1 : c → SimR l l' N A r a a') (h2 : ¬ c → SimR l l' N A r b b') : SimR l l' N A r (if c then a else b) (if c then a' else b') := by
 by_cases h : c
 · rw [if_pos h, if_pos h]; exact h1 h
 · rw [if_neg h, if_neg h]; exact h2 h
theorem Sim.iteG {α : Type} {r r' : Rd} (hr : SR l l' N A r r') {a b a' b' : Option (α × Rd)} (h1 : r.good = true → Sim l l' N A r a a') (h2 : r.good = false → Sim l l' N A r b b') :
   Sim l l' N A r (if r.good = true then a else b) (if r'.good = true then a' else b') := by
 by_cases hc : Cnd N A r
 · have e : r'.good = r.good := by simp only [Rd.good, (hr hc).ec]
   rw [e]
   cases h : r.good
   · exact h2 h
   · exact h1 h
 · intro p hp
   have key : r.i ≤ p.2.i ∧ (p.2.good = true → r.good = true) := by
     cases h : r.good
     · rw [h] at hp; have := h2 h p hp; exact ⟨this.1, fun g => by rw [← h]; exact this.2.1 g⟩
     · rw [h] at hp; exact ⟨(h1 h p hp).1, fun _ => rfl⟩
   exact ⟨key.1, key.2, fun c => absurd (c.back key.1 key.2) hc⟩

/-! ### The basic methods -/

theorem SR.goods {r r' : Rd} (h : SR l l' N A r r') (hc : Cnd N A r) : r'.good = r.good := by simp only [Rd.good, (h hc).ec]
theorem SR.set {r r' : Rd} (h : SR l l' N A r r') (j : Nat) (hj : r.i ≤ j) : SR l l' N A { r with i := j } { r' with i := j } := by
 intro hc
 have := h (hc.back (r := r) hj id)
 exact ⟨this.el, this.el', rfl, this.en, this.ec, this.ef⟩
theorem Sim.on {α : Type} {r r' : Rd} (a : α) (h : SR l l' N A r r') (j j' : Nat) (hj : r.i ≤ j) (e : Cnd N A r → j' = j) : Sim l l' N A r (some (a, { r with i := j })) (some (a, { r' with i := j' })) := by
 intro p hp
 cases hp
 refine ⟨hj, id, fun c => ?_⟩
 have hc : Cnd N A r := c.back hj id
 rw [e hc]
 exact ⟨_, rfl, h.set j hj c⟩

theorem getO_eq {l : List Tok} {i : Nat} {t : Tok} (h : i < 4611686018427387904) (e : l[i]? = some t) : getO l i = some t := by simp [getO, h, e]

theorem peek_low (E : Env l l' N A) {r r' : Rd} (h : SR l l' N A r r') (hc : Cnd N A r) (hi : A ∨ r.i < N) {t : Tok} (ht : r.peek = some t) : ∃ t', r'.peek = some t' ∧ TEq t t' := by
 obtain ⟨h1, h2, h3, h4⟩ := peek_get ht
 have R := h hc
 rw [R.el] at h2
 obtain ⟨t', e, te⟩ := E.low _ _ h2 hi
 refine ⟨t', ?_, te⟩
 simp only [Rd.peek, R.ei, R.el', getO_eq h1 e, Option.bind_some, te.k, h3, h4, decide_true, Bool.and_self, ↓reduceIte]

theorem peek_at (E : Env l l' N A) {r r' : Rd} (h : SR l l' N A r r') (hc : Cnd N A r) (hA : ¬ A) (hi : r.i = N) {t : Tok} (ht : r.peek = some t) : Quiet t ∧ ∃ t', r'.peek = some t' ∧ Quiet' t' := by
 obtain ⟨h1, h2, h3, h4⟩ := peek_get ht
 have R := h hc
 obtain ⟨u, u', e1, e2, q1, q2⟩ := E.at' hA
 rw [R.el, hi, e1] at h2
 cases h2
 refine ⟨q1, u', ?_, q2⟩
 have hk : 0 ≤ u'.kind ∧ u'.kind ≤ 4 := by rcases q2 with q | q <;> omega
 rw [hi] at h1
 simp only [Rd.peek, R.ei, R.el', hi, getO_eq h1 e2, Option.bind_some, hk.1, hk.2, decide_true, Bool.and_self, ↓reduceIte]

theorem Cnd.cases {r : Rd} (hc : Cnd N A r) : (A ∨ r.i < N) ∨ (¬ A ∧ r.i = N) := by
 by_cases hA : A
 · exact .inl (.inl hA)
 · rcases hc with h | h
   · exact absurd h hA
   · rcases Nat.lt_or_eq_of_le h.2 with h | h
     · exact .inl (.inr h)
     · exact .inr ⟨hA, h⟩

theorem is_sim (E : Env l l' N A) {r r' : Rd} (h : SR l l' N A r r') {s : Str} (h1 : s ≠ [125]) (h2 : s ≠ [112, 114, 111, 99]) {b : Bool} (hb : r.is s = some b) (hc : Cnd N A r) : r'.is s = some b := by
 unfold Rd.is at hb ⊢
 rw [Option.bind_eq_some_iff] at hb
 obtain ⟨t, ht, hb⟩ := hb
 cases hb
 rcases hc.cases with hi | ⟨hA, hi⟩
 · obtain ⟨t', e, te⟩ := peek_low E h hc hi ht
   rw [e, Option.bind_some, te.k, te.x]
 · obtain ⟨q, t', e, q'⟩ := peek_at E h hc hA hi ht
   rw [e, Option.bind_some]
   have a1 : ((t.kind == 3 || t.kind == 4) && t.text == s) = false := by
     rcases q with q | ⟨_, q⟩
     · simp [q]
     · have : (t.text == s) = false := by rw [q]; simpa using fun e => h1 e.symm
       simp [this]
   have a2 : ((t'.kind == 3 || t'.kind == 4) && t'.text == s) = false := by
     rcases q' with q | ⟨_, q⟩
     · simp [q]
     · have : (t'.text == s) = false := by rw [q]; simpa using fun e => h2 e.symm
       simp [this]
   rw [a1, a2]

theorem take_sim (E : Env l l' N A) {r r' : Rd} (h : SR l l' N A r r') {s : Str} (h1 : s ≠ [125]) (h2 : s ≠ [112, 114, 111, 99]) : Sim l l' N A r (r.take s) (r'.take s) := by
 unfold Rd.take
 by_cases hc : Cnd N A r
 · rw [h.goods hc]
   refine Sim.ite (fun _ => Sim.ret _ h) (fun _ => ?_)
   refine Sim.ask (fun b hb hc => is_sim E h h1 h2 hb hc) fun b _ => Sim.ite (fun _ => Sim.ret _ h) fun _ => Sim.on _ h _ _ (Nat.le_succ _) fun hc => by rw [(h hc).ei]
 · intro p hp
   have key : r.i ≤ p.2.i ∧ (p.2.good = true → r.good = true) := by
     split at hp
     · cases hp; exact ⟨Nat.le_refl _, id⟩
     · rw [Option.bind_eq_some_iff] at hp
       obtain ⟨b, _, hp⟩ := hp
       split at hp
       · cases hp; exact ⟨Nat.le_refl _, id⟩
       · cases hp; exact ⟨Nat.le_succ _, id⟩
   exact ⟨key.1, key.2, fun c => absurd (c.back key.1 key.2) hc⟩

theorem bad_sim (E : Env l l' N A) {r r' : Rd} (h : SR l l' N A r r') {c : Int} (hc0 : c = 3 ∨ c = 4) : SimR l l' N A r (r.bad c) (r'.bad c) := by
 intro p hp
 unfold Rd.bad at hp
 cases hg : r.good
 · simp only [hg, Bool.false_eq_true, ↓reduceIte] at hp
   cases hp
   refine ⟨Nat.le_refl _, fun g => (by rw [hg] at g; cases g), fun hc => ?_⟩
   refine ⟨r', ?_, h hc⟩
   simp only [Rd.bad, h.goods hc, hg, Bool.false_eq_true, ↓reduceIte]
 · simp only [hg, ↓reduceIte] at hp
   rw [Option.bind_eq_some_iff] at hp
   obtain ⟨t, ht, hp⟩ := hp
   cases hp
   have hf : ({ r with code := c, fat := t.pos } : Rd).good = false := by rcases hc0 with rfl | rfl <;> rfl
   refine ⟨Nat.le_refl _, fun g => rfl, fun hc => ?_⟩
   rcases hc with hA | ⟨g, _⟩
   · have hcr : Cnd N A r := .inl hA
     obtain ⟨t', e, te⟩ := peek_low E h hcr (.inl hA) ht
     have R := h hcr
     refine ⟨{ r' with code := c, fat := t'.pos }, ?_, ⟨R.el, R.el', R.ei, R.en, rfl, .inr ⟨hc0, r.i, t, t', ?_, ?_, rfl, rfl⟩⟩⟩
     · simp only [Rd.bad, h.goods hcr, hg, ↓reduceIte, e, Option.bind_some]
     · have := (peek_get ht).2.1; rw [R.el] at this; exact this
     · have := (peek_get e).2.1; rw [R.el', R.ei] at this; exact this
   · rw [hf] at g; cases g

theorem want_sim (E : Env l l' N A) {r r' : Rd} (h : SR l l' N A r r') {s : Str} (h1 : s ≠ [125]) (h2 : s ≠ [112, 114, 111, 99]) : SimR l l' N A r (r.want s) (r'.want s) := by
 unfold Rd.want
 exact (take_sim E h h1 h2).bindR fun a q q' hq => SimR.eite (fun _ => bad_sim E hq (by decide)) fun _ => SimR.ret hq
end

end Go.Abs

/-! Sim2 -/

namespace Go.Abs

section
variable {l l' : List Tok} {N : Nat} {A : Prop}

def Next (N : Nat) (A : Prop) (r : Rd) (t t' : Tok) : Prop := TEq t t' ∨ (¬ A ∧ r.i = N ∧ Quiet t ∧ Quiet' t')

structure Near (N : Nat) (A : Prop) (r r' : Rd) : Prop where
 g : r'.good = r.good
 i : r'.i = r.i
 n : r'.n = r.n
 pk : ∀ t, r.peek = some t → ∃ t', r'.peek = some t' ∧ Next N A r t t'
 pk2 : ∀ t, r.peek = some t → t.kind = 1 → ∀ u, getO r.l (r.i + 1) = some u → ∃ u', getO r'.l (r'.i + 1) = some u' ∧ (TEq u u' ∨ Quiet u ∧ Quiet' u')

theorem TEq.refl (t : Tok) : TEq t t := ⟨rfl, rfl, rfl⟩
theorem Near.refl (r : Rd) : Near N A r r := ⟨rfl, rfl, rfl, fun t h => ⟨t, h, .inl (TEq.refl t)⟩, fun t _ _ u h => ⟨u, h, .inl (TEq.refl u)⟩⟩

theorem near_of (E : Env l l' N A) {r r' : Rd} (h : SR l l' N A r r') (hc : Cnd N A r) : Near N A r r' := by
 refine ⟨h.goods hc, (h hc).ei, (h hc).en, fun t ht => ?_, fun t ht hk u hu => ?_⟩
 · rcases hc.cases with hi | ⟨hA, hi⟩
   · obtain ⟨t', e, te⟩ := peek_low E h hc hi ht
     exact ⟨t', e, .inl te⟩
   · obtain ⟨q, t', e, q'⟩ := peek_at E h hc hA hi ht
     exact ⟨t', e, .inr ⟨hA, hi, q, q'⟩⟩
 · have R := h hc
   have hlow : A ∨ r.i < N := by
     rcases hc.cases with hi | ⟨hA, hi⟩
     · exact hi
     · obtain ⟨q, _⟩ := peek_at E h hc hA hi ht
       rcases q with q | q
       · omega
       · omega
   obtain ⟨h1, h2⟩ := getO_some hu
   rw [R.el] at h2
   rw [R.el', R.ei]
   by_cases hA : A
   · obtain ⟨u', e, te⟩ := E.low _ _ h2 (.inl hA)
     exact ⟨u', getO_eq h1 e, .inl te⟩
   · rcases Nat.lt_or_ge (r.i + 1) N with hj | hj
     · obtain ⟨u', e, te⟩ := E.low _ _ h2 (.inr hj)
       exact ⟨u', getO_eq h1 e, .inl te⟩
     · have e1 : r.i + 1 = N := by rcases hlow with f | f; exact absurd f hA; omega
       obtain ⟨v, v', f1, f2, q1, q2⟩ := E.at' hA
       rw [e1] at h2 h1
       rw [f1] at h2
       cases h2
       rw [e1]
       exact ⟨v', getO_eq h1 f2, .inr ⟨q1, q2⟩⟩

theorem Sim.wl {α : Type} (E : Env l l' N A) {r r' : Rd} (h : SR l l' N A r r') {F G : Rd → Option (α × Rd)} (k : ∀ r'', SR l l' N A r r'' → Near N A r r'' → Sim l l' N A r (F r) (G r'')) : Sim l l' N A r (F r) (G r') := by
 by_cases hc : Cnd N A r
 · exact k r' h (near_of E h hc)
 · intro p hp
   obtain ⟨a, b, _⟩ := k r (fun c => absurd c hc) (Near.refl r) p hp
   exact ⟨a, b, fun c => absurd (c.back a b) hc⟩

theorem Sim.void {α : Type} {r : Rd} {o o' o'' : Option (α × Rd)} (h : Sim l l' N A r o o'') (k : ∀ p, o = some p → ¬ Cnd N A p.2) : Sim l l' N A r o o' := by
 intro p hp
 obtain ⟨a, b, _⟩ := h p hp
 exact ⟨a, b, fun c => absurd c (k p hp)⟩

theorem Sim.askP {α : Type} {r r' : Rd} (nr : Near N A r r') {f f' : Tok → Option (α × Rd)} (k : ∀ t t', r.peek = some t → r'.peek = some t' → Next N A r t t' → Sim l l' N A r (f t) (f' t')) :
   Sim l l' N A r (r.peek.bind f) (r'.peek.bind f') := by
 intro p hp
 rw [Option.bind_eq_some_iff] at hp
 obtain ⟨t, ht, hp⟩ := hp
 obtain ⟨t', ht', q⟩ := nr.pk t ht
 have := k t t' ht ht' q p hp
 rw [ht', Option.bind_some]
 exact this

theorem Quiet.k1 {t : Tok} (h : Quiet t) : (t.kind == 1) = false := by rcases h with h | ⟨h, _⟩ <;> simp [h]
theorem Quiet.k2 {t : Tok} (h : Quiet t) : (t.kind == 2) = false := by rcases h with h | ⟨h, _⟩ <;> simp [h]
theorem Quiet'.k1 {t : Tok} (h : Quiet' t) : (t.kind == 1) = false := by rcases h with h | ⟨h, _⟩ <;> simp [h]
theorem Quiet'.k2 {t : Tok} (h : Quiet' t) : (t.kind == 2) = false := by rcases h with h | ⟨h, _⟩ <;> simp [h]
theorem Quiet.op {t : Tok} (h : Quiet t) : opOf t = (0, 0) := by
 rcases h with h | ⟨h, e⟩
 · simp [opOf, h]
 · simp only [opOf, h, e]; decide
theorem Quiet'.op {t : Tok} (h : Quiet' t) : opOf t = (0, 0) := by rcases h with h | ⟨h, _⟩ <;> simp [opOf, h]
theorem TEq.op {t t' : Tok} (h : TEq t t') : opOf t' = opOf t := by simp only [opOf, h.k, h.x]

theorem bad_ret {α : Type} (E : Env l l' N A) {r r' : Rd} (h : SR l l' N A r r') {c : Int} (hc : c = 3 ∨ c = 4) (a : α) : Sim l l' N A r ((r.bad c).bind fun r => some (a, r)) ((r'.bad c).bind fun r => some (a, r)) :=
 (bad_sim E h hc).bind fun q q' hq => Sim.ret _ hq

theorem name_sim (E : Env l l' N A) {r r' : Rd} (h : SR l l' N A r r') (room : Bool) : Sim l l' N A r (r.name room) (r'.name room) := by
 refine Sim.wl E h (F := fun r => r.name room) (G := fun r => r.name room) fun r' h nr => ?_
 unfold Rd.name
 refine Sim.askP nr fun t t' ht ht' q => ?_
 rw [nr.g]
 rcases q with te | ⟨_, _, q, q'⟩
 · rw [te.k, te.x, nr.i]
   exact Sim.ite (fun _ => bad_ret E h (by decide) _) fun _ => Sim.ite (fun _ => bad_ret E h (by decide) _) fun _ => Sim.on _ h _ _ (Nat.le_succ _) fun _ => rfl
 · have e1 : (t.kind != 1) = true := by have := q.k1; simpa using this
   have e2 : (t'.kind != 1) = true := by have := q'.k1; simpa using this
   rw [e1, e2, Bool.or_true, if_pos rfl, if_pos rfl]
   exact bad_ret E h (by decide) _

theorem expr_sim (E : Env l l' N A) : ∀ n : Nat, (∀ r r' : Rd, SR l l' N A r r' → Sim l l' N A r (Rd.one n r) (Rd.one n r')) ∧ (∀ (r r' : Rd) (k : Int), SR l l' N A r r' → Sim l l' N A r (Rd.two n k r) (Rd.two n k r')) ∧
   (∀ (r r' : Rd) (k : Int) (x : Ex), SR l l' N A r r' → Sim l l' N A r (Rd.twoL n k x r) (Rd.twoL n k x r')) := by
 intro n
 induction n with
 | zero => exact ⟨fun r r' _ => by simp only [Rd.one]; exact Sim.non, fun r r' k _ => by simp only [Rd.two]; exact Sim.non, fun r r' k x _ => by simp only [Rd.twoL]; exact Sim.non⟩
 | succ n ih =>
   obtain ⟨ih1, ih2, ih3⟩ := ih
   refine ⟨fun r r' h => ?_, fun r r' k h => ?_, fun r r' k x h => ?_⟩
   · refine Sim.wl E h (F := Rd.one (n + 1)) (G := Rd.one (n + 1)) fun r' h nr => ?_
     simp only [Rd.one]
     refine Sim.askP nr fun t t' ht ht' q => ?_
     rw [nr.g, nr.i]
     refine Sim.ite (fun _ => Sim.ret _ h) fun _ => ?_
     have tail : Sim l l' N A r ((r.take [40]).bind fun p =>
       if p.1 then (Rd.two n 1 p.2).bind fun x => (x.2.want [41]).bind fun r => some (x.1, r)
       else (p.2.take [45]).bind fun p =>
         if p.1 then (Rd.one n p.2).bind fun x => some ((⟨3, 0, [], [x.1]⟩ : Ex), x.2)
         else (p.2.take [33]).bind fun p =>
           if p.1 then (Rd.one n p.2).bind fun x => some (⟨4, 0, [], [x.1]⟩, x.2)
           else (p.2.bad 3).bind fun r => some (ex0, r)) ((r'.take [40]).bind fun p =>
       if p.1 then (Rd.two n 1 p.2).bind fun x => (x.2.want [41]).bind fun r => some (x.1, r)
       else (p.2.take [45]).bind fun p =>
         if p.1 then (Rd.one n p.2).bind fun x => some ((⟨3, 0, [], [x.1]⟩ : Ex), x.2)
         else (p.2.take [33]).bind fun p =>
           if p.1 then (Rd.one n p.2).bind fun x => some (⟨4, 0, [], [x.1]⟩, x.2)
           else (p.2.bad 3).bind fun r => some (ex0, r)) := by
       refine (take_sim E h (by decide) (by decide)).bind fun a q q' hq => Sim.ite (fun _ => ?_) fun _ => ?_
       · refine (ih2 _ _ _ hq).bind fun x s s' hs => ?_
         exact (want_sim E hs (by decide) (by decide)).bind fun u u' hu => Sim.ret _ hu
       refine (take_sim E hq (by decide) (by decide)).bind fun a q q' hq => Sim.ite (fun _ => ?_) fun _ => ?_
       · exact (ih1 _ _ hq).bind fun x s s' hs => Sim.ret _ hs
       refine (take_sim E hq (by decide) (by decide)).bind fun a q q' hq => Sim.ite (fun _ => ?_) fun _ => ?_
       · exact (ih1 _ _ hq).bind fun x s s' hs => Sim.ret _ hs
       · exact bad_ret E hq (by decide) _
     rcases q with te | ⟨_, _, q, q'⟩
     · rw [te.k, te.x, te.n]
       exact Sim.ite (fun _ => Sim.on _ h _ _ (Nat.le_succ _) fun _ => rfl) fun _ => Sim.ite (fun _ => Sim.on _ h _ _ (Nat.le_succ _) fun _ => rfl) fun _ => tail
     · simp only [q.k1, q.k2, q'.k1, q'.k2, Bool.false_eq_true, ↓reduceIte]
       exact tail
   · simp only [Rd.two]
     exact (ih1 _ _ h).bind fun x s s' hs => ih3 _ _ _ _ hs
   · refine Sim.wl E h (F := Rd.twoL (n + 1) k x) (G := Rd.twoL (n + 1) k x) fun r' h nr => ?_
     simp only [Rd.twoL]
     rw [nr.g, nr.i]
     refine Sim.ite (fun _ => ?_) fun _ => Sim.ret _ h
     refine Sim.askP nr fun t t' ht ht' q => ?_
     rcases q with te | ⟨_, _, q, q'⟩
     · rw [te.op]
       refine Sim.ite (fun _ => Sim.ret _ h) fun _ => ?_
       intro p hp
       have hs : SR l l' N A { r with i := r.i + 1 } { r' with i := r.i + 1 } := h.set _ (Nat.le_succ _)
       obtain ⟨a, b, c⟩ := (Sim.bind (f := fun y => Rd.twoL n k ⟨(opOf t).1, 0, [], [x, y.1]⟩ y.2) (f' := fun y => Rd.twoL n k ⟨(opOf t).1, 0, [], [x, y.1]⟩ y.2) (ih2 _ _ ((opOf t).2 + 1) hs) fun y q q' hq => ih3 _ _ k _ hq) p hp
       exact ⟨Nat.le_trans (Nat.le_succ _) a, b, c⟩
     · rw [q.op, q'.op]
       have e : (decide ((0 : Int) < k) || (0 : Int) == 0) = true := by simp
       simp only [e, ↓reduceIte]
       exact Sim.ret _ h

theorem whole_sim (E : Env l l' N A) {n : Nat} {r r' : Rd} (h : SR l l' N A r r') : Sim l l' N A r (Rd.whole n r) (Rd.whole n r') := by
 refine Sim.wl E h (F := Rd.whole n) (G := Rd.whole n) fun r' h nr => ?_
 unfold Rd.whole
 refine Sim.askP nr fun t t' ht ht' q => ?_
 refine ((expr_sim E n).2.1 _ _ _ h).bind fun x s s' hs => ?_
 refine Sim.iteG hs (fun hg => Sim.same fun d _ => Sim.ite (fun _ => ?_) fun _ => Sim.ret _ hs) fun _ => Sim.ret _ hs
 intro p hp
 cases hp
 have hf : ({ s with code := 4, fat := t.pos } : Rd).good = false := rfl
 refine ⟨Nat.le_refl _, fun _ => hg, fun hc => ?_⟩
 rcases hc with hA | ⟨g, _⟩
 · have R := hs (.inl hA)
   have R0 := h (.inl hA)
   refine ⟨_, rfl, R.el, R.el', R.ei, R.en, rfl, .inr ⟨.inr rfl, r.i, t, t', ?_, ?_, rfl, rfl⟩⟩
   · have := (peek_get ht).2.1; rw [R0.el] at this; exact this
   · have := (peek_get ht').2.1; rw [R0.el', R0.ei] at this; exact this
 · rw [hf] at g; cases g

theorem names_sim (E : Env l l' N A) {most : Int} : ∀ (n : Nat) (L : List Str) (r r' : Rd), SR l l' N A r r' → Sim l l' N A r (Rd.names n L most r) (Rd.names n L most r') := by
 intro n
 induction n with
 | zero => intro L r r' _; simp only [Rd.names]; exact Sim.non
 | succ n ih =>
   intro L r r' h
   simp only [Rd.names]
   refine Sim.iteG h (fun _ => ?_) fun _ => Sim.ret _ h
   exact (name_sim E h _).bind fun a q q' hq => Sim.same fun L' _ => (take_sim E hq (by decide) (by decide)).bind fun b s s' hs =>
     Sim.ite (fun _ => (want_sim E hs (by decide) (by decide)).bind fun u u' hu => Sim.ret _ hu) fun _ => ih _ _ _ hs

theorem ahead_sim (E : Env l l' N A) {r r' : Rd} {s : Str} (nr : Near N A r r') (h1 : s ≠ [125]) {b : Bool} (hb : r.ahead s = some b) : r'.ahead s = some b := by
 unfold Rd.ahead at hb ⊢
 rw [nr.g]
 cases hg : r.good
 · simp only [hg, Bool.false_eq_true, ↓reduceIte] at hb ⊢; exact hb
 · simp only [hg, ↓reduceIte] at hb ⊢
   rw [Option.bind_eq_some_iff] at hb
   obtain ⟨t, ht, hb⟩ := hb
   obtain ⟨t', ht', q⟩ := nr.pk t ht
   rw [ht', Option.bind_some]
   rcases q with te | ⟨_, _, q, q'⟩
   · rw [te.k]
     cases hk : t.kind == 1
     · simp only [hk, Bool.false_eq_true, ↓reduceIte] at hb ⊢; exact hb
     · simp only [hk, ↓reduceIte] at hb ⊢
       rw [Option.bind_eq_some_iff] at hb
       obtain ⟨u, hu, hb⟩ := hb
       obtain ⟨u', hu', qu⟩ := nr.pk2 t ht (by simpa using hk) u hu
       rw [hu', Option.bind_some]
       rcases qu with te | ⟨q, q'⟩
       · rw [te.k, te.x]; exact hb
       · cases hb
         have a1 : (u.kind == 4 && u.text == s) = false := by
           rcases q with q | ⟨_, q⟩
           · simp [q]
           · have : (u.text == s) = false := by rw [q]; simpa using fun e => h1 e.symm
             simp [this]
         have a2 : (u'.kind == 4 && u'.text == s) = false := by rcases q' with q | ⟨q, _⟩ <;> simp [q]
         rw [a1, a2]
   · rw [q.k1] at hb
     rw [q'.k1]
     simpa using hb

theorem labels_sim (E : Env l l' N A) : ∀ (n : Nat) (L : List Str) (r r' : Rd), SR l l' N A r r' → Sim l l' N A r (Rd.labels n L r) (Rd.labels n L r') := by
 intro n
 induction n with
 | zero => intro L r r' _; simp only [Rd.labels]; exact Sim.non
 | succ n ih =>
   intro L r r' h
   refine Sim.wl E h (F := Rd.labels (n + 1) L) (G := Rd.labels (n + 1) L) fun r' h nr => ?_
   simp only [Rd.labels]
   refine Sim.ask (fun b hb _ => ahead_sim E nr (by decide) hb) fun b hb => Sim.ite (fun hbt => ?_) fun _ => Sim.ret _ h
   refine Sim.askP nr fun t t' ht ht' q => ?_
   have hx : t'.text = t.text := by
     rcases q with te | ⟨_, _, q, _⟩
     · exact te.x
     · exfalso
       subst hbt
       unfold Rd.ahead at hb
       split at hb
       · rw [ht, Option.bind_some, q.k1] at hb
         simp at hb
       · cases hb
   rw [hx, nr.i]
   refine Sim.same fun L' _ => ?_
   intro p hp
   obtain ⟨a, b, c⟩ := ih L' _ _ (h.set (r.i + 2) (by omega)) p hp
   exact ⟨Nat.le_trans (by dsimp only; omega) a, b, c⟩
end

end Go.Abs

/-! Sim3 -/

namespace Go.Abs

section
variable {l l' : List Tok} {N : Nat} {A : Prop}

theorem callL_sim (E : Env l l' N A) {m : Nat} : ∀ (n : Nat) (L : List Ar) (r r' : Rd), SR l l' N A r r' → Sim l l' N A r (Rd.callL m n L r) (Rd.callL m n L r') := by
 intro n
 induction n with
 | zero => intro L r r' _; simp only [Rd.callL]; exact Sim.non
 | succ n ih =>
   intro L r r' h
   simp only [Rd.callL]
   refine Sim.iteG h (fun _ => ?_) fun _ => Sim.ret _ h
   refine (take_sim E h (by decide) (by decide)).bind fun a q q' hq => Sim.ite (fun _ => ?_) fun _ => ?_
   · refine (name_sim E hq _).bind fun b s s' hs => Sim.same fun L' _ => ?_
     exact (take_sim E hs (by decide) (by decide)).bind fun c u u' hu => Sim.ite (fun _ => Sim.ret _ hu) fun _ => ih _ _ _ hu
   · refine (whole_sim E hq).bind fun b s s' hs => Sim.same fun L' _ => ?_
     exact (take_sim E hs (by decide) (by decide)).bind fun c u u' hu => Sim.ite (fun _ => Sim.ret _ hu) fun _ => ih _ _ _ hu

theorem other_sim (E : Env l l' N A) {r r' : Rd} (h : SR l l' N A r r') {s : Str} (h1 : s ≠ [125]) (h2 : s ≠ [112, 114, 111, 99]) {b : Bool} (hb : r.other s = some b) (hc : Cnd N A r) : r'.other s = some b := by
 unfold Rd.other at hb ⊢
 rw [h.goods hc]
 cases hg : r.good
 · simp only [hg, Bool.false_eq_true, ↓reduceIte] at hb ⊢; exact hb
 · simp only [hg, ↓reduceIte] at hb ⊢
   rw [Option.bind_eq_some_iff] at hb
   obtain ⟨c, h3, hb⟩ := hb
   rw [is_sim E h h1 h2 h3 hc]
   exact hb

theorem call_sim (E : Env l l' N A) {m : Nat} {name proc : Str} {r r' : Rd} (h : SR l l' N A r r') : Sim l l' N A r (Rd.call m name proc r) (Rd.call m name proc r') := by
 unfold Rd.call
 refine (want_sim E h (by decide) (by decide)).bind fun q q' hq => ?_
 refine Sim.ask (fun b hb hc => other_sim E hq (by decide) (by decide) hb hc) fun b _ => Sim.ite (fun _ => ?_) fun _ => ?_
 · refine (callL_sim E _ _ _ _ hq).bind fun a s s' hs => ?_
   exact (want_sim E hs (by decide) (by decide)).bind fun u u' hu => (want_sim E hu (by decide) (by decide)).bind fun v v' hv => Sim.ret _ hv
 · exact (want_sim E hq (by decide) (by decide)).bind fun u u' hu => (want_sim E hu (by decide) (by decide)).bind fun v v' hv => Sim.ret _ hv

theorem Sim.aheadB {α : Type} (E : Env l l' N A) {r r' : Rd} (h : SR l l' N A r r') {s : Str} (h1 : s ≠ [125]) {f f' : Bool → Option (α × Rd)} (k : ∀ b, Sim l l' N A r (f b) (f' b)) : Sim l l' N A r ((r.ahead s).bind f) ((r'.ahead s).bind f') :=
 Sim.ask (fun b hb hc => ahead_sim E (near_of E h hc) h1 hb) fun b _ => k b

theorem named_sim (E : Env l l' N A) {m : Nat} {r r' : Rd} (h : SR l l' N A r r') : Sim l l' N A r (Rd.named m r) (Rd.named m r') := by
 unfold Rd.named
 refine (name_sim E h _).bind fun a q q' hq => ?_
 refine Sim.ask (fun b hb hc => is_sim E hq (by decide) (by decide) hb hc) fun b _ => Sim.ite (fun _ => call_sim E hq) fun _ => ?_
 refine (want_sim E hq (by decide) (by decide)).bind fun u u' hu => ?_
 refine Sim.aheadB E hu (by decide) fun b => Sim.ite (fun _ => ?_) fun _ => ?_
 · exact (name_sim E hu _).bind fun c s s' hs => call_sim E hs
 · exact (whole_sim E hu).bind fun c s s' hs => (want_sim E hs (by decide) (by decide)).bind fun v v' hv => Sim.ret _ hv

theorem plain_sim (E : Env l l' N A) {m : Nat} {word : Str} {r r' : Rd} (h : SR l l' N A r r') : Sim l l' N A r (Rd.plain m word r) (Rd.plain m word r') := by
 unfold Rd.plain
 refine Sim.ite (fun _ => Sim.ret _ h) fun _ => Sim.ite (fun _ => Sim.ret _ h) fun _ => Sim.ite (fun _ => ?_) fun _ => ?_
 · refine Sim.ask (fun b hb hc => is_sim E h (by decide) (by decide) hb hc) fun b _ => Sim.ite (fun _ => ?_) fun _ => Sim.ret _ h
   exact (whole_sim E h).bind fun a s s' hs => Sim.ret _ hs
 refine Sim.ite (fun _ => (name_sim E h _).bind fun a s s' hs => Sim.ret _ hs) fun _ => Sim.ite (fun _ => (name_sim E h _).bind fun a s s' hs => Sim.ret _ hs) fun _ => Sim.ite (fun _ => ?_) fun _ => Sim.ret _ h
 exact (whole_sim E h).bind fun a s s' hs => Sim.ret _ hs

theorem head_sim (E : Env l l' N A) {m : Nat} {r r' : Rd} (h : SR l l' N A r r') : Sim l l' N A r (Rd.head m r) (Rd.head m r') := by
 unfold Rd.head
 refine (want_sim E h (by decide) (by decide)).bind fun q q' hq => ?_
 exact (whole_sim E hq).bind fun a s s' hs => (want_sim E hs (by decide) (by decide)).bind fun v v' hv => Sim.ret _ hv

theorem begins_sim {r r' : Rd} (nr : Near N A r r') {b : Bool} (hb : r.begins = some b) : r'.begins = some b := by
 unfold Rd.begins at hb ⊢
 rw [Option.bind_eq_some_iff] at hb
 obtain ⟨t, ht, hb⟩ := hb
 obtain ⟨t', ht', q⟩ := nr.pk t ht
 rw [ht', Option.bind_some]
 rcases q with te | ⟨_, _, q, q'⟩
 · rw [te.k, te.x]; exact hb
 · cases hb
   have e1 : (t.kind != 3) = true := by rcases q with q | ⟨q, _⟩ <;> simp [q]
   simp only [q.k1, q'.k1, e1, Bool.false_eq_true, ↓reduceIte]
   rcases q' with q | ⟨q, e⟩
   · simp [q]
   · rw [q, e]; rfl

theorem SR.setn {r r' : Rd} (h : SR l l' N A r r') (k : Nat) : SR l l' N A { r with n := k } { r' with n := k } := by
 intro hc
 have := h (hc.back (r := r) (Nat.le_refl _) id)
 exact ⟨this.el, this.el', this.ei, rfl, this.ec, this.ef⟩
theorem Sim.from {α : Type} {r s : Rd} {o o' : Option (α × Rd)} (h : Sim l l' N A s o o') (hi : r.i ≤ s.i) (hg : s.good = true → r.good = true) : Sim l l' N A r o o' := by
 intro p hp
 obtain ⟨a, b, c⟩ := h p hp
 exact ⟨Nat.le_trans hi a, fun g => hg (b g), c⟩

theorem stmt_quiet {m n : Nat} {nest : Int} {r : Rd} {t : Tok} (ht : r.peek = some t) (q : Quiet t) {p : Sm × Rd} (hp : Rd.stmt m n nest r = some p) : p.2.good = false := by
 cases n with
 | zero => simp only [Rd.stmt] at hp; cases hp
 | succ n =>
   have e1 : (t.kind != 3) = true := by rcases q with q | ⟨q, _⟩ <;> simp [q]
   simp only [Rd.stmt, Rd.begins, ht, Option.bind_some, q.k1, e1, Bool.false_eq_true, ↓reduceIte, Bool.not_false] at hp
   rw [Option.bind_eq_some_iff] at hp
   obtain ⟨r1, h1, hp⟩ := hp
   cases hp
   unfold Rd.bad at h1
   split at h1
   · rw [ht, Option.bind_some] at h1
     cases h1; rfl
   · rename_i hg
     cases h1
     simpa using hg

theorem rowsL_bad {m n : Nat} {nest : Int} {body : Bool} {out : List Sm} {r : Rd} (hg : r.good = false) {p : (List Sm × List Str) × Rd} (hp : Rd.rowsL m n nest body out r = some p) : p.2.good = false := by
 cases n with
 | zero => simp only [Rd.rowsL] at hp; cases hp
 | succ n =>
   simp only [Rd.rowsL, hg, Bool.false_eq_true, ↓reduceIte] at hp
   cases hp
   exact hg

theorem stmts_sim (E : Env l l' N A) {m : Nat} : ∀ n : Nat,
   (∀ (nest : Int) (body : Bool) (r r' : Rd), SR l l' N A r r' → Sim l l' N A r (Rd.rows m n nest body r) (Rd.rows m n nest body r')) ∧
   (∀ (nest : Int) (body : Bool) (out : List Sm) (r r' : Rd), SR l l' N A r r' → Sim l l' N A r (Rd.rowsL m n nest body out r) (Rd.rowsL m n nest body out r')) ∧
   (∀ (nest : Int) (r r' : Rd), SR l l' N A r r' → Sim l l' N A r (Rd.stmt m n nest r) (Rd.stmt m n nest r')) ∧
   (∀ (nest : Int) (r r' : Rd), SR l l' N A r r' → Sim l l' N A r (Rd.block m n nest r) (Rd.block m n nest r')) ∧
   (∀ (nest : Int) (r r' : Rd), SR l l' N A r r' → Sim l l' N A r (Rd.choice m n nest r) (Rd.choice m n nest r')) := by
 intro n
 induction n with
 | zero =>
   refine ⟨fun _ _ r r' _ => ?_, fun _ _ _ r r' _ => ?_, fun _ r r' _ => ?_, fun _ r r' _ => ?_, fun _ r r' _ => ?_⟩
   · simp only [Rd.rows]; exact Sim.non
   · simp only [Rd.rowsL]; exact Sim.non
   · simp only [Rd.stmt]; exact Sim.non
   · simp only [Rd.block]; exact Sim.non
   · simp only [Rd.choice]; exact Sim.non
 | succ n ih =>
   obtain ⟨i1, i2, i3, i4, i5⟩ := ih
   refine ⟨fun nest body r r' h => ?_, fun nest body out r r' h => ?_, fun nest r r' h => ?_, fun nest r r' h => ?_, fun nest r r' h => ?_⟩
   · simp only [Rd.rows]
     exact i2 _ _ _ _ _ h
   · simp only [Rd.rowsL]
     refine Sim.iteG h (fun hg => ?_) fun _ => Sim.ret _ h
     refine (labels_sim E m [] _ _ h).bind fun ls q q' hq => ?_
     have go : ∀ (q' : Rd) (b : Bool), SR l l' N A q q' → q'.i = q.i → Sim l l' N A q (if b && (body || (ls.length : Int) == 0) then some ((out, ls), { q with i := q.i + 1 }) else (Rd.stmt m n nest q).bind fun s => (push 209 out { s.1 with labels := ls }).bind fun out => Rd.rowsL m n nest body out s.2)
         (if b && (body || (ls.length : Int) == 0) then some ((out, ls), { q' with i := q'.i + 1 }) else (Rd.stmt m n nest q').bind fun s => (push 209 out { s.1 with labels := ls }).bind fun out => Rd.rowsL m n nest body out s.2) := by
       intro q' b hq hi
       refine Sim.ite (fun _ => Sim.on _ hq _ _ (Nat.le_succ _) fun _ => by rw [hi]) fun _ => ?_
       exact (i3 _ _ _ hq).bind fun s u u' hu => Sim.same fun out' _ => i2 _ _ _ _ _ hu
     have := Sim.wl E hq (F := fun q => (q.is [125]).bind fun b => if b && (body || (ls.length : Int) == 0) then some ((out, ls), { q with i := q.i + 1 }) else (Rd.stmt m n nest q).bind fun s => (push 209 out { s.1 with labels := ls }).bind fun out => Rd.rowsL m n nest body out s.2)
       (G := fun q => (q.is [125]).bind fun b => if b && (body || (ls.length : Int) == 0) then some ((out, ls), { q with i := q.i + 1 }) else (Rd.stmt m n nest q).bind fun s => (push 209 out { s.1 with labels := ls }).bind fun out => Rd.rowsL m n nest body out s.2) fun q' hq nr => by
         unfold Rd.is
         rw [Option.bind_assoc, Option.bind_assoc]
         refine Sim.askP nr fun t t' ht ht' x => ?_
         rw [Option.bind_some, Option.bind_some]
         rcases x with te | ⟨hA, hN, x, x'⟩
         · rw [te.k, te.x]
           exact go q' _ hq nr.i
         · refine Sim.void (go q' _ hq nr.i) fun p hp hc => ?_
           rcases hc with hc | ⟨hg2, hi2⟩
           · exact hA hc
           · split at hp
             · cases hp
               dsimp only at hi2
               omega
             · rw [Option.bind_eq_some_iff] at hp
               obtain ⟨s, h1, hp⟩ := hp
               rw [Option.bind_eq_some_iff] at hp
               obtain ⟨out', _, hp⟩ := hp
               have := rowsL_bad (stmt_quiet ht x h1) hp
               rw [this] at hg2; cases hg2
     exact this
   · refine Sim.wl E h (F := Rd.stmt m (n + 1) nest) (G := Rd.stmt m (n + 1) nest) fun r' h nr => ?_
     simp only [Rd.stmt]
     refine Sim.ask (fun b hb _ => begins_sim nr hb) fun b hb => Sim.ite (fun _ => bad_ret E h (by decide) _) fun hnb => ?_
     rw [nr.n]
     refine Sim.same fun k _ => ?_
     have hk := h.setn k
     refine Sim.ite (fun _ => (bad_ret E hk (by decide) _).from (Nat.le_refl _) id) fun _ => ?_
     have nk : Near N A { r with n := k } { r' with n := k } := ⟨nr.g, nr.i, rfl, nr.pk, nr.pk2⟩
     have hki : SR l l' N A { r with n := k, i := r.i + 1 } { r' with n := k, i := r'.i + 1 } := by
       have := hk.set (r.i + 1) (Nat.le_succ _)
       dsimp only at this
       rw [nr.i]
       exact this
     refine Sim.from (s := { r with n := k }) ?_ (Nat.le_refl _) id
     refine Sim.askP nk fun t t' ht ht' q => ?_
     have part : ∀ t : Tok, Sim l l' N A { r with n := k } (if t.kind == 1 then Rd.named m { r with n := k }
         else if t.text == [105, 102] then Rd.choice m n nest { r with n := k, i := r.i + 1 }
         else if t.text == [119, 104, 105, 108, 101] then (Rd.head m { r with n := k, i := r.i + 1 }).bind fun x => (Rd.block m n nest x.2).bind fun b => some (⟨0, 6, [], [], [], x.1, false, [], b.1, []⟩, b.2)
         else (Rd.plain m t.text { r with n := k, i := r.i + 1 }).bind fun s => (s.2.want [59]).bind fun r => some (s.1, r))
         (if t.kind == 1 then Rd.named m { r' with n := k }
         else if t.text == [105, 102] then Rd.choice m n nest { r' with n := k, i := r'.i + 1 }
         else if t.text == [119, 104, 105, 108, 101] then (Rd.head m { r' with n := k, i := r'.i + 1 }).bind fun x => (Rd.block m n nest x.2).bind fun b => some (⟨0, 6, [], [], [], x.1, false, [], b.1, []⟩, b.2)
         else (Rd.plain m t.text { r' with n := k, i := r'.i + 1 }).bind fun s => (s.2.want [59]).bind fun r => some (s.1, r)) := by
       intro t
       refine Sim.ite (fun _ => named_sim E hk) fun _ => Sim.from (s := { r with n := k, i := r.i + 1 }) ?_ (Nat.le_succ _) id
       refine Sim.ite (fun _ => i5 _ _ _ hki) fun _ => Sim.ite (fun _ => ?_) fun _ => ?_
       · exact (head_sim E hki).bind fun a s s' hs => (i4 _ _ _ hs).bind fun b u u' hu => Sim.ret _ hu
       · exact (plain_sim E hki).bind fun a s s' hs => (want_sim E hs (by decide) (by decide)).bind fun u u' hu => Sim.ret _ hu
     rcases q with te | ⟨hA, hN, q, q'⟩
     · rw [te.k, te.x]
       exact part t
     · exfalso
       have ht : r.peek = some t := ht
       have e1 : (t.kind != 3) = true := by rcases q with q | ⟨q, _⟩ <;> simp [q]
       simp only [Rd.begins, ht, Option.bind_some, q.k1, e1, Bool.false_eq_true, ↓reduceIte] at hb
       cases hb
       simp at hnb
   · simp only [Rd.block]
     refine (want_sim E h (by decide) (by decide)).bind fun q q' hq => Sim.same fun k _ => ?_
     exact (i1 _ _ _ _ hq).bind fun a s s' hs => Sim.ret _ hs
   · simp only [Rd.choice]
     refine (head_sim E h).bind fun a q q' hq => (i4 _ _ _ hq).bind fun b s s' hs => ?_
     refine (take_sim E hs (by decide) (by decide)).bind fun c u u' hu => Sim.ite (fun _ => ?_) fun _ => Sim.ret _ hu
     exact (i4 _ _ _ hu).bind fun d v v' hv => Sim.ret _ hv
end

end Go.Abs

/-! Sim4 -/

namespace Go.Abs

section
variable {l l' : List Tok} {N : Nat} {A : Prop}

theorem params_sim (E : Env l l' N A) : ∀ (n : Nat) (L : List Pm) (r r' : Rd), SR l l' N A r r' → Sim l l' N A r (Rd.params n L r) (Rd.params n L r') := by
 intro n
 induction n with
 | zero => intro L r r' _; simp only [Rd.params]; exact Sim.non
 | succ n ih =>
   intro L r r' h
   simp only [Rd.params]
   refine Sim.iteG h (fun _ => ?_) fun _ => Sim.ret _ h
   refine (take_sim E h (by decide) (by decide)).bind fun a q q' hq => (name_sim E hq _).bind fun b s s' hs => Sim.same fun L' _ => ?_
   exact (take_sim E hs (by decide) (by decide)).bind fun c u u' hu => Sim.ite (fun _ => Sim.ret _ hu) fun _ => ih _ _ _ hu

theorem vars_sim (E : Env l l' N A) {m : Nat} : ∀ (n : Nat) (L : List Str) (r r' : Rd), SR l l' N A r r' → Sim l l' N A r (Rd.vars m n L r) (Rd.vars m n L r') := by
 intro n
 induction n with
 | zero => intro L r r' _; simp only [Rd.vars]; exact Sim.non
 | succ n ih =>
   intro L r r' h
   simp only [Rd.vars]
   refine (take_sim E h (by decide) (by decide)).bind fun a q q' hq => Sim.ite (fun _ => ?_) fun _ => Sim.ret _ hq
   exact (names_sim E _ _ _ _ hq).bind fun b s s' hs => ih _ _ _ hs

theorem globals_sim (E : Env l l' N A) {m : Nat} : ∀ (n : Nat) (L : List Str) (r r' : Rd), SR l l' N A r r' → Sim l l' N A r (Rd.globals m n L r) (Rd.globals m n L r') := by
 intro n
 induction n with
 | zero => intro L r r' _; simp only [Rd.globals]; exact Sim.non
 | succ n ih =>
   intro L r r' h
   simp only [Rd.globals]
   refine (take_sim E h (by decide) (by decide)).bind fun a q q' hq => Sim.ite (fun _ => ?_) fun _ => Sim.ret _ hq
   exact (names_sim E _ _ _ _ hq).bind fun b s s' hs => ih _ _ _ hs

theorem procB_sim (E : Env l l' N A) {m : Nat} {name : Str} {ps : List Pm} {r r' : Rd} (h : SR l l' N A r r') : Sim l l' N A r (Rd.procB m name ps r) (Rd.procB m name ps r') := by
 unfold Rd.procB
 exact (vars_sim E _ _ _ _ h).bind fun a q q' hq => ((stmts_sim E _).1 _ _ _ _ hq).bind fun b s s' hs => Sim.ret _ hs

theorem proc_sim (E : Env l l' N A) {m : Nat} {r r' : Rd} (h : SR l l' N A r r') : Sim l l' N A r (Rd.proc m r) (Rd.proc m r') := by
 unfold Rd.proc
 refine (name_sim E h _).bind fun a q q' hq => (want_sim E hq (by decide) (by decide)).bind fun u u' hu => ?_
 refine Sim.ask (fun b hb hc => other_sim E hu (by decide) (by decide) hb hc) fun b _ => Sim.ite (fun _ => ?_) fun _ => ?_
 · refine (params_sim E _ _ _ _ hu).bind fun c s s' hs => (want_sim E hs (by decide) (by decide)).bind fun v v' hv => ?_
   exact (want_sim E hv (by decide) (by decide)).bind fun w w' hw => procB_sim E hw
 · exact (want_sim E hu (by decide) (by decide)).bind fun v v' hv => (want_sim E hv (by decide) (by decide)).bind fun w w' hw => procB_sim E hw

/-! ### Everywhere alike -/

theorem isProc_all (E : Env l l' N True) {r r' : Rd} (h : SR l l' N True r r') {b : Bool} (hb : r.isProc = some b) : r'.isProc = some b := by
 have hc : Cnd N True r := .inl trivial
 unfold Rd.isProc Rd.is at hb ⊢
 rw [h.goods hc]
 cases hg : r.good
 · simp only [hg, Bool.false_eq_true, ↓reduceIte] at hb ⊢; exact hb
 · simp only [hg, ↓reduceIte] at hb ⊢
   rw [Option.bind_eq_some_iff] at hb
   obtain ⟨t, ht, hb⟩ := hb
   obtain ⟨t', e, te⟩ := peek_low E h hc (.inl trivial) ht
   rw [e, Option.bind_some, te.k, te.x]
   exact hb
theorem notEnd_all (E : Env l l' N True) {r r' : Rd} (h : SR l l' N True r r') {b : Bool} (hb : r.notEnd = some b) : r'.notEnd = some b := by
 have hc : Cnd N True r := .inl trivial
 unfold Rd.notEnd at hb ⊢
 rw [h.goods hc]
 cases hg : r.good
 · simp only [hg, Bool.false_eq_true, ↓reduceIte] at hb ⊢; exact hb
 · simp only [hg, ↓reduceIte] at hb ⊢
   rw [Option.bind_eq_some_iff] at hb
   obtain ⟨t, ht, hb⟩ := hb
   obtain ⟨t', e, te⟩ := peek_low E h hc (.inl trivial) ht
   rw [e, Option.bind_some, te.k]
   exact hb

theorem procs_sm (E : Env l l' N True) {m : Nat} : ∀ (n : Nat) (L : List Pc) (r r' : Rd), SR l l' N True r r' → Sim l l' N True r (Rd.procs m n L r) (Rd.procs m n L r') := by
 intro n
 induction n with
 | zero => intro L r r' _; simp only [Rd.procs]; exact Sim.non
 | succ n ih =>
   intro L r r' h
   simp only [Rd.procs]
   refine Sim.ask (fun b hb _ => isProc_all E h hb) fun b _ => Sim.ite (fun _ => Sim.ite (fun _ => bad_ret E h (by decide) _) fun _ => ?_) fun _ => ?_
   · have R := h (.inl trivial)
     rw [R.ei]
     refine Sim.from (s := { r with i := r.i + 1 }) ?_ (Nat.le_succ _) id
     exact (proc_sim E (h.set _ (Nat.le_succ _))).bind fun a q q' hq => Sim.same fun L' _ => ih _ _ _ hq
   · exact Sim.ask (fun b hb _ => notEnd_all E h hb) fun b _ => Sim.ite (fun _ => bad_ret E h (by decide) _) fun _ => Sim.ret _ h

theorem program_all (E : Env l l' N True) {m : Nat} {r r' : Rd} (h : SR l l' N True r r') : Sim l l' N True r (Rd.program m r) (Rd.program m r') := by
 unfold Rd.program
 exact (globals_sim E _ _ _ _ h).bind fun a q q' hq => (procs_sm E _ _ _ _ hq).bind fun b s s' hs => Sim.ret _ hs
end

end Go.Abs

/-! MayLaw4 -/

namespace Go.Abs

theorem runL_nameT : ∀ s : Str, nameT (s.take (runL s)) = true
 | [] => rfl
 | c :: r => by
   simp only [runL]
   split
   · rename_i h
     rw [List.take_succ_cons]
     have : (!(isL c) && !(isD c)) = false := by
       cases h1 : isL c <;> cases h2 : isD c <;> simp [h1, h2] at h ⊢
     simp only [nameT, this, Bool.false_eq_true, ↓reduceIte]
     exact runL_nameT r
   · rfl
theorem worth_nn : ∀ (s : Str) (a n : Int), worth a s = some n → 0 ≤ a → (∀ c ∈ s, isD c = true) → 0 ≤ n
 | [], a, n, h, ha, _ => by simp only [worth] at h; cases h; exact ha
 | c :: r, a, n, h, ha, hd => by
   simp only [worth] at h
   split at h
   · cases h
   · have hcd := hd c (List.mem_cons_self ..)
     simp only [isD, Bool.and_eq_true, decide_eq_true_eq] at hcd
     exact worth_nn r _ n h (by omega) fun x hx => hd x (List.mem_cons_of_mem _ hx)
theorem runD_each : ∀ s : Str, ∀ c ∈ s.take (runD s), isD c = true
 | [], c, h => by simp at h
 | d :: s, c, h => by
   simp only [runD] at h
   split at h
   · rename_i hd
     rw [List.take_succ_cons] at h
     rcases List.mem_cons.1 h with rfl | h
     · exact hd
     · exact runD_each s c h
   · simp at h

theorem tokE_tk {pos : Nat} {s : Str} {t : Tok} (h : tokE pos s = .inl t) : (t.kind = 1 → isName t.text = true) ∧ (t.kind = 2 → 0 ≤ t.n) ∧ 1 ≤ t.kind := by
 cases s with
 | nil => simp only [tokE] at h; cases h
 | cons c r =>
   simp only [tokE] at h
   cases hL : isL c
   · simp only [hL, Bool.false_eq_true, ↓reduceIte] at h
     cases hD : isD c
     · simp only [hD, Bool.false_eq_true, ↓reduceIte] at h
       split at h
       · cases h
       · cases h; simp
     · simp only [hD, ↓reduceIte] at h
       split at h
       · cases h
       · split at h
         · rename_i n hw
           cases h
           exact ⟨by simp, fun _ => worth_nn _ _ _ hw (by omega) (runD_each _), by simp⟩
         · cases h
   · simp only [hL, ↓reduceIte] at h
     split at h
     · cases h
     · rename_i h8
       cases h
       refine ⟨fun hk => ?_, fun hk => ?_, ?_⟩
       · dsimp only at hk ⊢
         have hw : isWord ((c :: r).take (runL (c :: r))) = false := by
           cases hx : isWord ((c :: r).take (runL (c :: r)))
           · rfl
           · rw [hx] at hk; simp at hk
         have e : runL (c :: r) = runL r + 1 := by simp [runL, hL]
         rw [e, List.take_succ_cons] at hw h8 ⊢
         have hn := runL_nameT r
         have e8 : decide (((List.take (runL r) r).length + 1 : Nat) > (8 : Int)) = false := by
           simp only [List.length_cons] at h8
           simp only [decide_eq_false_iff_not]; omega
         simp only [isName, e8, hL, hn, hw, Bool.not_true, Bool.or_self, Bool.false_eq_true, ↓reduceIte, Bool.not_false]
       · dsimp only at hk; split at hk <;> omega
       · dsimp only; split <;> omega
theorem Lx.tk {pos : Nat} {s : Str} {l : List Tok} (h : Lx pos s l) : ∀ t ∈ l, (t.kind = 1 → isName t.text = true) ∧ (t.kind = 2 → 0 ≤ t.n) ∧ 1 ≤ t.kind := by
 induction h with
 | nil => simp
 | blank pos c r l h k ih => exact ih
 | rem pos c r l h h2 k ih => exact ih
 | tok pos c r t l h h2 ht k ih =>
   intro u hu
   rcases List.mem_cons.1 hu with rfl | hu
   · exact tokE_tk ht
   · exact ih u hu
theorem Lx.tks {s : Str} {l : List Tok} {n : Nat} (h : Lx 0 s l) : TKs (l ++ [tEnd n]) := by
 intro t ht
 rcases List.mem_append.1 ht with h1 | h1
 · exact ⟨(h.tk t h1).1, (h.tk t h1).2.1⟩
 · simp at h1; subst h1; simp [tEnd]

def FOk (L : List Tok) (c fat : Int) : Prop := c = 0 ∧ fat = 0 ∨ (c = 3 ∨ c = 4) ∧ ∃ t ∈ L, t.pos = fat

theorem self_envM (l : List Tok) : Env l l 0 True := ⟨fun i t ht _ => ⟨t, ht, rfl, rfl, rfl⟩, fun f => absurd trivial f⟩
theorem self_rd0 (l : List Tok) : SR l l 0 True (rd0 l) (rd0 l) := fun _ => ⟨rfl, rfl, rfl, rfl, rfl, .inl rfl⟩

theorem parse_tells {m : Nat} {text : Str} {p : Pg} {c fat : Int} (h : parseM m text = some (p, c, fat)) (h0 : (lexAll text).2.1 = 0) : FOk (lexAll text).1 c fat ∧ (c = 0 → p.may = true) := by
 obtain ⟨l, hl, hlen, hl2, e⟩ := Lx_lexAll h0
 unfold parseM at h
 rw [e] at h ⊢
 have hn0 : ((0 : Int) != 0) = false := rfl
 simp only [hn0, Bool.false_eq_true, ↓reduceIte] at h
 rw [Option.bind_eq_some_iff] at h
 obtain ⟨P, hP, h⟩ := h
 obtain ⟨_, _, m3⟩ := program_all (self_envM _) (self_rd0 _) P hP
 obtain ⟨q', _, R⟩ := m3 (.inl trivial)
 split at h
 · rename_i hc
   cases h
   simp only [bne_iff_ne, ne_eq] at hc
   refine ⟨.inr ?_, fun h => absurd h hc⟩
   rcases R.ef with f | ⟨hcc, j, t, t', g1, g2, g3, g4⟩
   · exact absurd f hc
   · exact ⟨hcc, t, List.mem_of_getElem? g1, g3.symm⟩
 · rename_i hc
   rw [Option.bind_eq_some_iff] at h
   obtain ⟨q, h3, h⟩ := h
   unfold Pg.numberO at h3
   split at h3
   · cases h3
     cases h
     exact ⟨.inl ⟨rfl, rfl⟩, fun _ => (program_may hl.tks hP (by simpa [Rd.good] using hc)).1⟩
   · cases h3

/-! ### Not both -/

end Go.Abs

/-! Bld -/

namespace Go.Abs

set_option maxRecDepth 8000
open Go.Proofs

def tWriter : TypeId := 68
theorem writer_lies : liesAt Tryd.prog Tryd.prog.depth tWriter (2 / Tryd.prog.cellsOf tWriter) 0 66 1 = true := by kernel_rfl

def bobj (o t : Nat) (l : Str) : List D := [.selfp tWriter o, .slice (.tok t true) 1 (encBy l)]
def bst (l : Str) : St := ⟨[bobj 0 0 l], [some l.length]⟩

theorem encBy_app (a b : Str) : encBy (a ++ b) = encBy a ++ encBy b := by simp [encBy]
theorem encBy_len (a : Str) : (encBy a).length = a.length := by simp [encBy]
theorem okrBy (n m : Nat) (l : Str) : D.okr n m (encBy l) = true := by
 simp [encBy, okr_eq, oks_eq, D.ok]
theorem renrBy (os ts : List Nat) (l : Str) : D.renr os ts (encBy l) = encBy l := renr_ok00 _ _ _ (okrBy 0 0 l)
theorem fgrBy (n m : Nat) (l : Str) : D.fgr n m (encBy l) = encBy l := fgr_ok n m _ (okrBy 0 0 l)

theorem appB_by {l m : Str} {t : Nat} {y : Bool} {g : Tag} {s : St} (h1 : l.length + m.length ≤ 549755813888) (h2 : s.toks[t]? = some (some l.length)) :
   appB (.slice (.tok t y) 1 (encBy l)) (.slice g 1 (encBy m)) s = some (.slice (.tok t y) 1 (encBy (l ++ m)), ⟨s.objs, s.toks.set t (some (l ++ m).length)⟩) := by
 have h3 : ((encBy l).length + (encBy m).length) * 2 ≤ maxStr := by simp only [encBy_len, maxStr]; omega
 cases m with
 | nil =>
   have : s.toks.set t (some l.length) = s.toks := by
     apply List.ext_getElem?
     intro i
     rw [List.getElem?_set]
     split
     · rename_i hi; subst hi; rw [h2, if_pos (List.getElem?_eq_some_iff.1 h2).1]
     · rfl
   simp only [encBy_len] at h3
   simp [appB, encBy, this]
   simpa [encBy] using h3
 | cons c m =>
   have e : encBy (c :: m) = [.int .u8 c.toNat] :: encBy m := rfl
   rw [e] at h3
   simp only [appB, e]
   rw [if_pos ⟨.inr trivial, .inr trivial, h3⟩]
   have h4 : s.toks[t]? = some (some (encBy l).length) := by rw [encBy_len]; exact h2
   simp only [h4, and_self, ↓reduceIte, encBy_app, e, List.length_append, List.length_cons, encBy_len]

theorem appB_str {l m : Str} {t : Nat} {y : Bool} {g : Tag} {s : St} (h1 : l.length + m.length ≤ 549755813888) (h2 : s.toks[t]? = some (some l.length)) :
   appB (.slice (.tok t y) 1 (encBy l)) (.slice g 1 (m.map fun c => [.int .u8 c.toNat])) s = some (.slice (.tok t y) 1 (encBy (l ++ m)), ⟨s.objs, s.toks.set t (some (l ++ m).length)⟩) := appB_by h1 h2
theorem appB_one {l : Str} {c : UInt8} {t : Nat} {y : Bool} {g : Tag} {s : St} (h1 : l.length + 1 ≤ 549755813888) (h2 : s.toks[t]? = some (some l.length)) :
   appB (.slice (.tok t y) 1 (encBy l)) (.slice g 1 [[.int .u8 c.toNat]]) s = some (.slice (.tok t y) 1 (encBy (l ++ [c])), ⟨s.objs, s.toks.set t (some (l ++ [c]).length)⟩) := appB_by (m := [c]) h1 h2
@[go_sem] theorem fgs_bobj {n m o t : Nat} {l : Str} (ho : o < n) (ht : t < m) : D.fgs n m (bobj o t l) = bobj o t l := by
 simp [bobj, D.fgs, D.fg, Tag.fg, ho, ht, fgrBy]
attribute [go_sem] fgrBy
theorem Fun.bld {P : Program} {f : Nat} {args : List D} {l l' : Str} {d : D} (h : Fun P f (.ptr 0 0 :: args) (bst l) d (bst l')) (ha : D.oks 0 0 args = true) (hd : D.ok 0 0 d = true)
   {s : St} {o t : Nat} (ho : s.objs[o]? = some (bobj o t l)) (ht : s.toks[t]? = some (some l.length)) : Fun P f (.ptr o 0 :: args) s d ⟨s.objs.set o (bobj o t l'), s.toks.set t (some l'.length)⟩ := by
 refine ACalls.frame [o] [t] h (by simp) (by simp) (by simpa using (List.getElem?_eq_some_iff.1 ho).1) (by simpa using (List.getElem?_eq_some_iff.1 ht).1) rfl (fun i o' ds e1 e2 => ?_) rfl (fun i t' e1 => ?_)
   (by simp [D.rens, D.ren, rens_ok00 _ _ _ ha]) (by simp [D.oks, D.ok, oks_mono (Nat.zero_le 1) (Nat.zero_le 1) _ ha]) ?_
 · cases i with
   | zero =>
     simp [bst] at e1 e2; subst e1; subst e2
     exact ⟨by simp [bobj, D.rens, D.ren, Tag.ren, renrBy, ho], by simp [bobj, D.oks, D.ok, Tag.ok, okrBy]⟩
   | succ i => simp at e1
 · cases i with
   | zero => simp at e1; subst e1; simp [bst, ht]
   | succ i => simp at e1
 · rintro _ _ ⟨rfl, rfl⟩
   refine ⟨by simp [D.back, ren_ok00 _ _ _ hd], ?_⟩
   simp [St.back, plug, bst, allNums, D.rens, D.ren, Tag.ren, renrBy, bobj]

theorem WriteString_0 (l m : Str) (h : l.length + m.length ≤ 549755813888) : Fun Tryd.prog n_strings_Builder_WriteString [.ptr 0 0, .str m] (bst l) (.tuple [.int .i64 m.length, .val .nilIface]) (bst (l ++ m)) := by
 have hc := copyCheck_s (T := tWriter) (s := bst l) (o := 0) (r := [.slice (.tok 0 true) 1 (encBy l)]) rfl rfl writer_lies
 have ha := appB_str (l := l) (m := m) (t := 0) (y := true) (g := .shared) (s := bst l) h rfl
 simp only [bst, bobj] at hc ha
 unfold bst bobj
 refine Fun.go has_strings_Builder_WriteString rfl fun B Q hB hQ => ?_
 have ⟨hC, hH, hJ, hM⟩ := H4_
 repeat' (first
 | simp only [go_sem, hC, hH, hJ, hM, ha]
 | (with_reducible refine CU (hc) ?_)
 | (with_reducible first | refine kT_ fun hc => ?_ | refine kF_ fun hc => ?_ | refine kS_ (fun hc => ?_) fun hc => ?_) <;> (try simp only [hc, bs, ↓reduceIte] at h) <;> try simp only [hc]
 | (with_reducible refine lA_ hQ ?_; (try cases h); simp only [resL, oneD, sI_, eL_, go_sem, hC, hH, hJ, hM, ha]; try exact lE_)
 | (cases h; done))

theorem WriteByte_0 (l : Str) (c : UInt8) (h : l.length + 1 ≤ 549755813888) : Fun Tryd.prog n_strings_Builder_WriteByte [.ptr 0 0, .int .u8 c.toNat] (bst l) (.val .nilIface) (bst (l ++ [c])) := by
 have hc := copyCheck_s (T := tWriter) (s := bst l) (o := 0) (r := [.slice (.tok 0 true) 1 (encBy l)]) rfl rfl writer_lies
 have ha := appB_one (l := l) (c := c) (t := 0) (y := true) (g := .full) (s := bst l) h rfl
 simp only [bst, bobj] at hc ha
 unfold bst bobj
 refine Fun.go has_strings_Builder_WriteByte rfl fun B Q hB hQ => ?_
 have ⟨hC, hH, hJ, hM⟩ := H4_
 repeat' (first
 | simp only [go_sem, hC, hH, hJ, hM, ha]
 | (with_reducible refine CU (hc) ?_)
 | (with_reducible first | refine kT_ fun hc => ?_ | refine kF_ fun hc => ?_ | refine kS_ (fun hc => ?_) fun hc => ?_) <;> (try simp only [hc, bs, ↓reduceIte] at h) <;> try simp only [hc]
 | (with_reducible refine lA_ hQ ?_; (try cases h); simp only [resL, oneD, sI_, eL_, go_sem, hC, hH, hJ, hM, ha]; try exact lE_)
 | (cases h; done))

theorem WriteString_s {l : Str} {k : Nat} (m : Str) (hk : k = l.length) (h : k + m.length ≤ 549755813888) {s : St} {o t : Nat} (ho : s.objs[o]? = some (bobj o t l)) (ht : s.toks[t]? = some (some k)) :
   Fun Tryd.prog n_strings_Builder_WriteString [.ptr o 0, .str m] s (.tuple [.int .i64 m.length, .val .nilIface]) ⟨s.objs.set o (bobj o t (l ++ m)), s.toks.set t (some (k + m.length))⟩ := by
 subst hk
 have := (WriteString_0 l m h).bld rfl rfl ho ht
 rw [List.length_append] at this
 exact this
theorem WriteByte_s {l : Str} {k : Nat} (c : UInt8) (hk : k = l.length) (h : k + 1 ≤ 549755813888) {s : St} {o t : Nat} (ho : s.objs[o]? = some (bobj o t l)) (ht : s.toks[t]? = some (some k)) :
   Fun Tryd.prog n_strings_Builder_WriteByte [.ptr o 0, .int .u8 c.toNat] s (.val .nilIface) ⟨s.objs.set o (bobj o t (l ++ [c])), s.toks.set t (some (k + 1))⟩ := by
 subst hk
 have := (WriteByte_0 l c h).bld rfl rfl ho ht
 rw [List.length_append] at this
 exact this

def lineS (n : Nat) (m : Str) : Str := List.replicate n 32 ++ m ++ [10]
theorem lineS_len (n : Nat) (m : Str) : (lineS n m).length = n + m.length + 1 := by simp [lineS]; omega

theorem line_0 (m : Str) (n : Nat) (l : Str) (h : l.length + n + m.length + 1 ≤ 549755813888) : Fun Tryd.prog n_print_writer_line [.ptr 0 0, .int .i64 n, .str m] (bst l) (.tuple []) (bst (l ++ lineS n m)) := by
 have z0 : decide ((0 : Int) > 0) = false := rfl
 unfold bst
 refine Fun.go has_print_writer_line rfl fun B Q hB hQ => ?_
 have ⟨hC, hH, hJ, hM⟩ := H4_
 repeat' (first
 | simp only [go_sem, hC, hH, hJ, hM]
 | (with_reducible first | refine kT_ fun hc => ?_ | refine kF_ fun hc => ?_ | refine kS_ (fun hc => ?_) fun hc => ?_) <;> (try simp only [hc, bs, ↓reduceIte] at h) <;> try simp only [hc]
 | (with_reducible refine lA_ hQ ?_; exact lY_)
 | (cases h; done))
 refine rL_ 1 1 (SemL.ind (ι := Nat × Str × Nat) (fun i => i.2.1 ++ lineS i.1 m = l ++ lineS n m ∧ i.2.2 = i.2.1.length ∧ i.2.2 + i.1 + m.length + 1 ≤ 549755813888) (fun i => i.1)
   (fun i => [(0, .ptr 0 0), (1, .int .i64 (i.1 : Int)), (2, .str m)]) (fun i => ⟨[bobj 0 0 i.2.1], [some i.2.2]⟩) ?_ (n, l, l.length) ⟨rfl, rfl, h⟩)
 rintro ⟨k, acc, j⟩ ⟨h1, h2, h3⟩ IH
 dsimp only at h1 h2 h3
 cases k with
 | zero =>
   have e1 := fun (s : St) a b => WriteString_s (l := acc) m h2 (by omega) (s := s) (o := 0) (t := 0) a b
   have e2 := fun (s : St) a b => WriteByte_s (l := acc ++ m) (k := j + m.length) 10 (by simp; omega) (by omega) (s := s) (o := 0) (t := 0) a b
   simp only [show ((UInt8.toNat 10 : Nat) : Int) = 10 from rfl] at e2
   have e : acc ++ m ++ [10] = l ++ lineS n m := by rw [← h1]; simp [lineS]
   have e' : j + m.length + 1 = (l ++ lineS n m).length := by rw [← e]; simp; omega
   rw [← e', ← e] at hQ
   repeat' (first
 | simp only [go_sem, hC, hH, hJ, hM, z0]
 | (with_reducible refine CU (e1 _ rfl rfl) ?_)
 | (with_reducible refine CU (e2 _ rfl rfl) ?_)
 | (with_reducible first | refine kT_ fun hc => ?_ | refine kF_ fun hc => ?_ | refine kS_ (fun hc => ?_) fun hc => ?_) <;> (try simp only [hc, bs, ↓reduceIte] at h) <;> try simp only [hc]
 | (with_reducible refine lA_ hQ ?_; (try cases h); simp only [resL, oneD, sI_, eL_, go_sem, hC, hH, hJ, hM, z0]; try exact lE_)
 | (cases h; done))
 | succ k =>
   have hC : decide (((k + 1 : Nat) : Int) > 0) = true := by simp
   have e2 := fun (s : St) a b => WriteByte_s (l := acc) 32 h2 (by omega) (s := s) (o := 0) (t := 0) a b
   simp only [show ((UInt8.toNat 32 : Nat) : Int) = 32 from rfl] at e2
   have hw : IntKind.wrap .i64 (((k + 1 : Nat) : Int) - 1) = (k : Int) := by rw [wrap_ok] <;> omega
   repeat' (first
 | simp only [go_sem, hC, hH, hJ, hM, hw]
 | (with_reducible refine CU (e2 _ rfl rfl) ?_)
 | (with_reducible first | refine kT_ fun hc => ?_ | refine kF_ fun hc => ?_ | refine kS_ (fun hc => ?_) fun hc => ?_) <;> (try simp only [hc, bs, ↓reduceIte] at h) <;> try simp only [hc]
 | (with_reducible refine lA_ hQ ?_; (try cases h); simp only [resL, oneD, sI_, eL_, go_sem, hC, hH, hJ, hM, hw]; try exact lE_)
 | (cases h; done))
   refine rL_ 1 1 (IH (k, acc ++ [32], j + 1) ⟨by rw [← h1]; simp [lineS, List.replicate_succ], by simp [h2], by dsimp only; omega⟩ (Nat.lt_succ_self _))

end Go.Abs

/-! Pr2 -/

namespace Go.Abs

set_option maxRecDepth 8000
open Go.Proofs

def marksS : List Str → Str
 | [] => []
 | s :: l => s ++ [58, 32] ++ marksS l
theorem marksS_len : ∀ {l : List Str}, (∀ t ∈ l, t.length ≤ 8) → (marksS l).length ≤ 10 * l.length
 | [], _ => Nat.le_refl _
 | s :: l, h => by
   have := h s (List.mem_cons_self ..)
   have := marksS_len fun t m => h t (List.mem_cons_of_mem _ m)
   simp only [marksS, List.length_append, List.length_cons, List.length_nil]; omega

theorem pref_s (b : Bool) (s : St) : Fun Tryd.prog n_print_ref [.bool b] s (.str (if b then [114, 101, 102, 32] else [])) s := by
 refine Fun.pure ?_ rfl rfl s
 unfold S0
 cases b
 · refine Fun.go has_print_ref rfl fun B Q hB hQ => ?_
   have ⟨hC, hH, hJ, hM⟩ := H4_
   repeat' (first
 | simp only [go_sem, hC, hH, hJ, hM]
 | (with_reducible first | refine kT_ fun hc => ?_ | refine kF_ fun hc => ?_ | refine kS_ (fun hc => ?_) fun hc => ?_) <;> (try simp only [hc, bs, ↓reduceIte] at h) <;> try simp only [hc]
 | (with_reducible refine lA_ hQ ?_; exact lY_)
 | (cases h; done))
 · refine Fun.go has_print_ref rfl fun B Q hB hQ => ?_
   have ⟨hC, hH, hJ, hM⟩ := H4_
   repeat' (first
 | simp only [go_sem, hC, hH, hJ, hM]
 | (with_reducible first | refine kT_ fun hc => ?_ | refine kF_ fun hc => ?_ | refine kS_ (fun hc => ?_) fun hc => ?_) <;> (try simp only [hc, bs, ↓reduceIte] at h) <;> try simp only [hc]
 | (with_reducible refine lA_ hQ ?_; exact lY_)
 | (cases h; done))

theorem pmarks_s {l : List Str} (hn : l.length ≤ 10000000) (h : ∀ t ∈ l, t.length ≤ 8) (s : St) : Fun Tryd.prog n_print_marks [.slice .shared 1 (l.map encStr)] s (.str (marksS l)) s := by
 refine Fun.pure ?_ (by simp [D.oks, D.ok, okrStr, Tag.ok]) rfl s
 unfold S0
 generalize hR : marksS l = R
 have hlen := marksS_len h
 rw [hR] at hlen
 refine Fun.go has_print_marks rfl fun B Q hB hQ => ?_
 have ⟨hC, hH, hJ, hM⟩ := H4_
 repeat' (first
 | simp only [go_sem, hC, hH, hJ, hM]
 | (with_reducible first | refine kT_ fun hc => ?_ | refine kF_ fun hc => ?_ | refine kS_ (fun hc => ?_) fun hc => ?_) <;> (try simp only [hc, bs, ↓reduceIte] at h) <;> try simp only [hc]
 | (with_reducible refine lA_ hQ ?_; exact lY_)
 | (cases h; done))
 refine rL_ 1 0 (SemL.ind (ι := List Str × Nat × Str) (fun i => l.drop i.2.1 = i.1 ∧ i.2.2 ++ marksS i.1 = R) (fun i => i.1.length)
   (fun i => [(3, .str i.2.2), (6, .slice .shared 1 (l.map encStr)), (7, .int .i64 (l.length : Int)), (8, .int .i64 (i.2.1 : Int))]) (fun i => ⟨[], []⟩) ?_ (l, 0, []) ⟨rfl, hR⟩)
 rintro ⟨rest, k, acc⟩ ⟨h1, h2⟩ IH
 dsimp only at h1 h2
 cases rest with
 | nil =>
   have hC := drop_nil h1
   simp only [marksS, List.append_nil] at h2
   repeat' (first
 | simp only [go_sem, hC, hH, hJ, hM, h2]
 | (with_reducible first | refine kT_ fun hc => ?_ | refine kF_ fun hc => ?_ | refine kS_ (fun hc => ?_) fun hc => ?_) <;> (try simp only [hc, bs, ↓reduceIte] at h) <;> try simp only [hc]
 | (with_reducible refine lA_ hQ ?_; (try cases h); simp only [resL, oneD, sI_, eL_, go_sem, hC, hH, hJ, hM, h2]; try exact lE_)
 | (cases h; done))
 | cons t rest =>
   obtain ⟨hH, g2, hC, g4⟩ := drop_cons h1
   have hJ : k < 4611686018427387904 := by omega
   have w1 : IntKind.wrap .i64 ((k : Int) + 1) = ((k + 1 : Nat) : Int) := by rw [wrap_ok] <;> omega
   have hal : acc.length + t.length + 2 ≤ R.length := by rw [← h2]; simp only [marksS, List.length_append, List.length_cons, List.length_nil]; omega
   have m1 : t.length + 1 + 1 ≤ maxStr := by unfold maxStr; omega
   have m2 : acc.length + (t.length + 1 + 1) ≤ maxStr := by unfold maxStr; omega
   repeat' (first
 | simp only [go_sem, hC, hH, hJ, hM, w1, m1, m2]
 | (with_reducible first | refine kT_ fun hc => ?_ | refine kF_ fun hc => ?_ | refine kS_ (fun hc => ?_) fun hc => ?_) <;> (try simp only [hc, bs, ↓reduceIte] at h) <;> try simp only [hc]
 | (with_reducible refine lA_ hQ ?_; (try cases h); simp only [resL, oneD, sI_, eL_, go_sem, hC, hH, hJ, hM, w1, m1, m2]; try exact lE_)
 | (cases h; done))
   refine rL_ 1 0 (IH (rest, k + 1, acc ++ (t ++ [58, 32])) ⟨g2, by rw [← h2]; simp [marksS]⟩ (by simp))

/-! ### Plain statements -/

def argS (a : Ar) : Str := if a.ref then [114, 101, 102, 32] ++ a.name else prE 0 a.x
def callS (name proc : Str) (args : List Ar) : Str := (if name = [] then [] else name ++ [32, 61, 32]) ++ (proc ++ [40] ++ Lib.join (args.map argS) [44, 32] ++ [41])
def plainS (kind : Int) (name proc : Str) (x : Ex) (has : Bool) (args : List Ar) : Str :=
 if kind = 1 then name ++ [32, 61, 32] ++ prE 0 x else if kind = 2 then [114, 101, 97, 100, 32] ++ name else if kind = 3 then [112, 114, 105, 110, 116, 32] ++ prE 0 x else if kind = 7 then [98, 114, 101, 97, 107] else if kind = 8 then [99, 111, 110, 116, 105, 110, 117, 101]
 else if kind = 10 then [103, 111, 116, 111, 32] ++ name else if kind = 9 then (if has then [114, 101, 116, 117, 114, 110, 32] ++ prE 0 x else [114, 101, 116, 117, 114, 110]) else callS name proc args

structure Sm.PrO (s : Sm) : Prop where
 x : s.hasX = true → FormI s.x
 lab : ∀ t ∈ s.labels, t.length ≤ 8
 name : s.name.length ≤ 8
 proc : s.proc.length ≤ 8
 args : ∀ a ∈ s.args, a.name.length ≤ 8 ∧ (a.ref = false → FormI a.x)
 kind : 1 ≤ s.kind ∧ s.kind ≤ 10
 els : s.kind = 6 → s.els = []

theorem join_len (sep : Str) : ∀ l : List Str, (Lib.join l sep).length ≤ (l.map (·.length)).sum + sep.length * l.length
 | [] => by simp [Lib.join]
 | [a] => by simp [Lib.join, List.intercalate]
 | a :: b :: l => by
   have := join_len sep (b :: l)
   simp only [Lib.join, List.intercalate_cons_cons, List.length_append, List.map_cons, List.sum_cons, List.length_cons, Nat.mul_add] at this ⊢
   omega

theorem argsS_len : ∀ {l : List Ar}, (∀ a ∈ l, a.name.length ≤ 8 ∧ (a.ref = false → FormI a.x)) → ((l.map argS).map (·.length)).sum ≤ 25 * Ar.sizes l
 | [], _ => by simp
 | a :: l, h => by
   have h1 := h a (List.mem_cons_self ..)
   have := argsS_len fun t m => h t (List.mem_cons_of_mem _ m)
   have h2 : (argS a).length ≤ 25 * (1 + a.x.size) := by
     unfold argS
     split
     · simp only [List.length_append, List.length_cons, List.length_nil]; omega
     · rename_i c
       have := prE_len (h1.2 (by simpa using c)) 0
       have := nodes_size a.x.size a.x (Nat.le_refl _)
       omega
   simp only [List.map_cons, List.sum_cons, Ar.sizes] at this ⊢
   omega

theorem args_len {l : List Ar} (h : ∀ a ∈ l, a.name.length ≤ 8 ∧ (a.ref = false → FormI a.x)) : (Lib.join (l.map argS) [44, 32]).length ≤ 27 * Ar.sizes l := by
 have h1 := join_len [44, 32] (l.map argS)
 have h2 := argsS_len h
 have h3 := Ar.sizes_len l
 simp only [List.length_map, List.length_cons, List.length_nil] at h1 h3
 omega

theorem pplain_s {s : Sm} (h : s.PrO) (hs : s.size ≤ 1000000) (st : St) : Fun Tryd.prog n_print_plain [.agg (encSm s)] st (.str (plainS s.kind s.name s.proc s.x s.has s.args)) st := by
 refine Fun.pure ?_ (by simp [D.oks, D.ok, okSm]) rfl st
 obtain ⟨id, kind, labels, name, proc, x, has, args, thn, els⟩ := s
 obtain ⟨hx, _, hname, hproc, hargs, _, _⟩ := h
 dsimp only at hx hname hproc hargs ⊢
 simp only [Sm.size] at hs
 have hns := nodes_size x.size x (Nat.le_refl _)
 have hxn : x.nodes ≤ 1000000 := by omega
 unfold S0
 unfold plainS
 simp only [← beq_iff_eq (α := Int)]
 have hal := args_len hargs
 have k1 : (kind == 1) = true → FormI x := fun k => hx (by simp [Sm.hasX, k])
 have k3 : (kind == 3) = true → FormI x := fun k => hx (by simp [Sm.hasX, k])
 have k9 : (kind == 9) = true → has = true → FormI x := fun k h => hx (by simp [Sm.hasX, k, h])
 cases c1 : kind == 1 with
 | true =>
   have e1 := fun s => pexpr_s (k1 c1) hxn (least := 0) s
   simp only [encEx_eq] at e1
   have := prE_len (k1 c1) 0
   have m1 : name.length + 1 + 1 + 1 ≤ maxStr := by unfold maxStr; omega
   have m2 : name.length + 1 + 1 + 1 + (prE 0 x).length ≤ maxStr := by unfold maxStr; omega
   refine Fun.go has_print_plain rfl fun B Q hB hQ => ?_
   have ⟨hC, hH, hJ, hM⟩ := H4_
   repeat' (first
 | simp only [go_sem, hC, hH, hJ, hM, c1, m1, m2]
 | (with_reducible refine CU (e1 _) ?_)
 | (with_reducible first | refine kT_ fun hc => ?_ | refine kF_ fun hc => ?_ | refine kS_ (fun hc => ?_) fun hc => ?_) <;> (try simp only [hc, bs, ↓reduceIte] at h) <;> try simp only [hc]
 | (with_reducible refine lA_ hQ ?_; (try cases h); simp only [resL, oneD, sI_, eL_, go_sem, hC, hH, hJ, hM, c1, m1, m2]; try exact lE_)
 | (cases h; replace h := hr; clear hr; (try simp only [bs, ↓reduceIte] at h))
 | (cases h; done))
 | false =>
 cases c2 : kind == 2 with
 | true =>
   have m1 : (5 : Nat) + name.length ≤ maxStr := by unfold maxStr; omega
   refine Fun.go has_print_plain rfl fun B Q hB hQ => ?_
   have ⟨hC, hH, hJ, hM⟩ := H4_
   repeat' (first
 | simp only [go_sem, hC, hH, hJ, hM, c1, c2, m1]
 | (with_reducible first | refine kT_ fun hc => ?_ | refine kF_ fun hc => ?_ | refine kS_ (fun hc => ?_) fun hc => ?_) <;> (try simp only [hc, bs, ↓reduceIte] at h) <;> try simp only [hc]
 | (with_reducible refine lA_ hQ ?_; (try cases h); simp only [resL, oneD, sI_, eL_, go_sem, hC, hH, hJ, hM, c1, c2, m1]; try exact lE_)
 | (cases h; replace h := hr; clear hr; (try simp only [bs, ↓reduceIte] at h))
 | (cases h; done))
 | false =>
 cases c3 : kind == 3 with
 | true =>
   have e1 := fun s => pexpr_s (k3 c3) hxn (least := 0) s
   simp only [encEx_eq] at e1
   have := prE_len (k3 c3) 0
   have m1 : (6 : Nat) + (prE 0 x).length ≤ maxStr := by unfold maxStr; omega
   refine Fun.go has_print_plain rfl fun B Q hB hQ => ?_
   have ⟨hC, hH, hJ, hM⟩ := H4_
   repeat' (first
 | simp only [go_sem, hC, hH, hJ, hM, c1, c2, c3, m1]
 | (with_reducible refine CU (e1 _) ?_)
 | (with_reducible first | refine kT_ fun hc => ?_ | refine kF_ fun hc => ?_ | refine kS_ (fun hc => ?_) fun hc => ?_) <;> (try simp only [hc, bs, ↓reduceIte] at h) <;> try simp only [hc]
 | (with_reducible refine lA_ hQ ?_; (try cases h); simp only [resL, oneD, sI_, eL_, go_sem, hC, hH, hJ, hM, c1, c2, c3, m1]; try exact lE_)
 | (cases h; replace h := hr; clear hr; (try simp only [bs, ↓reduceIte] at h))
 | (cases h; done))
 | false =>
 cases c7 : kind == 7 with
 | true =>
   refine Fun.go has_print_plain rfl fun B Q hB hQ => ?_
   have ⟨hC, hH, hJ, hM⟩ := H4_
   repeat' (first
 | simp only [go_sem, hC, hH, hJ, hM, c1, c2, c3, c7]
 | (with_reducible first | refine kT_ fun hc => ?_ | refine kF_ fun hc => ?_ | refine kS_ (fun hc => ?_) fun hc => ?_) <;> (try simp only [hc, bs, ↓reduceIte] at h) <;> try simp only [hc]
 | (with_reducible refine lA_ hQ ?_; (try cases h); simp only [resL, oneD, sI_, eL_, go_sem, hC, hH, hJ, hM, c1, c2, c3, c7]; try exact lE_)
 | (cases h; replace h := hr; clear hr; (try simp only [bs, ↓reduceIte] at h))
 | (cases h; done))
 | false =>
 cases c8 : kind == 8 with
 | true =>
   refine Fun.go has_print_plain rfl fun B Q hB hQ => ?_
   have ⟨hC, hH, hJ, hM⟩ := H4_
   repeat' (first
 | simp only [go_sem, hC, hH, hJ, hM, c1, c2, c3, c7, c8]
 | (with_reducible first | refine kT_ fun hc => ?_ | refine kF_ fun hc => ?_ | refine kS_ (fun hc => ?_) fun hc => ?_) <;> (try simp only [hc, bs, ↓reduceIte] at h) <;> try simp only [hc]
 | (with_reducible refine lA_ hQ ?_; (try cases h); simp only [resL, oneD, sI_, eL_, go_sem, hC, hH, hJ, hM, c1, c2, c3, c7, c8]; try exact lE_)
 | (cases h; replace h := hr; clear hr; (try simp only [bs, ↓reduceIte] at h))
 | (cases h; done))
 | false =>
 cases c10 : kind == 10 with
 | true =>
   have m1 : (5 : Nat) + name.length ≤ maxStr := by unfold maxStr; omega
   refine Fun.go has_print_plain rfl fun B Q hB hQ => ?_
   have ⟨hC, hH, hJ, hM⟩ := H4_
   repeat' (first
 | simp only [go_sem, hC, hH, hJ, hM, c1, c2, c3, c7, c8, c10, m1]
 | (with_reducible first | refine kT_ fun hc => ?_ | refine kF_ fun hc => ?_ | refine kS_ (fun hc => ?_) fun hc => ?_) <;> (try simp only [hc, bs, ↓reduceIte] at h) <;> try simp only [hc]
 | (with_reducible refine lA_ hQ ?_; (try cases h); simp only [resL, oneD, sI_, eL_, go_sem, hC, hH, hJ, hM, c1, c2, c3, c7, c8, c10, m1]; try exact lE_)
 | (cases h; replace h := hr; clear hr; (try simp only [bs, ↓reduceIte] at h))
 | (cases h; done))
 | false =>
 cases c9 : kind == 9 with
 | true =>
   cases hh : has with
   | true =>
     have e1 := fun s => pexpr_s (k9 c9 hh) hxn (least := 0) s
     simp only [encEx_eq] at e1
     have := prE_len (k9 c9 hh) 0
     have m1 : (7 : Nat) + (prE 0 x).length ≤ maxStr := by unfold maxStr; omega
     refine Fun.go has_print_plain rfl fun B Q hB hQ => ?_
     have ⟨hC, hH, hJ, hM⟩ := H4_
     repeat' (first
 | simp only [go_sem, hC, hH, hJ, hM, c1, c2, c3, c7, c8, c10, c9, m1]
 | (with_reducible refine CU (e1 _) ?_)
 | (with_reducible first | refine kT_ fun hc => ?_ | refine kF_ fun hc => ?_ | refine kS_ (fun hc => ?_) fun hc => ?_) <;> (try simp only [hc, bs, ↓reduceIte] at h) <;> try simp only [hc]
 | (with_reducible refine lA_ hQ ?_; (try cases h); simp only [resL, oneD, sI_, eL_, go_sem, hC, hH, hJ, hM, c1, c2, c3, c7, c8, c10, c9, m1]; try exact lE_)
 | (cases h; replace h := hr; clear hr; (try simp only [bs, ↓reduceIte] at h))
 | (cases h; done))
   | false =>
     refine Fun.go has_print_plain rfl fun B Q hB hQ => ?_
     have ⟨hC, hH, hJ, hM⟩ := H4_
     repeat' (first
 | simp only [go_sem, hC, hH, hJ, hM, c1, c2, c3, c7, c8, c10, c9]
 | (with_reducible first | refine kT_ fun hc => ?_ | refine kF_ fun hc => ?_ | refine kS_ (fun hc => ?_) fun hc => ?_) <;> (try simp only [hc, bs, ↓reduceIte] at h) <;> try simp only [hc]
 | (with_reducible refine lA_ hQ ?_; (try cases h); simp only [resL, oneD, sI_, eL_, go_sem, hC, hH, hJ, hM, c1, c2, c3, c7, c8, c10, c9]; try exact lE_)
 | (cases h; replace h := hr; clear hr; (try simp only [bs, ↓reduceIte] at h))
 | (cases h; done))
 | false =>
   have hjl : (args.map argS).length ≤ 140737488355328 := by simp; have := Ar.sizes_len args; omega
   have hjm : (Lib.join (args.map argS) [44, 32]).length ≤ 140737488355328 := by omega
   have ej := fun s => Join_s (l := args.map argS) (sep := [44, 32]) hjl hjm (.tok 0) s
   have asz := Ar.sizes_len args
   have m1 : proc.length + 1 ≤ maxStr := by unfold maxStr; omega
   have m2 : proc.length + 1 + (Lib.join (args.map argS) [44, 32]).length ≤ maxStr := by unfold maxStr; omega
   have m3 : proc.length + 1 + (Lib.join (args.map argS) [44, 32]).length + 1 ≤ maxStr := by unfold maxStr; omega
   have m4 : name.length + 1 + 1 + 1 ≤ maxStr := by unfold maxStr; omega
   have m5 : name.length + 1 + 1 + 1 + (proc.length + 1 + (Lib.join (args.map argS) [44, 32]).length + 1) ≤ maxStr := by unfold maxStr; omega
   refine Fun.go has_print_plain rfl fun B Q hB hQ => ?_
   have ⟨hC, hH, hJ, hM⟩ := H4_
   repeat' (first
 | simp only [go_sem, hC, hH, hJ, hM, c1, c2, c3, c7, c8, c10, c9]
 | (with_reducible first | refine kT_ fun hc => ?_ | refine kF_ fun hc => ?_ | refine kS_ (fun hc => ?_) fun hc => ?_) <;> (try simp only [hc, bs, ↓reduceIte] at h) <;> try simp only [hc]
 | (with_reducible refine lA_ hQ ?_; (try cases h); simp only [resL, oneD, sI_, eL_, go_sem, hC, hH, hJ, hM, c1, c2, c3, c7, c8, c10, c9]; try exact lE_)
 | (cases h; replace h := hr; clear hr; (try simp only [bs, ↓reduceIte] at h))
 | (cases h; done))
   refine SemL.tokT 3 1 rfl ?_
   simp only [go_sem, hC, hH, hJ, hM]
   refine rL_ 1 1 (SemL.ind (ι := List Ar × Nat × List Str) (fun i => args.drop i.2.1 = i.1 ∧ i.2.2 ++ i.1.map argS = args.map argS ∧ i.2.2.length = i.2.1) (fun i => i.1.length)
     (fun i => [(1, .ptr 0 0), (3, .slice (.tok 0) 1 (i.2.2.map encStr)), (47, .slice .shared 6 (args.map encAr)), (48, .int .i64 (args.length : Int)), (49, .int .i64 (i.2.1 : Int))]) (fun i => ⟨[encSm ⟨id, kind, labels, name, proc, x, has, args, thn, els⟩], [some i.2.1]⟩) ?_ (args, 0, []) ⟨rfl, rfl, rfl⟩)
   rintro ⟨rest, k, acc⟩ ⟨h1, h2, h3⟩ IH
   dsimp only at h1 h2 h3
   cases rest with
   | nil =>
     have hC := drop_nil h1
     simp only [List.map_nil, List.append_nil] at h2
     subst h2
     cases cn : name == [] with
     | true =>
       have ec : callS name proc args = proc ++ [40] ++ Lib.join (args.map argS) [44, 32] ++ [41] := by rw [callS, if_pos (by simpa using cn), List.nil_append]
       repeat' (first
 | simp only [go_sem, hC, hH, hJ, hM, m1, m2, m3, cn, ec]
 | (with_reducible refine CU (ej _) ?_)
 | (with_reducible first | refine kT_ fun hc => ?_ | refine kF_ fun hc => ?_ | refine kS_ (fun hc => ?_) fun hc => ?_) <;> (try simp only [hc, bs, ↓reduceIte] at h) <;> try simp only [hc]
 | (with_reducible refine lA_ hQ ?_; (try cases h); simp only [resL, oneD, sI_, eL_, go_sem, hC, hH, hJ, hM, m1, m2, m3, cn, ec]; try exact lE_)
 | (cases h; replace h := hr; clear hr; (try simp only [bs, ↓reduceIte] at h))
 | (cases h; done))
     | false =>
       have ec : callS name proc args = name ++ [32, 61, 32] ++ (proc ++ [40] ++ Lib.join (args.map argS) [44, 32] ++ [41]) := by rw [callS, if_neg (by simpa using cn)]
       repeat' (first
 | simp only [go_sem, hC, hH, hJ, hM, m1, m2, m3, m4, m5, cn, ec]
 | (with_reducible refine CU (ej _) ?_)
 | (with_reducible first | refine kT_ fun hc => ?_ | refine kF_ fun hc => ?_ | refine kS_ (fun hc => ?_) fun hc => ?_) <;> (try simp only [hc, bs, ↓reduceIte] at h) <;> try simp only [hc]
 | (with_reducible refine lA_ hQ ?_; (try cases h); simp only [resL, oneD, sI_, eL_, go_sem, hC, hH, hJ, hM, m1, m2, m3, m4, m5, cn, ec]; try exact lE_)
 | (cases h; replace h := hr; clear hr; (try simp only [bs, ↓reduceIte] at h))
 | (cases h; done))
   | cons a rest =>
     obtain ⟨hH, g2, hC, g4⟩ := drop_cons h1
     have hmem := List.mem_of_getElem? hH
     obtain ⟨ha1, ha2⟩ := hargs a hmem
     have hsz := Ar.sizes_mem hmem
     have han := nodes_size a.x.size a.x (Nat.le_refl _)
     have hk : k < 4611686018427387904 := by omega
     have w1 : IntKind.wrap .i64 ((k : Int) + 1) = ((k + 1 : Nat) : Int) := by rw [wrap_ok] <;> omega
     have hJ : (k + 1) * 17 ≤ maxStr := by unfold maxStr; omega
     cases hr : a.ref with
     | true =>
       have m1 : (4 : Nat) + a.name.length ≤ maxStr := by unfold maxStr; omega
       have ea : argS a = [114, 101, 102, 32] ++ a.name := by simp only [argS, hr, ↓reduceIte]
       repeat' (first
 | simp only [go_sem, hC, hH, hJ, hM, hr, m1, w1, h3]
 | (with_reducible refine CU (pref_s _ _) ?_)
 | (with_reducible first | refine kT_ fun hc => ?_ | refine kF_ fun hc => ?_ | refine kS_ (fun hc => ?_) fun hc => ?_) <;> (try simp only [hc, bs, ↓reduceIte] at h) <;> try simp only [hc]
 | (with_reducible refine lA_ hQ ?_; (try cases h); simp only [resL, oneD, sI_, eL_, go_sem, hC, hH, hJ, hM, hr, m1, w1, h3]; try exact lE_)
 | (cases h; replace h := hr; clear hr; (try simp only [bs, ↓reduceIte] at h))
 | (cases h; done))
       refine rl_ 1 1 ?_ ?_ (IH (rest, k + 1, acc ++ [argS a]) ⟨g2, by rw [← h2]; simp, by simp [h3]⟩ (by simp))
       · (simp only [go_sem, hC, hH, hJ, hM, ea, List.cons_append, List.nil_append]; try exact lF_)
       · (simp only [go_sem, hC, hH, hJ, hM, ea, List.cons_append, List.nil_append]; try exact lF_)
     | false =>
       have e1 := fun s => pexpr_s (ha2 hr) (by omega) (least := 0) s
       have ea : argS a = prE 0 a.x := by simp only [argS, hr, Bool.false_eq_true, ↓reduceIte]
       repeat' (first
 | simp only [go_sem, hC, hH, hJ, hM, hr, w1, h3]
 | (with_reducible refine CU (e1 _) ?_)
 | (with_reducible first | refine kT_ fun hc => ?_ | refine kF_ fun hc => ?_ | refine kS_ (fun hc => ?_) fun hc => ?_) <;> (try simp only [hc, bs, ↓reduceIte] at h) <;> try simp only [hc]
 | (with_reducible refine lA_ hQ ?_; (try cases h); simp only [resL, oneD, sI_, eL_, go_sem, hC, hH, hJ, hM, hr, w1, h3]; try exact lE_)
 | (cases h; replace h := hr; clear hr; (try simp only [bs, ↓reduceIte] at h))
 | (cases h; done))
       refine rl_ 1 1 ?_ ?_ (IH (rest, k + 1, acc ++ [argS a]) ⟨g2, by rw [← h2]; simp, by simp [h3]⟩ (by simp))
       · (simp only [go_sem, hC, hH, hJ, hM, ea, List.cons_append, List.nil_append]; try exact lF_)
       · (simp only [go_sem, hC, hH, hJ, hM, ea, List.cons_append, List.nil_append]; try exact lF_)

end Go.Abs

/-! Pr3 -/

namespace Go.Abs

set_option maxRecDepth 8000
open Go.Proofs

mutual
def rowS (inn : Nat) : Sm → Str
 | ⟨id, kind, labels, name, proc, x, has, args, thn, els⟩ =>
   if kind = 6 then lineS inn (marksS labels ++ [119, 104, 105, 108, 101, 32, 40] ++ prE 0 x ++ [41, 32, 123]) ++ rowsS (inn + 1) thn ++ lineS inn [125]
   else if kind = 5 then lineS inn (marksS labels ++ [105, 102, 32, 40] ++ prE 0 x ++ [41, 32, 123]) ++ rowsS (inn + 1) thn ++ (if els.length = 0 then [] else lineS inn [125, 32, 101, 108, 115, 101, 32, 123] ++ rowsS (inn + 1) els) ++ lineS inn [125]
   else lineS inn (marksS labels ++ plainS kind name proc x has args ++ [59])
def rowsS (inn : Nat) : List Sm → Str
 | [] => []
 | s :: l => rowS inn s ++ rowsS inn l
end
theorem rowS_eq (inn : Nat) (s : Sm) : rowS inn s = if s.kind = 6 then lineS inn (marksS s.labels ++ [119, 104, 105, 108, 101, 32, 40] ++ prE 0 s.x ++ [41, 32, 123]) ++ rowsS (inn + 1) s.thn ++ lineS inn [125]
   else if s.kind = 5 then lineS inn (marksS s.labels ++ [105, 102, 32, 40] ++ prE 0 s.x ++ [41, 32, 123]) ++ rowsS (inn + 1) s.thn ++ (if s.els.length = 0 then [] else lineS inn [125, 32, 101, 108, 115, 101, 32, 123] ++ rowsS (inn + 1) s.els) ++ lineS inn [125]
   else lineS inn (marksS s.labels ++ plainS s.kind s.name s.proc s.x s.has s.args ++ [59]) := by
 cases s; simp only [rowS]

mutual
def Sm.PrR (inn : Nat) : Sm → Prop
 | ⟨id, kind, labels, name, proc, x, has, args, thn, els⟩ => Sm.PrO ⟨id, kind, labels, name, proc, x, has, args, thn, els⟩ ∧ inn ≤ 12 ∧ Sm.PrRs (inn + 1) thn ∧ Sm.PrRs (inn + 1) els
def Sm.PrRs (inn : Nat) : List Sm → Prop
 | [] => True
 | s :: l => s.PrR inn ∧ Sm.PrRs inn l
end
theorem PrR_eq (inn : Nat) (s : Sm) : s.PrR inn ↔ s.PrO ∧ inn ≤ 12 ∧ Sm.PrRs (inn + 1) s.thn ∧ Sm.PrRs (inn + 1) s.els := by cases s; simp only [Sm.PrR]
theorem PrRs_mem {inn : Nat} {s : Sm} : ∀ {l : List Sm}, Sm.PrRs inn l → s ∈ l → s.PrR inn
 | y :: l, h, m => by
   simp only [Sm.PrRs] at h
   rcases List.mem_cons.1 m with rfl | m
   · exact h.1
   · exact PrRs_mem h.2 m

theorem plainS_len {s : Sm} (h : s.PrO) : (plainS s.kind s.name s.proc s.x s.has s.args).length ≤ 25 * s.x.size + 27 * Ar.sizes s.args + 30 := by
 obtain ⟨hx, _, hname, hproc, hargs, _, _⟩ := h
 have hal := args_len hargs
 have hns := nodes_size s.x.size s.x (Nat.le_refl _)
 unfold plainS
 split
 · rename_i k
   have := prE_len (hx (by simp [Sm.hasX, k])) 0
   simp only [List.length_append, List.length_cons, List.length_nil]; omega
 split
 · simp only [List.length_append, List.length_cons, List.length_nil]; omega
 split
 · rename_i k
   have := prE_len (hx (by simp [Sm.hasX, k])) 0
   simp only [List.length_append, List.length_cons, List.length_nil]; omega
 split
 · simp only [List.length_append, List.length_cons, List.length_nil]; omega
 split
 · simp only [List.length_append, List.length_cons, List.length_nil]; omega
 split
 · simp only [List.length_append, List.length_cons, List.length_nil]; omega
 split
 · rename_i k
   split
   · rename_i kh
     have := prE_len (hx (by simp [Sm.hasX, k, kh])) 0
     simp only [List.length_append, List.length_cons, List.length_nil]; omega
   · simp only [List.length_append, List.length_cons, List.length_nil]; omega
 · unfold callS
   split <;> simp only [List.length_append, List.length_cons, List.length_nil] <;> omega

mutual
theorem rowS_len : ∀ {inn : Nat} (s : Sm), s.PrR inn → (rowS inn s).length ≤ 200 * s.size
 | inn, ⟨id, kind, labels, name, proc, x, has, args, thn, els⟩, h => by
   obtain ⟨ho, hi, ht, he⟩ := (PrR_eq _ _).1 h
   have h1 := rowsS_len thn ht
   have h2 := rowsS_len els he
   have h3 := marksS_len ho.lab
   have h4 := plainS_len ho
   have h6 := nodes_size x.size x (Nat.le_refl _)
   dsimp only at h3 h4
   simp only [rowS, Sm.size]
   split
   · rename_i k
     have h5 := prE_len (ho.x (by simp [Sm.hasX, k])) 0
     dsimp only at h5
     simp only [List.length_append, List.length_cons, List.length_nil, lineS_len]; omega
   split
   · rename_i k
     have h5 := prE_len (ho.x (by simp [Sm.hasX, k])) 0
     dsimp only at h5
     split <;> simp only [List.length_append, List.length_cons, List.length_nil, lineS_len] <;> omega
   · simp only [List.length_append, List.length_cons, List.length_nil, lineS_len]; omega
theorem rowsS_len : ∀ {inn : Nat} (l : List Sm), Sm.PrRs inn l → (rowsS inn l).length ≤ 200 * Sm.sizes l
 | _, [], _ => by simp [rowsS, Sm.sizes]
 | inn, s :: l, h => by
   simp only [Sm.PrRs] at h
   have h1 := rowS_len s h.1
   have h2 := rowsS_len l h.2
   simp only [rowsS, Sm.sizes, List.length_append]; omega
end

/-! ### The walk -/

def slen (l : Str) : Nat := l.length
theorem Fun.bldz {P : Program} {f : Nat} {args : List D} {l l' : Str} {d : D} (h : Fun P f (.ptr 0 0 :: args) ⟨[bobj 0 0 l], [some (slen l)]⟩ d ⟨[bobj 0 0 l'], [some (slen l')]⟩) (ha : D.oks 0 0 args = true) (hd : D.ok 0 0 d = true)
   {s : St} {o t : Nat} (ho : s.objs[o]? = some (bobj o t l)) (ht : s.toks[t]? = some (some (slen l))) : Fun P f (.ptr o 0 :: args) s d ⟨s.objs.set o (bobj o t l'), s.toks.set t (some (slen l'))⟩ := Fun.bld h ha hd ho ht
theorem line_z {l : Str} (n : Nat) (m : Str) (h : l.length + n + m.length + 1 ≤ 549755813888) {s : St} {o t : Nat} (ho : s.objs[o]? = some (bobj o t l)) (ht : s.toks[t]? = some (some (slen l))) :
   Fun Tryd.prog n_print_writer_line [.ptr o 0, .int .i64 n, .str m] s (.tuple []) ⟨s.objs.set o (bobj o t (l ++ lineS n m)), s.toks.set t (some (slen (l ++ lineS n m)))⟩ := (line_0 m n l h).bld rfl rfl ho ht

theorem prows_n : ∀ (m : Nat) (l : List Sm), Sm.sizes l ≤ m → Sm.sizes l ≤ 1000000 → ∀ (inn : Nat), Sm.PrRs inn l → ∀ acc : Str, acc.length + 200 * Sm.sizes l ≤ 540000000000 →
   Fun Tryd.prog n_print_writer_rows [.ptr 0 0, .slice .shared 13 (l.map encSm), .int .i64 inn] ⟨[bobj 0 0 acc], [some (slen acc)]⟩ (.tuple []) ⟨[bobj 0 0 (acc ++ rowsS inn l)], [some (slen (acc ++ rowsS inn l))]⟩ := by
 intro m
 induction m with
 | zero =>
   intro l h hs inn hp acc hb
   cases l with
   | nil =>
     have z : decide ((0 : Int) < 0) = false := rfl
     simp only [rowsS, List.append_nil]
     refine Fun.go has_print_writer_rows rfl fun B Q hB hQ => ?_
     have ⟨hC, hH, hJ, hM⟩ := H4_
     repeat' (first
 | simp only [go_sem, hC, hH, hJ, hM, z]
 | (with_reducible refine SemL.onceW ?_)
 | (with_reducible first | refine kT_ fun hc => ?_ | refine kF_ fun hc => ?_ | refine kS_ (fun hc => ?_) fun hc => ?_) <;> (try simp only [hc, bs, ↓reduceIte] at h) <;> try simp only [hc]
 | (with_reducible refine lA_ hQ ?_; (try cases h); simp only [resL, oneD, sI_, eL_, go_sem, hC, hH, hJ, hM, z]; try exact lE_)
 | (cases h; done))
   | cons s l => simp only [Sm.sizes] at h; omega
 | succ m ih =>
   intro l h hs inn hp acc0 hb
   generalize hR : acc0 ++ rowsS inn l = R
   have hlen := Sm.sizes_len l
   refine Fun.go has_print_writer_rows rfl fun B Q hB hQ => ?_
   have ⟨hC, hH, hJ, hM⟩ := H4_
   repeat' (first
 | simp only [go_sem, hC, hH, hJ, hM]
 | (with_reducible first | refine kT_ fun hc => ?_ | refine kF_ fun hc => ?_ | refine kS_ (fun hc => ?_) fun hc => ?_) <;> (try simp only [hc, bs, ↓reduceIte] at h) <;> try simp only [hc]
 | (with_reducible refine lA_ hQ ?_; exact lY_)
 | (cases h; done))
   refine rL_ 1 1 (SemL.ind (ι := List Sm × Nat × Str) (fun i => l.drop i.2.1 = i.1 ∧ i.2.2 ++ rowsS inn i.1 = R ∧ i.2.2.length + 200 * Sm.sizes i.1 ≤ 540000000000) (fun i => i.1.length)
     (fun i => [(0, .ptr 0 0), (2, .int .i64 (inn : Int)), (9, .slice .shared 13 (l.map encSm)), (10, .int .i64 (l.length : Int)), (11, .int .i64 (i.2.1 : Int))]) (fun i => ⟨[bobj 0 0 i.2.2], [some (slen i.2.2)]⟩) ?_ (l, 0, acc0) ⟨rfl, hR, hb⟩)
   rintro ⟨rest, k, acc⟩ ⟨h1, h2, h3⟩ IH
   dsimp only at h1 h2 h3
   cases rest with
   | nil =>
     have hC := drop_nil h1
     simp only [rowsS, List.append_nil] at h2
     repeat' (first
 | simp only [go_sem, hC, hH, hJ, hM, h2]
 | (with_reducible first | refine kT_ fun hc => ?_ | refine kF_ fun hc => ?_ | refine kS_ (fun hc => ?_) fun hc => ?_) <;> (try simp only [hc, bs, ↓reduceIte] at h) <;> try simp only [hc]
 | (with_reducible refine lA_ hQ ?_; (try cases h); simp only [resL, oneD, sI_, eL_, go_sem, hC, hH, hJ, hM, h2]; try exact lE_)
 | (cases h; done))
   | cons s rest =>
     obtain ⟨hH, g2, hC, g4⟩ := drop_cons h1
     have hmem := List.mem_of_getElem? hH
     have hsz := Sm.sizes_mem hmem
     have hPR := PrRs_mem hp hmem
     obtain ⟨ho, hin, hpt, hpe⟩ := (PrR_eq _ _).1 hPR
     have hk : k < 4611686018427387904 := by omega
     have hsz2 : s.labels.length + s.x.size + Ar.sizes s.args + Sm.sizes s.thn + Sm.sizes s.els + 1 ≤ s.size := by cases s; simp only [Sm.size]; omega
     have w1 : IntKind.wrap .i64 ((k : Int) + 1) = ((k + 1 : Nat) : Int) := by rw [wrap_ok] <;> omega
     have w2 : IntKind.wrap .i64 ((inn : Int) + 1) = ((inn + 1 : Nat) : Int) := by rw [wrap_ok] <;> omega
     simp only [Sm.sizes] at h3
     have lm := marksS_len ho.lab
     have lp := plainS_len ho
     have lt := rowsS_len s.thn hpt
     have le := rowsS_len s.els hpe
     have ln := nodes_size s.x.size s.x (Nat.le_refl _)
     have em := fun st => pmarks_s (by omega) ho.lab st
     have hrow := rowS_eq inn s
     have lr := rowS_len s hPR
     simp only [rowsS] at h2
     cases c6 : s.kind == 6 with
     | true =>
       have hx : FormI s.x := ho.x (by simp [Sm.hasX, c6])
       have lx := prE_len hx 0
       have ee := fun st => pexpr_s hx (by omega) (least := 0) st
       have b1 : (marksS s.labels).length + 1 + 1 + 1 + 1 + 1 + 1 + 1 ≤ maxStr := by unfold maxStr; omega
       have b2 : (marksS s.labels).length + 1 + 1 + 1 + 1 + 1 + 1 + 1 + (prE 0 s.x).length ≤ maxStr := by unfold maxStr; omega
       have b3 : (marksS s.labels).length + 1 + 1 + 1 + 1 + 1 + 1 + 1 + (prE 0 s.x).length + 1 + 1 + 1 ≤ maxStr := by unfold maxStr; omega
       have e1 := fun st a b => line_z (l := acc) inn (marksS s.labels ++ [119, 104, 105, 108, 101, 32, 40] ++ prE 0 s.x ++ [41, 32, 123]) (by simp only [List.length_append, List.length_cons, List.length_nil]; omega) (s := st) (o := 0) (t := 0) a b
       have e2 := fun st a b => (ih s.thn (by omega) (by omega) (inn + 1) hpt (acc ++ lineS inn (marksS s.labels ++ [119, 104, 105, 108, 101, 32, 40] ++ prE 0 s.x ++ [41, 32, 123])) (by simp only [List.length_append, List.length_cons, List.length_nil, lineS_len]; omega)).bldz (by simp [D.oks, D.ok, okrSm, Tag.ok]) rfl (s := st) (o := 0) (t := 0) a b
       have e3 := fun st a b => line_z (l := acc ++ lineS inn (marksS s.labels ++ [119, 104, 105, 108, 101, 32, 40] ++ prE 0 s.x ++ [41, 32, 123]) ++ rowsS (inn + 1) s.thn) inn [125] (by simp only [List.length_append, List.length_cons, List.length_nil, lineS_len]; omega) (s := st) (o := 0) (t := 0) a b
       rw [if_pos (by simpa using c6)] at hrow
       repeat' (first
 | simp only [go_sem, hC, hH, hJ, hM, c6, b1, b2, b3, w1, w2]
 | (with_reducible refine CU (em _) ?_)
 | (with_reducible refine CU (ee _) ?_)
 | (with_reducible refine CU (e1 _ (by with_unfolding_all rfl) (by with_unfolding_all rfl)) ?_)
 | (with_reducible refine CU (e2 _ (by with_unfolding_all rfl) (by with_unfolding_all rfl)) ?_)
 | (with_reducible refine CU (e3 _ (by with_unfolding_all rfl) (by with_unfolding_all rfl)) ?_)
 | (with_reducible first | refine kT_ fun hc => ?_ | refine kF_ fun hc => ?_ | refine kS_ (fun hc => ?_) fun hc => ?_) <;> (try simp only [hc, bs, ↓reduceIte] at h) <;> try simp only [hc]
 | (with_reducible refine lA_ hQ ?_; (try cases h); simp only [resL, oneD, sI_, eL_, go_sem, hC, hH, hJ, hM, c6, b1, b2, b3, w1, w2]; try exact lE_)
 | (cases h; done))
       refine rL_ 1 1 (IH (rest, k + 1, acc ++ lineS inn (marksS s.labels ++ [119, 104, 105, 108, 101, 32, 40] ++ prE 0 s.x ++ [41, 32, 123]) ++ rowsS (inn + 1) s.thn ++ lineS inn [125]) ⟨g2, by rw [← h2, hrow]; simp only [List.append_assoc], by rw [hrow] at lr; simp only [List.length_append] at lr ⊢; omega⟩ (by simp))
     | false =>
     cases c5 : s.kind == 5 with
     | true =>
       have hx : FormI s.x := ho.x (by simp [Sm.hasX, c5])
       have lx := prE_len hx 0
       have ee := fun st => pexpr_s hx (by omega) (least := 0) st
       have b1 : (marksS s.labels).length + 1 + 1 + 1 + 1 ≤ maxStr := by unfold maxStr; omega
       have b2 : (marksS s.labels).length + 1 + 1 + 1 + 1 + (prE 0 s.x).length ≤ maxStr := by unfold maxStr; omega
       have b3 : (marksS s.labels).length + 1 + 1 + 1 + 1 + (prE 0 s.x).length + 1 + 1 + 1 ≤ maxStr := by unfold maxStr; omega
       have e1 := fun st a b => line_z (l := acc) inn (marksS s.labels ++ [105, 102, 32, 40] ++ prE 0 s.x ++ [41, 32, 123]) (by simp only [List.length_append, List.length_cons, List.length_nil]; omega) (s := st) (o := 0) (t := 0) a b
       have e2 := fun st a b => (ih s.thn (by omega) (by omega) (inn + 1) hpt (acc ++ lineS inn (marksS s.labels ++ [105, 102, 32, 40] ++ prE 0 s.x ++ [41, 32, 123])) (by simp only [List.length_append, List.length_cons, List.length_nil, lineS_len]; omega)).bldz (by simp [D.oks, D.ok, okrSm, Tag.ok]) rfl (s := st) (o := 0) (t := 0) a b
       rw [if_neg (by simpa using c6), if_pos (by simpa using c5)] at hrow
       cases ce : decide ((s.els.length : Int) > 0) with
       | true =>
         have ce' : s.els.length ≠ 0 := by have := of_decide_eq_true ce; omega
         rw [if_neg ce'] at hrow
         have e3 := fun st a b => line_z (l := acc ++ lineS inn (marksS s.labels ++ [105, 102, 32, 40] ++ prE 0 s.x ++ [41, 32, 123]) ++ rowsS (inn + 1) s.thn) inn [125, 32, 101, 108, 115, 101, 32, 123] (by simp only [List.length_append, List.length_cons, List.length_nil, lineS_len]; omega) (s := st) (o := 0) (t := 0) a b
         have e4 := fun st a b => (ih s.els (by omega) (by omega) (inn + 1) hpe (acc ++ lineS inn (marksS s.labels ++ [105, 102, 32, 40] ++ prE 0 s.x ++ [41, 32, 123]) ++ rowsS (inn + 1) s.thn ++ lineS inn [125, 32, 101, 108, 115, 101, 32, 123]) (by simp only [List.length_append, List.length_cons, List.length_nil, lineS_len]; omega)).bldz (by simp [D.oks, D.ok, okrSm, Tag.ok]) rfl (s := st) (o := 0) (t := 0) a b
         have e5 := fun st a b => line_z (l := acc ++ lineS inn (marksS s.labels ++ [105, 102, 32, 40] ++ prE 0 s.x ++ [41, 32, 123]) ++ rowsS (inn + 1) s.thn ++ lineS inn [125, 32, 101, 108, 115, 101, 32, 123] ++ rowsS (inn + 1) s.els) inn [125] (by simp only [List.length_append, List.length_cons, List.length_nil, lineS_len]; omega) (s := st) (o := 0) (t := 0) a b
         repeat' (first
 | simp only [go_sem, hC, hH, hJ, hM, c6, c5, ce, b1, b2, b3, w1, w2]
 | (with_reducible refine CU (em _) ?_)
 | (with_reducible refine CU (ee _) ?_)
 | (with_reducible refine CU (e1 _ (by with_unfolding_all rfl) (by with_unfolding_all rfl)) ?_)
 | (with_reducible refine CU (e2 _ (by with_unfolding_all rfl) (by with_unfolding_all rfl)) ?_)
 | (with_reducible refine CU (e3 _ (by with_unfolding_all rfl) (by with_unfolding_all rfl)) ?_)
 | (with_reducible refine CU (e4 _ (by with_unfolding_all rfl) (by with_unfolding_all rfl)) ?_)
 | (with_reducible refine CU (e5 _ (by with_unfolding_all rfl) (by with_unfolding_all rfl)) ?_)
 | (with_reducible first | refine kT_ fun hc => ?_ | refine kF_ fun hc => ?_ | refine kS_ (fun hc => ?_) fun hc => ?_) <;> (try simp only [hc, bs, ↓reduceIte] at h) <;> try simp only [hc]
 | (with_reducible refine lA_ hQ ?_; (try cases h); simp only [resL, oneD, sI_, eL_, go_sem, hC, hH, hJ, hM, c6, c5, ce, b1, b2, b3, w1, w2]; try exact lE_)
 | (cases h; done))
         refine rL_ 1 1 (IH (rest, k + 1, acc ++ lineS inn (marksS s.labels ++ [105, 102, 32, 40] ++ prE 0 s.x ++ [41, 32, 123]) ++ rowsS (inn + 1) s.thn ++ lineS inn [125, 32, 101, 108, 115, 101, 32, 123] ++ rowsS (inn + 1) s.els ++ lineS inn [125]) ⟨g2, by rw [← h2, hrow]; simp only [List.append_assoc], by rw [hrow] at lr; simp only [List.length_append] at lr ⊢; omega⟩ (by simp))
       | false =>
         have ce' : s.els.length = 0 := by have := of_decide_eq_false ce; omega
         rw [if_pos ce'] at hrow
         have e3 := fun st a b => line_z (l := acc ++ lineS inn (marksS s.labels ++ [105, 102, 32, 40] ++ prE 0 s.x ++ [41, 32, 123]) ++ rowsS (inn + 1) s.thn) inn [125] (by simp only [List.length_append, List.length_cons, List.length_nil, lineS_len]; omega) (s := st) (o := 0) (t := 0) a b
         repeat' (first
 | simp only [go_sem, hC, hH, hJ, hM, c6, c5, ce, b1, b2, b3, w1, w2]
 | (with_reducible refine CU (em _) ?_)
 | (with_reducible refine CU (ee _) ?_)
 | (with_reducible refine CU (e1 _ (by with_unfolding_all rfl) (by with_unfolding_all rfl)) ?_)
 | (with_reducible refine CU (e2 _ (by with_unfolding_all rfl) (by with_unfolding_all rfl)) ?_)
 | (with_reducible refine CU (e3 _ (by with_unfolding_all rfl) (by with_unfolding_all rfl)) ?_)
 | (with_reducible first | refine kT_ fun hc => ?_ | refine kF_ fun hc => ?_ | refine kS_ (fun hc => ?_) fun hc => ?_) <;> (try simp only [hc, bs, ↓reduceIte] at h) <;> try simp only [hc]
 | (with_reducible refine lA_ hQ ?_; (try cases h); simp only [resL, oneD, sI_, eL_, go_sem, hC, hH, hJ, hM, c6, c5, ce, b1, b2, b3, w1, w2]; try exact lE_)
 | (cases h; done))
         refine rL_ 1 1 (IH (rest, k + 1, acc ++ lineS inn (marksS s.labels ++ [105, 102, 32, 40] ++ prE 0 s.x ++ [41, 32, 123]) ++ rowsS (inn + 1) s.thn ++ lineS inn [125]) ⟨g2, by rw [← h2, hrow]; simp only [List.append_assoc, List.nil_append], by rw [hrow] at lr; simp only [List.length_append] at lr ⊢; omega⟩ (by simp))
     | false =>
       have ep := fun st => pplain_s ho (by omega) st
       have b1 : (marksS s.labels).length + (plainS s.kind s.name s.proc s.x s.has s.args).length ≤ maxStr := by unfold maxStr; omega
       have b2 : (marksS s.labels).length + (plainS s.kind s.name s.proc s.x s.has s.args).length + 1 ≤ maxStr := by unfold maxStr; omega
       have e1 := fun st a b => line_z (l := acc) inn (marksS s.labels ++ plainS s.kind s.name s.proc s.x s.has s.args ++ [59]) (by simp only [List.length_append, List.length_cons, List.length_nil]; omega) (s := st) (o := 0) (t := 0) a b
       rw [if_neg (by simpa using c6), if_neg (by simpa using c5)] at hrow
       repeat' (first
 | simp only [go_sem, hC, hH, hJ, hM, c6, c5, b1, b2, w1, w2]
 | (with_reducible refine CU (em _) ?_)
 | (with_reducible refine CU (ep _) ?_)
 | (with_reducible refine CU (e1 _ (by with_unfolding_all rfl) (by with_unfolding_all rfl)) ?_)
 | (with_reducible first | refine kT_ fun hc => ?_ | refine kF_ fun hc => ?_ | refine kS_ (fun hc => ?_) fun hc => ?_) <;> (try simp only [hc, bs, ↓reduceIte] at h) <;> try simp only [hc]
 | (with_reducible refine lA_ hQ ?_; (try cases h); simp only [resL, oneD, sI_, eL_, go_sem, hC, hH, hJ, hM, c6, c5, b1, b2, w1, w2]; try exact lE_)
 | (cases h; done))
       refine rL_ 1 1 (IH (rest, k + 1, acc ++ lineS inn (marksS s.labels ++ plainS s.kind s.name s.proc s.x s.has s.args ++ [59])) ⟨g2, by rw [← h2, hrow]; simp only [List.append_assoc], by rw [hrow] at lr; simp only [List.length_append] at lr ⊢; omega⟩ (by simp))

end Go.Abs

/-! Own -/

namespace Go.Abs

theorem Rel.ownO {M : Map} {s : St} {w : World} (r : Rel M s w) (o i z' : Nat) (y : Bool) {cs : List D} (hc : s.objs[o]? = some cs) (hi : cs[i]? = some (.val (.slice none 0 0))) :
   Rel (M.setT s.toks.length none) ⟨s.objs.set o (cs.set i (.slice (.tok s.toks.length y) z' [])), s.toks ++ [some 0]⟩ w ∧ Le M s (M.setT s.toks.length none) ⟨s.objs.set o (cs.set i (.slice (.tok s.toks.length y) z' [])), s.toks ++ [some 0]⟩ ∧
   Ext M s w (M.setT s.toks.length none) ⟨s.objs.set o (cs.set i (.slice (.tok s.toks.length y) z' [])), s.toks ++ [some 0]⟩ w := by
 obtain ⟨r', le⟩ := r.blank
 have le' : Le M s (M.setT s.toks.length none) ⟨s.objs.set o (cs.set i (.slice (.tok s.toks.length y) z' [])), s.toks ++ [some 0]⟩ := ⟨le.G, by simp, le.loc, le.t, le.tk⟩
 have le2 : Le (M.setT s.toks.length none) { s with toks := s.toks ++ [some 0] } (M.setT s.toks.length none) ⟨s.objs.set o (cs.set i (.slice (.tok s.toks.length y) z' [])), s.toks ++ [some 0]⟩ :=
   ⟨fun _ _ _ h => h, by simp, fun _ _ => rfl, Nat.le_refl _, fun t n' _ e => ⟨n', e, Nat.le_refl _, fun _ => rfl⟩⟩
 refine ⟨⟨r'.comm, fun o' ds e => ?_, fun o ho => r'.objG o (by simpa using ho), fun o o' ho ho' => r'.inj o o' (by simpa using ho) (by simpa using ho'), r'.tok,
     fun t b c z o hv e ho => r'.tokObj t b c z o hv e (by simpa using ho), r'.tokInj⟩, le', ?_⟩
 · simp only [List.getElem?_set] at e
   split at e
   · rename_i ho
     subst ho
     split at e
     · cases e
       obtain ⟨vs, T, g1, g2, g3, g4⟩ := r.obj o cs hc
       refine ⟨vs, T, g1, by simpa using g2, g3, fun j d v e1 e2 => ?_⟩
       rw [List.getElem?_set] at e1
       split at e1
       · rename_i hj
         subst hj
         split at e1
         · cases e1
           exact ((g4 i _ v hi e2).ownB (z' := z') (y := y)).mono le2
         · cases e1
       · exact (g4 j d v e1 e2).mono le'
     · cases e
   · obtain ⟨vs, T, g1, g2, g3, g4⟩ := r'.obj o' ds e
     exact ⟨vs, T, g1, g2, g3, fun i d v e1 e2 => (g4 i d v e1 e2).mono le2⟩
 · refine (ext_blank (Ext.refl M s w) le).trans ⟨le2, fun _ _ _ _ => rfl, fun o h1 h2 => ?_, fun t b c z hl e => .inl ⟨hl, c, z, e⟩, fun _ _ h => (h rfl).elim, Nat.le_refl _, rfl, rfl, rfl⟩
   simp at h2
   exact absurd h2 (Nat.not_lt.2 h1)

theorem SemL.tokB {P : Program} {B : Base} {nt : Nat} {a : AC} {Q : Exit → Tm → St → Prop} {tm : Tm} {s : St} (o i z' : Nat) (y : Bool) {cs : List D} (hc : s.objs[o]? = some cs) (hi : cs[i]? = some (.val (.slice none 0 0)))
   (h : SemL P B nt a Q tm ⟨s.objs.set o (cs.set i (.slice (.tok s.toks.length y) z' [])), s.toks ++ [some 0]⟩) : SemL P B nt a Q tm s := by
 intro c hcc act w hh
 obtain ⟨M, e, r, ht, h1, h2⟩ := hh
 obtain ⟨r2, le', ee⟩ := r.ownO o i z' y hc hi
 exact h c hcc act w ⟨_, e.trans ee, r2, fun k => (ht k).mono le', h1, h2⟩

theorem ACalls.tokB {P : Program} {f : FuncId} {args : List D} {s : St} {Q : D → St → Prop} (o i z' : Nat) (y : Bool) {cs : List D} (hc : s.objs[o]? = some cs) (hi : cs[i]? = some (.val (.slice none 0 0)))
   (h : ACalls P f args ⟨s.objs.set o (cs.set i (.slice (.tok s.toks.length y) z' [])), s.toks ++ [some 0]⟩ Q) : ACalls P f args s Q := by
 intro M w vargs r hd hl ha
 obtain ⟨r2, le', ee⟩ := r.ownO o i z' y hc hi
 refine (h _ w vargs r2 (hd.ext ee) hl fun i d v e1 e2 => (ha i d v e1 e2).mono le').mono fun e w' ⟨M', d, v, s', h1, h2, h3, h4⟩ => ⟨M', d, v, s', h1, h2, ee.trans h3, h4⟩

end Go.Abs

/-! MayEq2 -/

namespace Go.Abs

theorem itmays_app : ∀ (a b : List It) (n : Nat), It.mays n (a ++ b) = (It.mays n a && It.mays (n + a.length) b)
 | [], b, n => by simp [It.mays]
 | i :: a, b, n => by
   simp only [List.cons_append, It.mays, itmays_app a b (n + 1), List.length_cons]
   have : n + 1 + a.length = n + (a.length + 1) := by omega
   rw [this]
   split <;> simp

theorem itmays_one (n : Nat) (i : It) : It.mays n [i] = true ↔ i.s.id = ((n + 1 : Nat) : Int) ∧ i.deep ≤ 12 ∧ i.s.one = true := by
 simp only [It.mays]
 split
 · rename_i h
   simp only [Bool.or_eq_true, bne_iff_ne, ne_eq, decide_eq_true_eq, Bool.not_eq_true'] at h
   refine ⟨fun h => (Bool.false_ne_true h).elim, fun ⟨h1, h2, h3⟩ => ?_⟩
   rcases h with (h | h) | h
   · exact (h h1).elim
   · omega
   · rw [h] at h3; cases h3
 · rename_i h
   simp only [Bool.or_eq_true, bne_iff_ne, ne_eq, decide_eq_true_eq, Bool.not_eq_true', not_or, Decidable.not_not, Bool.not_eq_false] at h
   exact ⟨fun _ => ⟨h.1.1, by omega, h.2⟩, fun _ => rfl⟩

mutual
theorem flatS_pre (deep inn : Int) (els : Bool) : ∀ (s : Sm) (out : List It), ∃ new, flatS deep inn els out s = out ++ (⟨s, deep, inn, els⟩ :: new)
 | ⟨id, kind, labels, name, proc, x, has, args, thn, e⟩, out => by
   simp only [flatS]
   split
   · obtain ⟨n1, h1⟩ := flatL_pre (deep + 1) id false thn (out ++ [⟨⟨id, kind, labels, name, proc, x, has, args, thn, e⟩, deep, inn, els⟩])
     obtain ⟨n2, h2⟩ := flatL_pre (deep + 1) id true e (flatL (deep + 1) id false (out ++ [⟨⟨id, kind, labels, name, proc, x, has, args, thn, e⟩, deep, inn, els⟩]) thn)
     rw [h2, h1]
     exact ⟨n1 ++ n2, by simp⟩
   · exact ⟨[], rfl⟩
theorem flatL_pre (deep inn : Int) (els : Bool) : ∀ (l : List Sm) (out : List It), ∃ new, flatL deep inn els out l = out ++ new
 | [], out => ⟨[], by simp [flatL]⟩
 | s :: l, out => by
   simp only [flatL]
   split
   · obtain ⟨n1, h1⟩ := flatS_pre deep inn els s out
     obtain ⟨n2, h2⟩ := flatL_pre deep inn els l (flatS deep inn els out s)
     rw [h2, h1]
     exact ⟨⟨s, deep, inn, els⟩ :: n1 ++ n2, by simp⟩
   · exact ⟨[], by simp⟩
end

theorem mayR_true {nest : Int} {n : Nat} {s : Sm} (h : (Sm.mayR nest n s).1 = true) :
   n + 1 ≤ 200 ∧ s.id = ((n + 1 : Nat) : Int) ∧ s.one = true ∧ (Sm.mayG (nest + 1) (n + 1) s.thn).1 = true ∧ (Sm.mayG (nest + 1) (Sm.mayG (nest + 1) (n + 1) s.thn).2 s.els).1 = true ∧
   (Sm.mayR nest n s).2 = (Sm.mayG (nest + 1) (Sm.mayG (nest + 1) (n + 1) s.thn).2 s.els).2 := by
 rw [mayR_eq] at h ⊢
 split at h
 · cases h
 rename_i h1
 simp only [Bool.or_eq_true, bne_iff_ne, ne_eq, decide_eq_true_eq, Bool.not_eq_true', not_or, Decidable.not_not, Bool.not_eq_false] at h1
 split at h
 · cases h
 rename_i h2
 have h2' : (Sm.mayG (nest + 1) (n + 1) s.thn).1 = true := by simpa using h2
 refine ⟨by omega, h1.1.1.2, ?_, h2', h, ?_⟩
 · rw [one_fields, h1.1.2, h1.2]; rfl
 · rw [if_neg (by simp only [Bool.or_eq_true, bne_iff_ne, ne_eq, decide_eq_true_eq, Bool.not_eq_true', not_or, Decidable.not_not, Bool.not_eq_false]; exact h1), if_neg h2]

theorem mayG_true {nest : Int} {n : Nat} {l : List Sm} (h : (Sm.mayG nest n l).1 = true) : (l = [] ∨ nest ≤ 12) ∧ Sm.mayG nest n l = Sm.mayL nest n l := by
 unfold Sm.mayG gate at *
 split at h
 · cases h
 · rename_i hc
   rw [if_neg hc]
   refine ⟨?_, rfl⟩
   simp only [Bool.and_eq_true, decide_eq_true_eq, not_and] at hc
   cases l with
   | nil => exact .inl rfl
   | cons s l => right; simp only [List.length_cons] at hc; omega

mutual
theorem mayR_flat : ∀ (s : Sm) (nest inn : Int) (els : Bool) (n : Nat) (out : List It), nest ≤ 12 → out.length ≤ n → n ≤ 200 → (Sm.mayR nest n s).1 = true →
   ∃ new, flatS nest inn els out s = out ++ new ∧ It.mays n new = true ∧ n + new.length = (Sm.mayR nest n s).2 ∧ (Sm.mayR nest n s).2 ≤ 200
 | ⟨id, kind, labels, name, proc, x, has, args, thn, e⟩, nest, inn, els, n, out, h12, ho, hn, h => by
   obtain ⟨h1, h2, h3, h4, h5, h6⟩ := mayR_true h
   dsimp only at h2 h4 h5 h6
   rw [h6]
   obtain ⟨g1, e1⟩ := mayG_true h4
   rw [e1] at h4 h5 ⊢
   obtain ⟨g2, e2⟩ := mayG_true h5
   rw [e2] at h5 ⊢
   have hit : It.mays n [(⟨⟨id, kind, labels, name, proc, x, has, args, thn, e⟩, nest, inn, els⟩ : It)] = true := (itmays_one _ _).2 ⟨h2, h12, h3⟩
   obtain ⟨n1, k1, k2, k3, k4⟩ := mayL_flat thn (nest + 1) id false (n + 1) (out ++ [⟨⟨id, kind, labels, name, proc, x, has, args, thn, e⟩, nest, inn, els⟩]) g1 (by simp; omega) h1 h4
   obtain ⟨n2, j1, j2, j3, j4⟩ := mayL_flat e (nest + 1) id true _ (out ++ [⟨⟨id, kind, labels, name, proc, x, has, args, thn, e⟩, nest, inn, els⟩] ++ n1) g2 (by simp; omega) k4 h5
   simp only [flatS]
   rw [if_pos (by simpa using h12), k1, j1]
   refine ⟨⟨⟨id, kind, labels, name, proc, x, has, args, thn, e⟩, nest, inn, els⟩ :: (n1 ++ n2), by simp, ?_, ?_, j4⟩
   · have : (⟨⟨id, kind, labels, name, proc, x, has, args, thn, e⟩, nest, inn, els⟩ : It) :: (n1 ++ n2) = [⟨⟨id, kind, labels, name, proc, x, has, args, thn, e⟩, nest, inn, els⟩] ++ n1 ++ n2 := by simp
     rw [this, itmays_app, itmays_app, hit, Bool.true_and]
     have e3 : n + ([(⟨⟨id, kind, labels, name, proc, x, has, args, thn, e⟩, nest, inn, els⟩ : It)] ++ n1).length = (Sm.mayL (nest + 1) (n + 1) thn).2 := by simp; omega
     rw [e3, j2]
     have e4 : n + [(⟨⟨id, kind, labels, name, proc, x, has, args, thn, e⟩, nest, inn, els⟩ : It)].length = n + 1 := rfl
     rw [e4, k2]; rfl
   · simp only [List.length_cons, List.length_append]; omega
theorem mayL_flat : ∀ (l : List Sm) (nest inn : Int) (els : Bool) (n : Nat) (out : List It), (l = [] ∨ nest ≤ 12) → out.length ≤ n → n ≤ 200 → (Sm.mayL nest n l).1 = true →
   ∃ new, flatL nest inn els out l = out ++ new ∧ It.mays n new = true ∧ n + new.length = (Sm.mayL nest n l).2 ∧ (Sm.mayL nest n l).2 ≤ 200
 | [], nest, inn, els, n, out, h12, ho, hn, h => ⟨[], by simp [flatL], rfl, by simp [Sm.mayL], by simpa [Sm.mayL] using hn⟩
 | s :: l, nest, inn, els, n, out, h12, ho, hn, h => by
   have h12' : nest ≤ 12 := h12.resolve_left (by simp)
   simp only [Sm.mayL] at h ⊢
   split at h
   · cases h
   rename_i hc
   rw [if_neg hc]
   obtain ⟨n1, k1, k2, k3, k4⟩ := mayR_flat s nest inn els n out h12' ho hn (by simpa using hc)
   obtain ⟨n2, j1, j2, j3, j4⟩ := mayL_flat l nest inn els _ (out ++ n1) (.inr h12') (by simp; omega) k4 h
   simp only [flatL]
   rw [if_pos (by simp only [decide_eq_true_eq]; omega), k1, j1]
   refine ⟨n1 ++ n2, by simp, ?_, by simp; omega, j4⟩
   rw [itmays_app, k2, k3, j2]; rfl
end

mutual
theorem flat_mayR : ∀ (s : Sm) (nest inn : Int) (els : Bool) (n : Nat) (out new : List It), flatS nest inn els out s = out ++ new → It.mays n new = true → out.length ≤ n → n + new.length ≤ 200 →
   Sm.mayR nest n s = (true, n + new.length) ∧ nest ≤ 12
 | ⟨id, kind, labels, name, proc, x, has, args, thn, e⟩, nest, inn, els, n, out, new, hfl, hm, ho, hn => by
   obtain ⟨n0, h0⟩ := flatS_pre nest inn els ⟨id, kind, labels, name, proc, x, has, args, thn, e⟩ out
   have e0 : new = ⟨⟨id, kind, labels, name, proc, x, has, args, thn, e⟩, nest, inn, els⟩ :: n0 := List.append_cancel_left (hfl.symm.trans h0)
   subst e0
   have hcons : (⟨⟨id, kind, labels, name, proc, x, has, args, thn, e⟩, nest, inn, els⟩ : It) :: n0 = [⟨⟨id, kind, labels, name, proc, x, has, args, thn, e⟩, nest, inn, els⟩] ++ n0 := rfl
   rw [hcons, itmays_app, Bool.and_eq_true] at hm
   obtain ⟨hm1, hm2⟩ := hm
   obtain ⟨c1, c2, c3⟩ := (itmays_one _ _).1 hm1
   dsimp only at c1 c2 c3
   simp only [List.length_cons] at hn ⊢
   have hfl' : flatL (nest + 1) id true (flatL (nest + 1) id false (out ++ [⟨⟨id, kind, labels, name, proc, x, has, args, thn, e⟩, nest, inn, els⟩]) thn) e = out ++ ([⟨⟨id, kind, labels, name, proc, x, has, args, thn, e⟩, nest, inn, els⟩] ++ n0) := by
     simp only [flatS] at hfl
     rw [if_pos (by simpa using c2)] at hfl
     exact hfl
   obtain ⟨n1, g1⟩ := flatL_pre (nest + 1) id false thn (out ++ [⟨⟨id, kind, labels, name, proc, x, has, args, thn, e⟩, nest, inn, els⟩])
   obtain ⟨n2, g2⟩ := flatL_pre (nest + 1) id true e (flatL (nest + 1) id false (out ++ [⟨⟨id, kind, labels, name, proc, x, has, args, thn, e⟩, nest, inn, els⟩]) thn)
   have en : n0 = n1 ++ n2 := by
     rw [g2, g1] at hfl'
     simp only [List.append_assoc, List.append_cancel_left_eq] at hfl'
     exact hfl'.symm
   subst en
   have hm2' : It.mays (n + 1) (n1 ++ n2) = true := hm2
   rw [itmays_app, Bool.and_eq_true] at hm2'
   simp only [List.length_append] at hn ⊢
   obtain ⟨r1, r2⟩ := flat_mayL thn (nest + 1) id false (n + 1) _ n1 g1 hm2'.1 (by simp; omega) (by omega)
   obtain ⟨q1, q2⟩ := flat_mayL e (nest + 1) id true (n + 1 + n1.length) _ n2 g2 hm2'.2 (by rw [g1]; simp; omega) (by omega)
   refine ⟨?_, c2⟩
   have gg : ∀ {l : List Sm} {m : Nat} {r : Bool × Nat}, Sm.mayL (nest + 1) m l = r → (l = [] ∨ nest + 1 ≤ 12) → Sm.mayG (nest + 1) m l = r := by
     intro l m r h1 h2
     unfold Sm.mayG gate
     rw [if_neg]
     · exact h1
     · simp only [Bool.and_eq_true, decide_eq_true_eq, not_and]
       rcases h2 with h2 | h2
       · subst h2; simp
       · omega
   have t1 := gg r1 r2
   have t2 := gg q1 q2
   rw [mayR_eq]
   dsimp only
   rw [t1]
   dsimp only
   rw [t2]
   rw [one_fields, Bool.and_eq_true] at c3
   rw [if_neg]
   · simp; omega
   · simp only [Bool.or_eq_true, bne_iff_ne, ne_eq, decide_eq_true_eq, Bool.not_eq_true', not_or, Decidable.not_not, Bool.not_eq_false]
     exact ⟨⟨⟨by omega, c1⟩, c3.1⟩, c3.2⟩
theorem flat_mayL : ∀ (l : List Sm) (nest inn : Int) (els : Bool) (n : Nat) (out new : List It), flatL nest inn els out l = out ++ new → It.mays n new = true → out.length ≤ n → n + new.length ≤ 200 →
   Sm.mayL nest n l = (true, n + new.length) ∧ (l = [] ∨ nest ≤ 12)
 | [], nest, inn, els, n, out, new, hfl, hm, ho, hn => by
   simp only [flatL] at hfl
   have : new = [] := by simpa using hfl
   subst this
   exact ⟨by simp [Sm.mayL], .inl rfl⟩
 | s :: l, nest, inn, els, n, out, new, hfl, hm, ho, hn => by
   simp only [flatL] at hfl
   rw [if_pos (by simp only [decide_eq_true_eq]; omega)] at hfl
   obtain ⟨n1, g1⟩ := flatS_pre nest inn els s out
   obtain ⟨n2, g2⟩ := flatL_pre nest inn els l (flatS nest inn els out s)
   have en : new = (⟨s, nest, inn, els⟩ :: n1) ++ n2 := by
     rw [g2, g1, List.append_assoc, List.append_cancel_left_eq] at hfl
     exact hfl.symm
   subst en
   rw [itmays_app, Bool.and_eq_true] at hm
   rw [List.length_append] at hn ⊢
   obtain ⟨r1, r2⟩ := flat_mayR s nest inn els n out _ g1 hm.1 ho (by omega)
   obtain ⟨q1, q2⟩ := flat_mayL l nest inn els (n + (⟨s, nest, inn, els⟩ :: n1 : List It).length) _ n2 g2 hm.2 (by rw [g1, List.length_append]; omega) (by omega)
   refine ⟨?_, .inr r2⟩
   simp only [Sm.mayL, r1, Bool.not_true, Bool.false_eq_true, ↓reduceIte, q1]
   congr 1; omega
end

theorem procs_all : ∀ (l : List Pc) (out : List It), out.length ≤ 200 → (Pc.mayL out.length l = true ↔ Pc.heads l = true ∧ ∃ new, allM out l = out ++ new ∧ (out ++ new).length ≤ 200 ∧ It.mays out.length new = true)
 | [], out, ho => by simp [Pc.mayL, Pc.heads, allM, It.mays]; exact ho
 | f :: l, out, ho => by
   have hpre : ∀ (l : List Pc) (out : List It), ∃ new, allM out l = out ++ new := by
     intro l
     induction l with
     | nil => intro out; exact ⟨[], by simp [allM]⟩
     | cons f l ih =>
       intro out
       simp only [allM]
       split
       · exact ⟨_, rfl⟩
       · obtain ⟨n1, h1⟩ := ih (out ++ f.flat)
         exact ⟨f.flat ++ n1, by rw [h1, List.append_assoc]⟩
   simp only [Pc.mayL, Pc.heads]
   have hcond : (decide ((f.params.length : Int) > 8) || decide ((f.vars.length : Int) > 16) || !(isName f.name) || !(mayNames f.vars) || !(mayNames f.fin)) = (!(isName f.name) || decide ((f.params.length : Int) > 8) || decide ((f.vars.length : Int) > 16) || !(mayNames f.vars) || !(mayNames f.fin)) := by
     cases isName f.name <;> simp
   rw [hcond]
   split
   · simp
   split
   · simp
   have hg : Sm.mayG 1 out.length f.body = Sm.mayL 1 out.length f.body := by unfold Sm.mayG gate; rw [if_neg (by simp)]
   rw [hg]
   constructor
   · intro h
     split at h
     · cases h
     rename_i hc
     obtain ⟨n1, k1, k2, k3, k4⟩ := mayL_flat f.body 1 0 false out.length [] (.inr (by omega)) (by simp) ho (by simpa using hc)
     have hfl : f.flat = n1 := by unfold Pc.flat; rw [k1]; rfl
     rw [← k3, ← List.length_append] at h
     obtain ⟨hh, n2, j1, j2, j3⟩ := (procs_all l (out ++ n1) (by rw [List.length_append]; omega)).1 h
     refine ⟨hh, n1 ++ n2, ?_, by simpa using j2, ?_⟩
     · simp only [allM, hfl]
       rw [if_neg (by simp only [List.length_append, decide_eq_true_eq]; omega), j1, List.append_assoc]
     · rw [itmays_app, k2, ← List.length_append, j3]; rfl
   · rintro ⟨hh, new, j1, j2, j3⟩
     simp only [allM] at j1
     split at j1
     · rename_i hc
       have : new = f.flat := (List.append_cancel_left j1).symm
       subst this
       simp only [decide_eq_true_eq] at hc
       omega
     rename_i hc
     simp only [decide_eq_true_eq] at hc
     obtain ⟨n2, g2⟩ := hpre l (out ++ f.flat)
     have en : new = f.flat ++ n2 := by
       rw [g2, List.append_assoc] at j1
       exact (List.append_cancel_left j1).symm
     subst en
     rw [itmays_app, Bool.and_eq_true] at j3
     rw [List.length_append, List.length_append] at j2
     obtain ⟨r1, _⟩ := flat_mayL f.body 1 0 false out.length [] f.flat (by unfold Pc.flat; rfl) j3.1 (by simp) (by omega)
     rw [r1]
     simp only [Bool.not_true, Bool.false_eq_true, ↓reduceIte]
     rw [← List.length_append]
     exact (procs_all l (out ++ f.flat) (by rw [List.length_append]; omega)).2 ⟨hh, n2, g2, by simp; omega, by rw [List.length_append]; exact j3.2⟩

theorem mayP_eq (p : Pg) : p.mayP = p.may := by
 have h := procs_all p.procs [] (by simp)
 unfold Pg.mayP Pg.may
 split
 · rfl
 · have e : Pc.mayL 0 p.procs = (if !(Pc.heads p.procs) then false else if decide ((p.all.length : Int) > 200) then false else It.mays 0 p.all) := by
     rw [Bool.eq_iff_iff]
     have h' : Pc.mayL 0 p.procs = true ↔ _ := h
     rw [h']
     have ha : p.all = allM [] p.procs := rfl
     constructor
     · rintro ⟨h1, new, h2, h3, h4⟩
       rw [ha, h2, h1]
       simp only [List.nil_append] at h3 ⊢
       simp only [Bool.not_true, Bool.false_eq_true, ↓reduceIte]
       rw [if_neg (by simp only [decide_eq_true_eq]; omega)]
       exact h4
     · intro h1
       cases hh : Pc.heads p.procs
       · rw [hh] at h1; simp at h1
       · rw [hh] at h1
         simp only [Bool.not_true, Bool.false_eq_true, ↓reduceIte] at h1
         split at h1
         · cases h1
         · rename_i hc
           simp only [decide_eq_true_eq] at hc
           exact ⟨rfl, p.all, by rw [ha]; rfl, by simp; omega, h1⟩
   exact e

end Go.Abs

/-! Pr4 -/

namespace Go.Abs

set_option maxRecDepth 8000
open Go.Proofs

def paramS (a : Pm) : Str := (if a.ref then [114, 101, 102, 32] else []) ++ a.name
def procS (f : Pc) : Str :=
 lineS 0 ([112, 114, 111, 99, 32] ++ f.name ++ [40] ++ Lib.join (f.params.map paramS) [44, 32] ++ [41, 32, 123]) ++ (if f.vars.length = 0 then [] else lineS 1 ([118, 97, 114, 32] ++ Lib.join f.vars [44, 32] ++ [59])) ++ rowsS 1 f.body ++ lineS 0 (marksS f.fin ++ [125])
def procsS : List Pc → Str
 | [] => []
 | f :: l => procS f ++ procsS l
def globsS (l : List Str) : Str := if l.length = 0 then [] else lineS 0 ([103, 108, 111, 98, 97, 108, 32] ++ Lib.join l [44, 32] ++ [59])
def textS (p : Pg) : Str := globsS p.globals ++ procsS p.procs

structure Pc.PrP (f : Pc) : Prop where
 name : f.name.length ≤ 8
 params : ∀ a ∈ f.params, a.name.length ≤ 8
 vars : ∀ t ∈ f.vars, t.length ≤ 8
 fin : ∀ t ∈ f.fin, t.length ≤ 8
 body : Sm.PrRs 1 f.body
structure Pg.PrG (p : Pg) : Prop where
 globals : ∀ t ∈ p.globals, t.length ≤ 8
 procs : ∀ f ∈ p.procs, f.PrP

theorem short_len (sep : Str) {l : List Str} {n : Nat} (h : ∀ t ∈ l, t.length ≤ n) : (Lib.join l sep).length ≤ (n + sep.length) * l.length := by
 have h1 := join_len sep l
 have h2 : (l.map (·.length)).sum ≤ n * l.length := by
   clear h1
   induction l with
   | nil => simp
   | cons a l ih =>
     have := h a (List.mem_cons_self ..)
     have := ih fun t m => h t (List.mem_cons_of_mem _ m)
     simp only [List.map_cons, List.sum_cons, List.length_cons, Nat.mul_add, Nat.mul_one]; omega
 rw [Nat.add_mul]; omega
theorem params_len {l : List Pm} (h : ∀ a ∈ l, a.name.length ≤ 8) : (Lib.join (l.map paramS) [44, 32]).length ≤ 14 * l.length := by
 have := short_len [44, 32] (l := l.map paramS) (n := 12) (by
   intro t m
   obtain ⟨a, ha, rfl⟩ := List.mem_map.1 m
   have := h a ha
   unfold paramS
   split <;> simp only [List.length_append, List.length_cons, List.length_nil] <;> omega)
 simpa using this

theorem globsS_len {l : List Str} (h : ∀ t ∈ l, t.length ≤ 8) : (globsS l).length ≤ 10 * l.length + 9 := by
 have := short_len [44, 32] h
 unfold globsS
 split
 · simp
 · simp only [List.length_append, List.length_cons, List.length_nil, lineS_len] at this ⊢; omega

theorem procS_len {f : Pc} (h : f.PrP) : (procS f).length ≤ 200 * f.size := by
 have h1 := params_len h.params
 have h2 := short_len [44, 32] h.vars
 have h3 := marksS_len h.fin
 have h4 := rowsS_len f.body h.body
 have h5 := h.name
 unfold procS Pc.size
 simp only [List.length_cons, List.length_nil] at h2
 split <;> simp only [List.length_append, List.length_cons, List.length_nil, lineS_len] <;> omega
theorem procsS_len : ∀ {l : List Pc}, (∀ f ∈ l, f.PrP) → (procsS l).length ≤ 200 * Pc.sizes l
 | [], _ => by simp [procsS]
 | f :: l, h => by
   have h1 := procS_len (h f (List.mem_cons_self ..))
   have h2 := procsS_len fun t m => h t (List.mem_cons_of_mem _ m)
   simp only [procsS, Pc.sizes, List.length_append]; omega

/-! ### The walk -/

theorem prows_z {l : List Sm} (hs : Sm.sizes l ≤ 1000000) {inn : Nat} (hp : Sm.PrRs inn l) {acc : Str} (hb : acc.length + 200 * Sm.sizes l ≤ 540000000000) {s : St} {o t : Nat} (ho : s.objs[o]? = some (bobj o t acc)) (ht : s.toks[t]? = some (some (slen acc))) :
   Fun Tryd.prog n_print_writer_rows [.ptr o 0, .slice .shared 13 (l.map encSm), .int .i64 inn] s (.tuple []) ⟨s.objs.set o (bobj o t (acc ++ rowsS inn l)), s.toks.set t (some (slen (acc ++ rowsS inn l)))⟩ :=
 (prows_n _ l (Nat.le_refl _) hs inn hp acc hb).bldz (by simp [D.oks, D.ok, okrSm, Tag.ok]) rfl ho ht

theorem line_first (n : Nat) (m : Str) (h : n + m.length + 1 ≤ 549755813888) {s : St} {o : Nat} (ho : s.objs[o]? = some [.selfp tWriter o, .val (.slice none 0 0)]) :
   Fun Tryd.prog n_print_writer_line [.ptr o 0, .int .i64 n, .str m] s (.tuple []) ⟨s.objs.set o (bobj o s.toks.length (lineS n m)), s.toks ++ [some (slen (lineS n m))]⟩ := by
 have hC := (List.getElem?_eq_some_iff.1 ho).1
 have := line_z (l := []) n m (by simpa using h) (s := ⟨s.objs.set o (bobj o s.toks.length []), s.toks ++ [some 0]⟩) (o := o) (t := s.toks.length) (by simp [hC]) (by simp [slen])
 refine ACalls.tokB o 1 1 true ho rfl ?_
 refine ACalls.mono this fun d s' ⟨e1, e2⟩ => ⟨e1, ?_⟩
 rw [e2]
 simp

set_option maxHeartbeats 1600000 in
theorem pText_loop {p : Pg} (hg : p.PrG) (hps : Pc.sizes p.procs ≤ 1000000) (hpl : p.procs.length ≤ Pc.sizes p.procs) {B : Base} {Q : Exit → Tm → St → Prop} (hB : B.s = { objs := [], toks := [] }) {R : Str} (hRn : R.length ≤ 540000000000)
   (hQ : retF { objs := [], toks := [] : St }.objs.length { objs := [], toks := [] : St }.toks.length [(2, none)] (D.str R) { objs := [], toks := [] } = Q) :
   ∀ i : List Pc × Nat × Str, (p.procs.drop i.2.1 = i.1 ∧ i.2.2 ++ procsS i.1 = R ∧ i.2.2.length + 200 * Pc.sizes i.1 ≤ 530000000000) →
   SemL Tryd.prog B 85 Q25 (inBlockQ 0 (thenQ (wpC Tryd.prog B 85 Q2A Q) Q))
     [(3, .ptr 1 0), (26, .slice .shared 5 (p.procs.map encPc)), (27, .int .i64 (p.procs.length : Int)), (28, .int .i64 (i.2.1 : Int))] ⟨[encPg p, bobj 1 0 i.2.2], [some (slen i.2.2)]⟩ := by
 have ⟨hC, hH, hJ, hM⟩ := H4_
 refine SemL.ind (ι := List Pc × Nat × Str) (fun i => p.procs.drop i.2.1 = i.1 ∧ i.2.2 ++ procsS i.1 = R ∧ i.2.2.length + 200 * Pc.sizes i.1 ≤ 530000000000) (fun i => i.1.length) (fun i => [(3, .ptr 1 0), (26, .slice .shared 5 (p.procs.map encPc)), (27, .int .i64 (p.procs.length : Int)), (28, .int .i64 (i.2.1 : Int))]) (fun i => ⟨[encPg p, bobj 1 0 i.2.2], [some (slen i.2.2)]⟩) ?_
 rintro ⟨rest, k, acc⟩ ⟨h1, h2, h3⟩ IH
 dsimp only at h1 h2 h3
 cases rest with
 | nil =>
   have hC := drop_nil h1
   simp only [procsS, List.append_nil] at h2
   subst h2
   have es := fun st a b => String_s (s := st) (o := 1) (t := 0) (c0 := .selfp tWriter 1) acc a b (by omega)
   repeat' (first
 | simp only [go_sem, hC, hH, hJ, hM, bobj, slen]
 | (with_reducible refine CU (es _ (by with_unfolding_all rfl) (by with_unfolding_all rfl)) ?_)
 | (with_reducible first | refine kT_ fun hc => ?_ | refine kF_ fun hc => ?_ | refine kS_ (fun hc => ?_) fun hc => ?_) <;> (try simp only [hc, bs, ↓reduceIte] at h) <;> try simp only [hc]
 | (with_reducible refine lA_ hQ ?_; (try cases h); simp only [resL, oneD, sI_, eL_, go_sem, hC, hH, hJ, hM, bobj, slen]; try exact lE_)
 | (cases h; replace h := hr; clear hr; (try simp only [bs, ↓reduceIte] at h))
 | (cases h; done))
 | cons f rest =>
   obtain ⟨hH, g2, hC, g4⟩ := drop_cons h1
   have hmem := List.mem_of_getElem? hH
   have hsz := Pc.sizes_mem hmem
   have hP := hg.procs f hmem
   have hk : k < 4611686018427387904 := by omega
   have w1 : IntKind.wrap .i64 ((k : Int) + 1) = ((k + 1 : Nat) : Int) := by rw [wrap_ok] <;> omega
   simp only [Pc.sizes] at h3
   simp only [procsS] at h2
   have lf := procS_len hP
   have hfz : f.params.length + f.vars.length + f.fin.length + Sm.sizes f.body + 1 ≤ f.size := by unfold Pc.size; omega
   repeat' (first
 | simp only [go_sem, hC, hH, hJ, hM]
 | (with_reducible first | refine kT_ fun hc => ?_ | refine kF_ fun hc => ?_ | refine kS_ (fun hc => ?_) fun hc => ?_) <;> (try simp only [hc, bs, ↓reduceIte] at h) <;> try simp only [hc]
 | (with_reducible refine lA_ hQ ?_; exact lY_)
 | (cases h; replace h := hr; clear hr; (try simp only [bs, ↓reduceIte] at h))
 | (cases h; done))
   refine SemL.tokT 6 1 rfl ?_
   simp only [go_sem, hC, hH, hJ, hM]
   refine rL_ 3 2 (SemL.ind (ι := List Pm × Nat × List Str) (fun i => f.params.drop i.2.1 = i.1 ∧ i.2.2 ++ i.1.map paramS = f.params.map paramS ∧ i.2.2.length = i.2.1) (fun i => i.1.length)
     (fun i => [(3, .ptr 1 0), (26, .slice .shared 5 (p.procs.map encPc)), (27, .int .i64 (p.procs.length : Int)), (28, .int .i64 (k : Int)), (5, .ptr 2 0), (6, .slice (.tok 1) 1 (i.2.2.map encStr)), (33, .slice .shared 2 (f.params.map encPm)), (34, .int .i64 (f.params.length : Int)), (35, .int .i64 (i.2.1 : Int))]) (fun i => ⟨[encPg p, bobj 1 0 acc, encPc f], [some (slen acc), some i.2.1]⟩) ?_ (f.params, 0, []) ⟨rfl, rfl, rfl⟩)
   rintro ⟨ps, j, out⟩ ⟨p1, p2, p3⟩ IH2
   dsimp only at p1 p2 p3
   cases ps with
   | nil =>
     have hC := drop_nil p1
     simp only [List.map_nil, List.append_nil] at p2
     subst p2
     have lps := params_len hP.params
     have lvs := short_len [44, 32] hP.vars
     have lms := marksS_len hP.fin
     have lrs := rowsS_len f.body hP.body
     have lnm := hP.name
     simp only [List.length_cons, List.length_nil] at lvs
     have ej := fun s => Join_s (l := f.params.map paramS) (sep := [44, 32]) (by simp; omega) (by omega) (.tok 1) s
     have em := fun st => pmarks_s (by omega) hP.fin st
     have b1 : (5 : Nat) + f.name.length ≤ maxStr := by unfold maxStr; omega
     have b2 : f.name.length + 1 + 1 + 1 + 1 + 1 + 1 ≤ maxStr := by unfold maxStr; omega
     have b3 : f.name.length + 1 + 1 + 1 + 1 + 1 + 1 + (Lib.join (f.params.map paramS) [44, 32]).length ≤ maxStr := by unfold maxStr; omega
     have b4 : f.name.length + 1 + (Lib.join (f.params.map paramS) [44, 32]).length + 1 + 1 + 1 + 1 + 1 + 1 + 1 + 1 ≤ maxStr := by unfold maxStr; omega
     have b7 : (marksS f.fin).length + 1 ≤ maxStr := by unfold maxStr; omega
     have e1 := fun st a b => line_z (l := acc) 0 ([112, 114, 111, 99, 32] ++ f.name ++ [40] ++ Lib.join (f.params.map paramS) [44, 32] ++ [41, 32, 123]) (by simp only [List.length_append, List.length_cons, List.length_nil, lineS_len]; omega) (s := st) (o := 1) (t := 0) a b
     simp only [List.cons_append, List.nil_append, Int.cast_ofNat_Int] at e1
     cases cv : decide ((f.vars.length : Int) > 0) with
     | false =>
       have cv' : f.vars.length = 0 := by have := of_decide_eq_false cv; omega
       have e3 := fun st a b => prows_z (l := f.body) (by omega) hP.body (acc := acc ++ lineS 0 ([112, 114, 111, 99, 32] ++ f.name ++ [40] ++ Lib.join (f.params.map paramS) [44, 32] ++ [41, 32, 123])) (by simp only [List.length_append, List.length_cons, List.length_nil, lineS_len]; omega) (s := st) (o := 1) (t := 0) a b
       have e4 := fun st a b => line_z (l := acc ++ lineS 0 ([112, 114, 111, 99, 32] ++ f.name ++ [40] ++ Lib.join (f.params.map paramS) [44, 32] ++ [41, 32, 123]) ++ rowsS 1 f.body) 0 (marksS f.fin ++ [125]) (by simp only [List.length_append, List.length_cons, List.length_nil, lineS_len]; omega) (s := st) (o := 1) (t := 0) a b
       simp only [List.cons_append, List.nil_append, Int.cast_ofNat_Int] at e3 e4
       repeat' (first
 | simp only [go_sem, hC, hH, hJ, hM, w1, b1, b2, b3, b4, b7, cv]
 | (with_reducible refine CU (ej _) ?_)
 | (with_reducible refine CU (em _) ?_)
 | (with_reducible refine CU (e1 _ (by with_unfolding_all rfl) (by with_unfolding_all rfl)) ?_)
 | (with_reducible refine CU (e3 _ (by with_unfolding_all rfl) (by with_unfolding_all rfl)) ?_)
 | (with_reducible refine CU (e4 _ (by with_unfolding_all rfl) (by with_unfolding_all rfl)) ?_)
 | (with_reducible first | refine kT_ fun hc => ?_ | refine kF_ fun hc => ?_ | refine kS_ (fun hc => ?_) fun hc => ?_) <;> (try simp only [hc, bs, ↓reduceIte] at h) <;> try simp only [hc]
 | (with_reducible refine lA_ hQ ?_; (try cases h); simp only [resL, oneD, sI_, eL_, go_sem, hC, hH, hJ, hM, w1, b1, b2, b3, b4, b7, cv]; try exact lE_)
 | (cases h; replace h := hr; clear hr; (try simp only [bs, ↓reduceIte] at h))
 | (cases h; done))
       have hl := IH (rest, k + 1, acc ++ lineS 0 ([112, 114, 111, 99, 32] ++ f.name ++ [40] ++ Lib.join (f.params.map paramS) [44, 32] ++ [41, 32, 123]) ++ rowsS 1 f.body ++ lineS 0 (marksS f.fin ++ [125])) ⟨g2, by rw [← h2, procS, if_pos cv']; simp only [List.append_assoc, List.nil_append, List.cons_append], by rw [procS, if_pos cv'] at lf; simp only [List.length_append] at lf ⊢; omega⟩ (by simp)
       simp only [List.cons_append, List.nil_append, Int.cast_ofNat_Int] at hl
       refine rL_ 2 1 (hl)
     | true =>
       have cv' : f.vars.length ≠ 0 := by have := of_decide_eq_true cv; omega
       have ej2 := fun s => Join_s (l := f.vars) (sep := [44, 32]) (by omega) (by omega) .shared s
       have b5 : (4 : Nat) + (Lib.join f.vars [44, 32]).length ≤ maxStr := by unfold maxStr; omega
       have b6 : (Lib.join f.vars [44, 32]).length + 1 + 1 + 1 + 1 + 1 ≤ maxStr := by unfold maxStr; omega
       have e2 := fun st a b => line_z (l := acc ++ lineS 0 ([112, 114, 111, 99, 32] ++ f.name ++ [40] ++ Lib.join (f.params.map paramS) [44, 32] ++ [41, 32, 123])) 1 ([118, 97, 114, 32] ++ Lib.join f.vars [44, 32] ++ [59]) (by simp only [List.length_append, List.length_cons, List.length_nil, lineS_len]; omega) (s := st) (o := 1) (t := 0) a b
       simp only [List.cons_append, List.nil_append, Int.cast_ofNat_Int] at e2
       have e3 := fun st a b => prows_z (l := f.body) (by omega) hP.body (acc := acc ++ lineS 0 ([112, 114, 111, 99, 32] ++ f.name ++ [40] ++ Lib.join (f.params.map paramS) [44, 32] ++ [41, 32, 123]) ++ lineS 1 ([118, 97, 114, 32] ++ Lib.join f.vars [44, 32] ++ [59])) (by simp only [List.length_append, List.length_cons, List.length_nil, lineS_len]; omega) (s := st) (o := 1) (t := 0) a b
       have e4 := fun st a b => line_z (l := acc ++ lineS 0 ([112, 114, 111, 99, 32] ++ f.name ++ [40] ++ Lib.join (f.params.map paramS) [44, 32] ++ [41, 32, 123]) ++ lineS 1 ([118, 97, 114, 32] ++ Lib.join f.vars [44, 32] ++ [59]) ++ rowsS 1 f.body) 0 (marksS f.fin ++ [125]) (by simp only [List.length_append, List.length_cons, List.length_nil, lineS_len]; omega) (s := st) (o := 1) (t := 0) a b
       simp only [List.cons_append, List.nil_append, Int.cast_ofNat_Int] at e3 e4
       repeat' (first
 | simp only [go_sem, hC, hH, hJ, hM, w1, b1, b2, b3, b4, b7, cv, b5, b6]
 | (with_reducible refine CU (ej _) ?_)
 | (with_reducible refine CU (em _) ?_)
 | (with_reducible refine CU (e1 _ (by with_unfolding_all rfl) (by with_unfolding_all rfl)) ?_)
 | (with_reducible refine CU (ej2 _) ?_)
 | (with_reducible refine CU (e2 _ (by with_unfolding_all rfl) (by with_unfolding_all rfl)) ?_)
 | (with_reducible refine CU (e3 _ (by with_unfolding_all rfl) (by with_unfolding_all rfl)) ?_)
 | (with_reducible refine CU (e4 _ (by with_unfolding_all rfl) (by with_unfolding_all rfl)) ?_)
 | (with_reducible first | refine kT_ fun hc => ?_ | refine kF_ fun hc => ?_ | refine kS_ (fun hc => ?_) fun hc => ?_) <;> (try simp only [hc, bs, ↓reduceIte] at h) <;> try simp only [hc]
 | (with_reducible refine lA_ hQ ?_; (try cases h); simp only [resL, oneD, sI_, eL_, go_sem, hC, hH, hJ, hM, w1, b1, b2, b3, b4, b7, cv, b5, b6]; try exact lE_)
 | (cases h; replace h := hr; clear hr; (try simp only [bs, ↓reduceIte] at h))
 | (cases h; done))
       have hl := IH (rest, k + 1, acc ++ lineS 0 ([112, 114, 111, 99, 32] ++ f.name ++ [40] ++ Lib.join (f.params.map paramS) [44, 32] ++ [41, 32, 123]) ++ lineS 1 ([118, 97, 114, 32] ++ Lib.join f.vars [44, 32] ++ [59]) ++ rowsS 1 f.body ++ lineS 0 (marksS f.fin ++ [125])) ⟨g2, by rw [← h2, procS, if_neg cv']; simp only [List.append_assoc, List.nil_append, List.cons_append], by rw [procS, if_neg cv'] at lf; simp only [List.length_append] at lf ⊢; omega⟩ (by simp)
       simp only [List.cons_append, List.nil_append, Int.cast_ofNat_Int] at hl
       refine rL_ 2 1 (hl)
   | cons a ps =>
     obtain ⟨hH, q2, hC, q4⟩ := drop_cons p1
     have hmem2 := List.mem_of_getElem? hH
     have han := hP.params a hmem2
     have hj : j < 4611686018427387904 := by omega
     have w2 : IntKind.wrap .i64 ((j : Int) + 1) = ((j + 1 : Nat) : Int) := by rw [wrap_ok] <;> omega
     have hJ : (j + 1) * 17 ≤ maxStr := by unfold maxStr; omega
     have ea : paramS a = (if a.ref = true then [114, 101, 102, 32] else []) ++ a.name := rfl
     cases hr : a.ref with
     | true =>
       rw [hr] at ea
       have m1 : (4 : Nat) + a.name.length ≤ maxStr := by unfold maxStr; omega
       repeat' (first
 | simp only [go_sem, hC, hH, hJ, hM, hr, m1, w2, p3]
 | (with_reducible refine CU (pref_s _ _) ?_)
 | (with_reducible first | refine kT_ fun hc => ?_ | refine kF_ fun hc => ?_ | refine kS_ (fun hc => ?_) fun hc => ?_) <;> (try simp only [hc, bs, ↓reduceIte] at h) <;> try simp only [hc]
 | (with_reducible refine lA_ hQ ?_; (try cases h); simp only [resL, oneD, sI_, eL_, go_sem, hC, hH, hJ, hM, hr, m1, w2, p3]; try exact lE_)
 | (cases h; replace h := hr; clear hr; (try simp only [bs, ↓reduceIte] at h))
 | (cases h; done))
       refine rl_ 3 2 ?_ ?_ (IH2 (ps, j + 1, out ++ [paramS a]) ⟨q2, by rw [← p2]; simp, by simp [p3]⟩ (by simp))
       · (simp only [go_sem, hC, hH, hJ, hM, ea, List.cons_append, List.nil_append]; try exact lF_)
       · (simp only [go_sem, hC, hH, hJ, hM, ea, List.cons_append, List.nil_append]; try exact lF_)
     | false =>
       rw [hr] at ea
       have m1 : a.name.length ≤ maxStr := by unfold maxStr; omega
       repeat' (first
 | simp only [go_sem, hC, hH, hJ, hM, hr, m1, w2, p3, List.nil_append]
 | (with_reducible refine CU (pref_s _ _) ?_)
 | (with_reducible first | refine kT_ fun hc => ?_ | refine kF_ fun hc => ?_ | refine kS_ (fun hc => ?_) fun hc => ?_) <;> (try simp only [hc, bs, ↓reduceIte] at h) <;> try simp only [hc]
 | (with_reducible refine lA_ hQ ?_; (try cases h); simp only [resL, oneD, sI_, eL_, go_sem, hC, hH, hJ, hM, hr, m1, w2, p3, List.nil_append]; try exact lE_)
 | (cases h; replace h := hr; clear hr; (try simp only [bs, ↓reduceIte] at h))
 | (cases h; done))
       refine rl_ 3 2 ?_ ?_ (IH2 (ps, j + 1, out ++ [paramS a]) ⟨q2, by rw [← p2]; simp, by simp [p3]⟩ (by simp))
       · (simp only [go_sem, hC, hH, hJ, hM, ea, List.cons_append, List.nil_append]; try exact lF_)
       · (simp only [go_sem, hC, hH, hJ, hM, ea, List.cons_append, List.nil_append]; try exact lF_)

theorem pText_s {p : Pg} (hf : p.FineP) (hg : p.mayP = true → p.PrG) (hs : p.size ≤ 1000000) (s : St) : Fun Tryd.prog n_print_Text [.agg (encPg p)] s (.str (if p.may then textS p else [])) s := by
 refine Fun.pure ?_ (by simp only [D.oks, D.ok, okPg]; rfl) rfl s
 have hm := fun s => tMay_s hf s
 rw [← mayP_eq]
 cases cm : p.mayP with
 | false =>
   rw [if_neg (by simp)]
   unfold S0
   refine Fun.go has_print_Text rfl fun B Q hB hQ => ?_
   have ⟨hC, hH, hJ, hM⟩ := H4_
   repeat' (first
 | simp only [go_sem, hC, hH, hJ, hM, cm]
 | (with_reducible refine CU (hm _) ?_)
 | (with_reducible first | refine kT_ fun hc => ?_ | refine kF_ fun hc => ?_ | refine kS_ (fun hc => ?_) fun hc => ?_) <;> (try simp only [hc, bs, ↓reduceIte] at h) <;> try simp only [hc]
 | (with_reducible refine lA_ hQ ?_; (try cases h); simp only [resL, oneD, sI_, eL_, go_sem, hC, hH, hJ, hM, cm]; try exact lE_)
 | (cases h; done))
 | true =>
   rw [if_pos rfl]
   have hg := hg cm
   have hps : Pc.sizes p.procs ≤ 1000000 := by simp only [Pg.size] at hs; omega
   have hgl : p.globals.length ≤ 1000000 := by simp only [Pg.size] at hs; omega
   have hpl := Pc.sizes_len p.procs
   have lg := globsS_len hg.globals
   have lp := procsS_len hg.procs
   have ls := short_len [44, 32] hg.globals
   simp only [List.length_cons, List.length_nil] at ls
   unfold S0
   cases cg : decide ((p.globals.length : Int) > 0) with
   | true =>
     have cg' : p.globals.length ≠ 0 := by have := of_decide_eq_true cg; omega
     have eg : globsS p.globals = lineS 0 ([103, 108, 111, 98, 97, 108, 32] ++ Lib.join p.globals [44, 32] ++ [59]) := by rw [globsS, if_neg cg']
     have ej := fun s => Join_s (l := p.globals) (sep := [44, 32]) (by omega) (by omega) .shared s
     have b1 : (7 : Nat) + (Lib.join p.globals [44, 32]).length ≤ maxStr := by unfold maxStr; omega
     have b2 : (Lib.join p.globals [44, 32]).length + 1 + 1 + 1 + 1 + 1 + 1 + 1 + 1 ≤ maxStr := by unfold maxStr; omega
     have e1 := fun s a => line_first 0 ([103, 108, 111, 98, 97, 108, 32] ++ Lib.join p.globals [44, 32] ++ [59]) (by simp only [List.length_append, List.length_cons, List.length_nil]; omega) (s := s) (o := 1) a
     simp only [List.cons_append, List.nil_append, Int.cast_ofNat_Int] at e1 eg
     refine Fun.go has_print_Text rfl fun B Q hB hQ => ?_
     have ⟨hC, hH, hJ, hM⟩ := H4_
     repeat' (first
 | simp only [go_sem, hC, hH, hJ, hM, cm, cg, b1, b2]
 | (with_reducible refine CU (hm _) ?_)
 | (with_reducible refine CU (ej _) ?_)
 | (with_reducible refine CU (e1 _ (by with_unfolding_all rfl)) ?_)
 | (with_reducible first | refine kT_ fun hc => ?_ | refine kF_ fun hc => ?_ | refine kS_ (fun hc => ?_) fun hc => ?_) <;> (try simp only [hc, bs, ↓reduceIte] at h) <;> try simp only [hc]
 | (with_reducible refine lA_ hQ ?_; (try cases h); simp only [resL, oneD, sI_, eL_, go_sem, hC, hH, hJ, hM, cm, cg, b1, b2]; try exact lE_)
 | (cases h; done))
     have hl := pText_loop hg hps hpl hB (R := textS p) (by simp only [textS, List.length_append]; omega) hQ (p.procs, 0, globsS p.globals) ⟨rfl, rfl, by dsimp only; omega⟩
     simp only [eg] at hl
     refine rL_ 2 1 (hl)
   | false =>
     have cg' : p.globals.length = 0 := by have := of_decide_eq_false cg; omega
     have eg : globsS p.globals = [] := by rw [globsS, if_pos cg']
     refine Fun.go has_print_Text rfl fun B Q hB hQ => ?_
     have ⟨hC, hH, hJ, hM⟩ := H4_
     repeat' (first
 | simp only [go_sem, hC, hH, hJ, hM, cm, cg]
 | (with_reducible refine CU (hm _) ?_)
 | (with_reducible first | refine kT_ fun hc => ?_ | refine kF_ fun hc => ?_ | refine kS_ (fun hc => ?_) fun hc => ?_) <;> (try simp only [hc, bs, ↓reduceIte] at h) <;> try simp only [hc]
 | (with_reducible refine lA_ hQ ?_; (try cases h); simp only [resL, oneD, sI_, eL_, go_sem, hC, hH, hJ, hM, cm, cg]; try exact lE_)
 | (cases h; done))
     refine SemL.tokB 1 1 1 true rfl rfl ?_
     simp only [go_sem, hC, hH, hJ, hM]
     have hl := pText_loop hg hps hpl hB (R := textS p) (by simp only [textS, List.length_append]; omega) hQ (p.procs, 0, globsS p.globals) ⟨rfl, rfl, by dsimp only; omega⟩
     simp only [eg] at hl
     refine rl_ 2 1 ?_ ?_ (hl)
     · (simp only [go_sem, hC, hH, hJ, hM, bobj, encBy, List.map_nil, tWriter]; try exact lF_)
     · (simp only [go_sem, hC, hH, hJ, hM, bobj, encBy, List.map_nil, tWriter]; try exact lF_)

end Go.Abs

/-! Ps1 -/

namespace Go.Abs

def LxF (s : Str) (pos : Nat) (l : List Tok) : Prop := ∀ r lr, Lx (pos + s.length) r lr → Lx pos (s ++ r) (l ++ lr)
theorem LxF.nil (pos : Nat) : LxF [] pos [] := fun r lr h => h
theorem LxF.app {s t : Str} {pos : Nat} {l m : List Tok} (h : LxF s pos l) (k : LxF t (pos + s.length) m) : LxF (s ++ t) pos (l ++ m) := by
 intro r lr hl
 rw [List.append_assoc, List.append_assoc]
 refine h _ _ (k _ _ ?_)
 rw [List.length_append, ← Nat.add_assoc] at hl
 exact hl
theorem LxF.blank {c : UInt8} (h : isB c = true) {t : Str} {pos : Nat} {l : List Tok} (k : LxF t (pos + 1) l) : LxF (c :: t) pos l := by
 intro r lr hl
 refine .blank _ _ _ _ h (k _ _ ?_)
 have : pos + 1 + t.length = pos + (c :: t).length := by simp; omega
 rw [this]; exact hl
theorem LxF.blanks : ∀ (n : Nat) {t : Str} {pos : Nat} {l : List Tok}, LxF t (pos + n) l → LxF (List.replicate n 32 ++ t) pos l
 | 0, t, pos, l, k => k
 | n + 1, t, pos, l, k => by
   rw [List.replicate_succ, List.cons_append]
   exact .blank (by decide) (LxF.blanks n (by rw [Nat.add_right_comm]; exact k))
theorem LxS.then {s t : Str} {c : UInt8} {pos : Nat} {l m : List Tok} (h : LxS s pos l) (k : LxF (c :: t) (pos + s.length) m) (hc : isL c = false ∧ isD c = false := by decide) : LxF (s ++ c :: t) pos (l ++ m) := by
 intro r lr hl
 rw [List.append_assoc, List.append_assoc]
 refine h _ _ hc (k _ _ ?_)
 rw [List.length_append, ← Nat.add_assoc] at hl
 exact hl
theorem LxS.behind {s t : Str} {pos : Nat} {l m : List Tok} (h : LxF s pos l) (k : LxS t (pos + s.length) m) : LxS (s ++ t) pos (l ++ m) := by
 intro r lr hr hl
 rw [List.append_assoc, List.append_assoc]
 refine h _ _ (k _ _ hr ?_)
 rw [List.length_append, ← Nat.add_assoc] at hl
 exact hl
theorem LxF.s {s : Str} {pos : Nat} {l : List Tok} (h : LxF s pos l) : LxS s pos l := fun r lr _ hl => h r lr hl

def tSg (c : UInt8) (pos : Nat) : Tok := ⟨4, [c], 0, (pos : Nat)⟩
theorem tokE_sg {c : UInt8} (hc : (c == 40 || c == 41 || c == 44 || c == 58 || c == 59 || c == 123 || c == 125) = true) (pos : Nat) (r : Str) : tokE pos (c :: r) = .inl (tSg c pos) := by
 simp only [Bool.or_eq_true, beq_iff_eq] at hc
 cases r with
 | nil => rcases hc with (((((rfl | rfl) | rfl) | rfl) | rfl) | rfl) | rfl <;> simp (decide := true) [tokE, signL, tSg]
 | cons d r =>
   rcases hc with (((((rfl | rfl) | rfl) | rfl) | rfl) | rfl) | rfl
   all_goals
     have := fun a b c : UInt8 => (rfl : sign2 [a, b] = sign2 [a, b])
     simp (decide := true) [tokE, signL, tSg, sign2]
theorem LxF.sg {c : UInt8} {t : Str} {pos : Nat} {l : List Tok} (k : LxF t (pos + 1) l) (hc : (c == 40 || c == 41 || c == 44 || c == 58 || c == 59 || c == 123 || c == 125) = true := by decide) : LxF (c :: t) pos (tSg c pos :: l) := by
 intro r lr hl
 simp only [List.cons_append]
 refine .tok' (tokE_sg hc pos _) ?_
 refine k r lr ?_
 have : pos + (tSg c pos).text.length + t.length = pos + (c :: t).length := by simp [tSg]; omega
 have e : (tSg c pos).text.length = 1 := rfl
 rw [e] at this
 rw [this]; exact hl
theorem LxF.eq {t : Str} {pos : Nat} {l : List Tok} (k : LxF t (pos + 2) l) : LxF (61 :: 32 :: t) pos (tSg 61 pos :: l) := by
 intro r lr hl
 simp only [List.cons_append]
 have : tokE pos (61 :: 32 :: (t ++ r)) = .inl (tSg 61 pos) := by simp (decide := true) [tokE, signL, tSg]
 refine .tok' this ?_
 refine .blank _ _ _ _ (by decide) ?_
 refine k r lr ?_
 have : pos + (tSg 61 pos).text.length + 1 + t.length = pos + (61 :: 32 :: t).length := by simp [tSg]; omega
 have e : (tSg 61 pos).text.length = 1 := rfl
 rw [e] at this
 have e2 : pos + 2 + t.length = pos + 1 + 1 + t.length := by omega
 rw [e2, this]; exact hl

def tNm (t : Str) (pos : Nat) : Tok := ⟨1, t, 0, (pos : Nat)⟩
theorem LxS.nm {t : Str} (ht : isName t = true) (pos : Nat) : LxS t pos [tNm t pos] := by
 intro r lr hr hl
 refine .tok' (tokE_nm ht pos hr).1 ?_
 simpa [tNm] using hl
def tWd (t : Str) (pos : Nat) : Tok := ⟨3, t, 0, (pos : Nat)⟩
theorem LxS.wd {w : Str} (pos : Nat) (h : (isWord w && w.all isL && !w.isEmpty && decide (w.length ≤ 8)) = true := by decide) : LxS w pos [tWd w pos] := by
 intro r lr hnr hl
 simp only [Bool.and_eq_true, decide_eq_true_eq, Bool.not_eq_true', List.isEmpty_eq_false_iff] at h
 obtain ⟨⟨⟨hw, ha⟩, h0⟩, h8⟩ := h
 have hrun : ∀ s : Str, s.all isL = true → runL (s ++ r) = s.length := by
   intro s
   induction s with
   | nil =>
     intro _
     cases r with
     | nil => rfl
     | cons c r => simp only [NoGo] at hnr; simp [runL, hnr.1, hnr.2]
   | cons d s ih =>
     intro hs
     simp only [List.all_cons, Bool.and_eq_true] at hs
     simp only [List.cons_append, runL, hs.1, Bool.true_or, ↓reduceIte, List.length_cons, ih hs.2]
 obtain ⟨d, s, rfl⟩ : ∃ d s, w = d :: s := by
   cases w with
   | nil => exact absurd rfl h0
   | cons d s => exact ⟨d, s, rfl⟩
 have hd : isL d = true := by
   simp only [List.all_cons, Bool.and_eq_true] at ha
   exact ha.1
 have hr := hrun _ ha
 have htk : (d :: s ++ r).take (d :: s).length = d :: s := List.take_left' rfl
 have : tokE pos (d :: s ++ r) = .inl (tWd (d :: s) pos) := by
   rw [List.cons_append] at hr htk ⊢
   simp only [tokE, hd, ↓reduceIte, hr, htk, hw]
   rw [if_neg (by omega)]
   rfl
 refine .tok' this ?_
 simpa [tWd] using hl

/-! ### Lists -/

inductive SepG {α : Type} (G : α → List Tok → Prop) : List α → List Tok → Prop
 | one (x : α) (l : List Tok) (h : G x l) : SepG G [x] l
 | cons (x : α) (l : List Tok) (c : Tok) (hc : c.kind = 4 ∧ c.text = [44]) (xs : List α) (m : List Tok) (h : G x l) (k : SepG G xs m) : SepG G (x :: xs) (l ++ c :: m)

theorem LxS.join {α : Type} (f : α → Str) (G : α → List Tok → Prop) : ∀ (xs : List α) (pos : Nat), xs ≠ [] → (∀ x ∈ xs, ∀ pos, ∃ l, LxS (f x) pos l ∧ G x l) →
   ∃ l, LxS (Lib.join (xs.map f) [44, 32]) pos l ∧ SepG G xs l
 | [x], pos, _, h => by
   obtain ⟨l, h1, h2⟩ := h x (by simp) pos
   refine ⟨l, ?_, .one x l h2⟩
   simpa [Lib.join, List.intercalate] using h1
 | x :: y :: xs, pos, _, h => by
   obtain ⟨l, h1, h2⟩ := h x (by simp) pos
   obtain ⟨m, k1, k2⟩ := LxS.join f G (y :: xs) (pos + (f x).length + 2) (by simp) (fun z hz => h z (List.mem_cons_of_mem _ hz))
   refine ⟨l ++ tSg 44 (pos + (f x).length) :: m, ?_, .cons x l _ ⟨rfl, rfl⟩ _ m h2 k2⟩
   have e : Lib.join ((x :: y :: xs).map f) [44, 32] = f x ++ 44 :: (32 :: Lib.join ((y :: xs).map f) [44, 32]) := by
     simp only [Lib.join, List.map_cons, List.intercalate_cons_cons, List.append_assoc, List.cons_append, List.nil_append]
   rw [e]
   intro r lr hr hl
   rw [List.append_assoc, List.append_assoc]
   refine h1 _ _ ⟨by decide, by decide⟩ ?_
   refine .tok' (tokE_sg (by decide) _ _) ?_
   refine .blank _ _ _ _ (by decide) ?_
   have e2 : pos + (f x).length + (tSg 44 (pos + (f x).length)).text.length + 1 = pos + (f x).length + 2 := rfl
   refine k1 r lr hr ?_
   have : pos + (f x).length + 2 + (Lib.join ((y :: xs).map f) [44, 32]).length = pos + (f x ++ 44 :: (32 :: Lib.join ((y :: xs).map f) [44, 32])).length := by simp; omega
   rw [this]; exact hl

end Go.Abs

/-! Ps2 -/

namespace Go.Abs

theorem At.name' {r : Rd} {t : Tok} {m : List Tok} (h : At r (t :: m)) (hk : t.kind = 1) {b : Bool} (hb : b = true) : r.name b = some (t.text, r.mv 1) := by rw [hb]; exact h.name hk
theorem push_ok {α : Type} {k : Nat} {l : List α} {x : α} (hl : l.length ≤ 1000000) (hk : k ≤ 1000) : push k l x = some (l ++ [x]) := by
 unfold push
 rw [if_pos]
 have : (l.length + 1) * k ≤ 1000001 * 1000 := Nat.mul_le_mul (by omega) hk
 unfold maxStr; omega

def GName (t : Str) (l : List Tok) : Prop := ∃ k : Tok, l = [k] ∧ k.kind = 1 ∧ k.text = t
theorem kd4 {t : Tok} (h : t.kind = 4) : Kd t := Kd.of h
theorem kd1 {t : Tok} (h : t.kind = 1) : Kd t := Kd.of h

theorem names_as {xs : List Str} {l : List Tok} (h : SepG GName xs l) : ∀ (r : Rd) (q : Tok) (lr : List Tok) (out : List Str) (n : Nat) (most : Int), At r (l ++ q :: lr) → q.kind = 4 → q.text = [59] → ((out.length + xs.length : Nat) : Int) ≤ most → most ≤ 1000 → xs.length ≤ n →
   Rd.names n out most r = some (out ++ xs, r.mv (l.length + 1)) := by
 induction h with
 | one x l hx =>
   intro r q lr out n most hA hq ht hm hm2 hn
   obtain ⟨k, rfl, hk, rfl⟩ := hx
   simp only [List.length_cons, List.length_nil] at hm hn
   cases n with
   | zero => omega
   | succ n =>
     have hA : At r (k :: q :: lr) := hA
     have hA1 := hA.one
     rw [Rd.names, if_pos hA.good, hA.name' hk (by simp only [decide_eq_true_eq]; omega), Option.bind_some, push_ok (by omega) (by omega), Option.bind_some, hA1.take_no (kd4 hq) (.inr (by rw [ht]; decide)), Option.bind_some]
     simp only [Bool.not_false, ↓reduceIte]
     rw [hA1.want (.inr hq) ht]
     rfl
 | cons x l c hc xs m hx _ ih =>
   intro r q lr out n most hA hq ht hm hm2 hn
   obtain ⟨k, rfl, hk, rfl⟩ := hx
   simp only [List.length_cons] at hm hn
   cases n with
   | zero => omega
   | succ n =>
     have hA : At r (k :: c :: (m ++ q :: lr)) := by simpa using hA
     have hA1 := hA.one
     rw [Rd.names, if_pos hA.good, hA.name' hk (by simp only [decide_eq_true_eq]; omega), Option.bind_some, push_ok (by omega) (by omega), Option.bind_some, hA1.take_yes (.inr hc.1) hc.2, Option.bind_some]
     simp only [Bool.not_true, Bool.false_eq_true, ↓reduceIte]
     rw [ih _ q lr (out ++ [k.text]) n most hA1.one hq ht (by simp only [List.length_append, List.length_cons, List.length_nil]; omega) hm2 (by omega)]
     simp only [List.append_assoc, List.cons_append, List.nil_append, mv_mv, List.length_append, List.length_cons, List.length_nil]
     congr 3
     omega

def GParam (a : Pm) (l : List Tok) : Prop := if a.ref then ∃ w k : Tok, l = [w, k] ∧ w.kind = 3 ∧ w.text = [114, 101, 102] ∧ k.kind = 1 ∧ k.text = a.name else GName a.name l
theorem params_as {xs : List Pm} {l : List Tok} (h : SepG GParam xs l) : ∀ (r : Rd) (q : Tok) (lr : List Tok) (out : List Pm) (n : Nat), At r (l ++ q :: lr) → q.kind = 4 → q.text = [41] → out.length + xs.length ≤ 8 → xs.length ≤ n →
   Rd.params n out r = some (out ++ xs, r.mv l.length) := by
 -- one of them
 have step : ∀ (x : Pm) (l : List Tok), GParam x l → ∀ (r : Rd) (q : Tok) (lr : List Tok) (out : List Pm), At r (l ++ q :: lr) → out.length < 8 → (r.take [114, 101, 102]).bind (fun p => (p.2.name (decide ((out.length : Int) < 8))).bind fun y => (push 25 out ⟨y.1, p.1⟩).bind fun o => some (o, y.2)) = some (out ++ [x], r.mv l.length) := by
   intro x l hx r q lr out hA ho
   obtain ⟨nm, rf⟩ := x
   unfold GParam at hx
   split at hx
   · rename_i hr
     obtain ⟨w, k, rfl, w1, w2, k1, k2⟩ := hx
     have hA : At r (w :: k :: q :: lr) := hA
     dsimp only at hr k2
     subst hr k2
     rw [hA.take_yes (.inl w1) w2, Option.bind_some]
     dsimp only
     rw [hA.one.name' k1 (by simp only [decide_eq_true_eq]; omega), Option.bind_some]
     dsimp only
     rw [push_ok (by omega) (by omega), Option.bind_some, mv_mv]
     rfl
   · rename_i hr
     obtain ⟨k, rfl, k1, k2⟩ := hx
     have hA : At r (k :: q :: lr) := hA
     have hr : rf = false := by simpa using hr
     dsimp only at k2
     subst hr k2
     rw [hA.take_no (kd1 k1) (.inl (by omega)), Option.bind_some]
     dsimp only
     rw [hA.name' k1 (by simp only [decide_eq_true_eq]; omega), Option.bind_some]
     dsimp only
     rw [push_ok (by omega) (by omega), Option.bind_some]
     rfl
 have glue : ∀ (out : List Pm) (r : Rd) (n : Nat), r.good = true → Rd.params (n + 1) out r = ((r.take [114, 101, 102]).bind (fun p => (p.2.name (decide ((out.length : Int) < 8))).bind fun y => (push 25 out ⟨y.1, p.1⟩).bind fun o => some (o, y.2))).bind fun o => (o.2.take [44]).bind fun c => if !c.1 then some (o.1, c.2) else Rd.params n o.1 c.2 := by
   intro out r n hg
   rw [Rd.params, if_pos hg]
   simp only [Option.bind_assoc, Option.bind_some]
 induction h with
 | one x l hx =>
   intro r q lr out n hA hq ht hm hn
   simp only [List.length_cons, List.length_nil] at hm hn
   cases n with
   | zero => omega
   | succ n =>
     rw [glue _ _ _ hA.good, step x l hx r q lr out hA (by omega), Option.bind_some]
     dsimp only
     rw [hA.app.take_no (kd4 hq) (.inr (by rw [ht]; decide)), Option.bind_some]
     rfl
 | cons x l c hc xs m hx _ ih =>
   intro r q lr out n hA hq ht hm hn
   simp only [List.length_cons] at hm hn
   cases n with
   | zero => omega
   | succ n =>
     have hA : At r (l ++ c :: (m ++ q :: lr)) := by simpa using hA
     rw [glue _ _ _ hA.good, step x l hx r c _ out hA (by omega), Option.bind_some]
     dsimp only
     rw [hA.app.take_yes (.inr hc.1) hc.2, Option.bind_some]
     simp only [Bool.not_true, Bool.false_eq_true, ↓reduceIte]
     rw [ih _ q lr _ n hA.app.one hq ht (by simp only [List.length_append, List.length_cons, List.length_nil]; omega) (by omega)]
     simp only [List.append_assoc, List.cons_append, List.nil_append, mv_mv, List.length_append, List.length_cons, List.length_nil]
     congr 3
     omega

theorem NoCall.first {l : List Tok} (h : NoCall l) : ∃ t l', l = t :: l' ∧ Kd t ∧ ∀ s : Str, (s == [40] || s == [45] || s == [33]) = false → (t.kind ≠ 3 ∧ t.kind ≠ 4) ∨ t.text ≠ s := by
 rcases h with ⟨t, l', rfl, h⟩ | ⟨t, rfl, h⟩ | ⟨t, u, l', rfl, h, _⟩
 · refine ⟨t, l', rfl, by rcases h with h | h; exact Kd.of h; exact Kd.of h.1, fun s hs => ?_⟩
   rcases h with h | ⟨h, h2⟩
   · exact .inl (by omega)
   · right
     rintro rfl
     rcases h2 with h2 | h2 | h2 <;> simp [h2] at hs
 · exact ⟨t, [], rfl, kd1 h, fun s _ => .inl (by omega)⟩
 · exact ⟨t, _, rfl, kd1 h, fun s _ => .inl (by omega)⟩

def GArg (a : Ar) (l : List Tok) : Prop := if a.ref then ∃ w k : Tok, l = [w, k] ∧ w.kind = 3 ∧ w.text = [114, 101, 102] ∧ k.kind = 1 ∧ k.text = a.name else WholeAs a.x l ∧ NoCall l ∧ l.length = exN 0 a.x
def arZ (a : Ar) : Ar := if a.ref then ⟨true, a.name, ex0⟩ else ⟨false, [], a.x⟩

theorem ends_sign {t : Tok} {m : List Tok} (hk : t.kind = 4) {s : Str} (ht : t.text = s) (hs : (s == [41] || s == [59] || s == [44] || s == [123] || s == [125]) = true) : Ends (t :: m) := by
 refine ⟨t, m, rfl, kd4 hk, ?_⟩
 simp only [Bool.or_eq_true, beq_iff_eq] at hs
 rcases hs with (((rfl | rfl) | rfl) | rfl) | rfl <;> simp (decide := true) [opOf, hk, ht]

theorem args_as {xs : List Ar} {l : List Tok} (h : SepG GArg xs l) : ∀ (r : Rd) (q : Tok) (lr : List Tok) (out : List Ar) (m n : Nat), At r (l ++ q :: lr) → q.kind = 4 → q.text = [41] → out.length + xs.length ≤ 1000000 → xs.length ≤ n → 3 * l.length < m →
   Rd.callL m n out r = some (out ++ xs.map arZ, r.mv l.length) := by
 have step : ∀ (x : Ar) (l : List Tok), GArg x l → ∀ (r : Rd) (q : Tok) (lr : List Tok) (out : List Ar) (m n : Nat), At r (l ++ q :: lr) → q.kind = 4 → (q.text = [41] ∨ q.text = [44]) → out.length < 1000000 → 3 * l.length < m →
     Rd.callL m (n + 1) out r = ((r.mv l.length).take [44]).bind fun c => if !c.1 then some (out ++ [arZ x], c.2) else Rd.callL m n (out ++ [arZ x]) c.2 := by
   intro x l hx r q lr out m n hA hq hqt ho hm
   obtain ⟨rf, nm, e⟩ := x
   rw [Rd.callL, if_pos hA.good]
   unfold GArg at hx
   split at hx
   · rename_i hr
     obtain ⟨w, k, rfl, w1, w2, k1, k2⟩ := hx
     have hA : At r (w :: k :: q :: lr) := hA
     dsimp only at hr k2
     subst hr k2
     rw [hA.take_yes (.inl w1) w2, Option.bind_some]
     simp only [↓reduceIte]
     rw [hA.one.name k1, Option.bind_some]
     dsimp only
     rw [push_ok (by omega) (by omega), Option.bind_some, mv_mv]
     rfl
   · rename_i hr
     obtain ⟨h1, h2, _⟩ := hx
     have hr : rf = false := by simpa using hr
     subst hr
     obtain ⟨t, l', rfl, hk, hs⟩ := h2.first
     have hA' : At r (t :: (l' ++ q :: lr)) := hA
     rw [hA'.take_no hk (hs _ (by decide)), Option.bind_some]
     simp only [Bool.false_eq_true, ↓reduceIte]
     rw [h1 r (q :: lr) m hA (by rcases hqt with h | h <;> exact ends_sign hq h (by decide)) hm, Option.bind_some]
     dsimp only
     rw [push_ok (by omega) (by omega), Option.bind_some]
     rfl
 induction h with
 | one x l hx =>
   intro r q lr out m n hA hq ht hm hn hf
   simp only [List.length_cons, List.length_nil] at hm hn
   cases n with
   | zero => omega
   | succ n =>
     rw [step x l hx r q lr out m n hA hq (.inl ht) (by omega) hf, hA.app.take_no (kd4 hq) (.inr (by rw [ht]; decide)), Option.bind_some]
     rfl
 | cons x l c hc xs k hx _ ih =>
   intro r q lr out m n hA hq ht hm hn hf
   simp only [List.length_cons, List.length_append] at hm hn hf
   cases n with
   | zero => omega
   | succ n =>
     have hA : At r (l ++ c :: (k ++ q :: lr)) := by simpa using hA
     rw [step x l hx r c _ out m n hA hc.1 (.inr hc.2) (by omega) (by omega), hA.app.take_yes (.inr hc.1) hc.2, Option.bind_some]
     simp only [Bool.not_true, Bool.false_eq_true, ↓reduceIte]
     rw [ih _ q lr _ m n hA.app.one hq ht (by simp only [List.length_append, List.length_cons, List.length_nil]; omega) (by omega) (by omega)]
     simp only [List.append_assoc, List.cons_append, List.nil_append, mv_mv, List.length_append, List.length_cons, List.length_nil, List.map_cons]
     congr 3
     omega

/-! ### Labels -/

inductive LabT : List Str → List Tok → Prop
 | nil : LabT [] []
 | cons (t c : Tok) (ls : List Str) (m : List Tok) (ht : t.kind = 1) (hc : c.kind = 4) (hc2 : c.text = [58]) (h : LabT ls m) : LabT (t.text :: ls) (t :: c :: m)
def NoLab (l : List Tok) : Prop := ∃ t l', l = t :: l' ∧ Kd t ∧ (t.kind ≠ 1 ∨ ∃ u m, l' = u :: m ∧ (u.kind ≠ 4 ∨ u.text ≠ [58]))

theorem At.ahead_no {r : Rd} {l : List Tok} (h : At r l) {s : Str} (hl : ∃ t l', l = t :: l' ∧ Kd t ∧ (t.kind ≠ 1 ∨ ∃ u m, l' = u :: m ∧ (u.kind ≠ 4 ∨ u.text ≠ s))) : r.ahead s = some false := by
 obtain ⟨t, l', rfl, hk, hl⟩ := hl
 unfold Rd.ahead
 rw [if_pos h.good, h.peek hk, Option.bind_some]
 by_cases h1 : t.kind = 1
 · rcases hl with hl | ⟨u, m, rfl, hl⟩
   · exact absurd h1 hl
   · have hg : Go.Abs.getO r.l (r.i + 1) = some u := h.one.getO
     have k1 : (t.kind == 1) = true := by simp [h1]
     rw [if_pos k1, hg, Option.bind_some]
     rcases hl with hl | hl <;> simp [hl]
 · have k1 : (t.kind == 1) = false := by simp [h1]
   rw [if_neg (by simp [h1])]
theorem At.ahead_yes {r : Rd} {t u : Tok} {m : List Tok} (h : At r (t :: u :: m)) {s : Str} (ht : t.kind = 1) (hu : u.kind = 4) (hs : u.text = s) : r.ahead s = some true := by
 unfold Rd.ahead
 have hg : Go.Abs.getO r.l (r.i + 1) = some u := h.one.getO
 have k1 : (t.kind == 1) = true := by simp [ht]
 rw [if_pos h.good, h.peek (kd1 ht), Option.bind_some, if_pos k1, hg, Option.bind_some]
 simp [hu, hs]

theorem labels_as {ls : List Str} {l : List Tok} (h : LabT ls l) : ∀ (r : Rd) (lr : List Tok) (out : List Str) (n : Nat), At r (l ++ lr) → NoLab lr → out.length + ls.length ≤ 1000000 → ls.length < n → Rd.labels n out r = some (out ++ ls, r.mv l.length) := by
 induction h with
 | nil =>
   intro r lr out n hA hN ho hn
   cases n with
   | zero => omega
   | succ n =>
     have hA : At r lr := hA
     rw [Rd.labels, hA.ahead_no hN, Option.bind_some]
     simp [Rd.mv]
 | cons t c ls m ht hc hc2 _ ih =>
   intro r lr out n hA hN ho hn
   simp only [List.length_cons] at ho hn
   cases n with
   | zero => omega
   | succ n =>
     have hA : At r (t :: c :: (m ++ lr)) := hA
     rw [Rd.labels, hA.ahead_yes ht hc hc2, Option.bind_some]
     simp only [↓reduceIte]
     rw [hA.peek (kd1 ht), Option.bind_some, push_ok (by omega) (by omega), Option.bind_some]
     have hA2 : At ({ r with i := r.i + 2 } : Rd) (m ++ lr) := hA.one.one
     rw [ih _ lr _ n hA2 hN (by simp only [List.length_append, List.length_cons, List.length_nil]; omega) (by omega)]
     simp only [List.append_assoc, List.cons_append, List.nil_append, Rd.mv, List.length_cons]
     congr 3
     omega

end Go.Abs

/-! PrMay -/

namespace Go.Abs

mutual
def Sm.rng : Sm → Prop
 | ⟨_, _, _, _, _, x, _, args, thn, els⟩ => x.rng ∧ (∀ a ∈ args, a.x.rng) ∧ Sm.rngs thn ∧ Sm.rngs els
def Sm.rngs : List Sm → Prop
 | [] => True
 | s :: l => s.rng ∧ Sm.rngs l
end
def Pg.rng (p : Pg) : Prop := ∀ f ∈ p.procs, Sm.rngs f.body
theorem Sm.rng_eq (s : Sm) : s.rng ↔ s.x.rng ∧ (∀ a ∈ s.args, a.x.rng) ∧ Sm.rngs s.thn ∧ Sm.rngs s.els := by cases s; simp only [Sm.rng]

theorem one_PrO {s : Sm} (h : s.one = true) (hx : s.x.rng) (ha : ∀ a ∈ s.args, a.x.rng) : s.PrO := by
 unfold Sm.one at h
 split at h
 · cases h
 rename_i c1
 split at h
 · cases h
 rename_i c2
 split at h
 · cases h
 rename_i c3
 split at h
 · cases h
 rename_i c4
 simp only [Bool.or_eq_true, Bool.and_eq_true, decide_eq_true_eq, Bool.not_eq_true', not_or, Bool.not_eq_false, not_and, Bool.not_eq_true] at c1 c2 c3 c4
 refine ⟨fun k => may_formI (c1.1.1.2 k) hx, fun t ht => isName_len (mayNames_mem c1.1.1.1.2 ht), ?_, ?_, fun a m => ?_, by omega, fun k => ?_⟩
 · cases hn : s.hasName with
   | true => exact isName_len (c2.1 hn)
   | false =>
     by_cases e : s.name = []
     · rw [e]; simp
     · exact isName_len (c2.2 ⟨hn, by simpa using e⟩).2
 · cases hn : s.isCall with
   | true => exact isName_len (c3.1.2 hn)
   | false =>
     have : s.proc = [] := by
       have := c3.1.1
       rw [hn] at this
       simpa using this
     rw [this]; simp
 · have hm := mays_mem c4 m
   unfold Ar.may at hm
   split at hm
   · rename_i hr
     simp only [Bool.and_eq_true] at hm
     exact ⟨isName_len hm.1, fun h => by rw [hr] at h; cases h⟩
   · simp only [Bool.and_eq_true, beq_iff_eq] at hm
     exact ⟨by rw [hm.1]; simp, fun _ => may_formI hm.2 (ha a m)⟩
 · simp only [Bool.and_eq_true, Bool.or_eq_true, beq_iff_eq] at h
   rcases h.2 with h | h
   · exact List.eq_nil_of_length_eq_zero (by omega)
   · omega

mutual
theorem mayR_PrR : ∀ (s : Sm) (inn n : Nat), (inn : Int) ≤ 12 → (Sm.mayR inn n s).1 = true → s.rng → s.PrR inn
 | ⟨id, kind, labels, name, proc, x, has, args, thn, els⟩, inn, n, h12, hm, hr => by
   obtain ⟨_, _, h1, h2, h3, _⟩ := mayR_true hm
   obtain ⟨r1, r2, r3, r4⟩ := (Sm.rng_eq _).1 hr
   rw [PrR_eq]
   have t2 := mayG_true h2
   have t3 := mayG_true h3
   rw [t2.2] at h2
   rw [t3.2] at h3
   refine ⟨one_PrO h1 r1 r2, by omega, ?_, ?_⟩
   · exact mayL_PrR thn (inn + 1) _ (t2.1.imp_right fun h => by omega) (by simpa using h2) r3
   · exact mayL_PrR els (inn + 1) _ (t3.1.imp_right fun h => by omega) (by simpa using h3) r4
theorem mayL_PrR : ∀ (l : List Sm) (inn n : Nat), (l = [] ∨ (inn : Int) ≤ 12) → (Sm.mayL inn n l).1 = true → Sm.rngs l → Sm.PrRs inn l
 | [], _, _, _, _, _ => by simp only [Sm.PrRs]
 | s :: l, inn, n, h12, hm, hr => by
   have h12 : (inn : Int) ≤ 12 := h12.resolve_left (by simp)
   simp only [Sm.mayL] at hm
   simp only [Sm.rngs] at hr
   split at hm
   · cases hm
   rename_i hc
   simp only [Bool.not_eq_true', Bool.not_eq_false] at hc
   exact ⟨mayR_PrR s inn n h12 hc hr.1, mayL_PrR l inn _ (.inr h12) hm hr.2⟩
end

theorem pmayL_mem {f : Pc} : ∀ {l : List Pc} {n : Nat}, Pc.mayL n l = true → f ∈ l → (isName f.name = true ∧ mayNames f.vars = true ∧ mayNames f.fin = true ∧ Pm.mays f.params = true) ∧ ∃ n, (Sm.mayG 1 n f.body).1 = true
 | g :: l, n, h, m => by
   simp only [Pc.mayL] at h
   split at h
   · cases h
   rename_i c1
   split at h
   · cases h
   rename_i c2
   split at h
   · cases h
   rename_i c3
   simp only [Bool.or_eq_true, Bool.not_eq_true', not_or, Bool.not_eq_false] at c1 c2 c3
   rcases List.mem_cons.1 m with rfl | m
   · exact ⟨⟨c1.1.1.2, c1.1.2, c1.2, c2⟩, n, c3⟩
   · exact pmayL_mem h m

theorem may_PrG {p : Pg} (h : p.may = true) (hr : p.rng) : p.PrG := by
 rw [← mayP_eq] at h
 unfold Pg.mayP at h
 split at h
 · cases h
 rename_i c
 simp only [Bool.or_eq_true, Bool.not_eq_true', not_or, Bool.not_eq_false] at c
 refine ⟨fun t ht => isName_len (mayNames_mem c.2 ht), fun f hf => ?_⟩
 obtain ⟨⟨a, b, c, d⟩, n, e⟩ := pmayL_mem h hf
 have t := mayG_true e
 rw [t.2] at e
 exact ⟨isName_len a, fun x hx => isName_len (pmays_mem d hx), fun x hx => isName_len (mayNames_mem b hx), fun x hx => isName_len (mayNames_mem c hx), mayL_PrR f.body 1 n (.inr (by omega)) e (hr f hf)⟩

/-! ### It is asked alike -/

mutual
theorem mayR_FineD : ∀ (s : Sm) (nest : Int) (n : Nat), (Sm.mayR nest n s).1 = true → s.size < 4611686018427387000 → s.FineD
 | ⟨id, kind, labels, name, proc, x, has, args, thn, els⟩, nest, n, hm, hs => by
   obtain ⟨_, _, h1, h2, h3, _⟩ := mayR_true hm
   rw [FineD_eq]
   rw [(mayG_true h2).2] at h2
   rw [(mayG_true h3).2] at h3
   refine ⟨one_fine h1 hs, mayL_FineD thn _ _ h2 ?_, mayL_FineD els _ _ h3 ?_⟩ <;> simp only [Sm.size] at hs <;> omega
theorem mayL_FineD : ∀ (l : List Sm) (nest : Int) (n : Nat), (Sm.mayL nest n l).1 = true → Sm.sizes l < 4611686018427387000 → Sm.FineDs l
 | [], _, _, _, _ => by simp only [Sm.FineDs]
 | s :: l, nest, n, hm, hs => by
   simp only [Sm.mayL] at hm
   simp only [Sm.sizes] at hs
   split at hm
   · cases hm
   rename_i hc
   simp only [Bool.not_eq_true', Bool.not_eq_false] at hc
   exact ⟨mayR_FineD s nest n hc (by omega), mayL_FineD l nest _ hm (by omega)⟩
end
theorem may_FineP {p : Pg} (h : p.may = true) (hs : p.size < 4611686018427387000) : p.FineP := by
 have hf := may_fine h hs
 rw [← mayP_eq] at h
 unfold Pg.mayP at h
 split at h
 · cases h
 refine ⟨hf.sz, hf.glob, hf.heads, fun f m => ?_⟩
 obtain ⟨_, n, e⟩ := pmayL_mem h m
 rw [(mayG_true e).2] at e
 have := Pc.sizes_mem m
 simp only [Pg.size] at hs
 exact mayL_FineD f.body 1 n e (by unfold Pc.size at this; omega)

end Go.Abs

/-! Pr5 -/

namespace Go.Abs

set_option maxRecDepth 8000
open Go.Proofs

def muchR (x : Ex) : Int := if arityI x.op < 2 then 7 else bindB x.op
/-! ### Texts -/

def joinF (sep : Str) : Nat → List Str → Str
 | _, [] => []
 | k, a :: l => (if k = 0 then [] else sep) ++ (a ++ joinF sep (k + 1) l)
end Go.Abs

/-! Pr6 -/

namespace Go.Abs

set_option maxRecDepth 8000
open Go.Proofs

def lineT (s : Sm) : Str := if s.kind = 6 then [119, 104, 105, 108, 101, 32, 40] ++ prE 0 s.x ++ [41, 32, 123] else if s.kind = 5 then [105, 102, 32, 40] ++ prE 0 s.x ++ [41, 32, 123] else plainS s.kind s.name s.proc s.x s.has s.args ++ [59]

end Go.Abs

/-! Pr7 -/

namespace Go.Abs

set_option maxRecDepth 8000
open Go.Proofs

theorem rowS_line (inn : Nat) (s : Sm) : rowS inn s = List.replicate inn 32 ++ marksS s.labels ++ lineT s ++ [10] ++ (if s.kind = 5 ∨ s.kind = 6 then
   rowsS (inn + 1) s.thn ++ (if s.kind = 5 ∧ s.els.length ≠ 0 then List.replicate inn 32 ++ [125, 32, 101, 108, 115, 101, 32, 123, 10] ++ rowsS (inn + 1) s.els else []) ++ (List.replicate inn 32 ++ [125, 10]) else []) := by
 rw [rowS_eq]
 unfold lineT lineS
 by_cases c6 : s.kind = 6
 · simp [c6]
 · by_cases c5 : s.kind = 5
   · by_cases ce : s.els.length = 0
     · simp only [c5, ce, Int.reduceEq, ↓reduceIte, true_or, ne_eq, not_true_eq_false, and_false, List.append_assoc, List.cons_append, List.nil_append]
     · simp only [c5, ce, Int.reduceEq, ↓reduceIte, true_or, ne_eq, not_false_eq_true, and_true, List.append_assoc, List.cons_append, List.nil_append]
   · simp only [c6, c5, ↓reduceIte, or_self, List.append_assoc, List.cons_append, List.nil_append, List.append_nil]

end Go.Abs

/-! Ps3 -/

namespace Go.Abs

mutual
def Sm.z : Sm → Sm
 | ⟨_, kind, labels, name, proc, x, has, args, thn, els⟩ => ⟨0, kind, labels, name, proc, x, has, args, Sm.zs thn, Sm.zs els⟩
def Sm.zs : List Sm → List Sm
 | [] => []
 | s :: l => s.z :: Sm.zs l
end
theorem z_eq (s : Sm) : s.z = ⟨0, s.kind, s.labels, s.name, s.proc, s.x, s.has, s.args, Sm.zs s.thn, Sm.zs s.els⟩ := by cases s; simp only [Sm.z]

structure OneF (s : Sm) : Prop where
 lab : mayNames s.labels = true
 x : s.hasX = true → s.x.may = true
 x0 : s.hasX = false → s.x = ex0
 has : s.has = true → s.kind = 9
 nm : s.hasName = true → isName s.name = true
 nm0 : s.hasName = false → s.name = [] ∨ (s.isCall = true ∧ isName s.name = true)
 proc : s.isCall = true → isName s.proc = true
 call : s.isCall = false → s.proc = [] ∧ s.args = []
 args : Ar.mays s.args = true
 thn : s.thn = [] ∨ s.kind = 5 ∨ s.kind = 6
 els : s.els = [] ∨ s.kind = 5
 kind : 1 ≤ s.kind ∧ s.kind ≤ 10

theorem none_ex0 {x : Ex} (h : x.none = true) : x = ex0 := by
 obtain ⟨op, n, name, kids⟩ := x
 simp only [Ex.none, Bool.and_eq_true, beq_iff_eq] at h
 obtain ⟨⟨⟨rfl, rfl⟩, rfl⟩, h⟩ := h
 have : kids = [] := List.eq_nil_of_length_eq_zero (by omega)
 subst this; rfl
theorem one_facts {s : Sm} (h : s.one = true) : OneF s := by
 unfold Sm.one at h
 split at h
 · cases h
 rename_i c1
 split at h
 · cases h
 rename_i c2
 split at h
 · cases h
 rename_i c3
 split at h
 · cases h
 rename_i c4
 simp only [Bool.or_eq_true, Bool.and_eq_true, decide_eq_true_eq, Bool.not_eq_true', not_or, Bool.not_eq_false, not_and, Bool.not_eq_true, beq_iff_eq] at c1 c2 c3 c4 h
 refine ⟨c1.1.1.1.2, c1.1.1.2, fun k => none_ex0 (c1.1.2 k), fun k => ?_, c2.1, fun k => ?_, c3.1.2, fun k => ⟨?_, ?_⟩, c4, ?_, ?_, by omega⟩
 · have := c1.2 k; simpa using this
 · by_cases e : s.name = []
   · exact .inl e
   · exact .inr (c2.2 ⟨k, by simpa using e⟩)
 · have := c3.1.1; rw [k] at this; simpa using this
 · have := c3.2 k
   exact List.eq_nil_of_length_eq_zero (by omega)
 · rcases h.1 with (h | h) | h
   · exact .inl (List.eq_nil_of_length_eq_zero (by omega))
   · exact .inr (.inl h)
   · exact .inr (.inr h)
 · rcases h.2 with h | h
   · exact .inl (List.eq_nil_of_length_eq_zero (by omega))
   · exact .inr h
theorem arZ_may {a : Ar} (h : a.may = true) : arZ a = a := by
 obtain ⟨rf, nm, x⟩ := a
 unfold Ar.may at h
 unfold arZ
 dsimp only at h ⊢
 split at h
 · rename_i hr
   simp only [Bool.and_eq_true] at h
   rw [if_pos hr, none_ex0 h.2, hr]
 · rename_i hr
   simp only [Bool.and_eq_true, beq_iff_eq] at h
   rw [if_neg hr, h.1]
   simp at hr
   rw [hr]
theorem arZs_may {l : List Ar} (h : Ar.mays l = true) : l.map arZ = l := by
 induction l with
 | nil => rfl
 | cons a l ih =>
   simp only [Ar.mays] at h
   split at h
   · cases h
   · rename_i hc
     rw [List.map_cons, ih h, arZ_may (by simpa using hc)]

def bodyS (inn : Nat) (s : Sm) : Str := lineT s ++ ([10] ++ (if s.kind = 5 ∨ s.kind = 6 then
   rowsS (inn + 1) s.thn ++ ((if s.kind = 5 ∧ s.els.length ≠ 0 then List.replicate inn 32 ++ [125, 32, 101, 108, 115, 101, 32, 123, 10] ++ rowsS (inn + 1) s.els else []) ++ (List.replicate inn 32 ++ [125, 10])) else []))
theorem rowS_body (inn : Nat) (s : Sm) : rowS inn s = List.replicate inn 32 ++ (marksS s.labels ++ bodyS inn s) := by
 rw [rowS_line]; unfold bodyS
 simp only [List.append_assoc]

theorem At.n {r : Rd} {l : List Tok} (h : At r l) (k : Nat) : At ({ r with n := k } : Rd) l := ⟨h.d, h.c, h.s⟩
def NoW (w : Str) (l : List Tok) : Prop := ∃ t l', l = t :: l' ∧ Kd t ∧ ((t.kind ≠ 3 ∧ t.kind ≠ 4) ∨ t.text ≠ w)
abbrev NoElse (l : List Tok) : Prop := NoW [101, 108, 115, 101] l
def StmtAs (nest : Int) (n0 n1 : Nat) (s : Sm) (l : List Tok) : Prop := ∀ (r : Rd) (lr : List Tok) (m n : Nat), At r (l ++ lr) → NoElse lr → r.n = n0 → 3 * l.length < m → l.length ≤ n →
 Rd.stmt m n nest r = some ({ s.z with labels := [] }, { r.mv l.length with n := n1 })

theorem st_step {r : Rd} {t : Tok} {lr : List Tok} {m n : Nat} {nest : Int} {n0 : Nat} (hA : At r (t :: lr)) (hk : Kd t) (hn : r.n = n0) (h200 : n0 + 1 ≤ 200) (h12 : nest ≤ 12)
   (hb : (if t.kind == 1 then true else if t.kind != 3 then false
   else t.text == [105, 102] || t.text == [119, 104, 105, 108, 101] || t.text == [98, 114, 101, 97, 107] || t.text == [99, 111, 110, 116, 105, 110, 117, 101] || t.text == [114, 101, 116, 117, 114, 110] || t.text == [103, 111, 116, 111] || t.text == [114, 101, 97, 100] || t.text == [112, 114, 105, 110, 116]) = true) :
   Rd.stmt m (n + 1) nest r = (if t.kind == 1 then Rd.named m { r with n := n0 + 1 }
       else if t.text == [105, 102] then Rd.choice m n nest { r with n := n0 + 1, i := r.i + 1 }
       else if t.text == [119, 104, 105, 108, 101] then (Rd.head m { r with n := n0 + 1, i := r.i + 1 }).bind fun x => (Rd.block m n nest x.2).bind fun b => some (⟨0, 6, [], [], [], x.1, false, [], b.1, []⟩, b.2)
       else (Rd.plain m t.text { r with n := n0 + 1, i := r.i + 1 }).bind fun s => (s.2.want [59]).bind fun r => some (s.1, r)) := by
 rw [Rd.stmt]
 unfold Rd.begins
 rw [hA.peek hk, Option.bind_some, hb, Option.bind_some]
 simp only [Bool.not_true, Bool.false_eq_true, ↓reduceIte]
 have hi : inc r.n = some (n0 + 1) := by unfold inc; rw [hn, if_pos (by omega)]
 rw [hi, Option.bind_some, if_neg (by simp only [Bool.or_eq_true, decide_eq_true_eq]; omega), (hA.n (n0 + 1)).peek hk, Option.bind_some]

theorem st_word {r : Rd} {t : Tok} {lr : List Tok} {m n : Nat} {nest : Int} {n0 : Nat} {w : Str} (hA : At r (t :: lr)) (hk : t.kind = 3) (ht : t.text = w) (hn : r.n = n0) (h200 : n0 + 1 ≤ 200) (h12 : nest ≤ 12)
   (hb : (w == [98, 114, 101, 97, 107] || w == [99, 111, 110, 116, 105, 110, 117, 101] || w == [114, 101, 116, 117, 114, 110] || w == [103, 111, 116, 111] || w == [114, 101, 97, 100] || w == [112, 114, 105, 110, 116]) = true) :
   Rd.stmt m (n + 1) nest r = (Rd.plain m w { r.mv 1 with n := n0 + 1 }).bind fun s => (s.2.want [59]).bind fun r => some (s.1, r) := by
 have k1 : (t.kind == 1) = false := by simp [hk]
 have k3 : (t.kind != 3) = false := by simp [hk]
 have hw : w ≠ [105, 102] ∧ w ≠ [119, 104, 105, 108, 101] := by
   simp only [Bool.or_eq_true, beq_iff_eq] at hb
   rcases hb with ((((rfl | rfl) | rfl) | rfl) | rfl) | rfl <;> exact ⟨by decide, by decide⟩
 rw [st_step hA (Kd.of hk) hn h200 h12 (by rw [k1, k3, ht]; simp only [Bool.false_eq_true, ↓reduceIte]; simp only [Bool.or_eq_true] at hb ⊢; rcases hb with ((((h | h) | h) | h) | h) | h <;> simp [h]), k1, ht]
 simp only [Bool.false_eq_true, ↓reduceIte, beq_iff_eq, hw.1, hw.2]
 rfl

theorem mayG_nil (nest : Int) (n : Nat) : Sm.mayG nest n [] = (true, n) := by simp [Sm.mayG, gate, Sm.mayL]
theorem mayR_simple {nest : Int} {n0 : Nat} {s : Sm} (h : (Sm.mayR nest n0 s).1 = true) (ht : s.thn = []) (he : s.els = []) : (Sm.mayR nest n0 s).2 = n0 + 1 := by
 obtain ⟨_, _, _, _, _, h6⟩ := mayR_true h
 rw [h6, ht, he, mayG_nil, mayG_nil]

/-! ### One by one -/

theorem read_assign {nest : Int} {n0 : Nat} (h200 : n0 + 1 ≤ 200) (h12 : nest ≤ 12) {x : Ex} {t e q : Tok} {lx : List Tok} (ht : t.kind = 1) (he : e.kind = 4) (he2 : e.text = [61]) (hx : WholeAs x lx) (hc : NoCall lx) (hq : q.kind = 4) (hq2 : q.text = [59]) :
   ∀ (r : Rd) (lr : List Tok) (m n : Nat), At r (t :: e :: (lx ++ q :: lr)) → r.n = n0 → 3 * lx.length < m → 0 < n → Rd.stmt m n nest r = some (⟨0, 1, [], t.text, [], x, false, [], [], []⟩, { r.mv (lx.length + 3) with n := n0 + 1 }) := by
 intro r lr m n hA hn hm h0
 cases n with
 | zero => omega
 | succ n =>
   have k1 : (t.kind == 1) = true := by simp [ht]
   rw [st_step hA (kd1 ht) hn h200 h12 (by rw [k1]; rfl), if_pos k1]
   have hA := hA.n (n0 + 1)
   have hA1 := hA.one
   have hA2 := hA1.one
   unfold Rd.named
   rw [hA.name ht, Option.bind_some, hA1.is (kd4 he), Option.bind_some]
   have b0 : ((e.kind == 3 || e.kind == 4) && e.text == [40]) = false := by rw [he2]; simp
   dsimp only
   rw [b0]
   simp only [Bool.false_eq_true, ↓reduceIte]
   rw [hA1.want (.inr he) he2, Option.bind_some]
   have hno : ((({ r with n := n0 + 1 } : Rd).mv 1).mv 1).ahead [40] = some false := by
     refine hA2.ahead_no ?_
     rcases hc with ⟨a, l', rfl, h⟩ | ⟨a, rfl, h⟩ | ⟨a, u, l', rfl, h, h2⟩
     · exact ⟨a, _, rfl, by rcases h with h | h; exact Kd.of h; exact Kd.of h.1, .inl (by rcases h with h | h; omega; omega)⟩
     · exact ⟨a, _, rfl, kd1 h, .inr ⟨q, lr, rfl, .inr (by rw [hq2]; decide)⟩⟩
     · refine ⟨a, _, rfl, kd1 h, .inr ⟨u, _, rfl, .inr ?_⟩⟩
       intro hu
       by_cases hk : u.kind = 4
       · have : opOf u = (0, 0) := by simp (decide := true) [opOf, hk, hu]
         rw [this] at h2; simp at h2
       · have : opOf u = (0, 0) := by simp [opOf, hk]
         rw [this] at h2; simp at h2
   rw [hno, Option.bind_some]
   simp only [Bool.false_eq_true, ↓reduceIte]
   rw [hx _ (q :: lr) m hA2 (ends_sign hq hq2 (by decide)) hm, Option.bind_some]
   dsimp only
   rw [hA2.app.want (.inr hq) hq2, Option.bind_some]
   simp only [Rd.mv]
   congr 3
   omega

theorem args_first {xs : List Ar} {l : List Tok} (h : SepG GArg xs l) : ∃ t l', l = t :: l' ∧ Kd t ∧ ((t.kind ≠ 3 ∧ t.kind ≠ 4) ∨ t.text ≠ [41]) := by
 have one : ∀ (x : Ar) (l : List Tok), GArg x l → ∃ t l', l = t :: l' ∧ Kd t ∧ ((t.kind ≠ 3 ∧ t.kind ≠ 4) ∨ t.text ≠ [41]) := by
   intro x l hx
   unfold GArg at hx
   split at hx
   · obtain ⟨w, k, rfl, w1, w2, _⟩ := hx
     exact ⟨w, [k], rfl, Kd.of w1, .inr (by rw [w2]; decide)⟩
   · obtain ⟨t, l', e, hk, hs⟩ := hx.2.1.first
     exact ⟨t, l', e, hk, hs _ (by decide)⟩
 cases h with
 | one x l hx => exact one x l hx
 | cons x l c hc xs m hx k =>
   obtain ⟨t, l', rfl, h⟩ := one x l hx
   exact ⟨t, _, rfl, h⟩
theorem argT_len {xs : List Ar} {l : List Tok} (h : SepG GArg xs l) : xs.length ≤ l.length := by
 have one : ∀ (x : Ar) (l : List Tok), GArg x l → 0 < l.length := by
   intro x l hx
   obtain ⟨t, l', rfl, _⟩ := args_first (SepG.one x l hx)
   simp
 induction h with
 | one x l hx => have := one x l hx; simp only [List.length_cons, List.length_nil]; omega
 | cons x l c hc xs m hx k ih => simp only [List.length_cons, List.length_append]; omega

theorem read_call {nm pr : Str} {args : List Ar} {p q c : Tok} {la : List Tok} (hp : p.kind = 4) (hp2 : p.text = [40]) (ha : (args = [] ∧ la = []) ∨ SepG GArg args la) (hz : args.map arZ = args) (hq : q.kind = 4) (hq2 : q.text = [41]) (hc : c.kind = 4) (hc2 : c.text = [59]) (hal : args.length ≤ 1000000) :
   ∀ (r : Rd) (lr : List Tok) (m : Nat), At r (p :: (la ++ q :: c :: lr)) → 3 * la.length < m → Rd.call m nm pr r = some (⟨0, 4, [], nm, pr, ex0, false, args, [], []⟩, r.mv (la.length + 3)) := by
 intro r lr m hA hm
 unfold Rd.call
 rw [hA.want (.inr hp) hp2, Option.bind_some]
 have hA1 := hA.one
 rcases ha with ⟨rfl, rfl⟩ | ha
 · have hA1 : At (r.mv 1) (q :: c :: lr) := hA1
   unfold Rd.other
   rw [if_pos hA1.good, hA1.is (kd4 hq), Option.bind_some, Option.bind_some]
   have b0 : ((q.kind == 3 || q.kind == 4) && q.text == [41]) = true := by simp [hq, hq2]
   rw [b0]
   simp only [Bool.not_true, Bool.false_eq_true, ↓reduceIte]
   rw [hA1.want (.inr hq) hq2, Option.bind_some, hA1.one.want (.inr hc) hc2, Option.bind_some]
   rfl
 · have hlen := argT_len ha
   obtain ⟨t, l', e, hk, hne⟩ := args_first ha
   have hA1' : At (r.mv 1) (t :: (l' ++ q :: c :: lr)) := by rw [e] at hA1; exact hA1
   unfold Rd.other
   rw [if_pos hA1'.good, hA1'.is hk, Option.bind_some, Option.bind_some]
   have b0 : ((t.kind == 3 || t.kind == 4) && t.text == [41]) = false := by
     rcases hne with ⟨h1, h2⟩ | h
     · simp [h1, h2]
     · simp [h]
   rw [b0]
   simp only [Bool.not_false, ↓reduceIte]
   rw [args_as ha _ q (c :: lr) [] m m hA1 hq hq2 (by simpa using hal) (by omega) hm, Option.bind_some]
   dsimp only
   rw [hA1.app.want (.inr hq) hq2, Option.bind_some, hA1.app.one.want (.inr hc) hc2, Option.bind_some, hz]
   simp only [List.nil_append, mv_mv]
   congr 3
   omega

theorem read_calls {nest : Int} {n0 : Nat} (h200 : n0 + 1 ≤ 200) (h12 : nest ≤ 12) {args : List Ar} {t p q c : Tok} {la : List Tok} (ht : t.kind = 1) (hp : p.kind = 4) (hp2 : p.text = [40]) (ha : (args = [] ∧ la = []) ∨ SepG GArg args la) (hz : args.map arZ = args) (hq : q.kind = 4) (hq2 : q.text = [41]) (hc : c.kind = 4) (hc2 : c.text = [59]) (hal : args.length ≤ 1000000) :
   ∀ (r : Rd) (lr : List Tok) (m n : Nat), At r (t :: p :: (la ++ q :: c :: lr)) → r.n = n0 → 3 * la.length < m → 0 < n → Rd.stmt m n nest r = some (⟨0, 4, [], [], t.text, ex0, false, args, [], []⟩, { r.mv (la.length + 4) with n := n0 + 1 }) := by
 intro r lr m n hA hn hm h0
 cases n with
 | zero => omega
 | succ n =>
   have k1 : (t.kind == 1) = true := by simp [ht]
   rw [st_step hA (kd1 ht) hn h200 h12 (by rw [k1]; rfl), if_pos k1]
   have hA := hA.n (n0 + 1)
   have hA1 := hA.one
   unfold Rd.named
   rw [hA.name ht, Option.bind_some]
   dsimp only
   rw [hA1.is (kd4 hp), Option.bind_some]
   have b0 : ((p.kind == 3 || p.kind == 4) && p.text == [40]) = true := by simp [hp, hp2]
   rw [if_pos b0, read_call hp hp2 ha hz hq hq2 hc hc2 hal _ lr m hA1 hm]
   simp only [Rd.mv]
   congr 3
   omega
theorem read_callto {nest : Int} {n0 : Nat} (h200 : n0 + 1 ≤ 200) (h12 : nest ≤ 12) {args : List Ar} {s e t p q c : Tok} {la : List Tok} (hs : s.kind = 1) (he : e.kind = 4) (he2 : e.text = [61]) (ht : t.kind = 1) (hp : p.kind = 4) (hp2 : p.text = [40]) (ha : (args = [] ∧ la = []) ∨ SepG GArg args la) (hz : args.map arZ = args) (hq : q.kind = 4) (hq2 : q.text = [41]) (hc : c.kind = 4) (hc2 : c.text = [59]) (hal : args.length ≤ 1000000) :
   ∀ (r : Rd) (lr : List Tok) (m n : Nat), At r (s :: e :: t :: p :: (la ++ q :: c :: lr)) → r.n = n0 → 3 * la.length < m → 0 < n → Rd.stmt m n nest r = some (⟨0, 4, [], s.text, t.text, ex0, false, args, [], []⟩, { r.mv (la.length + 6) with n := n0 + 1 }) := by
 intro r lr m n hA hn hm h0
 cases n with
 | zero => omega
 | succ n =>
   have k1 : (s.kind == 1) = true := by simp [hs]
   rw [st_step hA (kd1 hs) hn h200 h12 (by rw [k1]; rfl), if_pos k1]
   have hA := hA.n (n0 + 1)
   have hA1 := hA.one
   have hA2 := hA1.one
   unfold Rd.named
   rw [hA.name hs, Option.bind_some]
   dsimp only
   rw [hA1.is (kd4 he), Option.bind_some]
   have b0 : ((e.kind == 3 || e.kind == 4) && e.text == [40]) = false := by rw [he2]; simp
   rw [if_neg (by rw [b0]; simp), hA1.want (.inr he) he2, Option.bind_some, hA2.ahead_yes ht hp hp2, Option.bind_some]
   simp only [↓reduceIte]
   rw [hA2.name ht, Option.bind_some]
   dsimp only
   rw [read_call hp hp2 ha hz hq hq2 hc hc2 hal _ lr m hA2.one hm]
   simp only [Rd.mv]
   congr 3
   omega

theorem read_word {nest : Int} {n0 : Nat} (h200 : n0 + 1 ≤ 200) (h12 : nest ≤ 12) {w q : Tok} (hw : w.kind = 3) {k : Int} (hk : (k = 7 ∧ w.text = [98, 114, 101, 97, 107]) ∨ (k = 8 ∧ w.text = [99, 111, 110, 116, 105, 110, 117, 101]) ∨ (k = 9 ∧ w.text = [114, 101, 116, 117, 114, 110])) (hq : q.kind = 4) (hq2 : q.text = [59]) :
   ∀ (r : Rd) (lr : List Tok) (m n : Nat), At r (w :: q :: lr) → r.n = n0 → 0 < n → Rd.stmt m n nest r = some (⟨0, k, [], [], [], ex0, false, [], [], []⟩, { r.mv 2 with n := n0 + 1 }) := by
 intro r lr m n hA hn h0
 cases n with
 | zero => omega
 | succ n =>
   have hA1 : At ({ r.mv 1 with n := n0 + 1 } : Rd) (q :: lr) := hA.one.n (n0 + 1)
   rcases hk with ⟨rfl, h⟩ | ⟨rfl, h⟩ | ⟨rfl, h⟩
   · rw [st_word hA hw h hn h200 h12 (by decide)]
     unfold Rd.plain
     simp only [beq_self_eq_true, ↓reduceIte, Option.bind_some]
     rw [hA1.want (.inr hq) hq2]; rfl
   · rw [st_word hA hw h hn h200 h12 (by decide)]
     unfold Rd.plain
     rw [if_neg (by decide), if_pos (by decide), Option.bind_some]
     dsimp only
     rw [hA1.want (.inr hq) hq2]; rfl
   · rw [st_word hA hw h hn h200 h12 (by decide)]
     unfold Rd.plain
     rw [if_neg (by decide), if_neg (by decide), if_pos (by decide), hA1.is (kd4 hq), Option.bind_some]
     have b0 : ((q.kind == 3 || q.kind == 4) && q.text == [59]) = true := by simp [hq, hq2]
     rw [b0]
     simp only [Bool.not_true, Bool.false_eq_true, ↓reduceIte, Option.bind_some]
     rw [hA1.want (.inr hq) hq2]; rfl
theorem read_wname {nest : Int} {n0 : Nat} (h200 : n0 + 1 ≤ 200) (h12 : nest ≤ 12) {w t q : Tok} (hw : w.kind = 3) {k : Int} (hk : (k = 10 ∧ w.text = [103, 111, 116, 111]) ∨ (k = 2 ∧ w.text = [114, 101, 97, 100])) (ht : t.kind = 1) (hq : q.kind = 4) (hq2 : q.text = [59]) :
   ∀ (r : Rd) (lr : List Tok) (m n : Nat), At r (w :: t :: q :: lr) → r.n = n0 → 0 < n → Rd.stmt m n nest r = some (⟨0, k, [], t.text, [], ex0, false, [], [], []⟩, { r.mv 3 with n := n0 + 1 }) := by
 intro r lr m n hA hn h0
 cases n with
 | zero => omega
 | succ n =>
   have hA1 : At ({ r.mv 1 with n := n0 + 1 } : Rd) (t :: q :: lr) := hA.one.n (n0 + 1)
   rcases hk with ⟨rfl, h⟩ | ⟨rfl, h⟩
   · rw [st_word hA hw h hn h200 h12 (by decide)]
     unfold Rd.plain
     rw [if_neg (by decide), if_neg (by decide), if_neg (by decide), if_pos (by decide), hA1.name ht, Option.bind_some, Option.bind_some]
     dsimp only
     rw [hA1.one.want (.inr hq) hq2]; rfl
   · rw [st_word hA hw h hn h200 h12 (by decide)]
     unfold Rd.plain
     rw [if_neg (by decide), if_neg (by decide), if_neg (by decide), if_neg (by decide), if_pos (by decide), hA1.name ht, Option.bind_some, Option.bind_some]
     dsimp only
     rw [hA1.one.want (.inr hq) hq2]; rfl
theorem read_wexpr {nest : Int} {n0 : Nat} (h200 : n0 + 1 ≤ 200) (h12 : nest ≤ 12) {w q : Tok} {x : Ex} {lx : List Tok} (hw : w.kind = 3) {k : Int} {b : Bool} (hk : (k = 3 ∧ b = false ∧ w.text = [112, 114, 105, 110, 116]) ∨ (k = 9 ∧ b = true ∧ w.text = [114, 101, 116, 117, 114, 110])) (hx : WholeAs x lx) (hc : NoCall lx) (hq : q.kind = 4) (hq2 : q.text = [59]) :
   ∀ (r : Rd) (lr : List Tok) (m n : Nat), At r (w :: (lx ++ q :: lr)) → r.n = n0 → 3 * lx.length < m → 0 < n → Rd.stmt m n nest r = some (⟨0, k, [], [], [], x, b, [], [], []⟩, { r.mv (lx.length + 2) with n := n0 + 1 }) := by
 intro r lr m n hA hn hm h0
 cases n with
 | zero => omega
 | succ n =>
   have hA1 : At ({ r.mv 1 with n := n0 + 1 } : Rd) (lx ++ q :: lr) := hA.one.n (n0 + 1)
   have fin : ∀ r' : Rd, r' = ({ r.mv 1 with n := n0 + 1 } : Rd).mv lx.length → r'.want [59] = some { r.mv (lx.length + 2) with n := n0 + 1 } := by
     intro r' e
     rw [e, hA1.app.want (.inr hq) hq2]
     simp only [Rd.mv]
     congr 2
     omega
   rcases hk with ⟨rfl, rfl, h⟩ | ⟨rfl, rfl, h⟩
   · rw [st_word hA hw h hn h200 h12 (by decide)]
     unfold Rd.plain
     rw [if_neg (by decide), if_neg (by decide), if_neg (by decide), if_neg (by decide), if_neg (by decide), if_pos (by decide), hx _ (q :: lr) m hA1 (ends_sign hq hq2 (by decide)) hm, Option.bind_some, Option.bind_some]
     dsimp only
     rw [fin _ rfl]; rfl
   · rw [st_word hA hw h hn h200 h12 (by decide)]
     unfold Rd.plain
     obtain ⟨t, l', e, hk, hs⟩ := hc.first
     have hA1' : At ({ r.mv 1 with n := n0 + 1 } : Rd) (t :: (l' ++ q :: lr)) := by rw [e] at hA1; exact hA1
     have b0 : ((t.kind == 3 || t.kind == 4) && t.text == [59]) = false := by
       rcases hs [59] (by decide) with ⟨h1, h2⟩ | h
       · simp [h1, h2]
       · simp [h]
     rw [if_neg (by decide), if_neg (by decide), if_pos (by decide), hA1'.is hk, Option.bind_some, b0]
     simp only [Bool.not_false, ↓reduceIte]
     rw [hx _ (q :: lr) m hA1 (ends_sign hq hq2 (by decide)) hm, Option.bind_some, Option.bind_some]
     dsimp only
     rw [fin _ rfl]; rfl

end Go.Abs

/-! Ps4 -/

namespace Go.Abs

def argN (a : Ar) : Nat := if a.ref then 2 else exN 0 a.x
def sepN {α : Type} (f : α → Nat) : List α → Nat
 | [] => 0
 | [a] => f a
 | a :: b :: l => f a + 1 + sepN f (b :: l)
theorem sep_len {α : Type} {G : α → List Tok → Prop} {f : α → Nat} (hG : ∀ a l, G a l → l.length = f a) {xs : List α} {l : List Tok} (h : SepG G xs l) : l.length = sepN f xs := by
 induction h with
 | one x l hx => exact hG x l hx
 | cons x l c hc xs m hx k ih =>
   cases k with
   | one y l' hy => simp only [sepN, List.length_append, List.length_cons] at ih ⊢; rw [hG x l hx, ih]; omega
   | cons y l' c' hc' ys m' hy k' => simp only [sepN, List.length_append, List.length_cons] at ih ⊢; rw [hG x l hx]; omega
theorem garg_len (a : Ar) (l : List Tok) (h : GArg a l) : l.length = argN a := by
 unfold GArg at h
 unfold argN
 split at h
 · rename_i hr; rw [if_pos hr]; obtain ⟨w, k, rfl, _⟩ := h; rfl
 · rename_i hr; rw [if_neg hr]; exact h.2.2

def plainN (kind : Int) (name : Str) (x : Ex) (has : Bool) (args : List Ar) : Nat :=
 if kind = 1 then exN 0 x + 3 else if kind = 2 then 3 else if kind = 3 then exN 0 x + 2 else if kind = 7 then 2 else if kind = 8 then 2 else if kind = 10 then 3
 else if kind = 9 then (if has then exN 0 x + 2 else 2) else (if name = [] then 0 else 2) + sepN argN args + 4

theorem StmtAs.of {nest : Int} {n0 n1 k : Nat} {s v : Sm} {l : List Tok} (h : ∀ (r : Rd) (lr : List Tok) (m n : Nat), At r (l ++ lr) → r.n = n0 → 3 * l.length < m → 0 < n → Rd.stmt m n nest r = some (v, { r.mv k with n := n1 })) (hk : k = l.length) (hv : v = { s.z with labels := [] }) (h0 : 0 < l.length) : StmtAs nest n0 n1 s l := by
 intro r lr m n hA _ hn hm hl
 rw [h r lr m n hA hn hm (by omega), hk, hv]

theorem LxF.end (pos : Nat) : LxF [59, 10] pos [tSg 59 pos] := LxF.sg (LxF.blank (by decide) (LxF.nil _))

theorem args_lx {args : List Ar} (hm : Ar.mays args = true) (hr : ∀ a ∈ args, a.x.rng) (hs : ∀ a ∈ args, a.x.size < 1000000000) (h0 : args ≠ []) (pos : Nat) : ∃ l, LxS (Lib.join (args.map argS) [44, 32]) pos l ∧ SepG GArg args l := by
 refine LxS.join argS GArg args pos h0 fun a ha pos => ?_
 have hma := mays_mem hm ha
 unfold Ar.may at hma
 unfold argS GArg
 split at hma
 · rename_i hrf
   simp only [Bool.and_eq_true] at hma
   rw [if_pos hrf]
   refine ⟨[tWd [114, 101, 102] pos, tNm a.name (pos + 4)], ?_, ?_⟩
   · have : LxF [114, 101, 102, 32] pos [tWd [114, 101, 102] pos] := LxS.then (s := [114, 101, 102]) (c := 32) (t := []) (LxS.wd pos) (LxF.blank (by decide) (LxF.nil _))
     exact LxS.behind this (LxS.nm hma.1 _)
   · simp only [hrf, ↓reduceIte]; exact ⟨_, _, rfl, rfl, rfl, rfl, rfl⟩
 · rename_i hrf
   simp only [Bool.and_eq_true, beq_iff_eq] at hma
   rw [if_neg hrf]
   have hF := may_formI hma.2 (hr a ha)
   have hd : a.x.depth ≤ 20 := by have := hma.2; simp only [Ex.may, Bool.and_eq_true, decide_eq_true_eq] at this; omega
   obtain ⟨l, g1, g2, g3, g4⟩ := pr_whole hF hd (hs a ha) pos
   refine ⟨l, g2, ?_⟩
   simp only [hrf, Bool.false_eq_true, ↓reduceIte]
   exact ⟨g3, g4, g1⟩

def StBeg (l : List Tok) : Prop := (∃ t u l', l = t :: u :: l' ∧ t.kind = 1 ∧ (u.kind ≠ 4 ∨ u.text ≠ [58])) ∨ (∃ t l', l = t :: l' ∧ t.kind = 3 ∧ t.text ≠ [125] ∧ t.text ≠ [101, 108, 115, 101] ∧ t.text ≠ [118, 97, 114])
theorem StBeg.lab {l : List Tok} (h : StBeg l) (lr : List Tok) : NoLab (l ++ lr) := by
 rcases h with ⟨t, u, l', rfl, h1, h2⟩ | ⟨t, l', rfl, h1, h2, h3⟩
 · exact ⟨t, _, rfl, kd1 h1, .inr ⟨u, _, rfl, h2⟩⟩
 · exact ⟨t, _, rfl, Kd.of h1, .inl (by omega)⟩
theorem StBeg.is {l : List Tok} (h : StBeg l) {r : Rd} {lr : List Tok} (hA : At r (l ++ lr)) : r.is [125] = some false := by
 rcases h with ⟨t, u, l', rfl, h1, h2⟩ | ⟨t, l', rfl, h1, h2, h3⟩
 · have hA : At r (t :: (u :: l' ++ lr)) := hA
   rw [hA.is (kd1 h1)]; simp [h1]
 · have hA : At r (t :: (l' ++ lr)) := hA
   rw [hA.is (Kd.of h1)]; simp [h1, h2]
theorem StBeg.els {l : List Tok} (h : StBeg l) {w : Str} (hw : w = [101, 108, 115, 101] ∨ w = [118, 97, 114]) (lr : List Tok) : NoW w (l ++ lr) := by
 rcases h with ⟨t, u, l', rfl, h1, h2⟩ | ⟨t, l', rfl, h1, h2, h3, h4⟩
 · exact ⟨t, _, rfl, kd1 h1, .inl (by omega)⟩
 · exact ⟨t, _, rfl, Kd.of h1, .inr (by rcases hw with rfl | rfl; exact h3; exact h4)⟩
theorem StBeg.pos {l : List Tok} (h : StBeg l) : 0 < l.length := by
 rcases h with ⟨t, u, l', rfl, _⟩ | ⟨t, l', rfl, _⟩ <;> simp

theorem plain_as {s : Sm} (ho : s.one = true) (hxr : s.x.rng) (har : ∀ a ∈ s.args, a.x.rng) (hs : s.size < 1000000) (k5 : s.kind ≠ 5) (k6 : s.kind ≠ 6) {nest : Int} {n0 : Nat} (h200 : n0 + 1 ≤ 200) (h12 : nest ≤ 12) (pos : Nat) :
   ∃ l, LxF (plainS s.kind s.name s.proc s.x s.has s.args ++ [59, 10]) pos l ∧ l.length = plainN s.kind s.name s.x s.has s.args ∧ StBeg l ∧ StmtAs nest n0 (n0 + 1) s l := by
 have hf := one_facts ho
 obtain ⟨id, kind, labels, name, proc, x, has, args, thn, els⟩ := s
 obtain ⟨_, hx, hx0, hhas, hnm, hnm0, hproc, hcall, hargs, hthn, hels, hkind⟩ := hf
 dsimp only at hx hx0 hhas hnm hnm0 hproc hcall hargs hthn hels hkind hxr har k5 k6 ⊢
 simp only [Sm.size] at hs
 have ht : thn = [] := hthn.resolve_right (by omega)
 have he : els = [] := hels.resolve_right (by omega)
 subst ht he
 have hF : x.may = true → FormI x ∧ x.depth ≤ 20 := fun h => ⟨may_formI h hxr, by simp only [Ex.may, Bool.and_eq_true, decide_eq_true_eq] at h; omega⟩
 have hxs : x.size < 1000000000 := by omega
 have h9 : kind ≠ 9 → has = false := fun h => by
   cases hh : has
   · rfl
   · exact absurd (hhas hh) h
 have hz : ∀ v : Sm, v = ⟨0, kind, [], name, proc, x, has, args, [], []⟩ → v = { (Sm.z ⟨id, kind, labels, name, proc, x, has, args, [], []⟩) with labels := [] } := by
   rintro v rfl; simp only [Sm.z, Sm.zs]
 have : kind = 1 ∨ kind = 2 ∨ kind = 3 ∨ kind = 4 ∨ kind = 7 ∨ kind = 8 ∨ kind = 9 ∨ kind = 10 := by omega
 rcases this with rfl | rfl | rfl | rfl | rfl | rfl | rfl | rfl
 · -- an assignment
   have hX := hF (hx rfl)
   have hn := hnm rfl
   obtain ⟨rfl, rfl⟩ := hcall rfl
   obtain rfl := h9 (by decide)
   obtain ⟨lx, g1, g2, g3, g4⟩ := pr_whole hX.1 hX.2 hxs (pos + name.length + 1 + 2)
   have e : plainS 1 name [] x false [] ++ [59, 10] = name ++ 32 :: (61 :: 32 :: (prE 0 x ++ 59 :: [10])) := by simp [plainS]
   rw [e]
   refine ⟨_, LxS.then (LxS.nm hn pos) (LxF.blank (by decide) (LxF.eq (LxS.then g2 (LxF.end _)))), ?_, ?_, ?_⟩
   · simp [plainN, g1]
   · exact .inl ⟨_, _, _, rfl, rfl, .inr (by simp [tSg])⟩
   · refine StmtAs.of (k := lx.length + 3) (fun r lr m n hA hn' hm h0 => ?_) ?_ (hz _ rfl) (by simp)
     · exact read_assign h200 h12 (t := tNm name pos) rfl rfl rfl g3 g4 (q := tSg 59 (pos + name.length + 1 + 2 + (prE 0 x).length)) rfl rfl r lr m n (by simpa using hA) hn' (by simp at hm; omega) h0
     · simp
 · -- read
   have hn := hnm rfl
   obtain ⟨rfl, rfl⟩ := hcall rfl
   obtain rfl := h9 (by decide)
   obtain rfl := hx0 rfl
   have e : plainS 2 name [] ex0 false [] ++ [59, 10] = [114, 101, 97, 100] ++ 32 :: (name ++ 59 :: [10]) := by simp [plainS]
   rw [e]
   refine ⟨_, LxS.then (LxS.wd pos) (LxF.blank (by decide) (LxS.then (LxS.nm hn _) (LxF.end _))), ?_, ?_, ?_⟩
   · simp [plainN]
   · exact .inr ⟨_, _, rfl, rfl, by simp [tWd], by simp [tWd], by simp [tWd]⟩
   · refine StmtAs.of (k := 3) (fun r lr m n hA hn' hm h0 => ?_) ?_ (hz _ rfl) (by simp)
     · exact read_wname h200 h12 (w := tWd [114, 101, 97, 100] pos) rfl (.inr ⟨rfl, rfl⟩) (t := tNm name (pos + 4 + 1)) rfl (q := tSg 59 (pos + 4 + 1 + name.length)) rfl rfl r lr m n (by simpa using hA) hn' h0
     · simp
 · -- print
   have hX := hF (hx rfl)
   obtain ⟨rfl, rfl⟩ := hcall rfl
   obtain rfl := h9 (by decide)
   have hn : name = [] := (hnm0 rfl).resolve_right (by intro h; exact absurd h.1 (by simp [Sm.isCall]))
   subst hn
   obtain ⟨lx, g1, g2, g3, g4⟩ := pr_whole hX.1 hX.2 hxs (pos + 5 + 1)
   have e : plainS 3 [] [] x false [] ++ [59, 10] = [112, 114, 105, 110, 116] ++ 32 :: (prE 0 x ++ 59 :: [10]) := by simp [plainS]
   rw [e]
   refine ⟨_, LxS.then (LxS.wd pos) (LxF.blank (by decide) (LxS.then g2 (LxF.end _))), ?_, ?_, ?_⟩
   · simp [plainN, g1]
   · exact .inr ⟨_, _, rfl, rfl, by simp [tWd], by simp [tWd], by simp [tWd]⟩
   · refine StmtAs.of (k := lx.length + 2) (fun r lr m n hA hn' hm h0 => ?_) ?_ (hz _ rfl) (by simp)
     · exact read_wexpr h200 h12 (w := tWd [112, 114, 105, 110, 116] pos) rfl (.inl ⟨rfl, rfl, rfl⟩) g3 g4 (q := tSg 59 (pos + 5 + 1 + (prE 0 x).length)) rfl rfl r lr m n (by simpa using hA) hn' (by simp at hm; omega) h0
     · simp
 · -- a call
   have hp := hproc rfl
   obtain rfl := h9 (by decide)
   obtain rfl := hx0 rfl
   have hasz := Ar.sizes_len args
   have hsz : ∀ a ∈ args, a.x.size < 1000000000 := fun a ha => by have := Ar.sizes_mem ha; omega
   have key : ∀ P : Nat, ∃ la, LxS (Lib.join (args.map argS) [44, 32]) P la ∧ ((args = [] ∧ la = []) ∨ SepG GArg args la) ∧ la.length = sepN argN args := by
     intro P
     by_cases h0 : args = []
     · subst h0
       refine ⟨[], ?_, .inl ⟨rfl, rfl⟩, rfl⟩
       simp only [List.map_nil]
       have : Lib.join [] [44, 32] = [] := by simp [Lib.join]
       rw [this]
       exact (LxF.nil _).s
     · obtain ⟨l, h1, h2⟩ := args_lx hargs har hsz h0 P
       exact ⟨l, h1, .inr h2, sep_len garg_len h2⟩
   rcases hnm0 rfl with hn | ⟨_, hn⟩
   · subst hn
     have e : plainS 4 [] proc ex0 false args ++ [59, 10] = proc ++ 40 :: (Lib.join (args.map argS) [44, 32] ++ 41 :: (59 :: [10])) := by simp [plainS, callS]
     rw [e]
     obtain ⟨la, g1, g2, g3⟩ := key (pos + proc.length + 1)
     refine ⟨_, LxS.then (LxS.nm hp pos) (LxF.sg (LxS.then g1 (LxF.sg (LxF.end _)))), ?_, ?_, ?_⟩
     · simp [plainN, g3]
     · exact .inl ⟨_, _, _, rfl, rfl, .inr (by simp [tSg])⟩
     · refine StmtAs.of (k := la.length + 4) (fun r lr m n hA hn' hm h0 => ?_) ?_ (hz _ rfl) (by simp)
       · exact read_calls h200 h12 (t := tNm proc pos) rfl (p := tSg 40 (pos + proc.length)) rfl rfl g2 (arZs_may hargs) (q := tSg 41 (pos + proc.length + 1 + (Lib.join (args.map argS) [44, 32]).length)) rfl rfl (c := tSg 59 (pos + proc.length + 1 + (Lib.join (args.map argS) [44, 32]).length + 1)) rfl rfl (by omega) r lr m n (by simpa using hA) hn' (by simp at hm; omega) h0
       · simp
   · have hne := isName_ne hn
     have e : plainS 4 name proc ex0 false args ++ [59, 10] = name ++ 32 :: (61 :: 32 :: (proc ++ 40 :: (Lib.join (args.map argS) [44, 32] ++ 41 :: (59 :: [10])))) := by simp [plainS, callS, hne]
     rw [e]
     obtain ⟨la, g1, g2, g3⟩ := key (pos + name.length + 1 + 2 + proc.length + 1)
     refine ⟨_, LxS.then (LxS.nm hn pos) (LxF.blank (by decide) (LxF.eq (LxS.then (LxS.nm hp _) (LxF.sg (LxS.then g1 (LxF.sg (LxF.end _))))))), ?_, ?_, ?_⟩
     · simp [plainN, g3, hne]; omega
     · exact .inl ⟨_, _, _, rfl, rfl, .inr (by simp [tSg])⟩
     · refine StmtAs.of (k := la.length + 6) (fun r lr m n hA hn' hm h0 => ?_) ?_ (hz _ rfl) (by simp)
       · exact read_callto h200 h12 (s := tNm name pos) rfl (e := tSg 61 (pos + name.length + 1)) rfl rfl (t := tNm proc (pos + name.length + 1 + 2)) rfl (p := tSg 40 (pos + name.length + 1 + 2 + proc.length)) rfl rfl g2 (arZs_may hargs) (q := tSg 41 (pos + name.length + 1 + 2 + proc.length + 1 + (Lib.join (args.map argS) [44, 32]).length)) rfl rfl (c := tSg 59 (pos + name.length + 1 + 2 + proc.length + 1 + (Lib.join (args.map argS) [44, 32]).length + 1)) rfl rfl (by omega) r lr m n (by simpa using hA) hn' (by simp at hm; omega) h0
       · simp
 · -- break
   obtain ⟨rfl, rfl⟩ := hcall rfl
   obtain rfl := h9 (by decide)
   obtain rfl := hx0 rfl
   have hn : name = [] := (hnm0 rfl).resolve_right (by intro h; exact absurd h.1 (by simp [Sm.isCall]))
   subst hn
   have e : plainS 7 [] [] ex0 false [] ++ [59, 10] = [98, 114, 101, 97, 107] ++ 59 :: [10] := by simp [plainS]
   rw [e]
   refine ⟨_, LxS.then (LxS.wd pos) (LxF.end _), ?_, ?_, ?_⟩
   · simp [plainN]
   · exact .inr ⟨_, _, rfl, rfl, by simp [tWd], by simp [tWd], by simp [tWd]⟩
   · refine StmtAs.of (k := 2) (fun r lr m n hA hn' hm h0 => ?_) ?_ (hz _ rfl) (by simp)
     · exact read_word h200 h12 (w := tWd [98, 114, 101, 97, 107] pos) rfl (.inl ⟨rfl, rfl⟩) (q := tSg 59 (pos + 5)) rfl rfl r lr m n (by simpa using hA) hn' h0
     · simp
 · -- continue
   obtain ⟨rfl, rfl⟩ := hcall rfl
   obtain rfl := h9 (by decide)
   obtain rfl := hx0 rfl
   have hn : name = [] := (hnm0 rfl).resolve_right (by intro h; exact absurd h.1 (by simp [Sm.isCall]))
   subst hn
   have e : plainS 8 [] [] ex0 false [] ++ [59, 10] = [99, 111, 110, 116, 105, 110, 117, 101] ++ 59 :: [10] := by simp [plainS]
   rw [e]
   refine ⟨_, LxS.then (LxS.wd pos) (LxF.end _), ?_, ?_, ?_⟩
   · simp [plainN]
   · exact .inr ⟨_, _, rfl, rfl, by simp [tWd], by simp [tWd], by simp [tWd]⟩
   · refine StmtAs.of (k := 2) (fun r lr m n hA hn' hm h0 => ?_) ?_ (hz _ rfl) (by simp)
     · exact read_word h200 h12 (w := tWd [99, 111, 110, 116, 105, 110, 117, 101] pos) rfl (.inr (.inl ⟨rfl, rfl⟩)) (q := tSg 59 (pos + 8)) rfl rfl r lr m n (by simpa using hA) hn' h0
     · simp
 · -- return
   obtain ⟨rfl, rfl⟩ := hcall rfl
   have hn : name = [] := (hnm0 rfl).resolve_right (by intro h; exact absurd h.1 (by simp [Sm.isCall]))
   subst hn
   cases has with
   | false =>
     obtain rfl := hx0 rfl
     have e : plainS 9 [] [] ex0 false [] ++ [59, 10] = [114, 101, 116, 117, 114, 110] ++ 59 :: [10] := by simp [plainS]
     rw [e]
     refine ⟨_, LxS.then (LxS.wd pos) (LxF.end _), ?_, ?_, ?_⟩
     · simp [plainN]
     · exact .inr ⟨_, _, rfl, rfl, by simp [tWd], by simp [tWd], by simp [tWd]⟩
     · refine StmtAs.of (k := 2) (fun r lr m n hA hn' hm h0 => ?_) ?_ (hz _ rfl) (by simp)
       · exact read_word h200 h12 (w := tWd [114, 101, 116, 117, 114, 110] pos) rfl (.inr (.inr ⟨rfl, rfl⟩)) (q := tSg 59 (pos + 6)) rfl rfl r lr m n (by simpa using hA) hn' h0
       · simp
   | true =>
     have hX := hF (hx rfl)
     obtain ⟨lx, g1, g2, g3, g4⟩ := pr_whole hX.1 hX.2 hxs (pos + 6 + 1)
     have e : plainS 9 [] [] x true [] ++ [59, 10] = [114, 101, 116, 117, 114, 110] ++ 32 :: (prE 0 x ++ 59 :: [10]) := by simp [plainS]
     rw [e]
     refine ⟨_, LxS.then (LxS.wd pos) (LxF.blank (by decide) (LxS.then g2 (LxF.end _))), ?_, ?_, ?_⟩
     · simp [plainN, g1]
     · exact .inr ⟨_, _, rfl, rfl, by simp [tWd], by simp [tWd], by simp [tWd]⟩
     · refine StmtAs.of (k := lx.length + 2) (fun r lr m n hA hn' hm h0 => ?_) ?_ (hz _ rfl) (by simp)
       · exact read_wexpr h200 h12 (w := tWd [114, 101, 116, 117, 114, 110] pos) rfl (.inr ⟨rfl, rfl, rfl⟩) g3 g4 (q := tSg 59 (pos + 6 + 1 + (prE 0 x).length)) rfl rfl r lr m n (by simpa using hA) hn' (by simp at hm; omega) h0
       · simp
 · -- goto
   have hn := hnm rfl
   obtain ⟨rfl, rfl⟩ := hcall rfl
   obtain rfl := h9 (by decide)
   obtain rfl := hx0 rfl
   have e : plainS 10 name [] ex0 false [] ++ [59, 10] = [103, 111, 116, 111] ++ 32 :: (name ++ 59 :: [10]) := by simp [plainS]
   rw [e]
   refine ⟨_, LxS.then (LxS.wd pos) (LxF.blank (by decide) (LxS.then (LxS.nm hn _) (LxF.end _))), ?_, ?_, ?_⟩
   · simp [plainN]
   · exact .inr ⟨_, _, rfl, rfl, by simp [tWd], by simp [tWd], by simp [tWd]⟩
   · refine StmtAs.of (k := 3) (fun r lr m n hA hn' hm h0 => ?_) ?_ (hz _ rfl) (by simp)
     · exact read_wname h200 h12 (w := tWd [103, 111, 116, 111] pos) rfl (.inl ⟨rfl, rfl⟩) (t := tNm name (pos + 4 + 1)) rfl (q := tSg 59 (pos + 4 + 1 + name.length)) rfl rfl r lr m n (by simpa using hA) hn' h0
     · simp

end Go.Abs

/-! Ps5 -/

namespace Go.Abs

mutual
def bodyN : Sm → Nat
 | ⟨_, kind, _, name, _, x, has, args, thn, els⟩ => if kind = 6 then exN 0 x + 5 + rowsN thn else if kind = 5 then exN 0 x + 5 + rowsN thn + (if els.length = 0 then 0 else rowsN els + 3) else plainN kind name x has args
def rowsN : List Sm → Nat
 | [] => 0
 | s :: l => 2 * s.labels.length + bodyN s + rowsN l
end

theorem LabT.len {ls : List Str} {l : List Tok} (h : LabT ls l) : l.length = 2 * ls.length := by
 induction h with
 | nil => rfl
 | cons t c ls m _ _ _ _ ih => simp only [List.length_cons]; omega
theorem lab_lx : ∀ {ls : List Str}, mayNames ls = true → ∀ pos, ∃ l, LxF (marksS ls) pos l ∧ LabT ls l
 | [], _, pos => ⟨[], LxF.nil _, .nil⟩
 | t :: ls, h, pos => by
   simp only [mayNames] at h
   split at h
   · cases h
   rename_i ht
   have ht : isName t = true := by simpa using ht
   obtain ⟨l, g1, g2⟩ := lab_lx h (pos + t.length + 1 + 1)
   have e : marksS (t :: ls) = t ++ 58 :: (32 :: marksS ls) := by simp [marksS]
   rw [e]
   exact ⟨_, LxS.then (LxS.nm ht pos) (LxF.sg (LxF.blank (by decide) g1)), .cons (tNm t pos) (tSg 58 (pos + t.length)) ls l rfl rfl rfl g2⟩

def RowsAs (nest : Int) (n0 n1 : Nat) (l : List Sm) (L : List Tok) : Prop := ∀ (fin : List Str) (F : List Tok) (q : Tok) (body : Bool) (r : Rd) (lr : List Tok) (m n : Nat) (out : List Sm), LabT fin F → q.kind = 4 → q.text = [125] → (body = true ∨ fin = []) →
 At r (L ++ (F ++ q :: lr)) → r.n = n0 → 3 * (L.length + F.length + 1) < m → L.length + F.length + 1 ≤ n → out.length + l.length ≤ 1000000 → fin.length ≤ 1000000 →
 Rd.rowsL m n nest body out r = some ((out ++ Sm.zs l, fin), { r.mv (L.length + F.length + 1) with n := n1 })

def RowBeg (L : List Tok) : Prop := ∀ w, (w = [101, 108, 115, 101] ∨ w = [118, 97, 114]) → ∀ lr, NoW w lr → NoW w (L ++ lr)
theorem RowBeg.nil : RowBeg [] := fun w _ lr h => h
theorem LabT.els {ls : List Str} {l : List Tok} (h : LabT ls l) : RowBeg l := by
 intro w hw lr hlr
 cases h with
 | nil => exact hlr
 | cons t c ls m ht _ _ _ => exact ⟨t, _, rfl, kd1 ht, .inl (by omega)⟩
theorem RowBeg.cons {Fs ls L : List Tok} {labs : List Str} (hF : LabT labs Fs) (hb : StBeg ls) : RowBeg (Fs ++ (ls ++ L)) := by
 intro w hw lr _
 rw [List.append_assoc, List.append_assoc]
 exact hF.els w hw _ (hb.els hw _)

theorem rows_nil (nest : Int) (n0 : Nat) : RowsAs nest n0 n0 [] [] := by
 intro fin F q body r lr m n out hF hq hq2 hb hA hn hm hl ho hf
 have hFl := hF.len
 simp only [List.length_nil] at hm hl
 cases n with
 | zero => omega
 | succ n =>
   have hA : At r (F ++ q :: lr) := hA
   rw [Rd.rowsL, if_pos hA.good, labels_as hF r (q :: lr) [] m hA ⟨q, lr, rfl, kd4 hq, .inl (by omega)⟩ (by simpa using hf) (by omega), Option.bind_some]
   dsimp only
   have hA1 := hA.app
   rw [hA1.is (kd4 hq), Option.bind_some]
   have b0 : ((q.kind == 3 || q.kind == 4) && q.text == [125]) = true := by simp [hq, hq2]
   have b1 : (body || ((([] ++ fin : List Str).length : Nat) : Int) == 0) = true := by rcases hb with rfl | rfl <;> simp
   rw [b0, b1]
   simp only [Bool.and_self, ↓reduceIte, List.nil_append, Sm.zs, List.append_nil, List.length_nil, Nat.zero_add]
   simp only [Rd.mv, ← hn, Nat.add_assoc]

theorem rows_cons {nest : Int} {n0 n1 n2 : Nat} {s : Sm} {l : List Sm} {Fs ls L : List Tok} (hF : LabT s.labels Fs) (hb : StBeg ls) (hs : StmtAs nest n0 n1 s ls) (hl : RowsAs nest n1 n2 l L) (hLb : RowBeg L) (hlab : s.labels.length ≤ 1000000) : RowsAs nest n0 n2 (s :: l) (Fs ++ (ls ++ L)) := by
 intro fin F q body r lr m n out hFin hq hq2 hbd hA hn hm hlen ho hf
 simp only [List.length_append] at hm hlen
 simp only [List.length_cons] at ho
 have hFl := hF.len
 have hbp := hb.pos
 cases n with
 | zero => omega
 | succ n =>
   have hA : At r (Fs ++ (ls ++ (L ++ (F ++ q :: lr)))) := by simpa only [List.append_assoc] using hA
   have hA1 := hA.app
   rw [Rd.rowsL, if_pos hA.good, labels_as hF r _ [] m hA (hb.lab _) (by simpa using hlab) (by omega), Option.bind_some]
   dsimp only
   rw [hb.is hA1, Option.bind_some]
   simp only [Bool.false_and, Bool.false_eq_true, ↓reduceIte]
   have hne : NoElse (L ++ (F ++ q :: lr)) := hLb _ (.inl rfl) _ (hFin.els _ (.inl rfl) _ ⟨q, lr, rfl, kd4 hq, .inr (by rw [hq2]; decide)⟩)
   rw [hs (r.mv Fs.length) (L ++ (F ++ q :: lr)) m n hA1 hne (by simpa [Rd.mv] using hn) (by omega) (by omega), Option.bind_some]
   dsimp only
   rw [push_ok (by omega) (by omega), Option.bind_some]
   have hA2 : At ({ (r.mv Fs.length).mv ls.length with n := n1 } : Rd) (L ++ (F ++ q :: lr)) := hA1.app.n n1
   rw [hl fin F q body _ lr m n _ hFin hq hq2 hbd hA2 rfl (by omega) (by omega) (by simp only [List.length_append, List.length_cons, List.length_nil]; omega) hf]
   have e : ({ ({ (Sm.z s) with labels := [] } : Sm) with labels := [] ++ s.labels } : Sm) = s.z := by rw [z_eq]; simp
   rw [e]
   simp only [List.append_assoc, List.cons_append, List.nil_append, Sm.zs, Rd.mv, List.length_append]
   congr 3
   omega

theorem block_as {nest : Int} {k n1 : Nat} {thn : List Sm} {L : List Tok} (h : RowsAs (nest + 1) k n1 thn L) (h12 : -1000 ≤ nest ∧ nest ≤ 12) (hl : thn.length ≤ 1000000) {b c : Tok} (hb : b.kind = 4) (hb2 : b.text = [123]) (hc : c.kind = 4) (hc2 : c.text = [125]) :
   ∀ (r : Rd) (lr : List Tok) (m n : Nat), At r (b :: (L ++ c :: lr)) → r.n = k → 3 * (L.length + 1) < m → L.length + 3 ≤ n → Rd.block m n nest r = some (Sm.zs thn, { r.mv (L.length + 2) with n := n1 }) := by
 intro r lr m n hA hn hm hlen
 obtain ⟨n, rfl⟩ : ∃ n', n = n' + 2 := ⟨n - 2, by omega⟩
 rw [Rd.block, hA.want (.inr hb) hb2, Option.bind_some]
 have hi : incI nest = some (nest + 1) := by unfold incI; rw [if_pos (by omega)]
 rw [hi, Option.bind_some, Rd.rows]
 rw [h [] [] c false (r.mv 1) lr m n [] .nil hc hc2 (.inr rfl) hA.one (by simpa [Rd.mv] using hn) (by simpa using hm) (by simp; omega) (by simpa using hl) (by simp), Option.bind_some]
 simp only [List.nil_append, Rd.mv, List.length_nil, Nat.add_zero]
 congr 3
 omega

theorem head_as {x : Ex} {lx : List Tok} (hx : WholeAs x lx) {p q : Tok} (hp : p.kind = 4) (hp2 : p.text = [40]) (hq : q.kind = 4) (hq2 : q.text = [41]) : ∀ (r : Rd) (lr : List Tok) (m : Nat), At r (p :: (lx ++ q :: lr)) → 3 * lx.length < m → Rd.head m r = some (x, r.mv (lx.length + 2)) := by
 intro r lr m hA hm
 unfold Rd.head
 rw [hA.want (.inr hp) hp2, Option.bind_some, hx _ (q :: lr) m hA.one (ends_sign hq hq2 (by decide)) hm, Option.bind_some]
 dsimp only
 rw [hA.one.app.want (.inr hq) hq2, Option.bind_some]
 simp only [Rd.mv]
 congr 3
 omega

theorem read_while {nest : Int} {n0 n1 : Nat} (h200 : n0 + 1 ≤ 200) (h12 : -1000 ≤ nest ∧ nest ≤ 12) {x : Ex} {lx L : List Tok} {thn : List Sm} {w p q b c : Tok} (hw : w.kind = 3) (hw2 : w.text = [119, 104, 105, 108, 101]) (hp : p.kind = 4) (hp2 : p.text = [40]) (hx : WholeAs x lx) (hq : q.kind = 4) (hq2 : q.text = [41])
   (hb : b.kind = 4) (hb2 : b.text = [123]) (hL : RowsAs (nest + 1) (n0 + 1) n1 thn L) (hl : thn.length ≤ 1000000) (hc : c.kind = 4) (hc2 : c.text = [125]) :
   ∀ (r : Rd) (lr : List Tok) (m n : Nat), At r (w :: p :: (lx ++ q :: b :: (L ++ c :: lr))) → r.n = n0 → 3 * (lx.length + L.length + 5) < m → lx.length + L.length + 5 ≤ n → Rd.stmt m n nest r = some (⟨0, 6, [], [], [], x, false, [], Sm.zs thn, []⟩, { r.mv (lx.length + L.length + 5) with n := n1 }) := by
 intro r lr m n hA hn hm hlen
 obtain ⟨n, rfl⟩ : ∃ n', n = n' + 1 := ⟨n - 1, by omega⟩
 have k1 : (w.kind == 1) = false := by simp [hw]
 have k3 : (w.kind != 3) = false := by simp [hw]
 rw [st_step hA (Kd.of hw) hn h200 h12.2 (by rw [k1, k3, hw2]; decide), k1, hw2]
 rw [if_neg (by simp), if_neg (by decide), if_pos (by decide)]
 have hA1 : At ({ r with n := n0 + 1, i := r.i + 1 } : Rd) (p :: (lx ++ q :: b :: (L ++ c :: lr))) := hA.one.n (n0 + 1)
 rw [head_as hx hp hp2 hq hq2 _ _ m hA1 (by omega), Option.bind_some]
 dsimp only
 have hA2 : At (({ r with n := n0 + 1, i := r.i + 1 } : Rd).mv (lx.length + 2)) (b :: (L ++ c :: lr)) := by
   have := hA1.one.app.one
   simpa only [mv_mv, Nat.add_comm, Nat.add_left_comm, Nat.add_assoc, Nat.reduceAdd] using this
 rw [block_as hL h12 hl hb hb2 hc hc2 _ lr m n hA2 rfl (by omega) (by omega), Option.bind_some]
 simp only [Rd.mv]
 congr 3
 omega

theorem read_if {nest : Int} {n0 n1 : Nat} (h200 : n0 + 1 ≤ 200) (h12 : -1000 ≤ nest ∧ nest ≤ 12) {x : Ex} {lx L : List Tok} {thn : List Sm} {w p q b c : Tok} (hw : w.kind = 3) (hw2 : w.text = [105, 102]) (hp : p.kind = 4) (hp2 : p.text = [40]) (hx : WholeAs x lx) (hq : q.kind = 4) (hq2 : q.text = [41])
   (hb : b.kind = 4) (hb2 : b.text = [123]) (hL : RowsAs (nest + 1) (n0 + 1) n1 thn L) (hl : thn.length ≤ 1000000) (hc : c.kind = 4) (hc2 : c.text = [125]) :
   (∀ (r : Rd) (t : Tok) (lr : List Tok) (m n : Nat), At r (w :: p :: (lx ++ q :: b :: (L ++ c :: t :: lr))) → Kd t → ((t.kind ≠ 3 ∧ t.kind ≠ 4) ∨ t.text ≠ [101, 108, 115, 101]) → r.n = n0 → 3 * (lx.length + L.length + 5) < m → lx.length + L.length + 5 ≤ n → Rd.stmt m n nest r = some (⟨0, 5, [], [], [], x, false, [], Sm.zs thn, []⟩, { r.mv (lx.length + L.length + 5) with n := n1 })) ∧
   ∀ {n2 : Nat} {E : List Tok} {els : List Sm} {e b' c' : Tok}, e.kind = 3 → e.text = [101, 108, 115, 101] → b'.kind = 4 → b'.text = [123] → RowsAs (nest + 1) n1 n2 els E → els.length ≤ 1000000 → c'.kind = 4 → c'.text = [125] →
     ∀ (r : Rd) (lr : List Tok) (m n : Nat), At r (w :: p :: (lx ++ q :: b :: (L ++ c :: e :: b' :: (E ++ c' :: lr)))) → r.n = n0 → 3 * (lx.length + L.length + E.length + 8) < m → lx.length + L.length + E.length + 8 ≤ n → Rd.stmt m n nest r = some (⟨0, 5, [], [], [], x, false, [], Sm.zs thn, Sm.zs els⟩, { r.mv (lx.length + L.length + E.length + 8) with n := n2 }) := by
 have first : ∀ (r : Rd) (t : Tok) (lr : List Tok) (m n : Nat), At r (w :: p :: (lx ++ q :: b :: (L ++ c :: t :: lr))) → r.n = n0 → 3 * (lx.length + L.length + 5) < m → lx.length + L.length + 3 ≤ n → Rd.stmt m (n + 2) nest r = ((({ r.mv (lx.length + L.length + 5) with n := n1 } : Rd).take [101, 108, 115, 101]).bind fun q => if q.1 then (Rd.block m n nest q.2).bind fun e => some (⟨0, 5, [], [], [], x, false, [], Sm.zs thn, e.1⟩, e.2) else some (⟨0, 5, [], [], [], x, false, [], Sm.zs thn, []⟩, q.2)) ∧
     At ({ r.mv (lx.length + L.length + 5) with n := n1 } : Rd) (t :: lr) := by
   intro r t lr m n hA hn hm hlen
   have k1 : (w.kind == 1) = false := by simp [hw]
   have k3 : (w.kind != 3) = false := by simp [hw]
   have hA1 : At ({ r with n := n0 + 1, i := r.i + 1 } : Rd) (p :: (lx ++ q :: b :: (L ++ c :: t :: lr))) := hA.one.n (n0 + 1)
   have hA2 : At (({ r with n := n0 + 1, i := r.i + 1 } : Rd).mv (lx.length + 2)) (b :: (L ++ c :: t :: lr)) := by
     have := hA1.one.app.one
     simpa only [mv_mv, Nat.add_comm, Nat.add_left_comm, Nat.add_assoc, Nat.reduceAdd] using this
   have hA3 : At ({ r.mv (lx.length + L.length + 5) with n := n1 } : Rd) (t :: lr) := by
     have := hA2.one.app.one.n n1
     have e : ({ (((({ r with n := n0 + 1, i := r.i + 1 } : Rd).mv (lx.length + 2)).mv 1).mv L.length).mv 1 with n := n1 } : Rd) = { r.mv (lx.length + L.length + 5) with n := n1 } := by
       simp only [Rd.mv]; congr 1; omega
     rw [e] at this; exact this
   refine ⟨?_, hA3⟩
   rw [st_step hA (Kd.of hw) hn h200 h12.2 (by rw [k1, k3, hw2]; decide), k1, hw2]
   rw [if_neg (by simp), if_pos (by decide), Rd.choice]
   rw [head_as hx hp hp2 hq hq2 _ _ m hA1 (by omega), Option.bind_some]
   dsimp only
   rw [block_as hL h12 hl hb hb2 hc hc2 _ (t :: lr) m n hA2 rfl (by omega) (by omega), Option.bind_some]
   have e : ({ (({ r with n := n0 + 1, i := r.i + 1 } : Rd).mv (lx.length + 2)).mv (L.length + 2) with n := n1 } : Rd) = { r.mv (lx.length + L.length + 5) with n := n1 } := by
     simp only [Rd.mv]; congr 1; omega
   dsimp only
   rw [e]
 refine ⟨fun r t lr m n hA hk ht hn hm hlen => ?_, fun {n2 E els e b' c'} he he2 hb' hb2' hE hel hc' hc2' r lr m n hA hn hm hlen => ?_⟩
 · obtain ⟨n, rfl⟩ : ∃ n', n = n' + 2 := ⟨n - 2, by omega⟩
   obtain ⟨h1, h2⟩ := first r t lr m n hA hn hm (by omega)
   rw [h1, h2.take_no hk ht, Option.bind_some]
   rfl
 · obtain ⟨n, rfl⟩ : ∃ n', n = n' + 2 := ⟨n - 2, by omega⟩
   obtain ⟨h1, h2⟩ := first r e _ m n hA hn (by omega) (by omega)
   rw [h1, h2.take_yes (.inl he) he2, Option.bind_some]
   simp only [↓reduceIte]
   rw [block_as hE h12 hel hb' hb2' hc' hc2' _ lr m n h2.one rfl (by omega) (by omega), Option.bind_some]
   simp only [Rd.mv]
   congr 3
   omega

/-! ### Rows -/

theorem mayL_cons {nest : Int} {n : Nat} {s : Sm} {l : List Sm} (h : (Sm.mayL nest n (s :: l)).1 = true) : (Sm.mayR nest n s).1 = true ∧ (Sm.mayL nest (Sm.mayR nest n s).2 l).1 = true ∧ (Sm.mayL nest n (s :: l)).2 = (Sm.mayL nest (Sm.mayR nest n s).2 l).2 := by
 simp only [Sm.mayL] at h ⊢
 split at h
 · cases h
 rename_i hc
 rw [if_neg hc]
 exact ⟨by simpa using hc, h, rfl⟩

mutual
theorem stmt_as : ∀ (s : Sm) (inn : Nat) (nest : Int) (n0 : Nat), (Sm.mayR nest n0 s).1 = true → s.rng → -1000 ≤ nest ∧ nest ≤ 12 → s.size < 1000000 → ∀ pos, ∃ l, LxF (bodyS inn s) pos l ∧ l.length = bodyN s ∧ StBeg l ∧ StmtAs nest n0 (Sm.mayR nest n0 s).2 s l
 | ⟨id, kind, labels, name, proc, x, has, args, thn, els⟩, inn, nest, n0, hm, hr, h12, hs, pos => by
   obtain ⟨h200, _, ho, ht, he, h2⟩ := mayR_true hm
   obtain ⟨r1, r2, r3, r4⟩ := (Sm.rng_eq _).1 hr
   have tt := mayG_true ht
   have te := mayG_true he
   rw [tt.2] at ht te he h2
   rw [te.2] at he h2
   have hf := one_facts ho
   dsimp only at r1 r2 r3 r4 ht he tt te h2
   simp only [Sm.size] at hs
   have hxs : x.size < 1000000000 := by omega
   have hC := Sm.sizes_len thn
   have hle := Sm.sizes_len els
   by_cases k6 : kind = 6
   · subst k6
     have hX := hf.x rfl
     dsimp only at hX
     have hF := may_formI hX r1
     have hd : x.depth ≤ 20 := by simp only [Ex.may, Bool.and_eq_true, decide_eq_true_eq] at hX; omega
     have hels := hf.els.resolve_right (by simp)
     dsimp only at hels
     subst hels
     have hhas : has = false := by
       cases hh : has
       · rfl
       · have := hf.has hh; simp at this
     have hcall := hf.call rfl
     have hnm : name = [] := (hf.nm0 rfl).resolve_right (by intro h; exact absurd h.1 (by simp [Sm.isCall]))
     dsimp only at hcall
     obtain ⟨rfl, rfl⟩ := hcall
     subst hhas hnm
     obtain ⟨lx, g1, g2, g3, g4⟩ := pr_whole hF hd hxs (pos + 5 + 1 + 1)
     obtain ⟨L, k1, k2, k3, k4⟩ := rows_as thn (inn + 1) (nest + 1) (n0 + 1) ht r3 (tt.1.imp_right fun h => ⟨by omega, h⟩) (by omega) (by omega) (pos + 5 + 1 + 1 + (prE 0 x).length + 1 + 1 + 1 + 1)
     have e : bodyS inn ⟨id, 6, labels, [], [], x, false, [], thn, []⟩ = [119, 104, 105, 108, 101] ++ 32 :: (40 :: (prE 0 x ++ 41 :: (32 :: (123 :: (10 :: (rowsS (inn + 1) thn ++ (List.replicate inn 32 ++ (125 :: [10]))))))))  := by
       simp [bodyS, lineT]
     rw [e]
     refine ⟨_, LxS.then (LxS.wd pos) (LxF.blank (by decide) (LxF.sg (LxS.then g2 (LxF.sg (LxF.blank (by decide) (LxF.sg (LxF.blank (by decide) (LxF.app k1 (LxF.blanks inn (LxF.sg (LxF.blank (by decide) (LxF.nil _))))))))))))  , ?_, ?_, ?_⟩
     · simp [bodyN, g1, k2]; omega
     · exact .inr ⟨_, _, rfl, rfl, by simp [tWd], by simp [tWd], by simp [tWd]⟩
     · intro r lr m n hA _ hn hm' hl
       simp only [List.length_append, List.length_cons, List.length_nil] at hm' hl
       rw [read_while h200 h12 (w := tWd [119, 104, 105, 108, 101] pos) rfl rfl (p := tSg 40 (pos + 5 + 1)) rfl rfl g3 (q := tSg 41 (pos + 5 + 1 + 1 + (prE 0 x).length)) rfl rfl (b := tSg 123 (pos + 5 + 1 + 1 + (prE 0 x).length + 1 + 1)) rfl rfl k4 (by omega) (c := tSg 125 (pos + 5 + 1 + 1 + (prE 0 x).length + 1 + 1 + 1 + 1 + (rowsS (inn + 1) thn).length + inn)) rfl rfl r lr m n (by simpa using hA) hn (by omega) (by omega)]
       rw [h2]
       simp only [Sm.z, Sm.zs, Sm.mayL, List.length_append, List.length_cons, List.length_nil, Rd.mv]
       congr 3
       omega
   · by_cases k5 : kind = 5
     · subst k5
       have hX := hf.x rfl
       dsimp only at hX
       have hF := may_formI hX r1
       have hd : x.depth ≤ 20 := by simp only [Ex.may, Bool.and_eq_true, decide_eq_true_eq] at hX; omega
       have hhas : has = false := by
         cases hh : has
         · rfl
         · have := hf.has hh; simp at this
       have hcall := hf.call rfl
       have hnm : name = [] := (hf.nm0 rfl).resolve_right (by intro h; exact absurd h.1 (by simp [Sm.isCall]))
       dsimp only at hcall
       obtain ⟨rfl, rfl⟩ := hcall
       subst hhas hnm
       obtain ⟨lx, g1, g2, g3, g4⟩ := pr_whole hF hd hxs (pos + 2 + 1 + 1)
       obtain ⟨L, k1, k2, k3, k4⟩ := rows_as thn (inn + 1) (nest + 1) (n0 + 1) ht r3 (tt.1.imp_right fun h => ⟨by omega, h⟩) (by omega) (by omega) (pos + 2 + 1 + 1 + (prE 0 x).length + 1 + 1 + 1 + 1)
       by_cases ce : els.length = 0
       · have hels : els = [] := List.eq_nil_of_length_eq_zero ce
         subst hels
         have e : bodyS inn ⟨id, 5, labels, [], [], x, false, [], thn, []⟩ = [105, 102] ++ 32 :: (40 :: (prE 0 x ++ 41 :: (32 :: (123 :: (10 :: (rowsS (inn + 1) thn ++ (List.replicate inn 32 ++ (125 :: [10]))))))))  := by
           simp [bodyS, lineT]
         rw [e]
         refine ⟨_, LxS.then (LxS.wd pos) (LxF.blank (by decide) (LxF.sg (LxS.then g2 (LxF.sg (LxF.blank (by decide) (LxF.sg (LxF.blank (by decide) (LxF.app k1 (LxF.blanks inn (LxF.sg (LxF.blank (by decide) (LxF.nil _))))))))))))  , ?_, ?_, ?_⟩
         · simp [bodyN, g1, k2]; omega
         · exact .inr ⟨_, _, rfl, rfl, by simp [tWd], by simp [tWd], by simp [tWd]⟩
         · intro r lr m n hA hNE hn hm' hl
           simp only [List.length_append, List.length_cons, List.length_nil] at hm' hl
           obtain ⟨t, lr', rfl, hk, hne⟩ := hNE
           rw [(read_if h200 h12 (w := tWd [105, 102] pos) rfl rfl (p := tSg 40 (pos + 2 + 1)) rfl rfl g3 (q := tSg 41 (pos + 2 + 1 + 1 + (prE 0 x).length)) rfl rfl (b := tSg 123 (pos + 2 + 1 + 1 + (prE 0 x).length + 1 + 1)) rfl rfl k4 (by omega) (c := tSg 125 (pos + 2 + 1 + 1 + (prE 0 x).length + 1 + 1 + 1 + 1 + (rowsS (inn + 1) thn).length + inn)) rfl rfl).1 r t lr' m n (by simpa using hA) hk hne hn (by omega) (by omega)]
           rw [h2]
           simp only [Sm.z, Sm.zs, Sm.mayL, List.length_append, List.length_cons, List.length_nil, Rd.mv]
           congr 3
           omega
       · obtain ⟨E, j1, j2, j3, j4⟩ := rows_as els (inn + 1) (nest + 1) _ he r4 (te.1.imp_right fun h => ⟨by omega, h⟩) (by omega) (by omega) (pos + 2 + 1 + 1 + (prE 0 x).length + 1 + 1 + 1 + 1 + (rowsS (inn + 1) thn).length + inn + 1 + 1 + 4 + 1 + 1 + 1)
         have e : bodyS inn ⟨id, 5, labels, [], [], x, false, [], thn, els⟩ = [105, 102] ++ 32 :: (40 :: (prE 0 x ++ 41 :: (32 :: (123 :: (10 :: (rowsS (inn + 1) thn ++ (List.replicate inn 32 ++ (125 :: (32 :: ([101, 108, 115, 101] ++ 32 :: (123 :: (10 :: (rowsS (inn + 1) els ++ (List.replicate inn 32 ++ (125 :: [10]))))))))))))))) := by
           have : els ≠ [] := fun h => ce (by rw [h]; rfl)
           simp [bodyS, lineT, this]
         rw [e]
         refine ⟨_, LxS.then (LxS.wd pos) (LxF.blank (by decide) (LxF.sg (LxS.then g2 (LxF.sg (LxF.blank (by decide) (LxF.sg (LxF.blank (by decide) (LxF.app k1 (LxF.blanks inn (LxF.sg (LxF.blank (by decide)
           (LxS.then (LxS.wd _) (LxF.blank (by decide) (LxF.sg (LxF.blank (by decide) (LxF.app j1 (LxF.blanks inn (LxF.sg (LxF.blank (by decide) (LxF.nil _)))))))))))))))))))), ?_, ?_, ?_⟩
         · simp only [bodyN, List.length_append, List.length_cons, List.length_nil, Int.reduceEq, ↓reduceIte, if_neg ce, g1, k2, j2]; omega
         · exact .inr ⟨_, _, rfl, rfl, by simp [tWd], by simp [tWd], by simp [tWd]⟩
         · intro r lr m n hA hNE hn hm' hl
           simp only [List.length_append, List.length_cons, List.length_nil] at hm' hl
           rw [(read_if h200 h12 (w := tWd [105, 102] pos) rfl rfl (p := tSg 40 (pos + 2 + 1)) rfl rfl g3 (q := tSg 41 (pos + 2 + 1 + 1 + (prE 0 x).length)) rfl rfl (b := tSg 123 (pos + 2 + 1 + 1 + (prE 0 x).length + 1 + 1)) rfl rfl k4 (by omega) (c := tSg 125 (pos + 2 + 1 + 1 + (prE 0 x).length + 1 + 1 + 1 + 1 + (rowsS (inn + 1) thn).length + inn)) rfl rfl).2
             (e := tWd [101, 108, 115, 101] (pos + 2 + 1 + 1 + (prE 0 x).length + 1 + 1 + 1 + 1 + (rowsS (inn + 1) thn).length + inn + 1 + 1)) rfl rfl (b' := tSg 123 (pos + 2 + 1 + 1 + (prE 0 x).length + 1 + 1 + 1 + 1 + (rowsS (inn + 1) thn).length + inn + 1 + 1 + 4 + 1)) rfl rfl j4 (by omega)
             (c' := tSg 125 (pos + 2 + 1 + 1 + (prE 0 x).length + 1 + 1 + 1 + 1 + (rowsS (inn + 1) thn).length + inn + 1 + 1 + 4 + 1 + 1 + 1 + (rowsS (inn + 1) els).length + inn)) rfl rfl r lr m n (by simpa using hA) hn (by omega) (by omega)]
           rw [h2]
           simp only [Sm.z, Sm.zs, Sm.mayL, List.length_append, List.length_cons, List.length_nil, Rd.mv]
           congr 3
           omega
     · obtain ⟨l, g1, g2, g3, g4⟩ := plain_as ho r1 r2 (by simp only [Sm.size]; omega) k5 k6 h200 h12.2 pos
       have ht0 : thn = [] := hf.thn.resolve_right (by dsimp only; omega)
       have he0 : els = [] := hf.els.resolve_right k5
       refine ⟨l, ?_, ?_, g3, ?_⟩
       · have e : bodyS inn ⟨id, kind, labels, name, proc, x, has, args, thn, els⟩ = plainS kind name proc x has args ++ [59, 10] := by
           unfold bodyS lineT
           dsimp only
           rw [if_neg k6, if_neg k5, if_neg (by omega)]
           simp
         rw [e]; exact g1
       · rw [g2]; simp only [bodyN, if_neg k6, if_neg k5]
       · rw [mayR_simple hm ht0 he0]; exact g4
theorem rows_as : ∀ (l : List Sm) (inn : Nat) (nest : Int) (n0 : Nat), (Sm.mayL nest n0 l).1 = true → Sm.rngs l → (l = [] ∨ (-1000 ≤ nest ∧ nest ≤ 12)) → l.length ≤ 1000000 → Sm.sizes l < 1000000 → ∀ pos, ∃ L, LxF (rowsS inn l) pos L ∧ L.length = rowsN l ∧ RowBeg L ∧ RowsAs nest n0 (Sm.mayL nest n0 l).2 l L
 | [], inn, nest, n0, _, _, _, _, _, pos => ⟨[], by simp only [rowsS]; exact LxF.nil _, by simp [rowsN], .nil, by simp only [Sm.mayL]; exact rows_nil nest n0⟩
 | s :: l, inn, nest, n0, hm, hr, h12, hln, hs, pos => by
   obtain ⟨m1, m2, m3⟩ := mayL_cons hm
   have h12 := h12.resolve_left (by simp)
   simp only [Sm.rngs] at hr
   simp only [Sm.sizes] at hs
   simp only [List.length_cons] at hln
   have hlab : s.labels.length < s.size := by cases s; simp only [Sm.size]; omega
   have hml : mayNames s.labels = true := (one_facts (mayR_true m1).2.2.1).lab
   obtain ⟨Fs, f1, f2⟩ := lab_lx hml (pos + inn)
   obtain ⟨ls, g1, g2, g3, g4⟩ := stmt_as s inn nest n0 m1 hr.1 h12 (by omega) (pos + inn + (marksS s.labels).length)
   obtain ⟨L, k1, k2, k3, k4⟩ := rows_as l inn nest _ m2 hr.2 (.inr h12) (by omega) (by omega) (pos + inn + (marksS s.labels).length + (bodyS inn s).length)
   refine ⟨Fs ++ (ls ++ L), ?_, ?_, RowBeg.cons f2 g3, ?_⟩
   · simp only [rowsS]
     rw [rowS_body]
     have e : List.replicate inn 32 ++ (marksS s.labels ++ bodyS inn s) ++ rowsS inn l = List.replicate inn 32 ++ (marksS s.labels ++ (bodyS inn s ++ rowsS inn l)) := by simp only [List.append_assoc]
     rw [e]
     exact LxF.blanks inn (LxF.app f1 (LxF.app g1 k1))
   · simp only [rowsN, List.length_append, f2.len, g2, k2]; omega
   · rw [m3]; exact rows_cons f2 g3 g4 k4 k3 (by omega)
end

end Go.Abs

/-! Pr8 -/

namespace Go.Abs

set_option maxRecDepth 8000
open Go.Proofs

end Go.Abs
