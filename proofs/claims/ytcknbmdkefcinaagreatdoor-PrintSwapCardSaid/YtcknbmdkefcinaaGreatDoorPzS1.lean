/-
  What is proved here: part 1 of the road to the claim (Walk, Par, Par1, Par2, Par3, Step, Wp, Types, Mir, MirLex, MirTree, MirMay, Nums, Codes0, Have0).
  No conditions.
-/
import Derived.Test.YtcknbmdkefcinaaGreatDoorPzS0
import Derived.Attr
import Derived.Test.YtcknbmdkefcinaaGreatDoorProg
import Derived.KernelRfl

set_option linter.unusedSimpArgs false
set_option linter.unusedVariables false

/-! Walk -/

namespace Go.Abs

/-! ### Weaker values -/

def Wk (d d' : D) : Prop := ∀ (M : Map) (s : St) (v : Value), RD M s d v → RD M s d' v

inductive WkL : List D → List D → Prop where
 | nil : WkL [] []
 | cons {d d' : D} {l l' : List D} (h : Wk d d') (t : WkL l l') : WkL (d :: l) (d' :: l')

inductive WkR : List (List D) → List (List D) → Prop where
 | nil : WkR [] []
 | cons {r r' : List D} {l l' : List (List D)} (h : WkL r r') (t : WkR l l') : WkR (r :: l) (r' :: l')

theorem Wk.refl (d : D) : Wk d d := fun _ _ _ h => h
theorem Wk.trans {a b c : D} (h : Wk a b) (k : Wk b c) : Wk a c := fun M s v r => k M s v (h M s v r)
theorem Wk.junk (d : D) : Wk d .junk := fun _ _ v _ => .junk v

theorem WkL.refl : ∀ l, WkL l l
 | [] => .nil
 | d :: l => .cons (Wk.refl d) (WkL.refl l)
theorem WkR.refl : ∀ l, WkR l l
 | [] => .nil
 | d :: l => .cons (WkL.refl d) (WkR.refl l)
theorem WkL.len {l l' : List D} (h : WkL l l') : l.length = l'.length := by
 induction h with
 | nil => rfl
 | cons _ _ ih => simp [ih]
theorem WkR.len {l l' : List (List D)} (h : WkR l l') : l.length = l'.length := by
 induction h with
 | nil => rfl
 | cons _ _ ih => simp [ih]

theorem WkL.get {l l' : List D} (h : WkL l l') : ∀ {i : Nat} {d' : D}, l'[i]? = some d' → ∃ d, l[i]? = some d ∧ Wk d d' := by
 induction h with
 | nil => intro i d' e; simp at e
 | cons hd _ ih =>
   intro i d' e
   cases i with
   | zero => simp at e; subst e; exact ⟨_, rfl, hd⟩
   | succ i => simp at e; simpa using ih e
theorem WkR.get {l l' : List (List D)} (h : WkR l l') : ∀ {i : Nat} {d' : List D}, l'[i]? = some d' → ∃ d, l[i]? = some d ∧ WkL d d' := by
 induction h with
 | nil => intro i d' e; simp at e
 | cons hd _ ih =>
   intro i d' e
   cases i with
   | zero => simp at e; subst e; exact ⟨_, rfl, hd⟩
   | succ i => simp at e; simpa using ih e

theorem WkR.append {a a' b b' : List (List D)} (h : WkR a a') (k : WkR b b') : WkR (a ++ b) (a' ++ b') := by
 induction h with
 | nil => exact k
 | cons hd _ ih => exact .cons hd ih

theorem Wk.agg {l l' : List D} (h : WkL l l') : Wk (.agg l) (.agg l') := by
 intro M s v r
 cases r with
 | agg _ vs hl h1 hr =>
   refine .agg _ vs (by rw [← hl, h.len]) h1 fun i d' u e e2 => ?_
   obtain ⟨d, e1, hw⟩ := h.get e
   exact hw M s u (hr i d u e1 e2)

theorem Wk.tuple {l l' : List D} (h : WkL l l') : Wk (.tuple l) (.tuple l') := by
 intro M s v r
 cases r with
 | tuple _ vs hl hr =>
   refine .tuple _ vs (by rw [← hl, h.len]) fun i d' u e e2 => ?_
   obtain ⟨d, e1, hw⟩ := h.get e
   exact hw M s u (hr i d u e1 e2)

theorem Wk.rows {g : Tag} {z : Nat} {l l' : List (List D)} (h : WkR l l') : Wk (.slice g z l) (.slice g z l') := by
 intro M s v r
 cases r with
 | snil _ _ cap hc ht => cases h; exact .snil _ _ _ hc ht
 | semp _ a cap => cases h; exact .semp _ a cap
 | slice _ _ _ b k cap hl hs h1 h2 ht =>
   rw [h.len]
   refine .slice g z l' b k cap (by rw [← h.len]; exact hl) (fun row hm => ?_) (fun i row j d e e2 => ?_) (fun i row j d u e e2 eu => ?_) (by rw [← h.len]; exact ht)
   · obtain ⟨i, hi, he⟩ := List.mem_iff_getElem.1 hm
     obtain ⟨r0, g1, g2⟩ := h.get (i := i) (by rw [List.getElem?_eq_getElem hi, he])
     rw [← g2.len]; exact hs r0 (List.mem_of_getElem? g1)
   · obtain ⟨r0, g1, g2⟩ := h.get e
     obtain ⟨d0, g3, _⟩ := g2.get e2
     exact h1 i r0 j d0 g1 g3
   · obtain ⟨r0, g1, g2⟩ := h.get e
     obtain ⟨d0, g3, g4⟩ := g2.get e2
     exact g4 M s u (h2 i r0 j d0 u g1 g3 eu)

theorem Wk.shared (g : Tag) (z : Nat) (l : List (List D)) : Wk (.slice g z l) (.slice .shared z l) := by
 intro M s v r
 cases r with
 | snil _ _ cap hc ht => exact .snil _ _ _ hc trivial
 | semp _ a cap => exact .semp _ a cap
 | slice _ _ _ b k cap hl hs h1 h2 ht => exact .slice _ _ _ b k cap hl hs h1 h2 trivial

theorem Wk.slice {g : Tag} {z : Nat} {l l' : List (List D)} (h : WkR l l') : Wk (.slice g z l) (.slice .shared z l') := (Wk.shared g z l).trans (Wk.rows h)

theorem Wk.nil (g : Tag) (z z' : Nat) : Wk (.slice g z []) (.slice .shared z' []) := by
 intro M s v r
 cases r with
 | snil _ _ cap hc ht => exact .snil _ _ _ hc trivial
 | semp _ a cap => exact .semp _ a cap
 | slice _ _ _ b k cap hl hs h1 h2 ht => exact .slice _ _ [] b k cap hl (by simp) (by simp) (by simp) trivial

theorem Wk.fnil (z z' : Nat) : Wk (.slice .full z []) (.slice .full z' []) := by
 intro M s v r
 cases r with
 | snil _ _ cap hc ht => exact .snil _ _ _ hc ht
 | slice _ _ _ b k cap hl hs h1 h2 ht => exact .slice _ _ [] b k cap hl (by simp) (by simp) (by simp) ht

/-! ### States -/

theorem Rel.weak {M : Map} {s : St} {w : World} {objs : List (List D)} (r : Rel M s w) (h : WkR s.objs objs) : Rel M ⟨objs, s.toks⟩ w ∧ Le M s M ⟨objs, s.toks⟩ := by
 have le : Le M s M ⟨objs, s.toks⟩ := ⟨fun _ _ _ h => h, Nat.le_of_eq h.len, fun _ _ => rfl, Nat.le_refl _, fun t n' _ e => ⟨n', e, Nat.le_refl _, fun _ => rfl⟩⟩
 have hl := h.len
 refine ⟨⟨r.comm, fun o ds e => ?_, fun o ho => r.objG o (by rw [hl]; exact ho), fun o o' ho ho' => r.inj o o' (by rw [hl]; exact ho) (by rw [hl]; exact ho'), r.tok,
   fun t b c z o hv e ho => r.tokObj t b c z o hv e (by rw [hl]; exact ho), r.tokInj⟩, le⟩
 obtain ⟨ds0, g1, g2⟩ := h.get e
 obtain ⟨vs, T, h1, h2, h3, h4⟩ := r.obj o ds0 g1
 refine ⟨vs, T, h1, by rw [h2, g2.len], h3, fun i d v e1 e2 => ?_⟩
 obtain ⟨d0, k1, k2⟩ := g2.get e1
 exact (k2 _ _ _ (h4 i d0 v k1 e2)).mono le

theorem Rel.blank {M : Map} {s : St} {w : World} (r : Rel M s w) :
   Rel (M.setT s.toks.length none) { s with toks := s.toks ++ [some 0] } w ∧ Le M s (M.setT s.toks.length none) { s with toks := s.toks ++ [some 0] } := by
 have hlive : ∀ t, St.live { s with toks := s.toks ++ [some 0] } t → s.live t ∨ t = s.toks.length := by
   rintro t ⟨k, hk⟩
   rcases Nat.lt_or_ge t s.toks.length with h | h
   · rw [List.getElem?_append_left h] at hk; exact .inl ⟨k, hk⟩
   · have := (List.getElem?_eq_some_iff.1 hk).1
     simp at this; exact .inr (by omega)
 have hH : ∀ t, s.live t → t < s.toks.length := fun t ⟨k, hk⟩ => (List.getElem?_eq_some_iff.1 hk).1
 have hold : ∀ t, t < s.toks.length → (M.setT s.toks.length none).be t = M.be t := fun t h => by simp [Map.setT]; omega
 have hnew : (M.setT s.toks.length none).be s.toks.length = none := by simp [Map.setT]
 have le : Le M s (M.setT s.toks.length none) { s with toks := s.toks ++ [some 0] } :=
   ⟨fun _ _ _ h => h, Nat.le_refl _, fun _ _ => rfl, by simp, fun t k h e => by
     rw [List.getElem?_append_left h] at e
     exact ⟨k, e, Nat.le_refl _, fun _ => hold t h⟩⟩
 refine ⟨⟨r.comm, fun o ds e => ?_, r.objG, r.inj, fun t k e => ?_, fun t b' c z o hl e ho' => ?_, fun t t' b' c z c' z' h h' e e' => ?_⟩, le⟩
 · obtain ⟨vs', T', h3, h4, h5, h6⟩ := r.obj o ds e
   exact ⟨vs', T', h3, h4, h5, fun i d v e1 e2 => (h6 i d v e1 e2).mono le⟩
 · rcases Nat.lt_or_ge t s.toks.length with h | h
   · rw [List.getElem?_append_left h] at e
     rw [hold t h]; exact r.tok t k e
   · have := (List.getElem?_eq_some_iff.1 e).1
     simp at this
     have : t = s.toks.length := by omega
     subst this
     simp at e; subst e
     exact .inl ⟨hnew, rfl⟩
 · rcases hlive t hl with h | h
   · rw [hold t (hH t h)] at e; exact r.tokObj t b' c z o h e ho'
   · subst h; rw [hnew] at e; cases e
 · rcases hlive t h with h | h <;> rcases hlive t' h' with h' | h'
   · rw [hold t (hH t h)] at e; rw [hold t' (hH t' h')] at e'; exact r.tokInj t t' b' c z c' z' h h' e e'
   · subst h'; rw [hnew] at e'; cases e'
   · subst h; rw [hnew] at e; cases e
   · omega

theorem RD.ownB {M : Map} {s : St} {z' : Nat} {v : Value} {y : Bool} (h : RD M s (.val (.slice none 0 0)) v) : RD (M.setT s.toks.length none) { s with toks := s.toks ++ [some 0] } (.slice (.tok s.toks.length y) z' []) v := by
 cases h
 refine .snil _ _ _ rfl ⟨by simp, fun n e => ?_⟩
 simp at e
 subst e
 exact ⟨Nat.le_refl _, fun _ => .inl ⟨by simp [Map.setT], rfl, fun _ => rfl⟩⟩
theorem RD.own {M : Map} {s : St} {z z' : Nat} {v : Value} (h : RD M s (.slice .full z []) v) : RD (M.setT s.toks.length none) { s with toks := s.toks ++ [some 0] } (.slice (.tok s.toks.length) z' []) v := by
 have key : ∀ base : Option (Nat × Nat), TagOk (M.setT s.toks.length none) { s with toks := s.toks ++ [some 0] } (.tok s.toks.length) z' 0 base 0 := by
   intro base
   refine ⟨by simp, fun n e => ?_⟩
   simp at e
   subst e
   exact ⟨Nat.le_refl _, fun _ => .inl ⟨by simp [Map.setT], rfl, fun h => by cases h⟩⟩
 cases h with
 | snil _ _ cap hc ht => subst hc; exact .snil _ _ _ rfl (key none)
 | slice _ _ _ b k cap hl hs h1 h2 ht =>
   have : cap = 0 := ht
   subst this
   exact .slice _ _ [] b k 0 (Nat.le_refl _) (by simp) (by simp) (by simp) (key _)

section
variable {P : Program} {B : Base} {nt : Nat} {Q : Exit → Tm → St → Prop} {tm : Tm} {s : St}

theorem ext_blank {M0 M : Map} {s0 s : St} {w0 w : World} (e : Ext M0 s0 w0 M s w) (le : Le M s (M.setT s.toks.length none) { s with toks := s.toks ++ [some 0] }) :
   Ext M0 s0 w0 (M.setT s.toks.length none) { s with toks := s.toks ++ [some 0] } w := by
 refine e.trans ⟨le, fun _ _ _ _ => rfl, fun o h1 h2 => absurd h2 (Nat.not_lt.2 h1), fun t b c z hl eq => ?_, fun _ _ h => (h rfl).elim, Nat.le_refl _, rfl, rfl, rfl⟩
 obtain ⟨k, hk⟩ := hl
 rcases Nat.lt_or_ge t s.toks.length with h | h
 · refine .inl ⟨⟨k, by rw [List.getElem?_append_left h] at hk; exact hk⟩, c, z, ?_⟩
   have : (M.setT s.toks.length none).be t = M.be t := by simp [Map.setT]; omega
   rw [← this]; exact eq
 · have := (List.getElem?_eq_some_iff.1 hk).1
   simp at this
   have : t = s.toks.length := by omega
   subst this
   simp [Map.setT] at eq

theorem Sem.tokT {ac : AC} (t z' : Nat) {z : Nat} (hw : tm.get t = .slice .full z []) (h : Sem P B nt ac Q (tm.set t (.slice (.tok s.toks.length) z' [])) { s with toks := s.toks ++ [some 0] }) : Sem P B nt ac Q tm s := by
 intro c hc act w ⟨M, e, r, ht, h1, h2⟩
 obtain ⟨r', le⟩ := r.blank
 refine h c hc act w ⟨_, ext_blank e le, r', fun k => ?_, h1, h2⟩
 rw [Tm.get_set]
 split
 · rename_i hk; subst hk; have := ht k; rw [hw] at this; exact this.own
 · exact (ht k).mono le

end

/-! ### Functions -/

def Fun (P : Program) (f : Nat) (args : List D) (s : St) (d : D) (s' : St) : Prop := ACalls P f args s fun x y => x = d ∧ y = s'

def retF (n m : Nat) (res : List (Nat × Option (Bool × Nat))) (d : D) (s' : St) : Exit → Tm → St → Prop
 | .normal, tm, s | .ret, tm, s => ∃ l, resL res tm s = some l ∧ Wk ((oneD l).fg n m) d ∧ WkR (s.cut n m).objs s'.objs ∧ (s.cut n m).toks = s'.toks
 | _, _, _ => False

theorem ACalls.weak {P : Program} {f : FuncId} {args args' : List D} {s : St} {Q : D → St → Prop} (ha : WkL args args') (h : ACalls P f args' s Q) : ACalls P f args s Q :=
 fun M w vargs r hlaid hl hr => h M w vargs r hlaid (by rw [hl, ha.len]) fun i d v e1 e2 => by
   obtain ⟨d0, g1, g2⟩ := ha.get e1
   exact g2 _ _ _ (hr i d0 v g1 e2)

theorem ACalls.weakQ {P : Program} {f : FuncId} {args : List D} {s : St} {Q Q' : D → St → Prop} (h : ACalls P f args s Q) (hq : ∀ d s1, Q d s1 → ∃ d' s', Wk d d' ∧ WkR s1.objs s'.objs ∧ s1.toks = s'.toks ∧ Q' d' s') : ACalls P f args s Q' :=
 fun M w vargs r hlaid hl ha => (h M w vargs r hlaid hl ha).mono fun _ _ ⟨M', d, v, s1, h1, h2, h3, h4, h5⟩ => by
   obtain ⟨d', s', g1, g2, g3, g4⟩ := hq d s1 h2
   obtain ⟨r', le⟩ := h4.weak g2
   have hs : (⟨s'.objs, s1.toks⟩ : St) = s' := by rw [g3]
   rw [hs] at r' le
   refine ⟨M', d', v, s', h1, g4, h3.trans ⟨le, fun _ _ _ _ => rfl, fun o h1 h2 => ?_, fun t b c z hl e => .inl ⟨by obtain ⟨n, hn⟩ := hl; exact ⟨n, by rw [g3]; exact hn⟩, c, z, e⟩, fun _ _ h => (h rfl).elim, Nat.le_refl _, rfl, rfl, rfl⟩, r', (g1 _ _ _ h5).mono le⟩
   rw [← g2.len] at h2
   exact absurd h2 (Nat.not_lt.2 h1)

theorem Fun.intro {P : Program} {f : FuncId} {af : AF} {args : List D} {s : St} {d : D} {s' : St} (h0 : ∃ fn, P.funcs[f]? = some fn ∧ cF P fn = some af) (hl : args.length ≤ af.ntmps)
   (h : ∀ B : Base, B.s = s → Sem P B af.ntmps af.body (retF s.objs.length s.toks.length af.results d s') (argTm 0 args) s) : Fun P f args s d s' := by
 obtain ⟨fn, hf, hc⟩ := h0
 refine ACalls.weakQ (ACalls.intro (Q := fun d1 s1 => Wk d1 d ∧ WkR s1.objs s'.objs ∧ s1.toks = s'.toks) hf hc hl fun B hB => (h B hB).mono fun e tm s1 hr => ?_) fun d1 s1 ⟨h1, h2, h3⟩ => ⟨d, s', h1, h2, h3, rfl, rfl⟩
 subst hB
 cases e with
 | normal => obtain ⟨l, h1, h2, h3, h4⟩ := hr; exact ⟨l, h1, _, _, Nat.le_refl _, Nat.le_refl _, h2, h3, h4⟩
 | ret => obtain ⟨l, h1, h2, h3, h4⟩ := hr; exact ⟨l, h1, _, _, Nat.le_refl _, Nat.le_refl _, h2, h3, h4⟩
 | exit id => exact hr.elim
 | goto l => exact hr.elim
 | panic ch => exact hr.elim
 | outgrown => exact hr.elim

theorem Fun.use {P : Program} {f : FuncId} {args : List D} {s : St} {d : D} {s' : St} {Q : D → St → Prop} (h : Fun P f args s d s') (hq : Q d s') : ACalls P f args s Q :=
 ACalls.mono h fun x y ⟨h1, h2⟩ => by subst h1; subst h2; exact hq

/-! ### In any state -/

mutual
theorem ren_ok00 (os ts : List Nat) : ∀ d, D.ok 0 0 d = true → D.ren os ts d = d
 | .junk, _ => by simp [D.ren]
 | .int k n, _ => by simp [D.ren]
 | .bool b, _ => by simp [D.ren]
 | .str l, _ => by simp [D.ren]
 | .nilp, _ => by simp [D.ren]
 | .val v, _ => by simp [D.ren]
 | .selfp T o, h => by simp [D.ok] at h
 | .ptr o f, h => by simp [D.ok] at h
 | .cptr r f, h => by
   simp only [D.ok] at h
   simp only [D.ren, rens_ok00 os ts r h]
 | .slice g z rows, h => by
   simp only [D.ok, Bool.and_eq_true] at h
   simp only [D.ren, renr_ok00 os ts rows h.2]
   cases g with
   | tok t y => simp [Tag.ok] at h
   | full => rfl
   | shared => rfl
 | .agg cs, h => by
   simp only [D.ok] at h
   simp only [D.ren, rens_ok00 os ts cs h]
 | .tuple cs, h => by
   simp only [D.ok] at h
   simp only [D.ren, rens_ok00 os ts cs h]
theorem rens_ok00 (os ts : List Nat) : ∀ l, D.oks 0 0 l = true → D.rens os ts l = l
 | [], _ => by simp [D.rens]
 | d :: r, h => by
   simp only [D.oks, Bool.and_eq_true] at h
   simp only [D.rens, ren_ok00 os ts d h.1, rens_ok00 os ts r h.2]
theorem renr_ok00 (os ts : List Nat) : ∀ l, D.okr 0 0 l = true → D.renr os ts l = l
 | [], _ => by simp [D.renr]
 | d :: r, h => by
   simp only [D.okr, Bool.and_eq_true] at h
   simp only [D.renr, rens_ok00 os ts d h.1, renr_ok00 os ts r h.2]
end

mutual
theorem ok_mono {n m n' m' : Nat} (hn : n ≤ n') (hm : m ≤ m') : ∀ d, D.ok n m d = true → D.ok n' m' d = true
 | .junk, _ => rfl
 | .int k n, _ => rfl
 | .bool b, _ => rfl
 | .str l, _ => rfl
 | .nilp, _ => rfl
 | .val v, _ => rfl
 | .selfp T o, h => by simp [D.ok] at h ⊢; omega
 | .ptr o f, h => by simp only [D.ok, decide_eq_true_eq] at h ⊢; omega
 | .cptr r f, h => by
   simp only [D.ok] at h ⊢
   exact oks_mono hn hm r h
 | .slice g z rows, h => by
   simp only [D.ok, Bool.and_eq_true] at h ⊢
   refine ⟨?_, okr_mono hn hm rows h.2⟩
   cases g with
   | tok t y => simp only [Tag.ok, decide_eq_true_eq] at h ⊢; omega
   | full => rfl
   | shared => rfl
 | .agg cs, h => by
   simp only [D.ok] at h ⊢
   exact oks_mono hn hm cs h
 | .tuple cs, h => by
   simp only [D.ok] at h ⊢
   exact oks_mono hn hm cs h
theorem oks_mono {n m n' m' : Nat} (hn : n ≤ n') (hm : m ≤ m') : ∀ l, D.oks n m l = true → D.oks n' m' l = true
 | [], _ => rfl
 | d :: r, h => by
   simp only [D.oks, Bool.and_eq_true] at h ⊢
   exact ⟨ok_mono hn hm d h.1, oks_mono hn hm r h.2⟩
theorem okr_mono {n m n' m' : Nat} (hn : n ≤ n') (hm : m ≤ m') : ∀ l, D.okr n m l = true → D.okr n' m' l = true
 | [], _ => rfl
 | d :: r, h => by
   simp only [D.okr, Bool.and_eq_true] at h ⊢
   exact ⟨oks_mono hn hm d h.1, okr_mono hn hm r h.2⟩
end

def S0 : St := ⟨[], []⟩

section
variable {P : Program} {f : Nat}

theorem Fun.pure {args : List D} {d : D} (h : Fun P f args S0 d S0) (ha : D.oks 0 0 args = true) (hd : D.ok 0 0 d = true) (s : St) : Fun P f args s d s := by
 refine ACalls.frame [] [] h List.nodup_nil List.nodup_nil (by simp) (by simp) rfl (by simp) rfl (by simp) (by rw [rens_ok00 _ _ _ ha]) ha ?_
 rintro _ _ ⟨rfl, rfl⟩
 refine ⟨ren_ok00 _ _ _ hd, ?_⟩
 simp [St.back, plug, S0]

theorem Fun.meth {args row row' : List D} {d : D} (h : Fun P f (.ptr 0 0 :: args) ⟨[row], []⟩ d ⟨[row'], []⟩) (ha : D.oks 0 0 args = true) (hr : D.oks 0 0 row = true) (hr' : D.oks 0 0 row' = true) (hd : D.ok 0 0 d = true)
   {s : St} {o : Nat} (ho : s.objs[o]? = some row) : Fun P f (.ptr o 0 :: args) s d ⟨s.objs.set o row', s.toks⟩ := by
 refine ACalls.frame [o] [] h (by simp) List.nodup_nil (by simpa using (List.getElem?_eq_some_iff.1 ho).1) (by simp) rfl (fun i o' ds e1 e2 => ?_) rfl (by simp) (by simp [D.rens, D.ren, rens_ok00 _ _ _ ha])
   (by simp [D.oks, D.ok, oks_mono (Nat.zero_le 1) (Nat.le_refl 0) _ ha]) ?_
 · cases i with
   | zero => simp at e1 e2; subst e1; subst e2; exact ⟨by rw [rens_ok00 _ _ _ hr]; exact ho, oks_mono (Nat.zero_le 1) (Nat.le_refl 0) _ hr⟩
   | succ i => simp at e1
 · rintro _ _ ⟨rfl, rfl⟩
   refine ⟨ren_ok00 _ _ _ hd, ?_⟩
   simp [St.back, plug, rens_ok00 _ _ _ hr']

end
end Go.Abs

/-! Par -/

namespace Go.Abs

theorem X.ev_congr {x : X} {tm tm' : Tm} (h : ∀ t ∈ x.reads, tm.get t = tm'.get t) : x.ev tm = x.ev tm' := by
 cases x with
 | s t => exact h t (by simp [X.reads])
 | k d => rfl

theorem mem_readsL {t : Nat} {x : X} : ∀ {l : List X}, x ∈ l → t ∈ x.reads → t ∈ readsL l
 | [], h, _ => by cases h
 | y :: r, h, ht => by
   simp only [readsL, List.mem_append]
   rcases List.mem_cons.1 h with rfl | h
   · exact .inl ht
   · exact .inr (mem_readsL h ht)

theorem readsO_ev {x : Option X} {tm tm' : Tm} (h : ∀ t ∈ readsO x, tm.get t = tm'.get t) : x.map (·.ev tm) = x.map (·.ev tm') := by
 cases x with
 | none => rfl
 | some y => simp only [Option.map_some]; rw [X.ev_congr h]

theorem evalO_congr {o : AO} {tm tm' : Tm} {s : St} (h : ∀ t ∈ o.reads, tm.get t = tm'.get t) : evalO o tm s = evalO o tm' s := by
 cases o with
 | mv x =>
   have hx : x.ev tm = x.ev tm' := X.ev_congr fun t ht => h t (by simp [AO.reads, ht])
   simp only [evalO, hx]
 | pick c a b =>
   have hc : c.ev tm = c.ev tm' := X.ev_congr fun t ht => h t (by simp [AO.reads, ht])
   have ha : a.ev tm = a.ev tm' := X.ev_congr fun t ht => h t (by simp [AO.reads, ht])
   have hb : b.ev tm = b.ev tm' := X.ev_congr fun t ht => h t (by simp [AO.reads, ht])
   simp only [evalO, hc, ha, hb]
 | alloc z =>
   rfl
 | allocB z T => rfl
 | boxB x T =>
   have hx : x.ev tm = x.ev tm' := X.ev_congr fun t ht => h t (by simp [AO.reads, ht])
   simp only [evalO, hx]
 | appb x y =>
   have hx : x.ev tm = x.ev tm' := X.ev_congr fun t ht => h t (by simp [AO.reads, ht])
   have hy : y.ev tm = y.ev tm' := X.ev_congr fun t ht => h t (by simp [AO.reads, ht])
   simp only [evalO, hx, hy]
 | apps x y =>
   have hx : x.ev tm = x.ev tm' := X.ev_congr fun t ht => h t (by simp [AO.reads, ht])
   have hy : y.ev tm = y.ev tm' := X.ev_congr fun t ht => h t (by simp [AO.reads, ht])
   simp only [evalO, hx, hy]
 | box x =>
   have hx : x.ev tm = x.ev tm' := X.ev_congr fun t ht => h t (by simp [AO.reads, ht])
   simp only [evalO, hx]
 | frz x =>
   have hx : x.ev tm = x.ev tm' := X.ev_congr fun t ht => h t (by simp [AO.reads, ht])
   simp only [evalO, hx]
 | load x g n =>
   have hx : x.ev tm = x.ev tm' := X.ev_congr fun t ht => h t (by simp [AO.reads, ht])
   simp only [evalO, hx]
 | store p x n =>
   have hp : p.ev tm = p.ev tm' := X.ev_congr fun t ht => h t (by simp [AO.reads, ht])
   have hx : x.ev tm = x.ev tm' := X.ev_congr fun t ht => h t (by simp [AO.reads, ht])
   simp only [evalO, hp, hx]
 | nilck x =>
   have hx : x.ev tm = x.ev tm' := X.ev_congr fun t ht => h t (by simp [AO.reads, ht])
   simp only [evalO, hx]
 | bin op x y =>
   have hx : x.ev tm = x.ev tm' := X.ev_congr fun t ht => h t (by simp [AO.reads, ht])
   have hy : y.ev tm = y.ev tm' := X.ev_congr fun t ht => h t (by simp [AO.reads, ht])
   simp only [evalO, hx, hy]
 | eqb n x y =>
   have hx : x.ev tm = x.ev tm' := X.ev_congr fun t ht => h t (by simp [AO.reads, ht])
   have hy : y.ev tm = y.ev tm' := X.ev_congr fun t ht => h t (by simp [AO.reads, ht])
   simp only [evalO, hx, hy]
 | eqs n ks x y =>
   have hx : x.ev tm = x.ev tm' := X.ev_congr fun t ht => h t (by simp [AO.reads, ht])
   have hy : y.ev tm = y.ev tm' := X.ev_congr fun t ht => h t (by simp [AO.reads, ht])
   simp only [evalO, hx, hy]
 | eqp n x y =>
   have hx : x.ev tm = x.ev tm' := X.ev_congr fun t ht => h t (by simp [AO.reads, ht])
   have hy : y.ev tm = y.ev tm' := X.ev_congr fun t ht => h t (by simp [AO.reads, ht])
   simp only [evalO, hx, hy]
 | un op x =>
   have hx : x.ev tm = x.ev tm' := X.ev_congr fun t ht => h t (by simp [AO.reads, ht])
   simp only [evalO, hx]
 | conv k x =>
   have hx : x.ev tm = x.ev tm' := X.ev_congr fun t ht => h t (by simp [AO.reads, ht])
   simp only [evalO, hx]
 | tostr x =>
   have hx : x.ev tm = x.ev tm' := X.ev_congr fun t ht => h t (by simp [AO.reads, ht])
   simp only [evalO, hx]
 | tobytes x =>
   have hx : x.ev tm = x.ev tm' := X.ev_congr fun t ht => h t (by simp [AO.reads, ht])
   simp only [evalO, hx]
 | faddr x n =>
   have hx : x.ev tm = x.ev tm' := X.ev_congr fun t ht => h t (by simp [AO.reads, ht])
   simp only [evalO, hx]
 | fld x n g m =>
   have hx : x.ev tm = x.ev tm' := X.ev_congr fun t ht => h t (by simp [AO.reads, ht])
   simp only [evalO, hx]
 | iaddr x i n =>
   have hx : x.ev tm = x.ev tm' := X.ev_congr fun t ht => h t (by simp [AO.reads, ht])
   have hi : i.ev tm = i.ev tm' := X.ev_congr fun t ht => h t (by simp [AO.reads, ht])
   simp only [evalO, hx, hi]
 | sidx x i =>
   have hx : x.ev tm = x.ev tm' := X.ev_congr fun t ht => h t (by simp [AO.reads, ht])
   have hi : i.ev tm = i.ev tm' := X.ev_congr fun t ht => h t (by simp [AO.reads, ht])
   simp only [evalO, hx, hi]
 | ext x i =>
   have hx : x.ev tm = x.ev tm' := X.ev_congr fun t ht => h t (by simp [AO.reads, ht])
   simp only [evalO, hx]
 | len x =>
   have hx : x.ev tm = x.ev tm' := X.ev_congr fun t ht => h t (by simp [AO.reads, ht])
   simp only [evalO, hx]
 | slen x =>
   have hx : x.ev tm = x.ev tm' := X.ev_congr fun t ht => h t (by simp [AO.reads, ht])
   simp only [evalO, hx]
 | app a b x y =>
   have hx : x.ev tm = x.ev tm' := X.ev_congr fun t ht => h t (by simp [AO.reads, ht])
   have hy : y.ev tm = y.ev tm' := X.ev_congr fun t ht => h t (by simp [AO.reads, ht])
   simp only [evalO, hx, hy]
 | mm b x y =>
   have hx : x.ev tm = x.ev tm' := X.ev_congr fun t ht => h t (by simp [AO.reads, ht])
   have hy : y.ev tm = y.ev tm' := X.ev_congr fun t ht => h t (by simp [AO.reads, ht])
   simp only [evalO, hx, hy]
 | build z ps =>
   have hp : (ps.map fun p => (p.1, p.2.1, p.2.2.ev tm)) = ps.map fun p => (p.1, p.2.1, p.2.2.ev tm') := List.map_congr_left fun p hp => by
     have : p.2.2.ev tm = p.2.2.ev tm' := X.ev_congr fun t ht => h t (by simp only [AO.reads]; exact mem_readsL (List.mem_map_of_mem hp) ht)
     rw [this]
   simp only [evalO, hp]
 | bslice z m n ps =>
   have hp : (ps.map fun p => (p.1, p.2.ev tm)) = ps.map fun p => (p.1, p.2.ev tm') := List.map_congr_left fun p hp => by
     have : p.2.ev tm = p.2.ev tm' := X.ev_congr fun t ht => h t (by simp only [AO.reads]; exact mem_readsL (List.mem_map_of_mem hp) ht)
     rw [this]
   simp only [evalO, hp]
 | bslt z m n ps =>
   have hp : (ps.map fun p => (p.1, p.2.ev tm)) = ps.map fun p => (p.1, p.2.ev tm') := List.map_congr_left fun p hp => by
     have : p.2.ev tm = p.2.ev tm' := X.ev_congr fun t ht => h t (by simp only [AO.reads]; exact mem_readsL (List.mem_map_of_mem hp) ht)
     rw [this]
   simp only [evalO, hp]
 | slc n x lo hi =>
   have hx : x.ev tm = x.ev tm' := X.ev_congr fun t ht => h t (by simp [AO.reads, ht])
   have hl : lo.map (·.ev tm) = lo.map (·.ev tm') := readsO_ev fun t ht => h t (by simp [AO.reads, ht])
   have hh : hi.map (·.ev tm) = hi.map (·.ev tm') := readsO_ev fun t ht => h t (by simp [AO.reads, ht])
   simp only [evalO, hx, hl, hh]
 | sslc x lo hi =>
   have hx : x.ev tm = x.ev tm' := X.ev_congr fun t ht => h t (by simp [AO.reads, ht])
   have hl : lo.map (·.ev tm) = lo.map (·.ev tm') := readsO_ev fun t ht => h t (by simp [AO.reads, ht])
   have hh : hi.map (·.ev tm) = hi.map (·.ev tm') := readsO_ev fun t ht => h t (by simp [AO.reads, ht])
   simp only [evalO, hx, hl, hh]

theorem evalO_still {o : AO} (ho : isCore o.kind = false) {tm : Tm} {s s' : St} {d : D} (h : evalO o tm s = some (d, s')) : s' = s := by
 cases o <;> simp only [AO.kind, isCore] at ho <;> first | cases ho | skip
 all_goals
   simp only [evalO] at h
   first
     | (cases h; rfl)
     | (repeat' (split at h)) <;> first | (cases h; rfl) | cases h

theorem evalO_pure {o : AO} (ho : o.kind = .pure) {tm : Tm} {s s' : St} : (evalO o tm s).map (·.1) = (evalO o tm s').map (·.1) := by
 cases o <;> simp only [AO.kind] at ho <;> first | cases ho | skip
 all_goals
   simp only [evalO]
   first
     | rfl
     | (repeat' split) <;> rfl

def evM (ai : AI) (tm : Tm) (s : St) : Option D :=
 match ai with
 | .op _ none o => (evalO o tm s).map (·.1)
 | .op _ (some (t, want)) o =>
   match tm.get t with
   | .bool b => if b = want then (evalO o tm s).map (·.1) else some (.tuple [])
   | .tuple _ => some (.tuple [])
   | _ => none
 | _ => none

def stepC (P : Program) (ai : AI) (tm : Tm) (s : St) (d : D) (s' : St) : Prop :=
 match ai with
 | .op _ g o => guarded g tm (evalO o tm s = some (d, s')) (d = .tuple [] ∧ s' = s)
 | .call _ g f xs => guarded g tm (ACalls P f (xs.map (·.ev tm)) s fun x y => x = d ∧ y = s') (d = .tuple [] ∧ s' = s)
 | .nil .. => False

def goodP (P : Program) (is : List AI) (K : Tm → St → Prop) : List (Nat × Nat) → List St → Tm → St → Prop
 | [], _, tm, s => K tm s
 | (q, b) :: r, past, tm, s =>
   match is[q]? with
   | none => False
   | some ai =>
     match isCore ai.kind with
     | true => ∃ d s', stepC P ai tm s d s' ∧ goodP P is K r (s :: past) (tm.put ai.dst d) s'
     | false => ∃ d, evM ai tm s = some d ∧ (ai.kind = .load → ∀ s' ∈ past.take b, evM ai tm s' = some d) ∧ goodP P is K r past (tm.put ai.dst d) s

def Tm.eqv (a b : Tm) : Prop := ∀ t, a.get t = b.get t

theorem Tm.get_put (tm : Tm) (dst : Option Nat) (d : D) (t : Nat) : (tm.put dst d).get t = if dst = some t then d else tm.get t := by
 cases dst with
 | none => simp [Tm.put]
 | some u =>
   simp only [Tm.put, Tm.get_set, Option.some.injEq]
   by_cases h : t = u
   · subst h; simp
   · rw [if_neg h, if_neg (fun e => h e.symm)]

theorem Tm.eqv.put {a b : Tm} (h : a.eqv b) (dst : Option Nat) (d : D) : (a.put dst d).eqv (b.put dst d) := fun t => by
 rw [Tm.get_put, Tm.get_put, h t]

theorem Tm.put_swap (tm : Tm) {x y : Option Nat} (h : ∀ t, x = some t → y ≠ some t) (d e : D) : ((tm.put x d).put y e).eqv ((tm.put y e).put x d) := fun t => by
 simp only [Tm.get_put]
 by_cases h1 : x = some t
 · simp only [h1, h t h1, if_true, if_false]
 · simp only [h1, if_false]

theorem guarded_congr {g : Option (Nat × Bool)} {tm tm' : Tm} {A A' C : Prop} (h : ∀ t ∈ readsG g, tm.get t = tm'.get t) (ha : A → A') (hh : guarded g tm A C) : guarded g tm' A' C := by
 cases g with
 | none => exact ha hh
 | some p =>
   obtain ⟨t, want⟩ := p
   unfold guarded at *
   simp only at *
   rw [← h t (by simp [readsG])]
   split
   · rename_i b hb
     rw [hb] at hh
     exact ⟨fun e => ha (hh.1 e), hh.2⟩
   · rename_i hb
     rw [hb] at hh
     exact hh
   · rename_i x h1 h2
     split at hh
     · exact h1 _ ‹_›
     · exact h2 _ ‹_›
     · exact hh

theorem readsL_ev {tm tm' : Tm} : ∀ {l : List X}, (∀ t ∈ readsL l, tm.get t = tm'.get t) → l.map (·.ev tm) = l.map (·.ev tm')
 | [], _ => rfl
 | x :: r, h => by
   simp only [List.map_cons]
   rw [X.ev_congr fun t ht => h t (by simp [readsL, ht]), readsL_ev (l := r) fun t ht => h t (by simp [readsL, ht])]

theorem stepC_congr {P : Program} {ai : AI} {tm tm' : Tm} {s s' : St} {d : D} (h : ∀ t ∈ ai.reads, tm.get t = tm'.get t) (hh : stepC P ai tm s d s') : stepC P ai tm' s d s' := by
 cases ai with
 | op dst g o =>
   simp only [AI.reads, List.mem_append] at h
   exact guarded_congr (fun t ht => h t (.inl ht)) (fun e => by rw [← evalO_congr fun t ht => h t (.inr ht)]; exact e) hh
 | call dst g f xs =>
   simp only [AI.reads, List.mem_append] at h
   exact guarded_congr (fun t ht => h t (.inl ht)) (fun e => by rw [← readsL_ev fun t ht => h t (.inr ht)]; exact e) hh
 | nil dst g n x => exact hh

theorem evM_congr {ai : AI} {tm tm' : Tm} {s : St} (h : ∀ t ∈ ai.reads, tm.get t = tm'.get t) : evM ai tm s = evM ai tm' s := by
 cases ai with
 | op dst g o =>
   simp only [AI.reads, List.mem_append] at h
   have he := evalO_congr (s := s) fun t ht => h t (.inr ht)
   cases g with
   | none => simp only [evM, he]
   | some p =>
     obtain ⟨t, want⟩ := p
     simp only [evM, he, h t (.inl (by simp [readsG]))]
 | call dst g f xs => rfl
 | nil dst g n x => rfl

theorem kind_op {dst : Option Nat} {g : Option (Nat × Bool)} {o : AO} (h : isCore (AI.op dst g o).kind = false) : (AI.op dst g o).kind = o.kind := by
 unfold AI.kind at *
 split at h
 · cases h
 · rename_i heq; cases heq; rfl
 · cases h

theorem evM_pure {ai : AI} (hk : ai.kind = .pure) {tm : Tm} {s s' : St} : evM ai tm s = evM ai tm s' := by
 cases ai with
 | op dst g o =>
   have ho : o.kind = .pure := by rw [← hk]; exact (kind_op (by rw [hk]; rfl)).symm
   have he := evalO_pure ho (tm := tm) (s := s) (s' := s')
   cases g with
   | none => simp only [evM, he]
   | some p => simp only [evM, he]
 | call dst g f xs => rfl
 | nil dst g n x => rfl

theorem apart_spec {a q : AI} (h : a.apart q = true) : (∀ t, a.dst = some t → t ∉ q.reads) ∧ (∀ t, q.dst = some t → t ∉ a.reads) ∧ (∀ t, a.dst = some t → q.dst ≠ some t) := by
 unfold AI.apart at h
 simp only [Bool.and_eq_true] at h
 obtain ⟨⟨h1, h2⟩, h3⟩ := h
 refine ⟨fun t e => ?_, fun t e => ?_, fun t e e' => ?_⟩
 · rw [e] at h1; simpa [offDst] using h1
 · rw [e] at h2; simpa [offDst] using h2
 · rw [e, e'] at h3; simp at h3

theorem get_put_off {tm : Tm} {dst : Option Nat} {d : D} {l : List Nat} (h : ∀ t, dst = some t → t ∉ l) : ∀ t ∈ l, tm.get t = (tm.put dst d).get t := fun t ht => by
 rw [Tm.get_put, if_neg fun e => h t e ht]

section
variable {P : Program} {is : List AI} {K : Tm → St → Prop}

theorem goodP_congr (hK : ∀ tm tm' s, Tm.eqv tm tm' → K tm s → K tm' s) : ∀ (R : List (Nat × Nat)) (past : List St) (tm tm' : Tm) (s : St), tm.eqv tm' → goodP P is K R past tm s → goodP P is K R past tm' s
 | [], _, tm, tm', s, e, h => hK tm tm' s e h
 | (q, b) :: R, past, tm, tm', s, e, h => by
   unfold goodP at *
   split at h
   · exact h.elim
   · rename_i ai hai
     split at h
     · rename_i hc
       obtain ⟨d, s', h1, h2⟩ := h
       exact ⟨d, s', stepC_congr (fun t _ => e t) h1, goodP_congr hK R _ _ _ _ (e.put _ d) h2⟩
     · rename_i hc
       obtain ⟨d, h1, h2, h3⟩ := h
       refine ⟨d, ?_, fun hl s' hs' => ?_, goodP_congr hK R _ _ _ _ (e.put _ d) h3⟩
       · rw [← evM_congr fun t _ => e t]; exact h1
       · rw [← evM_congr fun t _ => e t]; exact h2 hl s' hs'

theorem coresIn_cons (i : Nat) (l : List Nat) : coresIn is (i :: l) = (if isCore (kindAt is i) then 1 else 0) + coresIn is l := by
 unfold coresIn
 rw [List.filter_cons]
 split <;> simp <;> omega

theorem goodP_front (hK : ∀ tm tm' s, Tm.eqv tm tm' → K tm s → K tm' s) {q b : Nat} {ai : AI} (hq : is[q]? = some ai) (hm : isCore ai.kind = false) (Y : List (Nat × Nat)) :
   ∀ (X : List (Nat × Nat)) (past : List St) (tm : Tm) (s : St), (∀ a ∈ X, apartAt is a.1 q = true) → (ai.kind = .load → coresIn is (X.map (·.1)) ≤ b) →
     goodP P is K (X ++ (q, b) :: Y) past tm s →
     ∃ d, evM ai tm s = some d ∧ (ai.kind = .load → ∀ s' ∈ past.take (b - coresIn is (X.map (·.1))), evM ai tm s' = some d) ∧ goodP P is K (X ++ Y) past (tm.put ai.dst d) s
 | [], past, tm, s, _, _, h => by
   simp only [List.nil_append, goodP, hq, hm] at h
   obtain ⟨d, h1, h2, h3⟩ := h
   exact ⟨d, h1, fun hl s' hs' => h2 hl s' (by simpa [coresIn] using hs'), h3⟩
 | (a, c) :: X, past, tm, s, hap, hb, h => by
   have hapa := hap (a, c) (by simp)
   unfold apartAt at hapa
   split at hapa
   · rename_i ia iq hia hiq
     rw [hq] at hiq
     cases hiq
     obtain ⟨p1, p2, p3⟩ := apart_spec hapa
     have hka : kindAt is a = ia.kind := by simp [kindAt, hia]
     have hrest : ∀ x ∈ X, apartAt is x.1 q = true := fun x hx => hap x (List.mem_cons_of_mem _ hx)
     rw [List.map_cons, coresIn_cons, hka] at hb ⊢
     simp only [List.cons_append, goodP, hia] at h ⊢
     cases hc : isCore ia.kind
     · simp only [hc, Bool.false_eq_true, if_false, Nat.zero_add] at h hb ⊢
       obtain ⟨d, h1, h2, h3⟩ := h
       obtain ⟨e, g1, g2, g3⟩ := goodP_front hK hq hm Y X past _ s hrest hb h3
       have cg : ∀ s, evM ai tm s = evM ai (tm.put ia.dst d) s := fun s => evM_congr (get_put_off p1)
       have cg' : ∀ s, evM ia tm s = evM ia (tm.put ai.dst e) s := fun s => evM_congr (get_put_off p2)
       refine ⟨e, by rw [cg]; exact g1, fun hl s' hs' => by rw [cg]; exact g2 hl s' hs', d, by rw [← cg']; exact h1, fun hl s' hs' => by rw [← cg']; exact h2 hl s' hs', ?_⟩
       exact goodP_congr hK _ _ _ _ _ (Tm.put_swap tm p3 d e) g3
     · simp only [hc, if_true] at h hb ⊢
       obtain ⟨d, s1, h1, h3⟩ := h
       obtain ⟨e, g1, g2, g3⟩ := goodP_front hK hq hm Y X (s :: past) _ s1 hrest (fun hl => by have := hb hl; omega) h3
       have cg : ∀ s, evM ai tm s = evM ai (tm.put ia.dst d) s := fun s => evM_congr (get_put_off p1)
       have hsame : evM ai tm s = some e := by
         cases hk : ai.kind with
         | pure => rw [cg, evM_pure hk (s' := s1)]; exact g1
         | load =>
           have := hb hk
           rw [cg]
           refine g2 hk s ?_
           rw [show b - coresIn is (X.map (·.1)) = (b - (1 + coresIn is (X.map (·.1)))) + 1 by omega, List.take_succ_cons]
           exact List.mem_cons_self
         | alloc => rw [hk] at hm; cases hm
         | core => rw [hk] at hm; cases hm
       refine ⟨e, hsame, fun hl s' hs' => ?_, d, s1, stepC_congr (get_put_off p2) h1, goodP_congr hK _ _ _ _ _ (Tm.put_swap tm p3 d e) g3⟩
       have := hb hl
       rw [cg]
       refine g2 hl s' ?_
       rw [show b - coresIn is (X.map (·.1)) = (b - (1 + coresIn is (X.map (·.1)))) + 1 by omega, List.take_succ_cons]
       exact List.mem_cons_of_mem _ hs'
   · cases hapa

end
end Go.Abs

/-! Par1 -/

namespace Go.Abs

section
variable {P : Program}

theorem cOp_alloc {o : Oper} {z : List D} (h : cOp P o = some (.alloc z)) : ∃ t, o.op = .alloc t ∧ zeroOf P t = some z := by
 obtain ⟨dst, op, type, pos, after, guard⟩ := o
 unfold cOp at h
 simp only at h
 split at h
 case h_4 t =>
   split at h
   · obtain ⟨z', h1, h2⟩ := map_some h; cases h2
   · obtain ⟨z', h1, h2⟩ := map_some h; cases h2; exact ⟨t, rfl, h1⟩
 all_goals
   first
     | (rw [Option.map_eq_some_iff] at h; obtain ⟨_, _, h⟩ := h; cases h)
     | skip
 all_goals
   (repeat' (split at h)) <;> first | (cases h; done) | (rw [Option.map_eq_some_iff] at h; obtain ⟨_, _, h⟩ := h; cases h)

theorem cI_inv {nt : Nat} {ops : Array Oper} {o : Oper} {ai : AI} (h : cI P nt ops o = some ai) :
   ∃ g, cGuard ops o.guard = some g ∧ (∀ t, o.dst = some t → t < nt) ∧ cBody P ops o g = some ai := by
 have h2 := cI_dst h
 unfold cI at h
 split at h
 · cases h
 · rename_i g hg
   split at h
   · exact ⟨g, hg, h2, h⟩
   · cases h

theorem cBody_dst {ops : Array Oper} {o : Oper} {g : Option (Nat × Bool)} {ai : AI} (h : cBody P ops o g = some ai) : ai.dst = o.dst := by
 unfold cBody at h
 split at h
 · split at h
   · obtain ⟨xs, _, rfl⟩ := map_some h; rfl
   · cases h
 · split at h
   · cases h; rfl
   · split at h
     · cases h; rfl
     · cases h; rfl
     · cases h

theorem cI_dst_eq {nt : Nat} {ops : Array Oper} {o : Oper} {ai : AI} (h : cI P nt ops o = some ai) : ai.dst = o.dst := by
 obtain ⟨g, _, _, h⟩ := cI_inv h
 exact cBody_dst h

theorem stepI_sound {nt : Nat} {ops : Array Oper} {i : Nat} {o : Oper} {ai : AI} (hi : ops[i]? = some o) (hc : cI P nt ops o = some ai)
   {M : Map} {s : St} {w : World} {tm : Tm} {act : Act} (r : Rel M s w) (hlaid : Laid M s w) (ht : RTm M s tm act.tmps) {K' : Tm → St → Prop} (h : vcI P [ai] K' tm s)
   {K : Act → World → Prop} {Q : Exit → Act → World → Prop}
   (hK : ∀ d v s1 w1 M1, K' (tm.put ai.dst d) s1 → Ext M s w M1 s1 w1 → Rel M1 s1 w1 → RD M1 s1 d v → K (act.put o.dst v) w1) : wpOp P ops Q i K act w := by
 obtain ⟨g, hg, _, hb⟩ := cI_inv hc
 rw [cBody_dst hb] at hK
 simp only [wpOp, hi]
 have skip : K' (tm.put o.dst (.tuple [])) s → K (act.put o.dst Go.undef) w := fun hk => hK _ _ _ _ _ hk (Ext.refl M s w) r .undef
 unfold cBody at hb
 split at hb
 · rename_i f args ats hop
   split at hb
   · rename_i hent
     obtain ⟨xs, hxs, rfl⟩ := map_some hb
     simp only [vcI] at h
     rcases guard_sound hg ht h with ⟨hw, hA⟩ | ⟨hw, hB⟩
     · simp only [hw, if_true]
       left
       have hex : (execOp act.eval o).run P w = .ok (.enter f (args.map act.eval)) w := by
         obtain ⟨dst, op, type, pos, after, guard⟩ := o
         simp only at hop
         subst hop
         exact execOp_call act.eval dst f args ats type pos after guard rfl hent w
       obtain ⟨c1, c2⟩ := cXs_sound ht hxs
       unfold Oper.wp
       rw [hex, Oper.upon_enter]
       refine (hA M w (args.map act.eval) r hlaid (by simp [c1]) (fun i d v e1 e2 => c2 i d v e1 (by simpa using e2))).mono ?_
       rintro en w' ⟨M', d, v, s', rfl, hk, e', r', hv⟩
       exact hK _ _ _ _ _ hk e' r' hv
     · simp only [hw]
       exact skip hB
   · cases hb
 · split at hb
   · rename_i neg x hnil
     cases hb
     simp only [vcI] at h
     rcases guard_sound hg ht h with ⟨hw, hA⟩ | ⟨hw, hB⟩
     · simp only [hw, if_true]
       left
       split at hA
       · rename_i g' z rows hx
         obtain ⟨b, hb, hex⟩ := nilTest_sound (w := w) hnil ht hx
         unfold Oper.wp
         rw [hex, Oper.upon_value]
         exact hK _ _ _ _ _ (hA b hb) (Ext.refl M s w) r (.bool _)
       · exact hA.elim
     · simp only [hw]
       exact skip hB
   · have fin : ∀ ao, ai = .op o.dst g ao → (∀ d s', evalO ao tm s = some (d, s') → Does P M s w (execOp act.eval o) d s') →
         (if Region.wanted o (yielded ops act.tmps) = true then o.wp P act w K Q ∨ (o.asks P act w ∧ LetsOut Q) else K (act.put o.dst Go.undef) w) := by
       intro ao hai hdo
       subst hai
       simp only [vcI] at h
       rcases guard_sound hg ht h with ⟨hw, hA⟩ | ⟨hw, hB⟩
       · simp only [hw, if_true]
         left
         split at hA
         · rename_i d s' hev
           obtain ⟨v, w', M', hrun, r', hv, e'⟩ := hdo d s' hev
           unfold Oper.wp
           rcases hrun with hrun | ⟨hrun, rfl⟩
           · rw [hrun, Oper.upon_value]
             exact hK _ _ _ _ _ hA e' r' hv
           · rw [hrun, Oper.upon_skip]
             exact hK _ _ _ _ _ hA e' r' hv
         · exact hA.elim
       · simp only [hw]
         exact skip hB
     split at hb
     · rename_i z k n ps hco
       cases hb
       refine fin _ rfl (fun d s' hev => ?_)
       split at hev
       · exact evalO_bslt hco r ht hev
       · exact evalO_sound hco r ht hev
     · rename_i ao hco
       cases hb
       exact fin _ rfl (fun d s' hev => evalO_sound hco r ht hev)
     · cases hb

/-! ### Early allocations -/

structure Unk (M : Map) (s : St) (b : Nat) : Prop where
 o : ∀ o, o < s.objs.length → M.mu o ≠ b
 t : ∀ t c z, s.live t → M.be t ≠ some (b, c, z)
 g : ∀ off, M.G b off = none

theorem Unk.mono {M M' : Map} {s s' : St} {w w' : World} {b : Nat} (h : Unk M s b) (e : Ext M s w M' s' w') (hb : b < w.heap.size) : Unk M' s' b := by
 refine ⟨fun o ho => ?_, fun t c z hl he => ?_, fun off => ?_⟩
 · rcases Nat.lt_or_ge o s.objs.length with h1 | h1
   · rw [e.le.mu o h1]; exact h.o o h1
   · have := e.newO o h1 ho; omega
 · rcases e.newT t b c z hl he with ⟨h1, c', z', h2⟩ | h1
   · exact h.t t c' z' h1 h2
   · omega
 · by_cases hg : M'.G b off = M.G b off
   · rw [hg]; exact h.g off
   · rcases e.newG b off hg with h1 | ⟨t, c, z, h1, h2⟩
     · omega
     · exact (h.t t c z h1 h2).elim

theorem Rel.idle {M : Map} {s : St} {w : World} (r : Rel M s w) (x : Obj) : Rel M s (w.alloc x) ∧ Ext M s w M s (w.alloc x) ∧ Unk M s w.heap.size := by
 refine ⟨⟨fun b o v e => ?_, fun o ds e => ?_, r.objG, r.inj, fun t n e => ?_, r.tokObj, r.tokInj⟩, ?_, ⟨fun o ho => ?_, fun t c z hl e => ?_, fun off => r.G_new (Nat.le_refl _) off⟩⟩
 · obtain ⟨h3, h4⟩ := r.comm b o v e
   refine ⟨?_, h4⟩
   rw [World.cell?_alloc_lt]
   · exact h3
   · exact r.G_lt e
 · obtain ⟨vs, T, h3, h4, h5, h6⟩ := r.obj o ds e
   exact ⟨vs, T, by rw [heap_alloc_old w _ _ (lt_of_heap h3)]; exact h3, h4, h5, h6⟩
 · rcases r.tok t n e with h3 | ⟨b, cap, size, vs', T', h3, h4, h5⟩
   · exact .inl h3
   · exact .inr ⟨b, cap, size, vs', T', h3, by rw [heap_alloc_old w _ _ (lt_of_heap h4)]; exact h4, h5⟩
 · exact ⟨Le.refl M s, fun b hb _ _ => heap_alloc_old w _ b hb, fun o h3 h4 => by omega, fun t b c z h e => .inl ⟨h, c, z, e⟩, fun _ _ h => (h rfl).elim, by simp, rfl, rfl, rfl⟩
 · have := r.mu_lt ho; omega
 · have := r.be_lt hl e; omega

theorem Rel.adopt {M : Map} {s : St} {w : World} (r : Rel M s w) {B : Base} (e : Ext B.M B.s B.w M s w) {b : Nat} (u : Unk M s b) (hb : B.w.heap.size ≤ b)
   (ds : List D) (vs : Array Value) (T : TypeId) (hh : w.heap[b]? = some (.cells vs T (0, 0))) (hl : vs.size = ds.length) (h1 : ∀ v ∈ vs, v.oneCell' = true)
   (h2 : ∀ (i : Nat) (d : D) (v : Value), ds[i]? = some d → vs[i]? = some v → RD M s d v) :
   Rel (M.pushO s.objs.length b) { s with objs := s.objs ++ [ds] } w ∧ Ext B.M B.s B.w (M.pushO s.objs.length b) { s with objs := s.objs ++ [ds] } w ∧
   Le M s (M.pushO s.objs.length b) { s with objs := s.objs ++ [ds] } := by
 have le := le_pushO (M := M) s b ds
 have hmu : ∀ o, o < s.objs.length → (M.pushO s.objs.length b).mu o = M.mu o := le.mu
 have hnew : (M.pushO s.objs.length b).mu s.objs.length = b := by simp [Map.pushO, Map.mu]
 refine ⟨⟨r.comm, fun o ds' e' => ?_, fun o ho off => ?_, fun o o' ho ho' e' => ?_, r.tok, fun t b' c z o hl e' ho => ?_, r.tokInj⟩, ?_, le⟩
 · rcases Nat.lt_or_ge o s.objs.length with ho | ho
   · rw [List.getElem?_append_left ho] at e'
     obtain ⟨vs', T', h3, h4, h5, h6⟩ := r.obj o ds' e'
     refine ⟨vs', T', ?_, h4, ⟨h5.1, by rw [le.ty o ho]; exact h5.2⟩, fun i d v e1 e2 => (h6 i d v e1 e2).mono le⟩
     rw [hmu o ho]; exact h3
   · rw [List.getElem?_append_right ho] at e'
     have : o = s.objs.length := by
       have := (List.getElem?_eq_some_iff.1 e').1
       simp at this; omega
     subst this
     simp at e'; subst e'
     refine ⟨vs, T, ?_, hl, ⟨h1, fun T' h => by simp [Map.pushO, Map.ty] at h⟩, fun i d v e1 e2 => (h2 i d v e1 e2).mono le⟩
     rw [hnew]; exact hh
 · simp at ho
   rcases Nat.lt_or_ge o s.objs.length with h3 | h3
   · rw [hmu o h3]; exact r.objG o h3 off
   · have : o = s.objs.length := by omega
     subst this
     rw [hnew]; exact u.g off
 · simp at ho ho'
   rcases Nat.lt_or_ge o s.objs.length with h3 | h3 <;> rcases Nat.lt_or_ge o' s.objs.length with h4 | h4
   · rw [hmu o h3, hmu o' h4] at e'; exact r.inj o o' h3 h4 e'
   · have : o' = s.objs.length := by omega
     subst this
     rw [hmu o h3, hnew] at e'
     exact (u.o o h3 e').elim
   · have : o = s.objs.length := by omega
     subst this
     rw [hmu o' h4, hnew] at e'
     exact (u.o o' h4 e'.symm).elim
   · omega
 · simp at ho
   rcases Nat.lt_or_ge o s.objs.length with h3 | h3
   · rw [hmu o h3]; exact r.tokObj t b' c z o hl e' h3
   · have : o = s.objs.length := by omega
     subst this
     rw [hnew]
     intro he
     subst he
     exact u.t t c z hl e'
 · refine ⟨e.le.trans le, e.kept, fun o h3 h4 => ?_, e.newT, e.newG, e.size, e.os, e.tape, e.output⟩
   simp at h4
   rcases Nat.lt_or_ge o s.objs.length with h5 | h5
   · rw [hmu o h5]; exact e.newO o h3 h5
   · have : o = s.objs.length := by omega
     subst this
     rw [hnew]; exact hb

theorem alloc_early {nt : Nat} {ops : Array Oper} {i : Nat} {o : Oper} {t : Nat} {z : List D} (hi : ops[i]? = some o) (hc : cI P nt ops o = some (.op (some t) none (.alloc z)))
   {w : World} {act : Act} {K : Act → World → Prop} {Q : Exit → Act → World → Prop}
   (hK : ∀ vs T, vs.size = z.length → (∀ v ∈ vs, v.oneCell' = true) → (∀ (M : Map) (s : St) (i : Nat) (d : D) (v : Value), z[i]? = some d → vs[i]? = some v → RD M s d v) →
     K (act.put (some t) (.pointer (some ⟨w.heap.size, 0, none⟩))) (w.alloc (.cells vs T))) : wpOp P ops Q i K act w := by
 obtain ⟨g, hg, _, hb⟩ := cI_inv hc
 have hdst := cBody_dst hb
 simp only [AI.dst] at hdst
 simp only [wpOp, hi]
 have hop : g = none ∧ cOp P o = some (.alloc z) := by
   unfold cBody at hb
   split at hb
   · split at hb
     · obtain ⟨xs, _, h⟩ := map_some hb; cases h
     · cases hb
   · split at hb
     · cases hb
     · split at hb
       · rename_i hco
         simp only [Option.some.injEq, AI.op.injEq] at hb
         obtain ⟨_, _, h⟩ := hb
         split at h <;> cases h
       · rename_i ao hco
         simp only [Option.some.injEq, AI.op.injEq] at hb
         obtain ⟨_, h1, h2⟩ := hb
         subst h2
         exact ⟨h1, hco⟩
       · cases hb
 obtain ⟨rfl, hco⟩ := hop
 obtain ⟨T, hT, hz⟩ := cOp_alloc hco
 have hw : Region.wanted o (yielded ops act.tmps) = true := by
   have : o.guard = none := by
     cases hgd : o.guard with
     | none => rfl
     | some p =>
       obtain ⟨j, b⟩ := p
       rw [hgd] at hg
       unfold cGuard at hg
       simp only at hg
       split at hg <;> cases hg
   simp [Region.wanted, this]
 simp only [hw, if_true]
 left
 unfold zeroOf at hz
 split at hz
 · rename_i inf hinf
   split at hz
   · rename_i v hv
     split at hz
     · have hrun : (execOp act.eval o).run P w = .ok (.value (.pointer (some ⟨w.heap.size, 0, none⟩))) (w.alloc (.cells v.cells T)) := by
         obtain ⟨dst, op, type, pos, after, guard⟩ := o
         simp only at hT
         subst hT
         simp [execOp, Instr.alloc, zeroValue, info_run P hinf, hv, newVar, newRow]
       have h3 := fun M s => litCells_sound (M := M) (s := s) hz
       obtain ⟨h1, h2, _⟩ := h3 ⟨fun _ _ => none, fun _ => (0, none), fun _ => none⟩ ⟨[], []⟩
       unfold Oper.wp
       rw [hrun, Oper.upon_value, ← hdst]
       exact hK _ _ (by rw [h1]; simp) (fun u hu => h2 u (by simpa using hu)) (fun M s i d u e1 e2 => (h3 M s).2.2 i d u e1 (by simpa using e2))
     · cases hz
   · cases hz
 · cases hz

end
end Go.Abs

/-! Par2 -/

namespace Go.Abs

/-! ### The plan's plain side -/

section
variable {is : List AI} {af pt : List (List Nat)}

theorem behindAll_sub {pq : List Nat} {l l' : List Nat} (h : l'.Sublist l) (hb : behindAll is pq l = true) : behindAll is pq l' = true := by
 induction h with
 | slnil => rfl
 | cons a h ih =>
   simp only [behindAll, Bool.and_eq_true] at hb
   exact ih hb.2
 | cons_cons a h ih =>
   simp only [behindAll, Bool.and_eq_true, Bool.or_eq_true] at hb ⊢
   refine ⟨hb.1.imp id fun h1 => ?_, ih hb.2⟩
   rw [List.all_eq_true] at h1 ⊢
   exact fun x hx => h1 x (h.subset hx)

theorem all_sub {f : Nat → Bool} {l l' : List Nat} (h : l'.Sublist l) (ha : l.all f = true) : l'.all f = true := by
 rw [List.all_eq_true] at ha ⊢
 exact fun x hx => ha x (h.subset hx)

theorem coresIn_sub {l l' : List Nat} (h : l'.Sublist l) : coresIn is l' ≤ coresIn is l := (h.filter _).length_le

theorem stepOk_sub {pre pre' : List Nat} {q b : Nat} (h : pre'.Sublist pre) (hs : stepOk is pt pre q b = true) : stepOk is pt pre' q b = true := by
 unfold stepOk at *
 split at hs
 · exact all_sub h hs
 · exact all_sub h hs
 · simp only [Bool.and_eq_true] at hs ⊢
   exact ⟨all_sub h hs.1, behindAll_sub h hs.2⟩
 · simp only [Bool.and_eq_true, decide_eq_true_eq] at hs ⊢
   exact ⟨⟨all_sub h hs.1.1, behindAll_sub h hs.1.2⟩, Nat.le_trans (coresIn_sub (h.filter _)) hs.2⟩

theorem okR_mono : ∀ {R : List (Nat × Nat)} {pre pre' : List Nat}, pre'.Sublist pre → okR is af pt pre R = true → okR is af pt pre' R = true
 | [], _, _, _, _ => rfl
 | (q, b) :: R, pre, pre', h, ho => by
   simp only [okR, Bool.and_eq_true, Bool.not_eq_true'] at ho ⊢
   obtain ⟨⟨⟨h1, h2⟩, h3⟩, h4⟩ := ho
   refine ⟨⟨⟨stepOk_sub h h1, ?_⟩, h3⟩, okR_mono (h.cons_cons q) h4⟩
   rw [← Bool.not_eq_true, List.contains_iff_mem] at h2 ⊢
   exact fun hm => h2 (h.subset hm)

theorem okR_del : ∀ {X : List (Nat × Nat)} {e : Nat × Nat} {Y : List (Nat × Nat)} {pre : List Nat}, okR is af pt pre (X ++ e :: Y) = true → okR is af pt pre (X ++ Y) = true
 | [], (q, b), Y, pre, h => by
   simp only [List.nil_append, okR, Bool.and_eq_true] at h
   exact okR_mono (List.sublist_cons_self q pre) h.2
 | (a, c) :: X, e, Y, pre, h => by
   simp only [List.cons_append, okR, Bool.and_eq_true] at h ⊢
   obtain ⟨⟨⟨h1, h2⟩, h3⟩, h4⟩ := h
   refine ⟨⟨⟨h1, h2⟩, ?_⟩, okR_del h4⟩
   rw [List.all_eq_true] at h3 ⊢
   intro j hj
   have := h3 j hj
   simp only [Bool.and_eq_true, Bool.not_eq_true'] at this ⊢
   refine ⟨this.1, ?_⟩
   have h5 := this.2
   rw [← Bool.not_eq_true, List.contains_iff_mem] at h5 ⊢
   refine fun hm => h5 ?_
   simp only [List.map_append, List.map_cons, List.mem_append, List.mem_cons] at hm ⊢
   exact hm.imp id .inr

theorem okR_split : ∀ {X : List (Nat × Nat)} {q b : Nat} {Y : List (Nat × Nat)} {pre : List Nat}, okR is af pt pre (X ++ (q, b) :: Y) = true →
   stepOk is pt ((X.map (·.1)).reverse ++ pre) q b = true ∧ q ∉ X.map (·.1) ∧ q ∉ pre ∧ (∀ j ∈ nthL af q, j ≠ q ∧ j ∉ Y.map (·.1)) ∧ okR is af pt (q :: ((X.map (·.1)).reverse ++ pre)) Y = true
 | [], q, b, Y, pre, h => by
   simp only [List.nil_append, okR, Bool.and_eq_true, Bool.not_eq_true'] at h
   obtain ⟨⟨⟨h1, h2⟩, h3⟩, h4⟩ := h
   rw [← Bool.not_eq_true, List.contains_iff_mem] at h2
   refine ⟨h1, by simp, h2, fun j hj => ?_, h4⟩
   rw [List.all_eq_true] at h3
   have := h3 j hj
   simp only [Bool.and_eq_true, bne_iff_ne, Bool.not_eq_true', ← Bool.not_eq_true, List.contains_iff_mem] at this
   exact this
 | (a, c) :: X, q, b, Y, pre, h => by
   simp only [List.cons_append, okR, Bool.and_eq_true] at h
   obtain ⟨_, h4⟩ := h
   obtain ⟨g1, g2, g3, g4, g5⟩ := okR_split h4
   simp only [List.map_cons, List.reverse_cons, List.append_assoc, List.singleton_append]
   refine ⟨g1, ?_, fun h => g3 (List.mem_cons_of_mem _ h), g4, g5⟩
   intro hm
   rcases List.mem_cons.1 hm with rfl | hm
   · exact g3 (by simp)
   · exact g2 hm

theorem okR_off : ∀ {Y : List (Nat × Nat)} {pre : List Nat}, okR is af pt pre Y = true → ∀ x ∈ Y, x.1 ∉ pre ∧ (kindAt is x.1 = .alloc → ∀ a ∈ pre, apartAt is a x.1 = true)
 | [], _, _, x, hx => by cases hx
 | (q, b) :: Y, pre, h, x, hx => by
   simp only [okR, Bool.and_eq_true, Bool.not_eq_true'] at h
   obtain ⟨⟨⟨h1, h2⟩, _⟩, h4⟩ := h
   rw [← Bool.not_eq_true, List.contains_iff_mem] at h2
   rcases List.mem_cons.1 hx with rfl | hx
   · refine ⟨h2, fun hk a ha => ?_⟩
     unfold stepOk at h1
     simp only [hk] at h1
     rw [List.all_eq_true] at h1
     exact h1 a ha
   · obtain ⟨g1, g2⟩ := okR_off h4 x hx
     exact ⟨fun h => g1 (List.mem_cons_of_mem _ h), fun hk a ha => g2 hk a (List.mem_cons_of_mem _ ha)⟩

theorem depsOk_spec : ∀ {n : Nat}, depsOk af pt n = true → ∀ i, i < n → ∀ j ∈ nthL pt i, j ∈ nthL af i ∨ ∃ k ∈ nthL af i, j ∈ nthL pt k
 | 0, _, i, hi => by omega
 | n + 1, h, i, hi => by
   simp only [depsOk, Bool.and_eq_true] at h
   rcases Nat.lt_or_ge i n with h1 | h1
   · exact depsOk_spec h.2 i h1
   · have : i = n := by omega
     subst this
     intro j hj
     have := h.1
     rw [List.all_eq_true] at this
     have := this j hj
     simp only [Bool.or_eq_true, List.contains_iff_mem, List.any_eq_true] at this
     exact this

theorem behindAll_spec {pq : List Nat} : ∀ {l : List Nat}, behindAll is pq l = true → ∀ (x : Nat) (l1 l2 : List Nat), l = l1 ++ x :: l2 → kindAt is x = .alloc → x ∈ pq → ∀ y ∈ l2, y ∈ pq
 | [], _, x, l1, l2, h => by simp at h
 | a :: l, hb, x, l1, l2, h => by
   simp only [behindAll, Bool.and_eq_true, Bool.or_eq_true, Bool.not_eq_true', Bool.and_eq_false_iff] at hb
   intro hk hx y hy
   cases l1 with
   | nil =>
     simp only [List.nil_append, List.cons.injEq] at h
     obtain ⟨rfl, rfl⟩ := h
     rcases hb.1 with h1 | h1
     · rcases h1 with h1 | h1
       · simp [hk] at h1
       · rw [← Bool.not_eq_true, List.contains_iff_mem] at h1
         exact (h1 hx).elim
     · rw [List.all_eq_true] at h1
       have := h1 y hy
       rwa [List.contains_iff_mem] at this
   | cons b l1 =>
     simp only [List.cons_append, List.cons.injEq] at h
     exact behindAll_spec hb.2 x l1 l2 h.2 hk hx y hy
end

/-! ### Reckoning one by one -/

structure Pd where
 q : Nat
 t : Nat
 z : List D
 b : Nat

structure PdOk (is : List AI) (R : List (Nat × Nat)) (B : Base) (M : Map) (s : St) (act : Act) (w : World) (p : Pd) : Prop where
 mem : p.q ∈ R.map (·.1)
 ai : is[p.q]? = some (.op (some p.t) none (.alloc p.z))
 cells : ∃ (vs : Array Value) (T : TypeId), w.heap[p.b]? = some (.cells vs T (0, 0)) ∧ vs.size = p.z.length ∧ (∀ v ∈ vs, v.oneCell' = true) ∧
   ∀ (M : Map) (s : St) (i : Nat) (d : D) (v : Value), p.z[i]? = some d → vs[i]? = some v → RD M s d v
 unk : Unk M s p.b
 base : B.w.heap.size ≤ p.b
 slot : act.tmps.getD p.t Go.undef = .pointer (some ⟨p.b, 0, none⟩)

def RInv (P : Program) (is : List AI) (K : Tm → St → Prop) (B : Base) (nt : Nat) (R : List (Nat × Nat)) (pend : List Pd) (act : Act) (w : World) : Prop :=
 ∃ (M : Map) (s : St) (tm tmJ : Tm) (past : List St), Ext B.M B.s B.w M s w ∧ Rel M s w ∧ RTm M s tmJ act.tmps ∧ (∀ t, (∀ p ∈ pend, p.t ≠ t) → tmJ.get t = tm.get t) ∧
   act.tmps.size = nt ∧ act.defers = [] ∧ goodP P is K R past tm s ∧ (∀ p ∈ pend, PdOk is R B M s act w p) ∧
   (∀ p ∈ pend, ∀ p' ∈ pend, p.q = p'.q ∨ p.t = p'.t ∨ p.b = p'.b → p = p')

structure SInv (is : List AI) (af pt : List (List Nat)) (listed : Array Bool) (R : List (Nat × Nat)) (pend : List Pd) : Prop where
 ok : okR is af pt [] R = true
 lst : ∀ i, i < is.length → (listed.getD i false = true ↔ (i ∉ R.map (·.1) ∨ ∃ p ∈ pend, p.q = i))
 cl : ∀ i, i < is.length → listed.getD i false = true → ∀ j ∈ nthL pt i, listed.getD j false = true
 size : listed.size = is.length
 lt : ∀ x ∈ R, x.1 < is.length

section
variable {P : Program} {is : List AI} {af pt : List (List Nat)} {K : Tm → St → Prop} {B : Base} {nt : Nat}

theorem absorb {listed : Array Bool} {q b : Nat} {R : List (Nat × Nat)} {pend : List Pd} {act : Act} {w : World} (hs : SInv is af pt listed ((q, b) :: R) pend) (h : RInv P is K B nt ((q, b) :: R) pend act w)
   {p : Pd} (hp : p ∈ pend) (hpq : p.q = q) :
   SInv is af pt listed R (pend.filter fun p' => decide (p'.q ≠ q)) ∧ RInv P is K B nt R (pend.filter fun p' => decide (p'.q ≠ q)) act w := by
 have hmem : ∀ p', p' ∈ (pend.filter fun p' => decide (p'.q ≠ q)) ↔ p' ∈ pend ∧ p'.q ≠ q := fun p' => by simp
 constructor
 · have hok := hs.ok
   have hoff := okR_split (X := []) hok
   refine ⟨okR_del (X := []) hok, fun i hi => ?_, hs.cl, hs.size, fun x hx => hs.lt x (List.mem_cons_of_mem _ hx)⟩
   rw [hs.lst i hi]
   simp only [List.map_cons, List.mem_cons, not_or]
   have hqR : q ∉ R.map (·.1) := fun hm => by
     obtain ⟨x, hx, rfl⟩ := List.mem_map.1 hm
     exact (okR_off hoff.2.2.2.2 x hx).1 (by simp)
   constructor
   · rintro (⟨h1, h2⟩ | ⟨p', h1, h2⟩)
     · exact .inl h2
     · by_cases hq : i = q
       · subst hq; exact .inl hqR
       · exact .inr ⟨p', (hmem p').2 ⟨h1, by rw [h2]; exact hq⟩, h2⟩
   · rintro (h1 | ⟨p', h1, h2⟩)
     · by_cases hq : i = q
       · subst hq; exact .inr ⟨p, hp, hpq⟩
       · exact .inl ⟨hq, h1⟩
     · exact .inr ⟨p', ((hmem p').1 h1).1, h2⟩
 · obtain ⟨M, s, tm, tmJ, past, e, r, ht, hsame, hn, hd, hg, hpd, hdist⟩ := h
   have hk := hpd p hp
   obtain ⟨vs, T, hh, hl, h1, h2⟩ := hk.cells
   have hai := hk.ai
   rw [hpq] at hai
   simp only [goodP, hai, AI.kind, isCore] at hg
   obtain ⟨d, s', hst, hg⟩ := hg
   have hev : evalO (.alloc p.z) tm s = some (d, s') := hst
   simp only [evalO, Option.some.injEq, Prod.mk.injEq] at hev
   obtain ⟨rfl, rfl⟩ := hev
   obtain ⟨r', e', le⟩ := r.adopt e hk.unk hk.base p.z vs T hh hl h1 (h2 M s)
   refine ⟨_, _, _, tmJ.put (some p.t) (.ptr s.objs.length 0), _, e', r', fun u => ?_, fun t htn => ?_, hn, hd, hg, fun p' hp' => ?_, fun p1 h1 p2 h2 => hdist p1 ((hmem p1).1 h1).1 p2 ((hmem p2).1 h2).1⟩
   · rw [Tm.get_put]
     split
     · rename_i heq
       cases heq
       rw [hk.slot]
       have : (M.pushO s.objs.length p.b).mu s.objs.length = p.b := by simp [Map.pushO, Map.mu]
       have h5 := RD.ptr (M := M.pushO s.objs.length p.b) (s := { s with objs := s.objs ++ [p.z] }) s.objs.length 0 (by simp)
       rw [this] at h5
       exact h5
     · exact (ht u).mono le
   · simp only [AI.dst]
     rw [Tm.get_put, Tm.get_put]
     split
     · rfl
     · rename_i hne
       refine hsame t fun p' hp' => ?_
       by_cases hq : p'.q = q
       · have := hdist p' hp' p hp (.inl (hq.trans hpq.symm))
         subst this
         exact fun h => hne (by rw [h])
       · exact htn p' ((hmem p').2 ⟨hp', hq⟩)
   · obtain ⟨hp1, hp2⟩ := (hmem p').1 hp'
     have hk' := hpd p' hp1
     refine ⟨?_, hk'.ai, hk'.cells, ⟨fun o ho => ?_, hk'.unk.t, hk'.unk.g⟩, hk'.base, hk'.slot⟩
     · have := hk'.mem
       simp only [List.map_cons, List.mem_cons] at this
       exact this.resolve_left hp2
     · simp at ho
       rcases Nat.lt_or_ge o s.objs.length with h5 | h5
       · rw [le.mu o h5]; exact hk'.unk.o o h5
       · have : o = s.objs.length := by omega
         subst this
         have : (M.pushO s.objs.length p.b).mu s.objs.length = p.b := by simp [Map.pushO, Map.mu]
         rw [this]
         intro hb
         have := hdist p hp p' hp1 (.inr (.inr hb))
         subst this
         exact hp2 hpq

theorem norm {listed : Array Bool} {act : Act} {w : World} : ∀ (R : List (Nat × Nat)) (pend : List Pd), SInv is af pt listed R pend → RInv P is K B nt R pend act w →
   ∃ R' pend', SInv is af pt listed R' pend' ∧ RInv P is K B nt R' pend' act w ∧ ∀ x l, R' = x :: l → ∀ p ∈ pend', p.q ≠ x.1
 | [], pend, hs, h => ⟨[], pend, hs, h, fun _ _ he => by cases he⟩
 | (q, b) :: R, pend, hs, h => by
   by_cases hp : ∃ p ∈ pend, p.q = q
   · obtain ⟨p, hp, hpq⟩ := hp
     obtain ⟨h1, h2⟩ := absorb hs h hp hpq
     exact norm R _ h1 h2
   · refine ⟨(q, b) :: R, pend, hs, h, fun x l he p hpm hpq => hp ⟨p, hpm, ?_⟩⟩
     cases he
     exact hpq

theorem exec1 {ops : Array Oper} {q : Nat} {o : Oper} {ai : AI} (hi : ops[q]? = some o) (hc : cI P nt ops o = some ai) {R R' : List (Nat × Nat)} {pend : List Pd} {act : Act} {w : World} {M : Map} {s s1 : St} {tm tmJ : Tm} {d : D} {past' : List St}
   (e : Ext B.M B.s B.w M s w) (r : Rel M s w) (ht : RTm M s tmJ act.tmps) (hsame : ∀ t, (∀ p ∈ pend, p.t ≠ t) → tmJ.get t = tm.get t) (hn : act.tmps.size = nt) (hd : act.defers = [])
   (hpd : ∀ p ∈ pend, PdOk is R B M s act w p) (hdist : ∀ p ∈ pend, ∀ p' ∈ pend, p.q = p'.q ∨ p.t = p'.t ∨ p.b = p'.b → p = p')
   (hv : vcI P [ai] (fun a b => a = tmJ.put ai.dst d ∧ b = s1) tmJ s) (hg : goodP P is K R' past' (tm.put ai.dst d) s1)
   (hmem : ∀ p ∈ pend, p.q ∈ R'.map (·.1)) (hdst : ∀ p ∈ pend, ai.dst ≠ some p.t) {Q : Exit → Act → World → Prop} :
   wpOp P ops Q q (RInv P is K B nt R' pend) act w := by
 refine stepI_sound hi hc r (B.laid.ext e) ht hv fun d' v s2 w1 M1 hk e1 r1 hrd => ?_
 obtain ⟨hk1, rfl⟩ := hk
 have hde := cI_dst_eq hc
 have hH : ∀ t, o.dst = some t → t < act.tmps.size := fun t h => by rw [hn]; exact cI_dst hc t h
 refine ⟨M1, s2, tm.put ai.dst d, tmJ.put ai.dst d, past', e.trans e1, r1, ?_, fun t htn => ?_, ?_, ?_, hg, fun p hp => ?_, hdist⟩
 · rw [← hk1, hde]
   exact (ht.mono e1.le).put hH hrd
 · rw [Tm.get_put, Tm.get_put, hsame t htn]
 · cases ho : o.dst <;> simp [Act.put, hn]
 · cases ho : o.dst <;> simp [Act.put, hd]
 · have hk := hpd p hp
   obtain ⟨vs, T, hh, hl, h1, h2⟩ := hk.cells
   have hb := lt_of_heap hh
   refine ⟨hmem p hp, hk.ai, ⟨vs, T, by rw [e1.kept p.b hb hk.unk.o hk.unk.t]; exact hh, hl, h1, h2⟩, hk.unk.mono e1 hb, hk.base, ?_⟩
   rw [← hk.slot]
   have := hdst p hp
   rw [hde] at this
   cases ho : o.dst with
   | none => rfl
   | some t =>
     rw [ho] at this
     have hne : t ≠ p.t := fun h => this (by rw [h])
     simp [Act.put, Array.getElem?_setIfInBounds_ne hne]

theorem vcI_of_evM {ai : AI} (hm : isCore ai.kind = false) {tm : Tm} {s : St} {d : D} (h : evM ai tm s = some d) : vcI P [ai] (fun a b => a = tm.put ai.dst d ∧ b = s) tm s := by
 cases ai with
 | op dst g o =>
   have hko := kind_op hm
   have key : ∀ {d}, (evalO o tm s).map (·.1) = some d → evalO o tm s = some (d, s) := by
     intro d h
     cases he : evalO o tm s with
     | none => rw [he] at h; cases h
     | some p =>
       obtain ⟨d', s'⟩ := p
       rw [he] at h
       simp only [Option.map_some, Option.some.injEq] at h
       subst h
       rw [evalO_still (by rw [← hko]; exact hm) he]
   simp only [vcI, AI.dst]
   cases g with
   | none =>
     simp only [evM] at h
     simp only [guarded, key h, and_self]
   | some p =>
     obtain ⟨t, want⟩ := p
     simp only [evM] at h
     simp only [guarded]
     split at h
     · rename_i b hb
       simp only [hb]
       split at h
       · rename_i heq
         refine ⟨fun _ => by simp only [key h, and_self], fun hne => ?_⟩
         subst heq
         cases b <;> cases hne
       · rename_i hne
         cases h
         exact ⟨fun heq => (hne heq).elim, fun _ => by simp⟩
     · rename_i ds hb
       cases h
       simp only [hb, and_self]
     · cases h
 | call dst g f xs => cases hm
 | nil dst g n x => cases hm

theorem guarded_mono {g : Option (Nat × Bool)} {tm : Tm} {A A' C C' : Prop} (ha : A → A') (hc : C → C') (hh : guarded g tm A C) : guarded g tm A' C' := by
 cases g with
 | none => exact ha hh
 | some p =>
   obtain ⟨t, want⟩ := p
   unfold guarded at *
   simp only at *
   split
   · rename_i b hb; rw [hb] at hh; exact ⟨fun e => ha (hh.1 e), fun e => hc (hh.2 e)⟩
   · rename_i hb; rw [hb] at hh; exact hc hh
   · rename_i x h1 h2
     split at hh
     · exact h1 _ ‹_›
     · exact h2 _ ‹_›
     · exact hh

theorem vcI_of_stepC {ai : AI} {tm : Tm} {s s1 : St} {d : D} (h : stepC P ai tm s d s1) : vcI P [ai] (fun a b => a = tm.put ai.dst d ∧ b = s1) tm s := by
 cases ai with
 | op dst g o =>
   refine guarded_mono (fun e => ?_) (fun e => ?_) h
   · rw [e]; exact ⟨rfl, rfl⟩
   · obtain ⟨rfl, rfl⟩ := e; exact ⟨rfl, rfl⟩
 | call dst g f xs =>
   refine guarded_mono (fun e => ?_) (fun e => ?_) h
   · exact e.mono fun x y hxy => by obtain ⟨rfl, rfl⟩ := hxy; exact ⟨rfl, rfl⟩
   · obtain ⟨rfl, rfl⟩ := e; exact ⟨rfl, rfl⟩
 | nil dst g n x => exact h.elim

end
end Go.Abs

/-! Par3 -/

namespace Go.Abs

section
variable {P : Program} {is : List AI} {af pt : List (List Nat)} {K : Tm → St → Prop} {B : Base} {nt : Nat}

theorem cIs_get {ops : Array Oper} : ∀ {ol : List Oper} {is : List AI}, cIs P nt ops ol = some is → is.length = ol.length ∧ ∀ (i : Nat) (o : Oper), ol[i]? = some o → ∃ ai, is[i]? = some ai ∧ cI P nt ops o = some ai
 | [], is, h => by cases h; exact ⟨rfl, by simp⟩
 | o :: ol, is, h => by
   unfold cIs at h
   split at h
   · rename_i ai is' h1 h2
     cases h
     obtain ⟨g1, g2⟩ := cIs_get h2
     refine ⟨by simp [g1], fun i o' ho => ?_⟩
     cases i with
     | zero => simp at ho; subst ho; exact ⟨ai, rfl, h1⟩
     | succ i => exact g2 i o' (by simpa using ho)
   · cases h

theorem listed_true {listed : Array Bool} {i : Nat} (h : i < listed.size) : listed.getD i true = listed.getD i false := by
 simp [h]

theorem SInv.done {listed : Array Bool} {X Y : List (Nat × Nat)} {q b : Nat} {pend : List Pd} (hs : SInv is af pt listed (X ++ (q, b) :: Y) pend) (hq : q < is.length)
   (hpt : ∀ j ∈ nthL pt q, listed.getD j false = true) : SInv is af pt (listed.setIfInBounds q true) (X ++ Y) pend := by
 obtain ⟨g1, g2, g3, g4, g5⟩ := okR_split hs.ok
 have hqY : q ∉ Y.map (·.1) := fun hm => by
   obtain ⟨x, hx, rfl⟩ := List.mem_map.1 hm
   exact (okR_off g5 x hx).1 (by simp)
 refine ⟨okR_del hs.ok, fun i hi => ?_, fun i hi hl j hj => ?_, by simp [hs.size], fun x hx => hs.lt x (by simp at hx ⊢; exact hx.imp id .inr)⟩
 · by_cases hiq : i = q
   · subst hiq
     have : i < listed.size := by rw [hs.size]; exact hq
     simp only [List.map_append, List.mem_append, g2, hqY, or_self, not_false_eq_true, true_or, iff_true]
     simp [this]
   · rw [getD_set_ne false (Ne.symm hiq), hs.lst i hi]
     simp [hiq]
 · by_cases hiq : i = q
   · subst hiq; exact getD_set_true (hpt j hj)
   · rw [getD_set_ne false (Ne.symm hiq)] at hl
     exact getD_set_true (hs.cl i hi hl j hj)

theorem SInv.flag {listed : Array Bool} {R : List (Nat × Nat)} {pend : List Pd} (hs : SInv is af pt listed R pend) {p : Pd} (hq : p.q < is.length)
   (hpt : ∀ j ∈ nthL pt p.q, listed.getD j false = true) : SInv is af pt (listed.setIfInBounds p.q true) R (p :: pend) := by
 refine ⟨hs.ok, fun i hi => ?_, fun i hi hl j hj => ?_, by simp [hs.size], hs.lt⟩
 · by_cases hiq : i = p.q
   · subst hiq
     have : p.q < listed.size := by rw [hs.size]; exact hq
     simp [this]
   · rw [getD_set_ne false (Ne.symm hiq), hs.lst i hi]
     have hne : p.q ≠ i := fun h => hiq h.symm
     simp [hne]
 · by_cases hiq : i = p.q
   · subst hiq; exact getD_set_true (hpt j hj)
   · rw [getD_set_ne false (Ne.symm hiq)] at hl
     exact getD_set_true (hs.cl i hi hl j hj)

theorem kind_alloc {ai : AI} (h : ai.kind = .alloc) : ∃ t z, ai = .op (some t) none (.alloc z) := by
 cases ai with
 | op dst g o =>
   unfold AI.kind at h
   split at h
   · rename_i heq; cases heq; exact ⟨_, _, rfl⟩
   · rename_i heq
     cases heq
     exfalso
     revert h
     cases o <;> simp [AO.kind]
   · cases h
 | call dst g f xs => cases h
 | nil dst g n x => cases h

theorem exec_ready {ops : Array Oper} (hcis : cIs P nt ops ops.toList = some is) (hdeps : depsOk af pt is.length = true)
   (hK : ∀ tm tm' s, Tm.eqv tm tm' → K tm s → K tm' s) {listed : Array Bool} {R : List (Nat × Nat)} {pend : List Pd} {act : Act} {w : World} (hs : SInv is af pt listed R pend) (h : RInv P is K B nt R pend act w)
   (hnorm : ∀ x l, R = x :: l → ∀ p ∈ pend, p.q ≠ x.1) {q : Nat} (hq : q < is.length) (hun : listed.getD q false = false) (hrd : ∀ j ∈ nthL af q, j < is.length ∧ listed.getD j false = true)
   {Q : Exit → Act → World → Prop} {K2 : Act → World → Prop} (hK2 : ∀ R' pend' a' w', SInv is af pt (listed.setIfInBounds q true) R' pend' → RInv P is K B nt R' pend' a' w' → K2 a' w') : wpOp P ops Q q K2 act w := by
 obtain ⟨hlen, hJ⟩ := cIs_get hcis
 have hqo : q < ops.size := by rw [hlen] at hq; simpa using hq
 obtain ⟨ai, hai, hci⟩ := hJ q ops[q] (by simp [hqo])
 have hi : ops[q]? = some ops[q] := by simp [hqo]
 have hpt : ∀ j ∈ nthL pt q, listed.getD j false = true := fun j hj => by
   rcases depsOk_spec hdeps q hq j hj with h1 | ⟨k, h1, h2⟩
   · exact (hrd j h1).2
   · exact hs.cl k (hrd k h1).1 (hrd k h1).2 j h2
 have hnf : ∀ p ∈ pend, p.q ≠ q := fun p hp hpq => by
   have := (hs.lst q hq).2 (.inr ⟨p, hp, hpq⟩)
   rw [hun] at this; cases this
 have hqR : q ∈ R.map (·.1) := by
   by_cases hm : q ∈ R.map (·.1)
   · exact hm
   · have := (hs.lst q hq).2 (.inl hm)
     rw [hun] at this; cases this
 obtain ⟨⟨q', b⟩, hx, hqq⟩ := List.mem_map.1 hqR
 simp only at hqq
 subst hqq
 obtain ⟨X, Y, rfl⟩ := List.append_of_mem hx
 obtain ⟨g1, g2, g3, g4, g5⟩ := okR_split hs.ok
 rw [List.append_nil] at g1 g5
 obtain ⟨M, s, tm, tmJ, past, e, r, ht, hsame, hn, hd, hg, hpd, hdist⟩ := h
 have hkq : kindAt is q' = ai.kind := by simp [kindAt, hai]
 -- what must have come up ahead of it, is not here any more, but for what was allocated early
 have hflag : ∀ a ∈ X.map (·.1), a ∈ nthL pt q' → ∃ p ∈ pend, p.q = a := fun a ha hap => by
   have h1 := hpt a hap
   obtain ⟨x, hxX, rfl⟩ := List.mem_map.1 ha
   rcases (hs.lst x.1 (hs.lt x (by simp [hxX]))).1 h1 with h2 | h2
   · exact (h2 (by simp; exact .inl ⟨x.2, hxX⟩)).elim
   · exact h2
 have hhead : ∀ x l, X = x :: l → x.1 ∉ nthL pt q' := fun x l hX hxp => by
   obtain ⟨p, hp, hpq⟩ := hflag x.1 (by simp [hX]) hxp
   exact hnorm x (l ++ (q', b) :: Y) (by simp [hX]) p hp hpq
 have hpk : ∀ p ∈ pend, kindAt is p.q = .alloc := fun p hp => by simp [kindAt, (hpd p hp).ai, AI.kind]
 have hoff : ∀ p ∈ pend, (p.q ∈ X.map (·.1) → apartAt is p.q q' = true) → (∀ t, ai.dst = some t → t ≠ p.t) ∧ p.t ∉ ai.reads := fun p hp hX => by
   have hk := hpd p hp
   have hm := hk.mem
   simp only [List.map_append, List.map_cons, List.mem_append, List.mem_cons] at hm
   rcases hm with hm | hm | hm
   · have := hX hm
     simp only [apartAt, hk.ai, hai] at this
     obtain ⟨p1, p2, p3⟩ := apart_spec this
     exact ⟨fun t ht he => p3 p.t rfl (by rw [ht, he]), p1 p.t rfl⟩
   · exact (hnf p hp hm).elim
   · obtain ⟨x, hxY, hxq⟩ := List.mem_map.1 hm
     have := (okR_off g5 x hxY).2 (by rw [hxq]; exact hpk p hp) q' (by simp)
     rw [hxq] at this
     simp only [apartAt, hk.ai, hai] at this
     obtain ⟨p1, p2, p3⟩ := apart_spec this
     exact ⟨fun t ht he => p3 t ht (by rw [he]; rfl), p2 p.t rfl⟩
 have hreads : (∀ p ∈ pend, p.t ∉ ai.reads) → ∀ t ∈ ai.reads, tm.get t = tmJ.get t := fun hp t ht => (hsame t fun p hpm he => hp p hpm (by rw [he]; exact ht)).symm
 have hmem' : ∀ p ∈ pend, p.q ∈ (X ++ Y).map (·.1) := fun p hp => by
   have hm := (hpd p hp).mem
   have := hnf p hp
   simp only [List.map_append, List.map_cons, List.mem_append, List.mem_cons] at hm ⊢
   rcases hm with hm | hm | hm
   · exact .inl hm
   · exact (this hm).elim
   · exact .inr hm
 by_cases hal : ai.kind = .alloc
 · -- an allocation
   obtain ⟨t, z, rfl⟩ := kind_alloc hal
   have hap : ∀ a ∈ X.map (·.1), apartAt is a q' = true := fun a ha => by
     unfold stepOk at g1
     rw [hkq, hal] at g1
     simp only [List.all_reverse, List.all_eq_true] at g1
     exact g1 a ha
   have hfr := fun p hp => hoff p hp (hap p.q)
   refine alloc_early hi hci fun vs T hl h1 h2 => ?_
   obtain ⟨r1, e1, u1⟩ := r.idle (.cells vs T)
   have htlt : t < act.tmps.size := by
     rw [hn]
     exact cI_dst hci t (by rw [← cI_dst_eq hci]; rfl)
   have := hs.flag (p := ⟨q', t, z, w.heap.size⟩) hq hpt
   refine hK2 _ _ _ _ this ⟨M, s, tm, tmJ.put (some t) .junk, past, e.trans e1, r1, RTm.put ht (dst := some t) (fun u hu => by cases hu; exact htlt) (.junk _), fun u hu => ?_, by simp [Act.put, hn], by simp [Act.put, hd], hg, fun p hp => ?_, fun p hp p' hp' he => ?_⟩
   · have h3 := hu ⟨q', t, z, w.heap.size⟩ (by simp)
     rw [Tm.get_put, if_neg (by simpa using h3)]
     exact hsame u fun p hp => hu p (List.mem_cons_of_mem _ hp)
   · rcases List.mem_cons.1 hp with rfl | hp
     · refine ⟨by simp, hai, ⟨vs, T, heap_alloc_new w _, hl, h1, h2⟩, u1, e.size, ?_⟩
       simp [Act.put, htlt]
     · have hk := hpd p hp
       obtain ⟨vs', T', hh', hl', h1', h2'⟩ := hk.cells
       refine ⟨hk.mem, hk.ai, ⟨vs', T', by rw [heap_alloc_old w _ _ (lt_of_heap hh')]; exact hh', hl', h1', h2'⟩, hk.unk, hk.base, ?_⟩
       rw [← hk.slot]
       have hne : t ≠ p.t := (hfr p hp).1 t rfl
       simp [Act.put, Array.getElem?_setIfInBounds_ne hne]
   · have hnew : ∀ p ∈ pend, ¬ (q' = p.q ∨ t = p.t ∨ w.heap.size = p.b) := fun p hp h => by
       rcases h with h | h | h
       · exact hnf p hp h.symm
       · exact (hfr p hp).1 t rfl h
       · obtain ⟨vs', T', hh', _⟩ := (hpd p hp).cells
         have := lt_of_heap hh'
         omega
     rcases List.mem_cons.1 hp with rfl | hp <;> rcases List.mem_cons.1 hp' with rfl | hp'
     · rfl
     · exact (hnew p' hp' he).elim
     · exact (hnew p hp (he.imp Eq.symm (Or.imp Eq.symm Eq.symm))).elim
     · exact hdist p hp p' hp' he
 · by_cases hco : isCore ai.kind = true
   · -- a step that changes something: it stands first
     have hkc : ai.kind = .core := by
       cases hk : ai.kind <;> simp_all [isCore]
     have hX : X = [] := by
       cases X with
       | nil => rfl
       | cons x l =>
         refine (hhead x l rfl ?_).elim
         unfold stepOk at g1
         rw [hkq, hkc] at g1
         simp only [List.all_reverse, List.all_eq_true] at g1
         have := g1 x.1 (by simp)
         rwa [List.contains_iff_mem] at this
     subst hX
     have hfr := fun p hp => hoff p hp (fun h => by simp at h)
     simp only [List.nil_append, goodP, hai, hco] at hg
     obtain ⟨d, s1, hst, hg⟩ := hg
     have hst' := stepC_congr (hreads fun p hp => (hfr p hp).2) hst
     refine wpOp_mono (fun a' w' hr => hK2 _ _ _ _ (hs.done hq hpt) hr) ?_
     exact exec1 hi hci e r ht hsame hn hd hpd hdist (vcI_of_stepC hst') hg hmem' (fun p hp he => (hfr p hp).1 _ he rfl)
   · -- a step that changes nothing
     have hm : isCore ai.kind = false := by simpa using hco
     have hnot : ∀ a ∈ X.map (·.1), a ∉ nthL pt q' := fun a ha hap => by
       obtain ⟨p, hp, hpq⟩ := hflag a ha hap
       have hka : kindAt is a = .alloc := by rw [← hpq]; exact hpk p hp
       have hbe : behindAll is (nthL pt q') (X.map (·.1)).reverse = true := by
         unfold stepOk at g1
         rw [hkq] at g1
         cases hk : ai.kind with
         | pure => simp only [hk, Bool.and_eq_true] at g1; exact g1.2
         | load => simp only [hk, Bool.and_eq_true] at g1; exact g1.1.2
         | alloc => exact (hal hk).elim
         | core => rw [hk] at hm; cases hm
       cases X with
       | nil => simp at ha
       | cons x l =>
         have ha2 : a ∈ ((x :: l).map (·.1)).reverse := List.mem_reverse.2 ha
         obtain ⟨l1, l2, hsp⟩ := List.append_of_mem ha2
         have hall := behindAll_spec hbe a l1 l2 hsp hka hap
         refine hhead x l rfl ?_
         cases hl2 : l2.reverse with
         | nil =>
           have h3 : l2 = [] := by simpa using hl2
           subst h3
           have := congrArg List.reverse hsp
           simp at this
           rw [this.1]; exact hap
         | cons y l3 =>
           have := congrArg List.reverse hsp
           simp only [List.reverse_reverse, List.map_cons, List.reverse_append, List.reverse_cons, List.reverse_nil, List.append_assoc, hl2, List.cons_append, List.nil_append, List.cons.injEq] at this
           rw [this.1]
           exact hall y (by rw [← List.mem_reverse, hl2]; simp)
     have hap : ∀ a ∈ X, apartAt is a.1 q' = true := fun a ha => by
       have h3 : ∀ x ∈ (X.map (·.1)).reverse, ((nthL pt q').contains x || apartAt is x q') = true := by
         unfold stepOk at g1
         rw [hkq] at g1
         cases hk : ai.kind with
         | pure => simp only [hk, Bool.and_eq_true] at g1; exact List.all_eq_true.1 g1.1
         | load => simp only [hk, Bool.and_eq_true] at g1; exact List.all_eq_true.1 g1.1.1
         | alloc => exact (hal hk).elim
         | core => rw [hk] at hm; cases hm
       have := h3 a.1 (List.mem_reverse.2 (List.mem_map_of_mem ha))
       simp only [Bool.or_eq_true, List.contains_iff_mem] at this
       exact this.resolve_left (hnot a.1 (List.mem_map_of_mem ha))
     have hcount : ai.kind = .load → coresIn is (X.map (·.1)) ≤ b := fun hk => by
       unfold stepOk at g1
       rw [hkq, hk] at g1
       simp only [Bool.and_eq_true, decide_eq_true_eq] at g1
       have h3 := g1.2
       have h4 : (X.map (·.1)).reverse.filter (fun a => !(nthL pt q').contains a) = (X.map (·.1)).reverse := by
         rw [List.filter_eq_self]
         intro a ha
         have := hnot a (List.mem_reverse.1 ha)
         simpa using this
       rw [h4] at h3
       unfold coresIn at h3 ⊢
       rw [List.filter_reverse, List.length_reverse] at h3
       exact h3
     have hfr := fun p hp => hoff p hp (fun h => by
       obtain ⟨x, hx, hxq⟩ := List.mem_map.1 h
       rw [← hxq]; exact hap x hx)
     obtain ⟨d, h1, _, hg'⟩ := goodP_front hK hai hm Y X past tm s hap hcount hg
     have h1' : evM ai tmJ s = some d := by rw [← evM_congr (hreads fun p hp => (hfr p hp).2)]; exact h1
     refine wpOp_mono (fun a' w' hr => hK2 _ _ _ _ (hs.done hq hpt) hr) ?_
     exact exec1 hi hci e r ht hsame hn hd hpd hdist (vcI_of_evM hm h1') hg' hmem' (fun p hp he => (hfr p hp).1 _ he rfl)

theorem edgesOf_mem {o : Oper} {j : Nat} : j ∈ edgesOf o ↔ ∃ e ∈ o.after, Region.binds .any e = true ∧ e.on = j := by
 simp only [edgesOf, List.mem_map, List.mem_filter, Array.mem_toList_iff]
 constructor
 · rintro ⟨e, ⟨h1, h2⟩, h3⟩; exact ⟨e, h1, h2, h3⟩
 · rintro ⟨e, h1, h2, h3⟩; exact ⟨e, ⟨h1, h2⟩, h3⟩

theorem wpAny_plan {ops : Array Oper} (hcis : cIs P nt ops ops.toList = some is) (hdeps : depsOk (ops.toList.map edgesOf) pt is.length = true)
   (hafl : ∀ i, i < is.length → ∀ j ∈ nthL (ops.toList.map edgesOf) i, j < is.length) {Q : Exit → Tm → St → Prop} (hK : ∀ tm tm' s, Tm.eqv tm tm' → K tm s → K tm' s)
   (hKQ : ∀ tm s act w, K tm s → Holds B nt tm s act w → Post B nt Q .normal act w) :
   ∀ (fuel : Nat) (listed : Array Bool) (R : List (Nat × Nat)) (pend : List Pd) (act : Act) (w : World) (U : List Nat), U.length ≤ fuel → (∀ j, j < is.length → listed.getD j false = false → j ∈ U) →
     SInv is (ops.toList.map edgesOf) pt listed R pend → RInv P is K B nt R pend act w → wpAny P .any ops (Post B nt Q) fuel listed act w := by
 obtain ⟨hlen, _⟩ := cIs_get hcis
 have hsize : is.length = ops.size := by rw [hlen]; simp
 have hnth : ∀ (j : Nat) (o : Oper), ops[j]? = some o → nthL (ops.toList.map edgesOf) j = edgesOf o := fun j o h => by
   simp [nthL, List.getD, h]
 have fin : ∀ {listed : Array Bool} {pend : List Pd} {act : Act} {w : World}, RInv P is K B nt [] pend act w → Post B nt Q .normal act w := by
   intro listed pend act w h
   obtain ⟨M, s, tm, tmJ, past, e, r, ht, hsame, hn, hd, hg, hpd, hdist⟩ := h
   have hnil : ∀ p ∈ pend, False := fun p hp => by have := (hpd p hp).mem; simp at this
   exact hKQ tmJ s act w (hK tm tmJ s (fun t => (hsame t fun p hp => (hnil p hp).elim).symm) hg) ⟨M, e, r, ht, hn, hd⟩
 have hready : ∀ {listed : Array Bool} {R : List (Nat × Nat)} {pend : List Pd} {x : Nat × Nat} {l : List (Nat × Nat)}, SInv is (ops.toList.map edgesOf) pt listed R pend → R = x :: l → (∀ p ∈ pend, p.q ≠ x.1) →
     x.1 ∈ Region.ready .any ops listed := by
   intro listed R pend x l hs hR hnf
   subst hR
   have hx := hs.lt x (by simp)
   rw [mem_ready]
   have hun : listed.getD x.1 false = false := by
     cases hl : listed.getD x.1 false with
     | false => rfl
     | true =>
       rcases (hs.lst x.1 hx).1 hl with h1 | ⟨p, hp, hpq⟩
       · exact (h1 (by simp)).elim
       · exact (hnf p hp hpq).elim
   have hxo : x.1 < ops.size := by rw [← hsize]; exact hx
   refine ⟨by rw [listed_true (by rw [hs.size]; exact hx)]; exact hun, ops[x.1], by simp [hxo], fun e he hb => ?_⟩
   have hm : e.on ∈ nthL (ops.toList.map edgesOf) x.1 := by rw [hnth x.1 ops[x.1] (by simp [hxo])]; exact edgesOf_mem.2 ⟨e, he, hb, rfl⟩
   obtain ⟨_, _, _, g4, _⟩ := okR_split (X := []) (q := x.1) (b := x.2) hs.ok
   obtain ⟨h1, h2⟩ := g4 _ hm
   refine (hs.lst e.on (hafl x.1 hx _ hm)).2 (.inl ?_)
   simp only [List.map_cons, List.mem_cons, not_or]
   exact ⟨h1, h2⟩
 intro fuel
 induction fuel with
 | zero =>
   intro listed R pend act w U hU hun hs h
   obtain ⟨R', pend', hs', h', hn⟩ := norm R pend hs h
   have hUn : U = [] := List.length_eq_zero_iff.1 (by omega)
   have hall : ∀ j, j < is.length → listed.getD j false = true := fun j hj => by
     cases hl : listed.getD j false with
     | true => rfl
     | false => have := hun j hj hl; rw [hUn] at this; cases this
   have hR : R' = [] := by
     cases hR : R' with
     | nil => rfl
     | cons x l =>
       have hx := hs'.lt x (by simp [hR])
       have := hready hs' hR (hn x l hR)
       rw [mem_ready, listed_true (by rw [hs'.size]; exact hx), hall x.1 hx] at this
       cases this.1
   subst hR
   refine ⟨?_, fin (listed := listed) h'⟩
   cases hr : Region.ready .any ops listed with
   | nil => rfl
   | cons j js =>
     have hj : j ∈ Region.ready .any ops listed := by rw [hr]; simp
     rw [mem_ready] at hj
     obtain ⟨h1, o, ho, _⟩ := hj
     have hjl : j < is.length := by rw [hsize]; exact (Array.getElem?_eq_some_iff.1 ho).1
     rw [listed_true (by rw [hs.size]; exact hjl), hall j hjl] at h1
     cases h1
 | succ fuel ih =>
   intro listed R pend act w U hU hun hs h
   obtain ⟨R', pend', hs', h', hn⟩ := norm R pend hs h
   refine ⟨fun hr => ?_, fun i hi => ?_⟩
   · cases hR : R' with
     | nil => subst hR; exact fin (listed := listed) h'
     | cons x l =>
       have := hready hs' hR (hn x l hR)
       rw [hr] at this
       cases this
   · rw [mem_ready] at hi
     obtain ⟨h1, o, ho, hdep⟩ := hi
     have hil : i < is.length := by rw [hsize]; exact (Array.getElem?_eq_some_iff.1 ho).1
     rw [listed_true (by rw [hs.size]; exact hil)] at h1
     refine exec_ready hcis hdeps hK hs' h' hn hil h1 (fun j hj => ⟨hafl i hil j hj, ?_⟩) fun R2 pend2 a2 w2 hs2 h2 => ?_
     · rw [hnth i o ho] at hj
       obtain ⟨e, he, hb, rfl⟩ := edgesOf_mem.1 hj
       exact hdep e he hb
     · refine ih _ R2 pend2 a2 w2 (U.erase i) ?_ (fun j hj hl => ?_) hs2 h2
       · have := List.length_erase_of_mem (hun i hil h1)
         omega
       · have hji : j ≠ i := fun e => by
           subst e
           have : j < listed.size := by rw [hs.size]; exact hil
           simp [this] at hl
         rw [getD_set_ne false (Ne.symm hji)] at hl
         exact (List.mem_erase_of_ne hji).2 (hun j hj hl)

theorem Sem.par {is : List AI} {plan : List (Nat × Nat)} {Q : Exit → Tm → St → Prop} {tm : Tm} {s : St} (h : goodP P is (Q .normal) plan [] tm s) : Sem P B nt (.par is plan) Q tm s := by
 intro c hc act w hh
 obtain ⟨id, ops, rfl, hi, hm, pt, hp⟩ := cC_inv hc
 simp only [planOk, Bool.and_eq_true, List.all_eq_true, List.mem_range, List.contains_iff_mem, decide_eq_true_eq] at hp
 obtain ⟨⟨⟨⟨h1, h2⟩, h3⟩, h4⟩, h5⟩ := hp
 obtain ⟨hlen, _⟩ := cIs_get hi
 have hsize : is.length = ops.size := by rw [hlen]; simp
 refine wp_region_any hm ?_
 obtain ⟨M, e, r, ht, hn, hd⟩ := hh
 have key : ∀ (R : List (Nat × Nat)) (past : List St) (tm : Tm) (s : St), goodP P is (Q .normal) R past tm s → goodP P is (fun tm s => ∃ tm', tm.eqv tm' ∧ Q .normal tm' s) R past tm s := by
   intro R
   induction R with
   | nil => intro past tm s h; exact ⟨tm, fun _ => rfl, h⟩
   | cons x R ih =>
     obtain ⟨q, b⟩ := x
     intro past tm s h
     unfold goodP at h ⊢
     split at h
     · exact h.elim
     · split at h
       · obtain ⟨d, s', h1, h2⟩ := h; exact ⟨d, s', h1, ih _ _ _ h2⟩
       · obtain ⟨d, h1, h2, h3⟩ := h; exact ⟨d, h1, h2, ih _ _ _ h3⟩
 have hg := key _ _ _ _ h
 refine wpAny_plan (K := fun tm s => ∃ tm', tm.eqv tm' ∧ Q .normal tm' s) hi h1 h5 (fun tm tm' s he ⟨t2, h3, h4⟩ => ⟨t2, fun t => (he t).symm.trans (h3 t), h4⟩)
   (fun tm s act w ⟨t2, h3, h4⟩ ⟨M, e, r, ht, hn, hd⟩ => ⟨t2, s, h4, M, e, r, fun t => by rw [← h3 t]; exact ht t, hn, hd⟩) ops.size _ plan [] act _ (List.range is.length) (by simp [hsize]) (fun j hj _ => by simpa using hj)
   ⟨h2, fun i hi => ?_, fun i hi hl => ?_, by simp [hsize], h4⟩ ⟨M, s, tm, tm, [], ⟨e.le, e.kept, e.newO, e.newT, e.newG, e.size, e.os, e.tape, e.output⟩, r.of_heap rfl, ht, fun _ _ => rfl, hn, hd, hg, by simp, by simp⟩
 · have : i < ops.size := by rw [← hsize]; exact hi
   have h6 := h3 i hi
   simp only [List.not_mem_nil, false_and, exists_false, or_false]
   rw [show (Array.replicate ops.size false).getD i false = false by simp [this]]
   simp [h6]
 · have : i < ops.size := by rw [← hsize]; exact hi
   rw [show (Array.replicate ops.size false).getD i false = false by simp [this]] at hl
   cases hl

end
end Go.Abs

/-! Step -/

namespace Go.Abs

theorem row_int (k : IntKind) (n : Int) : D.row (.int k n) = some [.int k n] := rfl
theorem row_bool (b : Bool) : D.row (.bool b) = some [.bool b] := rfl
theorem row_str (l : List UInt8) : D.row (.str l) = some [.str l] := rfl
theorem row_nilp : D.row .nilp = some [.nilp] := rfl
theorem row_ptr (o f : Nat) : D.row (.ptr o f) = some [.ptr o f] := rfl
theorem row_cptr (r : List D) (f : Nat) : D.row (.cptr r f) = some [.cptr r f] := rfl
theorem row_slice (g : Tag) (z : Nat) (r : List (List D)) : D.row (.slice g z r) = some [.slice g z r] := rfl
theorem row_agg (cs : List D) : D.row (.agg cs) = some cs := rfl
theorem row_val (v : Value) : D.row (.val v) = some [.val v] := rfl
theorem row_selfp (T : TypeId) (o : Nat) : D.row (.selfp T o) = some [.selfp T o] := rfl
theorem cut_full (w : Bool) : Tag.cut .full w = if w then .full else .shared := rfl
theorem cut_shared (w : Bool) : Tag.cut .shared w = .shared := rfl
theorem cut_tokn (t : Nat) (y : Bool) (w : Bool) : Tag.cut (.tok t y) w = .tok t y := rfl

section
variable {P : Program}

def KC (P : Program) (r : List AI) (K : Tm → St → Prop) (tm : Tm) (dst : Option Nat) (d : D) (s : St) : Prop := vcI P r K (tm.put dst d) s

def GI (P : Program) (g : D) (want : Bool) (i : AI) (r : List AI) (K : Tm → St → Prop) (tm : Tm) (s : St) : Prop :=
 match g with
 | .bool b => (b = want → vcI P (i :: r) K tm s) ∧ (b = (!want) → vcI P r K (tm.put i.dst (.tuple [])) s)
 | .tuple _ => vcI P r K (tm.put i.dst (.tuple [])) s
 | _ => False

def NI (P : Program) (dst : Option Nat) (neg : Bool) (x : D) (r : List AI) (K : Tm → St → Prop) (tm : Tm) (s : St) : Prop :=
 match x with
 | .slice _ _ rows => ∀ b : Bool, (rows ≠ [] → b = false) → vcI P r K (tm.put dst (.bool (if neg then !b else b))) s
 | _ => False

def CondT (d : D) (A C : Prop) : Prop :=
 match d with
 | .bool b => (b = true → A) ∧ (b = false → C)
 | _ => False
theorem Sem.condT {B : Base} {nt : Nat} {Q : Exit → Tm → St → Prop} {tm : Tm} {s : St} {x : X} {a b : AC} (h : CondT (x.ev tm) (Sem P B nt a Q tm s) (Sem P B nt b Q tm s)) : Sem P B nt (.cond x a b) Q tm s := by
 unfold CondT at h
 split at h
 · rename_i t ht
   exact Sem.cond ht h.1 h.2
 · exact h.elim

/-! ### Open order -/

def goodL (P : Program) (K : Tm → St → Prop) : List (AI × Nat) → List St → Tm → St → Prop
 | [], _, tm, s => K tm s
 | (ai, b) :: r, past, tm, s =>
     match isCore ai.kind with
     | true => ∃ d s', stepC P ai tm s d s' ∧ goodL P K r (s :: past) (tm.put ai.dst d) s'
     | false => ∃ d, evM ai tm s = some d ∧ (ai.kind = .load → ∀ s' ∈ past.take b, evM ai tm s' = some d) ∧ goodL P K r past (tm.put ai.dst d) s

def itemsOf (is : List AI) : List (Nat × Nat) → Option (List (AI × Nat))
 | [] => some []
 | (q, b) :: r => match is[q]?, itemsOf is r with
   | some ai, some l => some ((ai, b) :: l)
   | _, _ => none

theorem goodL_P {is : List AI} {K : Tm → St → Prop} : ∀ {plan : List (Nat × Nat)} {items : List (AI × Nat)} {past : List St} {tm : Tm} {s : St}, itemsOf is plan = some items → goodL P K items past tm s → goodP P is K plan past tm s
 | [], items, past, tm, s, h, g => by cases h; exact g
 | (q, b) :: r, items, past, tm, s, h, g => by
   simp only [itemsOf] at h
   split at h
   · rename_i ai l h1 h2
     cases h
     simp only [goodL] at g
     simp only [goodP, h1]
     split at g
     · rename_i hk
       obtain ⟨d, s', g1, g2⟩ := g
       try simp only [hk]
       exact ⟨d, s', g1, goodL_P h2 g2⟩
     · rename_i hk
       obtain ⟨d, g1, g2, g3⟩ := g
       try simp only [hk]
       exact ⟨d, g1, g2, goodL_P h2 g3⟩
   · cases h

theorem Sem.parL {B : Base} {nt : Nat} {Q : Exit → Tm → St → Prop} {tm : Tm} {s : St} {is : List AI} {plan : List (Nat × Nat)} {items : List (AI × Nat)} (hi : itemsOf is plan = some items) (h : goodL P (Q .normal) items [] tm s) : Sem P B nt (.par is plan) Q tm s :=
 Sem.par (goodL_P hi h)

def AI.free : AI → AI
 | .op d _ o => .op d none o
 | .call d _ f xs => .call d none f xs
 | .nil d _ n x => .nil d none n x

def GL (P : Program) (g : D) (want : Bool) (i : AI) (b : Nat) (r : List (AI × Nat)) (K : Tm → St → Prop) (past : List St) (tm : Tm) (s : St) : Prop :=
 match g with
 | .bool v => (v = want → goodL P K ((i, b) :: r) past tm s) ∧ (v = (!want) → goodL P K r (if isCore i.kind then s :: past else past) (tm.put i.dst (.tuple [])) s)
 | .tuple _ => goodL P K r (if isCore i.kind then s :: past else past) (tm.put i.dst (.tuple [])) s
 | _ => False

def CL (P : Program) (f : Nat) (args : List D) (s : St) (K : D → St → Prop) : Prop := ∃ d s', Fun P f args s d s' ∧ K d s'
def KL (P : Program) (K : Tm → St → Prop) (r : List (AI × Nat)) (past : List St) (tm : Tm) (dst : Option Nat) (d : D) (s : St) : Prop := goodL P K r past (tm.put dst d) s

def PastOk (i : AI) (tm : Tm) (d : D) : List St → Prop
 | [] => True
 | s :: r => evM i tm s = some d ∧ PastOk i tm d r

theorem pastOk_iff {i : AI} {tm : Tm} {d : D} : ∀ {l : List St}, PastOk i tm d l → ∀ s ∈ l, evM i tm s = some d
 | [], _, s, h => by cases h
 | a :: l, h, s, hs => by
   rcases List.mem_cons.1 hs with rfl | hs
   · exact h.1
   · exact pastOk_iff h.2 s hs

def PL (P : Program) (o : AO) (dst : Option Nat) (b : Nat) (r : List (AI × Nat)) (K : Tm → St → Prop) (past : List St) (tm : Tm) (s : St) : Prop :=
 match evalO o tm s with
 | some (d, _) => PastOk (.op dst none o) tm d (past.take b) ∧ goodL P K r past (tm.put dst d) s
 | none => False

def ML (P : Program) (o : AO) (dst : Option Nat) (r : List (AI × Nat)) (K : Tm → St → Prop) (past : List St) (tm : Tm) (s : St) : Prop :=
 match evalO o tm s with
 | some (d, s') => goodL P K r (s :: past) (tm.put dst d) s'
 | none => False

def AO.core : AO → Bool
 | .alloc _ => true
 | .box _ => true
 | .bslt .. => true
 | .frz _ => true
 | .store .. => true
 | .app .. => true
 | .allocB .. => true
 | .boxB .. => true
 | .appb .. => true
 | .apps .. => true
 | _ => false

theorem kind_core (dst : Option Nat) (g : Option (Nat × Bool)) (o : AO) : isCore (AI.op dst g o).kind = o.core := by
 cases dst <;> cases g <;> cases o <;> rfl

def OL (P : Program) (o : AO) (dst : Option Nat) (b : Nat) (r : List (AI × Nat)) (K : Tm → St → Prop) (past : List St) (tm : Tm) (s : St) : Prop :=
 match o.core with
 | true => ML P o dst r K past tm s
 | false => PL P o dst b r K past tm s

theorem goodL_op {K : Tm → St → Prop} {dst : Option Nat} {o : AO} {b : Nat} {r : List (AI × Nat)} {past : List St} {tm : Tm} {s : St} (h : OL P o dst b r K past tm s) :
   goodL P K ((.op dst none o, b) :: r) past tm s := by
 unfold OL at h
 simp only [goodL, kind_core]
 cases hc : o.core with
 | true =>
   simp only [hc, ML] at h
   simp only []
   split at h
   · rename_i d s' he
     exact ⟨d, s', by simpa [stepC, guarded] using he, h⟩
   · exact h.elim
 | false =>
   simp only [hc, PL] at h
   simp only []
   split at h
   · rename_i d s' he
     exact ⟨d, by simp [evM, he], fun _ => pastOk_iff h.1, h.2⟩
   · exact h.elim

theorem goodL_call {K : Tm → St → Prop} {dst : Option Nat} {f : Nat} {xs : List X} {b : Nat} {r : List (AI × Nat)} {past : List St} {tm : Tm} {s : St} (h : CL P f (xs.map (·.ev tm)) s (KL P K r (s :: past) tm dst)) :
   goodL P K ((.call dst none f xs, b) :: r) past tm s := by
 obtain ⟨d, s', h1, h2⟩ := h
 exact ⟨d, s', h1, h2⟩

theorem GLtrue {K : Tm → St → Prop} {i : AI} {t : Nat} {w : Bool} {b : Nat} {r : List (AI × Nat)} {past : List St} {tm : Tm} {s : St} {j : AI} (hf : (∃ d o, i = .op d none o ∧ j = .op d (some (t, w)) o) ∨ (∃ d f xs, i = .call d none f xs ∧ j = .call d (some (t, w)) f xs))
   (hg : tm.get t = .bool w) (h : goodL P K ((i, b) :: r) past tm s) : goodL P K ((j, b) :: r) past tm s := by
 rcases hf with ⟨d, o, rfl, rfl⟩ | ⟨d, f, xs, rfl, rfl⟩
 · simp only [goodL, kind_core] at h ⊢
   cases hc : o.core <;> simp only [hc] at h ⊢
   · obtain ⟨x, h1, h2, h3⟩ := h
     refine ⟨x, by simpa [evM, hg] using h1, fun hk s' hs' => ?_, h3⟩
     have hk' : (AI.op d none o).kind = .load := by
       cases d <;> cases o <;> first | exact hk | (cases hc; done) | (cases hk; done)
     simpa [evM, hg] using h2 hk' s' hs'
   · obtain ⟨x, s', h1, h2⟩ := h
     exact ⟨x, s', by simpa [stepC, guarded, hg] using h1, h2⟩
 · obtain ⟨x, s', h1, h2⟩ := h
   exact ⟨x, s', by simpa [stepC, guarded, hg] using h1, h2⟩

theorem GLskip {K : Tm → St → Prop} {i : AI} {t : Nat} {w : Bool} {b : Nat} {r : List (AI × Nat)} {past : List St} {tm : Tm} {s : St} {j : AI} (hf : (∃ d o, i = .op d none o ∧ j = .op d (some (t, w)) o) ∨ (∃ d f xs, i = .call d none f xs ∧ j = .call d (some (t, w)) f xs))
   (hg : tm.get t = .bool (!w) ∨ ∃ l, tm.get t = .tuple l) (h : goodL P K r (if isCore i.kind then s :: past else past) (tm.put i.dst (.tuple [])) s) : goodL P K ((j, b) :: r) past tm s := by
 rcases hf with ⟨d, o, rfl, rfl⟩ | ⟨d, f, xs, rfl, rfl⟩
 · simp only [goodL, kind_core] at h ⊢
   cases hc : o.core <;> simp only [hc] at h ⊢
   · refine ⟨.tuple [], ?_, fun hk s' hs' => ?_, h⟩
     · rcases hg with hg | ⟨l, hg⟩ <;> simp [evM, hg]
     · rcases hg with hg | ⟨l, hg⟩ <;> simp [evM, hg]
   · refine ⟨.tuple [], s, ?_, h⟩
     rcases hg with hg | ⟨l, hg⟩ <;> simp [stepC, guarded, hg]
 · refine ⟨.tuple [], s, ?_, h⟩
   rcases hg with hg | ⟨l, hg⟩ <;> simp [stepC, guarded, hg]

theorem goodL_g {K : Tm → St → Prop} {i j : AI} {t : Nat} {w : Bool} {b : Nat} {r : List (AI × Nat)} {past : List St} {tm : Tm} {s : St} (hf : (∃ d o, i = .op d none o ∧ j = .op d (some (t, w)) o) ∨ (∃ d f xs, i = .call d none f xs ∧ j = .call d (some (t, w)) f xs))
   (h : GL P (tm.get t) w i b r K past tm s) : goodL P K ((j, b) :: r) past tm s := by
 unfold GL at h
 split at h
 · rename_i v hv
   by_cases e : v = w
   · exact GLtrue hf (by rw [hv, e]) (h.1 e)
   · exact GLskip hf (.inl (by rw [hv]; cases v <;> cases w <;> simp_all)) (h.2 (by cases v <;> cases w <;> simp_all))
 · rename_i l hl
   exact GLskip hf (.inr ⟨l, hl⟩) h
 · exact h.elim

theorem goodL_gop {K : Tm → St → Prop} {dst : Option Nat} {o : AO} {t : Nat} {w : Bool} {b : Nat} {r : List (AI × Nat)} {past : List St} {tm : Tm} {s : St} (h : GL P (tm.get t) w (.op dst none o) b r K past tm s) :
   goodL P K ((.op dst (some (t, w)) o, b) :: r) past tm s := goodL_g (.inl ⟨dst, o, rfl, rfl⟩) h
theorem goodL_gcall {K : Tm → St → Prop} {dst : Option Nat} {f : Nat} {xs : List X} {t : Nat} {w : Bool} {b : Nat} {r : List (AI × Nat)} {past : List St} {tm : Tm} {s : St} (h : GL P (tm.get t) w (.call dst none f xs) b r K past tm s) :
   goodL P K ((.call dst (some (t, w)) f xs, b) :: r) past tm s := goodL_g (.inr ⟨dst, f, xs, rfl, rfl⟩) h

theorem CU {f : Nat} {args : List D} {s : St} {d : D} {s' : St} {K : D → St → Prop} (h : Fun P f args s d s') (hk : K d s') : CL P f args s K := ⟨d, s', h, hk⟩
end
end Go.Abs

/-! Wp -/

namespace Go.Abs

theorem nd {α : Type} {a b : α} (h : a = b) : a = b := h

def GJ (g : D) (w : Bool) (A C : Prop) : Prop :=
 match g with
 | .bool b => (b = w → A) ∧ (b = (!w) → C)
 | .tuple _ => C
 | _ => False
class Two where
 a : Prop
 c : Prop
def CB (d : D) [b : Two] : Prop := CondT d b.a b.c
def GB (d : D) (w : Bool) [b : Two] : Prop := GJ d w b.a b.c
def guardJ (g : Option (Nat × Bool)) (tm : Tm) (A C : Prop) : Prop :=
 match g with
 | none => A
 | some (t, w) => GJ (tm.get t) w A C

def vcJ (P : Program) : List AI → (Tm → St → Prop) → Tm → St → Prop
 | [], K, tm, s => K tm s
 | .op dst g o :: r, K, tm, s => guardJ g tm (match evalO o tm s with | some (d, s') => vcJ P r K (tm.put dst d) s' | none => False) (vcJ P r K (tm.put dst (.tuple [])) s)
 | .call dst g f xs :: r, K, tm, s => guardJ g tm (CL P f (xs.map (·.ev tm)) s fun d s' => vcJ P r K (tm.put dst d) s') (vcJ P r K (tm.put dst (.tuple [])) s)
 | .nil dst g neg x :: r, K, tm, s =>
   guardJ g tm (match x.ev tm with
     | .slice _ _ rows => ∀ b : Bool, (rows ≠ [] → b = false) → vcJ P r K (tm.put dst (.bool (if neg then !b else b))) s
     | _ => False) (vcJ P r K (tm.put dst (.tuple [])) s)

theorem guardJ_mono {g : Option (Nat × Bool)} {tm : Tm} {A C A' C' : Prop} (h : guardJ g tm A C) (ha : A → A') (hc : C → C') : guarded g tm A' C' := by
 unfold guardJ at h
 unfold guarded
 cases g with
 | none => exact ha h
 | some p =>
   obtain ⟨t, w⟩ := p
   simp only [GJ] at h ⊢
   split at h
   · rename_i hb; try simp only [hb]
     exact ⟨fun e => ha (h.1 e), fun e => hc (h.2 e)⟩
   · rename_i hb; try simp only [hb]
     exact hc h
   · exact h.elim

theorem vcJ_vcI {P : Program} {K : Tm → St → Prop} : ∀ {is : List AI} {tm : Tm} {s : St}, vcJ P is K tm s → vcI P is K tm s
 | [], tm, s, h => h
 | .op dst g o :: r, tm, s, h => by
   refine guardJ_mono h (fun h => ?_) vcJ_vcI
   split at h
   · rename_i he; try simp only [he]
     exact vcJ_vcI h
   · exact h.elim
 | .call dst g f xs :: r, tm, s, h => guardJ_mono h (fun ⟨d, s', h1, h2⟩ => h1.use (vcJ_vcI h2)) vcJ_vcI
 | .nil dst g neg x :: r, tm, s, h => by
   refine guardJ_mono h (fun h => ?_) vcJ_vcI
   split at h
   · rename_i he; try simp only [he]
     exact fun b hb => vcJ_vcI (h b hb)
   · exact h.elim

def goodJ (P : Program) (K : Tm → St → Prop) : List (AI × Nat) → List St → Tm → St → Prop
 | [], _, tm, s => K tm s
 | (.op dst g o, b) :: r, past, tm, s =>
   match o.core with
   | true => guardJ g tm (match evalO o tm s with | some (d, s') => goodJ P K r (s :: past) (tm.put dst d) s' | none => False) (goodJ P K r (s :: past) (tm.put dst (.tuple [])) s)
   | false => guardJ g tm (match evalO o tm s with | some (d, _) => PastOk (.op dst none o) tm d (past.take b) ∧ goodJ P K r past (tm.put dst d) s | none => False) (goodJ P K r past (tm.put dst (.tuple [])) s)
 | (.call dst g f xs, _) :: r, past, tm, s => guardJ g tm (CL P f (xs.map (·.ev tm)) s fun d s' => goodJ P K r (s :: past) (tm.put dst d) s') (goodJ P K r (s :: past) (tm.put dst (.tuple [])) s)
 | (.nil .., _) :: _, _, _, _ => False

theorem guardJ_GL {P : Program} {t : Nat} {w : Bool} {tm : Tm} {i : AI} {b : Nat} {r : List (AI × Nat)} {K : Tm → St → Prop} {past : List St} {s : St} {A C : Prop} (h : guardJ (some (t, w)) tm A C) (ha : A → goodL P K ((i, b) :: r) past tm s)
   (hc : C → goodL P K r (if isCore i.kind then s :: past else past) (tm.put i.dst (.tuple [])) s) : GL P (tm.get t) w i b r K past tm s := by
 simp only [guardJ, GJ] at h
 unfold GL
 split at h
 · rename_i hb; try simp only [hb]
   exact ⟨fun e => ha (h.1 e), fun e => hc (h.2 e)⟩
 · rename_i hb; try simp only [hb]
   exact hc h
 · exact h.elim

theorem goodJ_goodL {P : Program} {K : Tm → St → Prop} : ∀ {l : List (AI × Nat)} {past : List St} {tm : Tm} {s : St}, goodJ P K l past tm s → goodL P K l past tm s
 | [], past, tm, s, h => h
 | (.op dst g o, b) :: r, past, tm, s, h => by
   simp only [goodJ] at h
   cases hc : o.core with
   | true =>
     simp only [hc] at h
     have ha : (match evalO o tm s with | some (d, s') => goodJ P K r (s :: past) (tm.put dst d) s' | none => False) → goodL P K ((.op dst none o, b) :: r) past tm s := by
       intro h
       refine goodL_op ?_
       simp only [OL, hc, ML]
       split at h
       · rename_i he; try simp only [he]
         exact goodJ_goodL h
       · exact h.elim
     cases g with
     | none => exact ha h
     | some p =>
       obtain ⟨t, w⟩ := p
       refine goodL_gop (guardJ_GL h ha fun h => ?_)
       simp only [kind_core, hc, if_true]
       exact goodJ_goodL h
   | false =>
     simp only [hc] at h
     have ha : (match evalO o tm s with | some (d, _) => PastOk (.op dst none o) tm d (past.take b) ∧ goodJ P K r past (tm.put dst d) s | none => False) → goodL P K ((.op dst none o, b) :: r) past tm s := by
       intro h
       refine goodL_op ?_
       simp only [OL, hc, PL]
       split at h
       · rename_i he; try simp only [he]
         exact ⟨h.1, goodJ_goodL h.2⟩
       · exact h.elim
     cases g with
     | none => exact ha h
     | some p =>
       obtain ⟨t, w⟩ := p
       refine goodL_gop (guardJ_GL h ha fun h => ?_)
       simp only [kind_core, hc]
       exact goodJ_goodL h
 | (.call dst g f xs, b) :: r, past, tm, s, h => by
   simp only [goodJ] at h
   have ha : (CL P f (xs.map (·.ev tm)) s fun d s' => goodJ P K r (s :: past) (tm.put dst d) s') → goodL P K ((.call dst none f xs, b) :: r) past tm s :=
     fun ⟨d, s', h1, h2⟩ => goodL_call ⟨d, s', h1, goodJ_goodL h2⟩
   cases g with
   | none => exact ha h
   | some p =>
     obtain ⟨t, w⟩ := p
     exact goodL_gcall (guardJ_GL h ha fun h => goodJ_goodL h)
 | (.nil .., _) :: _, past, tm, s, h => h.elim

section
variable {P : Program} {B : Base} {nt : Nat}

def wpC (P : Program) (B : Base) (nt : Nat) : AC → (Exit → Tm → St → Prop) → Tm → St → Prop
 | .skip, Q, tm, s => Q .normal tm s
 | .run is, Q, tm, s => vcJ P is (Q .normal) tm s
 | .par is plan, Q, tm, s => match itemsOf is plan with | some l => goodJ P (Q .normal) l [] tm s | none => False
 | .seq a b, Q, tm, s => wpC P B nt a (thenQ (wpC P B nt b Q) Q) tm s
 | .cond x a b, Q, tm, s => CondT (x.ev tm) (wpC P B nt a Q tm s) (wpC P B nt b Q tm s)
 | .block id a, Q, tm, s => wpC P B nt a (inBlockQ id Q) tm s
 | .loop a, Q, tm, s => SemL P B nt a Q tm s
 | .exit id, Q, tm, s => Q (.exit id) tm s
 | .scope a, Q, tm, s => SemS P B nt a a Q tm s
 | .label _, Q, tm, s => Q .normal tm s
 | .goto l, Q, tm, s => Q (.goto l) tm s
 | .ret, Q, tm, s => Q .ret tm s

theorem wpC_sound : ∀ {ac : AC} {Q : Exit → Tm → St → Prop} {tm : Tm} {s : St}, wpC P B nt ac Q tm s → Sem P B nt ac Q tm s := by
 intro ac
 induction ac with
 | skip => exact fun h => Sem.skip h
 | run is => exact fun h => Sem.run (vcJ_vcI h)
 | par is plan =>
   intro Q tm s h
   simp only [wpC] at h
   split at h
   · exact Sem.parL ‹_› (goodJ_goodL h)
   · exact h.elim
 | seq a b iha ihb =>
   intro Q tm s h
   refine Sem.seq ((iha h).mono fun e tm s hq => ?_)
   cases e with
   | normal => exact ihb hq
   | _ => exact hq
 | cond x a b iha ihb =>
   intro Q tm s h
   refine Sem.condT ?_
   simp only [wpC] at h
   unfold CondT at h ⊢
   split at h
   · exact ⟨fun e => iha (h.1 e), fun e => ihb (h.2 e)⟩
   · exact h.elim
 | block id a ih => exact fun h => Sem.block (ih h)
 | loop a ih => exact fun h => Sem.loop h
 | exit id => exact fun h => Sem.exit h
 | scope a ih => exact fun h => Sem.scope h
 | label l => exact fun h => Sem.label h
 | goto l => exact fun h => Sem.goto h
 | ret => exact fun h => Sem.ret h

/-! ### Its rules -/

section
variable (Q : Exit → Tm → St → Prop) (N : Tm → St → Prop) (tm : Tm) (s : St) (a b : AC) (is : List AI) (x : X)
theorem wp_skip' : wpC P B nt .skip Q tm s = Q .normal tm s := nd rfl
theorem wp_run' : wpC P B nt (.run is) Q tm s = vcJ P is (Q .normal) tm s := nd rfl
theorem wp_par' (plan : List (Nat × Nat)) : wpC P B nt (.par is plan) Q tm s = match itemsOf is plan with | some l => goodJ P (Q .normal) l [] tm s | none => False := nd rfl
theorem wp_seq' : wpC P B nt (.seq a b) Q tm s = wpC P B nt a (thenQ (wpC P B nt b Q) Q) tm s := nd rfl
theorem wp_cond' : wpC P B nt (.cond x a b) Q tm s = @CB (x.ev tm) ⟨wpC P B nt a Q tm s, wpC P B nt b Q tm s⟩ := nd rfl
theorem wp_block' (id : Nat) : wpC P B nt (.block id a) Q tm s = wpC P B nt a (inBlockQ id Q) tm s := nd rfl
theorem wp_loop' : wpC P B nt (.loop a) Q tm s = SemL P B nt a Q tm s := nd rfl
theorem wp_scope' : wpC P B nt (.scope a) Q tm s = SemS P B nt a a Q tm s := nd rfl
theorem wp_exit' (id : Nat) : wpC P B nt (.exit id) Q tm s = Q (.exit id) tm s := nd rfl
theorem wp_label' (id : Nat) : wpC P B nt (.label id) Q tm s = Q .normal tm s := nd rfl
theorem wp_goto' (id : Nat) : wpC P B nt (.goto id) Q tm s = Q (.goto id) tm s := nd rfl
theorem wp_ret' : wpC P B nt .ret Q tm s = Q .ret tm s := nd rfl
theorem thenQ_n : thenQ N Q .normal tm s = N tm s := nd rfl
theorem thenQ_r : thenQ N Q .ret tm s = Q .ret tm s := nd rfl
theorem thenQ_e (id : Nat) : thenQ N Q (.exit id) tm s = Q (.exit id) tm s := nd rfl
theorem thenQ_g (id : Nat) : thenQ N Q (.goto id) tm s = Q (.goto id) tm s := nd rfl
theorem blockQ_n (id : Nat) : inBlockQ id Q .normal tm s = Q .normal tm s := nd rfl
theorem blockQ_r (id : Nat) : inBlockQ id Q .ret tm s = Q .ret tm s := nd rfl
theorem blockQ_g (id l : Nat) : inBlockQ id Q (.goto l) tm s = Q (.goto l) tm s := nd rfl
theorem blockQ_e (id i : Nat) : inBlockQ id Q (.exit i) tm s = if i = id then Q .normal tm s else Q (.exit i) tm s := nd rfl
end

theorem SemL.onceW {a : AC} {Q : Exit → Tm → St → Prop} {tm : Tm} {s : St} (h : wpC P B nt a (thenQ (SemL P B nt a Q) Q) tm s) : SemL P B nt a Q tm s := SemL.once (wpC_sound h)
theorem SemS.onceW {a r : AC} {Q : Exit → Tm → St → Prop} {tm : Tm} {s : St} (h : wpC P B nt r (jumpA P B nt a Q) tm s) : SemS P B nt a r Q tm s := SemS.once (wpC_sound h)

/-! ### Weaker states at a loop's head, at a label -/

def TmW (tm : Tm) (n m : Nat) : Tm → Prop
 | [] => True
 | (k, d) :: r => Wk ((tm.get k).fg n m) d ∧ TmW tm n m r

theorem TmW.get {tm : Tm} {n m : Nat} : ∀ {tm' : Tm}, TmW tm n m tm' → ∀ t, Wk ((tm.get t).fg n m) (tm'.get t)
 | [], _, t => Wk.junk _
 | (k, d) :: r, h, t => by
   simp only [Tm.get]
   split
   · rename_i hk; subst hk; exact h.1
   · exact TmW.get h.2 t

theorem Holds.re {Q : Exit → Tm → St → Prop} {tm tm' : Tm} {s : St} {objs' : List (List D)} {act : Act} {w : World} (n m : Nat) (hn : B.s.objs.length ≤ n) (hm : B.s.toks.length ≤ m) (ht : TmW tm n m tm') (ho : WkR (s.cut n m).objs objs')
   (h : Holds B nt tm s act w) : Holds B nt tm' ⟨objs', (s.cut n m).toks⟩ act w := by
 obtain ⟨M, e, r, hr, h1, h2⟩ := h
 obtain ⟨r', le⟩ := (r.cut n m).weak ho
 have e' := e.cut hn hm
 refine ⟨M, e'.trans ⟨le, fun _ _ _ _ => rfl, fun o h1 h2 => ?_, fun t b c z hl e => .inl ⟨hl, c, z, e⟩, fun _ _ h => (h rfl).elim, Nat.le_refl _, rfl, rfl, rfl⟩, r', fun k => ((ht.get k) _ _ _ ((hr k).fg n m)).mono le, h1, h2⟩
 rw [← ho.len] at h2
 exact absurd h2 (Nat.not_lt.2 h1)

theorem SemL.re {a : AC} {Q : Exit → Tm → St → Prop} {tm : Tm} {s : St} (tm' : Tm) (objs' : List (List D)) (n m : Nat) (hn : B.s.objs.length ≤ n) (hm : B.s.toks.length ≤ m) (ht : TmW tm n m tm') (ho : WkR (s.cut n m).objs objs')
   (h : SemL P B nt a Q tm' ⟨objs', (s.cut n m).toks⟩) : SemL P B nt a Q tm s :=
 fun c hc act w hh => h c hc act w (hh.re (Q := Q) n m hn hm ht ho)

theorem SemS.re {a r : AC} {Q : Exit → Tm → St → Prop} {tm : Tm} {s : St} (tm' : Tm) (objs' : List (List D)) (n m : Nat) (hn : B.s.objs.length ≤ n) (hm : B.s.toks.length ≤ m) (ht : TmW tm n m tm') (ho : WkR (s.cut n m).objs objs')
   (h : SemS P B nt a r Q tm' ⟨objs', (s.cut n m).toks⟩) : SemS P B nt a r Q tm s :=
 fun c rest hc hr act w hh => h c rest hc hr act w (hh.re (Q := Q) n m hn hm ht ho)

theorem SemL.ind {ι : Type} {a : AC} {Q : Exit → Tm → St → Prop} (I : ι → Prop) (μ : ι → Nat) (TM : ι → Tm) (ST : ι → St)
   (step : ∀ i, I i → (∀ j, I j → μ j < μ i → SemL P B nt a Q (TM j) (ST j)) → wpC P B nt a (thenQ (SemL P B nt a Q) Q) (TM i) (ST i)) : ∀ i, I i → SemL P B nt a Q (TM i) (ST i) := by
 have key : ∀ n i, μ i < n → I i → SemL P B nt a Q (TM i) (ST i) := by
   intro n
   induction n with
   | zero => intro i h; exact absurd h (Nat.not_lt_zero _)
   | succ n ih => exact fun i h hi => SemL.onceW (step i hi fun j hj hH => ih j (by omega) hj)
 exact fun i hi => key (μ i + 1) i (Nat.lt_succ_self _) hi

theorem drop_cons {α : Type} {l rest : List α} {k : Nat} {x : α} (h : l.drop k = x :: rest) : l[k]? = some x ∧ l.drop (k + 1) = rest ∧ decide ((k : Int) < (l.length : Int)) = true ∧ k < l.length := by
 have h1 : l[k]? = some x := by
   have : (l.drop k)[0]? = some x := by rw [h]; rfl
   simpa using this
 have h2 := (List.getElem?_eq_some_iff.1 h1).1
 refine ⟨h1, ?_, by simpa using h2, h2⟩
 have : l.drop (k + 1) = (l.drop k).drop 1 := by rw [List.drop_drop]
 rw [this, h]; rfl

theorem drop_nil {α : Type} {l : List α} {k : Nat} (h : l.drop k = []) : decide ((k : Int) < (l.length : Int)) = false := by
 have := List.drop_eq_nil_iff.1 h
 simp; omega

theorem SemL.tokT {a : AC} {Q : Exit → Tm → St → Prop} {tm : Tm} {s : St} (t z' : Nat) {z : Nat} (hw : tm.get t = .slice .full z [])
   (h : SemL P B nt a Q (tm.set t (.slice (.tok s.toks.length) z' [])) { s with toks := s.toks ++ [some 0] }) : SemL P B nt a Q tm s := by
 intro c hc act w ⟨M, e, r, ht, h1, h2⟩
 obtain ⟨r', le⟩ := r.blank
 refine h c hc act w ⟨_, ext_blank e le, r', fun k => ?_, h1, h2⟩
 rw [Tm.get_set]
 split
 · rename_i hk; subst hk; have := ht k; rw [hw] at this; exact this.own
 · exact (ht k).mono le

theorem SemL.tokO {a : AC} {Q : Exit → Tm → St → Prop} {tm : Tm} {s : St} (o i z' : Nat) {z : Nat} {cs : List D} (hc : s.objs[o]? = some cs) (hi : cs[i]? = some (.slice .full z []))
   (h : SemL P B nt a Q tm ⟨s.objs.set o (cs.set i (.slice (.tok s.toks.length) z' [])), s.toks ++ [some 0]⟩) : SemL P B nt a Q tm s := by
 intro c hcc act w hh
 obtain ⟨M, e, r, ht, h1, h2⟩ := hh
 obtain ⟨r', le⟩ := r.blank
 have le' : Le M s (M.setT s.toks.length none) ⟨s.objs.set o (cs.set i (.slice (.tok s.toks.length) z' [])), s.toks ++ [some 0]⟩ := ⟨le.G, by simp, le.loc, le.t, le.tk⟩
 have le2 : Le (M.setT s.toks.length none) { s with toks := s.toks ++ [some 0] } (M.setT s.toks.length none) ⟨s.objs.set o (cs.set i (.slice (.tok s.toks.length) z' [])), s.toks ++ [some 0]⟩ :=
   ⟨fun _ _ _ h => h, by simp, fun _ _ => rfl, Nat.le_refl _, fun t n' _ e => ⟨n', e, Nat.le_refl _, fun _ => rfl⟩⟩
 have r2 : Rel (M.setT s.toks.length none) ⟨s.objs.set o (cs.set i (.slice (.tok s.toks.length) z' [])), s.toks ++ [some 0]⟩ w := by
   refine ⟨r'.comm, fun o' ds e => ?_, fun o ho => r'.objG o (by simpa using ho), fun o o' ho ho' => r'.inj o o' (by simpa using ho) (by simpa using ho'), r'.tok,
     fun t b c z o hv e ho => r'.tokObj t b c z o hv e (by simpa using ho), r'.tokInj⟩
   simp only [List.getElem?_set] at e
   split at e
   · rename_i ho
     subst ho
     split at e
     · cases e
       obtain ⟨vs, T, g1, g2, g3, g4⟩ := r.obj o cs hc
       refine ⟨vs, T, g1, by simpa using g2, g3, fun j d v e1 e2 => ?_⟩
       rw [List.getElem?_set] at e1
       split at e1
       · rename_i hj
         subst hj
         split at e1
         · cases e1
           exact ((g4 i _ v hi e2).own (z' := z')).mono le2
         · cases e1
       · exact (g4 j d v e1 e2).mono le'
     · cases e
   · obtain ⟨vs, T, g1, g2, g3, g4⟩ := r'.obj o' ds e
     exact ⟨vs, T, g1, g2, g3, fun i d v e1 e2 => (g4 i d v e1 e2).mono le2⟩
 have ee : Ext B.M B.s B.w (M.setT s.toks.length none) ⟨s.objs.set o (cs.set i (.slice (.tok s.toks.length) z' [])), s.toks ++ [some 0]⟩ w := by
   refine (ext_blank e le).trans ⟨le2, fun _ _ _ _ => rfl, fun o h1 h2 => ?_, fun t b c z hl e => .inl ⟨hl, c, z, e⟩, fun _ _ h => (h rfl).elim, Nat.le_refl _, rfl, rfl, rfl⟩
   simp at h2
   exact absurd h2 (Nat.not_lt.2 h1)
 exact h c hcc act w ⟨_, ee, r2, fun k => (ht k).mono le', h1, h2⟩

theorem jumpA_go {ac r : AC} {l : Nat} {Q : Exit → Tm → St → Prop} {tm : Tm} {s : St} (hf : findL ac l = some r) (h : wpC P B nt r (jumpA P B nt ac Q) tm s) : jumpA P B nt ac Q (.goto l) tm s := ⟨r, hf, SemS.onceW h⟩
theorem jumpA_to {ac r : AC} {l : Nat} {Q : Exit → Tm → St → Prop} {tm : Tm} {s : St} (hf : findL ac l = some r) (h : SemS P B nt ac r Q tm s) : jumpA P B nt ac Q (.goto l) tm s := ⟨r, hf, h⟩

theorem Sem.seqW {a b : AC} {Q : Exit → Tm → St → Prop} {tm : Tm} {s : St} (h : wpC P B nt a (thenQ (Sem P B nt b Q) Q) tm s) : Sem P B nt (.seq a b) Q tm s := Sem.seq (wpC_sound h)

theorem Sem.re {a : AC} {Q : Exit → Tm → St → Prop} {tm : Tm} {s : St} (tm' : Tm) (objs' : List (List D)) (n m : Nat) (hn : B.s.objs.length ≤ n) (hm : B.s.toks.length ≤ m) (ht : TmW tm n m tm') (ho : WkR (s.cut n m).objs objs')
   (h : Sem P B nt a Q tm' ⟨objs', (s.cut n m).toks⟩) : Sem P B nt a Q tm s :=
 fun c hc act w hh => h c hc act w (hh.re (Q := Q) n m hn hm ht ho)

/-! ### Functions -/

def Has (P : Program) (f nt : Nat) (res : List (Nat × Option (Bool × Nat))) (body : AC) : Prop := ∃ fn, P.funcs[f]? = some fn ∧ cF P fn = some ⟨nt, res, body⟩

theorem Fun.go {f : FuncId} {res : List (Nat × Option (Bool × Nat))} {body : AC} {args : List D} {s : St} {d : D} {s' : St} (h0 : Has P f nt res body) (hl : Nat.ble args.length nt = true)
   (h : ∀ (B : Base) (Q : Exit → Tm → St → Prop), B.s = s → retF s.objs.length s.toks.length res d s' = Q → wpC P B nt body Q (argTm 0 args) s) : Fun P f args s d s' := by
 obtain ⟨fn, hf, hc⟩ := h0
 exact Fun.intro ⟨fn, hf, hc⟩ (Nat.le_of_ble_eq_true hl) fun B hB => wpC_sound (h B _ hB rfl)

theorem Fun.methT {f : FuncId} {args row row' : List D} {rows rows' : List (List D)} {z z' k k' : Nat} (h : Fun P f (.ptr 0 0 :: .slice (.tok 0) z rows :: args) ⟨[row], [some k]⟩ (.slice (.tok 0) z' rows') ⟨[row'], [some k']⟩)
   (ha : D.oks 0 0 args = true) (hr : D.oks 0 0 row = true) (hr' : D.oks 0 0 row' = true) (hw : D.okr 0 0 rows = true) (hw' : D.okr 0 0 rows' = true)
   {s : St} {o t : Nat} (ho : s.objs[o]? = some row) (ht : s.toks[t]? = some (some k)) : Fun P f (.ptr o 0 :: .slice (.tok t) z rows :: args) s (.slice (.tok t) z' rows') ⟨s.objs.set o row', s.toks.set t (some k')⟩ := by
 refine ACalls.frame [o] [t] h (by simp) (by simp) (by simpa using (List.getElem?_eq_some_iff.1 ho).1) (by simpa using (List.getElem?_eq_some_iff.1 ht).1) rfl (fun i o' ds e1 e2 => ?_) rfl (fun i t' e1 => ?_)
   (by simp [D.rens, D.ren, Tag.ren, rens_ok00 _ _ _ ha, renr_ok00 _ _ _ hw])
   (by simp [D.oks, D.ok, Tag.ok, oks_mono (Nat.zero_le 1) (Nat.zero_le 1) _ ha, okr_mono (Nat.zero_le 1) (Nat.zero_le 1) _ hw]) ?_
 · cases i with
   | zero => simp at e1 e2; subst e1; subst e2; exact ⟨by rw [rens_ok00 _ _ _ hr]; exact ho, oks_mono (Nat.zero_le 1) (Nat.zero_le 1) _ hr⟩
   | succ i => simp at e1
 · cases i with
   | zero => simp at e1; subst e1; simp [ht]
   | succ i => simp at e1
 · rintro _ _ ⟨rfl, rfl⟩
   refine ⟨by simp [D.back, D.ren, Tag.ren, allNums, renr_ok00 _ _ _ hw'], ?_⟩
   simp [St.back, plug, rens_ok00 _ _ _ hr']

theorem Fun.tokF {f : FuncId} {pre post : List D} {rows rows' : List (List D)} {z z' k k' : Nat} (h : Fun P f (pre ++ .slice (.tok 0) z rows :: post) ⟨[], [some k]⟩ (.slice (.tok 0) z' rows') ⟨[], [some k']⟩)
   (hp : D.oks 0 0 pre = true) (ha : D.oks 0 0 post = true) (hw : D.okr 0 0 rows = true) (hw' : D.okr 0 0 rows' = true)
   {s : St} {t : Nat} (ht : s.toks[t]? = some (some k)) : Fun P f (pre ++ .slice (.tok t) z rows :: post) s (.slice (.tok t) z' rows') ⟨s.objs, s.toks.set t (some k')⟩ := by
 refine ACalls.frame [] [t] h (by simp) (by simp) (by simp) (by simpa using (List.getElem?_eq_some_iff.1 ht).1) rfl (fun i o' ds e1 e2 => by simp at e1) rfl (fun i t' e1 => ?_)
   ?_ ?_ ?_
 · cases i with
   | zero => simp at e1; subst e1; simp [ht]
   | succ i => simp at e1
 · have h1 := rens_ok00 [] [t] _ hp
   have h2 := rens_ok00 [] [t] _ ha
   rw [rens_eq] at h1 h2
   simp [rens_eq, D.ren, Tag.ren, h1, h2, renr_ok00 _ _ _ hw]
 · have h1 := oks_mono (n' := 0) (m' := 1) (Nat.le_refl 0) (Nat.zero_le 1) _ hp
   have h2 := oks_mono (n' := 0) (m' := 1) (Nat.le_refl 0) (Nat.zero_le 1) _ ha
   rw [oks_eq] at h1 h2 ⊢
   simp only [List.length_nil, List.length_cons, List.all_append, h1, Bool.true_and, List.all_cons, h2, Bool.and_true, D.ok, Tag.ok, okr_mono (Nat.zero_le 0) (Nat.zero_le 1) _ hw]
   rfl
 · rintro _ _ ⟨rfl, rfl⟩
   refine ⟨by simp [D.back, D.ren, Tag.ren, allNums, renr_ok00 _ _ _ hw'], ?_⟩
   simp [St.back, plug]

theorem CB_t (A C : Prop) : @CB (.bool true) ⟨A, C⟩ = A := by simp [CB, CondT]
theorem CB_f (A C : Prop) : @CB (.bool false) ⟨A, C⟩ = C := by simp [CB, CondT]
theorem CB_not (b : Bool) (A C : Prop) : @CB (.bool (!b)) ⟨A, C⟩ = @CB (.bool b) ⟨C, A⟩ := by
 cases b <;> simp [CB, CondT]
theorem CB_split {b : Bool} {A C : Prop} (h1 : b = true → A) (h2 : b = false → C) : @CB (.bool b) ⟨A, C⟩ := ⟨h1, h2⟩
theorem CB_ofT {b : Bool} {A C : Prop} (h : b = true) (h1 : b = true → A) : @CB (.bool b) ⟨A, C⟩ := CB_split h1 (fun h' => by rw [h] at h'; cases h')
theorem CB_ofF {b : Bool} {A C : Prop} (h : b = false) (h1 : b = false → C) : @CB (.bool b) ⟨A, C⟩ := CB_split (fun h' => by rw [h] at h'; cases h') h1
theorem leafR {n m : Nat} {res : List (Nat × Option (Bool × Nat))} {d : D} {s' : St} {tm : Tm} {s : St} {Q : Exit → Tm → St → Prop} (hQ : retF n m res d s' = Q)
   (h : ∃ l, resL res tm s = some l ∧ Wk ((oneD l).fg n m) d ∧ WkR (s.cut n m).objs s'.objs ∧ (s.cut n m).toks = s'.toks) : Q .ret tm s := hQ ▸ h
theorem leafN {n m : Nat} {res : List (Nat × Option (Bool × Nat))} {d : D} {s' : St} {tm : Tm} {s : St} {Q : Exit → Tm → St → Prop} (hQ : retF n m res d s' = Q)
   (h : ∃ l, resL res tm s = some l ∧ Wk ((oneD l).fg n m) d ∧ WkR (s.cut n m).objs s'.objs ∧ (s.cut n m).toks = s'.toks) : Q .normal tm s := hQ ▸ h
end

attribute [go_sem] wp_skip' wp_run' wp_par' wp_seq' wp_cond' wp_block' wp_loop' wp_scope' wp_exit' wp_label' wp_goto' wp_ret' thenQ_n thenQ_r thenQ_e thenQ_g blockQ_n blockQ_r blockQ_g blockQ_e
/-! ### The rules of single operations, each as an equation -/

theorem r_evalO_1 : ∀ (tm : Tm) (s : St) (x : X), evalO (AO.mv x) tm s = some (X.ev tm x, s) :=
 fun tm s x => nd (evalO.eq_1 tm s x)
theorem r_evalO_2 : ∀ (tm : Tm) (s : St) (c a b : X),
 evalO (AO.pick c a b) tm s =
   match X.ev tm c with
   | D.bool t => some (if t = true then X.ev tm a else X.ev tm b, s)
   | x => none :=
 fun tm s c a b => nd (evalO.eq_2 tm s c a b)
theorem r_evalO_3 : ∀ (tm : Tm) (s : St) (zero : List D),
 evalO (AO.alloc zero) tm s = some (D.ptr s.objs.length 0, { objs := s.objs ++ [zero], toks := s.toks }) :=
 fun tm s zero => nd (evalO.eq_3 tm s zero)
theorem r_evalO_4 : ∀ (tm : Tm) (s : St) (x : X),
 evalO (AO.box x) tm s =
   match (X.ev tm x).row with
   | some r => some (D.ptr s.objs.length 0, { objs := s.objs ++ [r], toks := s.toks })
   | none => none :=
 fun tm s x => nd (evalO.eq_4 tm s x)
theorem r_evalO_5 : ∀ (tm : Tm) (s : St) (zero : List D) (parts : List (Nat × Nat × X)),
 evalO (AO.build zero parts) tm s =
   match fillD zero (List.map (fun (p : Nat × Nat × X) => (p.fst, p.snd.fst, X.ev tm p.snd.snd)) parts) with
   | some cs => some (D.agg cs, s)
   | none => none :=
 fun tm s zero parts => nd (evalO.eq_5 tm s zero parts)
theorem r_evalO_6 : ∀ (tm : Tm) (s : St) (zero : List D) (size n : Nat) (parts : List (Nat × X)),
 evalO (AO.bslice zero size n parts) tm s =
   match fillRows size (zeroRows zero n) (List.map (fun (p : Nat × X) => (p.fst, X.ev tm p.snd)) parts) with
   | some rows => some (D.slice Tag.full size rows, s)
   | none => none :=
 fun tm s zero size n parts => nd (evalO.eq_6 tm s zero size n parts)
theorem r_evalO_7 : ∀ (tm : Tm) (s : St) (zero : List D) (size n : Nat) (parts : List (Nat × X)),
 evalO (AO.bslt zero size n parts) tm s =
   match fillRows size (zeroRows zero n) (List.map (fun (p : Nat × X) => (p.fst, X.ev tm p.snd)) parts) with
   | some rows =>
     some (D.slice (Tag.tok s.toks.length) size rows, { objs := s.objs, toks := s.toks ++ [some rows.length] })
   | none => none :=
 fun tm s zero size n parts => nd (evalO.eq_7 tm s zero size n parts)
theorem r_evalO_8 : ∀ (tm : Tm) (s : St) (x : X),
 evalO (AO.frz x) tm s =
   match X.ev tm x with
   | D.slice (Tag.tok t _) z rows =>
     if rows ≠ [] ∧ s.toks[t]? = some (some rows.length) then
       some (D.slice Tag.shared z rows, { objs := s.objs, toks := s.toks.set t none })
     else none
   | x => none :=
 fun tm s x => nd (evalO.eq_8 tm s x)
theorem r_evalO_9 : ∀ (tm : Tm) (s : St) (x : X) (agg : Bool) (size : Nat),
 evalO (AO.load x agg size) tm s =
   match X.ev tm x with
   | D.ptr o off =>
     match s.objs[o]? with
     | some cs =>
       match part cs off agg size with
       | some d => some (d, s)
       | none => none
     | none => none
   | D.cptr row off =>
     match part row off agg size with
     | some d => some (d, s)
     | none => none
   | x => none :=
 fun tm s x agg size => nd (evalO.eq_9 tm s x agg size)
theorem r_evalO_10 : ∀ (tm : Tm) (s : St) (p x : X) (size : Nat),
 evalO (AO.store p x size) tm s =
   match X.ev tm p, (X.ev tm x).row with
   | D.ptr o off, some r =>
     match s.objs[o]? with
     | some cs =>
       if r.length = size ∧ off + size ≤ cs.length then
         some (D.tuple [], { objs := s.objs.set o (splice cs off r), toks := s.toks })
       else none
     | none => none
   | x, x_1 => none :=
 fun tm s p x size => nd (evalO.eq_10 tm s p x size)
theorem r_evalO_11 : ∀ (tm : Tm) (s : St) (x : X),
 evalO (AO.nilck x) tm s =
   match X.ev tm x with
   | D.ptr o off => some (D.ptr o off, s)
   | D.cptr row off => some (D.cptr row off, s)
   | x => none :=
 fun tm s x => nd (evalO.eq_11 tm s x)
theorem r_evalO_12 : ∀ (tm : Tm) (s : St) (op : BinOp) (x y : X),
 evalO (AO.bin op x y) tm s =
   match binD op (X.ev tm x) (X.ev tm y) with
   | some d => some (d, s)
   | none => none :=
 fun tm s op x y => nd (evalO.eq_12 tm s op x y)
theorem r_evalO_13 : ∀ (tm : Tm) (s : St) (neg : Bool) (x y : X),
 evalO (AO.eqb neg x y) tm s =
   match X.ev tm x, X.ev tm y with
   | D.bool a, D.bool b => some (D.bool (if neg = true then !a == b else a == b), s)
   | x, x_1 => none :=
 fun tm s neg x y => nd (evalO.eq_13 tm s neg x y)
theorem r_evalO_14 : ∀ (tm : Tm) (s : St) (neg : Bool) (ks : List Nat) (x y : X),
 evalO (AO.eqs neg ks x y) tm s =
   match X.ev tm x, X.ev tm y with
   | D.agg a, D.agg b =>
     match cellsEq ks a b with
     | some e => some (D.bool (if neg = true then !e else e), s)
     | none => none
   | x, x_1 => none :=
 fun tm s neg ks x y => nd (evalO.eq_14 tm s neg ks x y)
theorem r_evalO_15 : ∀ (tm : Tm) (s : St) (neg : Bool) (x y : X),
 evalO (AO.eqp neg x y) tm s =
   match X.ev tm x, X.ev tm y with
   | D.nilp, D.nilp => some (D.bool !neg, s)
   | D.ptr o off, D.nilp => some (D.bool neg, s)
   | D.cptr row off, D.nilp => some (D.bool neg, s)
   | x, x_1 => none :=
 fun tm s neg x y => nd (evalO.eq_15 tm s neg x y)
theorem r_evalO_16 : ∀ (tm : Tm) (s : St) (op : UnOp) (x : X),
 evalO (AO.un op x) tm s =
   match unD op (X.ev tm x) with
   | some d => some (d, s)
   | none => none :=
 fun tm s op x => nd (evalO.eq_16 tm s op x)
theorem r_evalO_17 : ∀ (tm : Tm) (s : St) (k : IntKind) (x : X),
 evalO (AO.conv k x) tm s =
   match X.ev tm x with
   | D.int k_1 n => some (D.int k (k.wrap n), s)
   | x => none :=
 fun tm s k x => nd (evalO.eq_17 tm s k x)
theorem r_evalO_18 : ∀ (tm : Tm) (s : St) (x : X),
 evalO (AO.tostr x) tm s =
   match X.ev tm x with
   | D.slice g size rows =>
     match bytesOfRows rows with
     | some b => some (D.str b, s)
     | none => none
   | x => none :=
 fun tm s x => nd (evalO.eq_18 tm s x)
theorem r_evalO_19 : ∀ (tm : Tm) (s : St) (x : X),
 evalO (AO.tobytes x) tm s =
   match X.ev tm x with
   | D.str l => some (D.slice Tag.shared 1 (List.map (fun (c : UInt8) => [D.int IntKind.u8 ↑c.toNat]) l), s)
   | x => none :=
 fun tm s x => nd (evalO.eq_19 tm s x)
theorem r_evalO_20 : ∀ (tm : Tm) (s : St) (size : Nat) (x : X) (lo hi : Option X),
 evalO (AO.slc size x lo hi) tm s =
   match X.ev tm x with
   | D.slice g z rows =>
     match loD (Option.map (fun (x : X) => X.ev tm x) lo),
       hiD (Option.map (fun (x : X) => X.ev tm x) hi) rows.length with
     | some l, some h =>
       if (rows = [] ∨ z = size) ∧ 0 ≤ l ∧ l ≤ h ∧ h ≤ ↑rows.length then
         some
           (D.slice (if l = 0 then g.cut (decide (h = ↑rows.length)) else Tag.shared) z
               (List.drop l.toNat (List.take h.toNat rows)),
             s)
       else none
     | x, x_1 => none
   | x => none :=
 fun tm s size x lo hi => nd (evalO.eq_20 tm s size x lo hi)
theorem r_evalO_21 : ∀ (tm : Tm) (s : St) (x : X) (lo hi : Option X),
 evalO (AO.sslc x lo hi) tm s =
   match X.ev tm x with
   | D.str t =>
     match loD (Option.map (fun (x : X) => X.ev tm x) lo), hiD (Option.map (fun (x : X) => X.ev tm x) hi) t.length with
     | some l, some h =>
       if 0 ≤ l ∧ l ≤ h ∧ h ≤ ↑t.length then some (D.str (List.drop l.toNat (List.take h.toNat t)), s) else none
     | x, x_1 => none
   | x => none :=
 fun tm s x lo hi => nd (evalO.eq_21 tm s x lo hi)
theorem r_evalO_22 : ∀ (tm : Tm) (s : St) (x : X) (off : Nat),
 evalO (AO.faddr x off) tm s =
   match X.ev tm x with
   | D.ptr o k => some (D.ptr o (k + off), s)
   | D.cptr row k => some (D.cptr row (k + off), s)
   | x => none :=
 fun tm s x off => nd (evalO.eq_22 tm s x off)
theorem r_evalO_23 : ∀ (tm : Tm) (s : St) (x : X) (off : Nat) (agg : Bool) (size : Nat),
 evalO (AO.fld x off agg size) tm s =
   match X.ev tm x with
   | D.agg cs =>
     match part cs off agg size with
     | some d => some (d, s)
     | none => none
   | x => none :=
 fun tm s x off agg size => nd (evalO.eq_23 tm s x off agg size)
theorem r_evalO_24 : ∀ (tm : Tm) (s : St) (x i : X) (size : Nat),
 evalO (AO.iaddr x i size) tm s =
   match X.ev tm x, X.ev tm i with
   | D.slice g z rows, D.int k n =>
     if 0 ≤ n ∧ z = size then
       match rows[n.toNat]? with
       | some row => some (D.cptr row 0, s)
       | none => none
     else none
   | x, x_1 => none :=
 fun tm s x i size => nd (evalO.eq_24 tm s x i size)
theorem r_evalO_25 : ∀ (tm : Tm) (s : St) (x i : X),
 evalO (AO.sidx x i) tm s =
   match X.ev tm x, X.ev tm i with
   | D.str t, D.int k n =>
     if 0 ≤ n then
       match t[n.toNat]? with
       | some c => some (D.int IntKind.u8 ↑c.toNat, s)
       | none => none
     else none
   | x, x_1 => none :=
 fun tm s x i => nd (evalO.eq_25 tm s x i)
theorem r_evalO_26 : ∀ (tm : Tm) (s : St) (x : X) (i : Nat),
 evalO (AO.ext x i) tm s =
   match X.ev tm x with
   | D.tuple ds =>
     match ds[i]? with
     | some d => some (d, s)
     | none => none
   | x => none :=
 fun tm s x i => nd (evalO.eq_26 tm s x i)
theorem r_evalO_27 : ∀ (tm : Tm) (s : St) (x : X),
 evalO (AO.slen x) tm s =
   match X.ev tm x with
   | D.str t => some (D.int IntKind.i64 ↑t.length, s)
   | x => none :=
 fun tm s x => nd (evalO.eq_27 tm s x)
theorem r_evalO_28 : ∀ (tm : Tm) (s : St) (x : X),
 evalO (AO.len x) tm s =
   match X.ev tm x with
   | D.slice g size rows => some (D.int IntKind.i64 ↑rows.length, s)
   | x => none :=
 fun tm s x => nd (evalO.eq_28 tm s x)
theorem r_evalO_29 : ∀ (tm : Tm) (s : St) (size bytes : Nat) (x y : X),
 evalO (AO.app size bytes x y) tm s = appD size bytes (X.ev tm x) (X.ev tm y) s :=
 fun tm s size bytes x y => nd (evalO.eq_29 tm s size bytes x y)
theorem r_evalO_30 : ∀ (tm : Tm) (s : St) (isMax : Bool) (x y : X),
 evalO (AO.mm isMax x y) tm s =
   match X.ev tm x, X.ev tm y with
   | D.int k a, D.int k' b =>
     if k = k' then some (D.int k (if isMax = true then if b > a then b else a else if b < a then b else a), s)
     else none
   | x, x_1 => none :=
 fun tm s isMax x y => nd (evalO.eq_30 tm s isMax x y)
theorem r_evalO_31 (tm : Tm) (s : St) (r : List D) (T : TypeId) : evalO (AO.allocB (.nilp :: r) T) tm s = some (.ptr s.objs.length 0, { objs := s.objs ++ [.selfp T s.objs.length :: r], toks := s.toks }) := nd rfl
theorem r_evalO_32 (tm : Tm) (s : St) (x : X) (T : TypeId) : evalO (AO.boxB x T) tm s =
   match (x.ev tm).row with
   | some (.nilp :: r) => some (.ptr s.objs.length 0, { objs := s.objs ++ [.selfp T s.objs.length :: r], toks := s.toks })
   | _ => none := nd rfl
theorem r_evalO_33 (tm : Tm) (s : St) (x y : X) : evalO (AO.apps x y) tm s =
   match y.ev tm with
   | .str l => appB (x.ev tm) (.slice .shared 1 (l.map fun c => [.int .u8 c.toNat])) s
   | _ => none := nd rfl
theorem r_evalO_34 (tm : Tm) (s : St) (x y : X) : evalO (AO.appb x y) tm s = appB (x.ev tm) (y.ev tm) s := nd rfl
theorem r_AO_core_34 (x y : X) : (AO.appb x y).core = true := nd rfl
theorem r_AO_core_31 (z : List D) (T : TypeId) : (AO.allocB z T).core = true := nd rfl
theorem r_AO_core_32 (x : X) (T : TypeId) : (AO.boxB x T).core = true := nd rfl
theorem r_AO_core_33 (x y : X) : (AO.apps x y).core = true := nd rfl
theorem r_D_fg_11 (n m : Nat) (v : Value) : D.fg n m (.val v) = .val v := nd (by simp only [D.fg])
theorem r_D_fg_12 (n m : Nat) (T : TypeId) (o : Nat) : D.fg n m (.selfp T o) = if o < n then .selfp T o else .junk := nd (by simp only [D.fg])
theorem r_X_ev_1 : ∀ (tm : Tm) (t : Nat), X.ev tm (X.s t) = tm.get t :=
 fun tm t => nd (X.ev.eq_1 tm t)
theorem r_X_ev_2 : ∀ (tm : Tm) (d : D), X.ev tm (X.k d) = d :=
 fun tm d => nd (X.ev.eq_2 tm d)
theorem r_Tm_put_1 : ∀ (tm : Tm) (d : D) (t : Nat), tm.put (some t) d = tm.set t d :=
 fun tm d t => nd (Tm.put.eq_1 tm d t)
theorem r_Tm_put_2 : ∀ (tm : Tm) (d : D), tm.put none d = tm :=
 fun tm d => nd (Tm.put.eq_2 tm d)
theorem r_Tm_set_1 : ∀ (x : Nat) (x_1 : D), Tm.set [] x x_1 = [(x, x_1)] :=
 fun x x_1 => nd (Tm.set.eq_1 x x_1)
theorem r_Tm_set_2 : ∀ (x : Nat) (x_1 : D) (k : Nat) (e : D) (r : List (Nat × D)),
 Tm.set ((k, e) :: r) x x_1 = if k = x then (k, x_1) :: r else (k, e) :: Tm.set r x x_1 :=
 fun x x_1 k e r => nd (Tm.set.eq_2 x x_1 k e r)
theorem r_Tm_get_1 : ∀ (x : Nat), Tm.get [] x = D.junk :=
 fun x => nd (Tm.get.eq_1 x)
theorem r_Tm_get_2 : ∀ (x k : Nat) (d : D) (r : List (Nat × D)), Tm.get ((k, d) :: r) x = if k = x then d else Tm.get r x :=
 fun x k d r => nd (Tm.get.eq_2 x k d r)
theorem r_argTm_1 : ∀ (x : Nat), argTm x [] = [] :=
 fun x => nd (argTm.eq_1 x)
theorem r_argTm_2 : ∀ (x : Nat) (d : D) (r : List D), argTm x (d :: r) = (x, d) :: argTm (x + 1) r :=
 fun x d r => nd (argTm.eq_2 x d r)
theorem r_AI_dst_1 : ∀ (d : Option Nat) (g : Option (Nat × Bool)) (o : AO), (AI.op d g o).dst = d :=
 fun d g o => nd (AI.dst.eq_1 d g o)
theorem r_AI_dst_2 : ∀ (d : Option Nat) (g : Option (Nat × Bool)) (f : Nat) (xs : List X), (AI.call d g f xs).dst = d :=
 fun d g f xs => nd (AI.dst.eq_2 d g f xs)
theorem r_AI_dst_3 : ∀ (d : Option Nat) (g : Option (Nat × Bool)) (neg : Bool) (x_1 : X), (AI.nil d g neg x_1).dst = d :=
 fun d g neg x_1 => nd (AI.dst.eq_3 d g neg x_1)
theorem r_part_1 : ∀ (cs : List D) (off size : Nat),
 part cs off true size = if off + size ≤ cs.length then some (D.agg (List.take size (List.drop off cs))) else none :=
 fun cs off size => nd (part.eq_1 cs off size)
theorem r_part_2 : ∀ (cs : List D) (off size : Nat), part cs off false size = cs[off]? :=
 fun cs off size => nd (part.eq_2 cs off size)
theorem r_splice_1 : ∀ (cs : List D) (off : Nat) (r : List D),
 splice cs off r = List.take off cs ++ r ++ List.drop (off + r.length) cs :=
 fun cs off r => nd (splice.eq_1 cs off r)
theorem r_fillD_1 : ∀ (cells : List D), fillD cells [] = some cells :=
 fun cells => nd (fillD.eq_1 cells)
theorem r_fillD_2 : ∀ (cells : List D) (off size : Nat) (d : D) (rest : List (Nat × Nat × D)),
 fillD cells ((off, size, d) :: rest) =
   match d.row with
   | none => none
   | some r => if r.length = size ∧ off + size ≤ cells.length then fillD (splice cells off r) rest else none :=
 fun cells off size d rest => nd (fillD.eq_2 cells off size d rest)
theorem r_fillRows_1 : ∀ (size : Nat) (rows : List (List D)), fillRows size rows [] = some rows :=
 fun size rows => nd (fillRows.eq_1 size rows)
theorem r_fillRows_2 : ∀ (size : Nat) (rows : List (List D)) (i : Nat) (d : D) (rest : List (Nat × D)),
 fillRows size rows ((i, d) :: rest) =
   match d.row with
   | none => none
   | some r => if r.length = size ∧ i < rows.length then fillRows size (rows.set i r) rest else none :=
 fun size rows i d rest => nd (fillRows.eq_2 size rows i d rest)
theorem r_zeroRows_1 : ∀ (zero : List D), zeroRows zero 0 = [] :=
 fun zero => nd (zeroRows.eq_1 zero)
theorem r_zeroRows_2 : ∀ (zero : List D) (i : Nat), zeroRows zero i.succ = zero :: zeroRows zero i :=
 fun zero i => nd (zeroRows.eq_2 zero i)
theorem r_binD_1 : ∀ (op : BinOp) (k : IntKind) (a : Int) (k' : IntKind) (b : Int),
 binD op (D.int k a) (D.int k' b) = if k = k' then binInt op k a b else none :=
 fun op k a k' b => nd (binD.eq_1 op k a k' b)
theorem r_binD_2 : ∀ (op : BinOp) (a b : List UInt8), binD op (D.str a) (D.str b) = binStr op a b :=
 fun op a b => nd (binD.eq_2 op a b)
theorem r_binInt_1 : ∀ (k : IntKind) (a b : Int), binInt BinOp.add k a b = some (D.int k (k.wrap (a + b))) :=
 fun k a b => nd (binInt.eq_1 k a b)
theorem r_binInt_2 : ∀ (k : IntKind) (a b : Int), binInt BinOp.sub k a b = some (D.int k (k.wrap (a - b))) :=
 fun k a b => nd (binInt.eq_2 k a b)
theorem r_binInt_3 : ∀ (k : IntKind) (a b : Int), binInt BinOp.mul k a b = some (D.int k (k.wrap (a * b))) :=
 fun k a b => nd (binInt.eq_3 k a b)
theorem r_binInt_4 : ∀ (k : IntKind) (a b : Int),
 binInt BinOp.quo k a b = if b = 0 then none else some (D.int k (k.wrap (a.tdiv b))) :=
 fun k a b => nd (binInt.eq_4 k a b)
theorem r_binInt_5 : ∀ (k : IntKind) (a b : Int), binInt BinOp.rem k a b = if b = 0 then none else some (D.int k (a.tmod b)) :=
 fun k a b => nd (binInt.eq_5 k a b)
theorem r_binInt_6 : ∀ (k : IntKind) (a b : Int), binInt BinOp.eql k a b = some (D.bool (a == b)) :=
 fun k a b => nd (binInt.eq_6 k a b)
theorem r_binInt_7 : ∀ (k : IntKind) (a b : Int), binInt BinOp.neq k a b = some (D.bool (a != b)) :=
 fun k a b => nd (binInt.eq_7 k a b)
theorem r_binInt_8 : ∀ (k : IntKind) (a b : Int), binInt BinOp.lss k a b = some (D.bool (decide (a < b))) :=
 fun k a b => nd (binInt.eq_8 k a b)
theorem r_binInt_9 : ∀ (k : IntKind) (a b : Int), binInt BinOp.leq k a b = some (D.bool (decide (a ≤ b))) :=
 fun k a b => nd (binInt.eq_9 k a b)
theorem r_binInt_10 : ∀ (k : IntKind) (a b : Int), binInt BinOp.gtr k a b = some (D.bool (decide (a > b))) :=
 fun k a b => nd (binInt.eq_10 k a b)
theorem r_binInt_11 : ∀ (k : IntKind) (a b : Int), binInt BinOp.geq k a b = some (D.bool (decide (a ≥ b))) :=
 fun k a b => nd (binInt.eq_11 k a b)
theorem r_binStr_1 : ∀ (a b : List UInt8),
 binStr BinOp.add a b = if a.length + b.length ≤ maxStr then some (D.str (a ++ b)) else none :=
 fun a b => nd (binStr.eq_1 a b)
theorem r_binStr_2 : ∀ (a b : List UInt8), binStr BinOp.eql a b = some (D.bool (a == b)) :=
 fun a b => nd (binStr.eq_2 a b)
theorem r_binStr_3 : ∀ (a b : List UInt8), binStr BinOp.neq a b = some (D.bool !a == b) :=
 fun a b => nd (binStr.eq_3 a b)
theorem r_binStr_4 : ∀ (a b : List UInt8), binStr BinOp.lss a b = some (D.bool (bytesLess a b)) :=
 fun a b => nd (binStr.eq_4 a b)
theorem r_unD_1 : ∀ (k : IntKind) (n : Int), unD UnOp.neg (D.int k n) = some (D.int k (k.wrap (0 - n))) :=
 fun k n => nd (unD.eq_1 k n)
theorem r_unD_2 : ∀ (b : Bool), unD UnOp.not (D.bool b) = some (D.bool !b) :=
 fun b => nd (unD.eq_2 b)
theorem r_cellEq_1 : ∀ (k : IntKind) (a : Int) (k' : IntKind) (b : Int),
 cellEq 0 (D.int k a) (D.int k' b) = if k = k' then some (a == b) else none :=
 fun k a k' b => nd (cellEq.eq_1 k a k' b)
theorem r_cellEq_2 : ∀ (a b : Bool), cellEq 1 (D.bool a) (D.bool b) = some (a == b) :=
 fun a b => nd (cellEq.eq_2 a b)
theorem r_cellEq_3 : ∀ (a b : List UInt8), cellEq 2 (D.str a) (D.str b) = some (a == b) :=
 fun a b => nd (cellEq.eq_3 a b)
theorem r_cellsEq_1 : cellsEq [] [] [] = some true :=
 nd (cellsEq.eq_1)
theorem r_cellsEq_2 : ∀ (k : Nat) (ks : List Nat) (x_3 : D) (xs : List D) (y : D) (ys : List D),
 cellsEq (k :: ks) (x_3 :: xs) (y :: ys) =
   match cellEq k x_3 y with
   | none => none
   | some true => cellsEq ks xs ys
   | some false => some false :=
 fun k ks x_3 xs y ys => nd (cellsEq.eq_2 k ks x_3 xs y ys)
theorem r_loD_1 : loD none = some 0 :=
 nd (loD.eq_1)
theorem r_loD_2 : ∀ (k : IntKind) (n : Int), loD (some (D.int k n)) = some n :=
 fun k n => nd (loD.eq_2 k n)
theorem r_hiD_1 : ∀ (len : Nat), hiD none len = some ↑len :=
 fun len => nd (hiD.eq_1 len)
theorem r_hiD_2 : ∀ (len : Nat) (k : IntKind) (n : Int), hiD (some (D.int k n)) len = some n :=
 fun len k n => nd (hiD.eq_2 len k n)
theorem r_AO_core_1 : ∀ (zero : List D), (AO.alloc zero).core = true :=
 fun zero => nd (AO.core.eq_1 zero)
theorem r_AO_core_2 : ∀ (x_1 : X), (AO.box x_1).core = true :=
 fun x_1 => nd (AO.core.eq_2 x_1)
theorem r_AO_core_3 : ∀ (zero : List D) (size n : Nat) (parts : List (Nat × X)), (AO.bslt zero size n parts).core = true :=
 fun zero size n parts => nd (AO.core.eq_3 zero size n parts)
theorem r_AO_core_4 : ∀ (x_1 : X), (AO.frz x_1).core = true :=
 fun x_1 => nd (AO.core.eq_4 x_1)
theorem r_AO_core_5 : ∀ (p x_1 : X) (size : Nat), (AO.store p x_1 size).core = true :=
 fun p x_1 size => nd (AO.core.eq_5 p x_1 size)
theorem r_AO_core_6 : ∀ (size bytes : Nat) (x_1 y : X), (AO.app size bytes x_1 y).core = true :=
 fun size bytes x_1 y => nd (AO.core.eq_6 size bytes x_1 y)
theorem r_AI_kind_1 : ∀ (val : Nat) (zero : List D), (AI.op (some val) none (AO.alloc zero)).kind = AK.alloc :=
 fun val zero => nd (AI.kind.eq_1 val zero)
theorem r_AO_kind_1 : ∀ (zero : List D), (AO.alloc zero).kind = AK.core :=
 fun zero => nd (AO.kind.eq_1 zero)
theorem r_AO_kind_2 : ∀ (x_1 : X), (AO.box x_1).kind = AK.core :=
 fun x_1 => nd (AO.kind.eq_2 x_1)
theorem r_AO_kind_3 : ∀ (zero : List D) (size n : Nat) (parts : List (Nat × X)), (AO.bslt zero size n parts).kind = AK.core :=
 fun zero size n parts => nd (AO.kind.eq_3 zero size n parts)
theorem r_AO_kind_4 : ∀ (x_1 : X), (AO.frz x_1).kind = AK.core :=
 fun x_1 => nd (AO.kind.eq_4 x_1)
theorem r_AO_kind_5 : ∀ (p x_1 : X) (size : Nat), (AO.store p x_1 size).kind = AK.core :=
 fun p x_1 size => nd (AO.kind.eq_5 p x_1 size)
theorem r_AO_kind_6 : ∀ (size bytes : Nat) (x_1 y : X), (AO.app size bytes x_1 y).kind = AK.core :=
 fun size bytes x_1 y => nd (AO.kind.eq_6 size bytes x_1 y)
theorem r_AO_kind_7 : ∀ (x_1 : X) (agg : Bool) (size : Nat), (AO.load x_1 agg size).kind = AK.load :=
 fun _ _ _ => nd rfl
theorem r_isCore_1 : isCore AK.core = true :=
 nd (isCore.eq_1)
theorem r_isCore_2 : isCore AK.alloc = true :=
 nd (isCore.eq_2)
theorem r_PastOk_1 : ∀ (i : AI) (tm : Tm) (d : D), PastOk i tm d [] = True :=
 fun i tm d => nd (PastOk.eq_1 i tm d)
theorem r_PastOk_2 : ∀ (i : AI) (tm : Tm) (d : D) (s : St) (r : List St),
 PastOk i tm d (s :: r) = (evM i tm s = some d ∧ PastOk i tm d r) :=
 fun i tm d s r => nd (PastOk.eq_2 i tm d s r)
theorem r_evM_1 : ∀ (tm : Tm) (s : St) (dst : Option Nat) (o : AO),
 evM (AI.op dst none o) tm s = Option.map (fun (x : D × St) => x.fst) (evalO o tm s) :=
 fun tm s dst o => nd (evM.eq_1 tm s dst o)
theorem r_evM_2 : ∀ (tm : Tm) (s : St) (dst : Option Nat) (t : Nat) (want : Bool) (o : AO),
 evM (AI.op dst (some (t, want)) o) tm s =
   match tm.get t with
   | D.bool b => if b = want then Option.map (fun (x : D × St) => x.fst) (evalO o tm s) else some (D.tuple [])
   | D.tuple vs => some (D.tuple [])
   | x => none :=
 fun tm s dst t want o => nd (evM.eq_2 tm s dst t want o)



theorem r_itemsOf_1 : ∀ (is : List AI), itemsOf is [] = some [] :=
 fun is => nd (itemsOf.eq_1 is)
theorem r_itemsOf_2 : ∀ (is : List AI) (q b : Nat) (r : List (Nat × Nat)),
 itemsOf is ((q, b) :: r) =
   match is[q]?, itemsOf is r with
   | some ai, some l => some ((ai, b) :: l)
   | x, x_1 => none :=
 fun is q b r => nd (itemsOf.eq_2 is q b r)
theorem r_TmW_1 : ∀ (tm : Tm) (n m : Nat), TmW tm n m [] = True :=
 fun tm n m => nd (TmW.eq_1 tm n m)
theorem r_TmW_2 : ∀ (tm : Tm) (n m k : Nat) (d : D) (r : List (Nat × D)),
 TmW tm n m ((k, d) :: r) = (Wk (D.fg n m (tm.get k)) d ∧ TmW tm n m r) :=
 fun tm n m k d r => nd (TmW.eq_2 tm n m k d r)
theorem r_D_fg_1 : ∀ (n m o off : Nat), D.fg n m (D.ptr o off) = if o < n then D.ptr o off else D.junk :=
 fun n m o off => nd (D.fg.eq_1 n m o off)
theorem r_D_fg_2 : ∀ (n m : Nat) (row : List D) (off : Nat), D.fg n m (D.cptr row off) = D.cptr (D.fgs n m row) off :=
 fun n m row off => nd (D.fg.eq_2 n m row off)
theorem r_D_fg_3 : ∀ (n m : Nat) (g : Tag) (z : Nat) (rows : List (List D)),
 D.fg n m (D.slice g z rows) = D.slice (Tag.fg m g) z (D.fgr n m rows) :=
 fun n m g z rows => nd (D.fg.eq_3 n m g z rows)
theorem r_D_fg_4 : ∀ (n m : Nat) (cs : List D), D.fg n m (D.agg cs) = D.agg (D.fgs n m cs) :=
 fun n m cs => nd (D.fg.eq_4 n m cs)
theorem r_D_fg_5 : ∀ (n m : Nat) (ds : List D), D.fg n m (D.tuple ds) = D.tuple (D.fgs n m ds) :=
 fun n m ds => nd (D.fg.eq_5 n m ds)
theorem r_D_fg_6 : ∀ (n m : Nat), D.fg n m D.junk = D.junk :=
 fun n m => nd (D.fg.eq_6 n m)
theorem r_D_fg_7 : ∀ (n m : Nat) (k : IntKind) (x_1 : Int), D.fg n m (D.int k x_1) = D.int k x_1 :=
 fun n m k x_1 => nd (D.fg.eq_7 n m k x_1)
theorem r_D_fg_8 : ∀ (n m : Nat) (b : Bool), D.fg n m (D.bool b) = D.bool b :=
 fun n m b => nd (D.fg.eq_8 n m b)
theorem r_D_fg_9 : ∀ (n m : Nat) (l : List UInt8), D.fg n m (D.str l) = D.str l :=
 fun n m l => nd (D.fg.eq_9 n m l)
theorem r_D_fg_10 : ∀ (n m : Nat), D.fg n m D.nilp = D.nilp :=
 fun n m => nd (D.fg.eq_10 n m)
theorem r_D_fgs_1 : ∀ (n m : Nat), D.fgs n m [] = [] :=
 fun n m => nd (D.fgs.eq_1 n m)
theorem r_D_fgs_2 : ∀ (n m : Nat) (d : D) (r : List D), D.fgs n m (d :: r) = D.fg n m d :: D.fgs n m r :=
 fun n m d r => nd (D.fgs.eq_2 n m d r)
theorem r_D_fgr_1 : ∀ (n m : Nat), D.fgr n m [] = [] :=
 fun n m => nd (D.fgr.eq_1 n m)
theorem r_D_fgr_2 : ∀ (n m : Nat) (d : List D) (r : List (List D)), D.fgr n m (d :: r) = D.fgs n m d :: D.fgr n m r :=
 fun n m d r => nd (D.fgr.eq_2 n m d r)
theorem r_Tag_fg_1 : ∀ (m t : Nat) (y : Bool), Tag.fg m (Tag.tok t y) = if t < m then Tag.tok t y else Tag.shared :=
 fun _ _ _ => nd rfl
theorem r_St_cut_1 : ∀ (s : St) (n m : Nat),
 s.cut n m = { objs := List.map (D.fgs n m) (List.take n s.objs), toks := List.take m s.toks } :=
 fun s n m => nd (St.cut.eq_1 s n m)
theorem r_oneD_1 : ∀ (d : D), oneD [d] = d :=
 fun d => nd (oneD.eq_1 d)

theorem app_tok1 (size bytes t : Nat) (rows : List (List D)) (g : Tag) (r : List D) (s : St) : appD size bytes (.slice (.tok t) size rows) (.slice g size [r]) s =
   if (rows.length + 1) * (bytes + 1) ≤ maxStr ∧ s.toks[t]? = some (some rows.length) then some (.slice (.tok t) size (rows ++ [r]), ⟨s.objs, s.toks.set t (some (rows.length + 1))⟩) else none := by
 simp only [appD, List.length_singleton]
 by_cases h1 : (rows.length + 1) * (bytes + 1) ≤ maxStr <;> by_cases h2 : s.toks[t]? = some (some rows.length) <;> simp [h1, h2]
theorem app_tokN {size bytes t : Nat} {rows new : List (List D)} {g : Tag} {s : St} (h1 : (rows.length + new.length) * (bytes + 1) ≤ maxStr) (h2 : s.toks[t]? = some (some rows.length)) :
   appD size bytes (.slice (.tok t) size rows) (.slice g size new) s = some (.slice (.tok t) size (rows ++ new), ⟨s.objs, s.toks.set t (some (rows.length + new.length))⟩) := by
 cases new with
 | nil =>
   have : s.toks.set t (some rows.length) = s.toks := by
     apply List.ext_getElem?
     intro i
     rw [List.getElem?_set]
     split
     · rename_i hi; subst hi; rw [h2, if_pos (List.getElem?_eq_some_iff.1 h2).1]
     · rfl
   simp only [List.length_nil, Nat.add_zero] at h1
   simp [appD, h1, this]
 | cons x l =>
   simp only [appD, h1, h2]
   simp
theorem app_full1 (size bytes z : Nat) (g : Tag) (r : List D) (s : St) : appD size bytes (.slice .full z []) (.slice g size [r]) s =
   if bytes + 1 ≤ maxStr then some (.slice (.tok s.toks.length) size [r], ⟨s.objs, s.toks ++ [some 1]⟩) else none := by
 simp [appD]

theorem jumpA_n {P : Program} {B : Base} {nt : Nat} (ac : AC) (Q : Exit → Tm → St → Prop) (tm : Tm) (s : St) : jumpA P B nt ac Q .normal tm s = Q .normal tm s := nd rfl
theorem jumpA_r {P : Program} {B : Base} {nt : Nat} (ac : AC) (Q : Exit → Tm → St → Prop) (tm : Tm) (s : St) : jumpA P B nt ac Q .ret tm s = Q .ret tm s := nd rfl
theorem jumpA_e {P : Program} {B : Base} {nt : Nat} (ac : AC) (Q : Exit → Tm → St → Prop) (tm : Tm) (s : St) (i : Nat) : jumpA P B nt ac Q (.exit i) tm s = Q (.exit i) tm s := nd rfl
theorem fg_full (m : Nat) : Tag.fg m .full = .full := nd rfl
theorem fg_shared (m : Nat) : Tag.fg m .shared = .shared := nd rfl
theorem s_nil {P : Program} (K : Tm → St → Prop) (tm : Tm) (s : St) : vcJ P [] K tm s = K tm s := nd rfl
theorem s_op {P : Program} (dst : Option Nat) (o : AO) (r : List AI) (K : Tm → St → Prop) (tm : Tm) (s : St) :
   vcJ P (.op dst none o :: r) K tm s = (match evalO o tm s with | some (d, s') => vcJ P r K (tm.put dst d) s' | none => False) := nd rfl
def KJ (P : Program) (r : List AI) (K : Tm → St → Prop) (tm : Tm) (dst : Option Nat) (d : D) (s : St) : Prop := vcJ P r K (tm.put dst d) s
theorem s_KJ {P : Program} (r : List AI) (K : Tm → St → Prop) (tm : Tm) (dst : Option Nat) (d : D) (s : St) : KJ P r K tm dst d s = vcJ P r K (tm.put dst d) s := nd rfl
theorem s_call {P : Program} (dst : Option Nat) (f : Nat) (xs : List X) (r : List AI) (K : Tm → St → Prop) (tm : Tm) (s : St) :
   vcJ P (.call dst none f xs :: r) K tm s = CL P f (xs.map (·.ev tm)) s (KJ P r K tm dst) := nd rfl
def NJ (P : Program) (dst : Option Nat) (neg : Bool) (x : D) (r : List AI) (K : Tm → St → Prop) (tm : Tm) (s : St) : Prop :=
 match x with
 | .slice _ _ rows => ∀ b : Bool, (rows ≠ [] → b = false) → vcJ P r K (tm.put dst (.bool (if neg then !b else b))) s
 | _ => False
theorem s_nilt {P : Program} (dst : Option Nat) (neg : Bool) (x : X) (r : List AI) (K : Tm → St → Prop) (tm : Tm) (s : St) :
   vcJ P (.nil dst none neg x :: r) K tm s = NJ P dst neg (x.ev tm) r K tm s := nd rfl
theorem NJ_cons {P : Program} (dst : Option Nat) (neg : Bool) (g : Tag) (z : Nat) (d : List D) (l : List (List D)) (r : List AI) (K : Tm → St → Prop) (tm : Tm) (s : St) :
   NJ P dst neg (.slice g z (d :: l)) r K tm s = vcJ P r K (tm.put dst (.bool neg)) s := by
 simp only [NJ, ne_eq, reduceCtorEq, not_false_eq_true, true_imp_iff, eq_iff_iff]
 refine ⟨fun h => by have := h false rfl; cases neg <;> exact this, fun h b hb => ?_⟩
 subst hb; cases neg <;> exact h
theorem NJ_split {P : Program} {dst : Option Nat} {neg : Bool} {g : Tag} {z : Nat} {l : List (List D)} {r : List AI} {K : Tm → St → Prop} {tm : Tm} {s : St}
   (h1 : l = [] → vcJ P r K (tm.put dst (.bool (!neg))) s) (h2 : vcJ P r K (tm.put dst (.bool neg)) s) : NJ P dst neg (.slice g z l) r K tm s := by
 intro b hb
 cases b with
 | false => cases neg <;> exact h2
 | true =>
   have : l = [] := Decidable.byContradiction fun h => by cases hb h
   cases neg <;> exact h1 this
theorem s_gop {P : Program} (dst : Option Nat) (t : Nat) (w : Bool) (o : AO) (r : List AI) (K : Tm → St → Prop) (tm : Tm) (s : St) :
   vcJ P (.op dst (some (t, w)) o :: r) K tm s = @GB (tm.get t) w ⟨(vcJ P (.op dst none o :: r) K tm s), (vcJ P r K (tm.put dst (.tuple [])) s)⟩ := nd rfl
theorem s_gcall {P : Program} (dst : Option Nat) (t : Nat) (w : Bool) (f : Nat) (xs : List X) (r : List AI) (K : Tm → St → Prop) (tm : Tm) (s : St) :
   vcJ P (.call dst (some (t, w)) f xs :: r) K tm s = @GB (tm.get t) w ⟨(vcJ P (.call dst none f xs :: r) K tm s), (vcJ P r K (tm.put dst (.tuple [])) s)⟩ := nd rfl
theorem s_gnil {P : Program} (dst : Option Nat) (t : Nat) (w : Bool) (neg : Bool) (x : X) (r : List AI) (K : Tm → St → Prop) (tm : Tm) (s : St) :
   vcJ P (.nil dst (some (t, w)) neg x :: r) K tm s = @GB (tm.get t) w ⟨(vcJ P (.nil dst none neg x :: r) K tm s), (vcJ P r K (tm.put dst (.tuple [])) s)⟩ := nd rfl
theorem GB_t (b : Bool) (A C : Prop) : @GB (.bool b) true ⟨A, C⟩ = @CB (.bool b) ⟨A, C⟩ := nd rfl
theorem GB_f (b : Bool) (A C : Prop) : @GB (.bool b) false ⟨A, C⟩ = @CB (.bool b) ⟨C, A⟩ := by
 cases b <;> simp [GB, CB, GJ, CondT]
theorem GB_u (l : List D) (w : Bool) (A C : Prop) : @GB (.tuple l) w ⟨A, C⟩ = C := nd rfl
theorem g_nil {P : Program} {K : Tm → St → Prop} (past : List St) (tm : Tm) (s : St) : goodJ P K [] past tm s = K tm s := nd rfl
def OJ (P : Program) (o : AO) (dst : Option Nat) (b : Nat) (r : List (AI × Nat)) (K : Tm → St → Prop) (past : List St) (tm : Tm) (s : St) : Bool → Prop
 | true => match evalO o tm s with | some (d, s') => goodJ P K r (s :: past) (tm.put dst d) s' | none => False
 | false => match evalO o tm s with | some (d, _) => PastOk (.op dst none o) tm d (past.take b) ∧ goodJ P K r past (tm.put dst d) s | none => False
theorem g_op {P : Program} {K : Tm → St → Prop} (dst : Option Nat) (o : AO) (b : Nat) (r : List (AI × Nat)) (past : List St) (tm : Tm) (s : St) :
   goodJ P K ((.op dst none o, b) :: r) past tm s = OJ P o dst b r K past tm s o.core := by
 simp only [goodJ, guardJ]
 cases o.core <;> rfl
theorem OJ_t {P : Program} (o : AO) (dst : Option Nat) (b : Nat) (r : List (AI × Nat)) (K : Tm → St → Prop) (past : List St) (tm : Tm) (s : St) :
   OJ P o dst b r K past tm s true = match evalO o tm s with | some (d, s') => goodJ P K r (s :: past) (tm.put dst d) s' | none => False := nd rfl
theorem OJ_f {P : Program} (o : AO) (dst : Option Nat) (b : Nat) (r : List (AI × Nat)) (K : Tm → St → Prop) (past : List St) (tm : Tm) (s : St) :
   OJ P o dst b r K past tm s false = match evalO o tm s with | some (d, _) => PastOk (.op dst none o) tm d (past.take b) ∧ goodJ P K r past (tm.put dst d) s | none => False := nd rfl
theorem g_gop {P : Program} {K : Tm → St → Prop} (dst : Option Nat) (t : Nat) (w : Bool) (o : AO) (b : Nat) (r : List (AI × Nat)) (past : List St) (tm : Tm) (s : St) :
   goodJ P K ((.op dst (some (t, w)) o, b) :: r) past tm s = @GB (tm.get t) w ⟨(goodJ P K ((.op dst none o, b) :: r) past tm s), (goodJ P K r (if o.core then s :: past else past) (tm.put dst (.tuple [])) s)⟩ := by
 simp only [GB, goodJ, guardJ]
 cases o.core <;> rfl
def KG (P : Program) (K : Tm → St → Prop) (r : List (AI × Nat)) (past : List St) (tm : Tm) (dst : Option Nat) (d : D) (s : St) : Prop := goodJ P K r past (tm.put dst d) s
theorem g_KG {P : Program} (K : Tm → St → Prop) (r : List (AI × Nat)) (past : List St) (tm : Tm) (dst : Option Nat) (d : D) (s : St) : KG P K r past tm dst d s = goodJ P K r past (tm.put dst d) s := nd rfl
theorem g_call {P : Program} {K : Tm → St → Prop} (dst : Option Nat) (f : Nat) (xs : List X) (b : Nat) (r : List (AI × Nat)) (past : List St) (tm : Tm) (s : St) :
   goodJ P K ((.call dst none f xs, b) :: r) past tm s = CL P f (xs.map (·.ev tm)) s (KG P K r (s :: past) tm dst) := nd rfl
theorem g_gcall {P : Program} {K : Tm → St → Prop} (dst : Option Nat) (t : Nat) (w : Bool) (f : Nat) (xs : List X) (b : Nat) (r : List (AI × Nat)) (past : List St) (tm : Tm) (s : St) :
   goodJ P K ((.call dst (some (t, w)) f xs, b) :: r) past tm s = @GB (tm.get t) w ⟨(goodJ P K ((.call dst none f xs, b) :: r) past tm s), (goodJ P K r (s :: past) (tm.put dst (.tuple [])) s)⟩ := nd rfl

/-! ### What closes by its form -/

class Ok (p : Prop) : Prop where
 out : p
instance : Ok True := ⟨trivial⟩
instance {p q : Prop} [Ok p] [Ok q] : Ok (p ∧ q) := ⟨⟨Ok.out, Ok.out⟩⟩
instance {α : Type} (a : α) : Ok (a = a) := ⟨rfl⟩
instance (d : D) : Ok (Wk d .junk) := ⟨Wk.junk d⟩
instance {l l' : List D} [Ok (WkL l l')] : Ok (Wk (.tuple l) (.tuple l')) := ⟨Wk.tuple Ok.out⟩
instance {l l' : List D} [Ok (WkL l l')] : Ok (Wk (.agg l) (.agg l')) := ⟨Wk.agg Ok.out⟩
instance {g : Tag} {z : Nat} {l l' : List (List D)} [Ok (WkR l l')] : Ok (Wk (.slice g z l) (.slice g z l')) := ⟨Wk.rows Ok.out⟩
instance {g : Tag} {z : Nat} {l l' : List (List D)} [Ok (WkR l l')] : Ok (Wk (.slice g z l) (.slice .shared z l')) := ⟨Wk.slice Ok.out⟩
instance (z z' : Nat) : Ok (Wk (.slice .full z []) (.slice .full z' [])) := ⟨Wk.fnil z z'⟩
instance (g : Tag) (z z' : Nat) : Ok (Wk (.slice g z []) (.slice .shared z' [])) := ⟨Wk.nil g z z'⟩
instance (d : D) : Ok (Wk d d) := ⟨Wk.refl d⟩
instance : Ok (WkL [] []) := ⟨.nil⟩
instance {d d' : D} {l l' : List D} [Ok (Wk d d')] [Ok (WkL l l')] : Ok (WkL (d :: l) (d' :: l')) := ⟨.cons Ok.out Ok.out⟩
instance (l : List D) : Ok (WkL l l) := ⟨WkL.refl l⟩
instance : Ok (WkR [] []) := ⟨.nil⟩
instance {d d' : List D} {l l' : List (List D)} [Ok (WkL d d')] [Ok (WkR l l')] : Ok (WkR (d :: l) (d' :: l')) := ⟨.cons Ok.out Ok.out⟩
instance {a a' b b' : List (List D)} [Ok (WkR a a')] [Ok (WkR b b')] : Ok (WkR (a ++ b) (a' ++ b')) := ⟨WkR.append Ok.out Ok.out⟩
instance (l : List (List D)) : Ok (WkR l l) := ⟨WkR.refl l⟩

theorem bs : (∀ b, (true || b) = true) ∧ (∀ b, (false || b) = b) ∧ (∀ b, (b || true) = true) ∧ (∀ b, (b || false) = b) ∧ (∀ b, (true && b) = b) ∧ (∀ b, (false && b) = false) ∧ (∀ b, (b && true) = b) ∧ (∀ b, (b && false) = false) ∧
   (!true) = false ∧ (!false) = true ∧ (∀ b, (!!b) = b) ∧ ((false = true) = False) ∧ (∀ (α β : Type) (a : α) (f : α → Option β), (some a).bind f = f a) ∧
   (∀ (α β γ : Type) (x : Option α) (f : α → Option β) (g : β → Option γ), (x.bind f).bind g = x.bind fun y => (f y).bind g) :=
 ⟨Bool.true_or, Bool.false_or, Bool.or_true, Bool.or_false, Bool.true_and, Bool.false_and, Bool.and_true, Bool.and_false, rfl, rfl, Bool.not_not, by simp, fun _ _ _ _ => rfl, fun _ _ _ x f g => Option.bind_assoc x f g⟩

attribute [go_sem] CB_not CB_t CB_f s_nil s_op s_KJ s_call s_nilt NJ_cons s_gop s_gcall s_gnil GB_t GB_f GB_u g_nil g_op OJ_t OJ_f g_gop g_KG g_call g_gcall AO.core AI.kind AO.kind isCore
attribute [go_sem] r_evalO_34 r_AO_core_34 r_evalO_31 r_evalO_32 r_evalO_33 r_AO_core_31 r_AO_core_32 r_AO_core_33 r_D_fg_11 r_D_fg_12 row_val row_selfp row_int row_bool row_str row_nilp row_ptr row_cptr row_slice row_agg cut_full cut_shared cut_tokn
attribute [go_sem] r_evalO_1 r_evalO_2 r_evalO_3 r_evalO_4 r_evalO_5 r_evalO_6 r_evalO_7 r_evalO_8 r_evalO_9 r_evalO_10 r_evalO_11 r_evalO_12 r_evalO_13 r_evalO_14 r_evalO_15 r_evalO_16 r_evalO_17 r_evalO_18 r_evalO_19 r_evalO_20 r_evalO_21 r_evalO_22 r_evalO_23 r_evalO_24 r_evalO_25 r_evalO_26 r_evalO_27 r_evalO_28 r_evalO_29 r_evalO_30 r_X_ev_1 r_X_ev_2 r_Tm_put_1 r_Tm_put_2 r_Tm_set_1 r_Tm_set_2 r_Tm_get_1 r_Tm_get_2 r_argTm_1 r_argTm_2 r_AI_dst_1 r_AI_dst_2 r_AI_dst_3 r_part_1 r_part_2 r_splice_1 r_fillD_1 r_fillD_2 r_fillRows_1 r_fillRows_2 r_zeroRows_1 r_zeroRows_2 r_binD_1 r_binD_2 r_binInt_1 r_binInt_2 r_binInt_3 r_binInt_4 r_binInt_5 r_binInt_6 r_binInt_7 r_binInt_8 r_binInt_9 r_binInt_10 r_binInt_11 r_binStr_1 r_binStr_2 r_binStr_3 r_binStr_4 r_unD_1 r_unD_2 r_cellEq_1 r_cellEq_2 r_cellEq_3 r_cellsEq_1 r_cellsEq_2 r_loD_1 r_loD_2 r_hiD_1 r_hiD_2 r_AO_core_1 r_AO_core_2 r_AO_core_3 r_AO_core_4 r_AO_core_5 r_AO_core_6 r_AI_kind_1 r_AO_kind_1 r_AO_kind_2 r_AO_kind_3 r_AO_kind_4 r_AO_kind_5 r_AO_kind_6 r_AO_kind_7 r_isCore_1 r_isCore_2 r_PastOk_1 r_PastOk_2 r_evM_1 r_evM_2 r_itemsOf_1 r_itemsOf_2 r_TmW_1 r_TmW_2 r_D_fg_1 r_D_fg_2 r_D_fg_3 r_D_fg_4 r_D_fg_5 r_D_fg_6 r_D_fg_7 r_D_fg_8 r_D_fg_9 r_D_fg_10 r_D_fgs_1 r_D_fgs_2 r_D_fgr_1 r_D_fgr_2 r_Tag_fg_1 r_St_cut_1 r_oneD_1 app_tok1 app_full1 fg_full fg_shared jumpA_n jumpA_r jumpA_e
attribute [go_sem] List.map_cons List.map_nil List.getElem?_cons_zero List.getElem?_cons_succ List.length_cons List.length_nil List.set_cons_zero List.set_cons_succ List.take_succ_cons List.take_zero List.take_nil List.drop_succ_cons List.drop_zero List.drop_nil List.cons_append List.nil_append List.append_nil Nat.zero_add Nat.add_zero Option.map_some Option.map_none
attribute [go_sem] Bool.not_false Bool.not_true List.length_map List.getElem?_map Int.toNat_natCast Int.natCast_nonneg Int.toNat_zero and_self and_true true_and
attribute [go_sem_proc ↓] reduceIte
attribute [go_sem_proc] Int.reduceLE reduceCtorEq Nat.reduceEqDiff Nat.reduceLeDiff Nat.reduceAdd Nat.reduceMul Nat.reduceSub Nat.reduceLT
theorem kT_ {b : Bool} {A C : Prop} (h1 : b = true → A) (h : b = true := by assumption) : @CB (.bool b) ⟨A, C⟩ := CB_ofT h h1
theorem kF_ {b : Bool} {A C : Prop} (h1 : b = false → C) (h : b = false := by assumption) : @CB (.bool b) ⟨A, C⟩ := CB_ofF h h1
theorem kS_ {b : Bool} {A C : Prop} (h1 : b = true → A) (h2 : b = false → C) : @CB (.bool b) ⟨A, C⟩ := ⟨h1, h2⟩
theorem aI_ {a b : Prop} (x : a) (y : b) : a ∧ b := ⟨x, y⟩
theorem sI_ {α : Type _} (a b : α) : (some a = some b) = (a = b) := Option.some.injEq a b
theorem eL_ {α : Sort _} {p : α → Prop} {a : α} : (∃ x, a = x ∧ p x) ↔ p a := exists_eq_left'
theorem lB_ {n m : Nat} (h : Nat.ble n m = true) : n ≤ m := Nat.le_of_ble_eq_true h
theorem lA_ {n m : Nat} {res : List (Nat × Option (Bool × Nat))} {d : D} {s' : St} {e : Exit} {tm : Tm} {s : St} {Q : Exit → Tm → St → Prop} (hQ : retF n m res d s' = Q) (h : ∃ l, resL res tm s = some l ∧ Wk ((oneD l).fg n m) d ∧ WkR (s.cut n m).objs s'.objs ∧ (s.cut n m).toks = s'.toks) (he : e = .ret ∨ e = .normal := by first | exact .inl rfl | exact .inr rfl) : Q e tm s := by cases he with | inl x => cases x; exact leafR hQ h | inr x => cases x; exact leafN hQ h
theorem lE_ {p : Prop} (h : p := by repeat' (first | exact Ok.out | with_reducible refine aI_ ?_ ?_ | (simp; done))) : p := h
theorem lF_ {p : Prop} (h : p := by repeat' (first | exact Ok.out | with_reducible refine aI_ ?_ ?_)) : p := h
theorem lY_ {p : Prop} (h : p := by (try cases h); simp only [resL, oneD, sI_, eL_, go_sem, hH, hJ, hY, hZ]; repeat' (first | exact Ok.out | with_reducible refine aI_ ?_ ?_ | (simp; done))) : p := h
theorem lX_ {p : Prop} (h : p := by simp only [go_sem, hH, hJ, hY, hZ]; repeat' (first | exact Ok.out | with_reducible refine aI_ ?_ ?_)) : p := h
theorem rL_ {P : Program} {B : Base} {nt : Nat} {a : AC} {Q : Exit → Tm → St → Prop} {tm tm' : Tm} {s : St} {objs' : List (List D)} (n m : Nat) (h : SemL P B nt a Q tm' ⟨objs', (s.cut n m).toks⟩) (hn : B.s.objs.length ≤ n := by rw [hB]; exact lB_ rfl) (hm : B.s.toks.length ≤ m := by rw [hB]; exact lB_ rfl) (ht : TmW tm n m tm' := by exact lX_) (ho : WkR (s.cut n m).objs objs' := by exact lX_) : SemL P B nt a Q tm s := SemL.re tm' objs' n m hn hm ht ho h
theorem rl_ {P : Program} {B : Base} {nt : Nat} {a : AC} {Q : Exit → Tm → St → Prop} {tm tm' : Tm} {s : St} {objs' : List (List D)} (n m : Nat) (ht : TmW tm n m tm') (ho : WkR (s.cut n m).objs objs') (h : SemL P B nt a Q tm' ⟨objs', (s.cut n m).toks⟩) (hn : B.s.objs.length ≤ n := by rw [hB]; exact lB_ rfl) (hm : B.s.toks.length ≤ m := by rw [hB]; exact lB_ rfl) : SemL P B nt a Q tm s := SemL.re tm' objs' n m hn hm ht ho h
theorem H4_ : 0 < 1 ∧ 0 < 1 ∧ 0 < 1 ∧ 0 < 1 := ⟨Nat.zero_lt_one, Nat.zero_lt_one, Nat.zero_lt_one, Nat.zero_lt_one⟩

end Go.Abs

/-! Types -/

namespace Go.Abs

/-! ### Plain values are not turned by forgetting -/

mutual
theorem fg_ok (n m : Nat) : ∀ d, D.ok 0 0 d = true → D.fg n m d = d
 | .junk, _ => by simp [D.fg]
 | .int k n, _ => by simp [D.fg]
 | .bool b, _ => by simp [D.fg]
 | .str l, _ => by simp [D.fg]
 | .nilp, _ => by simp [D.fg]
 | .val v, _ => by simp [D.fg]
 | .selfp T o, h => by simp [D.ok] at h
 | .ptr o f, h => by simp [D.ok] at h
 | .cptr r f, h => by
   simp only [D.ok] at h
   simp only [D.fg, fgs_ok n m r h]
 | .slice g z rows, h => by
   simp only [D.ok, Bool.and_eq_true] at h
   simp only [D.fg, fgr_ok n m rows h.2]
   cases g with
   | tok t y => simp [Tag.ok] at h
   | full => rfl
   | shared => rfl
 | .agg cs, h => by
   simp only [D.ok] at h
   simp only [D.fg, fgs_ok n m cs h]
 | .tuple cs, h => by
   simp only [D.ok] at h
   simp only [D.fg, fgs_ok n m cs h]
theorem fgs_ok (n m : Nat) : ∀ l, D.oks 0 0 l = true → D.fgs n m l = l
 | [], _ => by simp [D.fgs]
 | d :: r, h => by
   simp only [D.oks, Bool.and_eq_true] at h
   simp only [D.fgs, fg_ok n m d h.1, fgs_ok n m r h.2]
theorem fgr_ok (n m : Nat) : ∀ l, D.okr 0 0 l = true → D.fgr n m l = l
 | [], _ => by simp [D.fgr]
 | d :: r, h => by
   simp only [D.okr, Bool.and_eq_true] at h
   simp only [D.fgr, fgs_ok n m d h.1, fgr_ok n m r h.2]
end

theorem okr_map {α : Type} {f : α → List D} (h : ∀ x, D.oks 0 0 (f x) = true) (l : List α) : D.okr 0 0 (l.map f) = true := by
 simp [okr_eq, h]
theorem fgr_map {α : Type} {f : α → List D} (h : ∀ x, D.oks 0 0 (f x) = true) (n m : Nat) (l : List α) : D.fgr n m (l.map f) = l.map f := fgr_ok n m _ (okr_map h l)
theorem fgr_app (n m : Nat) : ∀ a b, D.fgr n m (a ++ b) = D.fgr n m a ++ D.fgr n m b
 | [], b => by simp [D.fgr]
 | x :: a, b => by simp [D.fgr, fgr_app n m a b]

/-! ### The types -/

abbrev Str := List UInt8

structure Tok where
 kind : Int
 text : Str
 n : Int
 pos : Int
deriving DecidableEq

structure Ex where
 op : Int
 n : Int
 name : Str
 kids : List Ex

structure Ar where
 ref : Bool
 name : Str
 x : Ex

structure Sm where
 id : Int
 kind : Int
 labels : List Str
 name : Str
 proc : Str
 x : Ex
 has : Bool
 args : List Ar
 thn : List Sm
 els : List Sm

structure Pm where
 name : Str
 ref : Bool

structure Pc where
 name : Str
 params : List Pm
 vars : List Str
 body : List Sm
 fin : List Str

structure Pg where
 globals : List Str
 procs : List Pc

def ex0 : Ex := ⟨0, 0, [], []⟩
def ar0 : Ar := ⟨false, [], ex0⟩
def sm0 : Sm := ⟨0, 0, [], [], [], ex0, false, [], [], []⟩
def pg0 : Pg := ⟨[], []⟩

def encStr (s : Str) : List D := [.str s]
def encTok (t : Tok) : List D := [.int .i64 t.kind, .str t.text, .int .i64 t.n, .int .i64 t.pos]
def sl (z : Nat) (rows : List (List D)) : D := .slice .shared z rows

mutual
def encEx : Ex → List D
 | ⟨op, n, name, kids⟩ => [.int .i64 op, .int .i64 n, .str name, .slice .shared 4 (encExs kids)]
def encExs : List Ex → List (List D)
 | [] => []
 | x :: l => encEx x :: encExs l
end
theorem encExs_eq : ∀ l, encExs l = l.map encEx
 | [] => by simp [encExs]
 | x :: l => by simp [encExs, encExs_eq l]
theorem encEx_eq (x : Ex) : encEx x = [.int .i64 x.op, .int .i64 x.n, .str x.name, .slice .shared 4 (x.kids.map encEx)] := by
 cases x; simp [encEx, encExs_eq]

def encAr (a : Ar) : List D := [.bool a.ref, .str a.name, .int .i64 a.x.op, .int .i64 a.x.n, .str a.x.name, .slice .shared 4 (a.x.kids.map encEx)]

mutual
def encSm : Sm → List D
 | ⟨id, kind, labels, name, proc, x, has, args, thn, els⟩ => [.int .i64 id, .int .i64 kind, .slice .shared 1 (labels.map encStr), .str name, .str proc,
     .int .i64 x.op, .int .i64 x.n, .str x.name, .slice .shared 4 (x.kids.map encEx), .bool has, .slice .shared 6 (args.map encAr), .slice .shared 13 (encSms thn), .slice .shared 13 (encSms els)]
def encSms : List Sm → List (List D)
 | [] => []
 | x :: l => encSm x :: encSms l
end
theorem encSms_eq : ∀ l, encSms l = l.map encSm
 | [] => by simp [encSms]
 | x :: l => by simp [encSms, encSms_eq l]
theorem encSm_eq (s : Sm) : encSm s = [.int .i64 s.id, .int .i64 s.kind, .slice .shared 1 (s.labels.map encStr), .str s.name, .str s.proc,
     .int .i64 s.x.op, .int .i64 s.x.n, .str s.x.name, .slice .shared 4 (s.x.kids.map encEx), .bool s.has, .slice .shared 6 (s.args.map encAr), .slice .shared 13 (s.thn.map encSm), .slice .shared 13 (s.els.map encSm)] := by
 cases s; simp [encSm, encSms_eq]

def encPm (p : Pm) : List D := [.str p.name, .bool p.ref]
def encPc (p : Pc) : List D := [.str p.name, .slice .shared 2 (p.params.map encPm), .slice .shared 1 (p.vars.map encStr), .slice .shared 13 (p.body.map encSm), .slice .shared 1 (p.fin.map encStr)]
def encPg (p : Pg) : List D := [.slice .shared 1 (p.globals.map encStr), .slice .shared 5 (p.procs.map encPc)]

/-! ### Cells -/
theorem lenTok (x : Tok) : (encTok x).length = 4 := nd rfl
theorem takeTok (x : Tok) : List.take 4 (encTok x) = encTok x := nd rfl
theorem dropTok (x : Tok) : List.drop 4 (encTok x) = [] := nd rfl
theorem cellTok_0 (x : Tok) : (encTok x)[0]? = some (.int .i64 x.kind) := nd rfl
theorem cellTok_1 (x : Tok) : (encTok x)[1]? = some (.str x.text) := nd rfl
theorem cellTok_2 (x : Tok) : (encTok x)[2]? = some (.int .i64 x.n) := nd rfl
theorem cellTok_3 (x : Tok) : (encTok x)[3]? = some (.int .i64 x.pos) := nd rfl
theorem mkTok (kind_ : Int) (text_ : Str) (n_ : Int) (pos_ : Int) : encTok ⟨kind_, text_, n_, pos_⟩ = [.int .i64 kind_, .str text_, .int .i64 n_, .int .i64 pos_] := by simp only [encTok]
theorem lenEx (x : Ex) : (encEx x).length = 4 := by simp only [encEx_eq]; rfl
theorem takeEx (x : Ex) : List.take 4 (encEx x) = encEx x := by simp only [encEx_eq]; rfl
theorem dropEx (x : Ex) : List.drop 4 (encEx x) = [] := by simp only [encEx_eq]; rfl
theorem cellEx_0 (x : Ex) : (encEx x)[0]? = some (.int .i64 x.op) := by simp only [encEx_eq]; rfl
theorem cellEx_1 (x : Ex) : (encEx x)[1]? = some (.int .i64 x.n) := by simp only [encEx_eq]; rfl
theorem cellEx_2 (x : Ex) : (encEx x)[2]? = some (.str x.name) := by simp only [encEx_eq]; rfl
theorem cellEx_3 (x : Ex) : (encEx x)[3]? = some (.slice .shared 4 (x.kids.map encEx)) := by simp only [encEx_eq]; rfl
theorem mkEx (op_ : Int) (n_ : Int) (name_ : Str) (kids_ : List Ex) : encEx ⟨op_, n_, name_, kids_⟩ = [.int .i64 op_, .int .i64 n_, .str name_, .slice .shared 4 (kids_.map encEx)] := by simp only [encEx_eq]
theorem lenAr (x : Ar) : (encAr x).length = 6 := nd rfl
theorem takeAr (x : Ar) : List.take 6 (encAr x) = encAr x := nd rfl
theorem dropAr (x : Ar) : List.drop 6 (encAr x) = [] := nd rfl
theorem cellAr_0 (x : Ar) : (encAr x)[0]? = some (.bool x.ref) := nd rfl
theorem cellAr_1 (x : Ar) : (encAr x)[1]? = some (.str x.name) := nd rfl
theorem cellAr_2 (x : Ar) : (encAr x)[2]? = some (.int .i64 x.x.op) := nd rfl
theorem cellAr_3 (x : Ar) : (encAr x)[3]? = some (.int .i64 x.x.n) := nd rfl
theorem cellAr_4 (x : Ar) : (encAr x)[4]? = some (.str x.x.name) := nd rfl
theorem cellAr_5 (x : Ar) : (encAr x)[5]? = some (.slice .shared 4 (x.x.kids.map encEx)) := nd rfl
theorem partAr_2 (x : Ar) : List.take 4 (List.drop 2 (encAr x)) = encEx x.x := by simp only [encAr, encEx_eq]; rfl
theorem mkAr (ref_ : Bool) (name_ : Str) (x_ : Ex) : encAr ⟨ref_, name_, x_⟩ = [.bool ref_, .str name_, .int .i64 x_.op, .int .i64 x_.n, .str x_.name, .slice .shared 4 (x_.kids.map encEx)] := by simp only [encAr]
theorem lenSm (x : Sm) : (encSm x).length = 13 := by simp only [encSm_eq]; rfl
theorem takeSm (x : Sm) : List.take 13 (encSm x) = encSm x := by simp only [encSm_eq]; rfl
theorem dropSm (x : Sm) : List.drop 13 (encSm x) = [] := by simp only [encSm_eq]; rfl
theorem cellSm_0 (x : Sm) : (encSm x)[0]? = some (.int .i64 x.id) := by simp only [encSm_eq]; rfl
theorem cellSm_1 (x : Sm) : (encSm x)[1]? = some (.int .i64 x.kind) := by simp only [encSm_eq]; rfl
theorem cellSm_2 (x : Sm) : (encSm x)[2]? = some (.slice .shared 1 (x.labels.map encStr)) := by simp only [encSm_eq]; rfl
theorem cellSm_3 (x : Sm) : (encSm x)[3]? = some (.str x.name) := by simp only [encSm_eq]; rfl
theorem cellSm_4 (x : Sm) : (encSm x)[4]? = some (.str x.proc) := by simp only [encSm_eq]; rfl
theorem cellSm_5 (x : Sm) : (encSm x)[5]? = some (.int .i64 x.x.op) := by simp only [encSm_eq]; rfl
theorem cellSm_6 (x : Sm) : (encSm x)[6]? = some (.int .i64 x.x.n) := by simp only [encSm_eq]; rfl
theorem cellSm_7 (x : Sm) : (encSm x)[7]? = some (.str x.x.name) := by simp only [encSm_eq]; rfl
theorem cellSm_8 (x : Sm) : (encSm x)[8]? = some (.slice .shared 4 (x.x.kids.map encEx)) := by simp only [encSm_eq]; rfl
theorem cellSm_9 (x : Sm) : (encSm x)[9]? = some (.bool x.has) := by simp only [encSm_eq]; rfl
theorem cellSm_10 (x : Sm) : (encSm x)[10]? = some (.slice .shared 6 (x.args.map encAr)) := by simp only [encSm_eq]; rfl
theorem cellSm_11 (x : Sm) : (encSm x)[11]? = some (.slice .shared 13 (x.thn.map encSm)) := by simp only [encSm_eq]; rfl
theorem cellSm_12 (x : Sm) : (encSm x)[12]? = some (.slice .shared 13 (x.els.map encSm)) := by simp only [encSm_eq]; rfl
theorem partSm_5 (x : Sm) : List.take 4 (List.drop 5 (encSm x)) = encEx x.x := by simp only [encSm_eq, encEx_eq]; rfl
theorem mkSm (id_ : Int) (kind_ : Int) (labels_ : List Str) (name_ : Str) (proc_ : Str) (x_ : Ex) (has_ : Bool) (args_ : List Ar) (thn_ : List Sm) (els_ : List Sm) : encSm ⟨id_, kind_, labels_, name_, proc_, x_, has_, args_, thn_, els_⟩ = [.int .i64 id_, .int .i64 kind_, .slice .shared 1 (labels_.map encStr), .str name_, .str proc_, .int .i64 x_.op, .int .i64 x_.n, .str x_.name, .slice .shared 4 (x_.kids.map encEx), .bool has_, .slice .shared 6 (args_.map encAr), .slice .shared 13 (thn_.map encSm), .slice .shared 13 (els_.map encSm)] := by simp only [encSm_eq]
theorem lenPm (x : Pm) : (encPm x).length = 2 := nd rfl
theorem takePm (x : Pm) : List.take 2 (encPm x) = encPm x := nd rfl
theorem dropPm (x : Pm) : List.drop 2 (encPm x) = [] := nd rfl
theorem cellPm_0 (x : Pm) : (encPm x)[0]? = some (.str x.name) := nd rfl
theorem cellPm_1 (x : Pm) : (encPm x)[1]? = some (.bool x.ref) := nd rfl
theorem mkPm (name_ : Str) (ref_ : Bool) : encPm ⟨name_, ref_⟩ = [.str name_, .bool ref_] := by simp only [encPm]
theorem lenPc (x : Pc) : (encPc x).length = 5 := nd rfl
theorem takePc (x : Pc) : List.take 5 (encPc x) = encPc x := nd rfl
theorem dropPc (x : Pc) : List.drop 5 (encPc x) = [] := nd rfl
theorem cellPc_0 (x : Pc) : (encPc x)[0]? = some (.str x.name) := nd rfl
theorem cellPc_1 (x : Pc) : (encPc x)[1]? = some (.slice .shared 2 (x.params.map encPm)) := nd rfl
theorem cellPc_2 (x : Pc) : (encPc x)[2]? = some (.slice .shared 1 (x.vars.map encStr)) := nd rfl
theorem cellPc_3 (x : Pc) : (encPc x)[3]? = some (.slice .shared 13 (x.body.map encSm)) := nd rfl
theorem cellPc_4 (x : Pc) : (encPc x)[4]? = some (.slice .shared 1 (x.fin.map encStr)) := nd rfl
theorem mkPc (name_ : Str) (params_ : List Pm) (vars_ : List Str) (body_ : List Sm) (fin_ : List Str) : encPc ⟨name_, params_, vars_, body_, fin_⟩ = [.str name_, .slice .shared 2 (params_.map encPm), .slice .shared 1 (vars_.map encStr), .slice .shared 13 (body_.map encSm), .slice .shared 1 (fin_.map encStr)] := by simp only [encPc]
theorem lenPg (x : Pg) : (encPg x).length = 2 := nd rfl
theorem takePg (x : Pg) : List.take 2 (encPg x) = encPg x := nd rfl
theorem dropPg (x : Pg) : List.drop 2 (encPg x) = [] := nd rfl
theorem cellPg_0 (x : Pg) : (encPg x)[0]? = some (.slice .shared 1 (x.globals.map encStr)) := nd rfl
theorem cellPg_1 (x : Pg) : (encPg x)[1]? = some (.slice .shared 5 (x.procs.map encPc)) := nd rfl
theorem mkPg (globals_ : List Str) (procs_ : List Pc) : encPg ⟨globals_, procs_⟩ = [.slice .shared 1 (globals_.map encStr), .slice .shared 5 (procs_.map encPc)] := by simp only [encPg]
attribute [go_sem] lenTok takeTok dropTok cellTok_0 cellTok_1 cellTok_2 cellTok_3 mkTok lenEx takeEx dropEx cellEx_0 cellEx_1 cellEx_2 cellEx_3 mkEx lenAr takeAr dropAr cellAr_0 cellAr_1 cellAr_2 cellAr_3 cellAr_4 cellAr_5 partAr_2 mkAr lenSm takeSm dropSm cellSm_0 cellSm_1 cellSm_2 cellSm_3 cellSm_4 cellSm_5 cellSm_6 cellSm_7 cellSm_8 cellSm_9 cellSm_10 cellSm_11 cellSm_12 partSm_5 mkSm lenPm takePm dropPm cellPm_0 cellPm_1 mkPm lenPc takePc dropPc cellPc_0 cellPc_1 cellPc_2 cellPc_3 cellPc_4 mkPc lenPg takePg dropPg cellPg_0 cellPg_1 mkPg
/-! ### Cells end -/

/-! ### They are plain -/

theorem okStr (s : Str) : D.oks 0 0 (encStr s) = true := rfl
theorem okTok (t : Tok) : D.oks 0 0 (encTok t) = true := rfl
mutual
theorem okEx : ∀ x, D.oks 0 0 (encEx x) = true
 | ⟨op, n, name, kids⟩ => by simp [encEx, D.oks, D.ok, Tag.ok, okExs kids]
theorem okExs : ∀ l, D.okr 0 0 (encExs l) = true
 | [] => rfl
 | x :: l => by simp [encExs, D.okr, okEx x, okExs l]
end
theorem okAr (a : Ar) : D.oks 0 0 (encAr a) = true := by simp [encAr, D.oks, D.ok, Tag.ok, okr_map okEx]
mutual
theorem okSm : ∀ x, D.oks 0 0 (encSm x) = true
 | ⟨id, kind, labels, name, proc, x, has, args, thn, els⟩ => by simp [encSm, D.oks, D.ok, Tag.ok, okSms thn, okSms els, okr_map okStr, okr_map okEx, okr_map okAr]
theorem okSms : ∀ l, D.okr 0 0 (encSms l) = true
 | [] => rfl
 | x :: l => by simp [encSms, D.okr, okSm x, okSms l]
end
theorem okPm (p : Pm) : D.oks 0 0 (encPm p) = true := rfl
theorem okPc (p : Pc) : D.oks 0 0 (encPc p) = true := by simp [encPc, D.oks, D.ok, Tag.ok, okr_map okPm, okr_map okStr, okr_map okSm]
theorem okPg (p : Pg) : D.oks 0 0 (encPg p) = true := by simp [encPg, D.oks, D.ok, Tag.ok, okr_map okStr, okr_map okPc]

/-! ### Forgetting cells -/
theorem fgsTok (n m : Nat) (x : Tok) : D.fgs n m (encTok x) = encTok x := fgs_ok n m _ (okTok x)
theorem fgsEx (n m : Nat) (x : Ex) : D.fgs n m (encEx x) = encEx x := fgs_ok n m _ (okEx x)
theorem fgsAr (n m : Nat) (x : Ar) : D.fgs n m (encAr x) = encAr x := fgs_ok n m _ (okAr x)
theorem fgsSm (n m : Nat) (x : Sm) : D.fgs n m (encSm x) = encSm x := fgs_ok n m _ (okSm x)
theorem fgsPm (n m : Nat) (x : Pm) : D.fgs n m (encPm x) = encPm x := fgs_ok n m _ (okPm x)
theorem fgsPc (n m : Nat) (x : Pc) : D.fgs n m (encPc x) = encPc x := fgs_ok n m _ (okPc x)
theorem fgsPg (n m : Nat) (x : Pg) : D.fgs n m (encPg x) = encPg x := fgs_ok n m _ (okPg x)
attribute [go_sem] fgsTok fgsEx fgsAr fgsSm fgsPm fgsPc fgsPg
/-! ### Forgetting end -/

theorem okrStr (l : List Str) : D.okr 0 0 (l.map encStr) = true := okr_map okStr l
theorem okrTok (l : List Tok) : D.okr 0 0 (l.map encTok) = true := okr_map okTok l
theorem okrEx (l : List Ex) : D.okr 0 0 (l.map encEx) = true := okr_map okEx l
theorem okrAr (l : List Ar) : D.okr 0 0 (l.map encAr) = true := okr_map okAr l
theorem okrSm (l : List Sm) : D.okr 0 0 (l.map encSm) = true := okr_map okSm l
theorem okrPm (l : List Pm) : D.okr 0 0 (l.map encPm) = true := okr_map okPm l
theorem fgrStr (n m : Nat) (l : List Str) : D.fgr n m (l.map encStr) = l.map encStr := fgr_map okStr n m l
theorem fgrTok (n m : Nat) (l : List Tok) : D.fgr n m (l.map encTok) = l.map encTok := fgr_map okTok n m l
theorem fgrEx (n m : Nat) (l : List Ex) : D.fgr n m (l.map encEx) = l.map encEx := fgr_map okEx n m l
theorem fgrAr (n m : Nat) (l : List Ar) : D.fgr n m (l.map encAr) = l.map encAr := fgr_map okAr n m l
theorem fgrSm (n m : Nat) (l : List Sm) : D.fgr n m (l.map encSm) = l.map encSm := fgr_map okSm n m l
theorem fgrPm (n m : Nat) (l : List Pm) : D.fgr n m (l.map encPm) = l.map encPm := fgr_map okPm n m l
theorem fgrPc (n m : Nat) (l : List Pc) : D.fgr n m (l.map encPc) = l.map encPc := fgr_map okPc n m l

theorem ex_app (x : Ex) (r : List D) : encEx x ++ r = .int .i64 x.op :: .int .i64 x.n :: .str x.name :: .slice .shared 4 (x.kids.map encEx) :: r := by rw [encEx_eq]; rfl
theorem ex_cons (d : D) (x : Ex) : d :: encEx x = [d, .int .i64 x.op, .int .i64 x.n, .str x.name, .slice .shared 4 (x.kids.map encEx)] := by rw [encEx_eq]
attribute [go_sem] ex_app ex_cons
theorem cast0 : ((0 : Nat) : Int) = 0 := nd rfl
theorem cast1 : ((1 : Nat) : Int) = 1 := nd rfl
theorem cast2 : ((2 : Nat) : Int) = 2 := nd rfl
attribute [go_sem] cast0 cast1 cast2 fgr_app List.length_append List.map_append encStr ex0 ar0 sm0 pg0 fgrStr fgrTok fgrEx fgrAr fgrSm fgrPm fgrPc
theorem mx (a b : Nat) : (if (b : Int) > (a : Int) then (b : Int) else (a : Int)) = ((max a b : Nat) : Int) := by split <;> omega

/-! ### Numbers that do not go round -/

theorem wrap_ok {x : Int} (h1 : -9223372036854775808 ≤ x) (h2 : x < 9223372036854775808) : IntKind.wrap .i64 x = x := by
 rw [IntKind.wrap_i64]; omega

@[go_sem] theorem wrap_inc {n : Nat} (h : n < 4611686018427387904) : IntKind.wrap .i64 ((n : Int) + 1) = ((n + 1 : Nat) : Int) := by
 rw [wrap_ok] <;> omega

def inc (n : Nat) : Option Nat := if n < 4611686018427387904 then some (n + 1) else none
theorem inc_some {n k : Nat} (h : inc n = some k) : IntKind.wrap .i64 ((n : Int) + 1) = ((n + 1 : Nat) : Int) ∧ k = n + 1 := by
 unfold inc at h
 split at h
 · rename_i hn; cases h; exact ⟨wrap_inc hn, rfl⟩
 · cases h
def incI (n : Int) : Option Int := if -4611686018427387904 < n ∧ n < 4611686018427387904 then some (n + 1) else none
theorem incI_some {n k : Int} (h : incI n = some k) : IntKind.wrap .i64 (n + 1) = n + 1 ∧ k = n + 1 := by
 unfold incI at h
 split at h
 · rename_i hn; cases h; exact ⟨wrap_ok (by omega) (by omega), rfl⟩
 · cases h

@[go_sem] theorem wrap_inc' {n : Nat} (h : n + 1 < 4611686018427387904) : IntKind.wrap .i64 ((n : Int) + 1) = ((n + 1 : Nat) : Int) := by
 rw [wrap_ok] <;> omega
@[go_sem] theorem wrap_inc2 {n : Nat} (h : n < 4611686018427387904) : IntKind.wrap .i64 ((n : Int) + 2) = ((n + 2 : Nat) : Int) := by
 rw [wrap_ok] <;> omega

def getO {α : Type} (l : List α) (i : Nat) : Option α := if i < 4611686018427387904 then l[i]? else none

theorem getO_some {α : Type} {l : List α} {i : Nat} {x : α} (h : getO l i = some x) : i < 4611686018427387904 ∧ l[i]? = some x := by
 unfold getO at h
 split at h
 · exact ⟨‹_›, h⟩
 · cases h

def push {α : Type} (k : Nat) (l : List α) (x : α) : Option (List α) := if (l.length + 1) * k ≤ maxStr then some (l ++ [x]) else none

theorem push_some {α : Type} {k : Nat} {l l' : List α} {x : α} (h : push k l x = some l') : (l.length + 1) * k ≤ maxStr ∧ l' = l ++ [x] := by
 unfold push at h
 split at h
 · cases h; exact ⟨‹_›, rfl⟩
 · cases h

end Go.Abs

/-! Mir -/

namespace Go.Abs

mutual
def Ex.size : Ex → Nat
 | ⟨_, _, _, kids⟩ => 1 + Ex.sizes kids
def Ex.sizes : List Ex → Nat
 | [] => 0
 | x :: l => 1 + x.size + Ex.sizes l
end
mutual
def Ex.depth : Ex → Nat
 | ⟨_, _, _, kids⟩ => Ex.depths kids + 1
def Ex.depths : List Ex → Nat
 | [] => 0
 | x :: l => max x.depth (Ex.depths l)
end

def depthO (x : Ex) : Option Int := if x.size < 4611686018427387904 then some (x.depth : Int) else none

theorem Ex.sizes_mem {x : Ex} : ∀ {l : List Ex}, x ∈ l → x.size < Ex.sizes l
 | y :: l, h => by
   simp only [Ex.sizes]
   rcases List.mem_cons.1 h with rfl | h
   · omega
   · have := Ex.sizes_mem h; omega
theorem Ex.sizes_len : ∀ (l : List Ex), l.length ≤ Ex.sizes l
 | [] => Nat.le_refl _
 | x :: l => by simp only [Ex.sizes, List.length_cons]; have := Ex.sizes_len l; omega
theorem Ex.depth_size : ∀ (n : Nat) (x : Ex), x.size ≤ n → x.depth ≤ x.size := by
 intro n
 induction n with
 | zero => intro x h; cases x; simp only [Ex.size] at h; omega
 | succ n ih =>
   rintro ⟨op, m, name, kids⟩ h
   simp only [Ex.size, Ex.depth] at h ⊢
   have : ∀ l : List Ex, Ex.sizes l ≤ n → Ex.depths l ≤ Ex.sizes l := by
     intro l
     induction l with
     | nil => intro _; simp [Ex.depths]
     | cons x l ihl =>
       intro h
       simp only [Ex.sizes, Ex.depths] at h ⊢
       have := ih x (by omega)
       have := ihl (by omega)
       omega
   have := this kids (by omega)
   omega

def opOf (t : Tok) : Int × Int :=
 if t.kind != 4 then (0, 0)
 else if t.text == [124, 124] then (17, 1)
 else if t.text == [38, 38] then (16, 2)
 else if t.text == [61, 61] then (14, 3)
 else if t.text == [33, 61] then (15, 3)
 else if t.text == [60] then (10, 4)
 else if t.text == [60, 61] then (11, 4)
 else if t.text == [62] then (12, 4)
 else if t.text == [62, 61] then (13, 4)
 else if t.text == [43] then (8, 5)
 else if t.text == [45] then (9, 5)
 else if t.text == [42] then (5, 6)
 else if t.text == [47] then (6, 6)
 else if t.text == [37] then (7, 6)
 else (0, 0)

structure Rd where
 l : List Tok
 i : Nat
 code : Int
 fat : Int
 n : Nat

abbrev Rd.good (r : Rd) : Bool := r.code == 0
def Rd.peek (r : Rd) : Option Tok := (getO r.l r.i).bind fun t => if decide (0 ≤ t.kind) && decide (t.kind ≤ 4) then some t else none
theorem peek_get {r : Rd} {t : Tok} (h : r.peek = some t) : r.i < 4611686018427387904 ∧ r.l[r.i]? = some t ∧ 0 ≤ t.kind ∧ t.kind ≤ 4 := by
 unfold Rd.peek at h
 rw [Option.bind_eq_some_iff] at h
 obtain ⟨u, h1, h⟩ := h
 obtain ⟨g1, g2⟩ := getO_some h1
 by_cases hk : (decide (0 ≤ u.kind) && decide (u.kind ≤ 4)) = true
 · rw [if_pos hk] at h
   cases h
   simp only [Bool.and_eq_true, decide_eq_true_eq] at hk
   exact ⟨g1, g2, hk.1, hk.2⟩
 · rw [if_neg hk] at h; cases h
def Rd.bad (c : Int) (r : Rd) : Option Rd := if r.good then r.peek.bind fun t => some { r with code := c, fat := t.pos } else some r
def Rd.is (text : Str) (r : Rd) : Option Bool := r.peek.bind fun t => some ((t.kind == 3 || t.kind == 4) && t.text == text)
def Rd.take (text : Str) (r : Rd) : Option (Bool × Rd) :=
 if !r.good then some (false, r) else (r.is text).bind fun b => if !b then some (false, r) else some (true, { r with i := r.i + 1 })
def Rd.want (text : Str) (r : Rd) : Option Rd := (r.take text).bind fun p => if !p.1 then p.2.bad 3 else some p.2
def Rd.name (room : Bool) (r : Rd) : Option (Str × Rd) :=
 r.peek.bind fun t => if !r.good || t.kind != 1 then (r.bad 3).bind fun r => some ([], r) else if !room then (r.bad 4).bind fun r => some ([], r) else some (t.text, { r with i := r.i + 1 })

def Rd.on (r : Rd) : Rd := { r with i := r.i + 1 }

mutual
def Rd.one : Nat → Rd → Option (Ex × Rd)
 | 0, _ => none
 | n + 1, r => r.peek.bind fun t =>
   if !r.good then some (ex0, r)
   else if t.kind == 2 then some (⟨1, t.n, [], []⟩, { r with i := r.i + 1 })
   else if t.kind == 1 then some (⟨2, 0, t.text, []⟩, { r with i := r.i + 1 })
   else (r.take [40]).bind fun p =>
     if p.1 then (Rd.two n 1 p.2).bind fun x => (x.2.want [41]).bind fun r => some (x.1, r)
     else (p.2.take [45]).bind fun p =>
       if p.1 then (Rd.one n p.2).bind fun x => some (⟨3, 0, [], [x.1]⟩, x.2)
       else (p.2.take [33]).bind fun p =>
         if p.1 then (Rd.one n p.2).bind fun x => some (⟨4, 0, [], [x.1]⟩, x.2)
         else (p.2.bad 3).bind fun r => some (ex0, r)
def Rd.two : Nat → Int → Rd → Option (Ex × Rd)
 | 0, _, _ => none
 | n + 1, least, r => (Rd.one n r).bind fun x => Rd.twoL n least x.1 x.2
def Rd.twoL : Nat → Int → Ex → Rd → Option (Ex × Rd)
 | 0, _, _, _ => none
 | n + 1, least, x, r =>
   if r.good then r.peek.bind fun t =>
     if decide ((opOf t).2 < least) || (opOf t).1 == 0 then some (x, r)
     else (Rd.two n ((opOf t).2 + 1) { r with i := r.i + 1 }).bind fun y => Rd.twoL n least ⟨(opOf t).1, 0, [], [x, y.1]⟩ y.2
   else some (x, r)
end

def Rd.whole (n : Nat) (r : Rd) : Option (Ex × Rd) :=
 r.peek.bind fun t => (Rd.two n 1 r).bind fun x =>
   if x.2.good then (depthO x.1).bind fun d => if decide (d > 20) then some (x.1, { x.2 with code := 4, fat := t.pos }) else some (x.1, x.2)
   else some (x.1, x.2)

def Rd.names : Nat → List Str → Int → Rd → Option (List Str × Rd)
 | 0, _, _, _ => none
 | n + 1, l, most, r =>
   if r.good then (r.name (decide ((l.length : Int) < most))).bind fun p => (push 17 l p.1).bind fun l => (p.2.take [44]).bind fun q =>
     if !q.1 then (q.2.want [59]).bind fun r => some (l, r) else Rd.names n l most q.2
   else some (l, r)

def Rd.ahead (sign : Str) (r : Rd) : Option Bool :=
 if r.good then r.peek.bind fun t => if t.kind == 1 then (getO r.l (r.i + 1)).bind fun u => some (u.kind == 4 && u.text == sign) else some false
 else some false

def Rd.labels : Nat → List Str → Rd → Option (List Str × Rd)
 | 0, _, _ => none
 | n + 1, l, r => (r.ahead [58]).bind fun b => if b then r.peek.bind fun t => (push 17 l t.text).bind fun l => Rd.labels n l { r with i := r.i + 2 } else some (l, r)

def Rd.begins (r : Rd) : Option Bool :=
 r.peek.bind fun t => some (if t.kind == 1 then true else if t.kind != 3 then false
   else t.text == [105, 102] || t.text == [119, 104, 105, 108, 101] || t.text == [98, 114, 101, 97, 107] || t.text == [99, 111, 110, 116, 105, 110, 117, 101] || t.text == [114, 101, 116, 117, 114, 110] || t.text == [103, 111, 116, 111] || t.text == [114, 101, 97, 100] || t.text == [112, 114, 105, 110, 116])

def Rd.callL (m : Nat) : Nat → List Ar → Rd → Option (List Ar × Rd)
 | 0, _, _ => none
 | n + 1, l, r =>
   if r.good then (r.take [114, 101, 102]).bind fun p =>
     if p.1 then (p.2.name true).bind fun x => (push 81 l ⟨true, x.1, ex0⟩).bind fun l => (x.2.take [44]).bind fun c => if !c.1 then some (l, c.2) else Rd.callL m n l c.2
     else (Rd.whole m p.2).bind fun x => (push 81 l ⟨false, [], x.1⟩).bind fun l => (x.2.take [44]).bind fun c => if !c.1 then some (l, c.2) else Rd.callL m n l c.2
   else some (l, r)

def Rd.other (sign : Str) (r : Rd) : Option Bool := if r.good then (r.is sign).bind fun b => some !b else some false

def Rd.call (m : Nat) (name proc : Str) (r : Rd) : Option (Sm × Rd) :=
 (r.want [40]).bind fun r => (r.other [41]).bind fun b =>
   if b then (Rd.callL m m [] r).bind fun q => (q.2.want [41]).bind fun r => (r.want [59]).bind fun r => some (⟨0, 4, [], name, proc, ex0, false, q.1, [], []⟩, r)
   else (r.want [41]).bind fun r => (r.want [59]).bind fun r => some (⟨0, 4, [], name, proc, ex0, false, [], [], []⟩, r)

def Rd.named (m : Nat) (r : Rd) : Option (Sm × Rd) :=
 (r.name true).bind fun x => (x.2.is [40]).bind fun b =>
   if b then Rd.call m [] x.1 x.2
   else (x.2.want [61]).bind fun r => (r.ahead [40]).bind fun b =>
     if b then (r.name true).bind fun y => Rd.call m x.1 y.1 y.2
     else (Rd.whole m r).bind fun y => (y.2.want [59]).bind fun r => some (⟨0, 1, [], x.1, [], y.1, false, [], [], []⟩, r)

def Rd.plain (m : Nat) (word : Str) (r : Rd) : Option (Sm × Rd) :=
 if word == [98, 114, 101, 97, 107] then some (⟨0, 7, [], [], [], ex0, false, [], [], []⟩, r)
 else if word == [99, 111, 110, 116, 105, 110, 117, 101] then some (⟨0, 8, [], [], [], ex0, false, [], [], []⟩, r)
 else if word == [114, 101, 116, 117, 114, 110] then (r.is [59]).bind fun b =>
   if !b then (Rd.whole m r).bind fun x => some (⟨0, 9, [], [], [], x.1, true, [], [], []⟩, x.2) else some (⟨0, 9, [], [], [], ex0, false, [], [], []⟩, r)
 else if word == [103, 111, 116, 111] then (r.name true).bind fun x => some (⟨0, 10, [], x.1, [], ex0, false, [], [], []⟩, x.2)
 else if word == [114, 101, 97, 100] then (r.name true).bind fun x => some (⟨0, 2, [], x.1, [], ex0, false, [], [], []⟩, x.2)
 else if word == [112, 114, 105, 110, 116] then (Rd.whole m r).bind fun x => some (⟨0, 3, [], [], [], x.1, false, [], [], []⟩, x.2)
 else some (sm0, r)

def Rd.head (m : Nat) (r : Rd) : Option (Ex × Rd) := (r.want [40]).bind fun r => (Rd.whole m r).bind fun x => (x.2.want [41]).bind fun r => some (x.1, r)

mutual
def Rd.rows (m : Nat) : Nat → Int → Bool → Rd → Option ((List Sm × List Str) × Rd)
 | 0, _, _, _ => none
 | n + 1, nest, body, r => Rd.rowsL m n nest body [] r
def Rd.rowsL (m : Nat) : Nat → Int → Bool → List Sm → Rd → Option ((List Sm × List Str) × Rd)
 | 0, _, _, _, _ => none
 | n + 1, nest, body, out, r =>
   if r.good then (Rd.labels m [] r).bind fun l => (l.2.is [125]).bind fun b =>
     if b && (body || (l.1.length : Int) == 0) then some ((out, l.1), { l.2 with i := l.2.i + 1 })
     else (Rd.stmt m n nest l.2).bind fun s => (push 209 out { s.1 with labels := l.1 }).bind fun out => Rd.rowsL m n nest body out s.2
   else some (([], []), r)
def Rd.stmt (m : Nat) : Nat → Int → Rd → Option (Sm × Rd)
 | 0, _, _ => none
 | n + 1, nest, r => r.begins.bind fun b =>
   if !b then (r.bad 3).bind fun r => some (sm0, r)
   else (inc r.n).bind fun k =>
     if decide ((k : Int) > 200) || decide (nest > 12) then (({ r with n := k } : Rd).bad 4).bind fun r => some (sm0, r)
     else ({ r with n := k } : Rd).peek.bind fun t =>
       if t.kind == 1 then Rd.named m { r with n := k }
       else if t.text == [105, 102] then Rd.choice m n nest { r with n := k, i := r.i + 1 }
       else if t.text == [119, 104, 105, 108, 101] then (Rd.head m { r with n := k, i := r.i + 1 }).bind fun x => (Rd.block m n nest x.2).bind fun b => some (⟨0, 6, [], [], [], x.1, false, [], b.1, []⟩, b.2)
       else (Rd.plain m t.text { r with n := k, i := r.i + 1 }).bind fun s => (s.2.want [59]).bind fun r => some (s.1, r)
def Rd.block (m : Nat) : Nat → Int → Rd → Option (List Sm × Rd)
 | 0, _, _ => none
 | n + 1, nest, r => (r.want [123]).bind fun r => (incI nest).bind fun k => (Rd.rows m n k false r).bind fun p => some (p.1.1, p.2)
def Rd.choice (m : Nat) : Nat → Int → Rd → Option (Sm × Rd)
 | 0, _, _ => none
 | n + 1, nest, r => (Rd.head m r).bind fun x => (Rd.block m n nest x.2).bind fun t => (t.2.take [101, 108, 115, 101]).bind fun q =>
   if q.1 then (Rd.block m n nest q.2).bind fun e => some (⟨0, 5, [], [], [], x.1, false, [], t.1, e.1⟩, e.2)
   else some (⟨0, 5, [], [], [], x.1, false, [], t.1, []⟩, q.2)
end

def Rd.params : Nat → List Pm → Rd → Option (List Pm × Rd)
 | 0, _, _ => none
 | n + 1, l, r =>
   if r.good then (r.take [114, 101, 102]).bind fun q => (q.2.name (decide ((l.length : Int) < 8))).bind fun x => (push 25 l ⟨x.1, q.1⟩).bind fun l => (x.2.take [44]).bind fun c =>
     if !c.1 then some (l, c.2) else Rd.params n l c.2
   else some (l, r)

def Rd.vars (m : Nat) : Nat → List Str → Rd → Option (List Str × Rd)
 | 0, _, _ => none
 | n + 1, l, r => (r.take [118, 97, 114]).bind fun q => if q.1 then (Rd.names m l 16 q.2).bind fun x => Rd.vars m n x.1 x.2 else some (l, q.2)

def Rd.procB (m : Nat) (name : Str) (ps : List Pm) (r : Rd) : Option (Pc × Rd) :=
 (Rd.vars m m [] r).bind fun v => (Rd.rows m m 1 true v.2).bind fun b => some (⟨name, ps, v.1, b.1.1, b.1.2⟩, b.2)

def Rd.proc (m : Nat) (r : Rd) : Option (Pc × Rd) :=
 (r.name true).bind fun x => (x.2.want [40]).bind fun r => (r.other [41]).bind fun b =>
   if b then (Rd.params m [] r).bind fun q => (q.2.want [41]).bind fun r => (r.want [123]).bind fun r => Rd.procB m x.1 q.1 r
   else (r.want [41]).bind fun r => (r.want [123]).bind fun r => Rd.procB m x.1 [] r

def Rd.globals (m : Nat) : Nat → List Str → Rd → Option (List Str × Rd)
 | 0, _, _ => none
 | n + 1, l, r => (r.take [103, 108, 111, 98, 97, 108]).bind fun q => if q.1 then (Rd.names m l 16 q.2).bind fun x => Rd.globals m n x.1 x.2 else some (l, q.2)

def Rd.isProc (r : Rd) : Option Bool := if r.good then r.is [112, 114, 111, 99] else some false
def Rd.notEnd (r : Rd) : Option Bool := if r.good then r.peek.bind fun t => some (t.kind != 0) else some false

def Rd.procs (m : Nat) : Nat → List Pc → Rd → Option (List Pc × Rd)
 | 0, _, _ => none
 | n + 1, l, r => r.isProc.bind fun b =>
   if b then
     if (l.length : Int) == 16 then (r.bad 4).bind fun r => some (l, r)
     else (Rd.proc m { r with i := r.i + 1 }).bind fun x => (push 113 l x.1).bind fun l => Rd.procs m n l x.2
   else r.notEnd.bind fun b => if b then (r.bad 3).bind fun r => some (l, r) else some (l, r)

def Rd.program (m : Nat) (r : Rd) : Option (Pg × Rd) := (Rd.globals m m [] r).bind fun g => (Rd.procs m m [] g.2).bind fun q => some (⟨g.1, q.1⟩, q.2)

mutual
def Ex.beq : Ex → Ex → Bool
 | ⟨op, n, name, kids⟩, ⟨op', n', name', kids'⟩ => if op != op' || n != n' || !(name == name') || (kids.length : Int) != (kids'.length : Int) then false else Ex.beqs kids kids'
def Ex.beqs : List Ex → List Ex → Bool
 | [], _ => true
 | _ :: _, [] => true
 | x :: l, y :: l' => if !Ex.beq x y then false else Ex.beqs l l'
end

mutual
theorem Ex.beq_refl : ∀ x : Ex, Ex.beq x x = true
 | ⟨op, n, name, kids⟩ => by simp [Ex.beq, Ex.beqs_refl kids]
theorem Ex.beqs_refl : ∀ l : List Ex, Ex.beqs l l = true
 | [] => rfl
 | x :: l => by simp [Ex.beqs, Ex.beq_refl x, Ex.beqs_refl l]
end

end Go.Abs

/-! MirLex -/

namespace Go.Abs

def isL (c : UInt8) : Bool := decide ((c.toNat : Int) ≥ 97) && decide ((c.toNat : Int) ≤ 122)
def isD (c : UInt8) : Bool := decide ((c.toNat : Int) ≥ 48) && decide ((c.toNat : Int) ≤ 57)
def isB (c : UInt8) : Bool := (c.toNat : Int) == 32 || (c.toNat : Int) == 9 || (c.toNat : Int) == 10 || (c.toNat : Int) == 13

def runL : Str → Nat
 | [] => 0
 | c :: r => if isL c || isD c then runL r + 1 else 0
def runD : Str → Nat
 | [] => 0
 | c :: r => if isD c then runD r + 1 else 0
def lineL : Str → Nat
 | [] => 0
 | c :: r => if (c.toNat : Int) != 10 then lineL r + 1 else 0

def isWord (s : Str) : Bool :=
 s == [103, 108, 111, 98, 97, 108] || s == [112, 114, 111, 99] || s == [118, 97, 114] || s == [114, 101, 102] || s == [105, 102] || s == [101, 108, 115, 101] || s == [119, 104, 105, 108, 101] || s == [98, 114, 101, 97, 107] || s == [99, 111, 110, 116, 105, 110, 117, 101] || s == [114, 101, 116, 117, 114, 110] || s == [103, 111, 116, 111] || s == [114, 101, 97, 100] || s == [112, 114, 105, 110, 116]

def sign2 (s : Str) : Bool := s == [61, 61] || s == [33, 61] || s == [60, 61] || s == [62, 61] || s == [38, 38] || s == [124, 124]
def sign1 (c : UInt8) : Bool :=
 (c.toNat : Int) == 40 || (c.toNat : Int) == 41 || (c.toNat : Int) == 123 || (c.toNat : Int) == 125 || (c.toNat : Int) == 44 || (c.toNat : Int) == 59 || (c.toNat : Int) == 58 || (c.toNat : Int) == 61 ||
 (c.toNat : Int) == 33 || (c.toNat : Int) == 60 || (c.toNat : Int) == 62 || (c.toNat : Int) == 43 || (c.toNat : Int) == 45 || (c.toNat : Int) == 42 || (c.toNat : Int) == 47 || (c.toNat : Int) == 37

def signL : Str → Nat
 | [] => 0
 | [c] => if sign1 c then 1 else 0
 | c :: d :: _ => if sign2 [c, d] then 2 else if sign1 c then 1 else 0

def worth : Int → Str → Option Int
 | n, [] => some n
 | n, c :: r => if n > (9223372036854775807 - ((c.toNat : Int) - 48)) / 10 then none else worth (n * 10 + ((c.toNat : Int) - 48)) r

def tokE (pos : Nat) : Str → Tok ⊕ Int
 | [] => .inr 2
 | c :: r =>
   if isL c then
     let s := (c :: r).take (runL (c :: r))
     if s.length > 8 then .inr 4 else .inl ⟨if isWord s then 3 else 1, s, 0, pos⟩
   else if isD c then
     let s := (c :: r).take (runD (c :: r))
     if s.length > 1 ∧ (c.toNat : Int) = 48 then .inr 2 else
     match worth 0 s with
     | some n => .inl ⟨2, s, n, pos⟩
     | none => .inr 4
   else
     if signL (c :: r) = 0 then .inr 2 else .inl ⟨4, (c :: r).take (signL (c :: r)), 0, pos⟩

def lexF : Nat → Nat → Str → List Tok → List Tok × Int × Int
 | 0, _, _, _ => ([], 0, 0)
 | _ + 1, pos, [], out => (out ++ [⟨0, [], 0, pos⟩], 0, 0)
 | n + 1, pos, c :: r, out =>
   if isB c then lexF n (pos + 1) r out
   else if (c.toNat : Int) == 35 then lexF n (pos + lineL (c :: r)) ((c :: r).drop (lineL (c :: r))) out
   else match tokE pos (c :: r) with
     | .inr e => ([], e, pos)
     | .inl t => if out.length = 2000 then ([], 4, pos) else lexF n (pos + t.text.length) ((c :: r).drop t.text.length) (out ++ [t])

def lexAll (text : Str) : List Tok × Int × Int := if text.length > 100000 then ([], 4, 0) else lexF (text.length + 1) 0 text []

end Go.Abs

/-! MirTree -/

namespace Go.Abs

def Ar.sizes : List Ar → Nat
 | [] => 0
 | a :: l => 1 + a.x.size + Ar.sizes l
mutual
def Sm.size : Sm → Nat
 | ⟨_, _, labels, _, _, x, _, args, thn, els⟩ => 1 + labels.length + x.size + Ar.sizes args + Sm.sizes thn + Sm.sizes els
def Sm.sizes : List Sm → Nat
 | [] => 0
 | s :: l => 1 + s.size + Sm.sizes l
end
def Pc.size (f : Pc) : Nat := 1 + f.params.length + f.vars.length + f.fin.length + Sm.sizes f.body
def Pc.sizes : List Pc → Nat
 | [] => 0
 | f :: l => 1 + f.size + Pc.sizes l
def Pg.size (p : Pg) : Nat := 1 + p.globals.length + Pc.sizes p.procs

mutual
def Sm.num (b : Bool) (n : Nat) : Sm → Sm × Nat
 | ⟨id, kind, labels, name, proc, x, has, args, thn, els⟩ =>
   (⟨if b then ((n + 1 : Nat) : Int) else id, kind, labels, name, proc, x, has, args, (Sm.nums b (n + 1) thn).1, (Sm.nums b (Sm.nums b (n + 1) thn).2 els).1⟩, (Sm.nums b (Sm.nums b (n + 1) thn).2 els).2)
def Sm.nums (b : Bool) (n : Nat) : List Sm → List Sm × Nat
 | [] => ([], n)
 | s :: l => ((Sm.num b n s).1 :: (Sm.nums b (Sm.num b n s).2 l).1, (Sm.nums b (Sm.num b n s).2 l).2)
end

def Pc.nums (n : Nat) : List Pc → List Pc
 | [] => []
 | f :: l => { f with body := (Sm.nums true n f.body).1 } :: Pc.nums (Sm.nums true n f.body).2 l
def Pg.number (p : Pg) : Pg := { p with procs := Pc.nums 0 p.procs }
def Pg.numberO (p : Pg) : Option Pg := if p.size < 1073741824 then some p.number else none

mutual
theorem Sm.num_le (b : Bool) (n : Nat) : ∀ s : Sm, (Sm.num b n s).2 ≤ n + s.size
 | ⟨id, kind, labels, name, proc, x, has, args, thn, els⟩ => by
   simp only [Sm.num, Sm.size]
   have h1 := Sm.nums_le b (n + 1) thn
   have h2 := Sm.nums_le b (Sm.nums b (n + 1) thn).2 els
   omega
theorem Sm.nums_le (b : Bool) (n : Nat) : ∀ l : List Sm, (Sm.nums b n l).2 ≤ n + Sm.sizes l
 | [] => by simp [Sm.nums, Sm.sizes]
 | s :: l => by
   simp only [Sm.nums, Sm.sizes]
   have h1 := Sm.num_le b n s
   have h2 := Sm.nums_le b (Sm.num b n s).2 l
   omega
end
theorem Sm.sizes_len : ∀ (l : List Sm), l.length ≤ Sm.sizes l
 | [] => Nat.le_refl _
 | x :: l => by simp only [Sm.sizes, List.length_cons]; have := Sm.sizes_len l; omega
theorem Ar.sizes_len : ∀ (l : List Ar), l.length ≤ Ar.sizes l
 | [] => Nat.le_refl _
 | x :: l => by simp only [Ar.sizes, List.length_cons]; have := Ar.sizes_len l; omega
theorem Pc.sizes_len : ∀ (l : List Pc), l.length ≤ Pc.sizes l
 | [] => Nat.le_refl _
 | x :: l => by simp only [Pc.sizes, List.length_cons]; have := Pc.sizes_len l; omega
theorem Ar.sizes_mem {x : Ar} : ∀ {l : List Ar}, x ∈ l → x.x.size < Ar.sizes l
 | y :: l, h => by
   simp only [Ar.sizes]
   rcases List.mem_cons.1 h with rfl | h
   · omega
   · have := Ar.sizes_mem h; omega
theorem Sm.sizes_mem {x : Sm} : ∀ {l : List Sm}, x ∈ l → x.size < Sm.sizes l
 | y :: l, h => by
   simp only [Sm.sizes]
   rcases List.mem_cons.1 h with rfl | h
   · omega
   · have := Sm.sizes_mem h; omega
theorem Pc.sizes_mem {x : Pc} : ∀ {l : List Pc}, x ∈ l → x.size < Pc.sizes l
 | y :: l, h => by
   simp only [Pc.sizes]
   rcases List.mem_cons.1 h with rfl | h
   · omega
   · have := Pc.sizes_mem h; omega
end Go.Abs

/-! MirMay -/

namespace Go.Abs

def nameT : Str → Bool
 | [] => true
 | c :: r => if !(isL c) && !(isD c) then false else nameT r
def isName : Str → Bool
 | [] => false
 | c :: r => if decide (((r.length + 1 : Nat) : Int) > 8) || !(isL c) then false else if nameT r then !(isWord (c :: r)) else false

def arityI (op : Int) : Int := if op == 1 || op == 2 then 0 else if op == 3 || op == 4 then 1 else if decide (op ≥ 5) && decide (op ≤ 17) then 2 else -1

mutual
def Ex.form : Ex → Bool
 | ⟨op, n, name, kids⟩ =>
   if arityI op != (kids.length : Int) || (op != 1 && n != 0) || decide (n < 0) || !((op == 2) == !(name == [])) || (!(name == []) && !(isName name)) then false else Ex.forms kids
def Ex.forms : List Ex → Bool
 | [] => true
 | x :: l => if !(Ex.form x) then false else Ex.forms l
end
mutual
def Ex.texts : Ex → Prop
 | ⟨_, _, name, kids⟩ => name.length < 4611686018427387904 ∧ Ex.textss kids
def Ex.textss : List Ex → Prop
 | [] => True
 | x :: l => x.texts ∧ Ex.textss l
end
theorem Ex.textss_mem {x : Ex} : ∀ {l : List Ex}, Ex.textss l → x ∈ l → x.texts
 | y :: l, h, m => by
   rcases List.mem_cons.1 m with rfl | m
   · exact h.1
   · exact Ex.textss_mem h.2 m
theorem Ex.texts_mem {op n : Int} {name : Str} {kids : List Ex} (h : Ex.texts ⟨op, n, name, kids⟩) {y : Ex} (m : y ∈ kids) : y.texts := Ex.textss_mem h.2 m
def Ex.may (x : Ex) : Bool := decide (((min x.depth 21 : Nat) : Int) ≤ 20) && x.form
def Ex.none (x : Ex) : Bool := x.op == 0 && x.n == 0 && x.name == [] && (x.kids.length : Int) == 0
def mayNames : List Str → Bool
 | [] => true
 | s :: l => if !(isName s) then false else mayNames l
def Ar.may (a : Ar) : Bool := if a.ref then isName a.name && a.x.none else a.name == [] && a.x.may
def Ar.mays : List Ar → Bool
 | [] => true
 | a :: l => if !(a.may) then false else Ar.mays l

def Sm.hasX (s : Sm) : Bool := s.kind == 1 || s.kind == 3 || s.kind == 5 || s.kind == 6 || (s.kind == 9 && s.has)
def Sm.hasName (s : Sm) : Bool := s.kind == 1 || s.kind == 2 || s.kind == 10
def Sm.isCall (s : Sm) : Bool := s.kind == 4
def Sm.one (s : Sm) : Bool :=
 if decide (s.kind < 1) || decide (s.kind > 10) || !(mayNames s.labels) || (s.hasX && !(s.x.may)) || (!(s.hasX) && !(s.x.none)) || (s.has && s.kind != 9) then false
 else if (s.hasName && !(isName s.name)) || (!(s.hasName) && !(s.name == []) && !(s.isCall && isName s.name)) then false
 else if !(s.isCall == !(s.proc == [])) || (s.isCall && !(isName s.proc)) || (!(s.isCall) && decide ((s.args.length : Int) > 0)) then false
 else if !(Ar.mays s.args) then false
 else ((s.thn.length : Int) == 0 || s.kind == 5 || s.kind == 6) && ((s.els.length : Int) == 0 || s.kind == 5)

structure It where
 s : Sm
 deep : Int
 inn : Int
 els : Bool

mutual
def flatS (deep inn : Int) (els : Bool) (out : List It) : Sm → List It
 | ⟨id, kind, labels, name, proc, x, has, args, thn, e⟩ =>
   if decide (deep ≤ 12) then flatL (deep + 1) id true (flatL (deep + 1) id false (out ++ [⟨⟨id, kind, labels, name, proc, x, has, args, thn, e⟩, deep, inn, els⟩]) thn) e
   else out ++ [⟨⟨id, kind, labels, name, proc, x, has, args, thn, e⟩, deep, inn, els⟩]
def flatL (deep inn : Int) (els : Bool) (out : List It) : List Sm → List It
 | [] => out
 | s :: l => if decide ((out.length : Int) ≤ 200) then flatL deep inn els (flatS deep inn els out s) l else out
end
def Pc.flat (f : Pc) : List It := flatL 1 0 false [] f.body
def allM (out : List It) : List Pc → List It
 | [] => out
 | f :: l => if decide (((out ++ f.flat).length : Int) > 200) then out ++ f.flat else allM (out ++ f.flat) l
def Pg.all (p : Pg) : List It := allM [] p.procs

def Pm.mays : List Pm → Bool
 | [] => true
 | a :: l => if !(isName a.name) then false else Pm.mays l
def Pc.heads : List Pc → Bool
 | [] => true
 | f :: l =>
   if !(isName f.name) || decide ((f.params.length : Int) > 8) || decide ((f.vars.length : Int) > 16) || !(mayNames f.vars) || !(mayNames f.fin) then false
   else if !(Pm.mays f.params) then false else Pc.heads l
def It.mays (n : Nat) : List It → Bool
 | [] => true
 | i :: l => if i.s.id != ((n + 1 : Nat) : Int) || decide (i.deep > 12) || !(i.s.one) then false else It.mays (n + 1) l
def Pg.may (p : Pg) : Bool :=
 if decide ((p.globals.length : Int) > 16) || decide ((p.procs.length : Int) > 16) || !(mayNames p.globals) then false
 else if !(Pc.heads p.procs) then false
 else if decide ((p.all.length : Int) > 200) then false else It.mays 0 p.all

end Go.Abs

/-! Nums -/

namespace Go.Abs

def n_law5_PrintTurn : Nat := 3
def n_law5_PrintSwap : Nat := 4
def n_law5_printed : Nat := 5
def n_ref3_Fits : Nat := 6
def n_print_Text : Nat := 7
def n_ref3_May : Nat := 8
def n_lex_All : Nat := 9
def n_ref3_Tokens : Nat := 10
def n_parse_Parse : Nat := 11
def n_ref3_Eq : Nat := 12
def n_lex_Name : Nat := 13
def n_ref3_Swap : Nat := 14
def n_ref3_Some : Nat := 15
def n_ref3_Source : Nat := 16
def n_print_Expr : Nat := 17
def n_ref3_weighTexts : Nat := 18
def n_ref3_weighText : Nat := 19
def n_ref3_weighStmts : Nat := 20
def n_tree_May : Nat := 21
def n_print_writer_line : Nat := 22
def n_strings_Join : Nat := 23
def n_print_ref : Nat := 24
def n_print_writer_rows : Nat := 25
def n_print_marks : Nat := 26
def n_strings_Builder_String : Nat := 27
def n_ref3_names : Nat := 28
def n_ref1_Name : Nat := 29
def n_ref3_All : Nat := 30
def n_ref3_one : Nat := 31
def n_lex_letter : Nat := 32
def n_lex_digit : Nat := 33
def n_lex_sign : Nat := 34
def n_lex_run : Nat := 35
def n_lex_Word : Nat := 36
def n_lex_number : Nat := 37
def n_ref3_Flat : Nat := 38
def n_ref3_tokensOf : Nat := 39
def n_parse_reader_program : Nat := 40
def n_tree_Number : Nat := 41
def n_ref3_EqTexts : Nat := 42
def n_ref3_EqStmts : Nat := 43
def n_ref3_SwapTexts : Nat := 44
def n_ref3_other : Nat := 45
def n_ref3_SwapStmts : Nat := 46
def n_ref3_num : Nat := 47
def n_ref3_name : Nat := 48
def n_ref3_two : Nat := 49
def n_tree_MayExpr : Nat := 50
def n_print_expr : Nat := 51
def n_ref3_weighExpr : Nat := 52
def n_tree_names : Nat := 53
def n_tree_looker_rows : Nat := 54
def n_strings_Builder_WriteByte : Nat := 55
def n_strings_Builder_WriteString : Nat := 56
def n_strings_Builder_Grow : Nat := 57
def n_print_plain : Nat := 58
def n_ref1_small : Nat := 59
def n_ref1_digit : Nat := 60
def n_ref1_Word : Nat := 61
def n_ref3_MayExpr : Nat := 62
def n_ref3_none : Nat := 63
def n_ref3_arg : Nat := 64
def n_ref3_flat : Nat := 65
def n_ref3_Size : Nat := 66
def n_parse_reader_take : Nat := 67
def n_parse_reader_names : Nat := 68
def n_parse_reader_good : Nat := 69
def n_parse_reader_is : Nat := 70
def n_parse_reader_bad : Nat := 71
def n_parse_reader_proc : Nat := 72
def n_parse_reader_peek : Nat := 73
def n_slices_Clone_string : Nat := 74
def n_slices_Clone_api_Param : Nat := 75
def n_tree_copied : Nat := 76
def n_ref3_eqOne : Nat := 77
def n_ref3_SwapExpr : Nat := 78
def n_tree_deep : Nat := 79
def n_strconv_FormatInt : Nat := 80
def n_print_sign : Nat := 81
def n_tree_fields : Nat := 82
def n_strings_Builder_copyCheck : Nat := 83
def n_strings_Builder_grow : Nat := 84
def n_ref1_Words : Nat := 85
def n_ref3_deep : Nat := 86
def n_ref3_form : Nat := 87
def n_parse_reader_name : Nat := 88
def n_parse_reader_want : Nat := 89
def n_parse_reader_rows : Nat := 90
def n_tree_expr : Nat := 91
def n_ref3_EqExpr : Nat := 92
def n_tree_kids : Nat := 93
def n_internal_strconv_FormatInt : Nat := 94
def n_tree_named : Nat := 95
def n_tree_worth : Nat := 96
def n_tree_handed : Nat := 97
def n_internal_abi_NoEscape : Nat := 98
def n_internal_bytealg_MakeNoZero : Nat := 99
def n_ref3_Arity : Nat := 100
def n_parse_reader_labels : Nat := 101
def n_parse_reader_stmt : Nat := 102
def n_internal_strconv_small : Nat := 103
def n_internal_strconv_numDigits : Nat := 104
def n_internal_strconv_formatBase10 : Nat := 105
def n_internal_strconv_formatBits : Nat := 106
def n_tree_none : Nat := 107
def n_parse_reader_begins : Nat := 108
def n_parse_reader_named : Nat := 109
def n_parse_reader_choice : Nat := 110
def n_parse_reader_head : Nat := 111
def n_parse_reader_block : Nat := 112
def n_parse_reader_plain : Nat := 113
def n_internal_strconv_log10Pow2 : Nat := 114
def n_math_bits_Len64 : Nat := 115
def n_internal_strconv_bool2_int : Nat := 116
def n_internal_strconv_isPowerOfTwo : Nat := 117
def n_math_bits_TrailingZeros : Nat := 118
def n_parse_reader_call : Nat := 119
def n_parse_reader_whole : Nat := 120
def n_math_bits_TrailingZeros32 : Nat := 121
def n_math_bits_TrailingZeros64 : Nat := 122
def n_parse_reader_two : Nat := 123
def n_parse_depth : Nat := 124
def n_parse_reader_one : Nat := 125
def n_parse_op : Nat := 126

end Go.Abs

/-! Codes0 -/

namespace Go.Abs
abbrev AI.o (t : Nat) (a : AO) : AI := .op (some t) none a
abbrev AI.g (t c : Nat) (b : Bool) (a : AO) : AI := .op (some t) (some (c, b)) a
abbrev AI.c (t f : Nat) (l : List X) : AI := .call (some t) none f l
abbrev AI.d (t c : Nat) (b : Bool) (f : Nat) (l : List X) : AI := .call (some t) (some (c, b)) f l
abbrev AI.m (t : Nat) (x : X) : AI := .op (some t) none (.mv x)
abbrev z0_ : X := .s 0
abbrev z1_ : X := .s 1
abbrev z2_ : X := .s 2
abbrev z3_ : X := .s 3
abbrev z4_ : X := .s 4
abbrev z5_ : X := .s 5
abbrev z6_ : X := .s 6
abbrev z7_ : X := .s 7
abbrev z8_ : X := .s 8
abbrev z9_ : X := .s 9
abbrev z10_ : X := .s 10
abbrev z11_ : X := .s 11
abbrev z12_ : X := .s 12
abbrev z13_ : X := .s 13
abbrev z14_ : X := .s 14
abbrev z15_ : X := .s 15
abbrev z16_ : X := .s 16
abbrev z17_ : X := .s 17
abbrev z18_ : X := .s 18
abbrev z19_ : X := .s 19
abbrev z20_ : X := .s 20
abbrev z21_ : X := .s 21
abbrev z22_ : X := .s 22
abbrev z23_ : X := .s 23
abbrev z24_ : X := .s 24
abbrev z25_ : X := .s 25
abbrev z26_ : X := .s 26
abbrev z27_ : X := .s 27
abbrev z28_ : X := .s 28
abbrev z29_ : X := .s 29
abbrev z30_ : X := .s 30
abbrev z31_ : X := .s 31
abbrev z32_ : X := .s 32
abbrev z33_ : X := .s 33
abbrev z34_ : X := .s 34
abbrev z35_ : X := .s 35
abbrev z36_ : X := .s 36
abbrev z37_ : X := .s 37
abbrev z38_ : X := .s 38
abbrev z39_ : X := .s 39
abbrev z40_ : X := .s 40
abbrev z41_ : X := .s 41
abbrev z42_ : X := .s 42
abbrev z43_ : X := .s 43
abbrev z44_ : X := .s 44
abbrev z45_ : X := .s 45
abbrev z46_ : X := .s 46
abbrev z47_ : X := .s 47
abbrev z48_ : X := .s 48
abbrev z49_ : X := .s 49
abbrev z50_ : X := .s 50
abbrev z51_ : X := .s 51
abbrev z52_ : X := .s 52
abbrev z53_ : X := .s 53
abbrev z54_ : X := .s 54
abbrev z55_ : X := .s 55
abbrev z56_ : X := .s 56
abbrev z57_ : X := .s 57
abbrev z58_ : X := .s 58
abbrev z59_ : X := .s 59
abbrev z60_ : X := .s 60
abbrev z61_ : X := .s 61
abbrev z62_ : X := .s 62
abbrev z63_ : X := .s 63
abbrev z64_ : X := .s 64
abbrev z65_ : X := .s 65
abbrev z66_ : X := .s 66
abbrev z67_ : X := .s 67
abbrev z68_ : X := .s 68
abbrev z69_ : X := .s 69
abbrev z70_ : X := .s 70
abbrev z71_ : X := .s 71
abbrev z72_ : X := .s 72
abbrev z73_ : X := .s 73
abbrev z74_ : X := .s 74
abbrev z75_ : X := .s 75
abbrev z76_ : X := .s 76
abbrev z77_ : X := .s 77
abbrev z78_ : X := .s 78
abbrev z79_ : X := .s 79
abbrev z80_ : X := .s 80
abbrev z81_ : X := .s 81
abbrev z82_ : X := .s 82
abbrev z83_ : X := .s 83
abbrev z84_ : X := .s 84
abbrev z85_ : X := .s 85
abbrev z86_ : X := .s 86
abbrev z87_ : X := .s 87
abbrev z88_ : X := .s 88
abbrev z89_ : X := .s 89
abbrev z90_ : X := .s 90
abbrev z91_ : X := .s 91
abbrev z92_ : X := .s 92
abbrev z93_ : X := .s 93
abbrev z94_ : X := .s 94
abbrev z95_ : X := .s 95
abbrev z96_ : X := .s 96
abbrev z97_ : X := .s 97
abbrev z98_ : X := .s 98
abbrev z99_ : X := .s 99
abbrev z100_ : X := .s 100
abbrev z101_ : X := .s 101
abbrev z102_ : X := .s 102
abbrev z103_ : X := .s 103
abbrev z104_ : X := .s 104
abbrev z105_ : X := .s 105
abbrev z106_ : X := .s 106
abbrev z107_ : X := .s 107
abbrev z108_ : X := .s 108
abbrev z109_ : X := .s 109
abbrev z110_ : X := .s 110
abbrev z111_ : X := .s 111
abbrev z112_ : X := .s 112
abbrev z113_ : X := .s 113
abbrev z114_ : X := .s 114
abbrev z115_ : X := .s 115
abbrev z116_ : X := .s 116
abbrev z117_ : X := .s 117
abbrev z118_ : X := .s 118
abbrev z119_ : X := .s 119
abbrev z120_ : X := .s 120
abbrev z121_ : X := .s 121
abbrev z122_ : X := .s 122
abbrev z123_ : X := .s 123
abbrev z124_ : X := .s 124
abbrev z125_ : X := .s 125
abbrev z126_ : X := .s 126
abbrev z127_ : X := .s 127
abbrev z128_ : X := .s 128
abbrev z129_ : X := .s 129
abbrev z130_ : X := .s 130
abbrev z131_ : X := .s 131
abbrev z132_ : X := .s 132
abbrev z133_ : X := .s 133
abbrev z134_ : X := .s 134
abbrev z135_ : X := .s 135
abbrev z136_ : X := .s 136
abbrev z137_ : X := .s 137
abbrev z138_ : X := .s 138
abbrev z139_ : X := .s 139
abbrev z140_ : X := .s 140
abbrev z141_ : X := .s 141
abbrev z142_ : X := .s 142
abbrev z143_ : X := .s 143
abbrev z144_ : X := .s 144
abbrev z145_ : X := .s 145
abbrev z146_ : X := .s 146
abbrev z147_ : X := .s 147
abbrev z148_ : X := .s 148
abbrev z149_ : X := .s 149
abbrev z150_ : X := .s 150
abbrev z151_ : X := .s 151
abbrev z152_ : X := .s 152
abbrev z153_ : X := .s 153
abbrev z154_ : X := .s 154
abbrev z155_ : X := .s 155
abbrev z156_ : X := .s 156
abbrev z157_ : X := .s 157
abbrev z158_ : X := .s 158
abbrev z159_ : X := .s 159
abbrev z160_ : X := .s 160
abbrev z161_ : X := .s 161
abbrev z162_ : X := .s 162
abbrev z163_ : X := .s 163
abbrev z164_ : X := .s 164
abbrev z165_ : X := .s 165
abbrev z166_ : X := .s 166
abbrev z167_ : X := .s 167
abbrev z168_ : X := .s 168
abbrev z169_ : X := .s 169
abbrev z170_ : X := .s 170
abbrev z171_ : X := .s 171
abbrev z172_ : X := .s 172
abbrev z173_ : X := .s 173
abbrev z174_ : X := .s 174
abbrev z175_ : X := .s 175
abbrev z176_ : X := .s 176
abbrev z177_ : X := .s 177

abbrev Q04 : AC := .cond z10_ (.seq (.run [.o 6 (.mv (.k (.bool false)))]) .ret) .skip
abbrev Q09 : AC := .cond z13_ (.seq (.run [.o 6 (.mv (.k (.bool true)))]) .ret) .skip
abbrev Q0E : AC := .cond z31_ (.seq (.run [.o 6 (.mv (.k (.bool true)))]) .ret) .skip
abbrev Q0H : AC := .par [.o 41 (.faddr z8_ 0), .o 42 (.load z41_ false 1), .o 43 (.bin .eql z42_ (.k (.int .i64 0))), .m 44 z43_, .g 45 44 true (.load z7_ true 2), .g 46 44 true (.mv z1_), .g 47 44 true (.mv z2_), .d 48 44 true n_ref3_Swap [z45_, z46_, z47_], .g 49 44 true (.load z3_ true 2), .d 50 44 true n_ref3_Eq [z48_, z49_], .o 51 (.pick z44_ z50_ (.k (.bool false))), .m 6 z51_] [(0, 0), (1, 0), (2, 0), (3, 0), (4, 0), (5, 0), (6, 0), (7, 0), (8, 1), (9, 0), (10, 0), (11, 0)]
abbrev Q0K : AC := .seq (.seq (.run [.m 14 z1_, .c 15 n_lex_Name [z14_], .o 16 (.un .not z15_), .m 17 z16_, .g 18 17 false (.mv z2_), .d 19 17 false n_lex_Name [z18_], .g 20 17 false (.un .not z19_), .o 21 (.pick z17_ (.k (.bool true)) z20_), .m 22 z21_, .g 23 22 false (.load z3_ true 2), .d 24 22 false n_ref3_May [z23_], .g 25 22 false (.un .not z24_), .o 26 (.pick z22_ (.k (.bool true)) z25_), .m 27 z26_, .g 28 27 false (.load z3_ true 2), .d 29 27 false n_ref3_Tokens [z28_], .g 30 27 false (.bin .gtr z29_ (.k (.int .i64 2000))), .o 31 (.pick z27_ (.k (.bool true)) z30_)]) Q0E) (.seq (.run [.o 33 (.load z3_ true 2), .m 34 z1_, .m 35 z2_, .c 36 n_ref3_Swap [z33_, z34_, z35_], .c 37 n_print_Text [z36_], .c 38 n_parse_Parse [z37_], .m 32 z38_, .o 39 (.ext z32_ 0), .o 40 (.ext z32_ 1), .o 7 (.alloc [(.slice .full 0 []), (.slice .full 0 [])]), .o 8 (.alloc [(.int .i64 0), (.int .i64 0)]), .op none none (.store z7_ z39_ 2), .op none none (.store z8_ z40_ 2)]) (.seq Q0H .ret))
abbrev Q0N : AC := .seq (.run [.o 3 (.box z0_), .o 6 (.mv (.k (.bool false)))]) (.seq (.seq (.run [.c 9 n_law5_printed [], .o 10 (.un .not z9_)]) Q04) (.seq (.seq (.run [.o 11 (.load z3_ true 2), .c 12 n_ref3_Fits [z11_], .o 13 (.un .not z12_)]) Q09) Q0K))
abbrev Q0S : AC := .seq (.run [.c 2 n_ref3_Some [], .o 1 (.alloc [(.slice .full 0 []), (.slice .full 0 [])]), .op none none (.store z1_ z2_ 2)]) (.seq (.run [.o 3 (.load z1_ true 2), .c 4 n_print_Text [z3_], .c 5 n_ref3_Source [], .o 6 (.bin .eql z4_ z5_), .m 7 z6_, .g 8 7 true (.faddr z1_ 1), .g 9 7 true (.load z8_ false 1), .g 10 7 true (.iaddr z9_ (.k (.int .i64 1)) 5), .g 11 7 true (.faddr z10_ 3), .g 12 7 true (.load z11_ false 1), .g 13 7 true (.iaddr z12_ (.k (.int .i64 1)) 13), .g 14 7 true (.faddr z13_ 5), .g 15 7 true (.load z14_ true 4), .d 16 7 true n_print_Expr [z15_], .g 17 7 true (.bin .eql z16_ (.k (.str [121, 32, 62, 32, 57]))), .o 18 (.pick z7_ z17_ (.k (.bool false))), .m 0 z18_]) .ret)
abbrev Q0T : AC := .seq (.run [.o 0 (.mv (.k (.bool false)))]) Q0S
abbrev Q11 : AC := .par [.o 26 (.faddr z5_ 4), .o 27 (.load z26_ false 1), .o 28 (.faddr z5_ 2), .o 29 (.load z28_ false 1), .o 30 (.faddr z5_ 0), .o 31 (.load z30_ false 1), .m 32 z3_, .c 33 n_ref3_weighText [z31_, z32_], .c 34 n_ref3_weighTexts [z29_, z33_], .c 35 n_ref3_weighTexts [z27_, z34_], .m 3 z35_] [(4, 0), (5, 0), (6, 0), (7, 0), (2, 0), (3, 1), (8, 0), (0, 0), (1, 2), (9, 0), (10, 0)]
abbrev Q1A : AC := .seq (.seq (.run [.m 36 z6_, .o 37 (.faddr z5_ 1), .o 38 (.load z37_ false 1), .o 39 (.len z38_), .o 40 (.bin .lss z36_ z39_), .m 41 z40_, .g 42 41 true (.mv z3_), .g 43 41 true (.bin .leq z42_ (.k (.int .i64 20000))), .o 44 (.pick z41_ z43_ (.k (.bool false)))]) (.cond z44_ .skip (.exit 2))) (.seq (.block 3 (.run [.o 47 (.faddr z5_ 1), .o 48 (.load z47_ false 1), .m 49 z6_, .o 50 (.iaddr z48_ z49_ 2), .o 51 (.faddr z50_ 0), .o 52 (.load z51_ false 1), .m 53 z3_, .c 54 n_ref3_weighText [z52_, z53_], .m 3 z54_])) (.run [.m 45 z6_, .o 46 (.bin .add z45_ (.k (.int .i64 1))), .m 6 z46_]))
abbrev Q1F : AC := .seq (.seq (.run [.o 6 (.mv (.k (.int .i64 0)))]) (.block 2 (.loop Q1A))) (.run [.o 55 (.faddr z5_ 3), .o 56 (.load z55_ false 1), .m 57 z3_, .c 58 n_ref3_weighStmts [z56_, z57_], .m 3 z58_])
abbrev Q1K : AC := .seq (.block 1 (.seq (.run [.o 21 (.faddr z1_ 1), .o 22 (.load z21_ false 1), .m 23 z4_, .o 24 (.iaddr z22_ z23_ 5), .o 25 (.load z24_ true 5), .o 5 (.alloc [(.str []), (.slice .full 0 []), (.slice .full 0 []), (.slice .full 0 []), (.slice .full 0 [])]), .op none none (.store z5_ z25_ 5)]) (.seq Q11 Q1F))) (.run [.m 19 z4_, .o 20 (.bin .add z19_ (.k (.int .i64 1))), .m 4 z20_])
abbrev Q1L : AC := .seq (.seq (.run [.m 10 z4_, .o 11 (.faddr z1_ 1), .o 12 (.load z11_ false 1), .o 13 (.len z12_), .o 14 (.bin .lss z10_ z13_), .m 15 z14_, .g 16 15 true (.mv z3_), .g 17 15 true (.bin .leq z16_ (.k (.int .i64 20000))), .o 18 (.pick z15_ z17_ (.k (.bool false)))]) (.cond z18_ .skip (.exit 0))) Q1K
abbrev Q1R : AC := .seq (.seq (.run [.o 4 (.mv (.k (.int .i64 0)))]) (.block 0 (.loop Q1L))) (.seq (.run [.m 59 z3_, .o 60 (.bin .leq z59_ (.k (.int .i64 20000))), .m 2 z60_]) .ret)
abbrev Q1T : AC := .seq (.run [.o 1 (.box z0_), .o 2 (.mv (.k (.bool false)))]) (.seq (.run [.o 7 (.faddr z1_ 0), .o 8 (.load z7_ false 1), .c 9 n_ref3_weighTexts [z8_, (.k (.int .i64 0))], .m 3 z9_]) Q1R)
abbrev Q1Y : AC := .cond z11_ (.seq (.run [.o 2 (.mv (.k (.str [])))]) .ret) .skip
abbrev Q24 : AC := .seq (.run [.o 14 (.faddr z1_ 0), .o 15 (.load z14_ false 1), .o 16 (.len z15_), .o 17 (.bin .gtr z16_ (.k (.int .i64 0)))]) (.cond z17_ (.run [.m 18 z3_, .o 19 (.faddr z1_ 0), .o 20 (.load z19_ false 1), (.c 21 n_strings_Join [z20_, (.k (.str [44, 32]))]), .o 22 (.bin .add (.k (.str [103, 108, 111, 98, 97, 108, 32])) z21_), .o 23 (.bin .add z22_ (.k (.str [59]))), .c 24 n_print_writer_line [z18_, (.k (.int .i64 0)), z23_]]) .skip)
abbrev Q2E : AC := .par [.m 39 z6_, .o 40 (.faddr z8_ 1), .o 41 (.load z40_ false 1), .c 42 n_print_ref [z41_], .o 43 (.faddr z8_ 0), .o 44 (.load z43_ false 1), .o 45 (.bin .add z42_ z44_), .o 46 (.bslice [(.str [])] 1 1 [(0, z45_)]), .o 47 (.app 1 16 z39_ z46_), .m 6 z47_] [(1, 0), (2, 0), (3, 0), (0, 0), (4, 0), (5, 1), (6, 0), (7, 0), (8, 0), (9, 0)]
abbrev Q2I : AC := .seq (.block 3 (.seq (.run [.o 37 (.iaddr z33_ z35_ 2), .o 38 (.load z37_ true 2), .o 8 (.alloc [(.str []), (.bool false)]), .op none none (.store z8_ z38_ 2)]) Q2E)) (.run [.o 48 (.bin .add z35_ (.k (.int .i64 1))), .m 35 z48_])
abbrev Q2M : AC := .block 2 (.loop (.seq (.run [.o 36 (.bin .lss z35_ z34_)]) (.seq (.cond z36_ .skip (.exit 2)) Q2I)))
abbrev Q2O : AC := .par [.m 49 z3_, .o 50 (.faddr z5_ 0), .o 51 (.load z50_ false 1), .o 52 (.bin .add (.k (.str [112, 114, 111, 99, 32])) z51_), .o 53 (.bin .add z52_ (.k (.str [40]))), .m 54 z6_, (.c 55 n_strings_Join [z54_, (.k (.str [44, 32]))]), .o 56 (.bin .add z53_ z55_), .o 57 (.bin .add z56_ (.k (.str [41, 32, 123]))), .c 58 n_print_writer_line [z49_, (.k (.int .i64 0)), z57_]] [(5, 0), (6, 0), (0, 0), (1, 0), (2, 1), (3, 0), (4, 0), (7, 0), (8, 0), (9, 0)]
abbrev Q2S : AC := .seq (.run [.o 59 (.faddr z5_ 2), .o 60 (.load z59_ false 1), .o 61 (.len z60_), .o 62 (.bin .gtr z61_ (.k (.int .i64 0)))]) (.cond z62_ (.run [.m 63 z3_, .o 64 (.faddr z5_ 2), .o 65 (.load z64_ false 1), (.c 66 n_strings_Join [z65_, (.k (.str [44, 32]))]), .o 67 (.bin .add (.k (.str [118, 97, 114, 32])) z66_), .o 68 (.bin .add z67_ (.k (.str [59]))), .c 69 n_print_writer_line [z63_, (.k (.int .i64 1)), z68_]]) .skip)
abbrev Q2W : AC := .seq Q2S (.seq (.run [.m 70 z3_, .o 71 (.faddr z5_ 3), .o 72 (.load z71_ false 1), .c 73 n_print_writer_rows [z70_, z72_, (.k (.int .i64 1))]]) (.run [.m 74 z3_, .o 75 (.faddr z5_ 4), .o 76 (.load z75_ false 1), .c 77 n_print_marks [z76_], .o 78 (.bin .add z77_ (.k (.str [125]))), .c 79 n_print_writer_line [z74_, (.k (.int .i64 0)), z78_]]))
abbrev Q2Y : AC := .seq (.seq (.run [.o 32 (.faddr z5_ 1), .o 33 (.load z32_ false 1), .o 34 (.len z33_), .o 35 (.mv (.k (.int .i64 0)))]) Q2M) (.seq Q2O Q2W)
abbrev Q30 : AC := .seq (.run [.o 30 (.iaddr z26_ z28_ 5), .o 31 (.load z30_ true 5), .o 5 (.alloc [(.str []), (.slice .full 0 []), (.slice .full 0 []), (.slice .full 0 []), (.slice .full 0 [])]), .op none none (.store z5_ z31_ 5)]) (.seq (.run [.o 6 (.mv (.k (.slice .full 0 [])))]) Q2Y)
abbrev Q34 : AC := .seq (.cond z29_ .skip (.exit 0)) (.seq (.block 1 Q30) (.run [.o 80 (.bin .add z28_ (.k (.int .i64 1))), .m 28 z80_]))
abbrev Q35 : AC := .seq (.run [.o 29 (.bin .lss z28_ z27_)]) Q34
abbrev Q3A : AC := .seq (.run [.m 81 z3_, .o 82 (.nilck z81_), .o 83 (.faddr z82_ 0), .c 84 n_strings_Builder_String [z83_], .m 2 z84_]) .ret
abbrev Q3B : AC := .seq (.seq (.run [.o 25 (.faddr z1_ 1), .o 26 (.load z25_ false 1), .o 27 (.len z26_), .o 28 (.mv (.k (.int .i64 0)))]) (.block 0 (.loop Q35))) Q3A
abbrev Q3E : AC := .seq (.seq (.run [.o 9 (.load z1_ true 2), .c 10 n_tree_May [z9_], .o 11 (.un .not z10_)]) Q1Y) (.seq (.run [.o 12 (.build [.nilp, (.val (.slice none 0 0))] []), .o 13 (.boxB z12_ 66), .m 3 z13_]) (.seq Q24 Q3B))
abbrev Q3F : AC := .seq (.run [.o 1 (.box z0_), .o 2 (.mv (.k (.str [])))]) Q3E
abbrev Q3K : AC := .cond z24_ (.seq (.run [.o 2 (.mv (.k (.bool false)))]) .ret) .skip
abbrev Q3Q : AC := .run [.o 32 (.faddr z4_ 0), .o 33 (.load z32_ false 1), .c 34 n_ref1_Name [z33_], .o 35 (.un .not z34_), .m 36 z35_, .g 37 36 false (.faddr z4_ 1), .g 38 36 false (.load z37_ false 1), .g 39 36 false (.len z38_), .g 40 36 false (.bin .gtr z39_ (.k (.int .i64 8))), .o 41 (.pick z36_ (.k (.bool true)) z40_), .m 42 z41_, .g 43 42 false (.faddr z4_ 2), .g 44 42 false (.load z43_ false 1), .g 45 42 false (.len z44_), .g 46 42 false (.bin .gtr z45_ (.k (.int .i64 16))), .o 47 (.pick z42_ (.k (.bool true)) z46_), .m 48 z47_, .g 49 48 false (.faddr z4_ 2), .g 50 48 false (.load z49_ false 1), .d 51 48 false n_ref3_names [z50_], .g 52 48 false (.un .not z51_), .o 53 (.pick z48_ (.k (.bool true)) z52_), .m 54 z53_, .g 55 54 false (.faddr z4_ 4), .g 56 54 false (.load z55_ false 1), .d 57 54 false n_ref3_names [z56_], .g 58 54 false (.un .not z57_), .o 59 (.pick z54_ (.k (.bool true)) z58_)]
abbrev Q3T : AC := .cond z59_ (.seq (.run [.o 2 (.mv (.k (.bool false)))]) .ret) .skip
abbrev Q42 : AC := .cond z70_ (.seq (.run [.o 2 (.mv (.k (.bool false)))]) .ret) .skip
abbrev Q47 : AC := .seq (.block 3 (.seq (.run [.o 65 (.iaddr z61_ z63_ 2), .o 66 (.load z65_ true 2), .o 6 (.alloc [(.str []), (.bool false)]), .op none none (.store z6_ z66_ 2)]) (.seq (.run [.o 67 (.faddr z6_ 0), .o 68 (.load z67_ false 1), .c 69 n_ref1_Name [z68_], .o 70 (.un .not z69_)]) Q42))) (.run [.o 71 (.bin .add z63_ (.k (.int .i64 1))), .m 63 z71_])
abbrev Q4B : AC := .block 2 (.loop (.seq (.run [.o 64 (.bin .lss z63_ z62_)]) (.seq (.cond z64_ .skip (.exit 2)) Q47)))
abbrev Q4D : AC := .seq (.seq Q3Q Q3T) (.seq (.run [.o 60 (.faddr z4_ 1), .o 61 (.load z60_ false 1), .o 62 (.len z61_), .o 63 (.mv (.k (.int .i64 0)))]) Q4B)
abbrev Q4H : AC := .seq (.block 1 (.seq (.run [.o 30 (.iaddr z26_ z28_ 5), .o 31 (.load z30_ true 5), .o 4 (.alloc [(.str []), (.slice .full 0 []), (.slice .full 0 []), (.slice .full 0 []), (.slice .full 0 [])]), .op none none (.store z4_ z31_ 5)]) Q4D)) (.run [.o 72 (.bin .add z28_ (.k (.int .i64 1))), .m 28 z72_])
abbrev Q4L : AC := .block 0 (.loop (.seq (.run [.o 29 (.bin .lss z28_ z27_)]) (.seq (.cond z29_ .skip (.exit 0)) Q4H)))
abbrev Q4R : AC := .cond z77_ (.seq (.run [.o 2 (.mv (.k (.bool false)))]) .ret) .skip
abbrev Q4X : AC := .run [.m 83 z7_, .m 84 z8_, .o 85 (.iaddr z83_ z84_ 16), .o 86 (.faddr z85_ 0), .o 87 (.faddr z86_ 0), .o 88 (.load z87_ false 1), .m 89 z8_, .o 90 (.bin .add z89_ (.k (.int .i64 1))), .o 91 (.bin .neq z88_ z90_), .m 92 z91_, .g 93 92 false (.mv z7_), .g 94 92 false (.mv z8_), .g 95 92 false (.iaddr z93_ z94_ 16), .g 96 92 false (.faddr z95_ 13), .g 97 92 false (.load z96_ false 1), .g 98 92 false (.bin .gtr z97_ (.k (.int .i64 12))), .o 99 (.pick z92_ (.k (.bool true)) z98_), .m 100 z99_, .g 101 100 false (.mv z7_), .g 102 100 false (.mv z8_), .g 103 100 false (.iaddr z101_ z102_ 16), .g 104 100 false (.faddr z103_ 0), .g 105 100 false (.load z104_ true 13), .d 106 100 false n_ref3_one [z105_], .g 107 100 false (.un .not z106_), .o 108 (.pick z100_ (.k (.bool true)) z107_)]
abbrev Q50 : AC := .cond z108_ (.seq (.run [.o 2 (.mv (.k (.bool false)))]) .ret) .skip
abbrev Q56 : AC := .seq (.cond z81_ .skip (.exit 4)) (.seq (.block 5 (.seq (.run [.m 82 z80_, .m 8 z82_]) (.seq Q4X Q50))) (.run [.o 109 (.bin .add z80_ (.k (.int .i64 1))), .m 80 z109_]))
abbrev Q5A : AC := .seq (.run [.m 78 z7_, .o 79 (.len z78_), .o 80 (.mv (.k (.int .i64 0)))]) (.block 4 (.loop (.seq (.run [.o 81 (.bin .lss z80_ z79_)]) Q56)))
abbrev Q5D : AC := .seq Q5A (.seq (.run [.o 2 (.mv (.k (.bool true)))]) .ret)
abbrev Q5E : AC := .seq (.seq (.run [.m 75 z7_, .o 76 (.len z75_), .o 77 (.bin .gtr z76_ (.k (.int .i64 200)))]) Q4R) Q5D
abbrev Q5G : AC := .seq (.seq (.run [.o 25 (.faddr z1_ 1), .o 26 (.load z25_ false 1), .o 27 (.len z26_), .o 28 (.mv (.k (.int .i64 0)))]) Q4L) (.seq (.run [.o 73 (.load z1_ true 2), .c 74 n_ref3_All [z73_], .m 7 z74_]) Q5E)
abbrev Q5H : AC := .seq (.seq (.run [.o 9 (.faddr z1_ 0), .o 10 (.load z9_ false 1), .o 11 (.len z10_), .o 12 (.bin .gtr z11_ (.k (.int .i64 16))), .m 13 z12_, .g 14 13 false (.faddr z1_ 1), .g 15 13 false (.load z14_ false 1), .g 16 13 false (.len z15_), .g 17 13 false (.bin .gtr z16_ (.k (.int .i64 16))), .o 18 (.pick z13_ (.k (.bool true)) z17_), .m 19 z18_, .g 20 19 false (.faddr z1_ 0), .g 21 19 false (.load z20_ false 1), .d 22 19 false n_ref3_names [z21_], .g 23 19 false (.un .not z22_), .o 24 (.pick z19_ (.k (.bool true)) z23_)]) Q3K) Q5G
abbrev Q5I : AC := .seq (.run [.o 1 (.box z0_), .o 2 (.mv (.k (.bool false)))]) Q5H
abbrev Q5P : AC := .seq (.run [(.o 13 (.build [(.int .i64 0), (.int .i64 0)] [(0, (1, (.k (.int .i64 4))))])), .o 2 (.mv (.k (.slice .full 0 []))), .op none none (.store z3_ z13_ 2)]) .ret
abbrev Q5V : AC := .cond z17_ (.seq (.run [.m 18 z4_, .m 19 z0_, .o 20 (.slen z19_), .o 21 (.build [(.int .i64 0), (.str []), (.int .i64 0), (.int .i64 0)] [(3, (1, z20_))]), .o 22 (.bslice [(.int .i64 0), (.str []), (.int .i64 0), (.int .i64 0)] 4 1 [(0, z21_)]), .o 23 (.app 4 40 z18_ z22_), .o 24 (.build [(.int .i64 0), (.int .i64 0)] []), .m 2 z23_, .op none none (.store z3_ z24_ 2)]) .ret) .skip
abbrev Q69 : AC := .cond z47_ (.goto 1) (.seq (.run [.m 51 z9_, .c 52 n_lex_letter [z51_], .m 50 z52_]) (.cond z50_ (.goto 2) (.seq (.run [.m 54 z9_, .c 55 n_lex_digit [z54_], .m 53 z55_]) (.cond z53_ (.goto 3) .skip))))
abbrev Q6B : AC := .cond z30_ (.seq (.run [.m 45 z6_, .o 46 (.bin .add z45_ (.k (.int .i64 1))), .m 6 z46_]) (.goto 0)) (.seq (.run [.m 48 z9_, .o 49 (.bin .eql z48_ (.k (.int .u8 35))), .m 47 z49_]) Q69)
abbrev Q6D : AC := .block 0 (.seq (.run [.m 31 z9_, .o 32 (.bin .eql z31_ (.k (.int .u8 32))), .m 33 z32_, .g 34 33 false (.mv z9_), .g 35 33 false (.bin .eql z34_ (.k (.int .u8 9))), .o 36 (.pick z33_ (.k (.bool true)) z35_), .m 37 z36_, .g 38 37 false (.mv z9_), .g 39 37 false (.bin .eql z38_ (.k (.int .u8 10))), .o 40 (.pick z37_ (.k (.bool true)) z39_), .m 41 z40_, .g 42 41 false (.mv z9_), .g 43 41 false (.bin .eql z42_ (.k (.int .u8 13))), .o 44 (.pick z41_ (.k (.bool true)) z43_), .m 30 z44_]) Q6B)
abbrev Q6R : AC := .seq (.seq (.run [.m 72 z6_, .m 73 z0_, .o 74 (.slen z73_), .o 75 (.bin .lss z72_ z74_), .m 76 z75_, .g 77 76 true (.mv z0_), .g 78 76 true (.mv z6_), .g 79 76 true (.sidx z77_ z78_), .g 80 76 true (.bin .neq z79_ (.k (.int .u8 10))), .o 81 (.pick z76_ z80_ (.k (.bool false)))]) (.cond z81_ .skip (.exit 1))) (.block 2 (.run [.m 82 z6_, .o 83 (.bin .add z82_ (.k (.int .i64 1))), .m 6 z83_]))
abbrev Q6V : AC := .par [.m 87 z0_, .o 88 (.faddr z5_ 3), .o 89 (.load z88_ false 1), .m 90 z6_, .o 91 (.sslc z87_ (some z89_) (some z90_)), .o 92 (.faddr z5_ 0), .op none none (.store z92_ (.k (.int .i64 1)) 1), .o 93 (.faddr z5_ 1), .op none none (.store z93_ z91_ 1)] [(1, 0), (2, 0), (5, 0), (6, 0), (0, 0), (3, 0), (4, 0), (7, 0), (8, 0)]
abbrev Q6Z : AC := .seq (.run [.o 94 (.faddr z5_ 1), .o 95 (.load z94_ false 1), .c 96 n_lex_Word [z95_]]) (.cond z96_ (.run [.o 97 (.faddr z5_ 0), .op none none (.store z97_ (.k (.int .i64 3)) 1)]) .skip)
abbrev Q79 : AC := .seq (.seq (.run [.m 103 z6_, .m 104 z0_, .o 105 (.slen z104_), .o 106 (.bin .lss z103_ z105_), .m 107 z106_, .g 108 107 true (.mv z0_), .g 109 107 true (.mv z6_), .g 110 107 true (.sidx z108_ z109_), .d 111 107 true n_lex_digit [z110_], .o 112 (.pick z107_ z111_ (.k (.bool false)))]) (.cond z112_ .skip (.exit 3))) (.block 4 (.run [.m 113 z6_, .o 114 (.bin .add z113_ (.k (.int .i64 1))), .m 6 z114_]))
abbrev Q7C : AC := .par [.m 115 z0_, .o 116 (.faddr z5_ 3), .o 117 (.load z116_ false 1), .m 118 z6_, .o 119 (.sslc z115_ (some z117_) (some z118_)), .o 120 (.faddr z5_ 0), .op none none (.store z120_ (.k (.int .i64 2)) 1), .o 121 (.faddr z5_ 1), .op none none (.store z121_ z119_ 1), .o 7 (.mv (.k (.int .i64 2)))] [(1, 0), (2, 0), (5, 0), (6, 0), (0, 0), (3, 0), (4, 0), (7, 0), (8, 0), (9, 0)]
abbrev Q7Q : AC := .par [.m 148 z7_, .o 149 (.faddr z5_ 3), .o 150 (.load z149_ false 1), .o 151 (.build [(.int .i64 0), (.int .i64 0)] [(0, (1, z148_)), (1, (1, z150_))]), .o 2 (.mv (.k (.slice .full 0 []))), .op none none (.store z3_ z151_ 2)] [(0, 0), (1, 0), (2, 0), (3, 0), (4, 0), (5, 0)]
abbrev Q7V : AC := .seq (.seq (.run [.m 141 z4_, .o 142 (.len z141_), .o 143 (.bin .eql z142_ (.k (.int .i64 2000)))]) (.cond z143_ (.goto 5) .skip)) (.seq (.run [.m 144 z4_, .o 145 (.load z5_ true 4), .o 146 (.bslice [(.int .i64 0), (.str []), (.int .i64 0), (.int .i64 0)] 4 1 [(0, z145_)]), .o 147 (.app 4 40 z144_ z146_), .m 4 z147_]) (.seq (.goto 0) (.seq (.label 5) (.seq Q7Q .ret))))
abbrev Q7X : AC := .seq (.label 4) (.seq (.run [.o 7 (.mv (.k (.int .i64 4)))]) Q7V)
abbrev Q80 : AC := .seq (.run [.o 133 (.faddr z5_ 1), .o 134 (.load z133_ false 1), .c 135 n_lex_number [z134_], .m 132 z135_, .o 136 (.ext z132_ 0), .o 137 (.ext z132_ 1), .o 138 (.faddr z5_ 2), .op none none (.store z138_ z136_ 1), .m 8 z137_]) (.seq (.run [.o 7 (.mv (.k (.int .i64 4)))]) (.seq (.seq (.run [.m 139 z8_, .o 140 (.un .not z139_)]) (.cond z140_ (.goto 5) .skip)) Q7X))
abbrev Q81 : AC := .seq (.seq (.run [.o 122 (.faddr z5_ 1), .o 123 (.load z122_ false 1), .o 124 (.slen z123_), .o 125 (.bin .gtr z124_ (.k (.int .i64 1))), .m 126 z125_, .g 127 126 true (.faddr z5_ 1), .g 128 126 true (.load z127_ false 1), .g 129 126 true (.sidx z128_ (.k (.int .i64 0))), .g 130 126 true (.bin .eql z129_ (.k (.int .u8 48))), .o 131 (.pick z126_ z130_ (.k (.bool false)))]) (.cond z131_ (.goto 5) .skip)) Q80
abbrev Q82 : AC := .seq Q7C Q81
abbrev Q86 : AC := .seq (.seq (.run [.m 98 z6_, .o 99 (.faddr z5_ 3), .o 100 (.load z99_ false 1), .o 101 (.bin .sub z98_ z100_), .o 102 (.bin .gtr z101_ (.k (.int .i64 8)))]) (.cond z102_ (.goto 5) .skip)) (.seq (.goto 4) (.seq (.label 3) (.seq (.block 3 (.loop Q79)) Q82)))
abbrev Q88 : AC := .seq Q6Z (.seq (.run [.o 7 (.mv (.k (.int .i64 4)))]) Q86)
abbrev Q8E : AC := .seq (.label 1) (.seq (.block 1 (.loop Q6R)) (.seq (.goto 0) (.seq (.label 2) (.seq (.run [.m 84 z0_, .m 85 z6_, .c 86 n_lex_run [z84_, z85_], .m 6 z86_]) (.seq Q6V Q88)))))
abbrev Q8I : AC := .seq (.run [.m 62 z0_, .o 63 (.faddr z5_ 3), .o 64 (.load z63_ false 1), .m 65 z6_, .o 66 (.sslc z62_ (some z64_) (some z65_)), .o 67 (.faddr z5_ 1), .op none none (.store z67_ z66_ 1)]) (.seq (.run [.o 7 (.mv (.k (.int .i64 2)))]) (.seq (.seq (.run [.m 68 z6_, .o 69 (.faddr z5_ 3), .o 70 (.load z69_ false 1), .o 71 (.bin .gtr z68_ z70_)]) (.cond z71_ (.goto 4) .skip)) (.seq (.goto 5) Q8E)))
abbrev Q8L : AC := .seq (.seq (.run [.m 27 z0_, .m 28 z6_, .o 29 (.sidx z27_ z28_), .m 9 z29_]) Q6D) (.seq (.run [.o 56 (.faddr z5_ 0), .op none none (.store z56_ (.k (.int .i64 4)) 1)]) (.seq (.run [.m 57 z6_, .m 58 z0_, .m 59 z6_, .c 60 n_lex_sign [z58_, z59_], .o 61 (.bin .add z57_ z60_), .m 6 z61_]) Q8I))
abbrev Q8N : AC := .seq (.seq (.run [.m 14 z6_, .m 15 z0_, .o 16 (.slen z15_), .o 17 (.bin .geq z14_ z16_)]) Q5V) (.seq (.run [.m 25 z6_, .o 26 (.build [(.int .i64 0), (.str []), (.int .i64 0), (.int .i64 0)] [(3, (1, z25_))]), .op none none (.store z5_ z26_ 4)]) Q8L)
abbrev Q8P : AC := .seq (.seq (.run [.m 10 z0_, .o 11 (.slen z10_), .o 12 (.bin .gtr z11_ (.k (.int .i64 100000)))]) (.cond z12_ Q5P .skip)) (.seq (.label 0) Q8N)
abbrev Q8R : AC := .seq (.run [.o 5 (.alloc [(.int .i64 0), (.str []), (.int .i64 0), (.int .i64 0)])]) (.seq (.run [.o 6 (.mv (.k (.int .i64 0))), .o 7 (.mv (.k (.int .i64 0))), .o 8 (.mv (.k (.bool true)))]) Q8P)
abbrev Q8S : AC := .seq (.run [.o 4 (.mv (.k (.slice .full 0 [])))]) Q8R
abbrev Q8T : AC := .scope Q8S
abbrev Q8U : AC := .seq (.run [.o 2 (.mv (.k (.slice .full 0 []))), .o 3 (.alloc [(.int .i64 0), (.int .i64 0)])]) Q8T
abbrev Q90 : AC := .seq (.run [.o 10 (.faddr z1_ 0), .o 11 (.load z10_ false 1), .o 12 (.len z11_), .o 13 (.bin .gtr z12_ (.k (.int .i64 0)))]) (.cond z13_ (.run [.o 14 (.faddr z1_ 0), .o 15 (.load z14_ false 1), .o 16 (.len z15_), .o 17 (.bin .mul (.k (.int .i64 2)) z16_), .o 18 (.bin .add (.k (.int .i64 1)) z17_), .m 3 z18_]) .skip)
abbrev Q9D : AC := .seq (.run [.o 45 (.faddr z7_ 1), .o 46 (.load z45_ false 1)]) (.cond z46_ (.run [.m 47 z3_, .o 48 (.bin .add z47_ (.k (.int .i64 1))), .m 3 z48_]) .skip)
abbrev Q9H : AC := .seq (.block 3 (.seq (.run [.o 43 (.iaddr z39_ z41_ 2), .o 44 (.load z43_ true 2), .o 7 (.alloc [(.str []), (.bool false)]), .op none none (.store z7_ z44_ 2)]) Q9D)) (.run [.o 49 (.bin .add z41_ (.k (.int .i64 1))), .m 41 z49_])
abbrev Q9L : AC := .block 2 (.loop (.seq (.run [.o 42 (.bin .lss z41_ z40_)]) (.seq (.cond z42_ .skip (.exit 2)) Q9H)))
abbrev Q9Q : AC := .seq (.run [.o 50 (.faddr z5_ 1), .o 51 (.load z50_ false 1), .o 52 (.len z51_), .o 53 (.bin .gtr z52_ (.k (.int .i64 0)))]) (.cond z53_ (.run [.m 54 z3_, .o 55 (.bin .sub z54_ (.k (.int .i64 1))), .m 3 z55_]) .skip)
abbrev Q9U : AC := .seq (.run [.o 56 (.faddr z5_ 2), .o 57 (.load z56_ false 1), .o 58 (.len z57_), .o 59 (.bin .gtr z58_ (.k (.int .i64 0)))]) (.cond z59_ (.run [.m 60 z3_, .o 61 (.faddr z5_ 2), .o 62 (.load z61_ false 1), .o 63 (.len z62_), .o 64 (.bin .mul (.k (.int .i64 2)) z63_), .o 65 (.bin .add (.k (.int .i64 1)) z64_), .o 66 (.bin .add z60_ z65_), .m 3 z66_]) .skip)
abbrev QA3 : AC := .seq (.block 5 (.seq (.run [.o 72 (.iaddr z68_ z70_ 16), .o 73 (.load z72_ true 16), .o 9 (.alloc [(.int .i64 0), (.int .i64 0), (.slice .full 0 []), (.str []), (.str []), (.int .i64 0), (.int .i64 0), (.str []), (.slice .full 0 []), (.bool false), (.slice .full 0 []), (.slice .full 0 []), (.slice .full 0 []), (.int .i64 0), (.int .i64 0), (.bool false)]), .op none none (.store z9_ z73_ 16)]) (.run [.m 74 z3_, .o 75 (.faddr z9_ 0), .o 76 (.load z75_ true 13), .c 77 n_ref3_tokensOf [z76_], .o 78 (.bin .add z74_ z77_), .m 3 z78_]))) (.run [.o 79 (.bin .add z70_ (.k (.int .i64 1))), .m 70 z79_])
abbrev QA5 : AC := .seq (.run [.o 71 (.bin .lss z70_ z69_)]) (.seq (.cond z71_ .skip (.exit 4)) QA3)
abbrev QA9 : AC := .seq Q9U (.seq (.run [.o 67 (.load z5_ true 5), .c 68 n_ref3_Flat [z67_], .o 69 (.len z68_), .o 70 (.mv (.k (.int .i64 0)))]) (.block 4 (.loop QA5)))
abbrev QAB : AC := .seq (.seq (.run [.o 38 (.faddr z5_ 1), .o 39 (.load z38_ false 1), .o 40 (.len z39_), .o 41 (.mv (.k (.int .i64 0)))]) Q9L) (.seq Q9Q QA9)
abbrev QAD : AC := .seq (.run [.o 24 (.iaddr z20_ z22_ 5), .o 25 (.load z24_ true 5), .o 5 (.alloc [(.str []), (.slice .full 0 []), (.slice .full 0 []), (.slice .full 0 []), (.slice .full 0 [])]), .op none none (.store z5_ z25_ 5)]) (.seq (.run [.m 26 z3_, .o 27 (.faddr z5_ 1), .o 28 (.load z27_ false 1), .o 29 (.len z28_), .o 30 (.bin .mul (.k (.int .i64 2)) z29_), .o 31 (.bin .add (.k (.int .i64 6)) z30_), .o 32 (.faddr z5_ 4), .o 33 (.load z32_ false 1), .o 34 (.len z33_), .o 35 (.bin .mul (.k (.int .i64 2)) z34_), .o 36 (.bin .add z31_ z35_), .o 37 (.bin .add z26_ z36_), .m 3 z37_]) QAB)
abbrev QAF : AC := .run [.o 80 (.bin .add z22_ (.k (.int .i64 1))), .m 22 z80_]
abbrev QAI : AC := .seq (.run [.o 23 (.bin .lss z22_ z21_)]) (.seq (.cond z23_ .skip (.exit 0)) (.seq (.block 1 QAD) QAF))
abbrev QAN : AC := .seq (.run [.m 81 z3_, .m 2 z81_]) .ret
abbrev QAO : AC := .seq (.seq (.run [.o 19 (.faddr z1_ 1), .o 20 (.load z19_ false 1), .o 21 (.len z20_), .o 22 (.mv (.k (.int .i64 0)))]) (.block 0 (.loop QAI))) QAN
abbrev QAR : AC := .seq (.run [.o 1 (.box z0_), .o 2 (.mv (.k (.int .i64 0)))]) (.seq (.run [.o 3 (.mv (.k (.int .i64 0)))]) (.seq Q90 QAO))
abbrev QAV : AC := .par [.o 16 (.build [(.slice .full 0 []), (.slice .full 0 [])] []), .o 17 (.load z5_ true 2), .op none none (.store z2_ z16_ 2), .op none none (.store z3_ z17_ 2)] [(0, 0), (2, 0), (1, 1), (3, 0)]
abbrev QB2 : AC := .par [.o 29 (.build [(.slice .full 0 []), (.slice .full 0 [])] []), .m 30 z6_, .o 31 (.nilck z30_), .o 32 (.faddr z31_ 2), .o 33 (.load z32_ true 2), .op none none (.store z2_ z29_ 2), .op none none (.store z3_ z33_ 2)] [(0, 0), (5, 0), (1, 0), (2, 0), (3, 0), (4, 1), (6, 0)]
abbrev QB8 : AC := .seq (.seq (.run [.m 23 z6_, .o 24 (.nilck z23_), .o 25 (.faddr z24_ 2), .o 26 (.faddr z25_ 0), .o 27 (.load z26_ false 1), .o 28 (.bin .neq z27_ (.k (.int .i64 0)))]) (.cond z28_ (.seq QB2 .ret) .skip)) (.seq (.run [.o 34 (.load z7_ true 2), .c 35 n_tree_Number [z34_], .o 36 (.build [(.int .i64 0), (.int .i64 0)] []), .op none none (.store z2_ z35_ 2), .op none none (.store z3_ z36_ 2)]) .ret)
abbrev QBB : AC := .seq (.seq (.run [.o 13 (.faddr z5_ 0), .o 14 (.load z13_ false 1), .o 15 (.bin .neq z14_ (.k (.int .i64 0)))]) (.cond z15_ (.seq QAV .ret) .skip)) (.seq (.run [.m 18 z4_, .o 19 (.build [(.slice .full 0 []), (.int .i64 0), (.int .i64 0), (.int .i64 0), (.int .i64 0)] [(0, (1, z18_))]), .o 20 (.box z19_), .m 6 z20_]) (.seq (.run [.m 21 z6_, .c 22 n_parse_reader_program [z21_], .o 7 (.alloc [(.slice .full 0 []), (.slice .full 0 [])]), .op none none (.store z7_ z22_ 2)]) QB8))
abbrev QBD : AC := .seq (.run [.o 2 (.alloc [(.slice .full 0 []), (.slice .full 0 [])]), .o 3 (.alloc [(.int .i64 0), (.int .i64 0)])]) (.seq (.run [.m 9 z0_, .c 10 n_lex_All [z9_], .m 8 z10_, .o 11 (.ext z8_ 0), .o 12 (.ext z8_ 1), .o 5 (.alloc [(.int .i64 0), (.int .i64 0)]), .m 4 z11_, .op none none (.store z5_ z12_ 2)]) QBB)
abbrev QBI : AC := .cond z23_ (.seq (.run [.o 4 (.mv (.k (.bool false)))]) .ret) .skip
abbrev QBO : AC := .par [.o 30 (.faddr z2_ 1), .o 31 (.load z30_ false 1), .m 32 z5_, .o 33 (.iaddr z31_ z32_ 5), .o 34 (.load z33_ true 5), .o 35 (.faddr z3_ 1), .o 36 (.load z35_ false 1), .m 37 z5_, .o 38 (.iaddr z36_ z37_ 5), .o 39 (.load z38_ true 5), .o 6 (.alloc [(.str []), (.slice .full 0 []), (.slice .full 0 []), (.slice .full 0 []), (.slice .full 0 [])]), .o 7 (.alloc [(.str []), (.slice .full 0 []), (.slice .full 0 []), (.slice .full 0 []), (.slice .full 0 [])]), .op none none (.store z6_ z34_ 5), .op none none (.store z7_ z39_ 5)] [(10, 0), (11, 0), (0, 0), (1, 2), (2, 0), (3, 0), (4, 2), (12, 0), (5, 0), (6, 3), (7, 0), (8, 0), (9, 3), (13, 0)]
abbrev QBP : AC := .run [.o 40 (.faddr z6_ 0), .o 41 (.load z40_ false 1), .o 42 (.faddr z7_ 0), .o 43 (.load z42_ false 1), .o 44 (.bin .neq z41_ z43_), .m 45 z44_, .g 46 45 false (.faddr z6_ 1), .g 47 45 false (.load z46_ false 1), .g 48 45 false (.len z47_), .g 49 45 false (.faddr z7_ 1), .g 50 45 false (.load z49_ false 1), .g 51 45 false (.len z50_), .g 52 45 false (.bin .neq z48_ z51_), .o 53 (.pick z45_ (.k (.bool true)) z52_), .m 54 z53_, .g 55 54 false (.faddr z6_ 2), .g 56 54 false (.load z55_ false 1), .g 57 54 false (.faddr z7_ 2), .g 58 54 false (.load z57_ false 1), .d 59 54 false n_ref3_EqTexts [z56_, z58_], .g 60 54 false (.un .not z59_), .o 61 (.pick z54_ (.k (.bool true)) z60_), .m 62 z61_, .g 63 62 false (.faddr z6_ 4), .g 64 62 false (.load z63_ false 1), .g 65 62 false (.faddr z7_ 4), .g 66 62 false (.load z65_ false 1), .d 67 62 false n_ref3_EqTexts [z64_, z66_], .g 68 62 false (.un .not z67_), .o 69 (.pick z62_ (.k (.bool true)) z68_), .m 70 z69_, .g 71 70 false (.faddr z6_ 3), .g 72 70 false (.load z71_ false 1), .g 73 70 false (.faddr z7_ 3), .g 74 70 false (.load z73_ false 1), .d 75 70 false n_ref3_EqStmts [z72_, z74_], .g 76 70 false (.un .not z75_), .o 77 (.pick z70_ (.k (.bool true)) z76_)]
abbrev QBS : AC := .cond z77_ (.seq (.run [.o 4 (.mv (.k (.bool false)))]) .ret) .skip
abbrev QBY : AC := .par [.o 84 (.faddr z6_ 1), .o 85 (.load z84_ false 1), .m 86 z8_, .o 87 (.iaddr z85_ z86_ 2), .o 88 (.load z87_ true 2), .o 89 (.faddr z7_ 1), .o 90 (.load z89_ false 1), .m 91 z8_, .o 92 (.iaddr z90_ z91_ 2), .o 93 (.load z92_ true 2), .o 94 (.eqs true [2, 1] z88_ z93_)] [(0, 0), (1, 0), (2, 0), (3, 0), (4, 0), (5, 0), (6, 0), (7, 0), (8, 0), (9, 0), (10, 0)]
abbrev QC1 : AC := .cond z94_ (.seq (.run [.o 4 (.mv (.k (.bool false)))]) .ret) .skip
abbrev QC7 : AC := .seq (.cond z82_ .skip (.exit 2)) (.seq (.block 3 (.seq (.run [.m 83 z81_, .m 8 z83_]) (.seq QBY QC1))) (.run [.o 95 (.bin .add z81_ (.k (.int .i64 1))), .m 81 z95_]))
abbrev QCB : AC := .seq (.run [.o 78 (.faddr z6_ 1), .o 79 (.load z78_ false 1), .o 80 (.len z79_), .o 81 (.mv (.k (.int .i64 0)))]) (.block 2 (.loop (.seq (.run [.o 82 (.bin .lss z81_ z80_)]) QC7)))
abbrev QCH : AC := .seq (.block 1 (.seq (.run [.m 29 z27_, .m 5 z29_]) (.seq QBO (.seq (.seq QBP QBS) QCB)))) (.run [.o 96 (.bin .add z27_ (.k (.int .i64 1))), .m 27 z96_])
abbrev QCL : AC := .block 0 (.loop (.seq (.run [.o 28 (.bin .lss z27_ z26_)]) (.seq (.cond z28_ .skip (.exit 0)) QCH)))
abbrev QCP : AC := .seq (.seq (.run [.o 24 (.faddr z2_ 1), .o 25 (.load z24_ false 1), .o 26 (.len z25_), .o 27 (.mv (.k (.int .i64 0)))]) QCL) (.seq (.run [.o 4 (.mv (.k (.bool true)))]) .ret)
abbrev QCQ : AC := .seq (.seq (.run [.o 9 (.faddr z2_ 0), .o 10 (.load z9_ false 1), .o 11 (.faddr z3_ 0), .o 12 (.load z11_ false 1), .c 13 n_ref3_EqTexts [z10_, z12_], .o 14 (.un .not z13_), .m 15 z14_, .g 16 15 false (.faddr z2_ 1), .g 17 15 false (.load z16_ false 1), .g 18 15 false (.len z17_), .g 19 15 false (.faddr z3_ 1), .g 20 15 false (.load z19_ false 1), .g 21 15 false (.len z20_), .g 22 15 false (.bin .neq z18_ z21_), .o 23 (.pick z15_ (.k (.bool true)) z22_)]) QBI) QCP
abbrev QCR : AC := .seq (.run [.o 2 (.box z0_), .o 3 (.box z1_), .o 4 (.mv (.k (.bool false)))]) QCQ
abbrev QCW : AC := .cond z16_ (.seq (.run [.o 2 (.mv (.k (.bool false)))]) .ret) .skip
abbrev QD0 : AC := .seq (.seq (.run [.m 3 z0_, .o 4 (.slen z3_), .o 5 (.bin .lss z4_ (.k (.int .i64 1))), .m 6 z5_, .g 7 6 false (.mv z0_), .g 8 6 false (.slen z7_), .g 9 6 false (.bin .gtr z8_ (.k (.int .i64 8))), .o 10 (.pick z6_ (.k (.bool true)) z9_), .m 11 z10_, .g 12 11 false (.mv z0_), .g 13 11 false (.sidx z12_ (.k (.int .i64 0))), .d 14 11 false n_lex_letter [z13_], .g 15 11 false (.un .not z14_), .o 16 (.pick z11_ (.k (.bool true)) z15_)]) QCW) (.seq (.run [.m 17 z0_, .c 18 n_lex_run [z17_, (.k (.int .i64 0))], .m 19 z0_, .o 20 (.slen z19_), .o 21 (.bin .eql z18_ z20_), .m 22 z21_, .g 23 22 true (.mv z0_), .d 24 22 true n_lex_Word [z23_], .g 25 22 true (.un .not z24_), .o 26 (.pick z22_ z25_ (.k (.bool false))), .m 2 z26_]) .ret)
abbrev QD1 : AC := .seq (.run [.o 2 (.mv (.k (.bool false)))]) QD0
abbrev QD8 : AC := .par [.o 26 (.faddr z9_ 0), .o 27 (.load z26_ false 1), .m 28 z1_, .m 29 z2_, .c 30 n_ref3_other [z27_, z28_, z29_], .o 31 (.faddr z9_ 2), .o 32 (.load z31_ false 1), .m 33 z1_, .m 34 z2_, .c 35 n_ref3_SwapTexts [z32_, z33_, z34_], .o 36 (.faddr z9_ 4), .o 37 (.load z36_ false 1), .m 38 z1_, .m 39 z2_, .c 40 n_ref3_SwapTexts [z37_, z38_, z39_], .o 41 (.faddr z9_ 3), .o 42 (.load z41_ false 1), .m 43 z1_, .m 44 z2_, .c 45 n_ref3_SwapStmts [z42_, z43_, z44_], .o 46 (.build [(.str []), (.slice .full 0 []), (.slice .full 0 []), (.slice .full 0 []), (.slice .full 0 [])] [(0, (1, z30_)), (2, (1, z35_)), (4, (1, z40_)), (3, (1, z45_))]), .o 10 (.alloc [(.str []), (.slice .full 0 []), (.slice .full 0 []), (.slice .full 0 []), (.slice .full 0 [])]), .op none none (.store z10_ z46_ 5)] [(0, 0), (1, 0), (2, 0), (3, 0), (4, 0), (5, 0), (6, 1), (7, 0), (8, 0), (9, 0), (10, 0), (11, 2), (12, 0), (13, 0), (14, 0), (15, 0), (16, 3), (17, 0), (18, 0), (19, 0), (21, 0), (20, 0), (22, 0)]
abbrev QDD : AC := .par [.o 54 (.faddr z10_ 1), .o 55 (.load z54_ false 1), .o 56 (.faddr z12_ 1), .o 57 (.load z56_ false 1), .o 58 (.faddr z12_ 0), .o 59 (.load z58_ false 1), .m 60 z1_, .m 61 z2_, .c 62 n_ref3_other [z59_, z60_, z61_], .o 63 (.build [(.str []), (.bool false)] [(1, (1, z57_)), (0, (1, z62_))]), .o 64 (.bslice [(.str []), (.bool false)] 2 1 [(0, z63_)]), .o 65 (.app 2 24 z55_ z64_), .o 66 (.faddr z10_ 1), .op none none (.store z66_ z65_ 1)] [(4, 0), (5, 0), (6, 0), (7, 0), (8, 0), (0, 0), (1, 1), (2, 0), (3, 1), (9, 0), (10, 0), (11, 0), (12, 0), (13, 0)]
abbrev QDH : AC := .seq (.block 3 (.seq (.run [.o 52 (.iaddr z48_ z50_ 2), .o 53 (.load z52_ true 2), .o 12 (.alloc [(.str []), (.bool false)]), .op none none (.store z12_ z53_ 2)]) QDD)) (.run [.o 67 (.bin .add z50_ (.k (.int .i64 1))), .m 50 z67_])
abbrev QDL : AC := .block 2 (.loop (.seq (.run [.o 51 (.bin .lss z50_ z49_)]) (.seq (.cond z51_ .skip (.exit 2)) QDH)))
abbrev QDO : AC := .seq (.seq (.run [.o 47 (.faddr z9_ 1), .o 48 (.load z47_ false 1), .o 49 (.len z48_), .o 50 (.mv (.k (.int .i64 0)))]) QDL) (.run [.o 68 (.faddr z7_ 1), .o 69 (.load z68_ false 1), .o 70 (.load z10_ true 5), .o 71 (.bslice [(.str []), (.slice .full 0 []), (.slice .full 0 []), (.slice .full 0 []), (.slice .full 0 [])] 5 1 [(0, z70_)]), .o 72 (.app 5 112 z69_ z71_), .o 73 (.faddr z7_ 1), .op none none (.store z73_ z72_ 1)])
abbrev QDT : AC := .seq (.block 1 (.seq (.run [.o 24 (.iaddr z20_ z22_ 5), .o 25 (.load z24_ true 5), .o 9 (.alloc [(.str []), (.slice .full 0 []), (.slice .full 0 []), (.slice .full 0 []), (.slice .full 0 [])]), .op none none (.store z9_ z25_ 5)]) (.seq QD8 QDO))) (.run [.o 74 (.bin .add z22_ (.k (.int .i64 1))), .m 22 z74_])
abbrev QDX : AC := .block 0 (.loop (.seq (.run [.o 23 (.bin .lss z22_ z21_)]) (.seq (.cond z23_ .skip (.exit 0)) QDT)))
abbrev QE1 : AC := .seq (.seq (.run [.o 19 (.faddr z3_ 1), .o 20 (.load z19_ false 1), .o 21 (.len z20_), .o 22 (.mv (.k (.int .i64 0)))]) QDX) (.seq (.run [.o 75 (.load z7_ true 2), .op none none (.store z6_ z75_ 2)]) .ret)
abbrev QE3 : AC := .seq (.run [.o 3 (.box z0_), .o 6 (.alloc [(.slice .full 0 []), (.slice .full 0 [])])]) (.seq (.run [.o 13 (.faddr z3_ 0), .o 14 (.load z13_ false 1), .m 15 z1_, .m 16 z2_, .c 17 n_ref3_SwapTexts [z14_, z15_, z16_], .o 18 (.build [(.slice .full 0 []), (.slice .full 0 [])] [(0, (1, z17_))]), .o 7 (.alloc [(.slice .full 0 []), (.slice .full 0 [])]), .op none none (.store z7_ z18_ 2)]) QE1)
abbrev QE5 : AC := .run [(.o 3 (.bslice [(.str [])] 1 1 [(0, (.k (.str [118])))])), .c 4 n_ref3_num [(.k (.int .i64 2))], (.o 5 (.build [(.int .i64 0), (.int .i64 0), (.slice .full 0 []), (.str []), (.str []), (.int .i64 0), (.int .i64 0), (.str []), (.slice .full 0 []), (.bool false), (.slice .full 0 []), (.slice .full 0 []), (.slice .full 0 [])] [(0, (1, (.k (.int .i64 1)))), (1, (1, (.k (.int .i64 1)))), (3, (1, (.k (.str [118])))), (5, (4, z4_))])), .c 6 n_ref3_num [(.k (.int .i64 3))], .o 7 (.build [(.bool false), (.str []), (.int .i64 0), (.int .i64 0), (.str []), (.slice .full 0 [])] [(2, (4, z6_))]), (.o 8 (.build [(.bool false), (.str []), (.int .i64 0), (.int .i64 0), (.str []), (.slice .full 0 [])] [(0, (1, (.k (.bool true)))), (1, (1, (.k (.str [118]))))])), .o 9 (.bslice [(.bool false), (.str []), (.int .i64 0), (.int .i64 0), (.str []), (.slice .full 0 [])] 6 2 [(0, z7_), (1, z8_)]), (.o 10 (.build [(.int .i64 0), (.int .i64 0), (.slice .full 0 []), (.str []), (.str []), (.int .i64 0), (.int .i64 0), (.str []), (.slice .full 0 []), (.bool false), (.slice .full 0 []), (.slice .full 0 []), (.slice .full 0 [])] [(0, (1, (.k (.int .i64 2)))), (1, (1, (.k (.int .i64 4)))), (3, (1, (.k (.str [103])))), (4, (1, (.k (.str [112])))), (10, (1, z9_))])), (.c 11 n_ref3_name [(.k (.str [118]))]), (.o 12 (.build [(.int .i64 0), (.int .i64 0), (.slice .full 0 []), (.str []), (.str []), (.int .i64 0), (.int .i64 0), (.str []), (.slice .full 0 []), (.bool false), (.slice .full 0 []), (.slice .full 0 []), (.slice .full 0 [])] [(0, (1, (.k (.int .i64 3)))), (1, (1, (.k (.int .i64 3)))), (5, (4, z11_))])), (.c 13 n_ref3_name [(.k (.str [103]))]), (.o 14 (.build [(.int .i64 0), (.int .i64 0), (.slice .full 0 []), (.str []), (.str []), (.int .i64 0), (.int .i64 0), (.str []), (.slice .full 0 []), (.bool false), (.slice .full 0 []), (.slice .full 0 []), (.slice .full 0 [])] [(0, (1, (.k (.int .i64 4)))), (1, (1, (.k (.int .i64 3)))), (5, (4, z13_))])), .o 15 (.bslice [(.int .i64 0), (.int .i64 0), (.slice .full 0 []), (.str []), (.str []), (.int .i64 0), (.int .i64 0), (.str []), (.slice .full 0 []), (.bool false), (.slice .full 0 []), (.slice .full 0 []), (.slice .full 0 [])] 13 4 [(0, z5_), (1, z10_), (2, z12_), (3, z14_)]), (.o 16 (.build [(.str []), (.slice .full 0 []), (.slice .full 0 []), (.slice .full 0 []), (.slice .full 0 [])] [(0, (1, (.k (.str [109, 97, 105, 110])))), (2, (1, z3_)), (3, (1, z15_))])), .o 1 (.alloc [(.str []), (.slice .full 0 []), (.slice .full 0 []), (.slice .full 0 []), (.slice .full 0 [])]), .op none none (.store z1_ z16_ 5)]
abbrev QE6 : AC := .run [(.o 17 (.build [(.str []), (.bool false)] [(0, (1, (.k (.str [120]))))])), (.o 18 (.build [(.str []), (.bool false)] [(0, (1, (.k (.str [121])))), (1, (1, (.k (.bool true))))])), .o 19 (.bslice [(.str []), (.bool false)] 2 2 [(0, z17_), (1, z18_)]), (.o 20 (.bslice [(.str [])] 1 1 [(0, (.k (.str [101])))])), (.c 21 n_ref3_name [(.k (.str [121]))]), (.c 22 n_ref3_name [(.k (.str [120]))]), .c 23 n_ref3_two [(.k (.int .i64 8)), z21_, z22_], (.o 24 (.build [(.int .i64 0), (.int .i64 0), (.slice .full 0 []), (.str []), (.str []), (.int .i64 0), (.int .i64 0), (.str []), (.slice .full 0 []), (.bool false), (.slice .full 0 []), (.slice .full 0 []), (.slice .full 0 [])] [(0, (1, (.k (.int .i64 5)))), (1, (1, (.k (.int .i64 1)))), (3, (1, (.k (.str [121])))), (5, (4, z23_))])), (.c 25 n_ref3_name [(.k (.str [121]))]), .c 26 n_ref3_num [(.k (.int .i64 9))], .c 27 n_ref3_two [(.k (.int .i64 12)), z25_, z26_], (.o 28 (.build [(.int .i64 0), (.int .i64 0), (.slice .full 0 []), (.str []), (.str []), (.int .i64 0), (.int .i64 0), (.str []), (.slice .full 0 []), (.bool false), (.slice .full 0 []), (.slice .full 0 []), (.slice .full 0 [])] [(0, (1, (.k (.int .i64 7)))), (1, (1, (.k (.int .i64 10)))), (3, (1, (.k (.str [101]))))])), .o 29 (.bslice [(.int .i64 0), (.int .i64 0), (.slice .full 0 []), (.str []), (.str []), (.int .i64 0), (.int .i64 0), (.str []), (.slice .full 0 []), (.bool false), (.slice .full 0 []), (.slice .full 0 []), (.slice .full 0 [])] 13 1 [(0, z28_)]), (.o 30 (.build [(.int .i64 0), (.int .i64 0), (.slice .full 0 []), (.str []), (.str []), (.int .i64 0), (.int .i64 0), (.str []), (.slice .full 0 []), (.bool false), (.slice .full 0 []), (.slice .full 0 []), (.slice .full 0 [])] [(0, (1, (.k (.int .i64 6)))), (1, (1, (.k (.int .i64 5)))), (5, (4, z27_)), (11, (1, z29_))])), (.c 31 n_ref3_name [(.k (.str [121]))]), (.o 32 (.build [(.int .i64 0), (.int .i64 0), (.slice .full 0 []), (.str []), (.str []), (.int .i64 0), (.int .i64 0), (.str []), (.slice .full 0 []), (.bool false), (.slice .full 0 []), (.slice .full 0 []), (.slice .full 0 [])] [(0, (1, (.k (.int .i64 8)))), (1, (1, (.k (.int .i64 9)))), (9, (1, (.k (.bool true)))), (5, (4, z31_))])), .o 33 (.bslice [(.int .i64 0), (.int .i64 0), (.slice .full 0 []), (.str []), (.str []), (.int .i64 0), (.int .i64 0), (.str []), (.slice .full 0 []), (.bool false), (.slice .full 0 []), (.slice .full 0 []), (.slice .full 0 [])] 13 3 [(0, z24_), (1, z30_), (2, z32_)]), (.o 34 (.build [(.str []), (.slice .full 0 []), (.slice .full 0 []), (.slice .full 0 []), (.slice .full 0 [])] [(0, (1, (.k (.str [112])))), (1, (1, z19_)), (4, (1, z20_)), (3, (1, z33_))])), .o 2 (.alloc [(.str []), (.slice .full 0 []), (.slice .full 0 []), (.slice .full 0 []), (.slice .full 0 [])]), .op none none (.store z2_ z34_ 5)]
abbrev QE8 : AC := .seq (.run [(.o 35 (.bslice [(.str [])] 1 1 [(0, (.k (.str [103])))])), .o 36 (.load z1_ true 5), .o 37 (.load z2_ true 5), .o 38 (.bslice [(.str []), (.slice .full 0 []), (.slice .full 0 []), (.slice .full 0 []), (.slice .full 0 [])] 5 2 [(0, z36_), (1, z37_)]), .o 39 (.build [(.slice .full 0 []), (.slice .full 0 [])] [(0, (1, z35_)), (1, (1, z38_))]), .op none none (.store z0_ z39_ 2)]) .ret
abbrev QEB : AC := .seq (.run [.o 0 (.alloc [(.slice .full 0 []), (.slice .full 0 [])])]) (.seq QE5 (.seq QE6 QE8))
abbrev QED : AC := .run [.o 0 (.mv (.k (.str [103, 108, 111, 98, 97, 108, 32, 103, 59, 10, 112, 114, 111, 99, 32, 109, 97, 105, 110, 40, 41, 32, 123, 10, 32, 118, 97, 114, 32, 118, 59, 10, 32, 118, 32, 61, 32, 50, 59, 10, 32, 103, 32, 61, 32, 112, 40, 51, 44, 32, 114, 101, 102, 32, 118, 41, 59, 10, 32, 112, 114, 105, 110, 116, 32, 118, 59, 10, 32, 112, 114, 105, 110, 116, 32, 103, 59, 10, 125, 10, 112, 114, 111, 99, 32, 112, 40, 120, 44, 32, 114, 101, 102, 32, 121, 41, 32, 123, 10, 32, 121, 32, 61, 32, 121, 32, 43, 32, 120, 59, 10, 32, 105, 102, 32, 40, 121, 32, 62, 32, 57, 41, 32, 123, 10, 32, 32, 103, 111, 116, 111, 32, 101, 59, 10, 32, 125, 10, 32, 114, 101, 116, 117, 114, 110, 32, 121, 59, 10, 101, 58, 32, 125, 10])))]
abbrev QEF : AC := .seq (.run [.o 0 (.mv (.k (.str [])))]) (.seq QED .ret)
abbrev QEK : AC := .cond z5_ (.seq (.run [.o 2 (.mv (.k (.str [])))]) .ret) .skip
abbrev QEP : AC := .seq (.run [.o 1 (.box z0_), .o 2 (.mv (.k (.str [])))]) (.seq (.seq (.run [.o 3 (.load z1_ true 4), .c 4 n_tree_MayExpr [z3_], .o 5 (.un .not z4_)]) QEK) (.seq (.run [.o 6 (.load z1_ true 4), .c 7 n_print_expr [z6_, (.k (.int .i64 0))], .m 2 z7_]) .ret))
abbrev QEZ : AC := .seq (.seq (.run [.m 6 z5_, .m 7 z0_, .o 8 (.len z7_), .o 9 (.bin .lss z6_ z8_), .m 10 z9_, .g 11 10 true (.mv z1_), .g 12 10 true (.bin .leq z11_ (.k (.int .i64 20000))), .o 13 (.pick z10_ z12_ (.k (.bool false)))]) (.cond z13_ .skip (.exit 0))) (.seq (.block 1 (.run [.m 16 z0_, .m 17 z5_, .o 18 (.iaddr z16_ z17_ 1), .o 19 (.load z18_ false 1), .m 20 z1_, .c 21 n_ref3_weighText [z19_, z20_], .m 1 z21_])) (.run [.m 14 z5_, .o 15 (.bin .add z14_ (.k (.int .i64 1))), .m 5 z15_]))
abbrev QF5 : AC := .seq (.seq (.run [.o 5 (.mv (.k (.int .i64 0)))]) (.block 0 (.loop QEZ))) (.seq (.run [.m 22 z1_, .m 4 z22_]) .ret)
abbrev QF6 : AC := .seq (.run [.o 4 (.mv (.k (.int .i64 0)))]) QF5
abbrev QFB : AC := .cond z13_ (.seq (.run [.o 4 (.mv (.k (.int .i64 20001)))]) .ret) .skip
abbrev QFF : AC := .seq (.seq (.run [.m 5 z1_, .o 6 (.bin .gtr z5_ (.k (.int .i64 20000))), .m 7 z6_, .g 8 7 false (.mv z0_), .g 9 7 false (.slen z8_), .g 10 7 false (.mv z1_), .g 11 7 false (.bin .sub (.k (.int .i64 20000)) z10_), .g 12 7 false (.bin .geq z9_ z11_), .o 13 (.pick z7_ (.k (.bool true)) z12_)]) QFB) (.seq (.run [.m 14 z1_, .o 15 (.bin .add z14_ (.k (.int .i64 1))), .m 16 z0_, .o 17 (.slen z16_), .o 18 (.bin .add z15_ z17_), .m 4 z18_]) .ret)
abbrev QFG : AC := .seq (.run [.o 4 (.mv (.k (.int .i64 0)))]) QFF
abbrev QFN : AC := .par [.o 22 (.faddr z6_ 4), .o 23 (.load z22_ false 1), .o 24 (.faddr z6_ 3), .o 25 (.load z24_ false 1), .o 26 (.faddr z6_ 2), .o 27 (.load z26_ false 1), .o 28 (.faddr z6_ 5), .o 29 (.load z28_ true 4), .m 30 z1_, .c 31 n_ref3_weighExpr [z29_, z30_], .c 32 n_ref3_weighTexts [z27_, z31_], .c 33 n_ref3_weighText [z25_, z32_], .c 34 n_ref3_weighText [z23_, z33_], .m 1 z34_] [(6, 0), (7, 0), (8, 0), (9, 0), (4, 0), (5, 1), (10, 0), (2, 0), (3, 2), (11, 0), (0, 0), (1, 3), (12, 0), (13, 0)]
abbrev QFS : AC := .par [.o 46 (.faddr z6_ 10), .o 47 (.load z46_ false 1), .m 48 z7_, .o 49 (.iaddr z47_ z48_ 6), .o 50 (.faddr z49_ 1), .o 51 (.load z50_ false 1), .o 52 (.faddr z6_ 10), .o 53 (.load z52_ false 1), .m 54 z7_, .o 55 (.iaddr z53_ z54_ 6), .o 56 (.faddr z55_ 2), .o 57 (.load z56_ true 4), .m 58 z1_, .c 59 n_ref3_weighExpr [z57_, z58_], .c 60 n_ref3_weighText [z51_, z59_], .m 1 z60_] [(6, 0), (7, 0), (8, 0), (9, 0), (10, 0), (11, 0), (12, 0), (13, 0), (0, 0), (1, 1), (2, 0), (3, 0), (4, 0), (5, 1), (14, 0), (15, 0)]
abbrev QFW : AC := .seq (.seq (.run [.m 35 z7_, .o 36 (.faddr z6_ 10), .o 37 (.load z36_ false 1), .o 38 (.len z37_), .o 39 (.bin .lss z35_ z38_), .m 40 z39_, .g 41 40 true (.mv z1_), .g 42 40 true (.bin .leq z41_ (.k (.int .i64 20000))), .o 43 (.pick z40_ z42_ (.k (.bool false)))]) (.cond z43_ .skip (.exit 2))) (.seq (.block 3 QFS) (.run [.m 44 z7_, .o 45 (.bin .add z44_ (.k (.int .i64 1))), .m 7 z45_]))
abbrev QG0 : AC := .par [.o 61 (.faddr z6_ 12), .o 62 (.load z61_ false 1), .o 63 (.faddr z6_ 11), .o 64 (.load z63_ false 1), .m 65 z1_, .c 66 n_ref3_weighStmts [z64_, z65_], .c 67 n_ref3_weighStmts [z62_, z66_], .m 1 z67_] [(2, 0), (3, 0), (4, 0), (5, 0), (0, 0), (1, 1), (6, 0), (7, 0)]
abbrev QG1 : AC := .seq (.seq (.run [.o 7 (.mv (.k (.int .i64 0)))]) (.block 2 (.loop QFW))) QG0
abbrev QG6 : AC := .seq (.block 1 (.seq (.run [.m 18 z0_, .m 19 z5_, .o 20 (.iaddr z18_ z19_ 13), .o 21 (.load z20_ true 13), .o 6 (.alloc [(.int .i64 0), (.int .i64 0), (.slice .full 0 []), (.str []), (.str []), (.int .i64 0), (.int .i64 0), (.str []), (.slice .full 0 []), (.bool false), (.slice .full 0 []), (.slice .full 0 []), (.slice .full 0 [])]), .op none none (.store z6_ z21_ 13)]) (.seq QFN QG1))) (.run [.m 16 z5_, .o 17 (.bin .add z16_ (.k (.int .i64 1))), .m 5 z17_])
abbrev QG7 : AC := .seq (.seq (.run [.m 8 z5_, .m 9 z0_, .o 10 (.len z9_), .o 11 (.bin .lss z8_ z10_), .m 12 z11_, .g 13 12 true (.mv z1_), .g 14 12 true (.bin .leq z13_ (.k (.int .i64 20000))), .o 15 (.pick z12_ z14_ (.k (.bool false)))]) (.cond z15_ .skip (.exit 0))) QG6
abbrev QGD : AC := .seq (.seq (.run [.o 5 (.mv (.k (.int .i64 0)))]) (.block 0 (.loop QG7))) (.seq (.run [.m 68 z1_, .m 4 z68_]) .ret)
abbrev QGE : AC := .seq (.run [.o 4 (.mv (.k (.int .i64 0)))]) QGD
abbrev QGJ : AC := .cond z23_ (.seq (.run [.o 2 (.mv (.k (.bool false)))]) .ret) .skip
abbrev QGQ : AC := .run [.o 33 (.faddr z5_ 1), .o 34 (.load z33_ false 1), .o 35 (.len z34_), .o 36 (.bin .gtr z35_ (.k (.int .i64 8))), .m 37 z36_, .g 38 37 false (.faddr z5_ 2), .g 39 37 false (.load z38_ false 1), .g 40 37 false (.len z39_), .g 41 37 false (.bin .gtr z40_ (.k (.int .i64 16))), .o 42 (.pick z37_ (.k (.bool true)) z41_), .m 43 z42_, .g 44 43 false (.faddr z5_ 0), .g 45 43 false (.load z44_ false 1), .d 46 43 false n_lex_Name [z45_], .g 47 43 false (.un .not z46_), .o 48 (.pick z43_ (.k (.bool true)) z47_), .m 49 z48_, .g 50 49 false (.faddr z5_ 2), .g 51 49 false (.load z50_ false 1), .d 52 49 false n_tree_names [z51_], .g 53 49 false (.un .not z52_), .o 54 (.pick z49_ (.k (.bool true)) z53_), .m 55 z54_, .g 56 55 false (.faddr z5_ 4), .g 57 55 false (.load z56_ false 1), .d 58 55 false n_tree_names [z57_], .g 59 55 false (.un .not z58_), .o 60 (.pick z55_ (.k (.bool true)) z59_)]
abbrev QGT : AC := .cond z60_ (.seq (.run [.o 2 (.mv (.k (.bool false)))]) .ret) .skip
abbrev QH2 : AC := .cond z71_ (.seq (.run [.o 2 (.mv (.k (.bool false)))]) .ret) .skip
abbrev QH7 : AC := .seq (.block 3 (.seq (.run [.o 66 (.iaddr z62_ z64_ 2), .o 67 (.load z66_ true 2), .o 7 (.alloc [(.str []), (.bool false)]), .op none none (.store z7_ z67_ 2)]) (.seq (.run [.o 68 (.faddr z7_ 0), .o 69 (.load z68_ false 1), .c 70 n_lex_Name [z69_], .o 71 (.un .not z70_)]) QH2))) (.run [.o 72 (.bin .add z64_ (.k (.int .i64 1))), .m 64 z72_])
abbrev QHB : AC := .block 2 (.loop (.seq (.run [.o 65 (.bin .lss z64_ z63_)]) (.seq (.cond z65_ .skip (.exit 2)) QH7)))
abbrev QHG : AC := .cond z77_ (.seq (.run [.o 2 (.mv (.k (.bool false)))]) .ret) .skip
abbrev QHI : AC := .seq (.seq (.run [.o 61 (.faddr z5_ 1), .o 62 (.load z61_ false 1), .o 63 (.len z62_), .o 64 (.mv (.k (.int .i64 0)))]) QHB) (.seq (.run [.m 73 z3_, .o 74 (.faddr z5_ 3), .o 75 (.load z74_ false 1), .c 76 n_tree_looker_rows [z73_, z75_, (.k (.int .i64 1))], .o 77 (.un .not z76_)]) QHG)
abbrev QHN : AC := .seq (.block 1 (.seq (.run [.o 31 (.iaddr z27_ z29_ 5), .o 32 (.load z31_ true 5), .o 5 (.alloc [(.str []), (.slice .full 0 []), (.slice .full 0 []), (.slice .full 0 []), (.slice .full 0 [])]), .op none none (.store z5_ z32_ 5)]) (.seq (.seq QGQ QGT) QHI))) (.run [.o 78 (.bin .add z29_ (.k (.int .i64 1))), .m 29 z78_])
abbrev QHR : AC := .block 0 (.loop (.seq (.run [.o 30 (.bin .lss z29_ z28_)]) (.seq (.cond z30_ .skip (.exit 0)) QHN)))
abbrev QHV : AC := .seq (.seq (.run [.o 26 (.faddr z1_ 1), .o 27 (.load z26_ false 1), .o 28 (.len z27_), .o 29 (.mv (.k (.int .i64 0)))]) QHR) (.seq (.run [.o 2 (.mv (.k (.bool true)))]) .ret)
abbrev QHX : AC := .seq (.seq (.run [.o 8 (.faddr z1_ 0), .o 9 (.load z8_ false 1), .o 10 (.len z9_), .o 11 (.bin .gtr z10_ (.k (.int .i64 16))), .m 12 z11_, .g 13 12 false (.faddr z1_ 1), .g 14 12 false (.load z13_ false 1), .g 15 12 false (.len z14_), .g 16 12 false (.bin .gtr z15_ (.k (.int .i64 16))), .o 17 (.pick z12_ (.k (.bool true)) z16_), .m 18 z17_, .g 19 18 false (.faddr z1_ 0), .g 20 18 false (.load z19_ false 1), .d 21 18 false n_tree_names [z20_], .g 22 18 false (.un .not z21_), .o 23 (.pick z18_ (.k (.bool true)) z22_)]) QGJ) (.seq (.run [.o 24 (.build [(.int .i64 0)] []), .o 25 (.box z24_), .m 3 z25_]) QHV)
abbrev QHY : AC := .seq (.run [.o 1 (.box z0_), .o 2 (.mv (.k (.bool false)))]) QHX
abbrev QI6 : AC := .seq (.seq (.run [.m 6 z1_, .o 7 (.bin .gtr z6_ (.k (.int .i64 0)))]) (.cond z7_ .skip (.exit 0))) (.seq (.block 1 (.run [.m 10 z0_, .o 11 (.nilck z10_), .o 12 (.faddr z11_ 0), .c 13 n_strings_Builder_WriteByte [z12_, (.k (.int .u8 32))]])) (.run [.m 8 z1_, .o 9 (.bin .sub z8_ (.k (.int .i64 1))), .m 1 z9_]))
abbrev QIC : AC := .seq (.block 0 (.loop QI6)) (.seq (.run [.m 14 z0_, .o 15 (.nilck z14_), .o 16 (.faddr z15_ 0), .m 17 z2_, .c 18 n_strings_Builder_WriteString [z16_, z17_]]) (.run [.m 19 z0_, .o 20 (.nilck z19_), .o 21 (.faddr z20_ 0), .c 22 n_strings_Builder_WriteByte [z21_, (.k (.int .u8 10))]]))
abbrev QIH : AC := .cond z3_ (.seq (.run [.o 2 (.mv (.k (.str [114, 101, 102, 32])))]) .ret) .skip
abbrev QIL : AC := .seq (.seq (.run [.m 3 z0_]) QIH) (.seq (.run [.o 2 (.mv (.k (.str [])))]) .ret)
abbrev QIM : AC := .seq (.run [.o 2 (.mv (.k (.str [])))]) QIL
abbrev QIY : AC := .seq (.run [.m 30 z0_, .m 31 z2_, .m 32 z8_, .o 33 (.bin .add z32_ (.k (.str [119, 104, 105, 108, 101, 32, 40]))), .o 34 (.faddr z7_ 5), .o 35 (.load z34_ true 4), .c 36 n_print_expr [z35_, (.k (.int .i64 0))], .o 37 (.bin .add z33_ z36_), .o 38 (.bin .add z37_ (.k (.str [41, 32, 123]))), .c 39 n_print_writer_line [z30_, z31_, z38_]]) (.seq (.run [.m 40 z0_, .o 41 (.faddr z7_ 11), .o 42 (.load z41_ false 1), .m 43 z2_, .o 44 (.bin .add z43_ (.k (.int .i64 1))), .c 45 n_print_writer_rows [z40_, z42_, z44_]]) (.run [.m 46 z0_, .m 47 z2_, (.c 48 n_print_writer_line [z46_, z47_, (.k (.str [125]))])]))
abbrev QJ6 : AC := .cond z70_ (.seq (.run [.m 71 z0_, .m 72 z2_, (.c 73 n_print_writer_line [z71_, z72_, (.k (.str [125, 32, 101, 108, 115, 101, 32, 123]))])]) (.run [.m 74 z0_, .o 75 (.faddr z7_ 12), .o 76 (.load z75_ false 1), .m 77 z2_, .o 78 (.bin .add z77_ (.k (.int .i64 1))), .c 79 n_print_writer_rows [z74_, z76_, z78_]])) .skip
abbrev QJ9 : AC := .seq (.seq (.run [.o 67 (.faddr z7_ 12), .o 68 (.load z67_ false 1), .o 69 (.len z68_), .o 70 (.bin .gtr z69_ (.k (.int .i64 0)))]) QJ6) (.run [.m 80 z0_, .m 81 z2_, (.c 82 n_print_writer_line [z80_, z81_, (.k (.str [125]))])])
abbrev QJB : AC := .seq (.run [.m 51 z0_, .m 52 z2_, .m 53 z8_, .o 54 (.bin .add z53_ (.k (.str [105, 102, 32, 40]))), .o 55 (.faddr z7_ 5), .o 56 (.load z55_ true 4), .c 57 n_print_expr [z56_, (.k (.int .i64 0))], .o 58 (.bin .add z54_ z57_), .o 59 (.bin .add z58_ (.k (.str [41, 32, 123]))), .c 60 n_print_writer_line [z51_, z52_, z59_]]) (.seq (.run [.m 61 z0_, .o 62 (.faddr z7_ 11), .o 63 (.load z62_ false 1), .m 64 z2_, .o 65 (.bin .add z64_ (.k (.int .i64 1))), .c 66 n_print_writer_rows [z61_, z63_, z65_]]) QJ9)
abbrev QJE : AC := .seq (.run [.o 50 (.bin .eql z19_ (.k (.int .i64 5))), .m 49 z50_]) (.cond z49_ QJB (.run [.m 20 z0_, .m 21 z2_, .m 22 z8_, .o 23 (.load z7_ true 13), .c 24 n_print_plain [z23_], .o 25 (.bin .add z22_ z24_), .o 26 (.bin .add z25_ (.k (.str [59]))), .c 27 n_print_writer_line [z20_, z21_, z26_]]))
abbrev QJH : AC := .block 2 (.seq (.run [.o 29 (.bin .eql z19_ (.k (.int .i64 6))), .m 28 z29_]) (.cond z28_ QIY QJE))
abbrev QJL : AC := .block 1 (.seq (.run [.o 13 (.iaddr z9_ z11_ 13), .o 14 (.load z13_ true 13), .o 7 (.alloc [(.int .i64 0), (.int .i64 0), (.slice .full 0 []), (.str []), (.str []), (.int .i64 0), (.int .i64 0), (.str []), (.slice .full 0 []), (.bool false), (.slice .full 0 []), (.slice .full 0 []), (.slice .full 0 [])]), .op none none (.store z7_ z14_ 13)]) (.seq (.run [.o 15 (.faddr z7_ 2), .o 16 (.load z15_ false 1), .c 17 n_print_marks [z16_], .m 8 z17_]) (.seq (.run [.o 18 (.faddr z7_ 1), .o 19 (.load z18_ false 1)]) QJH)))
abbrev QJO : AC := .seq (.cond z12_ .skip (.exit 0)) (.seq QJL (.run [.o 83 (.bin .add z11_ (.k (.int .i64 1))), .m 11 z83_]))
abbrev QJS : AC := .seq (.run [.m 9 z1_, .o 10 (.len z9_), .o 11 (.mv (.k (.int .i64 0)))]) (.block 0 (.loop (.seq (.run [.o 12 (.bin .lss z11_ z10_)]) QJO)))
abbrev QK1 : AC := .block 1 (.seq (.run [.o 10 (.iaddr z6_ z8_ 1), .o 11 (.load z10_ false 1), .m 5 z11_]) (.run [.m 12 z3_, .m 13 z5_, .o 14 (.bin .add z13_ (.k (.str [58, 32]))), .o 15 (.bin .add z12_ z14_), .m 3 z15_]))
abbrev QK4 : AC := .seq (.cond z9_ .skip (.exit 0)) (.seq QK1 (.run [.o 16 (.bin .add z8_ (.k (.int .i64 1))), .m 8 z16_]))
abbrev QK8 : AC := .seq (.run [.m 6 z0_, .o 7 (.len z6_), .o 8 (.mv (.k (.int .i64 0)))]) (.block 0 (.loop (.seq (.run [.o 9 (.bin .lss z8_ z7_)]) QK4)))
abbrev QKD : AC := .seq (.run [.o 2 (.mv (.k (.str [])))]) (.seq (.run [.o 3 (.mv (.k (.str [])))]) (.seq QK8 (.seq (.run [.m 17 z3_, .m 2 z17_]) .ret)))
abbrev QKM : AC := .cond z13_ (.seq (.run [.o 2 (.mv (.k (.bool false)))]) .ret) .skip
abbrev QKR : AC := .seq (.block 1 (.seq (.run [.o 9 (.iaddr z5_ z7_ 1), .o 10 (.load z9_ false 1), .m 4 z10_]) (.seq (.run [.m 11 z4_, .c 12 n_ref1_Name [z11_], .o 13 (.un .not z12_)]) QKM))) (.run [.o 14 (.bin .add z7_ (.k (.int .i64 1))), .m 7 z14_])
abbrev QKV : AC := .block 0 (.loop (.seq (.run [.o 8 (.bin .lss z7_ z6_)]) (.seq (.cond z8_ .skip (.exit 0)) QKR)))
abbrev QKZ : AC := .seq (.seq (.run [.m 5 z0_, .o 6 (.len z5_), .o 7 (.mv (.k (.int .i64 0)))]) QKV) (.seq (.run [.o 2 (.mv (.k (.bool true)))]) .ret)
abbrev QL0 : AC := .seq (.run [.o 2 (.mv (.k (.bool false)))]) QKZ
abbrev QL5 : AC := .cond z16_ (.seq (.run [.o 2 (.mv (.k (.bool false)))]) .ret) .skip
abbrev QLE : AC := .cond z34_ (.seq (.run [.o 2 (.mv (.k (.bool false)))]) .ret) .skip
abbrev QLG : AC := .block 1 (.seq (.run [.m 23 z0_, .m 24 z3_, .o 25 (.sidx z23_ z24_), .c 26 n_ref1_small [z25_], .o 27 (.un .not z26_), .m 28 z27_, .g 29 28 true (.mv z0_), .g 30 28 true (.mv z3_), .g 31 28 true (.sidx z29_ z30_), .d 32 28 true n_ref1_digit [z31_], .g 33 28 true (.un .not z32_), .o 34 (.pick z28_ z33_ (.k (.bool false)))]) QLE)
abbrev QLJ : AC := .seq (.seq (.run [.m 17 z3_, .m 18 z0_, .o 19 (.slen z18_), .o 20 (.bin .lss z17_ z19_)]) (.cond z20_ .skip (.exit 0))) (.seq QLG (.run [.m 21 z3_, .o 22 (.bin .add z21_ (.k (.int .i64 1))), .m 3 z22_]))
abbrev QLP : AC := .seq (.seq (.run [.o 3 (.mv (.k (.int .i64 1)))]) (.block 0 (.loop QLJ))) (.seq (.run [.m 35 z0_, .c 36 n_ref1_Word [z35_], .o 37 (.un .not z36_), .m 2 z37_]) .ret)
abbrev QLQ : AC := .seq (.seq (.run [.m 4 z0_, .o 5 (.bin .eql z4_ (.k (.str []))), .m 6 z5_, .g 7 6 false (.mv z0_), .g 8 6 false (.slen z7_), .g 9 6 false (.bin .gtr z8_ (.k (.int .i64 8))), .o 10 (.pick z6_ (.k (.bool true)) z9_), .m 11 z10_, .g 12 11 false (.mv z0_), .g 13 11 false (.sidx z12_ (.k (.int .i64 0))), .d 14 11 false n_ref1_small [z13_], .g 15 11 false (.un .not z14_), .o 16 (.pick z11_ (.k (.bool true)) z15_)]) QL5) QLP
abbrev QLR : AC := .seq (.run [.o 2 (.mv (.k (.bool false)))]) QLQ
abbrev QM4 : AC := .seq (.run [.m 13 z3_, .o 14 (.load z5_ true 5), .c 15 n_ref3_Flat [z14_], .o 16 (.app 16 232 z13_ z15_), .m 3 z16_]) (.seq (.run [.m 17 z3_, .o 18 (.len z17_), .o 19 (.bin .gtr z18_ (.k (.int .i64 200)))]) (.cond z19_ (.seq (.run [.m 20 z3_, .m 2 z20_]) .ret) .skip))
abbrev QM8 : AC := .seq (.block 1 (.seq (.run [.o 11 (.iaddr z7_ z9_ 5), .o 12 (.load z11_ true 5), .o 5 (.alloc [(.str []), (.slice .full 0 []), (.slice .full 0 []), (.slice .full 0 []), (.slice .full 0 [])]), .op none none (.store z5_ z12_ 5)]) QM4)) (.run [.o 21 (.bin .add z9_ (.k (.int .i64 1))), .m 9 z21_])
abbrev QMC : AC := .block 0 (.loop (.seq (.run [.o 10 (.bin .lss z9_ z8_)]) (.seq (.cond z10_ .skip (.exit 0)) QM8)))
abbrev QMG : AC := .seq (.seq (.run [.o 6 (.faddr z1_ 1), .o 7 (.load z6_ false 1), .o 8 (.len z7_), .o 9 (.mv (.k (.int .i64 0)))]) QMC) (.seq (.run [.m 22 z3_, .m 2 z22_]) .ret)
abbrev QMI : AC := .seq (.run [.o 1 (.box z0_), .o 2 (.mv (.k (.slice .full 0 [])))]) (.seq (.run [.o 3 (.mv (.k (.slice .full 0 [])))]) QMG)
abbrev QMK : AC := .run [.o 8 (.faddr z1_ 1), .o 9 (.load z8_ false 1), .o 10 (.bin .eql z9_ (.k (.int .i64 1))), .m 11 z10_, .g 12 11 false (.faddr z1_ 1), .g 13 11 false (.load z12_ false 1), .g 14 11 false (.bin .eql z13_ (.k (.int .i64 3))), .o 15 (.pick z11_ (.k (.bool true)) z14_), .m 16 z15_, .g 17 16 false (.faddr z1_ 1), .g 18 16 false (.load z17_ false 1), .g 19 16 false (.bin .eql z18_ (.k (.int .i64 5))), .o 20 (.pick z16_ (.k (.bool true)) z19_), .m 21 z20_, .g 22 21 false (.faddr z1_ 1), .g 23 21 false (.load z22_ false 1), .g 24 21 false (.bin .eql z23_ (.k (.int .i64 6))), .o 25 (.pick z21_ (.k (.bool true)) z24_), .m 26 z25_, .g 27 26 false (.faddr z1_ 1), .g 28 26 false (.load z27_ false 1), .g 29 26 false (.bin .eql z28_ (.k (.int .i64 9))), .g 30 26 false (.mv z29_), .g 31 30 true (.faddr z1_ 9), .g 32 30 true (.load z31_ false 1), .g 33 26 false (.pick z30_ z32_ (.k (.bool false))), .o 34 (.pick z26_ (.k (.bool true)) z33_), .m 3 z34_]
abbrev QMN : AC := .run [.o 51 (.faddr z1_ 1), .o 52 (.load z51_ false 1), .o 53 (.bin .lss z52_ (.k (.int .i64 1))), .m 54 z53_, .g 55 54 false (.faddr z1_ 1), .g 56 54 false (.load z55_ false 1), .g 57 54 false (.bin .gtr z56_ (.k (.int .i64 10))), .o 58 (.pick z54_ (.k (.bool true)) z57_), .m 59 z58_, .g 60 59 false (.faddr z1_ 2), .g 61 59 false (.load z60_ false 1), .d 62 59 false n_ref3_names [z61_], .g 63 59 false (.un .not z62_), .o 64 (.pick z59_ (.k (.bool true)) z63_), .m 65 z64_, .g 66 65 false (.mv z3_), .g 67 65 false (.mv z66_), .g 68 67 true (.faddr z1_ 5), .g 69 67 true (.load z68_ true 4), .d 70 67 true n_ref3_MayExpr [z69_], .g 71 67 true (.un .not z70_), .g 72 65 false (.pick z67_ z71_ (.k (.bool false))), .o 73 (.pick z65_ (.k (.bool true)) z72_), .m 74 z73_, .g 75 74 false (.mv z3_), .g 76 74 false (.un .not z75_), .g 77 74 false (.mv z76_), .g 78 77 true (.faddr z1_ 5), .g 79 77 true (.load z78_ true 4), .d 80 77 true n_ref3_none [z79_], .g 81 77 true (.un .not z80_), .g 82 74 false (.pick z77_ z81_ (.k (.bool false))), .o 83 (.pick z74_ (.k (.bool true)) z82_), .m 84 z83_, .g 85 84 false (.faddr z1_ 9), .g 86 84 false (.load z85_ false 1), .g 87 84 false (.mv z86_), .g 88 87 true (.faddr z1_ 1), .g 89 87 true (.load z88_ false 1), .g 90 87 true (.bin .neq z89_ (.k (.int .i64 9))), .g 91 84 false (.pick z87_ z90_ (.k (.bool false))), .o 92 (.pick z84_ (.k (.bool true)) z91_)]
abbrev QMQ : AC := .cond z92_ (.seq (.run [.o 2 (.mv (.k (.bool false)))]) .ret) .skip
abbrev QMS : AC := .run [.m 93 z4_, .m 94 z93_, .g 95 94 true (.faddr z1_ 3), .g 96 94 true (.load z95_ false 1), .d 97 94 true n_ref1_Name [z96_], .g 98 94 true (.un .not z97_), .o 99 (.pick z94_ z98_ (.k (.bool false))), .m 100 z99_, .g 101 100 false (.mv z4_), .g 102 100 false (.un .not z101_), .g 103 100 false (.mv z102_), .g 104 103 true (.faddr z1_ 3), .g 105 103 true (.load z104_ false 1), .g 106 103 true (.bin .neq z105_ (.k (.str []))), .g 107 100 false (.pick z103_ z106_ (.k (.bool false))), .g 108 100 false (.mv z107_), .g 109 108 true (.mv z5_), .g 110 108 true (.mv z109_), .g 111 110 true (.faddr z1_ 3), .g 112 110 true (.load z111_ false 1), .d 113 110 true n_ref1_Name [z112_], .g 114 108 true (.pick z110_ z113_ (.k (.bool false))), .g 115 108 true (.un .not z114_), .g 116 100 false (.pick z108_ z115_ (.k (.bool false))), .o 117 (.pick z100_ (.k (.bool true)) z116_)]
abbrev QMV : AC := .cond z117_ (.seq (.run [.o 2 (.mv (.k (.bool false)))]) .ret) .skip
abbrev QMX : AC := .run [.m 118 z5_, .o 119 (.faddr z1_ 4), .o 120 (.load z119_ false 1), .o 121 (.bin .neq z120_ (.k (.str []))), .o 122 (.eqb true z118_ z121_), .m 123 z122_, .g 124 123 false (.mv z5_), .g 125 123 false (.mv z124_), .g 126 125 true (.faddr z1_ 4), .g 127 125 true (.load z126_ false 1), .d 128 125 true n_ref1_Name [z127_], .g 129 125 true (.un .not z128_), .g 130 123 false (.pick z125_ z129_ (.k (.bool false))), .o 131 (.pick z123_ (.k (.bool true)) z130_), .m 132 z131_, .g 133 132 false (.mv z5_), .g 134 132 false (.un .not z133_), .g 135 132 false (.mv z134_), .g 136 135 true (.faddr z1_ 10), .g 137 135 true (.load z136_ false 1), .g 138 135 true (.len z137_), .g 139 135 true (.bin .gtr z138_ (.k (.int .i64 0))), .g 140 132 false (.pick z135_ z139_ (.k (.bool false))), .o 141 (.pick z132_ (.k (.bool true)) z140_)]
abbrev QN0 : AC := .cond z141_ (.seq (.run [.o 2 (.mv (.k (.bool false)))]) .ret) .skip
abbrev QN9 : AC := .cond z151_ (.seq (.run [.o 2 (.mv (.k (.bool false)))]) .ret) .skip
abbrev QNE : AC := .seq (.block 1 (.seq (.run [.o 147 (.iaddr z143_ z145_ 6), .o 148 (.load z147_ true 6), .o 7 (.alloc [(.bool false), (.str []), (.int .i64 0), (.int .i64 0), (.str []), (.slice .full 0 [])]), .op none none (.store z7_ z148_ 6)]) (.seq (.run [.o 149 (.load z7_ true 6), .c 150 n_ref3_arg [z149_], .o 151 (.un .not z150_)]) QN9))) (.run [.o 152 (.bin .add z145_ (.k (.int .i64 1))), .m 145 z152_])
abbrev QNI : AC := .block 0 (.loop (.seq (.run [.o 146 (.bin .lss z145_ z144_)]) (.seq (.cond z146_ .skip (.exit 0)) QNE)))
abbrev QNK : AC := .run [.o 153 (.faddr z1_ 11), .o 154 (.load z153_ false 1), .o 155 (.len z154_), .o 156 (.bin .eql z155_ (.k (.int .i64 0))), .m 157 z156_, .g 158 157 false (.faddr z1_ 1), .g 159 157 false (.load z158_ false 1), .g 160 157 false (.bin .eql z159_ (.k (.int .i64 5))), .o 161 (.pick z157_ (.k (.bool true)) z160_), .m 162 z161_, .g 163 162 false (.faddr z1_ 1), .g 164 162 false (.load z163_ false 1), .g 165 162 false (.bin .eql z164_ (.k (.int .i64 6))), .o 166 (.pick z162_ (.k (.bool true)) z165_), .m 167 z166_, .g 168 167 true (.faddr z1_ 12), .g 169 167 true (.load z168_ false 1), .g 170 167 true (.len z169_), .g 171 167 true (.bin .eql z170_ (.k (.int .i64 0))), .g 172 167 true (.mv z171_), .g 173 172 false (.faddr z1_ 1), .g 174 172 false (.load z173_ false 1), .g 175 172 false (.bin .eql z174_ (.k (.int .i64 5))), .g 176 167 true (.pick z172_ (.k (.bool true)) z175_), .o 177 (.pick z167_ z176_ (.k (.bool false))), .m 2 z177_]
abbrev QNM : AC := .seq (.seq (.run [.o 142 (.faddr z1_ 10), .o 143 (.load z142_ false 1), .o 144 (.len z143_), .o 145 (.mv (.k (.int .i64 0)))]) QNI) (.seq QNK .ret)
abbrev QNN : AC := .seq (.seq QMX QN0) QNM
abbrev QNO : AC := .seq (.seq QMS QMV) QNN
abbrev QNP : AC := .seq (.seq QMN QMQ) QNO
abbrev QNQ : AC := .seq (.run [.o 48 (.faddr z1_ 1), .o 49 (.load z48_ false 1), .o 50 (.bin .eql z49_ (.k (.int .i64 4))), .m 5 z50_]) QNP
abbrev QNR : AC := .seq (.run [.o 35 (.faddr z1_ 1), .o 36 (.load z35_ false 1), .o 37 (.bin .eql z36_ (.k (.int .i64 1))), .m 38 z37_, .g 39 38 false (.faddr z1_ 1), .g 40 38 false (.load z39_ false 1), .g 41 38 false (.bin .eql z40_ (.k (.int .i64 2))), .o 42 (.pick z38_ (.k (.bool true)) z41_), .m 43 z42_, .g 44 43 false (.faddr z1_ 1), .g 45 43 false (.load z44_ false 1), .g 46 43 false (.bin .eql z45_ (.k (.int .i64 10))), .o 47 (.pick z43_ (.k (.bool true)) z46_), .m 4 z47_]) QNQ
abbrev QNS : AC := .seq QMK QNR
abbrev QNT : AC := .seq (.run [.o 1 (.box z0_), .o 2 (.mv (.k (.bool false)))]) QNS
abbrev QNX : AC := .seq (.run [.o 2 (.mv (.k (.bool false)))]) (.seq (.run [.m 3 z0_, .o 4 (.bin .geq z3_ (.k (.int .u8 97))), .m 5 z4_, .g 6 5 true (.mv z0_), .g 7 5 true (.bin .leq z6_ (.k (.int .u8 122))), .o 8 (.pick z5_ z7_ (.k (.bool false))), .m 2 z8_]) .ret)

end Go.Abs

/-! Have0 -/

namespace Go.Abs
open Go.Proofs

theorem has_law5_PrintSwap : Has Tryz.prog n_law5_PrintSwap 52 [(6, none)] Q0N := ⟨Tryz.f4, by kernel_rfl, by kernel_rfl⟩
theorem has_law5_printed : Has Tryz.prog n_law5_printed 19 [(0, none)] Q0T := ⟨Tryz.f5, by kernel_rfl, by kernel_rfl⟩
theorem has_ref3_Fits : Has Tryz.prog n_ref3_Fits 61 [(2, none)] Q1T := ⟨Tryz.f6, by kernel_rfl, by kernel_rfl⟩
theorem has_print_Text : Has Tryz.prog n_print_Text 85 [(2, none)] Q3F := ⟨Tryz.f7, by kernel_rfl, by kernel_rfl⟩
theorem has_ref3_May : Has Tryz.prog n_ref3_May 110 [(2, none)] Q5I := ⟨Tryz.f8, by kernel_rfl, by kernel_rfl⟩
theorem has_lex_All : Has Tryz.prog n_lex_All 152 [(2, none), (3, (some (true, 2)))] Q8U := ⟨Tryz.f9, by kernel_rfl, by kernel_rfl⟩
theorem has_ref3_Tokens : Has Tryz.prog n_ref3_Tokens 82 [(2, none)] QAR := ⟨Tryz.f10, by kernel_rfl, by kernel_rfl⟩
theorem has_parse_Parse : Has Tryz.prog n_parse_Parse 37 [(2, (some (true, 2))), (3, (some (true, 2)))] QBD := ⟨Tryz.f11, by kernel_rfl, by kernel_rfl⟩
theorem has_ref3_Eq : Has Tryz.prog n_ref3_Eq 97 [(4, none)] QCR := ⟨Tryz.f12, by kernel_rfl, by kernel_rfl⟩
theorem has_lex_Name : Has Tryz.prog n_lex_Name 27 [(2, none)] QD1 := ⟨Tryz.f13, by kernel_rfl, by kernel_rfl⟩
theorem has_ref3_Swap : Has Tryz.prog n_ref3_Swap 76 [(6, (some (true, 2)))] QE3 := ⟨Tryz.f14, by kernel_rfl, by kernel_rfl⟩
theorem has_ref3_Some : Has Tryz.prog n_ref3_Some 40 [(0, (some (true, 2)))] QEB := ⟨Tryz.f15, by kernel_rfl, by kernel_rfl⟩
theorem has_ref3_Source : Has Tryz.prog n_ref3_Source 1 [(0, none)] QEF := ⟨Tryz.f16, by kernel_rfl, by kernel_rfl⟩
theorem has_print_Expr : Has Tryz.prog n_print_Expr 8 [(2, none)] QEP := ⟨Tryz.f17, by kernel_rfl, by kernel_rfl⟩
theorem has_ref3_weighTexts : Has Tryz.prog n_ref3_weighTexts 23 [(4, none)] QF6 := ⟨Tryz.f18, by kernel_rfl, by kernel_rfl⟩
theorem has_ref3_weighText : Has Tryz.prog n_ref3_weighText 19 [(4, none)] QFG := ⟨Tryz.f19, by kernel_rfl, by kernel_rfl⟩
theorem has_ref3_weighStmts : Has Tryz.prog n_ref3_weighStmts 69 [(4, none)] QGE := ⟨Tryz.f20, by kernel_rfl, by kernel_rfl⟩
theorem has_tree_May : Has Tryz.prog n_tree_May 79 [(2, none)] QHY := ⟨Tryz.f21, by kernel_rfl, by kernel_rfl⟩
theorem has_print_writer_line : Has Tryz.prog n_print_writer_line 23 [] QIC := ⟨Tryz.f22, by kernel_rfl, by kernel_rfl⟩
theorem has_print_ref : Has Tryz.prog n_print_ref 4 [(2, none)] QIM := ⟨Tryz.f24, by kernel_rfl, by kernel_rfl⟩
theorem has_print_writer_rows : Has Tryz.prog n_print_writer_rows 84 [] QJS := ⟨Tryz.f25, by kernel_rfl, by kernel_rfl⟩
theorem has_print_marks : Has Tryz.prog n_print_marks 18 [(2, none)] QKD := ⟨Tryz.f26, by kernel_rfl, by kernel_rfl⟩
theorem has_ref3_names : Has Tryz.prog n_ref3_names 15 [(2, none)] QL0 := ⟨Tryz.f28, by kernel_rfl, by kernel_rfl⟩
theorem has_ref1_Name : Has Tryz.prog n_ref1_Name 38 [(2, none)] QLR := ⟨Tryz.f29, by kernel_rfl, by kernel_rfl⟩
theorem has_ref3_All : Has Tryz.prog n_ref3_All 23 [(2, none)] QMI := ⟨Tryz.f30, by kernel_rfl, by kernel_rfl⟩
theorem has_ref3_one : Has Tryz.prog n_ref3_one 178 [(2, none)] QNT := ⟨Tryz.f31, by kernel_rfl, by kernel_rfl⟩
theorem has_lex_letter : Has Tryz.prog n_lex_letter 9 [(2, none)] QNX := ⟨Tryz.f32, by kernel_rfl, by kernel_rfl⟩

end Go.Abs
