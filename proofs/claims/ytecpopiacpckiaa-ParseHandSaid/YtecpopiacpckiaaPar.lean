/-
  What is proved here: in a region of open order, what may come up first may be reckoned first: the abstract part.
  No conditions.
-/
import Derived.Test.YtecpopiacpckiaaFlow
namespace Go.Abs

theorem X.ev_congr {x : X} {tm tm' : Tm} (h : ∀ t ∈ x.reads, tm.get t = tm'.get t) : x.ev tm = x.ev tm' := by
  cases x with
  | s t => exact h t (by simp [X.reads])
  | k d => rfl

theorem mem_readsL {t : Nat} {x : X} : ∀ {l : List X}, x ∈ l → t ∈ x.reads → t ∈ readsL l
  | [], h, _ => by cases h
  | y :: r, h, ht => by
    simp only [readsL, List.mem_append]
    rcases List.mem_cons.1 h with rfl | h
    · exact .inl ht
    · exact .inr (mem_readsL h ht)

theorem readsO_ev {x : Option X} {tm tm' : Tm} (h : ∀ t ∈ readsO x, tm.get t = tm'.get t) : x.map (·.ev tm) = x.map (·.ev tm') := by
  cases x with
  | none => rfl
  | some y => simp only [Option.map_some]; rw [X.ev_congr h]

theorem evalO_congr {o : AO} {tm tm' : Tm} {s : St} (h : ∀ t ∈ o.reads, tm.get t = tm'.get t) : evalO o tm s = evalO o tm' s := by
  cases o with
  | mv x =>
    have hx : x.ev tm = x.ev tm' := X.ev_congr fun t ht => h t (by simp [AO.reads, ht])
    simp only [evalO, hx]
  | pick c a b =>
    have hc : c.ev tm = c.ev tm' := X.ev_congr fun t ht => h t (by simp [AO.reads, ht])
    have ha : a.ev tm = a.ev tm' := X.ev_congr fun t ht => h t (by simp [AO.reads, ht])
    have hb : b.ev tm = b.ev tm' := X.ev_congr fun t ht => h t (by simp [AO.reads, ht])
    simp only [evalO, hc, ha, hb]
  | alloc z =>
    rfl
  | box x =>
    have hx : x.ev tm = x.ev tm' := X.ev_congr fun t ht => h t (by simp [AO.reads, ht])
    simp only [evalO, hx]
  | frz x =>
    have hx : x.ev tm = x.ev tm' := X.ev_congr fun t ht => h t (by simp [AO.reads, ht])
    simp only [evalO, hx]
  | load x g n =>
    have hx : x.ev tm = x.ev tm' := X.ev_congr fun t ht => h t (by simp [AO.reads, ht])
    simp only [evalO, hx]
  | store p x n =>
    have hp : p.ev tm = p.ev tm' := X.ev_congr fun t ht => h t (by simp [AO.reads, ht])
    have hx : x.ev tm = x.ev tm' := X.ev_congr fun t ht => h t (by simp [AO.reads, ht])
    simp only [evalO, hp, hx]
  | nilck x =>
    have hx : x.ev tm = x.ev tm' := X.ev_congr fun t ht => h t (by simp [AO.reads, ht])
    simp only [evalO, hx]
  | bin op x y =>
    have hx : x.ev tm = x.ev tm' := X.ev_congr fun t ht => h t (by simp [AO.reads, ht])
    have hy : y.ev tm = y.ev tm' := X.ev_congr fun t ht => h t (by simp [AO.reads, ht])
    simp only [evalO, hx, hy]
  | eqb n x y =>
    have hx : x.ev tm = x.ev tm' := X.ev_congr fun t ht => h t (by simp [AO.reads, ht])
    have hy : y.ev tm = y.ev tm' := X.ev_congr fun t ht => h t (by simp [AO.reads, ht])
    simp only [evalO, hx, hy]
  | eqs n ks x y =>
    have hx : x.ev tm = x.ev tm' := X.ev_congr fun t ht => h t (by simp [AO.reads, ht])
    have hy : y.ev tm = y.ev tm' := X.ev_congr fun t ht => h t (by simp [AO.reads, ht])
    simp only [evalO, hx, hy]
  | eqp n x y =>
    have hx : x.ev tm = x.ev tm' := X.ev_congr fun t ht => h t (by simp [AO.reads, ht])
    have hy : y.ev tm = y.ev tm' := X.ev_congr fun t ht => h t (by simp [AO.reads, ht])
    simp only [evalO, hx, hy]
  | un op x =>
    have hx : x.ev tm = x.ev tm' := X.ev_congr fun t ht => h t (by simp [AO.reads, ht])
    simp only [evalO, hx]
  | conv k x =>
    have hx : x.ev tm = x.ev tm' := X.ev_congr fun t ht => h t (by simp [AO.reads, ht])
    simp only [evalO, hx]
  | tostr x =>
    have hx : x.ev tm = x.ev tm' := X.ev_congr fun t ht => h t (by simp [AO.reads, ht])
    simp only [evalO, hx]
  | tobytes x =>
    have hx : x.ev tm = x.ev tm' := X.ev_congr fun t ht => h t (by simp [AO.reads, ht])
    simp only [evalO, hx]
  | faddr x n =>
    have hx : x.ev tm = x.ev tm' := X.ev_congr fun t ht => h t (by simp [AO.reads, ht])
    simp only [evalO, hx]
  | fld x n g m =>
    have hx : x.ev tm = x.ev tm' := X.ev_congr fun t ht => h t (by simp [AO.reads, ht])
    simp only [evalO, hx]
  | iaddr x i n =>
    have hx : x.ev tm = x.ev tm' := X.ev_congr fun t ht => h t (by simp [AO.reads, ht])
    have hi : i.ev tm = i.ev tm' := X.ev_congr fun t ht => h t (by simp [AO.reads, ht])
    simp only [evalO, hx, hi]
  | sidx x i =>
    have hx : x.ev tm = x.ev tm' := X.ev_congr fun t ht => h t (by simp [AO.reads, ht])
    have hi : i.ev tm = i.ev tm' := X.ev_congr fun t ht => h t (by simp [AO.reads, ht])
    simp only [evalO, hx, hi]
  | ext x i =>
    have hx : x.ev tm = x.ev tm' := X.ev_congr fun t ht => h t (by simp [AO.reads, ht])
    simp only [evalO, hx]
  | len x =>
    have hx : x.ev tm = x.ev tm' := X.ev_congr fun t ht => h t (by simp [AO.reads, ht])
    simp only [evalO, hx]
  | slen x =>
    have hx : x.ev tm = x.ev tm' := X.ev_congr fun t ht => h t (by simp [AO.reads, ht])
    simp only [evalO, hx]
  | app a b x y =>
    have hx : x.ev tm = x.ev tm' := X.ev_congr fun t ht => h t (by simp [AO.reads, ht])
    have hy : y.ev tm = y.ev tm' := X.ev_congr fun t ht => h t (by simp [AO.reads, ht])
    simp only [evalO, hx, hy]
  | mm b x y =>
    have hx : x.ev tm = x.ev tm' := X.ev_congr fun t ht => h t (by simp [AO.reads, ht])
    have hy : y.ev tm = y.ev tm' := X.ev_congr fun t ht => h t (by simp [AO.reads, ht])
    simp only [evalO, hx, hy]
  | build z ps =>
    have hp : (ps.map fun p => (p.1, p.2.1, p.2.2.ev tm)) = ps.map fun p => (p.1, p.2.1, p.2.2.ev tm') := List.map_congr_left fun p hp => by
      have : p.2.2.ev tm = p.2.2.ev tm' := X.ev_congr fun t ht => h t (by simp only [AO.reads]; exact mem_readsL (List.mem_map_of_mem hp) ht)
      rw [this]
    simp only [evalO, hp]
  | bslice z m n ps =>
    have hp : (ps.map fun p => (p.1, p.2.ev tm)) = ps.map fun p => (p.1, p.2.ev tm') := List.map_congr_left fun p hp => by
      have : p.2.ev tm = p.2.ev tm' := X.ev_congr fun t ht => h t (by simp only [AO.reads]; exact mem_readsL (List.mem_map_of_mem hp) ht)
      rw [this]
    simp only [evalO, hp]
  | bslt z m n ps =>
    have hp : (ps.map fun p => (p.1, p.2.ev tm)) = ps.map fun p => (p.1, p.2.ev tm') := List.map_congr_left fun p hp => by
      have : p.2.ev tm = p.2.ev tm' := X.ev_congr fun t ht => h t (by simp only [AO.reads]; exact mem_readsL (List.mem_map_of_mem hp) ht)
      rw [this]
    simp only [evalO, hp]
  | slc n x lo hi =>
    have hx : x.ev tm = x.ev tm' := X.ev_congr fun t ht => h t (by simp [AO.reads, ht])
    have hl : lo.map (·.ev tm) = lo.map (·.ev tm') := readsO_ev fun t ht => h t (by simp [AO.reads, ht])
    have hh : hi.map (·.ev tm) = hi.map (·.ev tm') := readsO_ev fun t ht => h t (by simp [AO.reads, ht])
    simp only [evalO, hx, hl, hh]
  | sslc x lo hi =>
    have hx : x.ev tm = x.ev tm' := X.ev_congr fun t ht => h t (by simp [AO.reads, ht])
    have hl : lo.map (·.ev tm) = lo.map (·.ev tm') := readsO_ev fun t ht => h t (by simp [AO.reads, ht])
    have hh : hi.map (·.ev tm) = hi.map (·.ev tm') := readsO_ev fun t ht => h t (by simp [AO.reads, ht])
    simp only [evalO, hx, hl, hh]

/-- What changes nothing leaves the state; what is no load gives the same everywhere. -/
theorem evalO_still {o : AO} (ho : isCore o.kind = false) {tm : Tm} {s s' : St} {d : D} (h : evalO o tm s = some (d, s')) : s' = s := by
  cases o <;> simp only [AO.kind, isCore] at ho <;> first | cases ho | skip
  all_goals
    simp only [evalO] at h
    first
      | (cases h; rfl)
      | (repeat' (split at h)) <;> first | (cases h; rfl) | cases h

theorem evalO_pure {o : AO} (ho : o.kind = .pure) {tm : Tm} {s s' : St} : (evalO o tm s).map (·.1) = (evalO o tm s').map (·.1) := by
  cases o <;> simp only [AO.kind] at ho <;> first | cases ho | skip
  all_goals
    simp only [evalO]
    first
      | rfl
      | (repeat' split) <;> rfl

/-- An operation that changes nothing. -/
def evM (ai : AI) (tm : Tm) (s : St) : Option D :=
  match ai with
  | .op _ none o => (evalO o tm s).map (·.1)
  | .op _ (some (t, want)) o =>
    match tm.get t with
    | .bool b => if b = want then (evalO o tm s).map (·.1) else some (.tuple [])
    | .tuple _ => some (.tuple [])
    | _ => none
  | _ => none

/-- An operation that changes something, or may. -/
def stepC (P : Program) (ai : AI) (tm : Tm) (s : St) (d : D) (s' : St) : Prop :=
  match ai with
  | .op _ g o => guarded g tm (evalO o tm s = some (d, s')) (d = .tuple [] ∧ s' = s)
  | .call _ g f xs => guarded g tm (ACalls P f (xs.map (·.ev tm)) s fun x y => x = d ∧ y = s') (d = .tuple [] ∧ s' = s)
  | .nil .. => False

/-- A plan is reckoned, one step behind the other. -/
def goodP (P : Program) (is : List AI) (K : Tm → St → Prop) : List (Nat × Nat) → List St → Tm → St → Prop
  | [], _, tm, s => K tm s
  | (q, b) :: r, past, tm, s =>
    match is[q]? with
    | none => False
    | some ai =>
      match isCore ai.kind with
      | true => ∃ d s', stepC P ai tm s d s' ∧ goodP P is K r (s :: past) (tm.put ai.dst d) s'
      | false => ∃ d, evM ai tm s = some d ∧ (ai.kind = .load → ∀ s' ∈ past.take b, evM ai tm s' = some d) ∧ goodP P is K r past (tm.put ai.dst d) s

def Tm.eqv (a b : Tm) : Prop := ∀ t, a.get t = b.get t

theorem Tm.get_put (tm : Tm) (dst : Option Nat) (d : D) (t : Nat) : (tm.put dst d).get t = if dst = some t then d else tm.get t := by
  cases dst with
  | none => simp [Tm.put]
  | some u =>
    simp only [Tm.put, Tm.get_set, Option.some.injEq]
    by_cases h : t = u
    · subst h; simp
    · rw [if_neg h, if_neg (fun e => h e.symm)]

theorem Tm.eqv.put {a b : Tm} (h : a.eqv b) (dst : Option Nat) (d : D) : (a.put dst d).eqv (b.put dst d) := fun t => by
  rw [Tm.get_put, Tm.get_put, h t]

theorem Tm.put_swap (tm : Tm) {x y : Option Nat} (h : ∀ t, x = some t → y ≠ some t) (d e : D) : ((tm.put x d).put y e).eqv ((tm.put y e).put x d) := fun t => by
  simp only [Tm.get_put]
  by_cases h1 : x = some t
  · simp only [h1, h t h1, if_true, if_false]
  · simp only [h1, if_false]

theorem guarded_congr {g : Option (Nat × Bool)} {tm tm' : Tm} {A A' C : Prop} (h : ∀ t ∈ readsG g, tm.get t = tm'.get t) (ha : A → A') (hh : guarded g tm A C) : guarded g tm' A' C := by
  cases g with
  | none => exact ha hh
  | some p =>
    obtain ⟨t, want⟩ := p
    unfold guarded at *
    simp only at *
    rw [← h t (by simp [readsG])]
    split
    · rename_i b hb
      rw [hb] at hh
      exact ⟨fun e => ha (hh.1 e), hh.2⟩
    · rename_i hb
      rw [hb] at hh
      exact hh
    · rename_i x h1 h2
      split at hh
      · exact h1 _ ‹_›
      · exact h2 _ ‹_›
      · exact hh

theorem readsL_ev {tm tm' : Tm} : ∀ {l : List X}, (∀ t ∈ readsL l, tm.get t = tm'.get t) → l.map (·.ev tm) = l.map (·.ev tm')
  | [], _ => rfl
  | x :: r, h => by
    simp only [List.map_cons]
    rw [X.ev_congr fun t ht => h t (by simp [readsL, ht]), readsL_ev (l := r) fun t ht => h t (by simp [readsL, ht])]

theorem stepC_congr {P : Program} {ai : AI} {tm tm' : Tm} {s s' : St} {d : D} (h : ∀ t ∈ ai.reads, tm.get t = tm'.get t) (hh : stepC P ai tm s d s') : stepC P ai tm' s d s' := by
  cases ai with
  | op dst g o =>
    simp only [AI.reads, List.mem_append] at h
    exact guarded_congr (fun t ht => h t (.inl ht)) (fun e => by rw [← evalO_congr fun t ht => h t (.inr ht)]; exact e) hh
  | call dst g f xs =>
    simp only [AI.reads, List.mem_append] at h
    exact guarded_congr (fun t ht => h t (.inl ht)) (fun e => by rw [← readsL_ev fun t ht => h t (.inr ht)]; exact e) hh
  | nil dst g n x => exact hh

theorem evM_congr {ai : AI} {tm tm' : Tm} {s : St} (h : ∀ t ∈ ai.reads, tm.get t = tm'.get t) : evM ai tm s = evM ai tm' s := by
  cases ai with
  | op dst g o =>
    simp only [AI.reads, List.mem_append] at h
    have he := evalO_congr (s := s) fun t ht => h t (.inr ht)
    cases g with
    | none => simp only [evM, he]
    | some p =>
      obtain ⟨t, want⟩ := p
      simp only [evM, he, h t (.inl (by simp [readsG]))]
  | call dst g f xs => rfl
  | nil dst g n x => rfl

theorem kind_op {dst : Option Nat} {g : Option (Nat × Bool)} {o : AO} (h : isCore (AI.op dst g o).kind = false) : (AI.op dst g o).kind = o.kind := by
  unfold AI.kind at *
  split at h
  · cases h
  · rename_i heq; cases heq; rfl
  · cases h

theorem evM_pure {ai : AI} (hk : ai.kind = .pure) {tm : Tm} {s s' : St} : evM ai tm s = evM ai tm s' := by
  cases ai with
  | op dst g o =>
    have ho : o.kind = .pure := by rw [← hk]; exact (kind_op (by rw [hk]; rfl)).symm
    have he := evalO_pure ho (tm := tm) (s := s) (s' := s')
    cases g with
    | none => simp only [evM, he]
    | some p => simp only [evM, he]
  | call dst g f xs => rfl
  | nil dst g n x => rfl

theorem apart_spec {a q : AI} (h : a.apart q = true) : (∀ t, a.dst = some t → t ∉ q.reads) ∧ (∀ t, q.dst = some t → t ∉ a.reads) ∧ (∀ t, a.dst = some t → q.dst ≠ some t) := by
  unfold AI.apart at h
  simp only [Bool.and_eq_true] at h
  obtain ⟨⟨h1, h2⟩, h3⟩ := h
  refine ⟨fun t e => ?_, fun t e => ?_, fun t e e' => ?_⟩
  · rw [e] at h1; simpa [offDst] using h1
  · rw [e] at h2; simpa [offDst] using h2
  · rw [e, e'] at h3; simp at h3

theorem get_put_off {tm : Tm} {dst : Option Nat} {d : D} {l : List Nat} (h : ∀ t, dst = some t → t ∉ l) : ∀ t ∈ l, tm.get t = (tm.put dst d).get t := fun t ht => by
  rw [Tm.get_put, if_neg fun e => h t e ht]

section
variable {P : Program} {is : List AI} {K : Tm → St → Prop}

theorem goodP_congr (hK : ∀ tm tm' s, Tm.eqv tm tm' → K tm s → K tm' s) : ∀ (R : List (Nat × Nat)) (past : List St) (tm tm' : Tm) (s : St), tm.eqv tm' → goodP P is K R past tm s → goodP P is K R past tm' s
  | [], _, tm, tm', s, e, h => hK tm tm' s e h
  | (q, b) :: R, past, tm, tm', s, e, h => by
    unfold goodP at *
    split at h
    · exact h.elim
    · rename_i ai hai
      split at h
      · rename_i hc
        obtain ⟨d, s', h1, h2⟩ := h
        exact ⟨d, s', stepC_congr (fun t _ => e t) h1, goodP_congr hK R _ _ _ _ (e.put _ d) h2⟩
      · rename_i hc
        obtain ⟨d, h1, h2, h3⟩ := h
        refine ⟨d, ?_, fun hl s' hs' => ?_, goodP_congr hK R _ _ _ _ (e.put _ d) h3⟩
        · rw [← evM_congr fun t _ => e t]; exact h1
        · rw [← evM_congr fun t _ => e t]; exact h2 hl s' hs'

theorem coresIn_cons (i : Nat) (l : List Nat) : coresIn is (i :: l) = (if isCore (kindAt is i) then 1 else 0) + coresIn is l := by
  unfold coresIn
  rw [List.filter_cons]
  split <;> simp <;> omega

/-- What may come up first may be reckoned first. -/
theorem goodP_front (hK : ∀ tm tm' s, Tm.eqv tm tm' → K tm s → K tm' s) {q b : Nat} {ai : AI} (hq : is[q]? = some ai) (hm : isCore ai.kind = false) (Y : List (Nat × Nat)) :
    ∀ (X : List (Nat × Nat)) (past : List St) (tm : Tm) (s : St), (∀ a ∈ X, apartAt is a.1 q = true) → (ai.kind = .load → coresIn is (X.map (·.1)) ≤ b) →
      goodP P is K (X ++ (q, b) :: Y) past tm s →
      ∃ d, evM ai tm s = some d ∧ (ai.kind = .load → ∀ s' ∈ past.take (b - coresIn is (X.map (·.1))), evM ai tm s' = some d) ∧ goodP P is K (X ++ Y) past (tm.put ai.dst d) s
  | [], past, tm, s, _, _, h => by
    simp only [List.nil_append, goodP, hq, hm] at h
    obtain ⟨d, h1, h2, h3⟩ := h
    exact ⟨d, h1, fun hl s' hs' => h2 hl s' (by simpa [coresIn] using hs'), h3⟩
  | (a, c) :: X, past, tm, s, hap, hb, h => by
    have hapa := hap (a, c) (by simp)
    unfold apartAt at hapa
    split at hapa
    · rename_i ia iq hia hiq
      rw [hq] at hiq
      cases hiq
      obtain ⟨p1, p2, p3⟩ := apart_spec hapa
      have hka : kindAt is a = ia.kind := by simp [kindAt, hia]
      have hrest : ∀ x ∈ X, apartAt is x.1 q = true := fun x hx => hap x (List.mem_cons_of_mem _ hx)
      rw [List.map_cons, coresIn_cons, hka] at hb ⊢
      simp only [List.cons_append, goodP, hia] at h ⊢
      cases hc : isCore ia.kind
      · simp only [hc, Bool.false_eq_true, if_false, Nat.zero_add] at h hb ⊢
        obtain ⟨d, h1, h2, h3⟩ := h
        obtain ⟨e, g1, g2, g3⟩ := goodP_front hK hq hm Y X past _ s hrest hb h3
        have cg : ∀ s, evM ai tm s = evM ai (tm.put ia.dst d) s := fun s => evM_congr (get_put_off p1)
        have cg' : ∀ s, evM ia tm s = evM ia (tm.put ai.dst e) s := fun s => evM_congr (get_put_off p2)
        refine ⟨e, by rw [cg]; exact g1, fun hl s' hs' => by rw [cg]; exact g2 hl s' hs', d, by rw [← cg']; exact h1, fun hl s' hs' => by rw [← cg']; exact h2 hl s' hs', ?_⟩
        exact goodP_congr hK _ _ _ _ _ (Tm.put_swap tm p3 d e) g3
      · simp only [hc, if_true] at h hb ⊢
        obtain ⟨d, s1, h1, h3⟩ := h
        obtain ⟨e, g1, g2, g3⟩ := goodP_front hK hq hm Y X (s :: past) _ s1 hrest (fun hl => by have := hb hl; omega) h3
        have cg : ∀ s, evM ai tm s = evM ai (tm.put ia.dst d) s := fun s => evM_congr (get_put_off p1)
        have hsame : evM ai tm s = some e := by
          cases hk : ai.kind with
          | pure => rw [cg, evM_pure hk (s' := s1)]; exact g1
          | load =>
            have := hb hk
            rw [cg]
            refine g2 hk s ?_
            rw [show b - coresIn is (X.map (·.1)) = (b - (1 + coresIn is (X.map (·.1)))) + 1 by omega, List.take_succ_cons]
            exact List.mem_cons_self
          | alloc => rw [hk] at hm; cases hm
          | core => rw [hk] at hm; cases hm
        refine ⟨e, hsame, fun hl s' hs' => ?_, d, s1, stepC_congr (get_put_off p2) h1, goodP_congr hK _ _ _ _ _ (Tm.put_swap tm p3 d e) g3⟩
        have := hb hl
        rw [cg]
        refine g2 hl s' ?_
        rw [show b - coresIn is (X.map (·.1)) = (b - (1 + coresIn is (X.map (·.1)))) + 1 by omega, List.take_succ_cons]
        exact List.mem_cons_of_mem _ hs'
    · cases hapa

end
end Go.Abs
