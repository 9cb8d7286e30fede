/-
  What is proved here: the rule for a region of open order.
  No conditions.
-/
import Derived.Test.YtecpopiacpckiaaPar2
namespace Go.Abs

section
variable {P : Program} {is : List AI} {af pt : List (List Nat)} {K : Tm → St → Prop} {B : Base} {nt : Nat}

theorem cIs_get {ops : Array Oper} : ∀ {ol : List Oper} {is : List AI}, cIs P nt ops ol = some is → is.length = ol.length ∧ ∀ (i : Nat) (o : Oper), ol[i]? = some o → ∃ ai, is[i]? = some ai ∧ cI P nt ops o = some ai
  | [], is, h => by cases h; exact ⟨rfl, by simp⟩
  | o :: ol, is, h => by
    unfold cIs at h
    split at h
    · rename_i ai is' h1 h2
      cases h
      obtain ⟨g1, g2⟩ := cIs_get h2
      refine ⟨by simp [g1], fun i o' ho => ?_⟩
      cases i with
      | zero => simp at ho; subst ho; exact ⟨ai, rfl, h1⟩
      | succ i => exact g2 i o' (by simpa using ho)
    · cases h

theorem listed_true {listed : Array Bool} {i : Nat} (h : i < listed.size) : listed.getD i true = listed.getD i false := by
  simp [h]

theorem SInv.done {listed : Array Bool} {X Y : List (Nat × Nat)} {q b : Nat} {pend : List Pd} (hs : SInv is af pt listed (X ++ (q, b) :: Y) pend) (hq : q < is.length)
    (hpt : ∀ j ∈ nthL pt q, listed.getD j false = true) : SInv is af pt (listed.setIfInBounds q true) (X ++ Y) pend := by
  obtain ⟨g1, g2, g3, g4, g5⟩ := okR_split hs.ok
  have hqY : q ∉ Y.map (·.1) := fun hm => by
    obtain ⟨x, hx, rfl⟩ := List.mem_map.1 hm
    exact (okR_off g5 x hx).1 (by simp)
  refine ⟨okR_del hs.ok, fun i hi => ?_, fun i hi hl j hj => ?_, by simp [hs.size], fun x hx => hs.lt x (by simp at hx ⊢; exact hx.imp id .inr)⟩
  · by_cases hiq : i = q
    · subst hiq
      have : i < listed.size := by rw [hs.size]; exact hq
      simp only [List.map_append, List.mem_append, g2, hqY, or_self, not_false_eq_true, true_or, iff_true]
      simp [this]
    · rw [getD_set_ne false (Ne.symm hiq), hs.lst i hi]
      simp [hiq]
  · by_cases hiq : i = q
    · subst hiq; exact getD_set_true (hpt j hj)
    · rw [getD_set_ne false (Ne.symm hiq)] at hl
      exact getD_set_true (hs.cl i hi hl j hj)

theorem SInv.flag {listed : Array Bool} {R : List (Nat × Nat)} {pend : List Pd} (hs : SInv is af pt listed R pend) {p : Pd} (hq : p.q < is.length)
    (hpt : ∀ j ∈ nthL pt p.q, listed.getD j false = true) : SInv is af pt (listed.setIfInBounds p.q true) R (p :: pend) := by
  refine ⟨hs.ok, fun i hi => ?_, fun i hi hl j hj => ?_, by simp [hs.size], hs.lt⟩
  · by_cases hiq : i = p.q
    · subst hiq
      have : p.q < listed.size := by rw [hs.size]; exact hq
      simp [this]
    · rw [getD_set_ne false (Ne.symm hiq), hs.lst i hi]
      have hne : p.q ≠ i := fun h => hiq h.symm
      simp [hne]
  · by_cases hiq : i = p.q
    · subst hiq; exact getD_set_true (hpt j hj)
    · rw [getD_set_ne false (Ne.symm hiq)] at hl
      exact getD_set_true (hs.cl i hi hl j hj)

theorem kind_alloc {ai : AI} (h : ai.kind = .alloc) : ∃ t z, ai = .op (some t) none (.alloc z) := by
  cases ai with
  | op dst g o =>
    unfold AI.kind at h
    split at h
    · rename_i heq; cases heq; exact ⟨_, _, rfl⟩
    · rename_i heq
      cases heq
      exfalso
      revert h
      cases o <;> simp [AO.kind]
    · cases h
  | call dst g f xs => cases h
  | nil dst g n x => cases h

/-- One operation of an open region is done, whichever comes up. -/
theorem exec_ready {ops : Array Oper} (hcis : cIs P nt ops ops.toList = some is) (hdeps : depsOk af pt is.length = true)
    (hK : ∀ tm tm' s, Tm.eqv tm tm' → K tm s → K tm' s) {listed : Array Bool} {R : List (Nat × Nat)} {pend : List Pd} {act : Act} {w : World} (hs : SInv is af pt listed R pend) (h : RInv P is K B nt R pend act w)
    (hnorm : ∀ x l, R = x :: l → ∀ p ∈ pend, p.q ≠ x.1) {q : Nat} (hq : q < is.length) (hun : listed.getD q false = false) (hrd : ∀ j ∈ nthL af q, j < is.length ∧ listed.getD j false = true)
    {Q : Exit → Act → World → Prop} {K2 : Act → World → Prop} (hK2 : ∀ R' pend' a' w', SInv is af pt (listed.setIfInBounds q true) R' pend' → RInv P is K B nt R' pend' a' w' → K2 a' w') : wpOp P ops Q q K2 act w := by
  obtain ⟨hlen, hget⟩ := cIs_get hcis
  have hqo : q < ops.size := by rw [hlen] at hq; simpa using hq
  obtain ⟨ai, hai, hci⟩ := hget q ops[q] (by simp [hqo])
  have hi : ops[q]? = some ops[q] := by simp [hqo]
  have hpt : ∀ j ∈ nthL pt q, listed.getD j false = true := fun j hj => by
    rcases depsOk_spec hdeps q hq j hj with h1 | ⟨k, h1, h2⟩
    · exact (hrd j h1).2
    · exact hs.cl k (hrd k h1).1 (hrd k h1).2 j h2
  have hnf : ∀ p ∈ pend, p.q ≠ q := fun p hp hpq => by
    have := (hs.lst q hq).2 (.inr ⟨p, hp, hpq⟩)
    rw [hun] at this; cases this
  have hqR : q ∈ R.map (·.1) := by
    by_cases hm : q ∈ R.map (·.1)
    · exact hm
    · have := (hs.lst q hq).2 (.inl hm)
      rw [hun] at this; cases this
  obtain ⟨⟨q', b⟩, hx, hqq⟩ := List.mem_map.1 hqR
  simp only at hqq
  subst hqq
  obtain ⟨X, Y, rfl⟩ := List.append_of_mem hx
  obtain ⟨g1, g2, g3, g4, g5⟩ := okR_split hs.ok
  rw [List.append_nil] at g1 g5
  obtain ⟨M, s, tm, tmJ, past, e, r, ht, hsame, hn, hd, hg, hpd, hdist⟩ := h
  have hkq : kindAt is q' = ai.kind := by simp [kindAt, hai]
  -- what must have come up ahead of it, is not here any more, but for what was allocated early
  have hflag : ∀ a ∈ X.map (·.1), a ∈ nthL pt q' → ∃ p ∈ pend, p.q = a := fun a ha hap => by
    have h1 := hpt a hap
    obtain ⟨x, hxX, rfl⟩ := List.mem_map.1 ha
    rcases (hs.lst x.1 (hs.lt x (by simp [hxX]))).1 h1 with h2 | h2
    · exact (h2 (by simp; exact .inl ⟨x.2, hxX⟩)).elim
    · exact h2
  have hhead : ∀ x l, X = x :: l → x.1 ∉ nthL pt q' := fun x l hX hxp => by
    obtain ⟨p, hp, hpq⟩ := hflag x.1 (by simp [hX]) hxp
    exact hnorm x (l ++ (q', b) :: Y) (by simp [hX]) p hp hpq
  have hpk : ∀ p ∈ pend, kindAt is p.q = .alloc := fun p hp => by simp [kindAt, (hpd p hp).ai, AI.kind]
  have hoff : ∀ p ∈ pend, (p.q ∈ X.map (·.1) → apartAt is p.q q' = true) → (∀ t, ai.dst = some t → t ≠ p.t) ∧ p.t ∉ ai.reads := fun p hp hX => by
    have hk := hpd p hp
    have hm := hk.mem
    simp only [List.map_append, List.map_cons, List.mem_append, List.mem_cons] at hm
    rcases hm with hm | hm | hm
    · have := hX hm
      simp only [apartAt, hk.ai, hai] at this
      obtain ⟨p1, p2, p3⟩ := apart_spec this
      exact ⟨fun t ht he => p3 p.t rfl (by rw [ht, he]), p1 p.t rfl⟩
    · exact (hnf p hp hm).elim
    · obtain ⟨x, hxY, hxq⟩ := List.mem_map.1 hm
      have := (okR_off g5 x hxY).2 (by rw [hxq]; exact hpk p hp) q' (by simp)
      rw [hxq] at this
      simp only [apartAt, hk.ai, hai] at this
      obtain ⟨p1, p2, p3⟩ := apart_spec this
      exact ⟨fun t ht he => p3 t ht (by rw [he]; rfl), p2 p.t rfl⟩
  have hreads : (∀ p ∈ pend, p.t ∉ ai.reads) → ∀ t ∈ ai.reads, tm.get t = tmJ.get t := fun hp t ht => (hsame t fun p hpm he => hp p hpm (by rw [he]; exact ht)).symm
  have hmem' : ∀ p ∈ pend, p.q ∈ (X ++ Y).map (·.1) := fun p hp => by
    have hm := (hpd p hp).mem
    have := hnf p hp
    simp only [List.map_append, List.map_cons, List.mem_append, List.mem_cons] at hm ⊢
    rcases hm with hm | hm | hm
    · exact .inl hm
    · exact (this hm).elim
    · exact .inr hm
  by_cases hal : ai.kind = .alloc
  · -- an allocation
    obtain ⟨t, z, rfl⟩ := kind_alloc hal
    have hap : ∀ a ∈ X.map (·.1), apartAt is a q' = true := fun a ha => by
      unfold stepOk at g1
      rw [hkq, hal] at g1
      simp only [List.all_reverse, List.all_eq_true] at g1
      exact g1 a ha
    have hfr := fun p hp => hoff p hp (hap p.q)
    refine alloc_early hi hci fun vs T hl h1 h2 => ?_
    obtain ⟨r1, e1, u1⟩ := r.idle (.cells vs T)
    have htlt : t < act.tmps.size := by
      rw [hn]
      exact cI_dst hci t (by rw [← cI_dst_eq hci]; rfl)
    have := hs.flag (p := ⟨q', t, z, w.heap.size⟩) hq hpt
    refine hK2 _ _ _ _ this ⟨M, s, tm, tmJ.put (some t) .junk, past, e.trans e1, r1, RTm.put ht (dst := some t) (fun u hu => by cases hu; exact htlt) (.junk _), fun u hu => ?_, by simp [Act.put, hn], by simp [Act.put, hd], hg, fun p hp => ?_, fun p hp p' hp' he => ?_⟩
    · have h3 := hu ⟨q', t, z, w.heap.size⟩ (by simp)
      rw [Tm.get_put, if_neg (by simpa using h3)]
      exact hsame u fun p hp => hu p (List.mem_cons_of_mem _ hp)
    · rcases List.mem_cons.1 hp with rfl | hp
      · refine ⟨by simp, hai, ⟨vs, T, heap_alloc_new w _, hl, h1, h2⟩, u1, e.size, ?_⟩
        simp [Act.put, htlt]
      · have hk := hpd p hp
        obtain ⟨vs', T', hh', hl', h1', h2'⟩ := hk.cells
        refine ⟨hk.mem, hk.ai, ⟨vs', T', by rw [heap_alloc_old w _ _ (lt_of_heap hh')]; exact hh', hl', h1', h2'⟩, hk.unk, hk.base, ?_⟩
        rw [← hk.slot]
        have hne : t ≠ p.t := (hfr p hp).1 t rfl
        simp [Act.put, Array.getElem?_setIfInBounds_ne hne]
    · have hnew : ∀ p ∈ pend, ¬ (q' = p.q ∨ t = p.t ∨ w.heap.size = p.b) := fun p hp h => by
        rcases h with h | h | h
        · exact hnf p hp h.symm
        · exact (hfr p hp).1 t rfl h
        · obtain ⟨vs', T', hh', _⟩ := (hpd p hp).cells
          have := lt_of_heap hh'
          omega
      rcases List.mem_cons.1 hp with rfl | hp <;> rcases List.mem_cons.1 hp' with rfl | hp'
      · rfl
      · exact (hnew p' hp' he).elim
      · exact (hnew p hp (he.imp Eq.symm (Or.imp Eq.symm Eq.symm))).elim
      · exact hdist p hp p' hp' he
  · by_cases hco : isCore ai.kind = true
    · -- a step that changes something: it stands first
      have hkc : ai.kind = .core := by
        cases hk : ai.kind <;> simp_all [isCore]
      have hX : X = [] := by
        cases X with
        | nil => rfl
        | cons x l =>
          refine (hhead x l rfl ?_).elim
          unfold stepOk at g1
          rw [hkq, hkc] at g1
          simp only [List.all_reverse, List.all_eq_true] at g1
          have := g1 x.1 (by simp)
          rwa [List.contains_iff_mem] at this
      subst hX
      have hfr := fun p hp => hoff p hp (fun h => by simp at h)
      simp only [List.nil_append, goodP, hai, hco] at hg
      obtain ⟨d, s1, hst, hg⟩ := hg
      have hst' := stepC_congr (hreads fun p hp => (hfr p hp).2) hst
      refine wpOp_mono (fun a' w' hr => hK2 _ _ _ _ (hs.done hq hpt) hr) ?_
      exact exec1 hi hci e r ht hsame hn hd hpd hdist (vcI_of_stepC hst') hg hmem' (fun p hp he => (hfr p hp).1 _ he rfl)
    · -- a step that changes nothing
      have hm : isCore ai.kind = false := by simpa using hco
      have hnot : ∀ a ∈ X.map (·.1), a ∉ nthL pt q' := fun a ha hap => by
        obtain ⟨p, hp, hpq⟩ := hflag a ha hap
        have hka : kindAt is a = .alloc := by rw [← hpq]; exact hpk p hp
        have hbe : behindAll is (nthL pt q') (X.map (·.1)).reverse = true := by
          unfold stepOk at g1
          rw [hkq] at g1
          cases hk : ai.kind with
          | pure => simp only [hk, Bool.and_eq_true] at g1; exact g1.2
          | load => simp only [hk, Bool.and_eq_true] at g1; exact g1.1.2
          | alloc => exact (hal hk).elim
          | core => rw [hk] at hm; cases hm
        cases X with
        | nil => simp at ha
        | cons x l =>
          have ha2 : a ∈ ((x :: l).map (·.1)).reverse := List.mem_reverse.2 ha
          obtain ⟨l1, l2, hsp⟩ := List.append_of_mem ha2
          have hall := behindAll_spec hbe a l1 l2 hsp hka hap
          refine hhead x l rfl ?_
          cases hl2 : l2.reverse with
          | nil =>
            have h3 : l2 = [] := by simpa using hl2
            subst h3
            have := congrArg List.reverse hsp
            simp at this
            rw [this.1]; exact hap
          | cons y l3 =>
            have := congrArg List.reverse hsp
            simp only [List.reverse_reverse, List.map_cons, List.reverse_append, List.reverse_cons, List.reverse_nil, List.append_assoc, hl2, List.cons_append, List.nil_append, List.cons.injEq] at this
            rw [this.1]
            exact hall y (by rw [← List.mem_reverse, hl2]; simp)
      have hap : ∀ a ∈ X, apartAt is a.1 q' = true := fun a ha => by
        have h3 : ∀ x ∈ (X.map (·.1)).reverse, ((nthL pt q').contains x || apartAt is x q') = true := by
          unfold stepOk at g1
          rw [hkq] at g1
          cases hk : ai.kind with
          | pure => simp only [hk, Bool.and_eq_true] at g1; exact List.all_eq_true.1 g1.1
          | load => simp only [hk, Bool.and_eq_true] at g1; exact List.all_eq_true.1 g1.1.1
          | alloc => exact (hal hk).elim
          | core => rw [hk] at hm; cases hm
        have := h3 a.1 (List.mem_reverse.2 (List.mem_map_of_mem ha))
        simp only [Bool.or_eq_true, List.contains_iff_mem] at this
        exact this.resolve_left (hnot a.1 (List.mem_map_of_mem ha))
      have hcount : ai.kind = .load → coresIn is (X.map (·.1)) ≤ b := fun hk => by
        unfold stepOk at g1
        rw [hkq, hk] at g1
        simp only [Bool.and_eq_true, decide_eq_true_eq] at g1
        have h3 := g1.2
        have h4 : (X.map (·.1)).reverse.filter (fun a => !(nthL pt q').contains a) = (X.map (·.1)).reverse := by
          rw [List.filter_eq_self]
          intro a ha
          have := hnot a (List.mem_reverse.1 ha)
          simpa using this
        rw [h4] at h3
        unfold coresIn at h3 ⊢
        rw [List.filter_reverse, List.length_reverse] at h3
        exact h3
      have hfr := fun p hp => hoff p hp (fun h => by
        obtain ⟨x, hx, hxq⟩ := List.mem_map.1 h
        rw [← hxq]; exact hap x hx)
      obtain ⟨d, h1, _, hg'⟩ := goodP_front hK hai hm Y X past tm s hap hcount hg
      have h1' : evM ai tmJ s = some d := by rw [← evM_congr (hreads fun p hp => (hfr p hp).2)]; exact h1
      refine wpOp_mono (fun a' w' hr => hK2 _ _ _ _ (hs.done hq hpt) hr) ?_
      exact exec1 hi hci e r ht hsame hn hd hpd hdist (vcI_of_evM hm h1') hg' hmem' (fun p hp he => (hfr p hp).1 _ he rfl)

theorem edgesOf_mem {o : Oper} {j : Nat} : j ∈ edgesOf o ↔ ∃ e ∈ o.after, Region.binds .any e = true ∧ e.on = j := by
  simp only [edgesOf, List.mem_map, List.mem_filter, Array.mem_toList_iff]
  constructor
  · rintro ⟨e, ⟨h1, h2⟩, h3⟩; exact ⟨e, h1, h2, h3⟩
  · rintro ⟨e, h1, h2, h3⟩; exact ⟨e, ⟨h1, h2⟩, h3⟩

theorem wpAny_plan {ops : Array Oper} (hcis : cIs P nt ops ops.toList = some is) (hdeps : depsOk (ops.toList.map edgesOf) pt is.length = true)
    (hafl : ∀ i, i < is.length → ∀ j ∈ nthL (ops.toList.map edgesOf) i, j < is.length) {Q : Exit → Tm → St → Prop} (hK : ∀ tm tm' s, Tm.eqv tm tm' → K tm s → K tm' s)
    (hKQ : ∀ tm s act w, K tm s → Holds B nt tm s act w → Post B nt Q .normal act w) :
    ∀ (fuel : Nat) (listed : Array Bool) (R : List (Nat × Nat)) (pend : List Pd) (act : Act) (w : World) (U : List Nat), U.length ≤ fuel → (∀ j, j < is.length → listed.getD j false = false → j ∈ U) →
      SInv is (ops.toList.map edgesOf) pt listed R pend → RInv P is K B nt R pend act w → wpAny P .any ops (Post B nt Q) fuel listed act w := by
  obtain ⟨hlen, _⟩ := cIs_get hcis
  have hsize : is.length = ops.size := by rw [hlen]; simp
  have hnth : ∀ (j : Nat) (o : Oper), ops[j]? = some o → nthL (ops.toList.map edgesOf) j = edgesOf o := fun j o h => by
    simp [nthL, List.getD, h]
  have fin : ∀ {listed : Array Bool} {pend : List Pd} {act : Act} {w : World}, RInv P is K B nt [] pend act w → Post B nt Q .normal act w := by
    intro listed pend act w h
    obtain ⟨M, s, tm, tmJ, past, e, r, ht, hsame, hn, hd, hg, hpd, hdist⟩ := h
    have hnil : ∀ p ∈ pend, False := fun p hp => by have := (hpd p hp).mem; simp at this
    exact hKQ tmJ s act w (hK tm tmJ s (fun t => (hsame t fun p hp => (hnil p hp).elim).symm) hg) ⟨M, e, r, ht, hn, hd⟩
  have hready : ∀ {listed : Array Bool} {R : List (Nat × Nat)} {pend : List Pd} {x : Nat × Nat} {l : List (Nat × Nat)}, SInv is (ops.toList.map edgesOf) pt listed R pend → R = x :: l → (∀ p ∈ pend, p.q ≠ x.1) →
      x.1 ∈ Region.ready .any ops listed := by
    intro listed R pend x l hs hR hnf
    subst hR
    have hx := hs.lt x (by simp)
    rw [mem_ready]
    have hun : listed.getD x.1 false = false := by
      cases hl : listed.getD x.1 false with
      | false => rfl
      | true =>
        rcases (hs.lst x.1 hx).1 hl with h1 | ⟨p, hp, hpq⟩
        · exact (h1 (by simp)).elim
        · exact (hnf p hp hpq).elim
    have hxo : x.1 < ops.size := by rw [← hsize]; exact hx
    refine ⟨by rw [listed_true (by rw [hs.size]; exact hx)]; exact hun, ops[x.1], by simp [hxo], fun e he hb => ?_⟩
    have hm : e.on ∈ nthL (ops.toList.map edgesOf) x.1 := by rw [hnth x.1 ops[x.1] (by simp [hxo])]; exact edgesOf_mem.2 ⟨e, he, hb, rfl⟩
    obtain ⟨_, _, _, g4, _⟩ := okR_split (X := []) (q := x.1) (b := x.2) hs.ok
    obtain ⟨h1, h2⟩ := g4 _ hm
    refine (hs.lst e.on (hafl x.1 hx _ hm)).2 (.inl ?_)
    simp only [List.map_cons, List.mem_cons, not_or]
    exact ⟨h1, h2⟩
  intro fuel
  induction fuel with
  | zero =>
    intro listed R pend act w U hU hun hs h
    obtain ⟨R', pend', hs', h', hn⟩ := norm R pend hs h
    have hUn : U = [] := List.length_eq_zero_iff.1 (by omega)
    have hall : ∀ j, j < is.length → listed.getD j false = true := fun j hj => by
      cases hl : listed.getD j false with
      | true => rfl
      | false => have := hun j hj hl; rw [hUn] at this; cases this
    have hR : R' = [] := by
      cases hR : R' with
      | nil => rfl
      | cons x l =>
        have hx := hs'.lt x (by simp [hR])
        have := hready hs' hR (hn x l hR)
        rw [mem_ready, listed_true (by rw [hs'.size]; exact hx), hall x.1 hx] at this
        cases this.1
    subst hR
    refine ⟨?_, fin (listed := listed) h'⟩
    cases hr : Region.ready .any ops listed with
    | nil => rfl
    | cons j js =>
      have hj : j ∈ Region.ready .any ops listed := by rw [hr]; simp
      rw [mem_ready] at hj
      obtain ⟨h1, o, ho, _⟩ := hj
      have hjl : j < is.length := by rw [hsize]; exact (Array.getElem?_eq_some_iff.1 ho).1
      rw [listed_true (by rw [hs.size]; exact hjl), hall j hjl] at h1
      cases h1
  | succ fuel ih =>
    intro listed R pend act w U hU hun hs h
    obtain ⟨R', pend', hs', h', hn⟩ := norm R pend hs h
    refine ⟨fun hr => ?_, fun i hi => ?_⟩
    · cases hR : R' with
      | nil => subst hR; exact fin (listed := listed) h'
      | cons x l =>
        have := hready hs' hR (hn x l hR)
        rw [hr] at this
        cases this
    · rw [mem_ready] at hi
      obtain ⟨h1, o, ho, hdep⟩ := hi
      have hil : i < is.length := by rw [hsize]; exact (Array.getElem?_eq_some_iff.1 ho).1
      rw [listed_true (by rw [hs.size]; exact hil)] at h1
      refine exec_ready hcis hdeps hK hs' h' hn hil h1 (fun j hj => ⟨hafl i hil j hj, ?_⟩) fun R2 pend2 a2 w2 hs2 h2 => ?_
      · rw [hnth i o ho] at hj
        obtain ⟨e, he, hb, rfl⟩ := edgesOf_mem.1 hj
        exact hdep e he hb
      · refine ih _ R2 pend2 a2 w2 (U.erase i) ?_ (fun j hj hl => ?_) hs2 h2
        · have := List.length_erase_of_mem (hun i hil h1)
          omega
        · have hji : j ≠ i := fun e => by
            subst e
            have : j < listed.size := by rw [hs.size]; exact hil
            simp [this] at hl
          rw [getD_set_ne false (Ne.symm hji)] at hl
          exact (List.mem_erase_of_ne hji).2 (hun j hj hl)

/-- A region of open order is reckoned in its plan's order. -/
theorem Sem.par {is : List AI} {plan : List (Nat × Nat)} {Q : Exit → Tm → St → Prop} {tm : Tm} {s : St} (h : goodP P is (Q .normal) plan [] tm s) : Sem P B nt (.par is plan) Q tm s := by
  intro c hc act w hh
  obtain ⟨id, ops, rfl, hi, hm, pt, hp⟩ := cC_inv hc
  simp only [planOk, Bool.and_eq_true, List.all_eq_true, List.mem_range, List.contains_iff_mem, decide_eq_true_eq] at hp
  obtain ⟨⟨⟨⟨h1, h2⟩, h3⟩, h4⟩, h5⟩ := hp
  obtain ⟨hlen, _⟩ := cIs_get hi
  have hsize : is.length = ops.size := by rw [hlen]; simp
  refine wp_region_any hm ?_
  obtain ⟨M, e, r, ht, hn, hd⟩ := hh
  have key : ∀ (R : List (Nat × Nat)) (past : List St) (tm : Tm) (s : St), goodP P is (Q .normal) R past tm s → goodP P is (fun tm s => ∃ tm', tm.eqv tm' ∧ Q .normal tm' s) R past tm s := by
    intro R
    induction R with
    | nil => intro past tm s h; exact ⟨tm, fun _ => rfl, h⟩
    | cons x R ih =>
      obtain ⟨q, b⟩ := x
      intro past tm s h
      unfold goodP at h ⊢
      split at h
      · exact h.elim
      · split at h
        · obtain ⟨d, s', h1, h2⟩ := h; exact ⟨d, s', h1, ih _ _ _ h2⟩
        · obtain ⟨d, h1, h2, h3⟩ := h; exact ⟨d, h1, h2, ih _ _ _ h3⟩
  have hg := key _ _ _ _ h
  refine wpAny_plan (K := fun tm s => ∃ tm', tm.eqv tm' ∧ Q .normal tm' s) hi h1 h5 (fun tm tm' s he ⟨t2, h3, h4⟩ => ⟨t2, fun t => (he t).symm.trans (h3 t), h4⟩)
    (fun tm s act w ⟨t2, h3, h4⟩ ⟨M, e, r, ht, hn, hd⟩ => ⟨t2, s, h4, M, e, r, fun t => by rw [← h3 t]; exact ht t, hn, hd⟩) ops.size _ plan [] act _ (List.range is.length) (by simp [hsize]) (fun j hj _ => by simpa using hj)
    ⟨h2, fun i hi => ?_, fun i hi hl => ?_, by simp [hsize], h4⟩ ⟨M, s, tm, tm, [], ⟨e.le, e.kept, e.newO, e.newT, e.newG, e.size, e.os, e.tape, e.output⟩, r.of_heap rfl, ht, fun _ _ => rfl, hn, hd, hg, by simp, by simp⟩
  · have : i < ops.size := by rw [← hsize]; exact hi
    have h6 := h3 i hi
    simp only [List.not_mem_nil, false_and, exists_false, or_false]
    rw [show (Array.replicate ops.size false).getD i false = false by simp [this]]
    simp [h6]
  · have : i < ops.size := by rw [← hsize]; exact hi
    rw [show (Array.replicate ops.size false).getD i false = false by simp [this]] at hl
    cases hl

end
end Go.Abs
