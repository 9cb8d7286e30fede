/-
  What is proved here: in a region of open order, whatever order is drawn: the plan's order tells what comes of it.
  No conditions.
-/
import Derived.Test.YtecpopiacpckiaaPar1
namespace Go.Abs

/-! ### The plan's plain side -/

section
variable {is : List AI} {af pt : List (List Nat)}

theorem behindAll_sub {pq : List Nat} {l l' : List Nat} (h : l'.Sublist l) (hb : behindAll is pq l = true) : behindAll is pq l' = true := by
  induction h with
  | slnil => rfl
  | cons a h ih =>
    simp only [behindAll, Bool.and_eq_true] at hb
    exact ih hb.2
  | cons_cons a h ih =>
    simp only [behindAll, Bool.and_eq_true, Bool.or_eq_true] at hb ⊢
    refine ⟨hb.1.imp id fun h1 => ?_, ih hb.2⟩
    rw [List.all_eq_true] at h1 ⊢
    exact fun x hx => h1 x (h.subset hx)

theorem all_sub {f : Nat → Bool} {l l' : List Nat} (h : l'.Sublist l) (ha : l.all f = true) : l'.all f = true := by
  rw [List.all_eq_true] at ha ⊢
  exact fun x hx => ha x (h.subset hx)

theorem coresIn_sub {l l' : List Nat} (h : l'.Sublist l) : coresIn is l' ≤ coresIn is l := (h.filter _).length_le

theorem stepOk_sub {pre pre' : List Nat} {q b : Nat} (h : pre'.Sublist pre) (hs : stepOk is pt pre q b = true) : stepOk is pt pre' q b = true := by
  unfold stepOk at *
  split at hs
  · exact all_sub h hs
  · exact all_sub h hs
  · simp only [Bool.and_eq_true] at hs ⊢
    exact ⟨all_sub h hs.1, behindAll_sub h hs.2⟩
  · simp only [Bool.and_eq_true, decide_eq_true_eq] at hs ⊢
    exact ⟨⟨all_sub h hs.1.1, behindAll_sub h hs.1.2⟩, Nat.le_trans (coresIn_sub (h.filter _)) hs.2⟩

theorem okR_mono : ∀ {R : List (Nat × Nat)} {pre pre' : List Nat}, pre'.Sublist pre → okR is af pt pre R = true → okR is af pt pre' R = true
  | [], _, _, _, _ => rfl
  | (q, b) :: R, pre, pre', h, ho => by
    simp only [okR, Bool.and_eq_true, Bool.not_eq_true'] at ho ⊢
    obtain ⟨⟨⟨h1, h2⟩, h3⟩, h4⟩ := ho
    refine ⟨⟨⟨stepOk_sub h h1, ?_⟩, h3⟩, okR_mono (h.cons_cons q) h4⟩
    rw [← Bool.not_eq_true, List.contains_iff_mem] at h2 ⊢
    exact fun hm => h2 (h.subset hm)

theorem okR_del : ∀ {X : List (Nat × Nat)} {e : Nat × Nat} {Y : List (Nat × Nat)} {pre : List Nat}, okR is af pt pre (X ++ e :: Y) = true → okR is af pt pre (X ++ Y) = true
  | [], (q, b), Y, pre, h => by
    simp only [List.nil_append, okR, Bool.and_eq_true] at h
    exact okR_mono (List.sublist_cons_self q pre) h.2
  | (a, c) :: X, e, Y, pre, h => by
    simp only [List.cons_append, okR, Bool.and_eq_true] at h ⊢
    obtain ⟨⟨⟨h1, h2⟩, h3⟩, h4⟩ := h
    refine ⟨⟨⟨h1, h2⟩, ?_⟩, okR_del h4⟩
    rw [List.all_eq_true] at h3 ⊢
    intro j hj
    have := h3 j hj
    simp only [Bool.and_eq_true, Bool.not_eq_true'] at this ⊢
    refine ⟨this.1, ?_⟩
    have h5 := this.2
    rw [← Bool.not_eq_true, List.contains_iff_mem] at h5 ⊢
    refine fun hm => h5 ?_
    simp only [List.map_append, List.map_cons, List.mem_append, List.mem_cons] at hm ⊢
    exact hm.imp id .inr

theorem okR_split : ∀ {X : List (Nat × Nat)} {q b : Nat} {Y : List (Nat × Nat)} {pre : List Nat}, okR is af pt pre (X ++ (q, b) :: Y) = true →
    stepOk is pt ((X.map (·.1)).reverse ++ pre) q b = true ∧ q ∉ X.map (·.1) ∧ q ∉ pre ∧ (∀ j ∈ nthL af q, j ≠ q ∧ j ∉ Y.map (·.1)) ∧ okR is af pt (q :: ((X.map (·.1)).reverse ++ pre)) Y = true
  | [], q, b, Y, pre, h => by
    simp only [List.nil_append, okR, Bool.and_eq_true, Bool.not_eq_true'] at h
    obtain ⟨⟨⟨h1, h2⟩, h3⟩, h4⟩ := h
    rw [← Bool.not_eq_true, List.contains_iff_mem] at h2
    refine ⟨h1, by simp, h2, fun j hj => ?_, h4⟩
    rw [List.all_eq_true] at h3
    have := h3 j hj
    simp only [Bool.and_eq_true, bne_iff_ne, Bool.not_eq_true', ← Bool.not_eq_true, List.contains_iff_mem] at this
    exact this
  | (a, c) :: X, q, b, Y, pre, h => by
    simp only [List.cons_append, okR, Bool.and_eq_true] at h
    obtain ⟨_, h4⟩ := h
    obtain ⟨g1, g2, g3, g4, g5⟩ := okR_split h4
    simp only [List.map_cons, List.reverse_cons, List.append_assoc, List.singleton_append]
    refine ⟨g1, ?_, fun h => g3 (List.mem_cons_of_mem _ h), g4, g5⟩
    intro hm
    rcases List.mem_cons.1 hm with rfl | hm
    · exact g3 (by simp)
    · exact g2 hm

theorem okR_off : ∀ {Y : List (Nat × Nat)} {pre : List Nat}, okR is af pt pre Y = true → ∀ x ∈ Y, x.1 ∉ pre ∧ (kindAt is x.1 = .alloc → ∀ a ∈ pre, apartAt is a x.1 = true)
  | [], _, _, x, hx => by cases hx
  | (q, b) :: Y, pre, h, x, hx => by
    simp only [okR, Bool.and_eq_true, Bool.not_eq_true'] at h
    obtain ⟨⟨⟨h1, h2⟩, _⟩, h4⟩ := h
    rw [← Bool.not_eq_true, List.contains_iff_mem] at h2
    rcases List.mem_cons.1 hx with rfl | hx
    · refine ⟨h2, fun hk a ha => ?_⟩
      unfold stepOk at h1
      simp only [hk] at h1
      rw [List.all_eq_true] at h1
      exact h1 a ha
    · obtain ⟨g1, g2⟩ := okR_off h4 x hx
      exact ⟨fun h => g1 (List.mem_cons_of_mem _ h), fun hk a ha => g2 hk a (List.mem_cons_of_mem _ ha)⟩

theorem depsOk_spec : ∀ {n : Nat}, depsOk af pt n = true → ∀ i, i < n → ∀ j ∈ nthL pt i, j ∈ nthL af i ∨ ∃ k ∈ nthL af i, j ∈ nthL pt k
  | 0, _, i, hi => by omega
  | n + 1, h, i, hi => by
    simp only [depsOk, Bool.and_eq_true] at h
    rcases Nat.lt_or_ge i n with h1 | h1
    · exact depsOk_spec h.2 i h1
    · have : i = n := by omega
      subst this
      intro j hj
      have := h.1
      rw [List.all_eq_true] at this
      have := this j hj
      simp only [Bool.or_eq_true, List.contains_iff_mem, List.any_eq_true] at this
      exact this

theorem behindAll_spec {pq : List Nat} : ∀ {l : List Nat}, behindAll is pq l = true → ∀ (x : Nat) (l1 l2 : List Nat), l = l1 ++ x :: l2 → kindAt is x = .alloc → x ∈ pq → ∀ y ∈ l2, y ∈ pq
  | [], _, x, l1, l2, h => by simp at h
  | a :: l, hb, x, l1, l2, h => by
    simp only [behindAll, Bool.and_eq_true, Bool.or_eq_true, Bool.not_eq_true', Bool.and_eq_false_iff] at hb
    intro hk hx y hy
    cases l1 with
    | nil =>
      simp only [List.nil_append, List.cons.injEq] at h
      obtain ⟨rfl, rfl⟩ := h
      rcases hb.1 with h1 | h1
      · rcases h1 with h1 | h1
        · simp [hk] at h1
        · rw [← Bool.not_eq_true, List.contains_iff_mem] at h1
          exact (h1 hx).elim
      · rw [List.all_eq_true] at h1
        have := h1 y hy
        rwa [List.contains_iff_mem] at this
    | cons b l1 =>
      simp only [List.cons_append, List.cons.injEq] at h
      exact behindAll_spec hb.2 x l1 l2 h.2 hk hx y hy
end

/-! ### Reckoning one by one -/

structure Pd where
  q : Nat
  t : Nat
  z : List D
  b : Nat

structure PdOk (is : List AI) (R : List (Nat × Nat)) (B : Base) (M : Map) (s : St) (act : Act) (w : World) (p : Pd) : Prop where
  mem : p.q ∈ R.map (·.1)
  ai : is[p.q]? = some (.op (some p.t) none (.alloc p.z))
  cells : ∃ (vs : Array Value) (T : TypeId), w.heap[p.b]? = some (.cells vs T (0, 0)) ∧ vs.size = p.z.length ∧ (∀ v ∈ vs, v.oneCell' = true) ∧
    ∀ (M : Map) (s : St) (i : Nat) (d : D) (v : Value), p.z[i]? = some d → vs[i]? = some v → RD M s d v
  unk : Unk M s p.b
  base : B.w.heap.size ≤ p.b
  slot : act.tmps.getD p.t Go.undef = .pointer (some ⟨p.b, 0, none⟩)

def RInv (P : Program) (is : List AI) (K : Tm → St → Prop) (B : Base) (nt : Nat) (R : List (Nat × Nat)) (pend : List Pd) (act : Act) (w : World) : Prop :=
  ∃ (M : Map) (s : St) (tm tmJ : Tm) (past : List St), Ext B.M B.s B.w M s w ∧ Rel M s w ∧ RTm M s tmJ act.tmps ∧ (∀ t, (∀ p ∈ pend, p.t ≠ t) → tmJ.get t = tm.get t) ∧
    act.tmps.size = nt ∧ act.defers = [] ∧ goodP P is K R past tm s ∧ (∀ p ∈ pend, PdOk is R B M s act w p) ∧
    (∀ p ∈ pend, ∀ p' ∈ pend, p.q = p'.q ∨ p.t = p'.t ∨ p.b = p'.b → p = p')

structure SInv (is : List AI) (af pt : List (List Nat)) (listed : Array Bool) (R : List (Nat × Nat)) (pend : List Pd) : Prop where
  ok : okR is af pt [] R = true
  lst : ∀ i, i < is.length → (listed.getD i false = true ↔ (i ∉ R.map (·.1) ∨ ∃ p ∈ pend, p.q = i))
  cl : ∀ i, i < is.length → listed.getD i false = true → ∀ j ∈ nthL pt i, listed.getD j false = true
  size : listed.size = is.length
  lt : ∀ x ∈ R, x.1 < is.length

section
variable {P : Program} {is : List AI} {af pt : List (List Nat)} {K : Tm → St → Prop} {B : Base} {nt : Nat}

theorem absorb {listed : Array Bool} {q b : Nat} {R : List (Nat × Nat)} {pend : List Pd} {act : Act} {w : World} (hs : SInv is af pt listed ((q, b) :: R) pend) (h : RInv P is K B nt ((q, b) :: R) pend act w)
    {p : Pd} (hp : p ∈ pend) (hpq : p.q = q) :
    SInv is af pt listed R (pend.filter fun p' => decide (p'.q ≠ q)) ∧ RInv P is K B nt R (pend.filter fun p' => decide (p'.q ≠ q)) act w := by
  have hmem : ∀ p', p' ∈ (pend.filter fun p' => decide (p'.q ≠ q)) ↔ p' ∈ pend ∧ p'.q ≠ q := fun p' => by simp
  constructor
  · have hok := hs.ok
    have hoff := okR_split (X := []) hok
    refine ⟨okR_del (X := []) hok, fun i hi => ?_, hs.cl, hs.size, fun x hx => hs.lt x (List.mem_cons_of_mem _ hx)⟩
    rw [hs.lst i hi]
    simp only [List.map_cons, List.mem_cons, not_or]
    have hqR : q ∉ R.map (·.1) := fun hm => by
      obtain ⟨x, hx, rfl⟩ := List.mem_map.1 hm
      exact (okR_off hoff.2.2.2.2 x hx).1 (by simp)
    constructor
    · rintro (⟨h1, h2⟩ | ⟨p', h1, h2⟩)
      · exact .inl h2
      · by_cases hq : i = q
        · subst hq; exact .inl hqR
        · exact .inr ⟨p', (hmem p').2 ⟨h1, by rw [h2]; exact hq⟩, h2⟩
    · rintro (h1 | ⟨p', h1, h2⟩)
      · by_cases hq : i = q
        · subst hq; exact .inr ⟨p, hp, hpq⟩
        · exact .inl ⟨hq, h1⟩
      · exact .inr ⟨p', ((hmem p').1 h1).1, h2⟩
  · obtain ⟨M, s, tm, tmJ, past, e, r, ht, hsame, hn, hd, hg, hpd, hdist⟩ := h
    have hk := hpd p hp
    obtain ⟨vs, T, hh, hl, h1, h2⟩ := hk.cells
    have hai := hk.ai
    rw [hpq] at hai
    simp only [goodP, hai, AI.kind, isCore] at hg
    obtain ⟨d, s', hst, hg⟩ := hg
    have hev : evalO (.alloc p.z) tm s = some (d, s') := hst
    simp only [evalO, Option.some.injEq, Prod.mk.injEq] at hev
    obtain ⟨rfl, rfl⟩ := hev
    obtain ⟨r', e', le⟩ := r.adopt e hk.unk hk.base p.z vs T hh hl h1 (h2 M s)
    refine ⟨_, _, _, tmJ.put (some p.t) (.ptr s.objs.length 0), _, e', r', fun u => ?_, fun t htn => ?_, hn, hd, hg, fun p' hp' => ?_, fun p1 h1 p2 h2 => hdist p1 ((hmem p1).1 h1).1 p2 ((hmem p2).1 h2).1⟩
    · rw [Tm.get_put]
      split
      · rename_i heq
        cases heq
        rw [hk.slot]
        have : (M.pushO s.objs.length p.b).mu s.objs.length = p.b := by simp [Map.pushO]
        have h5 := RD.ptr (M := M.pushO s.objs.length p.b) (s := { s with objs := s.objs ++ [p.z] }) s.objs.length 0 (by simp)
        rw [this] at h5
        exact h5
      · exact (ht u).mono le
    · simp only [AI.dst]
      rw [Tm.get_put, Tm.get_put]
      split
      · rfl
      · rename_i hne
        refine hsame t fun p' hp' => ?_
        by_cases hq : p'.q = q
        · have := hdist p' hp' p hp (.inl (hq.trans hpq.symm))
          subst this
          exact fun h => hne (by rw [h])
        · exact htn p' ((hmem p').2 ⟨hp', hq⟩)
    · obtain ⟨hp1, hp2⟩ := (hmem p').1 hp'
      have hk' := hpd p' hp1
      refine ⟨?_, hk'.ai, hk'.cells, ⟨fun o ho => ?_, hk'.unk.t, hk'.unk.g⟩, hk'.base, hk'.slot⟩
      · have := hk'.mem
        simp only [List.map_cons, List.mem_cons] at this
        exact this.resolve_left hp2
      · simp at ho
        rcases Nat.lt_or_ge o s.objs.length with h5 | h5
        · rw [le.mu o h5]; exact hk'.unk.o o h5
        · have : o = s.objs.length := by omega
          subst this
          have : (M.pushO s.objs.length p.b).mu s.objs.length = p.b := by simp [Map.pushO]
          rw [this]
          intro hb
          have := hdist p hp p' hp1 (.inr (.inr hb))
          subst this
          exact hp2 hpq

theorem norm {listed : Array Bool} {act : Act} {w : World} : ∀ (R : List (Nat × Nat)) (pend : List Pd), SInv is af pt listed R pend → RInv P is K B nt R pend act w →
    ∃ R' pend', SInv is af pt listed R' pend' ∧ RInv P is K B nt R' pend' act w ∧ ∀ x l, R' = x :: l → ∀ p ∈ pend', p.q ≠ x.1
  | [], pend, hs, h => ⟨[], pend, hs, h, fun _ _ he => by cases he⟩
  | (q, b) :: R, pend, hs, h => by
    by_cases hp : ∃ p ∈ pend, p.q = q
    · obtain ⟨p, hp, hpq⟩ := hp
      obtain ⟨h1, h2⟩ := absorb hs h hp hpq
      exact norm R _ h1 h2
    · refine ⟨(q, b) :: R, pend, hs, h, fun x l he p hpm hpq => hp ⟨p, hpm, ?_⟩⟩
      cases he
      exact hpq

/-- One operation is done. -/
theorem exec1 {ops : Array Oper} {q : Nat} {o : Oper} {ai : AI} (hi : ops[q]? = some o) (hc : cI P nt ops o = some ai) {R R' : List (Nat × Nat)} {pend : List Pd} {act : Act} {w : World} {M : Map} {s s1 : St} {tm tmJ : Tm} {d : D} {past' : List St}
    (e : Ext B.M B.s B.w M s w) (r : Rel M s w) (ht : RTm M s tmJ act.tmps) (hsame : ∀ t, (∀ p ∈ pend, p.t ≠ t) → tmJ.get t = tm.get t) (hn : act.tmps.size = nt) (hd : act.defers = [])
    (hpd : ∀ p ∈ pend, PdOk is R B M s act w p) (hdist : ∀ p ∈ pend, ∀ p' ∈ pend, p.q = p'.q ∨ p.t = p'.t ∨ p.b = p'.b → p = p')
    (hv : vcI P [ai] (fun a b => a = tmJ.put ai.dst d ∧ b = s1) tmJ s) (hg : goodP P is K R' past' (tm.put ai.dst d) s1)
    (hmem : ∀ p ∈ pend, p.q ∈ R'.map (·.1)) (hdst : ∀ p ∈ pend, ai.dst ≠ some p.t) {Q : Exit → Act → World → Prop} :
    wpOp P ops Q q (RInv P is K B nt R' pend) act w := by
  refine stepI_sound hi hc r ht hv fun d' v s2 w1 M1 hk e1 r1 hrd => ?_
  obtain ⟨hk1, rfl⟩ := hk
  have hde := cI_dst_eq hc
  have hlt : ∀ t, o.dst = some t → t < act.tmps.size := fun t h => by rw [hn]; exact cI_dst hc t h
  refine ⟨M1, s2, tm.put ai.dst d, tmJ.put ai.dst d, past', e.trans e1, r1, ?_, fun t htn => ?_, ?_, ?_, hg, fun p hp => ?_, hdist⟩
  · rw [← hk1, hde]
    exact (ht.mono e1.le).put hlt hrd
  · rw [Tm.get_put, Tm.get_put, hsame t htn]
  · cases ho : o.dst <;> simp [Act.put, hn]
  · cases ho : o.dst <;> simp [Act.put, hd]
  · have hk := hpd p hp
    obtain ⟨vs, T, hh, hl, h1, h2⟩ := hk.cells
    have hb := lt_of_heap hh
    refine ⟨hmem p hp, hk.ai, ⟨vs, T, by rw [e1.kept p.b hb hk.unk.o hk.unk.t]; exact hh, hl, h1, h2⟩, hk.unk.mono e1 hb, hk.base, ?_⟩
    rw [← hk.slot]
    have := hdst p hp
    rw [hde] at this
    cases ho : o.dst with
    | none => rfl
    | some t =>
      rw [ho] at this
      have hne : t ≠ p.t := fun h => this (by rw [h])
      simp [Act.put, Array.getElem?_setIfInBounds_ne hne]

theorem vcI_of_evM {ai : AI} (hm : isCore ai.kind = false) {tm : Tm} {s : St} {d : D} (h : evM ai tm s = some d) : vcI P [ai] (fun a b => a = tm.put ai.dst d ∧ b = s) tm s := by
  cases ai with
  | op dst g o =>
    have hko := kind_op hm
    have key : ∀ {d}, (evalO o tm s).map (·.1) = some d → evalO o tm s = some (d, s) := by
      intro d h
      cases he : evalO o tm s with
      | none => rw [he] at h; cases h
      | some p =>
        obtain ⟨d', s'⟩ := p
        rw [he] at h
        simp only [Option.map_some, Option.some.injEq] at h
        subst h
        rw [evalO_still (by rw [← hko]; exact hm) he]
    simp only [vcI, AI.dst]
    cases g with
    | none =>
      simp only [evM] at h
      simp only [guarded, key h, and_self]
    | some p =>
      obtain ⟨t, want⟩ := p
      simp only [evM] at h
      simp only [guarded]
      split at h
      · rename_i b hb
        simp only [hb]
        split at h
        · rename_i heq
          refine ⟨fun _ => by simp only [key h, and_self], fun hne => ?_⟩
          subst heq
          cases b <;> cases hne
        · rename_i hne
          cases h
          exact ⟨fun heq => (hne heq).elim, fun _ => by simp⟩
      · rename_i ds hb
        cases h
        simp only [hb, and_self]
      · cases h
  | call dst g f xs => cases hm
  | nil dst g n x => cases hm

theorem guarded_mono {g : Option (Nat × Bool)} {tm : Tm} {A A' C C' : Prop} (ha : A → A') (hc : C → C') (hh : guarded g tm A C) : guarded g tm A' C' := by
  cases g with
  | none => exact ha hh
  | some p =>
    obtain ⟨t, want⟩ := p
    unfold guarded at *
    simp only at *
    split
    · rename_i b hb; rw [hb] at hh; exact ⟨fun e => ha (hh.1 e), fun e => hc (hh.2 e)⟩
    · rename_i hb; rw [hb] at hh; exact hc hh
    · rename_i x h1 h2
      split at hh
      · exact h1 _ ‹_›
      · exact h2 _ ‹_›
      · exact hh

theorem vcI_of_stepC {ai : AI} {tm : Tm} {s s1 : St} {d : D} (h : stepC P ai tm s d s1) : vcI P [ai] (fun a b => a = tm.put ai.dst d ∧ b = s1) tm s := by
  cases ai with
  | op dst g o =>
    refine guarded_mono (fun e => ?_) (fun e => ?_) h
    · rw [e]; exact ⟨rfl, rfl⟩
    · obtain ⟨rfl, rfl⟩ := e; exact ⟨rfl, rfl⟩
  | call dst g f xs =>
    refine guarded_mono (fun e => ?_) (fun e => ?_) h
    · exact e.mono fun x y hxy => by obtain ⟨rfl, rfl⟩ := hxy; exact ⟨rfl, rfl⟩
    · obtain ⟨rfl, rfl⟩ := e; exact ⟨rfl, rfl⟩
  | nil dst g n x => exact h.elim

end
end Go.Abs
