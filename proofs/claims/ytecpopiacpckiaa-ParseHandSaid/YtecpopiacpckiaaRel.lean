/-
  What is proved here: how the relation between abstract states and worlds goes on when memory is made, written, or drawn.
  No conditions.
-/
import Derived.Test.YtecpopiacpckiaaLang
namespace Go.Abs

theorem cell?_row {w : World} {b : Nat} {vs : Array Value} {T : TypeId} {fr : Nat × Nat} (h : w.heap[b]? = some (.cells vs T fr)) (o : Nat) : w.cell? ⟨b, o, none⟩ = vs[o]? := by
  simp [World.cell?, h]

theorem lt_of_heap {w : World} {b : Nat} {o : Obj} (h : w.heap[b]? = some o) : b < w.heap.size := (Array.getElem?_eq_some_iff.1 h).1

section
variable {M : Map} {s : St} {w : World}

theorem Rel.G_lt (r : Rel M s w) {b o : Nat} {v : Value} (h : M.G b o = some v) : b < w.heap.size := World.block_lt_of_cell? w _ (r.comm b o v h).1

theorem Rel.G_new (r : Rel M s w) {b : Nat} (h : w.heap.size ≤ b) (o : Nat) : M.G b o = none := by
  cases e : M.G b o with
  | none => rfl
  | some v => have := r.G_lt e; omega

theorem Rel.mu_lt (r : Rel M s w) {o : Nat} (h : o < s.objs.length) : M.mu o < w.heap.size := by
  obtain ⟨vs, T, hh, _⟩ := r.obj o _ (List.getElem?_eq_getElem h)
  exact lt_of_heap hh

theorem Rel.be_lt (r : Rel M s w) {t b c z : Nat} (h : s.live t) (e : M.be t = some (b, c, z)) : b < w.heap.size := by
  obtain ⟨n, hn⟩ := h
  rcases r.tok t n hn with ⟨h1, _⟩ | ⟨b', cap, size, vs, T, h1, h2, _⟩
  · rw [e] at h1; cases h1
  · rw [e] at h1; cases h1; exact lt_of_heap h2

/-- Worlds that differ in what the relation does not look at. -/
theorem Rel.of_heap (r : Rel M s w) {w' : World} (h : w'.heap = w.heap) : Rel M s w' := by
  refine ⟨fun b o v e => ?_, fun o ds e => ?_, r.objG, r.inj, fun t n e => ?_, r.tokObj, r.tokInj⟩
  · obtain ⟨h1, h2⟩ := r.comm b o v e
    refine ⟨?_, h2⟩
    rw [← h1]; simp [World.cell?, h]
  · rw [h]; exact r.obj o ds e
  · rw [h]; exact r.tok t n e

theorem Ext.of_heap {w' : World} (h : w'.heap = w.heap) (h1 : w'.os = w.os) (h2 : w'.tape = w.tape) (h3 : w'.output = w.output) : Ext M s w M s w' :=
  ⟨Le.refl M s, fun _ _ _ _ => by rw [h], fun o h h' => by omega, fun t b c z h e => .inl ⟨h, c, z, e⟩, fun _ _ h => (h rfl).elim, by rw [h]; exact Nat.le_refl _, h1, h2, h3⟩

/-! ### A new object -/

def Map.pushO (M : Map) (n b : Nat) : Map := { M with mu := fun o => if o = n then b else M.mu o }

theorem le_pushO (s : St) (b : Nat) (ds : List D) : Le M s (M.pushO s.objs.length b) { s with objs := s.objs ++ [ds] } :=
  ⟨fun _ _ _ h => h, by simp, fun o ho => by simp [Map.pushO]; omega, Nat.le_refl _, fun t n _ h => ⟨n, h, Nat.le_refl _, fun _ => rfl⟩⟩

theorem heap_alloc_cases (w : World) (x : Obj) {b : Nat} {o : Obj} (h : (w.alloc x).heap[b]? = some o) : (b = w.heap.size ∧ o = x) ∨ (b < w.heap.size ∧ w.heap[b]? = some o) := by
  have hb := lt_of_heap h
  simp at hb
  rcases Nat.lt_or_ge b w.heap.size with h1 | h1
  · rw [heap_alloc_old w x b h1] at h; exact .inr ⟨h1, h⟩
  · have : b = w.heap.size := by omega
    subst this
    rw [heap_alloc_new] at h
    cases h; exact .inl ⟨rfl, rfl⟩

theorem Rel.pushO (r : Rel M s w) (ds : List D) (vs : Array Value) (T : TypeId) (hl : vs.size = ds.length) (h1 : ∀ v ∈ vs, v.oneCell' = true)
    (h2 : ∀ (i : Nat) (d : D) (v : Value), ds[i]? = some d → vs[i]? = some v → RD M s d v) :
    Rel (M.pushO s.objs.length w.heap.size) { s with objs := s.objs ++ [ds] } (w.alloc (.cells vs T)) ∧
    Ext M s w (M.pushO s.objs.length w.heap.size) { s with objs := s.objs ++ [ds] } (w.alloc (.cells vs T)) := by
  have le := le_pushO (M := M) s w.heap.size ds
  have hmu : ∀ o, o < s.objs.length → (M.pushO s.objs.length w.heap.size).mu o = M.mu o := le.mu
  have hnew : (M.pushO s.objs.length w.heap.size).mu s.objs.length = w.heap.size := by simp [Map.pushO]
  refine ⟨⟨fun b o v e => ?_, fun o ds' e => ?_, fun o ho off => ?_, fun o o' ho ho' e => ?_, fun t n e => ?_, fun t b c z o hl e ho => ?_, fun t t' b c z c' z' h h' e e' => r.tokInj t t' b c z c' z' h h' e e'⟩, ?_⟩
  · obtain ⟨h3, h4⟩ := r.comm b o v e
    refine ⟨?_, h4⟩
    rw [World.cell?_alloc_lt]
    · exact h3
    · exact r.G_lt e
  · rcases Nat.lt_or_ge o s.objs.length with ho | ho
    · rw [List.getElem?_append_left ho] at e
      obtain ⟨vs', T', h3, h4, h5, h6⟩ := r.obj o ds' e
      refine ⟨vs', T', ?_, h4, h5, fun i d v e1 e2 => (h6 i d v e1 e2).mono le⟩
      rw [hmu o ho, heap_alloc_old w _ _ (lt_of_heap h3)]; exact h3
    · rw [List.getElem?_append_right ho] at e
      have : o = s.objs.length := by
        have := (List.getElem?_eq_some_iff.1 e).1
        simp at this; omega
      subst this
      simp at e; subst e
      refine ⟨vs, T, ?_, hl, h1, fun i d v e1 e2 => (h2 i d v e1 e2).mono le⟩
      rw [hnew, heap_alloc_new]
  · simp at ho
    rcases Nat.lt_or_ge o s.objs.length with h3 | h3
    · rw [hmu o h3]; exact r.objG o h3 off
    · have : o = s.objs.length := by omega
      subst this
      rw [hnew]; exact r.G_new (Nat.le_refl _) off
  · simp at ho ho'
    rcases Nat.lt_or_ge o s.objs.length with h3 | h3 <;> rcases Nat.lt_or_ge o' s.objs.length with h4 | h4
    · rw [hmu o h3, hmu o' h4] at e; exact r.inj o o' h3 h4 e
    · have : o' = s.objs.length := by omega
      subst this
      rw [hmu o h3, hnew] at e
      have := r.mu_lt h3; omega
    · have : o = s.objs.length := by omega
      subst this
      rw [hmu o' h4, hnew] at e
      have := r.mu_lt h4; omega
    · omega
  · rcases r.tok t n e with h3 | ⟨b, cap, size, vs', T', h3, h4, h5⟩
    · exact .inl h3
    · exact .inr ⟨b, cap, size, vs', T', h3, by rw [heap_alloc_old w _ _ (lt_of_heap h4)]; exact h4, h5⟩
  · simp at ho
    rcases Nat.lt_or_ge o s.objs.length with h3 | h3
    · rw [hmu o h3]; exact r.tokObj t b c z o hl e h3
    · have : o = s.objs.length := by omega
      subst this
      rw [hnew]
      have := r.be_lt hl e; omega
  · refine ⟨le, fun b hb _ _ => heap_alloc_old w _ b hb, fun o h3 h4 => ?_, fun t b c z h e => .inl ⟨h, c, z, e⟩, fun _ _ h => (h rfl).elim, by simp, rfl, rfl, rfl⟩
    simp at h4
    have : o = s.objs.length := by omega
    subst this
    rw [hnew]; exact Nat.le_refl _

/-! ### A store into an object -/

theorem getElem?_splice (cs : List D) (off : Nat) (r : List D) (h : off + r.length ≤ cs.length) (i : Nat) :
    (splice cs off r)[i]? = if i < off then cs[i]? else if i < off + r.length then r[i - off]? else cs[i]? := by
  unfold splice
  have hl : (cs.take off).length = off := by simp; omega
  split
  · rename_i h1
    rw [List.append_assoc, List.getElem?_append_left (by omega), List.getElem?_take_of_lt h1]
  · rename_i h1
    rw [List.append_assoc, List.getElem?_append_right (by omega), hl]
    split
    · rename_i h2
      rw [List.getElem?_append_left (by omega)]
    · rename_i h2
      rw [List.getElem?_append_right (by omega), List.getElem?_drop]
      congr 1; omega

theorem length_splice (cs : List D) (off : Nat) (r : List D) (h : off + r.length ≤ cs.length) : (splice cs off r).length = cs.length := by
  unfold splice; simp; omega

theorem Rel.setO (P : Program) (r : Rel M s w) {o off : Nat} {cs : List D} (he : s.objs[o]? = some cs) (row : List D) (us : List Value) (hu : us.length = row.length) (hfit : off + row.length ≤ cs.length)
    (h1 : ∀ u ∈ us, u.oneCell' = true) (h2 : ∀ (i : Nat) (d : D) (v : Value), row[i]? = some d → us[i]? = some v → RD M s d v) :
    ∃ w', (storeCells (⟨M.mu o, off, none⟩ : Addr) us).run P w = .ok () w' ∧ Rel M { s with objs := s.objs.set o (splice cs off row) } w' ∧ Ext M s w M { s with objs := s.objs.set o (splice cs off row) } w' := by
  obtain ⟨vs, T, hh, hs, hone, hrd⟩ := r.obj o cs he
  have ho : o < s.objs.length := (List.getElem?_eq_some_iff.1 he).1
  have hst := run_storeCells_at P (M.mu o) off T us 0 vs w hh (by omega) h1
  simp only [Nat.add_zero] at hst
  have le : Le M s M { s with objs := s.objs.set o (splice cs off row) } :=
    ⟨fun _ _ _ h => h, by simp, fun _ _ => rfl, Nat.le_refl _, fun t n _ h => ⟨n, h, Nat.le_refl _, fun _ => rfl⟩⟩
  generalize hnew : (vs.toList.take off ++ us ++ vs.toList.drop (off + us.length)).toArray = nvs at hst
  have hnsz : nvs.size = vs.size := by rw [← hnew]; simp; omega
  have hget : ∀ i, nvs[i]? = if i < off then vs[i]? else if i < off + row.length then us[i - off]? else vs[i]? := by
    intro i
    rw [← hnew]
    simp only [List.getElem?_toArray]
    have hl : (vs.toList.take off).length = off := by simp; omega
    split
    · rename_i h3
      rw [List.append_assoc, List.getElem?_append_left (by omega), List.getElem?_take_of_lt h3]; simp
    · rename_i h3
      rw [List.append_assoc, List.getElem?_append_right (by omega), hl]
      split
      · rename_i h4
        rw [List.getElem?_append_left (by omega)]
      · rename_i h4
        rw [List.getElem?_append_right (by omega), List.getElem?_drop]
        rw [show off + us.length + (i - off - us.length) = i by omega]; simp
  have hheap : ∀ b, b ≠ M.mu o → (w.setRow (M.mu o) nvs).heap[b]? = w.heap[b]? := fun b hb => setRow_other w (M.mu o) b _ hb
  refine ⟨_, hst, ⟨fun b q v e => ?_, fun o' ds e => ?_, fun q hq off' => r.objG q (by simpa using hq) off', fun q q' hq hq' e => r.inj q q' (by simpa using hq) (by simpa using hq') e, fun t n e => ?_,
    fun t b c z q hl e hq => r.tokObj t b c z q hl e (by simpa using hq), fun t t' b c z c' z' h h' e e' => r.tokInj t t' b c z c' z' h h' e e'⟩, ?_⟩
  · obtain ⟨h3, h4⟩ := r.comm b q v e
    refine ⟨?_, h4⟩
    have hb : b ≠ M.mu o := fun eq => by subst eq; rw [r.objG o ho q] at e; cases e
    rw [← h3]
    simp [World.cell?, hheap b hb]
  · rw [List.getElem?_set] at e
    split at e
    · rename_i heq
      subst heq
      simp at e
      obtain ⟨_, rfl⟩ := e
      refine ⟨nvs, T, setRow_heap w (M.mu o) vs nvs T (0, 0) hh, by rw [hnsz, hs, length_splice cs off row hfit], fun v hv => ?_, fun i d v e1 e2 => ?_⟩
      · rw [← hnew] at hv
        simp at hv
        rcases hv with hv | hv | hv
        · exact hone v (Array.mem_toList_iff.1 (List.mem_of_mem_take hv))
        · exact h1 v hv
        · exact hone v (Array.mem_toList_iff.1 (List.mem_of_mem_drop hv))
      · rw [getElem?_splice cs off row hfit] at e1
        rw [hget] at e2
        split at e1
        · rename_i h3; simp only [h3, if_true] at e2; exact (hrd i d v e1 e2).mono le
        · rename_i h3
          simp only [h3, if_false] at e2
          split at e1
          · rename_i h4; simp only [h4, if_true] at e2; exact (h2 _ d v e1 e2).mono le
          · rename_i h4; simp only [h4, if_false] at e2; exact (hrd i d v e1 e2).mono le
    · rename_i hne
      obtain ⟨vs', T', h3, h4, h5, h6⟩ := r.obj o' ds e
      have ho' : o' < s.objs.length := (List.getElem?_eq_some_iff.1 e).1
      refine ⟨vs', T', ?_, h4, h5, fun i d v e1 e2 => (h6 i d v e1 e2).mono le⟩
      rw [hheap _ (fun eq => hne (r.inj o o' ho ho' eq.symm))]; exact h3
  · rcases r.tok t n e with h3 | ⟨b, cap, size, vs', T', h3, h4, h5⟩
    · exact .inl h3
    · refine .inr ⟨b, cap, size, vs', T', h3, ?_, h5⟩
      rw [hheap b (fun eq => r.tokObj t b cap size o ⟨n, e⟩ h3 ho eq.symm)]; exact h4
  · refine ⟨le, fun b hb h3 _ => hheap b (fun eq => h3 o ho eq.symm), fun q h3 h4 => ?_, fun t b c z h e => .inl ⟨h, c, z, e⟩, fun _ _ h => (h rfl).elim, by simp, rfl, rfl, rfl⟩
    simp at h4; omega

/-! ### A new row, some of whose cells are fixed for good -/

def Map.commit (M : Map) (b n : Nat) (vs : Array Value) : Map := { M with G := fun b' o => if b' = b then (if o < n then vs[o]? else none) else M.G b' o }

theorem le_commit (r : Rel M s w) (n : Nat) (vs : Array Value) : Le M s (M.commit w.heap.size n vs) s :=
  ⟨fun b o v h => by
    have hb : b ≠ w.heap.size := fun e => by have := r.G_lt h; omega
    simp [Map.commit, hb, h], Nat.le_refl _, fun _ _ => rfl, Nat.le_refl _, fun t n _ h => ⟨n, h, Nat.le_refl _, fun _ => rfl⟩⟩

theorem Rel.commit (r : Rel M s w) (n : Nat) (vs : Array Value) (T : TypeId) (fr : Nat × Nat) (h1 : ∀ v ∈ vs, v.oneCell' = true) :
    Rel (M.commit w.heap.size n vs) s (w.alloc (.cells vs T fr)) ∧ Ext M s w (M.commit w.heap.size n vs) s (w.alloc (.cells vs T fr)) := by
  have le := le_commit r n vs
  have hold : ∀ b, b < w.heap.size → ∀ o, (M.commit w.heap.size n vs).G b o = M.G b o := fun b hb o => by
    have : b ≠ w.heap.size := by omega
    simp [Map.commit, this]
  refine ⟨⟨fun b o v e => ?_, fun o ds e => ?_, fun o ho off => ?_, r.inj, fun t k e => ?_, r.tokObj, r.tokInj⟩, ?_⟩
  · by_cases hb : b = w.heap.size
    · subst hb
      simp [Map.commit] at e
      obtain ⟨_, e⟩ := e
      refine ⟨by rw [cell?_row (heap_alloc_new w _)]; exact e, h1 v (Array.mem_of_getElem? e)⟩
    · simp [Map.commit, hb] at e
      obtain ⟨h3, h4⟩ := r.comm b o v e
      refine ⟨?_, h4⟩
      rw [World.cell?_alloc_lt]
      · exact h3
      · exact r.G_lt e
  · obtain ⟨vs', T', h3, h4, h5, h6⟩ := r.obj o ds e
    exact ⟨vs', T', by show (w.alloc _).heap[M.mu o]? = _; rw [heap_alloc_old w _ _ (lt_of_heap h3)]; exact h3, h4, h5, fun i d v e1 e2 => (h6 i d v e1 e2).mono le⟩
  · rw [hold]
    · exact r.objG o ho off
    · exact r.mu_lt ho
  · rcases r.tok t k e with h3 | ⟨b, cap, size, vs', T', h3, h4, h5, h6, h7⟩
    · exact .inl h3
    · exact .inr ⟨b, cap, size, vs', T', h3, by rw [heap_alloc_old w _ _ (lt_of_heap h4)]; exact h4, h5, h6, fun off ho => by rw [hold b (lt_of_heap h4)]; exact h7 off ho⟩
  · refine ⟨le, fun b hb _ _ => heap_alloc_old w _ b hb, fun o h3 h4 => by omega, fun t b c z h e => .inl ⟨h, c, z, e⟩, fun b o h => ?_, by simp, rfl, rfl, rfl⟩
    rcases Nat.lt_or_ge b w.heap.size with hb | hb
    · exact (h (hold b hb o)).elim
    · exact .inl hb

/-! ### Tokens -/

def Map.setT (M : Map) (t : Nat) (x : Option (Nat × Nat × Nat)) : Map := { M with be := fun t' => if t' = t then x else M.be t' }

/-- A new token for a row that nothing else lies in. -/
theorem Rel.pushT (r : Rel M s w) (n b cap size : Nat) (vs : Array Value) (T : TypeId) (hb : w.heap[b]? = some (.cells vs T (0, 0))) (hsz : vs.size = cap * size) (hn : n ≤ cap)
    (hG : ∀ off, n * size ≤ off → M.G b off = none) (ho : ∀ o, o < s.objs.length → M.mu o ≠ b) (ht : ∀ t c z, s.live t → M.be t ≠ some (b, c, z)) :
    Rel (M.setT s.toks.length (some (b, cap, size))) { s with toks := s.toks ++ [some n] } w ∧ Le M s (M.setT s.toks.length (some (b, cap, size))) { s with toks := s.toks ++ [some n] } := by
  have hlive : ∀ t, St.live { s with toks := s.toks ++ [some n] } t → s.live t ∨ t = s.toks.length := by
    rintro t ⟨k, hk⟩
    rcases Nat.lt_or_ge t s.toks.length with h | h
    · rw [List.getElem?_append_left h] at hk; exact .inl ⟨k, hk⟩
    · have := (List.getElem?_eq_some_iff.1 hk).1
      simp at this; exact .inr (by omega)
  have hlt : ∀ t, s.live t → t < s.toks.length := fun t ⟨k, hk⟩ => (List.getElem?_eq_some_iff.1 hk).1
  have hold : ∀ t, t < s.toks.length → (M.setT s.toks.length (some (b, cap, size))).be t = M.be t := fun t h => by simp [Map.setT]; omega
  have hnew : (M.setT s.toks.length (some (b, cap, size))).be s.toks.length = some (b, cap, size) := by simp [Map.setT]
  have le : Le M s (M.setT s.toks.length (some (b, cap, size))) { s with toks := s.toks ++ [some n] } :=
    ⟨fun _ _ _ h => h, Nat.le_refl _, fun _ _ => rfl, by simp, fun t k h e => by
      rw [List.getElem?_append_left h] at e
      exact ⟨k, e, Nat.le_refl _, fun _ => hold t h⟩⟩
  refine ⟨⟨r.comm, fun o ds e => ?_, r.objG, r.inj, fun t k e => ?_, fun t b' c z o hl e ho' => ?_, fun t t' b' c z c' z' h h' e e' => ?_⟩, le⟩
  · obtain ⟨vs', T', h3, h4, h5, h6⟩ := r.obj o ds e
    exact ⟨vs', T', h3, h4, h5, fun i d v e1 e2 => (h6 i d v e1 e2).mono le⟩
  · rcases Nat.lt_or_ge t s.toks.length with h | h
    · rw [List.getElem?_append_left h] at e
      rw [hold t h]; exact r.tok t k e
    · have := (List.getElem?_eq_some_iff.1 e).1
      simp at this
      have : t = s.toks.length := by omega
      subst this
      simp at e; subst e
      exact .inr ⟨b, cap, size, vs, T, hnew, hb, hsz, hn, hG⟩
  · rcases hlive t hl with h | h
    · rw [hold t (hlt t h)] at e; exact r.tokObj t b' c z o h e ho'
    · subst h; rw [hnew] at e; cases e; exact ho o ho'
  · rcases hlive t h with h | h <;> rcases hlive t' h' with h' | h'
    · rw [hold t (hlt t h)] at e; rw [hold t' (hlt t' h')] at e'; exact r.tokInj t t' b' c z c' z' h h' e e'
    · subst h'; rw [hnew] at e'; cases e'; rw [hold t (hlt t h)] at e; exact (ht t c z h e).elim
    · subst h; rw [hnew] at e; cases e; rw [hold t' (hlt t' h')] at e'; exact (ht t' c' z' h' e').elim
    · omega

/-- A token's row has been laid anew, further on. -/
theorem Rel.moveT (r : Rel M s w) (t n n' b cap size : Nat) (vs : Array Value) (T : TypeId) (ht0 : s.toks[t]? = some (some n)) (hnn : n < n') (hb : w.heap[b]? = some (.cells vs T (0, 0))) (hsz : vs.size = cap * size) (hn : n' ≤ cap)
    (hG : ∀ off, n' * size ≤ off → M.G b off = none) (ho : ∀ o, o < s.objs.length → M.mu o ≠ b) (ht : ∀ t c z, s.live t → M.be t ≠ some (b, c, z)) :
    Rel (M.setT t (some (b, cap, size))) { s with toks := s.toks.set t (some n') } w ∧ Le M s (M.setT t (some (b, cap, size))) { s with toks := s.toks.set t (some n') } := by
  have htl : t < s.toks.length := (List.getElem?_eq_some_iff.1 ht0).1
  have hlive : ∀ q, St.live { s with toks := s.toks.set t (some n') } q → s.live q := by
    rintro q ⟨k, hk⟩
    rw [List.getElem?_set] at hk
    split at hk
    · rename_i h; subst h; exact ⟨n, ht0⟩
    · exact ⟨k, hk⟩
  have hold : ∀ q, q ≠ t → (M.setT t (some (b, cap, size))).be q = M.be q := fun q h => by simp [Map.setT, h]
  have hnew : (M.setT t (some (b, cap, size))).be t = some (b, cap, size) := by simp [Map.setT]
  have le : Le M s (M.setT t (some (b, cap, size))) { s with toks := s.toks.set t (some n') } :=
    ⟨fun _ _ _ h => h, Nat.le_refl _, fun _ _ => rfl, by simp, fun q k h e => by
      rw [List.getElem?_set] at e
      split at e
      · rename_i h2; subst h2
        simp at e; subst e
        exact ⟨n, ht0, by omega, fun h => by omega⟩
      · rename_i h2
        exact ⟨k, e, Nat.le_refl _, fun _ => hold q (fun h => h2 h.symm)⟩⟩
  refine ⟨⟨r.comm, fun o ds e => ?_, r.objG, r.inj, fun q k e => ?_, fun q b' c z o hl e ho' => ?_, fun q q' b' c z c' z' h h' e e' => ?_⟩, le⟩
  · obtain ⟨vs', T', h3, h4, h5, h6⟩ := r.obj o ds e
    exact ⟨vs', T', h3, h4, h5, fun i d v e1 e2 => (h6 i d v e1 e2).mono le⟩
  · rw [List.getElem?_set] at e
    split at e
    · rename_i h2; subst h2
      simp at e; subst e
      exact .inr ⟨b, cap, size, vs, T, hnew, hb, hsz, hn, hG⟩
    · rename_i h2
      rw [hold q (fun h => h2 h.symm)]; exact r.tok q k e
  · by_cases h : q = t
    · subst h; rw [hnew] at e; cases e; exact ho o ho'
    · rw [hold q h] at e; exact r.tokObj q b' c z o (hlive q hl) e ho'
  · by_cases h1 : q = t <;> by_cases h2 : q' = t
    · omega
    · subst h1; rw [hnew] at e; cases e; rw [hold q' h2] at e'; exact (ht q' c' z' (hlive q' h') e').elim
    · subst h2; rw [hnew] at e'; cases e'; rw [hold q h1] at e; exact (ht q c z (hlive q h) e).elim
    · rw [hold q h1] at e; rw [hold q' h2] at e'; exact r.tokInj q q' b' c z c' z' (hlive q h) (hlive q' h') e e'

def Map.fix (M : Map) (b lo : Nat) (us : List Value) : Map :=
  { M with G := fun b' o => if b' = b ∧ lo ≤ o ∧ o < lo + us.length then us[o - lo]? else M.G b' o }

/-- Cells behind what a token's row has so far are written, and fixed. -/
theorem Rel.growT (r : Rel M s w) (t n m b cap size : Nat) (us : List Value) (ht0 : s.toks[t]? = some (some n)) (hbe : M.be t = some (b, cap, size)) (hus : us.length = m * size) (hroom : n + m ≤ cap) (hm : 0 < m)
    (h1 : ∀ u ∈ us, u.oneCell' = true) (vs : Array Value) (T : TypeId) (hh : w.heap[b]? = some (.cells vs T (0, 0))) (hsz : vs.size = cap * size) :
    Rel (M.fix b (n * size) us) { s with toks := s.toks.set t (some (n + m)) } (w.setRow b (vs.toList.take (n * size) ++ us ++ vs.toList.drop (n * size + us.length)).toArray) ∧
    Ext M s w (M.fix b (n * size) us) { s with toks := s.toks.set t (some (n + m)) } (w.setRow b (vs.toList.take (n * size) ++ us ++ vs.toList.drop (n * size + us.length)).toArray) := by
  have htl : t < s.toks.length := (List.getElem?_eq_some_iff.1 ht0).1
  have hlive0 : s.live t := ⟨n, ht0⟩
  have hfree : ∀ off, n * size ≤ off → M.G b off = none := by
    rcases r.tok t n ht0 with ⟨h3, _⟩ | ⟨b', cap', size', vs', T', h3, h4, h5, h6, h7⟩
    · rw [hbe] at h3; cases h3
    · rw [hbe] at h3; cases h3; exact h7
  have hfit : n * size + us.length ≤ vs.size := by rw [hus, hsz, ← Nat.add_mul]; exact Nat.mul_le_mul_right _ hroom
  have hlive : ∀ q, St.live { s with toks := s.toks.set t (some (n + m)) } q → s.live q := by
    rintro q ⟨k, hk⟩
    rw [List.getElem?_set] at hk
    split at hk
    · rename_i h; subst h; exact hlive0
    · exact ⟨k, hk⟩
  generalize hnew : (vs.toList.take (n * size) ++ us ++ vs.toList.drop (n * size + us.length)).toArray = nvs
  have hnsz : nvs.size = vs.size := by rw [← hnew]; simp; omega
  have hget : ∀ i, nvs[i]? = if i < n * size then vs[i]? else if i < n * size + us.length then us[i - n * size]? else vs[i]? := by
    intro i
    rw [← hnew]
    simp only [List.getElem?_toArray]
    have hl : (vs.toList.take (n * size)).length = n * size := by simp; omega
    split
    · rename_i h3
      rw [List.append_assoc, List.getElem?_append_left (by omega), List.getElem?_take_of_lt h3]; simp
    · rename_i h3
      rw [List.append_assoc, List.getElem?_append_right (by omega), hl]
      split
      · rename_i h4
        rw [List.getElem?_append_left (by omega)]
      · rename_i h4
        rw [List.getElem?_append_right (by omega), List.getElem?_drop]
        rw [show n * size + us.length + (i - n * size - us.length) = i by omega]; simp
  have hrow : (w.setRow b nvs).heap[b]? = some (.cells nvs T (0, 0)) := setRow_heap w b vs nvs T (0, 0) hh
  have hheap : ∀ q, q ≠ b → (w.setRow b nvs).heap[q]? = w.heap[q]? := fun q hq => setRow_other w b q _ hq
  have le : Le M s (M.fix b (n * size) us) { s with toks := s.toks.set t (some (n + m)) } := by
    refine ⟨fun b' o v h => ?_, Nat.le_refl _, fun _ _ => rfl, by simp, fun q k h e => ?_⟩
    · show (if b' = b ∧ n * size ≤ o ∧ o < n * size + us.length then us[o - n * size]? else M.G b' o) = some v
      rw [if_neg]
      · exact h
      · rintro ⟨rfl, h3, _⟩; rw [hfree o h3] at h; cases h
    · rw [List.getElem?_set] at e
      split at e
      · rename_i h2; subst h2
        simp at e; subst e
        exact ⟨n, ht0, by omega, fun h => by omega⟩
      · exact ⟨k, e, Nat.le_refl _, fun _ => rfl⟩
  have hother : ∀ b' o, b' ≠ b → (M.fix b (n * size) us).G b' o = M.G b' o := fun b' o h => by simp [Map.fix, h]
  refine ⟨⟨fun b' o v e => ?_, fun o ds e => ?_, fun o ho off => ?_, r.inj, fun q k e => ?_, fun q b' c z o hl e ho' => r.tokObj q b' c z o (hlive q hl) e ho',
    fun q q' b' c z c' z' h h' e e' => r.tokInj q q' b' c z c' z' (hlive q h) (hlive q' h') e e'⟩, ?_⟩
  · by_cases hb : b' = b
    · subst hb
      rw [cell?_row hrow, hget]
      have e' : (if b' = b' ∧ n * size ≤ o ∧ o < n * size + us.length then us[o - n * size]? else M.G b' o) = some v := e
      by_cases h3 : n * size ≤ o
      · by_cases h4 : o < n * size + us.length
        · rw [if_pos ⟨rfl, h3, h4⟩] at e'
          rw [if_neg (by omega), if_pos h4]
          exact ⟨e', h1 v (List.mem_of_getElem? e')⟩
        · rw [if_neg (fun h => h4 h.2.2), hfree o h3] at e'; cases e'
      · rw [if_neg (fun h => h3 h.2.1)] at e'
        obtain ⟨h5, h6⟩ := r.comm b' o v e'
        rw [cell?_row hh] at h5
        rw [if_pos (by omega)]
        exact ⟨h5, h6⟩
    · rw [hother b' o hb] at e
      obtain ⟨h5, h6⟩ := r.comm b' o v e
      refine ⟨?_, h6⟩
      rw [← h5]
      simp [World.cell?, hheap b' hb]
  · obtain ⟨vs', T', h3, h4, h5, h6⟩ := r.obj o ds e
    have ho : o < s.objs.length := (List.getElem?_eq_some_iff.1 e).1
    refine ⟨vs', T', ?_, h4, h5, fun i d v e1 e2 => (h6 i d v e1 e2).mono le⟩
    show (w.setRow b nvs).heap[M.mu o]? = _
    rw [hheap _ (r.tokObj t b cap size o hlive0 hbe ho)]; exact h3
  · show (M.fix b (n * size) us).G (M.mu o) off = none
    rw [hother _ _ (r.tokObj t b cap size o hlive0 hbe ho)]; exact r.objG o ho off
  · rw [List.getElem?_set] at e
    split at e
    · rename_i h2; subst h2
      simp at e; subst e
      refine .inr ⟨b, cap, size, nvs, T, hbe, hrow, by rw [hnsz, hsz], hroom, fun off ho => ?_⟩
      show (if b = b ∧ n * size ≤ off ∧ off < n * size + us.length then us[off - n * size]? else M.G b off) = none
      rw [Nat.add_mul] at ho
      rw [if_neg (by rintro ⟨_, _, h⟩; omega)]
      exact hfree off (by omega)
    · rename_i h2
      rcases r.tok q k e with h3 | ⟨b', cap', size', vs', T', h3, h4, h5, h6, h7⟩
      · exact .inl h3
      · have hne : b' ≠ b := fun h => h2 (r.tokInj t q b cap size cap' size' hlive0 ⟨k, e⟩ hbe (by rw [h3, h]))
        exact .inr ⟨b', cap', size', vs', T', h3, by rw [hheap b' hne]; exact h4, h5, h6, fun off ho => by rw [hother b' off hne]; exact h7 off ho⟩
  · refine ⟨le, fun q _ _ h4 => hheap q (fun h => h4 t cap size hlive0 (by rw [hbe, h])), fun o h3 h4 => by simp at h4; omega, fun q b' c z h e => .inl ⟨hlive q h, c, z, e⟩, fun b' o h => ?_, by simp, rfl, rfl, rfl⟩
    by_cases hb : b' = b
    · exact .inr ⟨t, cap, size, hlive0, by rw [hbe, hb]⟩
    · exact (h (hother b' o hb)).elim

/-- A mark is laid on a block that holds no object and no live token. -/
theorem Rel.freeze (r : Rel M s w) {b : Nat} (off n : Nat) (ho : ∀ o, o < s.objs.length → M.mu o ≠ b) (ht : ∀ t c z, s.live t → M.be t ≠ some (b, c, z)) :
    Rel M s (w.freeze ⟨b, off, none⟩ n) ∧ (∀ q, q ≠ b → (w.freeze ⟨b, off, none⟩ n).heap[q]? = w.heap[q]?) ∧ (w.freeze ⟨b, off, none⟩ n).heap.size = w.heap.size ∧
    (w.freeze ⟨b, off, none⟩ n).os = w.os ∧ (w.freeze ⟨b, off, none⟩ n).tape = w.tape ∧ (w.freeze ⟨b, off, none⟩ n).output = w.output := by
  by_cases hn : n = 0
  · simp [World.freeze, hn, r]
  · have hh : ∀ q, q ≠ b → (w.freeze ⟨b, off, none⟩ n).heap[q]? = w.heap[q]? := fun q hq => by
      simp [World.freeze, hn, Array.getElem?_modify, Ne.symm hq]
    have hcell : ∀ q o, (w.freeze ⟨b, off, none⟩ n).cell? ⟨q, o, none⟩ = w.cell? ⟨q, o, none⟩ := by
      intro q o
      by_cases hq : q = b
      · subst hq
        unfold World.cell?
        simp only [World.freeze, hn, if_false, Array.getElem?_modify, if_true]
        cases h : w.heap[q]? with
        | none => rfl
        | some x => cases x <;> rfl
      · simp [World.cell?, hh q hq]
    refine ⟨⟨fun q o v e => ?_, fun o ds e => ?_, r.objG, r.inj, fun t k e => ?_, r.tokObj, r.tokInj⟩, hh, by simp [World.freeze, hn], by simp [World.freeze, hn], by simp [World.freeze, hn], by simp [World.freeze, hn]⟩
    · rw [hcell]; exact r.comm q o v e
    · rw [hh _ (ho o (List.getElem?_eq_some_iff.1 e).1)]; exact r.obj o ds e
    · rcases r.tok t k e with h3 | ⟨b', cap, size, vs, T, h3, h4, h5⟩
      · exact .inl h3
      · refine .inr ⟨b', cap, size, vs, T, h3, ?_, h5⟩
        rw [hh]
        · exact h4
        · rintro rfl; exact ht t cap size ⟨k, e⟩ h3

/-- A token is given up. -/
theorem Rel.dropT (r : Rel M s w) (t : Nat) : Rel M { s with toks := s.toks.set t none } w ∧ Le M s M { s with toks := s.toks.set t none } := by
  have hlive : ∀ q, St.live { s with toks := s.toks.set t none } q → s.live q := by
    rintro q ⟨k, hk⟩
    rw [List.getElem?_set] at hk
    split at hk
    · split at hk <;> simp at hk
    · exact ⟨k, hk⟩
  have htok : ∀ (q k : Nat), (s.toks.set t none)[q]? = some (some k) → s.toks[q]? = some (some k) := by
    intro q k e
    rw [List.getElem?_set] at e
    split at e
    · split at e <;> simp at e
    · exact e
  have le : Le M s M { s with toks := s.toks.set t none } :=
    ⟨fun _ _ _ h => h, Nat.le_refl _, fun _ _ => rfl, by simp, fun q k _ e => ⟨k, htok q k e, Nat.le_refl _, fun _ => rfl⟩⟩
  refine ⟨⟨r.comm, fun o ds e => ?_, r.objG, r.inj, fun q k e => r.tok q k (htok q k e), fun q b' c z o hl e ho' => r.tokObj q b' c z o (hlive q hl) e ho',
    fun q q' b' c z c' z' h h' e e' => r.tokInj q q' b' c z c' z' (hlive q h) (hlive q' h') e e'⟩, le⟩
  obtain ⟨vs', T', h3, h4, h5, h6⟩ := r.obj o ds e
  exact ⟨vs', T', h3, h4, h5, fun i d v e1 e2 => (h6 i d v e1 e2).mono le⟩

end
end Go.Abs
