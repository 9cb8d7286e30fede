/-
  What is proved here: one operation of a region is done; what an early allocation leaves.
  No conditions.
-/
import Derived.Test.YtecpopiacpckiaaPar
namespace Go.Abs

section
variable {P : Program}

theorem cOp_alloc {o : Oper} {z : List D} (h : cOp P o = some (.alloc z)) : ∃ t, o.op = .alloc t ∧ zeroOf P t = some z := by
  obtain ⟨dst, op, type, pos, after, guard⟩ := o
  unfold cOp at h
  simp only at h
  split at h
  case h_4 t => obtain ⟨z', h1, h2⟩ := map_some h; cases h2; exact ⟨t, rfl, h1⟩
  all_goals
    first
      | (rw [Option.map_eq_some_iff] at h; obtain ⟨_, _, h⟩ := h; cases h)
      | skip
  all_goals
    (repeat' (split at h)) <;> first | (cases h; done) | (rw [Option.map_eq_some_iff] at h; obtain ⟨_, _, h⟩ := h; cases h)

theorem cI_inv {nt : Nat} {ops : Array Oper} {o : Oper} {ai : AI} (h : cI P nt ops o = some ai) :
    ∃ g, cGuard ops o.guard = some g ∧ (∀ t, o.dst = some t → t < nt) ∧ cBody P ops o g = some ai := by
  have h2 := cI_dst h
  unfold cI at h
  split at h
  · cases h
  · rename_i g hg
    split at h
    · exact ⟨g, hg, h2, h⟩
    · cases h

theorem cBody_dst {ops : Array Oper} {o : Oper} {g : Option (Nat × Bool)} {ai : AI} (h : cBody P ops o g = some ai) : ai.dst = o.dst := by
  unfold cBody at h
  split at h
  · split at h
    · obtain ⟨xs, _, rfl⟩ := map_some h; rfl
    · cases h
  · split at h
    · cases h; rfl
    · split at h
      · cases h; rfl
      · cases h; rfl
      · cases h

theorem cI_dst_eq {nt : Nat} {ops : Array Oper} {o : Oper} {ai : AI} (h : cI P nt ops o = some ai) : ai.dst = o.dst := by
  obtain ⟨g, _, _, h⟩ := cI_inv h
  exact cBody_dst h

/-- One operation of a region. -/
theorem stepI_sound {nt : Nat} {ops : Array Oper} {i : Nat} {o : Oper} {ai : AI} (hi : ops[i]? = some o) (hc : cI P nt ops o = some ai)
    {M : Map} {s : St} {w : World} {tm : Tm} {act : Act} (r : Rel M s w) (ht : RTm M s tm act.tmps) {K' : Tm → St → Prop} (h : vcI P [ai] K' tm s)
    {K : Act → World → Prop} {Q : Exit → Act → World → Prop}
    (hK : ∀ d v s1 w1 M1, K' (tm.put ai.dst d) s1 → Ext M s w M1 s1 w1 → Rel M1 s1 w1 → RD M1 s1 d v → K (act.put o.dst v) w1) : wpOp P ops Q i K act w := by
  obtain ⟨g, hg, _, hb⟩ := cI_inv hc
  rw [cBody_dst hb] at hK
  simp only [wpOp, hi]
  have skip : K' (tm.put o.dst (.tuple [])) s → K (act.put o.dst Go.undef) w := fun hk => hK _ _ _ _ _ hk (Ext.refl M s w) r .undef
  unfold cBody at hb
  split at hb
  · rename_i f args ats hop
    split at hb
    · rename_i hent
      obtain ⟨xs, hxs, rfl⟩ := map_some hb
      simp only [vcI] at h
      rcases guard_sound hg ht h with ⟨hw, hA⟩ | ⟨hw, hB⟩
      · simp only [hw, if_true]
        left
        have hex : (execOp act.eval o).run P w = .ok (.enter f (args.map act.eval)) w := by
          obtain ⟨dst, op, type, pos, after, guard⟩ := o
          simp only at hop
          subst hop
          exact execOp_call act.eval dst f args ats type pos after guard rfl hent w
        obtain ⟨c1, c2⟩ := cXs_sound ht hxs
        unfold Oper.wp
        rw [hex, Oper.upon_enter]
        refine (hA M w (args.map act.eval) r (by simp [c1]) (fun i d v e1 e2 => c2 i d v e1 (by simpa using e2))).mono ?_
        rintro en w' ⟨M', d, v, s', rfl, hk, e', r', hv⟩
        exact hK _ _ _ _ _ hk e' r' hv
      · simp only [hw]
        exact skip hB
    · cases hb
  · split at hb
    · rename_i neg x hnil
      cases hb
      simp only [vcI] at h
      rcases guard_sound hg ht h with ⟨hw, hA⟩ | ⟨hw, hB⟩
      · simp only [hw, if_true]
        left
        split at hA
        · rename_i g' z rows hx
          obtain ⟨b, hb, hex⟩ := nilTest_sound (w := w) hnil ht hx
          unfold Oper.wp
          rw [hex, Oper.upon_value]
          exact hK _ _ _ _ _ (hA b hb) (Ext.refl M s w) r (.bool _)
        · exact hA.elim
      · simp only [hw]
        exact skip hB
    · have fin : ∀ ao, ai = .op o.dst g ao → (∀ d s', evalO ao tm s = some (d, s') → Does P M s w (execOp act.eval o) d s') →
          (if Region.wanted o (yielded ops act.tmps) = true then o.wp P act w K Q ∨ (o.asks P act w ∧ LetsOut Q) else K (act.put o.dst Go.undef) w) := by
        intro ao hai hdo
        subst hai
        simp only [vcI] at h
        rcases guard_sound hg ht h with ⟨hw, hA⟩ | ⟨hw, hB⟩
        · simp only [hw, if_true]
          left
          split at hA
          · rename_i d s' hev
            obtain ⟨v, w', M', hrun, r', hv, e'⟩ := hdo d s' hev
            unfold Oper.wp
            rcases hrun with hrun | ⟨hrun, rfl⟩
            · rw [hrun, Oper.upon_value]
              exact hK _ _ _ _ _ hA e' r' hv
            · rw [hrun, Oper.upon_skip]
              exact hK _ _ _ _ _ hA e' r' hv
          · exact hA.elim
        · simp only [hw]
          exact skip hB
      split at hb
      · rename_i z k n ps hco
        cases hb
        refine fin _ rfl (fun d s' hev => ?_)
        split at hev
        · exact evalO_bslt hco r ht hev
        · exact evalO_sound hco r ht hev
      · rename_i ao hco
        cases hb
        exact fin _ rfl (fun d s' hev => evalO_sound hco r ht hev)
      · cases hb

/-! ### Early allocations -/

/-- A block that nothing here knows of. -/
structure Unk (M : Map) (s : St) (b : Nat) : Prop where
  o : ∀ o, o < s.objs.length → M.mu o ≠ b
  t : ∀ t c z, s.live t → M.be t ≠ some (b, c, z)
  g : ∀ off, M.G b off = none

theorem Unk.mono {M M' : Map} {s s' : St} {w w' : World} {b : Nat} (h : Unk M s b) (e : Ext M s w M' s' w') (hb : b < w.heap.size) : Unk M' s' b := by
  refine ⟨fun o ho => ?_, fun t c z hl he => ?_, fun off => ?_⟩
  · rcases Nat.lt_or_ge o s.objs.length with h1 | h1
    · rw [e.le.mu o h1]; exact h.o o h1
    · have := e.newO o h1 ho; omega
  · rcases e.newT t b c z hl he with ⟨h1, c', z', h2⟩ | h1
    · exact h.t t c' z' h1 h2
    · omega
  · by_cases hg : M'.G b off = M.G b off
    · rw [hg]; exact h.g off
    · rcases e.newG b off hg with h1 | ⟨t, c, z, h1, h2⟩
      · omega
      · exact (h.t t c z h1 h2).elim

theorem Rel.idle {M : Map} {s : St} {w : World} (r : Rel M s w) (x : Obj) : Rel M s (w.alloc x) ∧ Ext M s w M s (w.alloc x) ∧ Unk M s w.heap.size := by
  refine ⟨⟨fun b o v e => ?_, fun o ds e => ?_, r.objG, r.inj, fun t n e => ?_, r.tokObj, r.tokInj⟩, ?_, ⟨fun o ho => ?_, fun t c z hl e => ?_, fun off => r.G_new (Nat.le_refl _) off⟩⟩
  · obtain ⟨h3, h4⟩ := r.comm b o v e
    refine ⟨?_, h4⟩
    rw [World.cell?_alloc_lt]
    · exact h3
    · exact r.G_lt e
  · obtain ⟨vs, T, h3, h4, h5, h6⟩ := r.obj o ds e
    exact ⟨vs, T, by rw [heap_alloc_old w _ _ (lt_of_heap h3)]; exact h3, h4, h5, h6⟩
  · rcases r.tok t n e with h3 | ⟨b, cap, size, vs', T', h3, h4, h5⟩
    · exact .inl h3
    · exact .inr ⟨b, cap, size, vs', T', h3, by rw [heap_alloc_old w _ _ (lt_of_heap h4)]; exact h4, h5⟩
  · exact ⟨Le.refl M s, fun b hb _ _ => heap_alloc_old w _ b hb, fun o h3 h4 => by omega, fun t b c z h e => .inl ⟨h, c, z, e⟩, fun _ _ h => (h rfl).elim, by simp, rfl, rfl, rfl⟩
  · have := r.mu_lt ho; omega
  · have := r.be_lt hl e; omega

theorem Rel.adopt {M : Map} {s : St} {w : World} (r : Rel M s w) {B : Base} (e : Ext B.M B.s B.w M s w) {b : Nat} (u : Unk M s b) (hb : B.w.heap.size ≤ b)
    (ds : List D) (vs : Array Value) (T : TypeId) (hh : w.heap[b]? = some (.cells vs T (0, 0))) (hl : vs.size = ds.length) (h1 : ∀ v ∈ vs, v.oneCell' = true)
    (h2 : ∀ (i : Nat) (d : D) (v : Value), ds[i]? = some d → vs[i]? = some v → RD M s d v) :
    Rel (M.pushO s.objs.length b) { s with objs := s.objs ++ [ds] } w ∧ Ext B.M B.s B.w (M.pushO s.objs.length b) { s with objs := s.objs ++ [ds] } w ∧
    Le M s (M.pushO s.objs.length b) { s with objs := s.objs ++ [ds] } := by
  have le := le_pushO (M := M) s b ds
  have hmu : ∀ o, o < s.objs.length → (M.pushO s.objs.length b).mu o = M.mu o := le.mu
  have hnew : (M.pushO s.objs.length b).mu s.objs.length = b := by simp [Map.pushO]
  refine ⟨⟨r.comm, fun o ds' e' => ?_, fun o ho off => ?_, fun o o' ho ho' e' => ?_, r.tok, fun t b' c z o hl e' ho => ?_, r.tokInj⟩, ?_, le⟩
  · rcases Nat.lt_or_ge o s.objs.length with ho | ho
    · rw [List.getElem?_append_left ho] at e'
      obtain ⟨vs', T', h3, h4, h5, h6⟩ := r.obj o ds' e'
      refine ⟨vs', T', ?_, h4, h5, fun i d v e1 e2 => (h6 i d v e1 e2).mono le⟩
      rw [hmu o ho]; exact h3
    · rw [List.getElem?_append_right ho] at e'
      have : o = s.objs.length := by
        have := (List.getElem?_eq_some_iff.1 e').1
        simp at this; omega
      subst this
      simp at e'; subst e'
      refine ⟨vs, T, ?_, hl, h1, fun i d v e1 e2 => (h2 i d v e1 e2).mono le⟩
      rw [hnew]; exact hh
  · simp at ho
    rcases Nat.lt_or_ge o s.objs.length with h3 | h3
    · rw [hmu o h3]; exact r.objG o h3 off
    · have : o = s.objs.length := by omega
      subst this
      rw [hnew]; exact u.g off
  · simp at ho ho'
    rcases Nat.lt_or_ge o s.objs.length with h3 | h3 <;> rcases Nat.lt_or_ge o' s.objs.length with h4 | h4
    · rw [hmu o h3, hmu o' h4] at e'; exact r.inj o o' h3 h4 e'
    · have : o' = s.objs.length := by omega
      subst this
      rw [hmu o h3, hnew] at e'
      exact (u.o o h3 e').elim
    · have : o = s.objs.length := by omega
      subst this
      rw [hmu o' h4, hnew] at e'
      exact (u.o o' h4 e'.symm).elim
    · omega
  · simp at ho
    rcases Nat.lt_or_ge o s.objs.length with h3 | h3
    · rw [hmu o h3]; exact r.tokObj t b' c z o hl e' h3
    · have : o = s.objs.length := by omega
      subst this
      rw [hnew]
      intro he
      subst he
      exact u.t t c z hl e'
  · refine ⟨e.le.trans le, e.kept, fun o h3 h4 => ?_, e.newT, e.newG, e.size, e.os, e.tape, e.output⟩
    simp at h4
    rcases Nat.lt_or_ge o s.objs.length with h5 | h5
    · rw [hmu o h5]; exact e.newO o h3 h5
    · have : o = s.objs.length := by omega
      subst this
      rw [hnew]; exact hb

/-- An allocation, of which nothing is known here yet. -/
theorem alloc_early {nt : Nat} {ops : Array Oper} {i : Nat} {o : Oper} {t : Nat} {z : List D} (hi : ops[i]? = some o) (hc : cI P nt ops o = some (.op (some t) none (.alloc z)))
    {w : World} {act : Act} {K : Act → World → Prop} {Q : Exit → Act → World → Prop}
    (hK : ∀ vs T, vs.size = z.length → (∀ v ∈ vs, v.oneCell' = true) → (∀ (M : Map) (s : St) (i : Nat) (d : D) (v : Value), z[i]? = some d → vs[i]? = some v → RD M s d v) →
      K (act.put (some t) (.pointer (some ⟨w.heap.size, 0, none⟩))) (w.alloc (.cells vs T))) : wpOp P ops Q i K act w := by
  obtain ⟨g, hg, _, hb⟩ := cI_inv hc
  have hdst := cBody_dst hb
  simp only [AI.dst] at hdst
  simp only [wpOp, hi]
  have hop : g = none ∧ cOp P o = some (.alloc z) := by
    unfold cBody at hb
    split at hb
    · split at hb
      · obtain ⟨xs, _, h⟩ := map_some hb; cases h
      · cases hb
    · split at hb
      · cases hb
      · split at hb
        · rename_i hco
          simp only [Option.some.injEq, AI.op.injEq] at hb
          obtain ⟨_, _, h⟩ := hb
          split at h <;> cases h
        · rename_i ao hco
          simp only [Option.some.injEq, AI.op.injEq] at hb
          obtain ⟨_, h1, h2⟩ := hb
          subst h2
          exact ⟨h1, hco⟩
        · cases hb
  obtain ⟨rfl, hco⟩ := hop
  obtain ⟨T, hT, hz⟩ := cOp_alloc hco
  have hw : Region.wanted o (yielded ops act.tmps) = true := by
    have : o.guard = none := by
      cases hgd : o.guard with
      | none => rfl
      | some p =>
        obtain ⟨j, b⟩ := p
        rw [hgd] at hg
        unfold cGuard at hg
        simp only at hg
        split at hg <;> cases hg
    simp [Region.wanted, this]
  simp only [hw, if_true]
  left
  unfold zeroOf at hz
  split at hz
  · rename_i inf hinf
    split at hz
    · rename_i v hv
      split at hz
      · have hrun : (execOp act.eval o).run P w = .ok (.value (.pointer (some ⟨w.heap.size, 0, none⟩))) (w.alloc (.cells v.cells T)) := by
          obtain ⟨dst, op, type, pos, after, guard⟩ := o
          simp only at hT
          subst hT
          simp [execOp, Instr.alloc, zeroValue, info_run P hinf, hv, newVar, newRow]
        have h3 := fun M s => litCells_sound (M := M) (s := s) hz
        obtain ⟨h1, h2, _⟩ := h3 ⟨fun _ _ => none, fun _ => 0, fun _ => none⟩ ⟨[], []⟩
        unfold Oper.wp
        rw [hrun, Oper.upon_value, ← hdst]
        exact hK _ _ (by rw [h1]; simp) (fun u hu => h2 u (by simpa using hu)) (fun M s i d u e1 e2 => (h3 M s).2.2 i d u e1 (by simpa using e2))
      · cases hz
    · cases hz
  · cases hz

end
end Go.Abs
