/-
  What is proved here: whatever operation is turned into an abstract one does what that one reckons.
  No conditions.
-/
import Derived.Test.YtecpopiacpckiaaSound5
namespace Go.Abs

section
variable {P : Program} {M : Map} {s : St} {w : World}

theorem map_some {α β : Type} {f : α → β} {x : Option α} {y : β} (h : x.map f = some y) : ∃ a, x = some a ∧ y = f a := by
  cases x with
  | none => cases h
  | some a => cases h; exact ⟨a, rfl, rfl⟩

theorem zeroOf_some {t : TypeId} {z : List D} (h : zeroOf P t = some z) : ∃ i v, P.info? t = some i ∧ i.zero = some v ∧ v.cells.size = i.size ∧ litCells v.cells.toList = some z := by
  unfold zeroOf at h
  split at h
  · rename_i i hi
    split at h
    · rename_i v hv
      split at h
      · exact ⟨i, v, hi, hv, ‹_›, h⟩
      · cases h
    · cases h
  · cases h

theorem zeroOf_cells {z : List D} {v : Value} (h : litCells v.cells.toList = some z) : CellsR M s z v.cells := by
  obtain ⟨h1, h2, h3⟩ := litCells_sound (M := M) (s := s) h
  exact ⟨by simpa using h1.symm, fun u hu => h2 u (by simpa using hu), fun i d u e1 e2 => h3 i d u e1 (by simpa using e2)⟩

theorem cParts_sound {t : TypeId} {tm : Tm} {act : Act} (hr : RTm M s tm act.tmps) : ∀ {l : List (Nat × Operand)} {ps : List (Nat × Nat × X)}, cParts P t l = some ps →
    (ps.map fun p => (p.1, p.2.1, p.2.2.ev tm)).length = (l.map fun p => (p.1, act.eval p.2)).length ∧
    ∀ (j : Nat) (i : Nat) (v : Value) (off size : Nat) (d : D), (l.map fun p => (p.1, act.eval p.2))[j]? = some (i, v) → (ps.map fun p => (p.1, p.2.1, p.2.2.ev tm))[j]? = some (off, size, d) →
      (∃ a, fieldAtT P t i = some (off, size, a)) ∧ RD M s d v
  | [], ps, h => by cases h; exact ⟨rfl, by simp⟩
  | (i0, x) :: l, ps, h => by
    unfold cParts at h
    split at h
    · rename_i off size a x' r' h1 h2 h3
      cases h
      obtain ⟨g1, g2⟩ := cParts_sound hr h3
      refine ⟨by simpa using g1, fun j i v off' size' d e1 e2 => ?_⟩
      cases j with
      | zero =>
        simp at e1 e2
        obtain ⟨rfl, rfl⟩ := e1
        obtain ⟨rfl, rfl, rfl⟩ := e2
        exact ⟨⟨a, h1⟩, cX_sound h2 hr⟩
      | succ j => exact g2 j i v off' size' d (by simpa using e1) (by simpa using e2)
    · cases h

theorem cIdx_sound {tm : Tm} {act : Act} (hr : RTm M s tm act.tmps) : ∀ {l : List (Nat × Operand)} {ps : List (Nat × X)}, cIdx l = some ps →
    (ps.map fun p => (p.1, p.2.ev tm)).length = (l.map fun p => (p.1, act.eval p.2)).length ∧
    ∀ (j : Nat) (i : Nat) (v : Value) (i' : Nat) (d : D), (l.map fun p => (p.1, act.eval p.2))[j]? = some (i, v) → (ps.map fun p => (p.1, p.2.ev tm))[j]? = some (i', d) → i' = i ∧ RD M s d v
  | [], ps, h => by cases h; exact ⟨rfl, by simp⟩
  | (i0, x) :: l, ps, h => by
    unfold cIdx at h
    split at h
    · rename_i x' r' h1 h2
      cases h
      obtain ⟨g1, g2⟩ := cIdx_sound hr h2
      refine ⟨by simpa using g1, fun j i v i' d e1 e2 => ?_⟩
      cases j with
      | zero =>
        simp at e1 e2
        obtain ⟨rfl, rfl⟩ := e1
        obtain ⟨rfl, rfl⟩ := e2
        exact ⟨rfl, cX_sound h1 hr⟩
      | succ j => exact g2 j i v i' d (by simpa using e1) (by simpa using e2)
    · cases h

theorem places_run : ∀ (l : List Field), (∀ f ∈ l, (P.info? f.type).isSome) →
    ∃ ps : List (Nat × Nat), (l.mapM fun f => do pure (f.offset, ← sizeOf f.type) : Sem (List (Nat × Nat))).run P w = .ok ps w ∧
      ∀ (j : Nat) (f : Field) (i : TypeInfo), l[j]? = some f → P.info? f.type = some i → ps[j]? = some (f.offset, i.size)
  | [], _ => ⟨[], rfl, by simp⟩
  | f :: l, h => by
    obtain ⟨i, hi⟩ := Option.isSome_iff_exists.1 (h f (by simp))
    obtain ⟨ps, h1, h2⟩ := places_run l (fun g hg => h g (by simp [hg]))
    refine ⟨(f.offset, i.size) :: ps, ?_, fun j g i' e1 e2 => ?_⟩
    · rw [List.mapM_cons]
      simp only [Sem.run_bind, sizeOf, info_run P hi, Result.andThen_ok, Sem.run_pure] at h1 ⊢
      simp only [h1, Result.andThen_ok]
    · cases j with
      | zero => simp at e1; subst e1; rw [hi] at e2; cases e2; rfl
      | succ j => exact h2 j g i' (by simpa using e1) e2

theorem does_build (r : Rel M s w) {t : TypeId} {fs : Array Field} {z : List D} {l : List (Nat × Operand)} {ps : List (Nat × Nat × X)} {tm : Tm} {act : Act} {cs : List D} (hr : RTm M s tm act.tmps)
    (ht : P.underlying t = some (.struct fs)) (hfs : (fs.toList.all fun f => (P.info? f.type).isSome) = true) (hz : zeroOf P t = some z) (hp : cParts P t l = some ps) (hf : fillD z (ps.map fun p => (p.1, p.2.1, p.2.2.ev tm)) = some cs) :
    Does P M s w (do pure (.value (← Instr.build t (l.toArray.map fun (i, x) => (i, act.eval x))))) (.agg cs) s := by
  obtain ⟨i, v, h1, h2, h3, h4⟩ := zeroOf_some hz
  have hc := zeroOf_cells (M := M) (s := s) h4
  obtain ⟨g1, g2⟩ := cParts_sound hr hp
  obtain ⟨pl, p1, p2⟩ := places_run (P := P) (w := w) fs.toList (fun f hf' => by simpa using List.all_eq_true.1 hfs f hf')
  have hplaces : (fs.mapM fun f => do pure (f.offset, ← sizeOf f.type) : Sem (Array (Nat × Nat))).run P w = .ok pl.toArray w := by
    rw [Array.mapM_eq_mapM_toList, Sem.run_map, p1]; rfl
  obtain ⟨vs, f1, f2⟩ := fill_run (place := (pl.toArray[·]?)) (l.map fun p => (p.1, act.eval p.2)) _ z v.cells cs hc g1 (fun j i v off size d e1 e2 => by
    obtain ⟨⟨a, ha⟩, hd⟩ := g2 j i v off size d e1 e2
    refine ⟨?_, hd⟩
    unfold fieldAtT at ha
    rw [ht] at ha
    simp only at ha
    split at ha
    · rename_i fd hfd
      split at ha
      · rename_i i' a' hi' _
        split at ha
        · cases ha
        · cases ha
          simpa using p2 i fd i' (by simpa using hfd) hi'
      · cases ha
    · cases ha) hf
  refine Does.pure (v := .agg vs) r ?_ (.agg _ _ f2.1.symm f2.2.1 f2.2.2)
  have hpl : (l.toArray.map fun (i, x) => (i, act.eval x)).toList = l.map fun p => (p.1, act.eval p.2) := by simp
  unfold Instr.build
  simp only [Sem.run_bind, zeroValue, info_run P h1, h2, Result.andThen_ok, Sem.run_pure, run_underlying ht, hplaces, hpl, f1]

theorem does_bslice (r : Rel M s w) {t e : TypeId} {i : TypeInfo} {z : List D} {n : Nat} {l : List (Nat × Operand)} {ps : List (Nat × X)} {tm : Tm} {act : Act} {rows : List (List D)} (hr : RTm M s tm act.tmps)
    (ht : P.underlying t = some (.slice e)) (hi : P.info? e = some i) (hz : zeroOf P e = some z) (hpos : 0 < i.size) (hn : n * i.size ≤ 65536) (hp : cIdx l = some ps)
    (hf : fillRows i.size (zeroRows z n) (ps.map fun p => (p.1, p.2.ev tm)) = some rows) :
    ∃ (vs : Array Value) (T : TypeId), RowsR M s i.size rows vs ∧ rows.length = n ∧ vs.size = n * i.size ∧
      (Instr.buildSlice t n (l.toArray.map fun (i, x) => (i, act.eval x))).run P w = .ok (.slice (some ⟨w.heap.size, 0, none⟩) n n) (w.alloc (.cells vs T)) := by
  obtain ⟨i', v, h1, h2, h3, h4⟩ := zeroOf_some hz
  rw [hi] at h1; cases h1
  have hc := zeroOf_cells (M := M) (s := s) h4
  have hzl : z.length = i.size := by rw [← hc.1, h3]
  have hr0 := RowsR.zero hc (by omega) n
  rw [hzl] at hr0
  obtain ⟨g1, g2⟩ := cIdx_sound hr hp
  obtain ⟨vs, f1, f2, f3, f4⟩ := fillRows_run (l.map fun p => (p.1, act.eval p.2)) _ _ _ rows hr0 g1 g2 hf
  have hzr := zeroRows_length z n
  refine ⟨vs, e, f2, by rw [f3, hzr], by rw [f4]; simp, ?_⟩
  have hsmall : ¬ (n * i.size > 2 ^ 24) := by omega
  have hpl : (l.toArray.map fun (i, x) => (i, act.eval x)).toList = l.map fun p => (p.1, act.eval p.2) := by simp
  by_cases h0 : n * i.size = 0
  · have hcells : (Array.range (n * i.size)).map ((#[] : Array Value)[· % (#[] : Array Value).size]!) = (Array.range (n * i.size)).map (v.cells[· % v.cells.size]!) := by rw [h0]; simp
    unfold Instr.buildSlice
    simp only [Sem.run_bind, run_underlying ht, Result.andThen_ok, sizeOf, info_run P hi, Sem.run_pure, if_neg hsmall, if_pos h0, hcells, hpl, f1, newRow, run_newObj]
    rfl
  · unfold Instr.buildSlice
    simp only [Sem.run_bind, run_underlying ht, Result.andThen_ok, sizeOf, info_run P hi, Sem.run_pure, if_neg hsmall, if_neg h0, zeroValue, h2, hpl, f1, newRow, run_newObj]
    rfl

end
end Go.Abs
