/-
  What is proved here: each abstract operation reckons what the model's operation does: the operations by themselves.
  No conditions.
-/
import Derived.Test.YtecpopiacpckiaaSound
namespace Go.Abs

/-- The model's operation does what the abstract one reckoned. -/
def Does (P : Program) (M : Map) (s : St) (w : World) (x : Sem Next) (d : D) (s' : St) : Prop :=
  ∃ v w' M', (x.run P w = .ok (.value v) w' ∨ (x.run P w = .ok .skip w' ∧ v = Go.undef)) ∧ Rel M' s' w' ∧ RD M' s' d v ∧ Ext M s w M' s' w'

section
variable {P : Program} {M : Map} {s : St} {w : World}

/-- An operation that leaves the world alone. -/
theorem Does.pure {x : Sem Next} {d : D} {v : Value} (r : Rel M s w) (h : x.run P w = .ok (.value v) w) (hd : RD M s d v) : Does P M s w x d s :=
  ⟨v, w, M, .inl h, r, hd, Ext.refl M s w⟩

theorem does_alloc (r : Rel M s w) {t : TypeId} {z : List D} (hz : zeroOf P t = some z) :
    Does P M s w (do pure (.value (← Instr.alloc t true (.tuple #[])))) (.ptr s.objs.length 0) { s with objs := s.objs ++ [z] } := by
  unfold zeroOf at hz
  split at hz
  · rename_i i hi
    split at hz
    · rename_i v hv
      split at hz
      · rename_i hsz
        obtain ⟨h1, h2, h3⟩ := litCells_sound (M := M) (s := s) hz
        obtain ⟨r', e'⟩ := r.pushO z v.cells t (by rw [h1]; simp) (fun u hu => h2 u (by simpa using hu)) (fun i d u e1 e2 => h3 i d u e1 (by simpa using e2))
        refine ⟨_, _, _, .inl ?_, r', .ptr _ _ (by simp), e'⟩
        simp [Instr.alloc, zeroValue, info_run P hi, hv, newVar, newRow, Map.pushO]
      · cases hz
    · cases hz
  · cases hz

theorem does_box (r : Rel M s w) {t : TypeId} {d : D} {v : Value} {row : List D} (hd : RD M s d v) (hr : d.row = some row) :
    Does P M s w (do pure (.value (← Instr.box t v))) (.ptr s.objs.length 0) { s with objs := s.objs ++ [row] } := by
  obtain ⟨h1, h2, h3⟩ := hd.row hr
  obtain ⟨r', e'⟩ := r.pushO row v.cells t h1 h2 h3
  refine ⟨_, _, _, .inl ?_, r', .ptr _ _ (by simp), e'⟩
  simp [Instr.box, newVar, newRow, Map.pushO]

theorem does_load_obj (r : Rel M s w) {t : TypeId} {i : TypeInfo} {agg : Bool} (hi : P.info? t = some i) (ha : isAggT P t = some agg) {o off : Nat} {cs : List D} {d : D}
    (ho : s.objs[o]? = some cs) (hp : part cs off agg i.size = some d) :
    Does P M s w (do pure (.value (← Instr.loadAt t (.pointer (some ⟨M.mu o, off, none⟩))))) d s := by
  obtain ⟨vs, T, hh, hsz, hone, hrd⟩ := r.obj o cs ho
  let n := if agg then i.size else 1
  have hfit : off + n ≤ vs.size := by
    rcases part_some hp with ⟨rfl, h1, _⟩ | ⟨rfl, h1⟩
    · simp [n]; omega
    · have := (List.getElem?_eq_some_iff.1 h1).1; simp [n]; omega
  have hlen : ((vs.toList.drop off).take n).length = n := by simp; omega
  have hget : ∀ (j : Nat) (u : Value), ((vs.toList.drop off).take n)[j]? = some u → vs[off + j]? = some u := by
    intro j u h
    rw [List.getElem?_take] at h
    split at h
    · rw [List.getElem?_drop] at h; simpa using h
    · cases h
  have hrun := load_run (w := w) P hi ha (M.mu o) off ((vs.toList.drop off).take n) hlen (fun j u h => by rw [cell?_row hh]; exact hget j u h)
  refine Does.pure (v := if agg then .agg ((vs.toList.drop off).take n).toArray else ((vs.toList.drop off).take n).getD 0 Go.undef) r (by simp [Instr.loadAt, Instr.sureAddr, hrun]) ?_
  refine part_sound hp _ hlen (fun _ u hu => hone u ?_) (fun j d u e1 e2 => hrd _ d u e1 (hget j u e2))
  exact Array.mem_toList_iff.1 (List.mem_of_mem_drop (List.mem_of_mem_take hu))

/-- The fixed cells from a place on. -/
theorem fixed_list {b : Nat} : ∀ (n k : Nat), (∀ j, j < n → ∃ u, M.G b (k + j) = some u) → ∃ us : List Value, us.length = n ∧ ∀ (j : Nat) (u : Value), us[j]? = some u → M.G b (k + j) = some u
  | 0, _, _ => ⟨[], rfl, fun j u h => by simp at h⟩
  | n + 1, k, h => by
    obtain ⟨u0, h0⟩ := h 0 (by omega)
    obtain ⟨us, h1, h2⟩ := fixed_list n (k + 1) (fun j hj => by obtain ⟨u, hu⟩ := h (j + 1) (by omega); exact ⟨u, by rw [show k + 1 + j = k + (j + 1) by omega]; exact hu⟩)
    refine ⟨u0 :: us, by simp [h1], fun j u hj => ?_⟩
    cases j with
    | zero => simp at hj; subst hj; exact h0
    | succ j => simp at hj; have := h2 j u hj; rw [show k + (j + 1) = k + 1 + j by omega]; exact this

theorem does_load_row (r : Rel M s w) {t : TypeId} {i : TypeInfo} {agg : Bool} (hi : P.info? t = some i) (ha : isAggT P t = some agg) {row : List D} {off b k : Nat} {d : D}
    (h1 : ∀ (i : Nat) (d : D), row[i]? = some d → ∃ u, M.G b (k + i) = some u) (h2 : ∀ (i : Nat) (d : D) (u : Value), row[i]? = some d → M.G b (k + i) = some u → RD M s d u)
    (hp : part row off agg i.size = some d) :
    Does P M s w (do pure (.value (← Instr.loadAt t (.pointer (some ⟨b, k + off, none⟩))))) d s := by
  let n := if agg then i.size else 1
  have hfit : off + n ≤ row.length := by
    rcases part_some hp with ⟨rfl, h1, _⟩ | ⟨rfl, h1⟩
    · simp [n]; omega
    · have := (List.getElem?_eq_some_iff.1 h1).1; simp [n]; omega
  obtain ⟨us, hl, hus⟩ := fixed_list (M := M) (b := b) n (k + off) (fun j hj => by
    obtain ⟨d, hd⟩ : ∃ d, row[off + j]? = some d := ⟨_, List.getElem?_eq_getElem (by omega)⟩
    obtain ⟨u, hu⟩ := h1 _ d hd
    exact ⟨u, by rw [show k + off + j = k + (off + j) by omega]; exact hu⟩)
  have hrun := load_run (w := w) P hi ha b (k + off) us hl (fun j u h => (r.comm _ _ _ (hus j u h)).1)
  refine Does.pure (v := if agg then .agg us.toArray else us.getD 0 Go.undef) r (by simp [Instr.loadAt, Instr.sureAddr, hrun]) ?_
  refine part_sound hp us hl (fun _ u hu => ?_) (fun j d u e1 e2 => h2 _ d u e1 (by rw [show k + (off + j) = k + off + j by omega]; exact hus j u e2))
  obtain ⟨j, hj⟩ := List.mem_iff_getElem?.1 hu
  exact (r.comm _ _ _ (hus j u hj)).2

theorem does_store (r : Rel M s w) {t : TypeId} {i : TypeInfo} (hi : P.info? t = some i) {o off : Nat} {cs row : List D} {d : D} {v : Value} (ho : s.objs[o]? = some cs)
    (hd : RD M s d v) (hr : d.row = some row) (hl : row.length = i.size) (hfit : off + i.size ≤ cs.length) :
    Does P M s w (do Instr.storeAt t (.pointer (some ⟨M.mu o, off, none⟩)) v; pure .skip) (.tuple []) { s with objs := s.objs.set o (splice cs off row) } := by
  obtain ⟨h1, h2, h3⟩ := hd.row hr
  obtain ⟨w', hrun, r', e'⟩ := r.setO P ho row v.cells.toList (by simpa using h1) (by rw [hl]; exact hfit) (fun u hu => h2 u (by simpa using hu)) (fun i d u e1 e2 => h3 i d u e1 (by simpa using e2))
  refine ⟨Go.undef, w', M, .inr ⟨?_, rfl⟩, r', .undef, e'⟩
  have hsz : v.cells.size = i.size := by omega
  simp [Instr.storeAt, Instr.sureAddr, storeVar, sizeOf, info_run P hi, hsz, hrun]

theorem does_nilck (r : Rel M s w) {d : D} {a : Addr} (hd : RD M s d (.pointer (some a))) :
    Does P M s w (pure (.value (.pointer (some a)))) d s := Does.pure r rfl hd

theorem add_assoc_addr (b k off n : Nat) : (⟨b, k + off + n, none⟩ : Addr) = ⟨b, k + (off + n), none⟩ := by rw [Nat.add_assoc]

theorem faddr_run {t : TypeId} {f off size : Nat} {agg : Bool} (h : fieldAtT P t f = some (off, size, agg)) (b k : Nat) :
    (Instr.fieldAt t (.pointer (some ⟨b, k, none⟩)) f).run P w = .ok (.pointer (some ⟨b, k + off, none⟩)) w := by
  unfold fieldAtT at h
  split at h
  · rename_i fs hu
    split at h
    · rename_i fd hf
      split at h
      · rename_i i a hi ha
        split at h
        · cases h
        · rename_i hne
          cases h
          simp [Instr.fieldAt, run_underlying hu, hf, Instr.sureAddr, fieldPlace, sizeOf, info_run P hi, hne, addr_add]
      · cases h
    · cases h
  · cases h

theorem field_run {t : TypeId} {f off size : Nat} {agg : Bool} (h : fieldAtT P t f = some (off, size, agg)) (vs : Array Value) (us : List Value) (hl : us.length = if agg then size else 1)
    (hg : ∀ j, j < us.length → vs[off + j]? = us[j]?) :
    (Instr.field t (.agg vs) f).run P w = .ok (if agg then .agg us.toArray else us.getD 0 Go.undef) w := by
  unfold fieldAtT at h
  split at h
  · rename_i fs hu
    split at h
    · rename_i fd hf
      split at h
      · rename_i i a hi ha
        split at h
        · cases h
        · rename_i hne
          cases h
          have hagg : (isAgg fd.type).run P w = .ok agg w := by
            unfold isAggT at ha
            unfold isAgg
            cases hu : P.underlying fd.type with
            | none => rw [hu] at ha; cases ha
            | some d =>
              rw [hu] at ha
              simp only [Sem.run_bind, run_underlying hu, Result.andThen_ok]
              cases d <;> simp_all
          cases agg with
          | true =>
            simp only [if_true] at hl ⊢
            have : vs.extract fd.offset (fd.offset + i.size) = us.toArray := by
              apply Array.ext_getElem?
              intro j
              rw [Array.getElem?_extract]
              by_cases hj : j < us.length
              · rw [← hl, if_pos (by
                  have h1 := hg j hj
                  rw [List.getElem?_eq_getElem hj] at h1
                  have := (Array.getElem?_eq_some_iff.1 h1).1
                  have h2 := hg (us.length - 1) (by omega)
                  rw [List.getElem?_eq_getElem (by omega)] at h2
                  have := (Array.getElem?_eq_some_iff.1 h2).1
                  omega), hg j hj]
                simp
              · have hn : us.toArray[j]? = none := by simp; omega
                rw [hn, if_neg (by omega)]
            simp [Instr.field, run_underlying hu, hf, asAgg, Go.part, hagg, sizeOf, info_run P hi, this]
          | false =>
            simp only [Bool.false_eq_true, if_false] at hl ⊢
            match us, hl with
            | [u], _ =>
              have := hg 0 (by simp)
              simp at this
              simp [Instr.field, run_underlying hu, hf, asAgg, Go.part, hagg, this]
      · cases h
    · cases h
  · cases h

end
end Go.Abs
