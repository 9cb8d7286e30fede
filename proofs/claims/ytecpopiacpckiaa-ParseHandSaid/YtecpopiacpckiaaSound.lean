/-
  What is proved here: each abstract operation reckons what the model's operation does.
  No conditions.
-/
import Derived.Test.YtecpopiacpckiaaRel
namespace Go.Abs

section
variable {M : Map} {s : St} {w : World}

/-! ### Reading values -/

theorem RD.int_inv {k : IntKind} {n : Int} {v : Value} (h : RD M s (.int k n) v) : v = .int k n := by cases h; rfl
theorem RD.bool_inv {b : Bool} {v : Value} (h : RD M s (.bool b) v) : v = .bool b := by cases h; rfl
theorem RD.str_inv {l : List UInt8} {v : Value} (h : RD M s (.str l) v) : v = .string ⟨⟨l⟩⟩ := by cases h; rfl
theorem RD.nilp_inv {v : Value} (h : RD M s .nilp v) : v = .pointer none := by cases h; rfl
theorem RD.ptr_inv {o off : Nat} {v : Value} (h : RD M s (.ptr o off) v) : v = .pointer (some ⟨M.mu o, off, none⟩) ∧ o < s.objs.length := by
  cases h with | ptr _ _ h => exact ⟨rfl, h⟩
theorem RD.cptr_inv {row : List D} {off : Nat} {v : Value} (h : RD M s (.cptr row off) v) : ∃ b k, v = .pointer (some ⟨b, k + off, none⟩) ∧
    (∀ (i : Nat) (d : D), row[i]? = some d → ∃ u, M.G b (k + i) = some u) ∧ (∀ (i : Nat) (d : D) (u : Value), row[i]? = some d → M.G b (k + i) = some u → RD M s d u) := by
  cases h with | cptr _ _ b k h1 h2 => exact ⟨b, k, rfl, h1, h2⟩
theorem RD.agg_inv {ds : List D} {v : Value} (h : RD M s (.agg ds) v) : ∃ vs : Array Value, v = .agg vs ∧ ds.length = vs.size ∧ (∀ v ∈ vs, v.oneCell' = true) ∧
    ∀ (i : Nat) (d : D) (v : Value), ds[i]? = some d → vs[i]? = some v → RD M s d v := by
  cases h with | agg _ vs h1 h2 h3 => exact ⟨vs, rfl, h1, h2, h3⟩
theorem RD.tuple_inv {ds : List D} {v : Value} (h : RD M s (.tuple ds) v) : ∃ vs : Array Value, v = .tuple vs ∧ ds.length = vs.size ∧
    ∀ (i : Nat) (d : D) (v : Value), ds[i]? = some d → vs[i]? = some v → RD M s d v := by
  cases h with | tuple _ vs h1 h2 => exact ⟨vs, rfl, h1, h2⟩
theorem RD.undef : RD M s (.tuple []) Go.undef := .tuple [] #[] rfl (fun i d v h => by simp at h)

/-- What a slice reads as. -/
theorem RD.slice_inv {g : Tag} {z : Nat} {rows : List (List D)} {v : Value} (h : RD M s (.slice g z rows) v) :
    (rows = [] ∧ v = .slice none 0 0 ∧ TagOk M s g z 0 none 0) ∨
    ∃ b k cap, v = .slice (some ⟨b, k, none⟩) rows.length cap ∧ rows.length ≤ cap ∧ (∀ row ∈ rows, row.length = z) ∧
      (∀ (i : Nat) (row : List D) (j : Nat) (d : D), rows[i]? = some row → row[j]? = some d → ∃ u, M.G b (k + (i * z + j)) = some u) ∧
      (∀ (i : Nat) (row : List D) (j : Nat) (d : D) (u : Value), rows[i]? = some row → row[j]? = some d → M.G b (k + (i * z + j)) = some u → RD M s d u) ∧
      TagOk M s g z rows.length (some (b, k)) cap := by
  cases h with
  | snil _ _ cap hc ht => subst hc; exact .inl ⟨rfl, rfl, ht⟩
  | slice _ _ _ b k cap hl hs h1 h2 ht => exact .inr ⟨b, k, cap, rfl, hl, hs, h1, h2, ht⟩

theorem RD.row {d : D} {v : Value} (h : RD M s d v) {r : List D} (hr : d.row = some r) : v.cells.size = r.length ∧ (∀ u ∈ v.cells, u.oneCell' = true) ∧
    ∀ (i : Nat) (d' : D) (u : Value), r[i]? = some d' → v.cells[i]? = some u → RD M s d' u := by
  have one : ∀ (x : Value), x.oneCell' = true → x.cells = #[x] := by intro x hx; cases x <;> first | rfl | (simp [Value.oneCell'] at hx)
  have go : ∀ (x : Value), x.oneCell' = true → RD M s d x → d.row = some [d] → x.cells.size = r.length ∧ (∀ u ∈ x.cells, u.oneCell' = true) ∧
      ∀ (i : Nat) (d' : D) (u : Value), r[i]? = some d' → x.cells[i]? = some u → RD M s d' u := by
    intro x hx hd h1
    rw [h1] at hr; cases hr
    rw [one x hx]
    refine ⟨rfl, by simp [hx], fun i d' u e1 e2 => ?_⟩
    cases i with
    | zero => simp at e1 e2; subst e1; subst e2; exact hd
    | succ i => simp at e1
  cases h with
  | junk v => cases hr
  | int k n => exact go _ rfl (.int k n) rfl
  | bool b => exact go _ rfl (.bool b) rfl
  | str l => exact go _ rfl (.str l) rfl
  | nilp => exact go _ rfl .nilp rfl
  | ptr o off h => exact go _ rfl (.ptr o off h) rfl
  | cptr row off b k h1 h2 => exact go _ rfl (.cptr row off b k h1 h2) rfl
  | snil g z cap hc ht => exact go _ rfl (.snil g z cap hc ht) rfl
  | slice g z rows b k cap hl hs h1 h2 ht => exact go _ rfl (.slice g z rows b k cap hl hs h1 h2 ht) rfl
  | agg cells vs hl h1 h2 => cases hr; exact ⟨hl.symm, h1, h2⟩
  | tuple ds vs hl h1 => cases hr

/-! ### Constants and slots -/

theorem litCell_sound {v : Value} {d : D} (h : litCell v = some d) : RD M s d v ∧ v.oneCell' = true := by
  unfold litCell at h
  split at h <;> first | (cases h; done) | skip
  · cases h; exact ⟨.int _ _, rfl⟩
  · cases h; exact ⟨.bool _, rfl⟩
  · cases h; exact ⟨.str _, rfl⟩
  · cases h; exact ⟨.nilp, rfl⟩
  · cases h; exact ⟨.snil _ _ 0 rfl rfl, rfl⟩

theorem litCells_sound : ∀ {vs : List Value} {ds : List D}, litCells vs = some ds → ds.length = vs.length ∧ (∀ v ∈ vs, v.oneCell' = true) ∧
    ∀ (i : Nat) (d : D) (v : Value), ds[i]? = some d → vs[i]? = some v → RD M s d v
  | [], ds, h => by cases h; exact ⟨rfl, by simp, by simp⟩
  | v :: r, ds, h => by
    unfold litCells at h
    split at h
    · rename_i d ds' h1 h2
      cases h
      obtain ⟨a, b⟩ := litCell_sound (M := M) (s := s) h1
      obtain ⟨i1, i2, i3⟩ := litCells_sound h2
      refine ⟨by simp [i1], fun u hu => ?_, fun i d' u e1 e2 => ?_⟩
      · rcases List.mem_cons.1 hu with rfl | hu
        · exact b
        · exact i2 u hu
      · cases i with
        | zero => simp at e1 e2; subst e1; subst e2; exact a
        | succ i => simp at e1 e2; exact i3 i d' u e1 e2
    · cases h

theorem litD_sound {v : Value} {d : D} (h : litD v = some d) : RD M s d v := by
  unfold litD at h
  split at h
  · rename_i cs
    cases hc : litCells cs.toList with
    | none => rw [hc] at h; cases h
    | some ds =>
      rw [hc] at h; cases h
      obtain ⟨h1, h2, h3⟩ := litCells_sound (M := M) (s := s) hc
      exact .agg ds cs (by simpa using h1) (fun v hv => h2 v (by simpa using hv)) (fun i d v e1 e2 => h3 i d v e1 (by simpa using e2))
  · cases h; exact .undef
  · exact (litCell_sound h).1

def RTm (M : Map) (s : St) (tm : Tm) (tmps : Array Value) : Prop := ∀ t, RD M s (tm.get t) (tmps.getD t Go.undef)

theorem RTm.mono {M' : Map} {s' : St} {tm : Tm} {tmps : Array Value} (h : RTm M s tm tmps) (le : Le M s M' s') : RTm M' s' tm tmps := fun t => (h t).mono le

theorem cX_sound {x : Operand} {y : X} (h : cX x = some y) {tm : Tm} {act : Act} (hr : RTm M s tm act.tmps) : RD M s (y.ev tm) (act.eval x) := by
  unfold cX at h
  split at h
  · cases h; exact hr _
  · rename_i v
    cases hv : litD v with
    | none => rw [hv] at h; cases h
    | some d => rw [hv] at h; cases h; exact litD_sound hv
  · cases h

theorem Tm.get_set (tm : Tm) (t : Nat) (d : D) (u : Nat) : (tm.set t d).get u = if u = t then d else tm.get u := by
  induction tm with
  | nil =>
    simp only [Tm.set, Tm.get]
    by_cases h : t = u
    · simp [h]
    · rw [if_neg h, if_neg (fun e => h e.symm)]
  | cons p r ih =>
    obtain ⟨k, e⟩ := p
    simp only [Tm.set]
    split
    · rename_i h
      subst h
      simp only [Tm.get]
      by_cases h : k = u
      · simp [h]
      · rw [if_neg h, if_neg (fun e => h e.symm), if_neg h]
    · rename_i h
      simp only [Tm.get, ih]
      by_cases h1 : k = u
      · subst h1; simp [h]
      · simp [h1]

theorem RTm.put {tm : Tm} {act : Act} (h : RTm M s tm act.tmps) {dst : Option Nat} (hd : ∀ t, dst = some t → t < act.tmps.size) {d : D} {v : Value} (hv : RD M s d v) :
    RTm M s (tm.put dst d) (act.put dst v).tmps := by
  intro u
  cases dst with
  | none => exact h u
  | some t =>
    simp only [Tm.put, Act.put, Tm.get_set]
    have ht := hd t rfl
    by_cases hu : u = t
    · subst hu
      simp [ht]; exact hv
    · rw [if_neg hu]
      have := h u
      simpa [Array.getElem?_setIfInBounds_ne (fun e => hu e.symm)] using this

/-! ### Memory -/

theorem info_run (P : Program) {t : TypeId} {i : TypeInfo} (h : P.info? t = some i) (w : World) : (typeInfo t).run P w = .ok i w := by
  simp [typeInfo, h]

theorem addr_add (b o n : Nat) : Addr.add ⟨b, o, none⟩ n = ⟨b, o + n, none⟩ := Addr.add_lit b o n

/-- The model's load out of a row whose cells are known. -/
theorem load_run (P : Program) {t : TypeId} {i : TypeInfo} {agg : Bool} (hi : P.info? t = some i) (ha : isAggT P t = some agg) (b k : Nat) (us : List Value)
    (hl : us.length = if agg then i.size else 1) (h : ∀ (j : Nat) (u : Value), us[j]? = some u → w.cell? ⟨b, k + j, none⟩ = some u) :
    (loadVar t ⟨b, k, none⟩).run P w = .ok (if agg then .agg us.toArray else us.getD 0 Go.undef) w := by
  have hagg : (isAgg t).run P w = .ok agg w := by
    unfold isAggT at ha
    unfold isAgg
    cases hu : P.underlying t with
    | none => rw [hu] at ha; cases ha
    | some d =>
      rw [hu] at ha
      simp only [Sem.run_bind, run_underlying hu, Result.andThen_ok]
      cases d <;> simp_all
  cases agg with
  | true =>
    simp only [if_true] at hl ⊢
    have hc := run_loadCells_list (P := P) w ⟨b, k, none⟩ us (fun j v e => by rw [addr_add]; exact h j v e)
    simp [loadVar, hagg, sizeOf, info_run P hi, ← hl, hc]
  | false =>
    simp only [Bool.false_eq_true, if_false] at hl ⊢
    match us, hl with
    | [u], _ =>
      have := h 0 u rfl
      simp only [Nat.add_zero] at this
      simp [loadVar, hagg, this]

theorem part_some {cs : List D} {off : Nat} {agg : Bool} {size : Nat} {d : D} (h : part cs off agg size = some d) :
    (agg = true ∧ off + size ≤ cs.length ∧ d = .agg ((cs.drop off).take size)) ∨ (agg = false ∧ cs[off]? = some d) := by
  unfold part at h
  split at h
  · split at h
    · cases h; exact .inl ⟨rfl, ‹_›, rfl⟩
    · cases h
  · exact .inr ⟨rfl, h⟩

/-- A part of known cells, as a value. -/
theorem part_sound {cs : List D} {off size : Nat} {agg : Bool} {d : D} (h : part cs off agg size = some d) (us : List Value) (hl : us.length = if agg then size else 1)
    (hone : agg = true → ∀ u ∈ us, u.oneCell' = true)
    (hr : ∀ (j : Nat) (d : D) (u : Value), cs[off + j]? = some d → us[j]? = some u → RD M s d u) : RD M s d (if agg then .agg us.toArray else us.getD 0 Go.undef) := by
  rcases part_some h with ⟨rfl, h1, rfl⟩ | ⟨rfl, h1⟩
  · simp only [if_true] at hl ⊢
    refine .agg _ _ (by simp [hl]; omega) (fun v hv => hone rfl v (by simpa using hv)) (fun i d v e1 e2 => ?_)
    rw [List.getElem?_take] at e1
    split at e1
    · rw [List.getElem?_drop] at e1
      exact hr i d v e1 (by simpa using e2)
    · cases e1
  · simp only [Bool.false_eq_true, if_false] at hl ⊢
    match us, hl with
    | [u], _ => exact hr 0 d u (by simpa using h1) rfl

end
end Go.Abs
