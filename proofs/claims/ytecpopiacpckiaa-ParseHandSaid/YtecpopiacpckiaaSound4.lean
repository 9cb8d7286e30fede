/-
  What is proved here: each abstract operation reckons what the model's operation does: texts, slices, what is built.
  No conditions.
-/
import Derived.Test.YtecpopiacpckiaaSound3
namespace Go.Abs

section
variable {P : Program} {M : Map} {s : St} {w : World}

theorem mk_size (l : List UInt8) : (⟨⟨l⟩⟩ : ByteArray).size = l.length := rfl

theorem extract_mk (l : List UInt8) (a b : Nat) : (⟨⟨l⟩⟩ : ByteArray).extract a b = ⟨⟨(l.take b).drop a⟩⟩ := by
  apply ByteArray.ext
  rw [ByteArray.data_extract]
  apply Array.ext'
  simp [List.drop_take]

theorem getElem?_mk (l : List UInt8) (n : Nat) : (⟨⟨l⟩⟩ : ByteArray)[n]? = l[n]? := by
  by_cases h : n < l.length
  · rw [getElem?_pos (⟨⟨l⟩⟩ : ByteArray) n h, List.getElem?_eq_getElem h]; rfl
  · rw [List.getElem?_eq_none (by omega)]
    rw [getElem?_neg (c := (⟨⟨l⟩⟩ : ByteArray)) (i := n)]
    show ¬ n < (⟨⟨l⟩⟩ : ByteArray).size
    rw [mk_size]; omega

theorem does_sidx (r : Rel M s w) {t : TypeId} {l : List UInt8} {k : IntKind} {n : Int} {c : UInt8} (ht : P.underlying t = some .string) (h0 : 0 ≤ n) (hc : l[n.toNat]? = some c) :
    Does P M s w (do pure (.value (← Instr.index t (.string ⟨⟨l⟩⟩) (.int k n)))) (.int .u8 c.toNat) s := by
  refine Does.pure (v := .int .u8 c.toNat) r ?_ (.int _ _)
  simp [Instr.index, asIntOf, run_underlying ht, h0, getElem?_mk, hc]

theorem does_len_str (r : Rel M s w) {t ty : TypeId} {l : List UInt8} (ht : P.underlying t = some .string) :
    Does P M s w (do pure (.value (← Builtin.len_ #[t] ty #[.string ⟨⟨l⟩⟩]))) (.int .i64 l.length) s := by
  refine Does.pure (v := .int .i64 l.length) r ?_ (.int _ _)
  simp [Builtin.len_, run_underlying ht, goInt, mk_size]

theorem does_len_slice (r : Rel M s w) {t ty e : TypeId} {a : Option Addr} {n c : Nat} (ht : P.underlying t = some (.slice e)) :
    Does P M s w (do pure (.value (← Builtin.len_ #[t] ty #[.slice a n c]))) (.int .i64 n) s := by
  refine Does.pure (v := .int .i64 n) r ?_ (.int _ _)
  simp [Builtin.len_, run_underlying ht, goInt]

theorem does_iaddr (r : Rel M s w) {t e : TypeId} {i : TypeInfo} {g : Tag} {rows : List (List D)} {row : List D} {v : Value} {k : IntKind} {n : Int} (ht : P.underlying t = some (.slice e)) (hi : P.info? e = some i)
    (hd : RD M s (.slice g i.size rows) v) (h0 : 0 ≤ n) (hr : rows[n.toNat]? = some row) :
    Does P M s w (do pure (.value (← Instr.indexAt t v (.int k n)))) (.cptr row 0) s := by
  have hlt := (List.getElem?_eq_some_iff.1 hr).1
  rcases hd.slice_inv with ⟨rfl, _, _⟩ | ⟨b, q, cap, rfl, hl, hs, h1, h2, _⟩
  · simp at hr
  · refine Does.pure (v := .pointer (some ⟨b, q + n.toNat * i.size + 0, none⟩)) r ?_ ?_
    · have : n < (rows.length : Int) := by omega
      simp [Instr.indexAt, asIntOf, run_underlying ht, h0, this, sizeOf, info_run P hi, addr_add]
    · refine .cptr row 0 b (q + n.toNat * i.size) (fun j d hj => ?_) (fun j d u hj hu => ?_)
      · obtain ⟨u, hu⟩ := h1 n.toNat row j d hr hj
        exact ⟨u, by rw [Nat.add_assoc]; exact hu⟩
      · exact h2 n.toNat row j d u hr hj (by rw [← Nat.add_assoc]; exact hu)

/-- The two ends of a cut. -/
def LoR (lv : Option Value) (l : Int) : Prop := (lv = none ∧ l = 0) ∨ ∃ k, lv = some (.int k l)
def HiR (hv : Option Value) (len : Nat) (h : Int) : Prop := (hv = none ∧ h = len) ∨ ∃ k, hv = some (.int k h)

theorem bounds_run {isSlice : Bool} {lv hv : Option Value} {len cap : Nat} {l h : Int} (h1 : LoR lv l) (h2 : HiR hv len h) (a : 0 ≤ l) (b : l ≤ h) (c : h ≤ len) (d : len ≤ cap) :
    (Instr.sliceBounds isSlice len cap lv hv none).run P w = .ok (l.toNat, h.toNat, cap) w := by
  have h0 : 0 ≤ h := by omega
  have hc : h ≤ cap := by omega
  rcases h1 with ⟨rfl, rfl⟩ | ⟨k, rfl⟩ <;> rcases h2 with ⟨rfl, rfl⟩ | ⟨k', rfl⟩
  · simp [Instr.sliceBounds]
  · simp [Instr.sliceBounds, run_sliceBound w _ _ _ _ h0 hc]
  · simp [Instr.sliceBounds, run_sliceBound w _ _ _ _ a b]
  · have e : (h.toNat : Int) = h := Int.toNat_of_nonneg h0
    simp [Instr.sliceBounds, run_sliceBound w _ _ _ _ h0 hc, run_sliceBound w _ _ _ _ a (show l ≤ (h.toNat : Int) by omega)]

theorem does_sslc (r : Rel M s w) {t : TypeId} {lv hv : Option Value} {x : List UInt8} {l h : Int} (ht : P.underlying t = some .string) (h1 : LoR lv l) (h2 : HiR hv x.length h) (a : 0 ≤ l) (b : l ≤ h) (c : h ≤ x.length) :
    Does P M s w (do pure (.value (← Instr.sliceAt t (.string ⟨⟨x⟩⟩) lv hv none))) (.str ((x.take h.toNat).drop l.toNat)) s := by
  have hb := bounds_run (P := P) (w := w) (isSlice := false) (cap := x.length) h1 h2 a b c (Nat.le_refl _)
  refine Does.pure (v := .string ⟨⟨(x.take h.toNat).drop l.toNat⟩⟩) r ?_ (.str _)
  simp [Instr.sliceAt, run_underlying ht, Instr.slice, mk_size, hb, extract_mk]

theorem TagOk.cut {g : Tag} {z len len' cap : Nat} {base : Option (Nat × Nat)} (h : TagOk M s g z len base cap) (hl : len' ≤ len) (whole : Bool) (hw : whole = true → len' = len) : TagOk M s (g.cut whole) z len' base cap := by
  cases g with
  | full =>
    cases whole with
    | true => rw [hw rfl]; exact h
    | false => trivial
  | shared => trivial
  | tok t =>
    obtain ⟨x1, x2⟩ := h
    refine ⟨x1, fun n hn => ⟨Nat.le_trans hl (x2 n hn).1, fun e => ?_⟩⟩
    have : len = n := by have := (x2 n hn).1; omega
    exact (x2 n hn).2 this

theorem does_slc (r : Rel M s w) {t e : TypeId} {i : TypeInfo} {g : Tag} {z : Nat} {lv hv : Option Value} {rows : List (List D)} {v : Value} {l h : Int} (ht : P.underlying t = some (.slice e)) (hi0 : P.info? e = some i) (hz : rows = [] ∨ z = i.size)
    (hd : RD M s (.slice g z rows) v) (h1 : LoR lv l) (h2 : HiR hv rows.length h) (a : 0 ≤ l) (b : l ≤ h) (c : h ≤ rows.length) :
    Does P M s w (do pure (.value (← Instr.sliceAt t v lv hv none))) (.slice (if l = 0 then g.cut (h = rows.length) else .shared) z ((rows.take h.toNat).drop l.toNat)) s := by
  have hlen : ((rows.take h.toNat).drop l.toNat).length = h.toNat - l.toNat := by simp; omega
  have tag : ∀ base cap, TagOk M s g z rows.length base cap → TagOk M s (if l = 0 then g.cut (h = rows.length) else .shared) z ((rows.take h.toNat).drop l.toNat).length base cap := by
    intro base cap htag
    split
    · exact htag.cut (by omega) _ (fun hh => by simp at hh; omega)
    · trivial
  rcases hd.slice_inv with ⟨rfl, rfl, htag⟩ | ⟨b', q, cap, rfl, hl, hs, g1, g2, htag⟩
  · have hb := bounds_run (P := P) (w := w) (isSlice := true) (cap := 0) h1 h2 a b c (Nat.le_refl _)
    have hl0 : l = 0 := by simp at c; omega
    have hh0 : h = 0 := by simp at c; omega
    subst hl0; subst hh0
    refine Does.pure (v := .slice none 0 0) r ?_ ?_
    · simp at hb
      simp [Instr.sliceAt, run_underlying ht, Instr.slice, hb, sizeOf, info_run P hi0]
    · have := tag _ _ htag
      simp only [Int.toNat_zero, List.take_nil, List.drop_nil, List.length_nil] at this ⊢
      exact .snil _ _ 0 rfl this
  · have hb := bounds_run (P := P) (w := w) (isSlice := true) (cap := cap) h1 h2 a b c hl
    have hrun : (Instr.sliceAt t (.slice (some ⟨b', q, none⟩) rows.length cap) lv hv none).run P w = .ok (.slice (some (if cap = l.toNat then ⟨b', q, none⟩ else ⟨b', q + l.toNat * i.size, none⟩)) (h.toNat - l.toNat) (cap - l.toNat)) w := by
      simp only [Instr.sliceAt, Sem.run_bind, run_underlying ht, Result.andThen_ok, Instr.slice, hb, sizeOf, info_run P hi0, Sem.run_pure]
      split <;> simp [addr_add]
    by_cases hl0 : l = 0
    · subst hl0
      have e : (if cap = (0 : Int).toNat then (⟨b', q, none⟩ : Addr) else ⟨b', q + (0 : Int).toNat * i.size, none⟩) = ⟨b', q, none⟩ := by simp
      rw [e] at hrun
      refine Does.pure (v := .slice (some ⟨b', q, none⟩) ((rows.take h.toNat).drop (0 : Int).toNat).length cap) r (by simp [hrun]; omega) ?_
      refine .slice _ z _ b' q cap (by omega) (fun row hr => hs row ?_) (fun i row j d e1 e2 => ?_) (fun i row j d u e1 e2 eu => ?_) (tag _ _ htag)
      · simp at hr; exact List.mem_of_mem_take hr
      · simp [List.getElem?_take] at e1; exact g1 i row j d e1.2 e2
      · simp [List.getElem?_take] at e1; exact g2 i row j d u e1.2 e2 eu
    · rw [if_neg hl0]
      by_cases hcap : cap = l.toNat
      · have : (rows.take h.toNat).drop l.toNat = [] := List.eq_nil_of_length_eq_zero (by omega)
        rw [this]
        rw [if_pos hcap] at hrun
        refine Does.pure (v := .slice (some ⟨b', q, none⟩) ([] : List (List D)).length (cap - l.toNat)) r (by simp [hrun]; omega) ?_
        exact .slice _ z [] b' q _ (by simp) (by simp) (by simp) (by simp) trivial
      · rw [if_neg hcap] at hrun
        refine Does.pure (v := .slice (some ⟨b', q + l.toNat * i.size, none⟩) ((rows.take h.toNat).drop l.toNat).length (cap - l.toNat)) r (by simp [hrun]; omega) ?_
        have hrow : ∀ (k : Nat) (row : List D), ((rows.take h.toNat).drop l.toNat)[k]? = some row → rows[l.toNat + k]? = some row := by
          intro k row e
          rw [List.getElem?_drop, List.getElem?_take] at e
          split at e
          · exact e
          · cases e
        have hzz : ∀ (k : Nat) (row : List D), ((rows.take h.toNat).drop l.toNat)[k]? = some row → z = i.size := by
          intro k row e
          rcases hz with rfl | hz
          · simp at e
          · exact hz
        refine .slice _ z _ b' _ _ (by omega) (fun row hr => hs row (List.mem_of_mem_take (List.mem_of_mem_drop hr))) (fun k row j d e1 e2 => ?_) (fun k row j d u e1 e2 eu => ?_) trivial
        · obtain ⟨u, hu⟩ := g1 _ row j d (hrow k row e1) e2
          refine ⟨u, ?_⟩
          rw [← hu, ← hzz k row e1]
          congr 1
          rw [Nat.add_mul]; omega
        · refine g2 _ row j d u (hrow k row e1) e2 ?_
          rw [← eu, ← hzz k row e1]
          congr 1
          rw [Nat.add_mul]; omega

/-! ### Aggregates that are built -/

theorem foldl_set (off : Nat) : ∀ (l : List Value) (k : Nat) (cells : Array Value) (i : Nat),
    ((l.zipIdx k).foldl (fun cs p => cs.setIfInBounds (off + p.2) p.1) cells).size = cells.size ∧
    (off + k + l.length ≤ cells.size → ((l.zipIdx k).foldl (fun cs p => cs.setIfInBounds (off + p.2) p.1) cells)[i]? = if off + k ≤ i ∧ i < off + k + l.length then l[i - (off + k)]? else cells[i]?)
  | [], k, cells, i => by simp; intro _ h1 h2; omega
  | v :: l, k, cells, i => by
    obtain ⟨h1, h2⟩ := foldl_set off l (k + 1) (cells.setIfInBounds (off + k) v) i
    simp only [List.zipIdx_cons, List.foldl_cons]
    refine ⟨by rw [h1]; simp, fun hfit => ?_⟩
    simp only [List.length_cons] at hfit
    rw [h2 (by simp; omega)]
    rw [Array.getElem?_setIfInBounds]
    by_cases hi : off + k = i
    · subst hi
      rw [if_neg (by omega), if_pos rfl, if_pos (by omega), if_pos (by simp)]
      simp
    · rw [if_neg hi]
      by_cases hr : off + (k + 1) ≤ i ∧ i < off + (k + 1) + l.length
      · rw [if_pos hr, if_pos (by simp; omega)]
        rw [show i - (off + k) = (i - (off + (k + 1))) + 1 by omega]
        simp
      · rw [if_neg hr, if_neg (by simp; omega)]

/-- Cells that stand for abstract cells. -/
def CellsR (M : Map) (s : St) (ds : List D) (vs : Array Value) : Prop := vs.size = ds.length ∧ (∀ v ∈ vs, v.oneCell' = true) ∧ ∀ (i : Nat) (d : D) (v : Value), ds[i]? = some d → vs[i]? = some v → RD M s d v

theorem CellsR.splice {ds : List D} {vs : Array Value} (h : CellsR M s ds vs) {d : D} {v : Value} {row : List D} (hd : RD M s d v) (hr : d.row = some row) {off : Nat} (hfit : off + row.length ≤ ds.length) :
    CellsR M s (splice ds off row) (v.cells.zipIdx.foldl (fun cs (p : Value × Nat) => cs.setIfInBounds (off + p.2) p.1) vs) := by
  obtain ⟨h1, h2, h3⟩ := hd.row hr
  obtain ⟨g1, g2, g3⟩ := h
  have e : v.cells.zipIdx.foldl (fun cs (p : Value × Nat) => cs.setIfInBounds (off + p.2) p.1) vs = (v.cells.toList.zipIdx 0).foldl (fun cs p => cs.setIfInBounds (off + p.2) p.1) vs := by
    rw [← Array.foldl_toList]; simp
  rw [e]
  have hl : v.cells.toList.length = row.length := by simpa using h1
  have fs := fun i => foldl_set off v.cells.toList 0 vs i
  have get : ∀ i, ((v.cells.toList.zipIdx 0).foldl (fun cs p => cs.setIfInBounds (off + p.2) p.1) vs)[i]? = if off ≤ i ∧ i < off + row.length then v.cells.toList[i - off]? else vs[i]? := by
    intro i
    have := (fs i).2 (by omega)
    rw [hl] at this
    simpa using this
  refine ⟨by rw [(fs 0).1, g1, length_splice ds off row hfit], fun u hu => ?_, fun i d' u e1 e2 => ?_⟩
  · obtain ⟨i, hi⟩ := Array.mem_iff_getElem?.1 hu
    rw [get] at hi
    split at hi
    · exact h2 u (Array.mem_toList_iff.1 (List.mem_of_getElem? hi))
    · exact g2 u (Array.mem_of_getElem? hi)
  · rw [getElem?_splice ds off row hfit] at e1
    rw [get] at e2
    by_cases h5 : off ≤ i
    · by_cases h6 : i < off + row.length
      · rw [if_pos ⟨h5, h6⟩] at e2
        rw [if_neg (by omega), if_pos h6] at e1
        exact h3 _ d' u e1 (by simpa using e2)
      · rw [if_neg (fun h => h6 h.2)] at e2
        rw [if_neg (by omega), if_neg h6] at e1
        exact g3 i d' u e1 e2
    · rw [if_neg (fun h => h5 h.1)] at e2
      rw [if_pos (by omega)] at e1
      exact g3 i d' u e1 e2

theorem fill_run {place : Nat → Option (Nat × Nat)} : ∀ (vp : List (Nat × Value)) (dp : List (Nat × Nat × D)) (ds : List D) (vs : Array Value) (ds' : List D), CellsR M s ds vs →
    dp.length = vp.length → (∀ (j : Nat) (i : Nat) (v : Value) (off size : Nat) (d : D), vp[j]? = some (i, v) → dp[j]? = some (off, size, d) → place i = some (off, size) ∧ RD M s d v) →
    fillD ds dp = some ds' → ∃ vs', Instr.fill place vs vp = some vs' ∧ CellsR M s ds' vs'
  | [], [], ds, vs, ds', h, _, _, e => by cases e; exact ⟨vs, rfl, h⟩
  | [], _ :: _, _, _, _, _, hl, _, _ => by simp at hl
  | _ :: _, [], _, _, _, _, hl, _, _ => by simp at hl
  | (i, v) :: vp, (off, size, d) :: dp, ds, vs, ds', h, hl, hp, e => by
    obtain ⟨h1, h2⟩ := hp 0 i v off size d rfl rfl
    unfold fillD at e
    split at e
    · cases e
    · rename_i row hr
      split at e
      · rename_i hc
        obtain ⟨c1, c2⟩ := hc
        have hsz := (h2.row hr).1
        obtain ⟨vs', f1, f2⟩ := fill_run vp dp (splice ds off row) _ ds' (h.splice h2 hr (by omega)) (by simpa using hl)
          (fun j i v off size d e1 e2 => hp (j + 1) i v off size d (by simpa using e1) (by simpa using e2)) e
        refine ⟨vs', ?_, f2⟩
        unfold Instr.fill
        simp only [h1]
        rw [if_neg]
        · exact f1
        · simp; exact ⟨by omega, by have := h.1; omega⟩
      · cases e

end
end Go.Abs
