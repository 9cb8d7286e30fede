/-
  What is proved here: slices that are made, and append.
  No conditions.
-/
import Derived.Test.YtecpopiacpckiaaSound4
namespace Go.Abs

section
variable {P : Program} {M : Map} {s : St} {w : World}

/-- A row of cells that begins with the elements of a slice. -/
def RowsR (M : Map) (s : St) (size : Nat) (rows : List (List D)) (vs : Array Value) : Prop :=
  rows.length * size ≤ vs.size ∧ (∀ row ∈ rows, row.length = size) ∧ (∀ v ∈ vs, v.oneCell' = true) ∧
  ∀ (i : Nat) (row : List D) (j : Nat) (d : D) (v : Value), rows[i]? = some row → row[j]? = some d → vs[i * size + j]? = some v → RD M s d v

theorem row_lt {size : Nat} {rows : List (List D)} (hs : ∀ row ∈ rows, row.length = size) {i : Nat} {row : List D} {j : Nat} {d : D} (h1 : rows[i]? = some row) (h2 : row[j]? = some d) : i * size + j < rows.length * size := by
  have hi := (List.getElem?_eq_some_iff.1 h1).1
  have hj := (List.getElem?_eq_some_iff.1 h2).1
  have := hs row (List.mem_of_getElem? h1)
  have : i * size + size ≤ rows.length * size := by rw [← Nat.succ_mul]; exact Nat.mul_le_mul_right _ hi
  omega

theorem RowsR.fixed {size : Nat} {rows : List (List D)} {vs : Array Value} (h : RowsR M s size rows vs) {M' : Map} {s' : St} (le : Le M s M' s') {b : Nat}
    (hG : ∀ o, o < rows.length * size → M'.G b o = vs[o]?) :
    (∀ (i : Nat) (row : List D) (j : Nat) (d : D), rows[i]? = some row → row[j]? = some d → ∃ u, M'.G b (0 + (i * size + j)) = some u) ∧
    (∀ (i : Nat) (row : List D) (j : Nat) (d : D) (u : Value), rows[i]? = some row → row[j]? = some d → M'.G b (0 + (i * size + j)) = some u → RD M' s' d u) := by
  obtain ⟨h1, h2, h3, h4⟩ := h
  refine ⟨fun i row j d e1 e2 => ?_, fun i row j d u e1 e2 eu => ?_⟩
  · have hlt := row_lt h2 e1 e2
    rw [Nat.zero_add, hG _ hlt]
    exact ⟨_, Array.getElem?_eq_getElem (by omega)⟩
  · have hlt := row_lt h2 e1 e2
    rw [Nat.zero_add, hG _ hlt] at eu
    exact (h4 i row j d u e1 e2 eu).mono le

/-! ### Slices of parts -/

theorem zeroRows_length (z : List D) : ∀ n, (zeroRows z n).length = n
  | 0 => rfl
  | n + 1 => by simp [zeroRows, zeroRows_length z n]

theorem zeroRows_mem (z : List D) : ∀ n, ∀ row ∈ zeroRows z n, row = z
  | 0, _, h => by cases h
  | n + 1, row, h => by
    rcases List.mem_cons.1 h with rfl | h
    · rfl
    · exact zeroRows_mem z n row h

theorem RowsR.zero {z : List D} {zs : Array Value} (h : CellsR M s z zs) (hp : 0 < z.length) (n : Nat) : RowsR M s z.length (zeroRows z n) ((Array.range (n * z.length)).map (zs[· % zs.size]!)) := by
  obtain ⟨h1, h2, h3⟩ := h
  have get : ∀ q, q < n * z.length → ((Array.range (n * z.length)).map (zs[· % zs.size]!))[q]? = zs[q % z.length]? := by
    intro q hq
    have : q % z.length < zs.size := by rw [h1]; exact Nat.mod_lt _ hp
    simp only [Array.getElem?_map, Array.getElem?_range, hq, if_true, Option.map_some]
    rw [h1, getElem!_pos zs (q % z.length) this, Array.getElem?_eq_getElem this]
  refine ⟨by simp [zeroRows_length], fun row hr => by rw [zeroRows_mem z n row hr], fun v hv => ?_, fun i row j d v e1 e2 e3 => ?_⟩
  · obtain ⟨q, hq⟩ := Array.mem_iff_getElem?.1 hv
    have hlt : q < n * z.length := by have := (Array.getElem?_eq_some_iff.1 hq).1; simpa using this
    rw [get q hlt] at hq
    exact h2 v (Array.mem_of_getElem? hq)
  · have hrow := zeroRows_mem z n row (List.mem_of_getElem? e1)
    subst hrow
    have hlt := row_lt (size := row.length) (fun r hr => by rw [zeroRows_mem row n r hr]) e1 e2
    rw [zeroRows_length] at hlt
    rw [get _ hlt] at e3
    have hj := (List.getElem?_eq_some_iff.1 e2).1
    rw [Nat.mul_comm, Nat.mul_add_mod, Nat.mod_eq_of_lt hj] at e3
    exact h3 j d v e2 e3

theorem RowsR.set {size : Nat} {rows : List (List D)} {vs : Array Value} (h : RowsR M s size rows vs) {d : D} {v : Value} {row : List D} (hd : RD M s d v) (hr : d.row = some row) (hl : row.length = size) {i : Nat} (hi : i < rows.length) :
    RowsR M s size (rows.set i row) (v.cells.zipIdx.foldl (fun cs (p : Value × Nat) => cs.setIfInBounds (i * size + p.2) p.1) vs) := by
  obtain ⟨h1, h2, h3⟩ := hd.row hr
  obtain ⟨g1, g2, g3, g4⟩ := h
  have e : v.cells.zipIdx.foldl (fun cs (p : Value × Nat) => cs.setIfInBounds (i * size + p.2) p.1) vs = (v.cells.toList.zipIdx 0).foldl (fun cs p => cs.setIfInBounds (i * size + p.2) p.1) vs := by
    rw [← Array.foldl_toList]; simp
  rw [e]
  have hl2 : v.cells.toList.length = size := by simp [h1, hl]
  have hfit : i * size + size ≤ vs.size := by
    have : (i + 1) * size ≤ rows.length * size := Nat.mul_le_mul_right _ hi
    rw [Nat.succ_mul] at this; omega
  have fs := fun q => foldl_set (i * size) v.cells.toList 0 vs q
  have get : ∀ q, ((v.cells.toList.zipIdx 0).foldl (fun cs p => cs.setIfInBounds (i * size + p.2) p.1) vs)[q]? = if i * size ≤ q ∧ q < i * size + size then v.cells.toList[q - i * size]? else vs[q]? := by
    intro q
    have := (fs q).2 (by omega)
    rw [hl2] at this
    simpa using this
  refine ⟨by rw [(fs 0).1]; simpa using g1, fun r hr' => ?_, fun u hu => ?_, fun i' row' j d' u e1 e2 e3 => ?_⟩
  · rcases List.mem_or_eq_of_mem_set hr' with h | rfl
    · exact g2 r h
    · exact hl
  · obtain ⟨q, hq⟩ := Array.mem_iff_getElem?.1 hu
    rw [get] at hq
    split at hq
    · exact h2 u (Array.mem_toList_iff.1 (List.mem_of_getElem? hq))
    · exact g3 u (Array.mem_of_getElem? hq)
  · rw [List.getElem?_set] at e1
    rw [get] at e3
    split at e1
    · rename_i heq; subst heq
      simp at e1
      obtain ⟨_, rfl⟩ := e1
      have hj := (List.getElem?_eq_some_iff.1 e2).1
      rw [if_pos (by omega)] at e3
      rw [show i * size + j - i * size = j by omega] at e3
      exact h3 j d' u e2 (by simpa using e3)
    · rename_i hne
      have hj := (List.getElem?_eq_some_iff.1 e2).1
      have hrl := g2 row' (List.mem_of_getElem? e1)
      rw [if_neg] at e3
      · exact g4 i' row' j d' u e1 e2 e3
      · rintro ⟨a, b⟩
        rcases Nat.lt_or_gt_of_ne hne with h | h
        · have : (i + 1) * size ≤ i' * size := Nat.mul_le_mul_right _ h
          rw [Nat.succ_mul] at this; omega
        · have : (i' + 1) * size ≤ i * size := Nat.mul_le_mul_right _ h
          rw [Nat.succ_mul] at this; omega

theorem fillRows_run {size : Nat} : ∀ (vp : List (Nat × Value)) (dp : List (Nat × D)) (rows : List (List D)) (vs : Array Value) (rows' : List (List D)), RowsR M s size rows vs →
    dp.length = vp.length → (∀ (j : Nat) (i : Nat) (v : Value) (i' : Nat) (d : D), vp[j]? = some (i, v) → dp[j]? = some (i', d) → i' = i ∧ RD M s d v) →
    fillRows size rows dp = some rows' → ∃ vs', Instr.fill (fun i => some (i * size, size)) vs vp = some vs' ∧ RowsR M s size rows' vs' ∧ rows'.length = rows.length ∧ vs'.size = vs.size
  | [], [], rows, vs, rows', h, _, _, e => by cases e; exact ⟨vs, rfl, h, rfl, rfl⟩
  | [], _ :: _, _, _, _, _, hl, _, _ => by simp at hl
  | _ :: _, [], _, _, _, _, hl, _, _ => by simp at hl
  | (i, v) :: vp, (i', d) :: dp, rows, vs, rows', h, hl, hp, e => by
    obtain ⟨h1, h2⟩ := hp 0 i v i' d rfl rfl
    subst h1
    unfold fillRows at e
    split at e
    · cases e
    · rename_i row hr
      split at e
      · rename_i hc
        obtain ⟨c1, c2⟩ := hc
        have hsz := (h2.row hr).1
        have hstep := h.set h2 hr c1 c2
        obtain ⟨vs', f1, f2, f3, f4⟩ := fillRows_run vp dp (rows.set i' row) _ rows' hstep (by simpa using hl)
          (fun j i v i' d e1 e2 => hp (j + 1) i v i' d (by simpa using e1) (by simpa using e2)) e
        have hfit : i' * size + size ≤ vs.size := by
          have : (i' + 1) * size ≤ rows.length * size := Nat.mul_le_mul_right _ c2
          have := h.1
          rw [Nat.succ_mul] at *; omega
        refine ⟨vs', ?_, f2, by rw [f3]; simp, ?_⟩
        · unfold Instr.fill
          simp only
          rw [if_neg]
          · exact f1
          · simp; exact ⟨by omega, by omega⟩
        · rw [f4]
          have := (foldl_set (i' * size) v.cells.toList 0 vs 0).1
          rw [← this, ← Array.foldl_toList]; simp
      · cases e

/-- A new row, wholly fixed, as a slice without room. -/
theorem full_sound (r : Rel M s w) {size : Nat} {rows : List (List D)} {vs : Array Value} (T : TypeId) (h : RowsR M s size rows vs) :
    RD (M.commit w.heap.size vs.size vs) s (.slice .full size rows) (.slice (some ⟨w.heap.size, 0, none⟩) rows.length rows.length) ∧
    Rel (M.commit w.heap.size vs.size vs) s (w.alloc (.cells vs T)) ∧ Ext M s w (M.commit w.heap.size vs.size vs) s (w.alloc (.cells vs T)) := by
  obtain ⟨r', e'⟩ := r.commit vs.size vs T (0, 0) h.2.2.1
  obtain ⟨g1, g2⟩ := h.fixed e'.le (b := w.heap.size) (fun o ho => by
    have : o < vs.size := Nat.lt_of_lt_of_le ho h.1
    simp [Map.commit, this])
  exact ⟨.slice .full size rows w.heap.size 0 rows.length (Nat.le_refl _) h.2.1 g1 g2 rfl, r', e'⟩

/-! ### append -/

theorem run_append_empty {t u ty e : TypeId} {i : TypeInfo} (ht : P.underlying t = some (.slice e)) (hi : P.info? e = some i) {base : Option Addr} {len cap : Nat} {y : Value} (hs : Src P i.size u y 0 [] w) (hc : len ≤ cap) :
    (Builtin.append_ #[t, u] ty #[.slice base len cap, y]).run P w = .ok (.slice base len cap) w := by
  have hcells := hs.cells
  rcases hs.kind with ⟨e', hk⟩ | hk <;> cases base <;> simp [Builtin.append_, run_underlying ht, run_underlying hk, sizeOf, typeInfo, hi, hs.len, hc, hcells, storeCells]

/-- The elements of a slice, as the model's append reads them. -/
theorem slice_src (r : Rel M s w) {u e' : TypeId} (hu : P.underlying u = some (.slice e')) {g : Tag} {size : Nat} {rows : List (List D)} {y : Value} (hy : RD M s (.slice g size rows) y) :
    ∃ news : List Value, Src P size u y rows.length news w ∧
      (∀ (i : Nat) (row : List D) (j : Nat) (d : D) (v : Value), rows[i]? = some row → row[j]? = some d → news[i * size + j]? = some v → RD M s d v) ∧
      ∀ (b q n c : Nat), y = .slice (some ⟨b, q, none⟩) n c → ∀ o, o < rows.length * size → M.G b (q + o) = news[o]? := by
  rcases hy.slice_inv with ⟨rfl, rfl, _⟩ | ⟨b, q, cap, rfl, hl, hs, g1, g2, _⟩
  · exact ⟨[], Src.ofNil w hu 0, by simp, by simp⟩
  · obtain ⟨us, hlen, hus⟩ := fixed_list (M := M) (b := b) (rows.length * size) q (fun k hk => by
      have hz : 0 < size := by
        rcases Nat.eq_zero_or_pos size with h | h
        · subst h; simp at hk
        · exact h
      have hi : k / size < rows.length := by rw [Nat.div_lt_iff_lt_mul hz]; exact hk
      obtain ⟨row, hrow⟩ : ∃ row, rows[k / size]? = some row := ⟨_, List.getElem?_eq_getElem hi⟩
      have hrl := hs row (List.mem_of_getElem? hrow)
      have hj : k % size < row.length := by rw [hrl]; exact Nat.mod_lt _ hz
      obtain ⟨u, hu⟩ := g1 _ row _ _ hrow (List.getElem?_eq_getElem hj)
      refine ⟨u, ?_⟩
      rw [← hu, Nat.mul_comm (k / size) size, Nat.div_add_mod])
    refine ⟨us, Src.ofSlice w hu ⟨b, q, none⟩ rows.length cap us hlen (fun j u h => by rw [addr_add]; exact (r.comm _ _ _ (hus j u h)).1) (fun u hu => ?_), fun i row j d v e1 e2 e3 => g2 i row j d v e1 e2 (hus _ v e3),
      fun b' q' n c heq o ho => by
        cases heq
        rw [hus o _ (List.getElem?_eq_getElem (by omega)), List.getElem?_eq_getElem (by omega)]⟩
    obtain ⟨j, hj⟩ := List.mem_iff_getElem?.1 hu
    exact (r.comm _ _ _ (hus j u hj)).2

/-- What a new, longer row holds. -/
theorem grown_rows {size : Nat} {rows new : List (List D)} {olds news : List Value} (hs1 : ∀ row ∈ rows, row.length = size) (hs2 : ∀ row ∈ new, row.length = size)
    (l1 : olds.length = rows.length * size) (l2 : news.length = new.length * size) (o1 : ∀ u ∈ olds, u.oneCell' = true) (o2 : ∀ u ∈ news, u.oneCell' = true)
    (h1 : ∀ (i : Nat) (row : List D) (j : Nat) (d : D) (v : Value), rows[i]? = some row → row[j]? = some d → olds[i * size + j]? = some v → RD M s d v)
    (h2 : ∀ (i : Nat) (row : List D) (j : Nat) (d : D) (v : Value), new[i]? = some row → row[j]? = some d → news[i * size + j]? = some v → RD M s d v)
    (z : Array Value) (hz : ∀ v ∈ z, v.oneCell' = true) : RowsR M s size (rows ++ new) ((olds ++ news).toArray ++ z) := by
  have hs : ∀ row ∈ rows ++ new, row.length = size := fun row h => (List.mem_append.1 h).elim (hs1 row) (hs2 row)
  refine ⟨by simp [l1, l2, Nat.add_mul], hs, fun v hv => ?_, fun i row j d v e1 e2 e3 => ?_⟩
  · simp at hv
    rcases hv with (h | h) | h
    · exact o1 v h
    · exact o2 v h
    · exact hz v h
  · have hlt := row_lt hs e1 e2
    rw [List.length_append, Nat.add_mul] at hlt
    rw [Array.getElem?_append_left (by simp [l1, l2]; omega), List.getElem?_toArray] at e3
    by_cases hi : i < rows.length
    · rw [List.getElem?_append_left hi] at e1
      have := row_lt hs1 e1 e2
      rw [List.getElem?_append_left (by omega)] at e3
      exact h1 i row j d v e1 e2 e3
    · rw [List.getElem?_append_right (by omega)] at e1
      have hge : rows.length * size ≤ i * size := Nat.mul_le_mul_right _ (by omega)
      rw [List.getElem?_append_right (by omega), l1] at e3
      refine h2 (i - rows.length) row j d v e1 e2 ?_
      rw [← e3]
      congr 1
      rw [Nat.sub_mul]; omega

theorem zeroCells_one {z : Array Value} (h : ∀ v ∈ z, v.oneCell' = true) (n : Nat) : ∀ v ∈ Builtin.zeroCells z n, v.oneCell' = true := by
  intro v hv
  unfold Builtin.zeroCells at hv
  obtain ⟨q, hq, rfl⟩ := Array.mem_map.1 hv
  have hlt : q < n * z.size := by simpa using hq
  have hz : 0 < z.size := by
    rcases Nat.eq_zero_or_pos z.size with h | h
    · rw [h] at hlt; simp at hlt
    · exact h
  have := Nat.mod_lt q hz
  rw [getElem!_pos z (q % z.size) this]
  exact h _ (Array.getElem_mem this)

/-- append, both ways. -/
theorem app_sound (r : Rel M s w) {t u ty e e' : TypeId} {i : TypeInfo} {z : Value} (ht : P.underlying t = some (.slice e)) (hu : P.underlying u = some (.slice e')) (hi : P.info? e = some i) (hz : i.zero = some z)
    (hzs : z.cells.size = i.size) (hz1 : ∀ v ∈ z.cells, v.oneCell' = true) {dx dy d : D} {x y : Value} {s' : St} (hx : RD M s dx x) (hy : RD M s dy y) (he : appD i.size i.bytes dx dy s = some (d, s')) :
    ∃ v w' M', (Builtin.append_ #[t, u] ty #[x, y]).run P w = .ok v w' ∧ Rel M' s' w' ∧ RD M' s' d v ∧ Ext M s w M' s' w' := by
  unfold appD at he
  split at he
  case h_2 => cases he
  rename_i g zx rows g' zy new
  split at he
  case isFalse => cases he
  rename_i hc
  obtain ⟨hc1, hc2, hc3⟩ := hc
  cases new with
  | nil =>
    simp only at he
    cases he
    obtain ⟨news, hs, _, _⟩ := slice_src r hu hy
    have hnews : news = [] := List.eq_nil_of_length_eq_zero (by simpa using hs.newsLen)
    subst hnews
    have hs0 : Src P i.size u y 0 [] w := by
      refine ⟨hs.kind, hs.len, ?_, ?_, by simp, by simp⟩
      · rcases hy.slice_inv with ⟨_, rfl, _⟩ | ⟨b, q, cap, rfl, _⟩
        · simp [Builtin.firstCells]
        · simp [Builtin.firstCells, loadCells, loadCellsFrom]
      · rcases hy.slice_inv with ⟨_, rfl, _⟩ | ⟨b, q, cap, rfl, _⟩
        · simp [Builtin.firstCells]
        · simp [Builtin.firstCells, loadCells, loadCellsFrom]
    rcases hx.slice_inv with ⟨_, hv, _⟩ | ⟨b, q, cap, hv, hl, _⟩
    · refine ⟨x, w, M, ?_, r, hx, Ext.refl M s w⟩
      rw [hv]
      exact run_append_empty ht hi hs0 (Nat.le_refl _)
    · refine ⟨x, w, M, ?_, r, hx, Ext.refl M s w⟩
      rw [hv]
      exact run_append_empty ht hi hs0 hl
  | cons n0 new =>
    have hne : (n0 :: new) ≠ [] := by simp
    generalize hnew : n0 :: new = new' at *
    have hzy : zy = i.size := hc2.resolve_left hne
    subst hzy
    obtain ⟨news, hs, hnews, _⟩ := slice_src r hu hy
    have hsy : ∀ row ∈ new', row.length = i.size := by
      rcases hy.slice_inv with ⟨h0, _⟩ | ⟨_, _, _, _, _, h, _⟩
      · exact (hne h0).elim
      · exact h
    have hm : 0 < new'.length := List.length_pos_iff.2 hne
    have hsmall : (rows.length + new'.length) * i.bytes ≤ 140737488355328 := by rw [Nat.mul_succ] at hc3; simp only [maxStr] at hc3; omega
    have hshort : rows.length + new'.length ≤ 1099511627776 := by rw [Nat.mul_succ] at hc3; simp only [maxStr] at hc3; omega
    -- what the first argument reads as
    obtain ⟨base, cap, olds, hxv, hle, hol, hod, hoone, hord, hsx, hoG, htag⟩ : ∃ (base : Option Addr) (cap : Nat) (olds : List Value), x = .slice base rows.length cap ∧ rows.length ≤ cap ∧ olds.length = rows.length * i.size ∧
        (Builtin.firstCells i.size rows.length (.slice base rows.length cap)).run P w.drew = .ok olds.toArray w.drew ∧ (∀ u ∈ olds, u.oneCell' = true) ∧
        (∀ (k : Nat) (row : List D) (j : Nat) (d : D) (v : Value), rows[k]? = some row → row[j]? = some d → olds[k * i.size + j]? = some v → RD M s d v) ∧ (∀ row ∈ rows, row.length = i.size) ∧
        (∀ b q, base = some ⟨b, q, none⟩ → ∀ o, o < rows.length * i.size → M.G b (q + o) = olds[o]?) ∧
        ((base = none ∧ rows = [] ∧ TagOk M s g zx 0 none cap) ∨ ∃ b q, base = some ⟨b, q, none⟩ ∧ TagOk M s g zx rows.length (some (b, q)) cap) := by
      rcases hc1 with h0 | h0
      · subst h0
        rcases hx.slice_inv with ⟨_, hv, htag⟩ | ⟨b, q, cap, hv, hl, _, _, _, htag⟩
        · exact ⟨none, 0, [], hv, Nat.le_refl _, by simp, by simp [Builtin.firstCells], by simp, by simp, by simp, by simp, .inl ⟨rfl, rfl, htag⟩⟩
        · exact ⟨some ⟨b, q, none⟩, cap, [], hv, hl, by simp, by simp [Builtin.firstCells, loadCells, loadCellsFrom], by simp, by simp, by simp, by simp, .inr ⟨b, q, rfl, htag⟩⟩
      · subst h0
        obtain ⟨olds, ho1, ho2, ho3⟩ := slice_src r ht hx
        rcases hx.slice_inv with ⟨h0, hv, htag⟩ | ⟨b, q, cap, hv, hl, hs', _, _, htag⟩
        · subst h0
          refine ⟨none, 0, olds, hv, Nat.le_refl _, ho1.newsLen, ?_, ho1.one, ho2, by simp, by simp, .inl ⟨rfl, rfl, htag⟩⟩
          have := ho1.cellsD; rw [hv] at this; exact this
        · refine ⟨some ⟨b, q, none⟩, cap, olds, hv, hl, ho1.newsLen, ?_, ho1.one, ho2, hs', fun b' q' heq o ho => ?_, .inr ⟨b, q, rfl, htag⟩⟩
          · have := ho1.cellsD; rw [hv] at this; exact this
          · cases heq; exact ho3 b q _ cap hv o ho
    subst hxv
    -- the way that makes a new row
    have grow : ∀ (hg : cap < rows.length + new'.length), ∃ (w' : World) (M1 : Map) (vs : Array Value) (ncap : Nat),
        (Builtin.append_ #[t, u] ty #[.slice base rows.length cap, y]).run P w = .ok (.slice (some ⟨w.heap.size, 0, none⟩) (rows.length + new'.length) ncap) w' ∧
        w'.heap[w.heap.size]? = some (.cells vs e (0, 0)) ∧ vs.size = ncap * i.size ∧ rows.length + new'.length ≤ ncap ∧ M1 = M.commit w.heap.size ((rows.length + new'.length) * i.size) vs ∧
        RowsR M s i.size (rows ++ new') vs ∧ Rel M1 s w' ∧ Ext M s w M1 s w' := by
      intro hg
      have hge := grownCap_ge w (rows.length + new'.length) cap e
      have hrun := run_append_grow_src (P := P) w t u ty e i z ht hi hz base rows.length cap olds hod y new'.length news hs hg (by omega) (growslice_fits hg hsmall)
      have hrow := grown_rows (M := M) (s := s) hsx hsy hol hs.newsLen hoone hs.one hord hnews (Builtin.zeroCells z.cells (grownCap w (rows.length + new'.length) cap e - (rows.length + new'.length))) (zeroCells_one hz1 _)
      obtain ⟨r1, e1⟩ := (r.of_heap (w' := w.drew) rfl).commit ((rows.length + new'.length) * i.size) _ e (0, 0) hrow.2.2.1
      refine ⟨_, _, _, _, hrun, heap_alloc_new w.drew _, ?_, hge, rfl, hrow, r1, (Ext.of_heap (M := M) (s := s) (w := w) (w' := w.drew) rfl rfl rfl rfl).trans e1⟩
      simp only [Array.size_append, List.size_toArray, List.length_append, size_zeroCells, hzs, hol, hs.newsLen, ← Nat.add_mul]
      congr 1; omega
    have hlen : (rows ++ new').length = rows.length + new'.length := by simp
    cases g with
    | shared => simp only [← hnew] at he; cases he
    | full =>
      have hcap : cap = rows.length := by
        rcases htag with ⟨_, h0, h1⟩ | ⟨_, _, _, h1⟩
        · subst h0; exact h1
        · exact h1
      obtain ⟨w', M1, vs, ncap, hrun, hh, hsz, hn, hM1, hrow, r1, e1⟩ := grow (by omega)
      simp only [← hnew] at he
      simp only [hnew] at he
      cases he
      obtain ⟨r2, l2⟩ := r1.pushT (rows.length + new'.length) w.heap.size ncap i.size vs e hh hsz hn
        (fun off ho => by rw [hM1]; simp [Map.commit]; omega)
        (fun o ho => by have := r.mu_lt ho; rw [hM1]; show M.mu o ≠ _; omega) (fun q c z' hl heq => by
          have : M.be q = some (w.heap.size, c, z') := by rw [hM1] at heq; exact heq
          have := r.be_lt hl this; omega)
      refine ⟨_, w', _, hrun, r2, ?_, ?_⟩
      · obtain ⟨f1, f2⟩ := hrow.fixed (e1.le.trans l2) (b := w.heap.size) (fun o ho => by
          rw [hM1, hlen] at *
          simp [Map.setT, Map.commit, ho])
        have key := RD.slice (M := M1.setT s.toks.length (some (w.heap.size, ncap, i.size))) (s := { s with toks := s.toks ++ [some (rows.length + new'.length)] }) (.tok s.toks.length) i.size (rows ++ new') w.heap.size 0 ncap (by rw [hlen]; exact hn) hrow.2.1 f1 f2
          ⟨by simp, fun n hn' => by
            simp at hn'
            subst hn'
            exact ⟨by rw [hlen]; exact Nat.le_refl _, fun _ => .inr ⟨_, rfl, by simp [Map.setT]⟩⟩⟩
        rw [hlen] at key
        exact key
      · refine ⟨e1.le.trans l2, e1.kept, e1.newO, fun q b c z' hl heq => ?_, e1.newG, e1.size, e1.os, e1.tape, e1.output⟩
        obtain ⟨k, hk⟩ := hl
        rcases Nat.lt_or_ge q s.toks.length with h | h
        · have heq' : M1.be q = some (b, c, z') := by
            have : (M1.setT s.toks.length (some (w.heap.size, ncap, i.size))).be q = M1.be q := by simp [Map.setT]; omega
            rw [this] at heq; exact heq
          simp only [List.getElem?_append_left h] at hk
          exact e1.newT q b c z' ⟨k, hk⟩ heq'
        · have := (List.getElem?_eq_some_iff.1 hk).1
          simp at this
          have : q = s.toks.length := by omega
          subst this
          have : (M1.setT s.toks.length (some (w.heap.size, ncap, i.size))).be s.toks.length = some (w.heap.size, ncap, i.size) := by simp [Map.setT]
          rw [this] at heq; cases heq
          exact .inr (Nat.le_refl _)
    | tok q =>
      simp only [← hnew] at he
      simp only [hnew] at he
      split at he
      case isFalse => cases he
      rename_i hq
      obtain ⟨hzx, hq⟩ := hq
      cases he
      have hmove : ∀ (hg : cap < rows.length + new'.length), ∃ v w' M', (Builtin.append_ #[t, u] ty #[.slice base rows.length cap, y]).run P w = .ok v w' ∧ Rel M' { s with toks := s.toks.set q (some (rows.length + new'.length)) } w' ∧
          RD M' { s with toks := s.toks.set q (some (rows.length + new'.length)) } (.slice (.tok q) i.size (rows ++ new')) v ∧ Ext M s w M' { s with toks := s.toks.set q (some (rows.length + new'.length)) } w' := by
        intro hg
        obtain ⟨w', M1, vs, ncap, hrun, hh, hsz, hn, hM1, hrow, r1, e1⟩ := grow hg
        have hql : q < s.toks.length := (List.getElem?_eq_some_iff.1 hq).1
        obtain ⟨r2, l2⟩ := r1.moveT q rows.length (rows.length + new'.length) w.heap.size ncap i.size vs e hq (by omega) hh hsz hn
          (fun off ho => by rw [hM1]; simp [Map.commit]; omega)
          (fun o ho => by have := r.mu_lt ho; rw [hM1]; show M.mu o ≠ _; omega) (fun q c z' hl heq => by
            have : M.be q = some (w.heap.size, c, z') := by rw [hM1] at heq; exact heq
            have := r.be_lt hl this; omega)
        refine ⟨_, w', _, hrun, r2, ?_, ?_⟩
        · obtain ⟨f1, f2⟩ := hrow.fixed (e1.le.trans l2) (b := w.heap.size) (fun o ho => by
            rw [hM1, hlen] at *
            simp [Map.setT, Map.commit, ho])
          have key := RD.slice (M := M1.setT q (some (w.heap.size, ncap, i.size))) (s := { s with toks := s.toks.set q (some (rows.length + new'.length)) }) (.tok q) i.size (rows ++ new') w.heap.size 0 ncap (by rw [hlen]; exact hn) hrow.2.1 f1 f2
            ⟨by simp [hql], fun n hn' => by
              simp [hql] at hn'
              subst hn'
              exact ⟨by rw [hlen]; exact Nat.le_refl _, fun _ => .inr ⟨_, rfl, by simp [Map.setT]⟩⟩⟩
          rw [hlen] at key
          exact key
        · refine ⟨e1.le.trans l2, e1.kept, e1.newO, fun q' b c z' hl heq => ?_, e1.newG, e1.size, e1.os, e1.tape, e1.output⟩
          obtain ⟨k, hk⟩ := hl
          by_cases h : q' = q
          · subst h
            have : (M1.setT q' (some (w.heap.size, ncap, i.size))).be q' = some (w.heap.size, ncap, i.size) := by simp [Map.setT]
            rw [this] at heq; cases heq
            exact .inr (Nat.le_refl _)
          · have heq' : M1.be q' = some (b, c, z') := by
              have : (M1.setT q (some (w.heap.size, ncap, i.size))).be q' = M1.be q' := by simp [Map.setT, h]
              rw [this] at heq; exact heq
            simp only [List.getElem?_set_ne (Ne.symm h)] at hk
            exact e1.newT q' b c z' ⟨k, hk⟩ heq'
      rcases htag with ⟨rfl, rfl, h1⟩ | ⟨b, k, rfl, h1⟩
      · obtain ⟨_, h2⟩ := h1
        obtain ⟨_, h3⟩ := h2 _ hq
        rcases h3 rfl with ⟨_, h4⟩ | ⟨b, h4, _⟩
        · exact hmove (by simp; omega)
        · cases h4
      · obtain ⟨_, h2⟩ := h1
        obtain ⟨_, h3⟩ := h2 _ hq
        rcases h3 rfl with ⟨_, h4⟩ | ⟨b2, h4, hbe⟩
        · exact hmove (by omega)
        cases h4
        subst hzx
        by_cases hroom : rows.length + new'.length ≤ cap
        · rcases r.tok q rows.length hq with ⟨h4, _⟩ | ⟨b', cap', size', vs, T, h4, h5, h6, h7, h8⟩
          · rw [hbe] at h4; cases h4
          · rw [hbe] at h4; cases h4
            obtain ⟨r2, e2⟩ := r.growT q rows.length new'.length b cap i.size news hq hbe hs.newsLen hroom hm hs.one vs T h5 h6
            have hfit : rows.length * i.size + news.length ≤ vs.size := by rw [hs.newsLen, h6, ← Nat.add_mul]; exact Nat.mul_le_mul_right _ hroom
            have hst := run_storeCells_at P b (rows.length * i.size) T news 0 vs w h5 (by simpa using hfit) hs.one
            simp only [Nat.add_zero] at hst
            have hrun : (Builtin.append_ #[t, u] ty #[.slice (some ⟨b, 0, none⟩) rows.length cap, y]).run P w = .ok (.slice (some ⟨b, 0, none⟩) (rows.length + new'.length) cap) (w.setRow b (vs.toList.take (rows.length * i.size) ++ news ++ vs.toList.drop (rows.length * i.size + news.length)).toArray) := by
              rcases hs.kind with ⟨e'', hk⟩ | hk <;> simp [Builtin.append_, run_underlying ht, run_underlying hk, sizeOf, typeInfo, hi, hs.len, hroom, hs.cells, Addr.add_lit, hst]
            refine ⟨_, _, _, hrun, r2, ?_, e2⟩
            have hG : ∀ o, o < (rows ++ new').length * i.size → (M.fix b (rows.length * i.size) news).G b o = (olds ++ news).toArray[o]? := by
              intro o ho
              rw [hlen, Nat.add_mul] at ho
              rw [List.getElem?_toArray]
              by_cases h9 : o < rows.length * i.size
              · rw [List.getElem?_append_left (by omega)]
                have : (M.fix b (rows.length * i.size) news).G b o = M.G b o := by simp [Map.fix]; omega
                rw [this]
                have := hoG b 0 rfl o h9
                rwa [Nat.zero_add] at this
              · rw [List.getElem?_append_right (by omega), hol]
                have : (M.fix b (rows.length * i.size) news).G b o = news[o - rows.length * i.size]? := by
                  simp only [Map.fix]; rw [if_pos ⟨trivial, by omega, by rw [hs.newsLen]; omega⟩]
                rw [this]
            have hrow := grown_rows (M := M) (s := s) hsx hsy hol hs.newsLen hoone hs.one hord hnews #[] (by simp)
            rw [Array.append_empty] at hrow
            obtain ⟨f1, f2⟩ := hrow.fixed e2.le (b := b) hG
            have hql : q < s.toks.length := (List.getElem?_eq_some_iff.1 hq).1
            have key := RD.slice (M := M.fix b (rows.length * i.size) news) (s := { s with toks := s.toks.set q (some (rows.length + new'.length)) }) (.tok q) i.size (rows ++ new') b 0 cap (by rw [hlen]; exact hroom) hrow.2.1 f1 f2
              ⟨by simp [hql], fun n hn' => by
                simp [hql] at hn'
                subst hn'
                exact ⟨by rw [hlen]; exact Nat.le_refl _, fun _ => .inr ⟨_, rfl, hbe⟩⟩⟩
            rw [hlen] at key
            exact key
        · exact hmove (by omega)

end
end Go.Abs
