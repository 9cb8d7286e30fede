/-
  What is proved here: whatever operation is turned into an abstract one does what that one reckons.
  No conditions.
-/
import Derived.Test.YtecpopiacpckiaaSound6
import Derived.Laws.IdiomStrings
import Derived.Laws.BytesString
namespace Go.Abs

section
variable {P : Program} {M : Map} {s : St} {w : World}

theorem foldl_push (ns : List Int) : ∀ r : ByteArray, ns.foldl (fun r n => r.push (UInt8.ofNat n.toNat)) r = ⟨r.data ++ (ns.map fun n => UInt8.ofNat n.toNat).toArray⟩ := by
  induction ns with
  | nil => intro r; simp
  | cons n ns ih => intro r; simp only [List.foldl_cons]; rw [ih]; simp [ByteArray.push]

theorem bytesOfRows_ints : ∀ {rows : List (List D)} {l : List UInt8}, bytesOfRows rows = some l → ∃ ns : List Int, rows = ns.map (fun n => [.int .u8 n]) ∧ l = ns.map fun n => UInt8.ofNat n.toNat
  | [], l, h => by cases h; exact ⟨[], rfl, rfl⟩
  | r :: rs, l, h => by
    unfold bytesOfRows at h
    split at h
    · rename_i b bs h1 h2
      cases h
      obtain ⟨ns, g1, g2⟩ := bytesOfRows_ints h2
      unfold byteOfRow at h1
      split at h1
      · rename_i n
        cases h1
        exact ⟨n :: ns, by rw [g1]; rfl, by rw [g2]; rfl⟩
      · cases h1
    · cases h

theorem does_tostr (r : Rel M s w) {src dst e : TypeId} {g : Tag} {z : Nat} {rows : List (List D)} {v : Value} {l : List UInt8} (hs : P.underlying src = some (.slice e)) (he : P.underlying e = some (.int .u8)) (hd : P.underlying dst = some .string)
    (hv : RD M s (.slice g z rows) v) (hb : bytesOfRows rows = some l) : Does P M s w (do pure (.value (← convert src dst v))) (.str l) s := by
  obtain ⟨ns, rfl, rfl⟩ := bytesOfRows_ints hb
  refine Does.pure (v := .string ⟨⟨ns.map fun n => UInt8.ofNat n.toNat⟩⟩) r ?_ (.str _)
  rcases hv.slice_inv with ⟨h0, rfl, _⟩ | ⟨b, q, cap, rfl, hl, hsz, g1, g2, _⟩
  · have : ns = [] := by simpa using h0
    subst this
    have := run_convert_bytes_string w src dst e none 0 0 hs he hd
    simp only [Sem.run_bind, this, Conv.bytesToString, Sem.run_pure, Result.andThen_ok]
    rfl
  · have hcells := run_loadCells_list (P := P) w ⟨b, q, none⟩ (ns.map (Value.int .u8)) (fun j v hj => by
      rw [addr_add]
      simp only [List.getElem?_map, Option.map_eq_some_iff] at hj
      obtain ⟨n, hn, rfl⟩ := hj
      have hrow : (ns.map (fun n => [D.int .u8 n]))[j]? = some [.int .u8 n] := by simp [hn]
      have hz : z = 1 := by have := hsz [.int .u8 n] (List.mem_of_getElem? hrow); simpa using this.symm
      subst hz
      obtain ⟨u, hu⟩ := g1 j _ 0 _ hrow rfl
      have := g2 j _ 0 _ u hrow rfl hu
      rw [this.int_inv] at hu
      have := (r.comm _ _ _ hu).1
      simpa using this)
    simp only [List.length_map] at hcells ⊢
    have h1 := run_bytesToString (P := P) w ⟨b, q, none⟩ ns.length cap ns hcells
    have h2 := run_convert_bytes_string w src dst e (some ⟨b, q, none⟩) ns.length cap hs he hd
    simp only [Sem.run_bind, h2, h1, Sem.run_pure, Result.andThen_ok, foldl_push]
    congr 3
    simp [ByteArray.empty, ByteArray.emptyWithCapacity]
    rfl

theorem does_tobytes (r : Rel M s w) {src dst e : TypeId} {l : List UInt8} (hs : P.underlying src = some .string) (hd : P.underlying dst = some (.slice e)) (he : P.underlying e = some (.int .u8)) :
    Does P M s w (do pure (.value (← convert src dst (.string ⟨⟨l⟩⟩)))) (.slice .shared 1 (l.map fun c => [.int .u8 c.toNat])) s := by
  have hrun := run_bytes_of_string (P := P) w src dst e ⟨⟨l⟩⟩ hs hd he
  generalize hcap : grownCap w (ByteArray.size ⟨⟨l⟩⟩) 0 e = cap at hrun
  have hge : l.length ≤ cap := by rw [← hcap]; exact grownCap_ge w l.length 0 e
  have hrow : ∀ j, j < l.length → (bytesRow ⟨⟨l⟩⟩ cap)[j]? = some (.int .u8 ((l[j]?.getD 0).toNat : Int)) := by
    intro j hj
    unfold bytesRow
    rw [Array.getElem?_append_left (by simpa using hj)]
    simp [hj]
  have hsz : (bytesRow ⟨⟨l⟩⟩ cap).size = cap := by simp [bytesRow, mk_size]; omega
  have hone : ∀ v ∈ bytesRow ⟨⟨l⟩⟩ cap, v.oneCell' = true := by
    intro v hv
    unfold bytesRow at hv
    simp at hv
    rcases hv with ⟨a, _, rfl⟩ | ⟨_, rfl⟩ <;> rfl
  have hR : RowsR M s 1 (l.map fun c => [D.int .u8 c.toNat]) (bytesRow ⟨⟨l⟩⟩ cap) := by
    refine ⟨by simp [hsz]; omega, by simp, hone, fun i row j d v e1 e2 e3 => ?_⟩
    simp only [List.getElem?_map, Option.map_eq_some_iff] at e1
    obtain ⟨c, hc, rfl⟩ := e1
    cases j with
    | zero =>
      simp at e2; subst e2
      have hi := (List.getElem?_eq_some_iff.1 hc).1
      rw [show i * 1 + 0 = i by omega, hrow i hi, hc] at e3
      cases e3
      exact .int _ _
    | succ j => simp at e2
  obtain ⟨r1, e1⟩ := (r.of_heap (w' := w.drew) rfl).commit l.length (bytesRow ⟨⟨l⟩⟩ cap) e ((bytesRow ⟨⟨l⟩⟩ cap).size, (bytesRow ⟨⟨l⟩⟩ cap).size + 1) hone
  obtain ⟨f1, f2⟩ := hR.fixed e1.le (b := w.heap.size) (fun o ho => by simp at ho; simp [Map.commit, ho])
  refine ⟨.slice (some ⟨w.heap.size, 0, none⟩) l.length cap, _, _, .inl (by simp only [Sem.run_bind, hrun, Result.andThen_ok, Sem.run_pure]; rfl), r1, ?_, (Ext.of_heap (M := M) (s := s) (w := w) (w' := w.drew) rfl rfl rfl rfl).trans e1⟩
  have key := RD.slice (M := M.commit w.heap.size l.length (bytesRow ⟨⟨l⟩⟩ cap)) (s := s) .shared 1 (l.map fun c => [D.int .u8 c.toNat]) w.heap.size 0 cap (by simpa using hge) hR.2.1 f1 f2 trivial
  simp only [List.length_map] at key
  exact key

/-- A slice turned into a slice of the same kind: a mark is laid behind its row; nobody appends to it any more. -/
theorem does_frz (r : Rel M s w) {t e : TypeId} {q z : Nat} {rows : List (List D)} {v : Value} (ht : P.underlying t = some (.slice e)) (he : P.underlying e = some (.int .u8)) (hv : RD M s (.slice (.tok q) z rows) v) (hne : rows ≠ []) (hq : s.toks[q]? = some (some rows.length)) :
    Does P M s w (do pure (.value (← convert t t v))) (.slice .shared z rows) { s with toks := s.toks.set q none } := by
  rcases hv.slice_inv with ⟨h0, _, _⟩ | ⟨b, k, cap, rfl, hl, hsz, g1, g2, htag⟩
  · exact (hne h0).elim
  · obtain ⟨_, h2⟩ := htag
    obtain ⟨_, h3⟩ := h2 _ hq
    rcases h3 rfl with ⟨_, h4⟩ | ⟨b2, h4, hbe⟩
    · subst h4
      exact (hne (List.eq_nil_of_length_eq_zero (Nat.le_zero.1 hl))).elim
    cases h4
    obtain ⟨r1, l1⟩ := r.dropT q
    rcases r.tok q rows.length hq with ⟨h4, _⟩ | ⟨b', cap', size', vs, T, h4, h5, h6, h7, h8⟩
    · rw [hbe] at h4; cases h4
    · rw [hbe] at h4; cases h4
      have hlive : ∀ p, St.live { s with toks := s.toks.set q none } p → p ≠ q ∧ s.live p := by
        rintro p ⟨n, hn⟩
        rw [List.getElem?_set] at hn
        split at hn
        · simp at hn
        · rename_i hne; exact ⟨fun h => hne h.symm, n, hn⟩
      obtain ⟨r2, hh, hs', ho, htp, hout⟩ := r1.freeze (b := b) vs.size 1 (fun o ho => r.tokObj q b cap z o ⟨_, hq⟩ hbe ho)
        (fun p c y hp heq => (hlive p hp).1 (r.tokInj p q b c y cap z (hlive p hp).2 ⟨_, hq⟩ heq hbe))
      have hshape : w.shape? b = some (T, vs.size) := by simp [World.shape?, h5]
      refine ⟨.slice (some ⟨b, 0, none⟩) rows.length cap, _, M, .inl ?_, r2, ?_, ?_⟩
      · simp [convert, run_underlying ht, run_underlying he, markStringish, hshape]
      · have h9 := (RD.slice (M := M) (s := s) .shared z rows b 0 cap hl hsz g1 g2 trivial).mono l1
        exact h9
      · refine ⟨l1, fun p _ _ h4 => hh p (fun e => h4 q cap z ⟨_, hq⟩ (by rw [hbe, e])), fun o h3 h4 => ?_, fun p b' c y hp heq => .inl ⟨(hlive p hp).2, c, y, heq⟩, fun _ _ h => (h rfl).elim, by rw [hs']; exact Nat.le_refl _, ho, htp, hout⟩
        simp at h4; omega

/-- A new row with a token of its own. -/
theorem tok_sound (r : Rel M s w) {size : Nat} {rows : List (List D)} {vs : Array Value} (T : TypeId) (h : RowsR M s size rows vs) (hsz : vs.size = rows.length * size) :
    ∃ M', RD M' { s with toks := s.toks ++ [some rows.length] } (.slice (.tok s.toks.length) size rows) (.slice (some ⟨w.heap.size, 0, none⟩) rows.length rows.length) ∧
    Rel M' { s with toks := s.toks ++ [some rows.length] } (w.alloc (.cells vs T)) ∧ Ext M s w M' { s with toks := s.toks ++ [some rows.length] } (w.alloc (.cells vs T)) := by
  obtain ⟨r1, e1⟩ := r.commit vs.size vs T (0, 0) h.2.2.1
  obtain ⟨r2, l2⟩ := r1.pushT rows.length w.heap.size rows.length size vs T (heap_alloc_new w _) hsz (Nat.le_refl _)
    (fun off ho => by simp [Map.commit]; omega) (fun o ho => by have := r.mu_lt ho; show M.mu o ≠ _; omega)
    (fun q c z' hl heq => by have := r.be_lt hl (show M.be q = some (w.heap.size, c, z') from heq); omega)
  obtain ⟨f1, f2⟩ := h.fixed (e1.le.trans l2) (b := w.heap.size) (fun o ho => by
    have : o < vs.size := Nat.lt_of_lt_of_le ho h.1
    simp [Map.setT, Map.commit, this])
  refine ⟨_, ?_, r2, ?_⟩
  · exact .slice _ size rows w.heap.size 0 rows.length (Nat.le_refl _) h.2.1 f1 f2 ⟨by simp, fun n hn => by
      simp at hn; subst hn
      exact ⟨Nat.le_refl _, fun _ => .inr ⟨_, rfl, by simp [Map.setT]⟩⟩⟩
  · refine ⟨e1.le.trans l2, e1.kept, e1.newO, fun q b c z' hl heq => ?_, e1.newG, e1.size, e1.os, e1.tape, e1.output⟩
    obtain ⟨k, hk⟩ := hl
    rcases Nat.lt_or_ge q s.toks.length with h' | h'
    · have heq' : M.be q = some (b, c, z') := by
        have : ((M.commit w.heap.size vs.size vs).setT s.toks.length (some (w.heap.size, rows.length, size))).be q = M.be q := by simp [Map.setT, Map.commit]; omega
        rw [this] at heq; exact heq
      simp only [List.getElem?_append_left h'] at hk
      exact .inl ⟨⟨k, hk⟩, c, z', heq'⟩
    · have := (List.getElem?_eq_some_iff.1 hk).1
      simp at this
      have : q = s.toks.length := by omega
      subst this
      have : ((M.commit w.heap.size vs.size vs).setT s.toks.length (some (w.heap.size, rows.length, size))).be s.toks.length = some (w.heap.size, rows.length, size) := by simp [Map.setT]
      rw [this] at heq; cases heq
      exact .inr (Nat.le_refl _)

end
end Go.Abs
