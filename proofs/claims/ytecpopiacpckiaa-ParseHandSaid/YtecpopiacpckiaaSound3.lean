/-
  What is proved here: each abstract operation reckons what the model's operation does: reckoning, texts, slices, append.
  No conditions.
-/
import Derived.Test.YtecpopiacpckiaaSound2
import Derived.Laws.StructEq
import Derived.Laws.Slices
import Derived.Laws.Strings
namespace Go.Abs

section
variable {P : Program} {M : Map} {s : St} {w : World}

theorem toList_mk (l : List UInt8) : (⟨⟨l⟩⟩ : ByteArray).toList = l := by rw [ByteArray.toList_eq]

theorem binInt_run {op : BinOp} {t : TypeId} {k : IntKind} {a b : Int} {d : D} (h : binInt op k a b = some d) :
    ∃ v, (binOp op t (.int k a) (.int k b)).run P w = .ok v w ∧ RD M s d v := by
  cases op <;> simp only [binInt] at h <;> first
    | (cases h; done)
    | (split at h
       · cases h
       · cases h
         exact ⟨_, by simp [binOp, Op.intDiv, *], .int _ _⟩)
    | (cases h; exact ⟨_, by simp [binOp, Op.intArith], .int _ _⟩)
    | (cases h; exact ⟨_, by simp [binOp, Op.intCmp], .bool _⟩)

theorem binStr_run {op : BinOp} {t : TypeId} {a b : List UInt8} {d : D} (h : binStr op a b = some d) :
    ∃ v, (binOp op t (.string ⟨⟨a⟩⟩) (.string ⟨⟨b⟩⟩)).run P w = .ok v w ∧ RD M s d v := by
  have sz : ∀ l : List UInt8, (⟨⟨l⟩⟩ : ByteArray).size = l.length := fun _ => rfl
  cases op <;> simp only [binStr] at h <;> first
    | (cases h; done)
    | skip
  case add =>
    split at h
    · rename_i hl
      cases h
      refine ⟨.string ⟨⟨a ++ b⟩⟩, ?_, .str _⟩
      have h1 : ¬ ((((⟨⟨a⟩⟩ : ByteArray).size + (⟨⟨b⟩⟩ : ByteArray).size : Nat) : Int) > IntKind.i64.max) := by
        rw [sz, sz, IntKind.max_i64]; simp only [maxStr] at hl; omega
      simp only [binOp, Op.stringOp, h1, if_false]
      simp only [Sem.run_pure]
      congr 2
    · cases h
  case eql => cases h; exact ⟨_, by simp [binOp, Op.stringOp], .bool _⟩
  case neq => cases h; exact ⟨_, by simp [binOp, Op.stringOp], .bool _⟩
  case lss => cases h; exact ⟨_, by simp [binOp, Op.stringOp, bytesLess], .bool _⟩

theorem eqGuard_plain {op : BinOp} {t : TypeId} {x y : Operand} {a b : Value} (h : (∀ vs, a ≠ .agg vs) ∧ a ≠ .nilIface) : (eqGuard op t x y a b).run P w = .ok () w := by
  obtain ⟨h1, h2⟩ := h
  cases a <;> first
    | exact (h2 rfl).elim
    | exact (h1 _ rfl).elim
    | (cases op <;> simp [eqGuard])

theorem does_bin (r : Rel M s w) {op : BinOp} {t : TypeId} {x y : Operand} {dx dy d : D} {a b : Value} (ha : RD M s dx a) (hb : RD M s dy b) (h : binD op dx dy = some d) :
    Does P M s w (do pure (.value (← (do eqGuard op t x y a b; binOp op t a b)))) d s := by
  unfold binD at h
  split at h
  · rename_i k n k' m
    split at h
    · rename_i hk; subst hk
      rw [ha.int_inv, hb.int_inv]
      obtain ⟨v, hv, hd⟩ := binInt_run (P := P) (M := M) (s := s) (w := w) (t := t) h
      exact Does.pure r (by simp [eqGuard_plain (P := P) (w := w) (op := op) (t := t) (x := x) (y := y) (a := .int k n) (b := .int k m) ⟨by simp, by simp⟩, hv]) hd
    · cases h
  · rename_i l m
    rw [ha.str_inv, hb.str_inv]
    obtain ⟨v, hv, hd⟩ := binStr_run (P := P) (M := M) (s := s) (w := w) (t := t) h
    exact Does.pure r (by simp [eqGuard_plain (P := P) (w := w) (op := op) (t := t) (x := x) (y := y) (a := .string ⟨⟨l⟩⟩) (b := .string ⟨⟨m⟩⟩) ⟨by simp, by simp⟩, hv]) hd
  · cases h

theorem does_eqb (r : Rel M s w) {neg : Bool} {t : TypeId} {x y : Operand} {p q : Bool} (ht : P.underlying t = some .bool) :
    Does P M s w (do pure (.value (← (do eqGuard (if neg then .neq else .eql) t x y (.bool p) (.bool q); binOp (if neg then .neq else .eql) t (.bool p) (.bool q))))) (.bool (if neg then !(p == q) else p == q)) s := by
  refine Does.pure (v := .bool (if neg then !(p == q) else p == q)) r ?_ (.bool _)
  have hg := eqGuard_plain (P := P) (w := w) (op := if neg then .neq else .eql) (t := t) (x := x) (y := y) (a := .bool p) (b := .bool q) ⟨by simp, by simp⟩
  have he : (Op.equal t (.bool p) (.bool q)).run P w = .ok (p == q) w := by
    exact run_equalIn_bool w 9999 t p q ht
  cases neg
  · simp only [Bool.false_eq_true, if_false] at hg ⊢
    simp [hg, binOp, he]
  · simp only [if_true] at hg ⊢
    simp [hg, binOp, he]

theorem equalIn_nil (n : Nat) {t e : TypeId} {a : Option Addr} (ht : P.underlying t = some (.pointer e)) : (Op.equalIn (n + 1) t (.pointer a) (.pointer none)).run P w = .ok a.isNone w := by
  cases a <;> simp [Op.equalIn, run_underlying ht]

theorem does_eqp (r : Rel M s w) {neg : Bool} {t e : TypeId} {x y : Operand} {a : Option Addr} (ht : P.underlying t = some (.pointer e)) :
    Does P M s w (do pure (.value (← (do eqGuard (if neg then .neq else .eql) t x y (.pointer a) (.pointer none); binOp (if neg then .neq else .eql) t (.pointer a) (.pointer none))))) (.bool (if neg then !a.isNone else a.isNone)) s := by
  refine Does.pure (v := .bool (if neg then !a.isNone else a.isNone)) r ?_ (.bool _)
  have hg := eqGuard_plain (P := P) (w := w) (op := if neg then .neq else .eql) (t := t) (x := x) (y := y) (a := .pointer a) (b := .pointer none) ⟨by simp, by simp⟩
  have he : (Op.equal t (.pointer a) (.pointer none)).run P w = .ok a.isNone w := by
    exact equalIn_nil 9999 ht
  cases neg
  · simp only [Bool.false_eq_true, if_false] at hg ⊢
    simp [hg, binOp, he]
  · simp only [if_true] at hg ⊢
    simp [hg, binOp, he]

/-! ### Structs held against each other -/

theorem cellEq_run (n : Nat) {t : TypeId} {k : Nat} (hk : kindOf P t = some k) {x y : D} {v u : Value} (rv : RD M s x v) (ru : RD M s y u) {b : Bool} (h : cellEq k x y = some b) :
    (Op.equalIn (n + 1) t v u).run P w = .ok b w := by
  unfold kindOf at hk
  split at hk <;> first | (cases hk; done) | skip
  · rename_i kk hu
    cases hk
    cases x <;> cases y <;> simp [cellEq] at h
    obtain ⟨rfl, rfl⟩ := h
    rw [rv.int_inv, ru.int_inv]
    exact run_equalIn_int w n t _ _ _ _ hu
  · rename_i hu
    cases hk
    cases x <;> cases y <;> simp [cellEq] at h
    subst h
    rw [rv.bool_inv, ru.bool_inv]
    exact run_equalIn_bool w n t _ _ hu
  · rename_i hu
    cases hk
    cases x <;> cases y <;> simp [cellEq] at h
    subst h
    rw [rv.str_inv, ru.str_inv]
    rw [run_equalIn_string w n t _ _ hu]
    simp

theorem eqFields_run (n : Nat) : ∀ (fs : List Field) (off : Nat) (ks : List Nat) (xs ys : List D) (vs us : Array Value) (e : Bool),
    kindsOf P off fs = some ks → (∀ (i : Nat) (d : D) (v : Value), xs[i]? = some d → vs[off + i]? = some v → RD M s d v) → (∀ i, i < xs.length → (vs[off + i]?).isSome) →
    (∀ (i : Nat) (d : D) (v : Value), ys[i]? = some d → us[off + i]? = some v → RD M s d v) → (∀ i, i < ys.length → (us[off + i]?).isSome) →
    cellsEq ks xs ys = some e → (Op.eqFields (n + 1) vs us fs).run P w = .ok e w
  | [], off, ks, xs, ys, vs, us, e, hk, _, _, _, _, h => by
    cases hk
    cases xs <;> cases ys <;> simp [cellsEq] at h
    subst h; rfl
  | f :: fs, off, ks, xs, ys, vs, us, e, hk, h1, h2, h3, h4, h => by
    unfold kindsOf at hk
    split at hk
    · rename_i hf
      obtain ⟨ho, hname⟩ := hf
      split at hk
      · rename_i k ks' hk1 hk2
        cases hk
        match xs, ys with
        | [], [] => cases h
        | [], _ :: _ => cases h
        | _ :: _, [] => cases h
        | x :: xs, y :: ys =>
          obtain ⟨v, hv⟩ := Option.isSome_iff_exists.1 (h2 0 (by simp))
          obtain ⟨u, hu⟩ := Option.isSome_iff_exists.1 (h4 0 (by simp))
          simp only [Nat.add_zero] at hv hu
          have rv := h1 0 x v rfl hv
          have ru := h3 0 y u rfl hu
          have hagg : (isAgg f.type).run P w = .ok false w := by
            unfold isAgg
            unfold kindOf at hk1
            cases hu : P.underlying f.type with
            | none => rw [hu] at hk1; simp at hk1
            | some d => simp only [Sem.run_bind, run_underlying hu, Result.andThen_ok]; rw [hu] at hk1; cases d <;> simp_all
          have pv : (Go.part f.type vs f.offset).run P w = .ok v w := by simp [Go.part, hagg, ho, hv]
          have pu : (Go.part f.type us f.offset).run P w = .ok u w := by simp [Go.part, hagg, ho, hu]
          cases hc : cellEq k x y with
          | none => simp [cellsEq, hc] at h
          | some b =>
            have hb := cellEq_run (w := w) n hk1 rv ru hc
            simp only [cellsEq, hc] at h
            simp only [Op.eqFields, if_pos hname, Sem.run_bind, pv, pu, hb, Result.andThen_ok, Sem.run_ite, Sem.run_pure]
            cases b with
            | false => cases h; rfl
            | true =>
              have := eqFields_run n fs (off + 1) ks' xs ys vs us e hk2
                (fun i d v e1 e2 => h1 (i + 1) d v (by simpa using e1) (by rw [show off + (i + 1) = off + 1 + i by omega]; exact e2))
                (fun i hi => by have := h2 (i + 1) (by simpa using hi); rwa [show off + (i + 1) = off + 1 + i by omega] at this)
                (fun i d v e1 e2 => h3 (i + 1) d v (by simpa using e1) (by rw [show off + (i + 1) = off + 1 + i by omega]; exact e2))
                (fun i hi => by have := h4 (i + 1) (by simpa using hi); rwa [show off + (i + 1) = off + 1 + i by omega] at this) h
              simp [this]
      · cases hk
    · cases hk

theorem does_eqs (r : Rel M s w) {neg : Bool} {t : TypeId} {x y : Operand} {ks : List Nat} {xs ys : List D} {a b : Value} {e : Bool} (ht : plainStruct P t = some ks) (ha : RD M s (.agg xs) a) (hb : RD M s (.agg ys) b) (he : cellsEq ks xs ys = some e) :
    Does P M s w (do pure (.value (← (do eqGuard (if neg then .neq else .eql) t x y a b; binOp (if neg then .neq else .eql) t a b)))) (.bool (if neg then !e else e)) s := by
  obtain ⟨vs, rfl, hl, _, h1⟩ := ha.agg_inv
  obtain ⟨us, rfl, hl', _, h2⟩ := hb.agg_inv
  unfold plainStruct at ht
  split at ht
  · rename_i fs hu
    split at ht
    · rename_i hg
      obtain ⟨hg1, hg2⟩ := hg
      have hf : P.fieldsOf t = fs := by simp [Program.fieldsOf, hu]
      have hrun : (Op.equalIn 10000 t (.agg vs) (.agg us)).run P w = .ok e w := by
        rw [run_equalIn_struct w 9999 t vs us (by rw [hf]; exact hu) hg2, hf]
        exact eqFields_run 9998 fs.toList 0 ks xs ys vs us e ht (fun i d v e1 e2 => h1 i d v e1 (by simpa using e2)) (fun i hi => by simp; omega)
          (fun i d v e1 e2 => h2 i d v e1 (by simpa using e2)) (fun i hi => by simp; omega) he
      have hgd := run_eqGuard_agg (P := P) w (if neg then .neq else .eql) t x y vs us hg1
      refine Does.pure (v := .bool (if neg then !e else e)) r ?_ (.bool _)
      cases neg
      · simp only [Bool.false_eq_true, if_false] at hgd ⊢
        simp only [Sem.run_bind, hgd, Result.andThen_ok, run_eql_struct, hrun, Sem.run_pure]
      · simp only [if_true] at hgd ⊢
        simp only [Sem.run_bind, hgd, Result.andThen_ok, run_neq_struct, hrun, Sem.run_pure]
    · cases ht
  · cases ht

end
end Go.Abs
