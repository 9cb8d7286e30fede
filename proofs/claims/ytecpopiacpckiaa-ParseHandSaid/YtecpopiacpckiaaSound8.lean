/-
  What is proved here: whatever operation is turned into an abstract one does what that one reckons.
  No conditions.
-/
import Derived.Test.YtecpopiacpckiaaSound7
namespace Go.Abs

section
variable {P : Program} {M : Map} {s : St} {w : World}

theorem cXo_lo {lo : Option Operand} {lo' : Option X} {tm : Tm} {act : Act} (hr : RTm M s tm act.tmps) (h : cXo lo = some lo') {l : Int} (hl : loD (lo'.map (·.ev tm)) = some l) : LoR (lo.map act.eval) l := by
  cases lo with
  | none => cases h; simp only [Option.map_none, loD, Option.some.injEq] at hl; exact .inl ⟨rfl, hl.symm⟩
  | some x =>
    obtain ⟨y, hy, rfl⟩ := map_some (f := some) h
    have := cX_sound hy hr
    simp only [Option.map_some] at hl ⊢
    cases hd : y.ev tm <;> rw [hd] at hl this <;> simp only [loD] at hl <;> try (cases hl; done)
    cases hl
    rw [this.int_inv]
    exact .inr ⟨_, rfl⟩

theorem cXo_hi {hi : Option Operand} {hi' : Option X} {tm : Tm} {act : Act} (hr : RTm M s tm act.tmps) (h : cXo hi = some hi') {len : Nat} {l : Int} (hl : hiD (hi'.map (·.ev tm)) len = some l) : HiR (hi.map act.eval) len l := by
  cases hi with
  | none => cases h; simp only [Option.map_none, hiD, Option.some.injEq] at hl; exact .inl ⟨rfl, hl.symm⟩
  | some x =>
    obtain ⟨y, hy, rfl⟩ := map_some (f := some) h
    have := cX_sound hy hr
    simp only [Option.map_some] at hl ⊢
    cases hd : y.ev tm <;> rw [hd] at hl this <;> simp only [hiD] at hl <;> try (cases hl; done)
    cases hl
    rw [this.int_inv]
    exact .inr ⟨_, rfl⟩

theorem part_field {t : TypeId} {f off size : Nat} {agg : Bool} (h : fieldAtT P t f = some (off, size, agg)) {cs : List D} {vs : Array Value} (hl : cs.length = vs.size) (h1 : ∀ v ∈ vs, v.oneCell' = true)
    (h2 : ∀ (i : Nat) (d : D) (v : Value), cs[i]? = some d → vs[i]? = some v → RD M s d v) {d : D} (hp : part cs off agg size = some d) (r : Rel M s w) :
    Does P M s w (do pure (.value (← Instr.field t (.agg vs) f))) d s := by
  let n := if agg then size else 1
  have hfit : off + n ≤ vs.size := by
    rcases part_some hp with ⟨rfl, h1, _⟩ | ⟨rfl, h1⟩
    · simp [n]; omega
    · have := (List.getElem?_eq_some_iff.1 h1).1; simp [n]; omega
  have hlen : ((vs.toList.drop off).take n).length = n := by simp; omega
  have hget : ∀ (j : Nat), j < ((vs.toList.drop off).take n).length → vs[off + j]? = ((vs.toList.drop off).take n)[j]? := by
    intro j h
    rw [hlen] at h
    rw [List.getElem?_take, if_pos h, List.getElem?_drop]; simp
  refine Does.pure (v := if agg then .agg ((vs.toList.drop off).take n).toArray else ((vs.toList.drop off).take n).getD 0 Go.undef) r (by simp only [Sem.run_bind, field_run h vs _ hlen hget, Result.andThen_ok, Sem.run_pure]) ?_
  refine part_sound hp _ hlen (fun _ u hu => h1 u (Array.mem_toList_iff.1 (List.mem_of_mem_drop (List.mem_of_mem_take hu)))) (fun j d u e1 e2 => h2 _ d u e1 ?_)
  rw [hget j (List.getElem?_eq_some_iff.1 e2).1]; exact e2

/-- The whole: whatever is turned into an abstract operation does what that one reckons. -/
theorem evalO_sound {o : Oper} {ao : AO} {tm : Tm} {act : Act} {d : D} {s' : St} (hc : cOp P o = some ao) (r : Rel M s w) (hr : RTm M s tm act.tmps) (he : evalO ao tm s = some (d, s')) :
    Does P M s w (execOp act.eval o) d s' := by
  obtain ⟨dst, op, type, pos, after, guard⟩ := o
  unfold cOp at hc
  simp only at hc
  cases op with
  | move x =>
    obtain ⟨y, hy, rfl⟩ := map_some hc
    cases he
    exact Does.pure r rfl (cX_sound hy hr)
  | assign x =>
    obtain ⟨y, hy, rfl⟩ := map_some hc
    cases he
    exact Does.pure r rfl (cX_sound hy hr)
  | pick c a b =>
    simp only at hc
    split at hc
    · rename_i c' a' b' h1 h2 h3
      cases hc
      simp only [evalO] at he
      split at he
      · rename_i t ht
        cases he
        have hcb := cX_sound h1 hr
        rw [ht] at hcb
        have := hcb.bool_inv
        refine Does.pure (v := if t then act.eval a else act.eval b) r ?_ ?_
        · simp only [execOp, this, asBool]
          simp
        · cases t
          · exact cX_sound h3 hr
          · exact cX_sound h2 hr
      · cases he
    · cases hc
  | alloc t =>
    obtain ⟨z, hz, rfl⟩ := map_some hc
    cases he
    exact does_alloc r hz
  | box t x =>
    obtain ⟨y, hy, rfl⟩ := map_some hc
    simp only [evalO] at he
    split at he
    · rename_i row hrow
      cases he
      exact does_box r (cX_sound hy hr) hrow
    · cases he
  | build t parts =>
    simp only at hc
    split at hc
    · rename_i fs z ps h1 h2 h3
      split at hc
      · rename_i hfs
        cases hc
        simp only [evalO] at he
        split at he
        · rename_i cs hcs
          cases he
          have := does_build r hr h1 hfs h2 h3 hcs
          simpa [execOp] using this
        · cases he
      · cases hc
    · cases hc
  | buildSlice t n parts =>
    simp only at hc
    split at hc
    · rename_i e hu
      split at hc
      · rename_i i z ps h1 h2 h3
        split at hc
        · rename_i hcnd
          cases hc
          simp only [evalO] at he
          split at he
          · rename_i rows hrows
            cases he
            obtain ⟨vs, T, g1, g2, g3, g4⟩ := does_bslice r hr hu h1 h2 hcnd.1 hcnd.2 h3 hrows
            obtain ⟨f1, f2, f3⟩ := full_sound r T g1
            refine ⟨_, _, _, .inl ?_, f2, f1, f3⟩
            simp only [Array.toArray_toList] at g4
            simp only [execOp, Sem.run_bind, g4, Result.andThen_ok, Sem.run_pure]
            rw [g2]
          · cases he
        · cases hc
      · cases hc
    · cases hc
  | load t x =>
    simp only at hc
    split at hc
    · rename_i y a i h1 h2 h3
      cases hc
      have hx := cX_sound h1 hr
      simp only [evalO] at he
      split at he
      · rename_i o off ho
        rw [ho] at hx
        obtain ⟨hv, _⟩ := hx.ptr_inv
        split at he
        · rename_i cs hcs
          split at he
          · rename_i d' hd'
            cases he
            have := does_load_obj r h3 h2 hcs hd'
            simp only [execOp, hv]
            exact this
          · cases he
        · cases he
      · rename_i row off ho
        rw [ho] at hx
        obtain ⟨b, k, hv, g1, g2⟩ := hx.cptr_inv
        split at he
        · rename_i d' hd'
          cases he
          have := does_load_row r h3 h2 g1 g2 hd'
          simp only [execOp, hv]
          exact this
        · cases he
      · cases he
    · cases hc
  | store t a x =>
    simp only at hc
    split at hc
    · rename_i a' x' i h1 h2 h3
      cases hc
      have ha := cX_sound h1 hr
      have hx := cX_sound h2 hr
      simp only [evalO] at he
      split at he
      · rename_i o off row ho hrow
        rw [ho] at ha
        obtain ⟨hv, _⟩ := ha.ptr_inv
        split at he
        · rename_i cs hcs
          split at he
          · rename_i hfit
            cases he
            have := does_store r h3 hcs hx hrow hfit.1 hfit.2
            simp only [execOp, hv]
            exact this
          · cases he
        · cases he
      · cases he
    · cases hc
  | nilCheck x =>
    obtain ⟨y, hy, rfl⟩ := map_some hc
    have hx := cX_sound hy hr
    simp only [evalO] at he
    split at he
    · rename_i o off ho
      cases he
      rw [ho] at hx
      have hv := hx.ptr_inv.1
      rw [hv] at hx
      simp only [execOp, hv]
      exact does_nilck r hx
    · rename_i row off ho
      cases he
      rw [ho] at hx
      obtain ⟨b, k, hv, _⟩ := hx.cptr_inv
      rw [hv] at hx
      simp only [execOp, hv]
      exact does_nilck r hx
    · cases he
  | binOp op t x y yt =>
    simp only at hc
    split at hc
    · rename_i x' y' h1 h2
      have hx := cX_sound h1 hr
      have hy := cX_sound h2 hr
      have fin : ∀ d', binD op (x'.ev tm) (y'.ev tm) = some d' → (d', s) = (d, s') → Does P M s w (execOp act.eval ⟨dst, .binOp op t x y yt, type, pos, after, guard⟩) d s' := by
        intro d' hd' heq
        cases heq
        exact does_bin r hx hy hd'
      have fin2 : (match binD op (x'.ev tm) (y'.ev tm) with | some d => some (d, s) | none => none) = some (d, s') → Does P M s w (execOp act.eval ⟨dst, .binOp op t x y yt, type, pos, after, guard⟩) d s' := by
        intro h
        split at h
        · rename_i d' hd'
          exact fin d' hd' (by cases h; rfl)
        · cases h
      have finb : ∀ neg, op = (if neg then .neq else .eql) → P.underlying t = some .bool → evalO (.eqb neg x' y') tm s = some (d, s') → Does P M s w (execOp act.eval ⟨dst, .binOp op t x y yt, type, pos, after, guard⟩) d s' := by
        intro neg hop ht h
        simp only [evalO] at h
        split at h
        · rename_i p q hp hq
          cases h
          rw [hp] at hx; rw [hq] at hy
          simp only [execOp, hx.bool_inv, hy.bool_inv, hop]
          exact does_eqb r ht
        · cases h
      have finp : ∀ neg e, op = (if neg then .neq else .eql) → P.underlying t = some (.pointer e) → evalO (.eqp neg x' y') tm s = some (d, s') → Does P M s w (execOp act.eval ⟨dst, .binOp op t x y yt, type, pos, after, guard⟩) d s' := by
        intro neg e hop ht h
        simp only [evalO] at h
        split at h
        · rename_i hp hq
          cases h
          rw [hp] at hx; rw [hq] at hy
          simp only [execOp, hx.nilp_inv, hy.nilp_inv, hop]
          have := does_eqp r (neg := neg) (x := x) (y := y) (a := none) ht
          cases neg <;> simpa using this
        · rename_i o off hp hq
          cases h
          rw [hp] at hx; rw [hq] at hy
          simp only [execOp, hx.ptr_inv.1, hy.nilp_inv, hop]
          have := does_eqp r (neg := neg) (x := x) (y := y) (a := some ⟨M.mu o, off, none⟩) ht
          cases neg <;> simpa using this
        · rename_i row off hp hq
          cases h
          rw [hp] at hx; rw [hq] at hy
          obtain ⟨b, k, hv, _⟩ := hx.cptr_inv
          simp only [execOp, hv, hy.nilp_inv, hop]
          have := does_eqp r (neg := neg) (x := x) (y := y) (a := some ⟨b, k + off, none⟩) ht
          cases neg <;> simpa using this
        · cases h
      have fins : ∀ neg ks, op = (if neg then .neq else .eql) → plainStruct P t = some ks → evalO (.eqs neg ks x' y') tm s = some (d, s') → Does P M s w (execOp act.eval ⟨dst, .binOp op t x y yt, type, pos, after, guard⟩) d s' := by
        intro neg ks hop ht h
        simp only [evalO] at h
        split at h
        · rename_i p q hp hq
          split at h
          · rename_i e' he'
            cases h
            rw [hp] at hx; rw [hq] at hy
            simp only [execOp, hop]
            exact does_eqs r ht hx hy he'
          · cases h
        · cases h
      split at hc
      · cases hc; exact fin2 he
      · cases hc; exact fin2 he
      · rename_i hu; cases hc; exact finb false rfl hu he
      · rename_i hu; cases hc; exact finb true rfl hu he
      · rename_i hu; cases hc; exact finp false _ rfl hu he
      · rename_i hu; cases hc; exact finp true _ rfl hu he
      · obtain ⟨ks, hk, rfl⟩ := map_some hc; exact fins false ks rfl hk he
      · obtain ⟨ks, hk, rfl⟩ := map_some hc; exact fins true ks rfl hk he
      · cases hc
    · cases hc
  | unOp op t x =>
    obtain ⟨y, hy, rfl⟩ := map_some hc
    have hx := cX_sound hy hr
    simp only [evalO] at he
    split at he
    · rename_i d' hd'
      cases he
      unfold unD at hd'
      split at hd'
      · rename_i k n hk
        cases hd'
        rw [hk] at hx
        exact Does.pure (v := .int k (k.wrap (0 - n))) r (by simp [execOp, hx.int_inv, Op.unary, Op.intArith]) (.int _ _)
      · rename_i b hb
        cases hd'
        rw [hb] at hx
        exact Does.pure (v := .bool (!b)) r (by simp [execOp, hx.bool_inv, Op.unary]) (.bool _)
      · cases hd'
    · cases he
  | convert src dst' x =>
    simp only at hc
    split at hc
    · rename_i y k1 k h1 h2 h3
      cases hc
      have hx := cX_sound h1 hr
      simp only [evalO] at he
      split at he
      · rename_i k2 n hn
        cases he
        rw [hn] at hx
        refine Does.pure (v := .int k (k.wrap n)) r ?_ (.int _ _)
        simp [execOp, hx.int_inv, convert, run_underlying h2, run_underlying h3, Conv.intToInt]
      · cases he
    · rename_i y e h1 h2 h3
      split at hc
      · rename_i h4
        cases hc
        have hx := cX_sound h1 hr
        simp only [evalO] at he
        split at he
        · rename_i g z rows hrows
          split at he
          · rename_i b hb
            cases he
            rw [hrows] at hx
            exact does_tostr r h2 h4 h3 hx hb
          · cases he
        · cases he
      · cases hc
    · rename_i y e e2 h1 h2 h3
      split at hc
      · rename_i h4
        split at hc
        · rename_i hsd
          cases hc
          subst hsd
          have hx := cX_sound h1 hr
          simp only [evalO] at he
          split at he
          · rename_i t z rows hrows
            split at he
            · rename_i hcnd
              cases he
              rw [hrows] at hx
              exact does_frz r h2 h4 hx hcnd.1 hcnd.2
            · cases he
          · cases he
        · cases hc
      · cases hc
    · rename_i y e h1 h2 h3
      split at hc
      · rename_i i h4 h5
        split at hc
        · cases hc
          have hx := cX_sound h1 hr
          simp only [evalO] at he
          split at he
          · rename_i l hl
            cases he
            rw [hl] at hx
            simp only [execOp, hx.str_inv]
            exact does_tobytes r h2 h3 h4
          · cases he
        · cases hc
      · cases hc
    · cases hc
  | slice t x lo hi mx =>
    cases mx with
    | some m => cases hc
    | none =>
      simp only at hc
      split at hc
      · rename_i y lo' hi' h1 h2 h3 h4
        cases hc
        have hx := cX_sound h1 hr
        simp only [evalO] at he
        split at he
        · rename_i u hu
          rw [hu] at hx
          split at he
          · rename_i l h hl hh
            split at he
            · rename_i hcnd
              cases he
              have := does_sslc r h4 (cXo_lo hr h2 hl) (cXo_hi hr h3 hh) hcnd.1 hcnd.2.1 hcnd.2.2
              simp only [execOp, hx.str_inv, Option.map_none]
              exact this
            · cases he
          · cases he
        · cases he
      · rename_i y lo' hi' e h1 h2 h3 h4
        split at hc
        · rename_i i hi0
          cases hc
          have hx := cX_sound h1 hr
          simp only [evalO] at he
          split at he
          · rename_i g z rows hrows
            rw [hrows] at hx
            split at he
            · rename_i l h hl hh
              split at he
              · rename_i hcnd
                cases he
                have := does_slc r h4 hi0 hcnd.1 hx (cXo_lo hr h2 hl) (cXo_hi hr h3 hh) hcnd.2.1 hcnd.2.2.1 hcnd.2.2.2
                simp only [execOp, Option.map_none]
                exact this
              · cases he
            · cases he
          · cases he
        · cases hc
      · cases hc
  | fieldAddr t x f =>
    simp only at hc
    split at hc
    · rename_i y off size a h1 h2
      cases hc
      have hx := cX_sound h1 hr
      simp only [evalO] at he
      split at he
      · rename_i o k ho
        cases he
        rw [ho] at hx
        obtain ⟨hv, hlt⟩ := hx.ptr_inv
        refine Does.pure (v := .pointer (some ⟨M.mu o, k + off, none⟩)) r ?_ (.ptr _ _ hlt)
        simp only [execOp, hv, Sem.run_bind, faddr_run h2, Result.andThen_ok, Sem.run_pure]
      · rename_i row k ho
        cases he
        rw [ho] at hx
        obtain ⟨b, q, hv, g1, g2⟩ := hx.cptr_inv
        refine Does.pure (v := .pointer (some ⟨b, q + (k + off), none⟩)) r ?_ (.cptr _ _ _ _ g1 g2)
        simp only [execOp, hv, Sem.run_bind, faddr_run h2, Result.andThen_ok, Sem.run_pure, Nat.add_assoc]
      · cases he
    · cases hc
  | field t x f =>
    simp only at hc
    split at hc
    · rename_i y off size a h1 h2
      cases hc
      have hx := cX_sound h1 hr
      simp only [evalO] at he
      split at he
      · rename_i cs hcs
        split at he
        · rename_i d' hd'
          cases he
          rw [hcs] at hx
          obtain ⟨vs, hv, g1, g2, g3⟩ := hx.agg_inv
          simp only [execOp, hv]
          exact part_field h2 g1 g2 g3 hd' r
        · cases he
      · cases he
    · cases hc
  | indexAddr t x i =>
    simp only at hc
    split at hc
    · rename_i y j e h1 h2 h3
      split at hc
      · rename_i inf hinf
        split at hc
        · cases hc
          have hx := cX_sound h1 hr
          have hj := cX_sound h2 hr
          simp only [evalO] at he
          split at he
          · rename_i g z rows k n hrows hn
            split at he
            · rename_i hcnd
              obtain ⟨hn0, hz⟩ := hcnd
              subst hz
              split at he
              · rename_i row hrow
                cases he
                rw [hrows] at hx; rw [hn] at hj
                simp only [execOp, hj.int_inv]
                exact does_iaddr r h3 hinf hx hn0 hrow
              · cases he
            · cases he
          · cases he
        · cases hc
      · cases hc
    · cases hc
  | index t x i =>
    simp only at hc
    split at hc
    · rename_i y j h1 h2 h3
      cases hc
      have hx := cX_sound h1 hr
      have hj := cX_sound h2 hr
      simp only [evalO] at he
      split at he
      · rename_i l k n hl hn
        split at he
        · rename_i hn0
          split at he
          · rename_i c hcc
            cases he
            rw [hl] at hx; rw [hn] at hj
            simp only [execOp, hj.int_inv, hx.str_inv]
            exact does_sidx r h3 hn0 hcc
          · cases he
        · cases he
      · cases he
    · cases hc
  | extract x i =>
    obtain ⟨y, hy, rfl⟩ := map_some hc
    have hx := cX_sound hy hr
    simp only [evalO] at he
    split at he
    · rename_i ds hds
      split at he
      · rename_i d' hd'
        cases he
        rw [hds] at hx
        obtain ⟨vs, hv, g1, g2⟩ := hx.tuple_inv
        have hlt := (List.getElem?_eq_some_iff.1 hd').1
        have hv2 : vs[i]? = some vs[i] := Array.getElem?_eq_getElem (by omega)
        refine Does.pure (v := vs[i]) r ?_ (g2 i _ _ hd' hv2)
        simp [execOp, hv, Instr.extract, hv2]
      · cases he
    · cases he
  | call c =>
    obtain ⟨callee, args, ats⟩ := c
    cases callee with
    | value f => cases hc
    | invoke f m => cases hc
    | builtin bi =>
      have two : ∀ {x y : Operand} {x' y' : X} {isMax : Bool}, cX x = some x' → cX y = some y' → bi = (if isMax then .max else .min) → args.toList = [x, y] → evalO (.mm isMax x' y') tm s = some (d, s') →
          Does P M s w (execOp act.eval ⟨dst, .call ⟨.builtin bi, args, ats⟩, type, pos, after, guard⟩) d s' := by
        intro x y x' y' isMax h1 h2 hb ha h
        have harr : args = #[x, y] := by rw [← Array.toArray_toList (xs := args), ha]
        subst harr
        have hx := cX_sound h1 hr
        have hy := cX_sound h2 hr
        simp only [evalO] at h
        split at h
        · rename_i k a k' b hka hkb
          split at h
          · rename_i hkk
            subst hkk
            cases h
            rw [hka] at hx; rw [hkb] at hy
            refine Does.pure (v := .int k (if isMax then (if b > a then b else a) else (if b < a then b else a))) r ?_ (.int _ _)
            subst hb
            cases isMax
            · simp [execOp, resolve, invoke, builtin, Builtin.min_, Builtin.min2, hx.int_inv, hy.int_inv]
            · simp [execOp, resolve, invoke, builtin, Builtin.max_, Builtin.max2, hx.int_inv, hy.int_inv]
          · cases h
        · cases h
      cases bi <;> simp only at hc <;> try (cases hc; done)
      case append =>
        split at hc
        · rename_i x y t u ha hat
          split at hc
          · rename_i e e' x' y' h1 h2 h3 h4
            split at hc
            · rename_i i z hi hz
              split at hc
              · rename_i hpos
                cases hc
                have harr : args = #[x, y] := by rw [← Array.toArray_toList (xs := args), ha]
                have hats : ats = #[t, u] := by rw [← Array.toArray_toList (xs := ats), hat]
                subst harr; subst hats
                obtain ⟨i', v, g1, g2, g3, g4⟩ := zeroOf_some hz
                rw [hi] at g1; cases g1
                have hzc := zeroOf_cells (M := M) (s := s) g4
                obtain ⟨v', w', M', f1, f2, f3, f4⟩ := app_sound (ty := type) r h1 h2 hi g2 g3 hzc.2.1 (cX_sound h3 hr) (cX_sound h4 hr) he
                refine ⟨v', w', M', .inl ?_, f2, f3, f4⟩
                simp [execOp, resolve, invoke, builtin, f1]
              · cases hc
            · cases hc
          · cases hc
        · cases hc
      case len =>
        split at hc
        · rename_i x t ha hat
          have harr : args = #[x] := by rw [← Array.toArray_toList (xs := args), ha]
          have hats : ats = #[t] := by rw [← Array.toArray_toList (xs := ats), hat]
          subst harr; subst hats
          have hex : execOp act.eval ⟨dst, .call ⟨.builtin .len, #[x], #[t]⟩, type, pos, after, guard⟩ = (do pure (.value (← Builtin.len_ #[t] type #[act.eval x]))) := by
            simp [execOp, resolve, invoke, builtin]
          rw [hex]
          split at hc
          · rename_i ht
            obtain ⟨y, hy, rfl⟩ := map_some hc
            have hx := cX_sound hy hr
            simp only [evalO] at he
            split at he
            · rename_i l hl
              cases he
              rw [hl] at hx
              rw [hx.str_inv]
              exact does_len_str r ht
            · cases he
          · rename_i e ht
            obtain ⟨y, hy, rfl⟩ := map_some hc
            have hx := cX_sound hy hr
            simp only [evalO] at he
            split at he
            · rename_i g z rows hrows
              cases he
              rw [hrows] at hx
              rcases hx.slice_inv with ⟨h0, hv, _⟩ | ⟨b, q, cap, hv, _⟩
              · rw [hv, h0]; exact does_len_slice r ht
              · rw [hv]; exact does_len_slice r ht
            · cases he
          · cases hc
        · cases hc
      case max =>
        split at hc
        · rename_i x y ha
          split at hc
          · rename_i x' y' h1 h2
            cases hc
            exact two (isMax := true) h1 h2 rfl ha he
          · cases hc
        · cases hc
      case min =>
        split at hc
        · rename_i x y ha
          split at hc
          · rename_i x' y' h1 h2
            cases hc
            exact two (isMax := false) h1 h2 rfl ha he
          · cases hc
        · cases hc
  | _ => cases hc

/-- A slice of parts with a token of its own. -/
theorem evalO_bslt {o : Oper} {z : List D} {k n : Nat} {ps : List (Nat × X)} {tm : Tm} {act : Act} {d : D} {s' : St} (hc : cOp P o = some (.bslice z k n ps)) (r : Rel M s w) (hr : RTm M s tm act.tmps) (he : evalO (.bslt z k n ps) tm s = some (d, s')) :
    Does P M s w (execOp act.eval o) d s' := by
  obtain ⟨dst, op, type, pos, after, guard⟩ := o
  unfold cOp at hc
  simp only at hc
  cases op with
  | buildSlice t n' parts =>
    simp only at hc
    split at hc
    · rename_i e hu
      split at hc
      · rename_i i z ps h1 h2 h3
        split at hc
        · rename_i hcnd
          cases hc
          simp only [evalO] at he
          split at he
          · rename_i rows hrows
            cases he
            obtain ⟨vs, T, g1, g2, g3, g4⟩ := does_bslice r hr hu h1 h2 hcnd.1 hcnd.2 h3 hrows
            obtain ⟨M', f1, f2, f3⟩ := tok_sound r T g1 (by rw [g3, g2])
            refine ⟨_, _, _, .inl ?_, f2, f1, f3⟩
            simp only [Array.toArray_toList] at g4
            simp only [execOp, Sem.run_bind, g4, Result.andThen_ok, Sem.run_pure]
            rw [g2]
          · cases he
        · cases hc
      · cases hc
    · cases hc
  | _ =>
    exfalso
    revert hc
    try simp only
    repeat' split
    all_goals (first | (intro h; cases h; done) | (intro h; obtain ⟨_, _, h⟩ := map_some h; cases h; done) | contradiction | (simp; done) | (intro h; simp_all; done))

end
end Go.Abs
