/-
  What is proved here: functions are entered and left on abstract states; a call is made with a part of the state.
  No conditions.
-/
import Derived.Test.YtecpopiacpckiaaFlow
namespace Go.Abs

/-! ### Entering and leaving a function -/

def argTm : Nat → List D → Tm
  | _, [] => []
  | n, d :: r => (n, d) :: argTm (n + 1) r

def resL : List (Nat × Option (Bool × Nat)) → Tm → St → Option (List D)
  | [], _, _ => some []
  | (t, none) :: r, tm, s => match resL r tm s with | some l => some (tm.get t :: l) | none => none
  | (t, some (agg, size)) :: r, tm, s =>
    match tm.get t with
    | .ptr o off =>
      match s.objs[o]? with
      | some cs => match part cs off agg size, resL r tm s with | some d, some l => some (d :: l) | _, _ => none
      | none => none
    | _ => none

def oneD : List D → D
  | [d] => d
  | l => .tuple l

/-- What must hold where a function ends. -/
def retQ (B : Base) (res : List (Nat × Option (Bool × Nat))) (Q : D → St → Prop) : Exit → Tm → St → Prop
  | .normal, tm, s | .ret, tm, s => ∃ l, resL res tm s = some l ∧ ∃ n m, B.s.objs.length ≤ n ∧ B.s.toks.length ≤ m ∧ Q ((oneD l).fg n m) (s.cut n m)
  | _, _, _ => False

section
variable {P : Program} {M : Map} {s : St} {w : World}

theorem argTm_get : ∀ (l : List D) (n t : Nat), (argTm n l).get t = if n ≤ t then (l[t - n]?).getD .junk else .junk
  | [], n, t => by simp [argTm, Tm.get]
  | d :: r, n, t => by
    simp only [argTm, Tm.get, argTm_get r (n + 1) t]
    by_cases h : n = t
    · subst h; simp
    · rw [if_neg h]
      by_cases h2 : n + 1 ≤ t
      · rw [if_pos h2, if_pos (by omega), show t - n = (t - (n + 1)) + 1 by omega]; simp
      · rw [if_neg h2, if_neg (by omega)]

def resOne (tmps : Array Value) : ResultVar → Go.Sem Value
  | .tmp t => pure (tmps.getD t Go.undef)
  | .cell a t => do loadVar t (← asAddr (tmps.getD a Go.undef))

theorem resL_run (r : Rel M s w) {tm : Tm} {tmps : Array Value} (ht : RTm M s tm tmps) : ∀ {rs : List ResultVar} {res : List (Nat × Option (Bool × Nat))} {l : List D}, cRes P rs = some res → resL res tm s = some l →
    ∃ vs : List Value, (rs.mapM (resOne tmps)).run P w = .ok vs w ∧ vs.length = l.length ∧
      ∀ (i : Nat) (d : D) (v : Value), l[i]? = some d → vs[i]? = some v → RD M s d v
  | [], res, l, hc, hl => by cases hc; cases hl; exact ⟨[], rfl, rfl, by simp⟩
  | .tmp t :: rs, res, l, hc, hl => by
    obtain ⟨res', h1, rfl⟩ := map_some (by simpa [cRes] using hc)
    simp only [resL] at hl
    split at hl
    · rename_i l' hl'
      cases hl
      obtain ⟨vs, g1, g2, g3⟩ := resL_run r ht h1 hl'
      refine ⟨tmps.getD t Go.undef :: vs, ?_, by simp [g2], fun i d v e1 e2 => ?_⟩
      · rw [List.mapM_cons]
        simp only [resOne, Go.Sem.run_bind, Go.Sem.run_pure, Result.andThen_ok, g1]
      · cases i with
        | zero => simp only [List.getElem?_cons_zero, Option.some.injEq] at e1 e2; subst e1; subst e2; exact ht t
        | succ i => exact g3 i d v (by simpa using e1) (by simpa using e2)
    · cases hl
  | .cell a t :: rs, res, l, hc, hl => by
    simp only [cRes] at hc
    split at hc
    · rename_i g i res' h1 h2 h3
      cases hc
      simp only [resL] at hl
      split at hl
      · rename_i o off ho
        split at hl
        · rename_i cs hcs
          split at hl
          · rename_i d l' hd hl'
            cases hl
            obtain ⟨vs, g1, g2, g3⟩ := resL_run r ht h3 hl'
            have hv := ht a
            rw [ho] at hv
            obtain ⟨hv, _⟩ := hv.ptr_inv
            have hload : ∃ v, (loadVar t ⟨M.mu o, off, none⟩).run P w = .ok v w ∧ RD M s d v := by
              obtain ⟨vs', T, hh, hsz, hone, hrd'⟩ := r.obj o cs hcs
              let n := if g then i.size else 1
              have hfit : off + n ≤ vs'.size := by
                rcases part_some hd with ⟨rfl, hq, _⟩ | ⟨rfl, hq⟩
                · simp [n]; omega
                · have := (List.getElem?_eq_some_iff.1 hq).1; simp [n]; omega
              have hlen : ((vs'.toList.drop off).take n).length = n := by simp; omega
              have hget : ∀ (j : Nat) (u : Value), ((vs'.toList.drop off).take n)[j]? = some u → vs'[off + j]? = some u := by
                intro j u h
                rw [List.getElem?_take] at h
                split at h
                · rw [List.getElem?_drop] at h; simpa using h
                · cases h
              refine ⟨_, load_run (w := w) P h2 h1 (M.mu o) off ((vs'.toList.drop off).take n) hlen (fun j u h => by rw [cell?_row hh]; exact hget j u h), ?_⟩
              exact part_sound hd _ hlen (fun _ u hu => hone u (Array.mem_toList_iff.1 (List.mem_of_mem_drop (List.mem_of_mem_take hu)))) (fun j d u e1 e2 => hrd' _ d u e1 (hget j u e2))
            obtain ⟨v, hlv, hvd⟩ := hload
            refine ⟨v :: vs, ?_, by simp [g2], fun i d' v' e1 e2 => ?_⟩
            · rw [List.mapM_cons]
              have hone : (resOne tmps (.cell a t)).run P w = .ok v w := by
                simp only [resOne, Go.Sem.run_bind, hv, asAddr, Go.Sem.run_pure, Result.andThen_ok, hlv]
              simp only [Go.Sem.run_bind, hone, Result.andThen_ok, g1, Go.Sem.run_pure]
            · cases i with
              | zero => simp only [List.getElem?_cons_zero, Option.some.injEq] at e1 e2; subst e1; subst e2; exact hvd
              | succ i => exact g3 i d' v' (by simpa using e1) (by simpa using e2)
          · cases hl
        · cases hl
      · cases hl
    · cases hc

theorem results_sound (r : Rel M s w) {tm : Tm} {tmps : Array Value} (ht : RTm M s tm tmps) {fn : Func} {res : List (Nat × Option (Bool × Nat))} {l : List D} (hc : cRes P fn.results.toList = some res) (hl : resL res tm s = some l) :
    ∃ v, (results fn tmps).run P w = .ok v w ∧ RD M s (oneD l) v := by
  obtain ⟨vs, g1, g2, g3⟩ := resL_run (P := P) r ht hc hl
  have hrun : (results fn tmps).run P w = .ok (if h : vs.toArray.size = 1 then vs.toArray[0] else .tuple vs.toArray) w := by
    have e : results fn tmps = (do let vs ← fn.results.mapM (resOne tmps); pure (if h : vs.size = 1 then vs[0] else .tuple vs)) := by
      unfold results
      rfl
    rw [e, Array.mapM_eq_mapM_toList]
    simp only [Go.Sem.run_bind, Go.Sem.run_map, g1, Result.andThen_ok, Go.Sem.run_pure]
  refine ⟨_, hrun, ?_⟩
  clear hrun g1 hl
  match l, vs, g2, g3 with
  | [], [], _, _ => exact .tuple [] #[] rfl (by simp)
  | [d], [v], _, g3 => exact g3 0 d v rfl rfl
  | d :: d' :: l, v :: v' :: vs, h, g3 =>
    have : ¬ ((v :: v' :: vs).toArray.size = 1) := by simp
    rw [dif_neg this]
    exact .tuple _ _ (by simpa using h.symm) (fun i d v e1 e2 => g3 i d v e1 (by simpa using e2))

/-- A function is walked. -/
theorem ACalls.intro {f : FuncId} {fn : Func} {af : AF} {args : List D} {Q : D → St → Prop} (hf : P.funcs[f]? = some fn) (hc : cF P fn = some af) (hl : args.length ≤ af.ntmps)
    (h : ∀ B : Base, B.s = s → Sem P B af.ntmps af.body (retQ B af.results Q) (argTm 0 args) s) : ACalls P f args s Q := by
  intro M w vargs r hsz ha
  unfold cF at hc
  split at hc
  · rename_i c hbody
    split at hc
    · rename_i b res h1 h2
      cases hc
      simp only at h hl
      refine calls_of_wp hf hbody ?_
      have hs := h ⟨M, s, w⟩ rfl c h1 { tmps := vargs ++ Array.replicate (fn.ntmps - vargs.size) Go.undef, defers := [] } w
        ⟨M, Ext.refl M s w, r, fun t => by
          rw [argTm_get]
          simp only [Nat.zero_le, if_true, Nat.sub_zero]
          cases hd : args[t]? with
          | none => exact .junk _
          | some d =>
            have hlt := (List.getElem?_eq_some_iff.1 hd).1
            have hv : vargs[t]? = some vargs[t] := Array.getElem?_eq_getElem (by omega)
            have : (vargs ++ Array.replicate (fn.ntmps - vargs.size) Go.undef).getD t Go.undef = vargs[t] := by
              rw [Array.getD_eq_getD_getElem?, Array.getElem?_append_left (by omega), hv]; rfl
            rw [this]
            exact ha t d _ hd hv, by simp; omega, rfl⟩
      refine wp_mono hs fun e act w' hp => ?_
      obtain ⟨tm, s', hq, M', hext, r', ht, _, hdf⟩ := hp
      have fin : (∃ l, resL res tm s' = some l ∧ ∃ n m, s.objs.length ≤ n ∧ s.toks.length ≤ m ∧ Q ((oneD l).fg n m) (s'.cut n m)) → act.defers = [] ∧ ∃ v, (results fn act.tmps).run P w' = .ok v w' ∧
          ∃ M' d v' s', Ending.returned v = .returned v' ∧ Q d s' ∧ Ext M s w M' s' w' ∧ Rel M' s' w' ∧ RD M' s' d v' := by
        rintro ⟨l, hl, n, m, hn, hm, hQ⟩
        obtain ⟨v, hrun, hrd⟩ := results_sound (P := P) r' ht h2 hl
        exact ⟨hdf, v, hrun, M', _, v, _, rfl, hQ, hext.cut hn hm, r'.cut n m, hrd.fg n m⟩
      cases e with
      | normal => exact fin hq
      | ret => exact fin hq
      | exit id => exact hq.elim
      | goto l => exact hq.elim
      | panic ch => exact hq.elim
      | outgrown => exact hq.elim
    · cases hc
  · cases hc

end
end Go.Abs
