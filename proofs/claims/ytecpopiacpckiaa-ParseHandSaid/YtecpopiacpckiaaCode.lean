/-
  What is proved here: the rules by which a function's code is walked on abstract states.
  No conditions.
-/
import Derived.Test.YtecpopiacpckiaaSound8
import Derived.Scope
namespace Go.Abs

/-- Where a function began. -/
structure Base where
  M : Map
  s : St
  w : World

def Holds (B : Base) (nt : Nat) (tm : Tm) (s : St) (act : Act) (w : World) : Prop :=
  ∃ M, Ext B.M B.s B.w M s w ∧ Rel M s w ∧ RTm M s tm act.tmps ∧ act.tmps.size = nt ∧ act.defers = []

def Post (B : Base) (nt : Nat) (Q : Exit → Tm → St → Prop) : Exit → Act → World → Prop := fun e act w => ∃ tm s, Q e tm s ∧ Holds B nt tm s act w

/-- A call, on abstract states. -/
def ACalls (P : Program) (f : FuncId) (args : List D) (s : St) (Q : D → St → Prop) : Prop :=
  ∀ (M : Map) (w : World) (vargs : Array Value), Rel M s w → vargs.size = args.length → (∀ (i : Nat) (d : D) (v : Value), args[i]? = some d → vargs[i]? = some v → RD M s d v) →
    Calls P f vargs w fun e w' => ∃ M' d v s', e = .returned v ∧ Q d s' ∧ Ext M s w M' s' w' ∧ Rel M' s' w' ∧ RD M' s' d v

theorem ACalls.mono {P : Program} {f : FuncId} {args : List D} {s : St} {Q Q' : D → St → Prop} (h : ACalls P f args s Q) (hq : ∀ d s', Q d s' → Q' d s') : ACalls P f args s Q' :=
  fun M w vargs r hl ha => (h M w vargs r hl ha).mono fun _ _ ⟨M', d, v, s', h1, h2, h3⟩ => ⟨M', d, v, s', h1, hq _ _ h2, h3⟩

/-- Whether an instruction is wanted. -/
def guarded (g : Option (Nat × Bool)) (tm : Tm) (A B : Prop) : Prop :=
  match g with
  | none => A
  | some (t, want) =>
    match tm.get t with
    | .bool b => (b = want → A) ∧ (b = (!want) → B)
    | .tuple _ => B
    | _ => False

/-- What must hold for a row of instructions. -/
def vcI (P : Program) : List AI → (Tm → St → Prop) → Tm → St → Prop
  | [], K, tm, s => K tm s
  | .op dst g o :: r, K, tm, s =>
    guarded g tm (match evalO o tm s with | some (d, s') => vcI P r K (tm.put dst d) s' | none => False) (vcI P r K (tm.put dst (.tuple [])) s)
  | .call dst g f xs :: r, K, tm, s =>
    guarded g tm (ACalls P f (xs.map (·.ev tm)) s fun d s' => vcI P r K (tm.put dst d) s') (vcI P r K (tm.put dst (.tuple [])) s)
  | .nil dst g neg x :: r, K, tm, s =>
    guarded g tm (match x.ev tm with
      | .slice _ _ rows => ∀ b : Bool, (rows ≠ [] → b = false) → vcI P r K (tm.put dst (.bool (if neg then !b else b))) s
      | _ => False) (vcI P r K (tm.put dst (.tuple [])) s)

section
variable {P : Program}

theorem callFunc_run {f : FuncId} (h : enters P f = true) (args : Array Value) (w : World) : (callFunc f args).run P w = .ok (.enter f args) w := by
  unfold enters at h
  split at h
  · rename_i fn hf
    simp only [Bool.and_eq_true, Bool.not_eq_true'] at h
    obtain ⟨h1, h2⟩ := h
    have h3 : fn.body.isNone = false := by cases hb : fn.body <;> simp_all
    simp only [callFunc, Sem.run_bind, run_program, Result.andThen_ok, hf, h2, h3]
    simp
  · cases h

theorem execOp_call (ρ : Operand → Value) (dst : Option Tmp) (f : FuncId) (args : Array Operand) (ats : Array TypeId) (ty : TypeId) (pos : String) (after : Array Edge) (g : Option (Nat × Bool))
    (hρ : ρ (.func f) = .func (.func f) #[] #[]) (h : enters P f = true) (w : World) :
    (execOp ρ ⟨dst, .call ⟨.value (.func f), args, ats⟩, ty, pos, after, g⟩).run P w = .ok (.enter f (args.map ρ)) w := by
  simp [execOp, resolve, hρ, Deferred.ofValue, invoke, callFunc_run h]

theorem cXs_sound {M : Map} {s : St} {tm : Tm} {act : Act} (hr : RTm M s tm act.tmps) : ∀ {l : List Operand} {xs : List X}, cXs l = some xs →
    xs.length = l.length ∧ ∀ (i : Nat) (d : D) (v : Value), (xs.map (·.ev tm))[i]? = some d → (l.map act.eval)[i]? = some v → RD M s d v
  | [], xs, h => by cases h; exact ⟨rfl, by simp⟩
  | x :: l, xs, h => by
    unfold cXs at h
    split at h
    · rename_i x' r' h1 h2
      cases h
      obtain ⟨g1, g2⟩ := cXs_sound hr h2
      refine ⟨by simp [g1], fun i d v e1 e2 => ?_⟩
      cases i with
      | zero => simp at e1 e2; subst e1; subst e2; exact cX_sound h1 hr
      | succ i => exact g2 i d v (by simpa using e1) (by simpa using e2)
    · cases h

/-- A slice held against nil. -/
theorem nilTest_sound {M : Map} {s : St} {w : World} {o : Oper} {neg : Bool} {x : X} {tm : Tm} {act : Act} (hc : nilTest P o = some (neg, x)) (hr : RTm M s tm act.tmps) {g : Tag} {z : Nat} {rows : List (List D)} (hx : x.ev tm = .slice g z rows) :
    ∃ b : Bool, (rows ≠ [] → b = false) ∧ (execOp act.eval o).run P w = .ok (.value (.bool (if neg then !b else b))) w := by
  obtain ⟨dst, op, type, pos, after, guard⟩ := o
  unfold nilTest at hc
  split at hc
  · rename_i op t y yt heq
    simp only at heq
    subst heq
    have fin : ∀ e, P.underlying t = some (.slice e) → cX y = some x → op = (if neg then .neq else .eql) → ∃ b : Bool, (rows ≠ [] → b = false) ∧
        (execOp act.eval ⟨dst, .binOp op t y (.const (.slice none 0 0)) yt, type, pos, after, guard⟩).run P w = .ok (.value (.bool (if neg then !b else b))) w := by
      intro e ht hy hop
      have hv := cX_sound hy hr
      rw [hx] at hv
      have key : ∀ (a : Option Addr) (n c : Nat), act.eval y = .slice a n c → (execOp act.eval ⟨dst, .binOp op t y (.const (.slice none 0 0)) yt, type, pos, after, guard⟩).run P w = .ok (.value (.bool (if neg then !a.isNone else a.isNone))) w := by
        intro a n c hval
        have hg := eqGuard_plain (P := P) (w := w) (op := op) (t := t) (x := y) (y := .const (.slice none 0 0)) (a := .slice a n c) (b := .slice none 0 0) ⟨by simp, by simp⟩
        have he : (Op.equal t (.slice a n c) (.slice none 0 0)).run P w = .ok a.isNone w := by
          have : ∀ d, (Op.equalIn (d + 1) t (.slice a n c) (.slice none 0 0)).run P w = .ok a.isNone w := by
            intro d
            cases a <;> simp [Op.equalIn, run_underlying ht]
          exact this 9999
        have hcst : act.eval (.const (.slice none 0 0)) = .slice none 0 0 := rfl
        simp only [execOp, hval, hcst]
        rw [hop] at hg ⊢
        cases neg
        · simp only [Bool.false_eq_true, if_false] at hg ⊢
          simp [hg, binOp, he]
        · simp only [if_true] at hg ⊢
          simp [hg, binOp, he]
      rcases hv.slice_inv with ⟨h0, hval, _⟩ | ⟨b, q, cap, hval, _⟩
      · exact ⟨true, fun h => (h h0).elim, key none 0 0 hval⟩
      · exact ⟨false, fun _ => rfl, key _ _ _ hval⟩
    split at hc
    · cases hc
      exact fin _ ‹_› ‹_› rfl
    · cases hc
      exact fin _ ‹_› ‹_› rfl
    · cases hc
  · cases hc

variable {B : Base} {nt : Nat}

theorem Holds.put {tm : Tm} {s : St} {act : Act} {w : World} {M' : Map} {s' : St} {w' : World} {M : Map} (e : Ext B.M B.s B.w M s w) (ht : RTm M s tm act.tmps) (hn : act.tmps.size = nt) (hd : act.defers = [])
    {dst : Option Nat} (hdst : ∀ t, dst = some t → t < nt) {d : D} {v : Value} (e' : Ext M s w M' s' w') (r' : Rel M' s' w') (hv : RD M' s' d v) : Holds B nt (tm.put dst d) s' (act.put dst v) w' := by
  refine ⟨M', e.trans e', r', (ht.mono e'.le).put (fun t h => by rw [hn]; exact hdst t h) hv, ?_, ?_⟩
  · cases dst <;> simp [Act.put, hn]
  · cases dst <;> simp [Act.put, hd]

theorem cI_dst {ops : Array Oper} {o : Oper} {ai : AI} (h : cI P nt ops o = some ai) : ∀ t, o.dst = some t → t < nt := by
  intro t ht
  unfold cI at h
  split at h
  · cases h
  · split at h
    · rename_i hlt; rw [ht] at hlt; simpa [dstOk] using hlt
    · cases h

/-- The guard, in the model and here. -/
theorem guard_sound {ops : Array Oper} {o : Oper} {g : Option (Nat × Bool)} (hg : cGuard ops o.guard = some g) {M : Map} {s : St} {tm : Tm} {act : Act} (hr : RTm M s tm act.tmps) {A C : Prop} (h : guarded g tm A C) :
    (Region.wanted o (yielded ops act.tmps) = true ∧ A) ∨ (Region.wanted o (yielded ops act.tmps) = false ∧ C) := by
  unfold cGuard at hg
  split at hg
  · rename_i hn
    cases hg
    exact .inl ⟨by simp [Region.wanted, hn], h⟩
  · rename_i j want hn
    split at hg
    · rename_i t ht
      cases hg
      have hrt := hr t
      unfold guarded at h
      simp only at h
      split at h
      · rename_i b hb
        rw [hb] at hrt
        have hv := hrt.bool_inv
        have hsome : act.tmps[t]? = some (.bool b) := by
          cases hc : act.tmps[t]? with
          | none => simp [Array.getD_eq_getD_getElem?, hc, Go.undef] at hv
          | some v => simp [Array.getD_eq_getD_getElem?, hc] at hv; rw [hv]
        have hy : yielded ops act.tmps j = some b := by simp [yielded, ht, hsome]
        have hw : Region.wanted o (yielded ops act.tmps) = (some b == some want) := by simp [Region.wanted, hn, hy]
        by_cases hbw : b = want
        · exact .inl ⟨by rw [hw, hbw]; simp, h.1 hbw⟩
        · refine .inr ⟨by rw [hw]; simp [hbw], h.2 ?_⟩
          cases b <;> cases want <;> simp_all
      · rename_i ds hds
        rw [hds] at hrt
        obtain ⟨vs, hv, _⟩ := hrt.tuple_inv
        refine .inr ⟨?_, h⟩
        have hy : yielded ops act.tmps j = none := by
          unfold yielded
          rw [ht]
          cases hc : act.tmps[t]? with
          | none => simp [hc]
          | some v => simp [Array.getD_eq_getD_getElem?, hc] at hv; simp [hc, hv]
        simp [Region.wanted, hn, hy]
      · exact h.elim
    · cases hg

/-- A row of instructions. -/
theorem vcI_sound {ops : Array Oper} {Q : Exit → Tm → St → Prop} : ∀ (l : List Nat) (ol : List Oper) (is : List AI), l.map (ops[·]?) = ol.map some → cIs P nt ops ol = some is →
    ∀ (tm : Tm) (s : St) (act : Act) (w : World), vcI P is (Q .normal) tm s → Holds B nt tm s act w → wpOps P ops (Post B nt Q) l act w
  | [], [], is, _, hc, tm, s, act, w, h, hh => by cases hc; exact ⟨tm, s, h, hh⟩
  | [], _ :: _, _, hl, _, _, _, _, _, _, _ => by simp at hl
  | _ :: _, [], _, hl, _, _, _, _, _, _, _ => by simp at hl
  | i :: l, o :: ol, is, hl, hc, tm, s, act, w, h, hh => by
    simp only [List.map_cons, List.cons.injEq] at hl
    obtain ⟨hi, hl⟩ := hl
    unfold cIs at hc
    split at hc
    · rename_i ai is' h1 h2
      cases hc
      obtain ⟨M, e, r, ht, hn, hd⟩ := hh
      have hdst := cI_dst h1
      have ih := fun tm s act w => vcI_sound (Q := Q) l ol is' hl h2 tm s act w
      have skip : ∀ (x : Prop), vcI P is' (Q .normal) (tm.put o.dst (.tuple [])) s → wpOps P ops (Post B nt Q) l (act.put o.dst Go.undef) w := fun _ hk =>
        ih _ _ _ _ hk (Holds.put e ht hn hd hdst (Ext.refl M s w) r .undef)
      simp only [wpOps, hi]
      unfold cI at h1
      split at h1
      · cases h1
      · rename_i g hg
        split at h1
        · unfold cBody at h1
          split at h1
          · -- a call
            rename_i f args ats hop
            split at h1
            · rename_i hent
              obtain ⟨xs, hxs, rfl⟩ := map_some h1
              unfold vcI at h
              rcases guard_sound hg ht h with ⟨hw, hA⟩ | ⟨hw, hB⟩
              · simp only [hw, if_true]
                left
                have hex : (execOp act.eval o).run P w = .ok (.enter f (args.map act.eval)) w := by
                  obtain ⟨dst, op, type, pos, after, guard⟩ := o
                  simp only at hop
                  subst hop
                  exact execOp_call act.eval dst f args ats type pos after guard rfl hent w
                obtain ⟨c1, c2⟩ := cXs_sound ht hxs
                unfold Oper.wp
                rw [hex, Oper.upon_enter]
                refine (hA M w (args.map act.eval) r (by simp [c1]) (fun i d v e1 e2 => c2 i d v e1 (by simpa using e2))).mono ?_
                rintro en w' ⟨M', d, v, s', rfl, hk, e', r', hv⟩
                exact ih _ _ _ _ hk (Holds.put e ht hn hd hdst e' r' hv)
              · simp only [hw]
                exact skip True hB
            · cases h1
          · split at h1
            · -- a slice held against nil
              rename_i neg x hnil
              cases h1
              unfold vcI at h
              rcases guard_sound hg ht h with ⟨hw, hA⟩ | ⟨hw, hB⟩
              · simp only [hw, if_true]
                left
                split at hA
                · rename_i g' z rows hx
                  obtain ⟨b, hb, hex⟩ := nilTest_sound (w := w) hnil ht hx
                  unfold Oper.wp
                  rw [hex, Oper.upon_value]
                  exact ih _ _ _ _ (hA b hb) (Holds.put e ht hn hd hdst (Ext.refl M s w) r (.bool _))
                · exact hA.elim
              · simp only [hw]
                exact skip True hB
            · -- any other operation
              have fin : ∀ ao, ai = .op o.dst g ao → (∀ d s', evalO ao tm s = some (d, s') → Does P M s w (execOp act.eval o) d s') →
                  (if Region.wanted o (yielded ops act.tmps) = true then o.wp P act w (wpOps P ops (Post B nt Q) l) (Post B nt Q) ∨ (o.asks P act w ∧ LetsOut (Post B nt Q)) else wpOps P ops (Post B nt Q) l (act.put o.dst Go.undef) w) := by
                intro ao hai hdo
                subst hai
                unfold vcI at h
                rcases guard_sound hg ht h with ⟨hw, hA⟩ | ⟨hw, hB⟩
                · simp only [hw, if_true]
                  left
                  split at hA
                  · rename_i d s' hev
                    obtain ⟨v, w', M', hrun, r', hv, e'⟩ := hdo d s' hev
                    unfold Oper.wp
                    rcases hrun with hrun | ⟨hrun, rfl⟩
                    · rw [hrun, Oper.upon_value]
                      exact ih _ _ _ _ hA (Holds.put e ht hn hd hdst e' r' hv)
                    · rw [hrun, Oper.upon_skip]
                      exact ih _ _ _ _ hA (Holds.put e ht hn hd hdst e' r' hv)
                  · exact hA.elim
                · simp only [hw]
                  exact skip True hB
              split at h1
              · rename_i z k n ps hco
                cases h1
                refine fin _ rfl (fun d s' hev => ?_)
                split at hev
                · exact evalO_bslt hco r ht hev
                · exact evalO_sound hco r ht hev
              · rename_i ao hco
                cases h1
                exact fin _ rfl (fun d s' hev => evalO_sound hco r ht hev)
              · cases h1
        · cases h1
    · cases hc

end
end Go.Abs
