/-
  What is proved here: what the small machine of this proof reckons for a call, the call gives; for closed calls the kernel reckons it.
  No conditions.
-/
import Derived.Test.YtecpopiacpckiaaPar3
import Derived.Test.YtecpopiacpckiaaCall
namespace Go.Abs

/-! ### Values held against each other -/

mutual
def D.beq : D → D → Bool
  | .junk, .junk => true
  | .int k n, .int k' n' => decide (k = k') && decide (n = n')
  | .bool b, .bool b' => b == b'
  | .str l, .str l' => decide (l = l')
  | .nilp, .nilp => true
  | .ptr o f, .ptr o' f' => Nat.beq o o' && Nat.beq f f'
  | .cptr r f, .cptr r' f' => D.beqs r r' && Nat.beq f f'
  | .slice g z r, .slice g' z' r' => (match g, g' with | .full, .full => true | .shared, .shared => true | .tok t, .tok t' => Nat.beq t t' | _, _ => false) && Nat.beq z z' && D.beqr r r'
  | .agg l, .agg l' => D.beqs l l'
  | .tuple l, .tuple l' => D.beqs l l'
  | _, _ => false
def D.beqs : List D → List D → Bool
  | [], [] => true
  | a :: l, b :: m => D.beq a b && D.beqs l m
  | _, _ => false
def D.beqr : List (List D) → List (List D) → Bool
  | [], [] => true
  | a :: l, b :: m => D.beqs a b && D.beqr l m
  | _, _ => false
end

mutual
theorem beq_eq : ∀ (a b : D), D.beq a b = true → a = b
  | .junk, b, h => by cases b <;> simp [D.beq] at h ⊢
  | .int k n, b, h => by cases b <;> simp [D.beq] at h ⊢; exact h
  | .bool k, b, h => by cases b <;> simp [D.beq] at h ⊢; exact h
  | .str l, b, h => by cases b <;> simp [D.beq] at h ⊢; exact h
  | .nilp, b, h => by cases b <;> simp [D.beq] at h ⊢
  | .ptr o f, b, h => by cases b <;> simp [D.beq] at h ⊢; exact h
  | .cptr r f, b, h => by
    cases b <;> simp [D.beq] at h ⊢
    exact ⟨beqs_eq _ _ h.1, h.2⟩
  | .slice g z r, b, h => by
    cases b <;> simp [D.beq] at h ⊢
    rename_i g' z' r'
    obtain ⟨⟨h1, h2⟩, h3⟩ := h
    refine ⟨?_, h2, beqr_eq _ _ h3⟩
    cases g <;> cases g' <;> simp at h1 ⊢
    exact h1
  | .agg l, b, h => by
    cases b <;> simp [D.beq] at h ⊢
    exact beqs_eq _ _ h
  | .tuple l, b, h => by
    cases b <;> simp [D.beq] at h ⊢
    exact beqs_eq _ _ h
theorem beqs_eq : ∀ (a b : List D), D.beqs a b = true → a = b
  | [], b, h => by cases b <;> simp [D.beqs] at h ⊢
  | a :: l, b, h => by
    cases b <;> simp [D.beqs] at h ⊢
    exact ⟨beq_eq _ _ h.1, beqs_eq _ _ h.2⟩
theorem beqr_eq : ∀ (a b : List (List D)), D.beqr a b = true → a = b
  | [], b, h => by cases b <;> simp [D.beqr] at h ⊢
  | a :: l, b, h => by
    cases b <;> simp [D.beqr] at h ⊢
    exact ⟨beqs_eq _ _ h.1, beqr_eq _ _ h.2⟩
end

/-! ### The machine -/

inductive Ct where
  | norm
  | exit (id : Nat)
  | goto (l : Nat)
  | ret

def Ct.ex : Ct → Exit
  | .norm => .normal
  | .exit id => .exit id
  | .goto l => .goto l
  | .ret => .ret

inductive Task where
  | code (a : AC)
  | loop (a : AC)
  | scope (a r : AC)

def guardV (g : Option (Nat × Bool)) (tm : Tm) : Option Bool :=
  match g with
  | none => some true
  | some (t, want) =>
    match tm.get t with
    | .bool b => some (b == want)
    | .tuple _ => some false
    | _ => none

abbrev CallT := Nat → List D → St → Option (D × St)

def stepX (call : CallT) (i : AI) (tm : Tm) (s : St) : Option (D × St) :=
  match i with
  | .op _ g o =>
    match guardV g tm with
    | some true => evalO o tm s
    | some false => some (.tuple [], s)
    | none => none
  | .call _ g f xs =>
    match guardV g tm with
    | some true => call f (xs.map (·.ev tm)) s
    | some false => some (.tuple [], s)
    | none => none
  | .nil .. => none

def nilX (i : AI) (tm : Tm) : Option D :=
  match i with
  | .nil _ g neg x =>
    match guardV g tm with
    | some true =>
      match x.ev tm with
      | .slice _ _ (_ :: _) => some (.bool neg)
      | _ => none
    | some false => some (.tuple [])
    | none => none
  | _ => none

def runX (call : CallT) : List AI → Tm → St → Option (Tm × St)
  | [], tm, s => some (tm, s)
  | i :: r, tm, s =>
    match stepX call i tm s with
    | some (d, s') => runX call r (tm.put i.dst d) s'
    | none =>
      match nilX i tm with
      | some d => runX call r (tm.put i.dst d) s
      | none => none

def fixedX (i : AI) (tm : Tm) : Bool :=
  match i with
  | .op _ _ (.load x _ _) => match x.ev tm with | .cptr _ _ => true | _ => false
  | _ => false

def sameX (i : AI) (tm : Tm) (d : D) : List St → Bool
  | [] => true
  | s :: r => (match evM i tm s with | some d' => D.beq d' d | none => false) && sameX i tm d r

def checkX (i : AI) (b : Nat) (past : List St) (tm : Tm) (d : D) : Bool :=
  match b with
  | 0 => true
  | _ + 1 => fixedX i tm || sameX i tm d (past.take b)

def planX (call : CallT) (is : List AI) : List (Nat × Nat) → List St → Tm → St → Option (Tm × St)
  | [], _, tm, s => some (tm, s)
  | (q, b) :: r, past, tm, s =>
    match is[q]? with
    | none => none
    | some i =>
      match stepX call i tm s with
      | none => none
      | some (d, s') =>
        match isCore i.kind with
        | true => planX call is r (s :: past) (tm.put i.dst d) s'
        | false => match checkX i b past tm d with | true => planX call is r past (tm.put i.dst d) s | false => none

def newPtr (n : Nat) : List D → Bool
  | [] => false
  | .ptr o _ :: r => Nat.ble n o || newPtr n r
  | _ :: r => newPtr n r

abbrev ExT := Task → Tm → St → Option (Ct × Tm × St)

def endX (n : Nat) (res : List (Nat × Option (Bool × Nat))) (tm : Tm) (s' : St) : Option (D × St) :=
  match resL res tm s' with
  | none => none
  | some l =>
    match Nat.beq s'.objs.length n || newPtr n l with
    | true => some (oneD l, s')
    | false => some ((oneD l).fg n s'.toks.length, s'.cut n s'.toks.length)

def callX (prim : CallT) (code : Nat → Option AF) (ih : ExT) : CallT := fun f args s =>
  match prim f args s with
  | some r => some r
  | none =>
  match code f with
  | none => none
  | some af =>
    match Nat.ble args.length af.ntmps with
    | false => none
    | true =>
      match ih (.code af.body) (argTm 0 args) s with
      | some (.norm, tm, s') => endX s.objs.length af.results tm s'
      | some (.ret, tm, s') => endX s.objs.length af.results tm s'
      | _ => none

def bodyX (prim : CallT) (code : Nat → Option AF) (ih : ExT) : ExT := fun t tm s =>
  match t with
  | .code .skip => some (.norm, tm, s)
  | .code (.run is) =>
    match runX (callX prim code ih) is tm s with
    | some (tm', s') => some (.norm, tm', s')
    | none => none
  | .code (.par is plan) =>
    match planX (callX prim code ih) is plan [] tm s with
    | some (tm', s') => some (.norm, tm', s')
    | none => none
  | .code (.seq a b) =>
    match ih (.code a) tm s with
    | some (.norm, tm', s') => ih (.code b) tm' s'
    | r => r
  | .code (.cond x a b) =>
    match x.ev tm with
    | .bool true => ih (.code a) tm s
    | .bool false => ih (.code b) tm s
    | _ => none
  | .code (.block id a) =>
    match ih (.code a) tm s with
    | some (.exit i, tm', s') => match Nat.beq i id with | true => some (.norm, tm', s') | false => some (.exit i, tm', s')
    | r => r
  | .code (.loop a) => ih (.loop a) tm s
  | .code (.exit id) => some (.exit id, tm, s)
  | .code (.scope a) => ih (.scope a a) tm s
  | .code (.label _) => some (.norm, tm, s)
  | .code (.goto l) => some (.goto l, tm, s)
  | .code .ret => some (.ret, tm, s)
  | .loop a =>
    match ih (.code a) tm s with
    | some (.norm, tm', s') => ih (.loop a) tm' s'
    | r => r
  | .scope a r =>
    match ih (.code r) tm s with
    | some (.goto l, tm', s') =>
      match findL a l with
      | some r' => ih (.scope a r') tm' s'
      | none => none
    | r => r

def execX (prim : CallT) (code : Nat → Option AF) (n : Nat) : ExT := Nat.rec (fun _ _ _ => none) (fun _ ih => bodyX prim code ih) n

/-- A call, with so much fuel. -/
def callF (prim : CallT) (code : Nat → Option AF) (n : Nat) : CallT := callX prim code (execX prim code n)

/-- Library code that copies a slice. -/
def cloneAF (zero : List D) (size bytes : Nat) : AF := .mk 8 [(2, none)] (.seq (.run [(.op (some 2) none (.mv (.k (.slice .full 0 []))))]) (.seq (.seq (.run [(.op (some 3) none (.mv (.s 0))), (.nil (some 4) none false (.s 3))])
  (.cond (.s 4) (.seq (.run [(.op (some 2) none (.mv (.k (.slice .full 0 []))))]) .ret) .skip)) (.seq (.run [(.op (some 5) none (.bslice zero size 0 [])), (.op (some 6) none (.mv (.s 0))), (.op (some 7) none (.app size bytes (.s 5) (.s 6))), (.op (some 2) none (.mv (.s 7)))]) .ret)))

def memN (n : Nat) : List Nat → Bool
  | [] => false
  | k :: r => Nat.beq n k || memN n r

/-- An empty slice is copied. -/
def primC (cl : List Nat) : CallT := fun f args s =>
  match args with
  | [.slice _ _ []] => match memN f cl with | true => some (.slice .full 0 [], s) | false => none
  | _ => none

/-! ### It is right -/

def Env (P : Program) (code : Nat → Option AF) : Prop := ∀ f af, code f = some af → ∃ fn, P.funcs[f]? = some fn ∧ cF P fn = some af

/-- A call that gives this and nothing else. -/
def Fun (P : Program) (f : Nat) (args : List D) (s : St) (d : D) (s' : St) : Prop := ACalls P f args s fun x y => x = d ∧ y = s'

def SoundC (P : Program) (call : CallT) : Prop := ∀ f args s d s', call f args s = some (d, s') → Fun P f args s d s'

def SoundX (P : Program) (ex : ExT) : Prop := ∀ t tm s c tm' s', ex t tm s = some (c, tm', s') → ∀ (B : Base) (nt : Nat) (Q : Exit → Tm → St → Prop), Q c.ex tm' s' →
  match t with
  | .code a => Sem P B nt a Q tm s
  | .loop a => SemL P B nt a Q tm s
  | .scope a r => SemS P B nt a r Q tm s

section
variable {P : Program}

theorem guardV_true {g : Option (Nat × Bool)} {tm : Tm} (h : guardV g tm = some true) {A C : Prop} (ha : A) : guarded g tm A C := by
  cases g with
  | none => exact ha
  | some p =>
    obtain ⟨t, want⟩ := p
    unfold guardV at h
    unfold guarded
    simp only at *
    split at h
    · rename_i b hb
      simp only [Option.some.injEq, beq_iff_eq] at h
      subst h
      rw [hb]
      refine ⟨fun _ => ha, fun hne => ?_⟩
      cases b <;> cases hne
    · cases h
    · cases h

theorem guardV_false {g : Option (Nat × Bool)} {tm : Tm} (h : guardV g tm = some false) {A C : Prop} (hc : C) : guarded g tm A C := by
  cases g with
  | none => cases h
  | some p =>
    obtain ⟨t, want⟩ := p
    unfold guardV at h
    unfold guarded
    simp only at *
    split at h
    · rename_i b hb
      simp only [Option.some.injEq, beq_eq_false_iff_ne] at h
      rw [hb]
      exact ⟨fun e => (h e).elim, fun _ => hc⟩
    · rename_i hb
      rw [hb]
      exact hc
    · cases h

theorem stepX_vcI {call : CallT} (hcall : SoundC P call) {i : AI} {tm : Tm} {s s' : St} {d : D} (h : stepX call i tm s = some (d, s')) {r : List AI} {K : Tm → St → Prop} (hk : vcI P r K (tm.put i.dst d) s') :
    vcI P (i :: r) K tm s := by
  cases i with
  | op dst g o =>
    simp only [stepX] at h
    split at h
    · rename_i hg
      refine guardV_true hg ?_
      rw [h]
      exact hk
    · rename_i hg
      cases h
      exact guardV_false hg hk
    · cases h
  | call dst g f xs =>
    simp only [stepX] at h
    split at h
    · rename_i hg
      refine guardV_true hg ((hcall _ _ _ _ _ h).mono fun x y hxy => ?_)
      obtain ⟨rfl, rfl⟩ := hxy
      exact hk
    · rename_i hg
      cases h
      exact guardV_false hg hk
    · cases h
  | nil dst g n x => cases h

theorem nilX_vcI {i : AI} {tm : Tm} {s : St} {d : D} (h : nilX i tm = some d) {r : List AI} {K : Tm → St → Prop} (hk : vcI P r K (tm.put i.dst d) s) : vcI P (i :: r) K tm s := by
  cases i with
  | op dst g o => cases h
  | call dst g f xs => cases h
  | nil dst g neg x =>
    simp only [nilX] at h
    split at h
    · rename_i hg
      refine guardV_true hg ?_
      split at h
      · rename_i hx
        cases h
        rw [hx]
        intro b hb
        rw [hb (by simp)]
        cases neg <;> exact hk
      · cases h
    · rename_i hg
      cases h
      exact guardV_false hg hk
    · cases h

theorem runX_sound {call : CallT} (hcall : SoundC P call) {K : Tm → St → Prop} : ∀ (is : List AI) (tm : Tm) (s : St) (tm' : Tm) (s' : St), runX call is tm s = some (tm', s') → K tm' s' → vcI P is K tm s
  | [], tm, s, tm', s', h, hk => by cases h; exact hk
  | i :: r, tm, s, tm', s', h, hk => by
    simp only [runX] at h
    split at h
    · rename_i d s1 h1
      exact stepX_vcI hcall h1 (runX_sound hcall r _ _ _ _ h hk)
    · split at h
      · rename_i d h1
        exact nilX_vcI h1 (runX_sound hcall r _ _ _ _ h hk)
      · cases h

theorem stepX_stepC {call : CallT} (hcall : SoundC P call) {i : AI} {tm : Tm} {s s' : St} {d : D} (h : stepX call i tm s = some (d, s')) : stepC P i tm s d s' := by
  cases i with
  | op dst g o =>
    simp only [stepX] at h
    split at h
    · rename_i hg; exact guardV_true hg h
    · rename_i hg; cases h; exact guardV_false hg ⟨rfl, rfl⟩
    · cases h
  | call dst g f xs =>
    simp only [stepX] at h
    split at h
    · rename_i hg; exact guardV_true hg (hcall _ _ _ _ _ h)
    · rename_i hg; cases h; exact guardV_false hg ⟨rfl, rfl⟩
    · cases h
  | nil dst g n x => cases h

theorem stepX_evM {call : CallT} {i : AI} (hi : isCore i.kind = false) {tm : Tm} {s s' : St} {d : D} (h : stepX call i tm s = some (d, s')) : evM i tm s = some d := by
  cases i with
  | op dst g o =>
    simp only [stepX] at h
    cases g with
    | none =>
      simp only [guardV] at h
      simp only [evM, h, Option.map_some]
    | some p =>
      obtain ⟨t, want⟩ := p
      simp only [guardV] at h
      simp only [evM]
      cases hd : tm.get t <;> simp only [hd] at h ⊢ <;> first | (cases h; done) | skip
      · rename_i b
        by_cases hb : b = want
        · subst hb
          simp only [beq_self_eq_true] at h
          simp only [if_true, h, Option.map_some]
        · rw [if_neg hb]
          have : (b == want) = false := by simpa using hb
          simp only [this, Option.some.injEq, Prod.mk.injEq] at h
          rw [h.1]
      · simp only [Option.some.injEq, Prod.mk.injEq] at h
        rw [h.1]
  | call dst g f xs => cases hi
  | nil dst g n x => cases hi

theorem fixedX_sound {i : AI} {tm : Tm} (h : fixedX i tm = true) {s s' : St} : evM i tm s = evM i tm s' := by
  unfold fixedX at h
  split at h
  · rename_i dst g x agg size
    split at h
    · rename_i row off hx
      have he : evalO (.load x agg size) tm s = (evalO (.load x agg size) tm s').map fun p => (p.1, s) := by
        simp only [evalO, hx]
        split <;> rfl
      have he2 : (evalO (.load x agg size) tm s).map (·.1) = (evalO (.load x agg size) tm s').map (·.1) := by
        rw [he, Option.map_map]; rfl
      cases g with
      | none => simp only [evM, he2]
      | some p => simp only [evM, he2]
    · cases h
  · cases h

theorem sameX_sound {i : AI} {tm : Tm} {d : D} : ∀ {l : List St}, sameX i tm d l = true → ∀ s ∈ l, evM i tm s = some d
  | [], _, s, h => by cases h
  | s' :: r, h, s, hs => by
    simp only [sameX, Bool.and_eq_true] at h
    obtain ⟨h1, h2⟩ := h
    rcases List.mem_cons.1 hs with rfl | hs
    · split at h1
      · rename_i d' hd; rw [hd, beq_eq _ _ h1]
      · cases h1
    · exact sameX_sound h2 s hs

theorem planX_sound {call : CallT} (hcall : SoundC P call) {is : List AI} {K : Tm → St → Prop} : ∀ (R : List (Nat × Nat)) (past : List St) (tm : Tm) (s : St) (tm' : Tm) (s' : St),
    planX call is R past tm s = some (tm', s') → K tm' s' → goodP P is K R past tm s
  | [], past, tm, s, tm', s', h, hk => by cases h; exact hk
  | (q, b) :: r, past, tm, s, tm', s', h, hk => by
    simp only [planX] at h
    unfold goodP
    split at h
    · cases h
    · rename_i i hi
      simp only [hi]
      split at h
      · cases h
      · rename_i d s1 h1
        split at h
        · rename_i hc
          simp only [hc]
          exact ⟨d, s1, stepX_stepC hcall h1, planX_sound hcall r _ _ _ _ _ h hk⟩
        · rename_i hc
          simp only [hc]
          split at h
          · rename_i hck
            have hev := stepX_evM hc h1
            refine ⟨d, hev, fun _ s2 hs2 => ?_, planX_sound hcall r _ _ _ _ _ h hk⟩
            unfold checkX at hck
            split at hck
            · simp at hs2
            · simp only [Bool.or_eq_true] at hck
              rcases hck with hf | hf
              · rw [← fixedX_sound hf (s := s)]; exact hev
              · exact sameX_sound hf s2 hs2
          · cases h

/-- What must hold where a function ends, with nothing forgotten. -/
def retQ0 (res : List (Nat × Option (Bool × Nat))) (Q : D → St → Prop) : Exit → Tm → St → Prop
  | .normal, tm, s | .ret, tm, s => ∃ l, resL res tm s = some l ∧ Q (oneD l) s
  | _, _, _ => False

theorem ACalls.intro0 {f : FuncId} {fn : Func} {af : AF} {args : List D} {s : St} {Q : D → St → Prop} (hf : P.funcs[f]? = some fn) (hc : cF P fn = some af) (hl : args.length ≤ af.ntmps)
    (h : ∀ B : Base, B.s = s → Sem P B af.ntmps af.body (retQ0 af.results Q) (argTm 0 args) s) : ACalls P f args s Q := by
  intro M w vargs r hsz ha
  unfold cF at hc
  split at hc
  · rename_i c hbody
    split at hc
    · rename_i b res h1 h2
      cases hc
      simp only at h hl
      refine calls_of_wp hf hbody ?_
      have hs := h ⟨M, s, w⟩ rfl c h1 { tmps := vargs ++ Array.replicate (fn.ntmps - vargs.size) Go.undef, defers := [] } w
        ⟨M, Ext.refl M s w, r, fun t => by
          rw [argTm_get]
          simp only [Nat.zero_le, if_true, Nat.sub_zero]
          cases hd : args[t]? with
          | none => exact .junk _
          | some d =>
            have hlt := (List.getElem?_eq_some_iff.1 hd).1
            have hv : vargs[t]? = some vargs[t] := Array.getElem?_eq_getElem (by omega)
            have : (vargs ++ Array.replicate (fn.ntmps - vargs.size) Go.undef).getD t Go.undef = vargs[t] := by
              rw [Array.getD_eq_getD_getElem?, Array.getElem?_append_left (by omega), hv]; rfl
            rw [this]
            exact ha t d _ hd hv, by simp; omega, rfl⟩
      refine wp_mono hs fun e act w' hp => ?_
      obtain ⟨tm, s', hq, M', hext, r', ht, _, hdf⟩ := hp
      have fin : (∃ l, resL res tm s' = some l ∧ Q (oneD l) s') → act.defers = [] ∧ ∃ v, (results fn act.tmps).run P w' = .ok v w' ∧
          ∃ M' d v' s', Ending.returned v = .returned v' ∧ Q d s' ∧ Ext M s w M' s' w' ∧ Rel M' s' w' ∧ RD M' s' d v' := by
        rintro ⟨l, hl, hQ⟩
        obtain ⟨v, hrun, hrd⟩ := results_sound (P := P) r' ht h2 hl
        exact ⟨hdf, v, hrun, M', _, v, _, rfl, hQ, hext, r', hrd⟩
      cases e with
      | normal => exact fin hq
      | ret => exact fin hq
      | exit id => exact hq.elim
      | goto l => exact hq.elim
      | panic ch => exact hq.elim
      | outgrown => exact hq.elim
    · cases hc
  · cases hc

theorem objs_len_cut {B : Base} {nt : Nat} {tm : Tm} {s : St} {act : Act} {w : World} (h : Holds B nt tm s act w) : B.s.objs.length ≤ s.objs.length ∧ B.s.toks.length ≤ s.toks.length := by
  obtain ⟨M, e, _⟩ := h
  exact ⟨e.le.n, e.le.t⟩

theorem Sem.len {B : Base} {nt : Nat} {a : AC} {Q : Exit → Tm → St → Prop} {tm : Tm} {s : St} (h : Sem P B nt a (fun e tm s => B.s.objs.length ≤ s.objs.length → B.s.toks.length ≤ s.toks.length → Q e tm s) tm s) : Sem P B nt a Q tm s :=
  fun c hc act w hh => wp_mono (h c hc act w hh) fun _ _ _ ⟨tm, s, h1, h2⟩ => ⟨tm, s, h1 (objs_len_cut h2).1 (objs_len_cut h2).2, h2⟩

theorem callX_sound {prim : CallT} (hp : SoundC P prim) {code : Nat → Option AF} (henv : Env P code) {ih : ExT} (hih : SoundX P ih) : SoundC P (callX prim code ih) := by
  intro f args s d s' h
  unfold callX at h
  split at h
  · rename_i hpr
    cases h
    exact hp _ _ _ _ _ hpr
  split at h
  · cases h
  · rename_i af haf
    obtain ⟨fn, hf, hc⟩ := henv f af haf
    split at h
    · cases h
    · rename_i hl
      have hl := Nat.le_of_ble_eq_true hl
      have fin : ∀ (ct : Ct) (tm : Tm) (s1 : St), (ct = .norm ∨ ct = .ret) → ih (.code af.body) (argTm 0 args) s = some (ct, tm, s1) → endX s.objs.length af.results tm s1 = some (d, s') → Fun P f args s d s' := by
        intro ct tm s1 hct hr he
        unfold endX at he
        split at he
        · cases he
        · rename_i l hres
          split at he
          · cases he
            refine ACalls.intro0 hf hc hl fun B hB => ?_
            refine hih _ _ _ _ _ _ hr B af.ntmps _ ?_
            rcases hct with rfl | rfl <;> exact ⟨l, hres, rfl, rfl⟩
          · cases he
            refine ACalls.intro hf hc hl fun B hB => ?_
            refine Sem.len (hih _ _ _ _ _ _ hr B af.ntmps _ ?_)
            subst hB
            rcases hct with rfl | rfl <;> exact fun h1 h2 => ⟨l, hres, _, _, Nat.le_refl _, h2, rfl, rfl⟩
      split at h
      · exact fin .norm _ _ (.inl rfl) ‹_› h
      · exact fin .ret _ _ (.inr rfl) ‹_› h
      · cases h

theorem bodyX_sound {prim : CallT} (hp : SoundC P prim) {code : Nat → Option AF} (henv : Env P code) {ih : ExT} (hih : SoundX P ih) : SoundX P (bodyX prim code ih) := by
  have hcall := callX_sound hp henv hih
  intro t tm s c tm' s' h B nt Q hq
  cases t with
  | code a =>
    cases a with
    | skip => cases h; exact Sem.skip hq
    | run is =>
      simp only [bodyX] at h
      split at h
      · rename_i tm1 s1 h1
        cases h
        exact Sem.run (runX_sound hcall is _ _ _ _ h1 hq)
      · cases h
    | par is plan =>
      simp only [bodyX] at h
      split at h
      · rename_i tm1 s1 h1
        cases h
        exact Sem.par (planX_sound hcall plan _ _ _ _ _ h1 hq)
      · cases h
    | seq a b =>
      simp only [bodyX] at h
      refine Sem.seq ?_
      split at h
      · rename_i tm1 s1 h1
        exact hih _ _ _ _ _ _ h1 B nt _ (hih _ _ _ _ _ _ h B nt Q hq)
      · rename_i hne
        refine hih _ _ _ _ _ _ h B nt _ ?_
        cases c with
        | norm => exact (hne _ _ h).elim
        | exit id => exact hq
        | goto l => exact hq
        | ret => exact hq
    | cond x a b =>
      simp only [bodyX] at h
      split at h
      · rename_i hx; exact Sem.cond_true hx (hih _ _ _ _ _ _ h B nt Q hq)
      · rename_i hx; exact Sem.cond_false hx (hih _ _ _ _ _ _ h B nt Q hq)
      · cases h
    | block id a =>
      simp only [bodyX] at h
      refine Sem.block ?_
      split at h
      · rename_i i tm1 s1 h1
        refine hih _ _ _ _ _ _ h1 B nt _ ?_
        split at h
        · rename_i hb
          cases h
          have := Nat.eq_of_beq_eq_true hb
          simp only [Ct.ex, inBlockQ, this, if_true]
          exact hq
        · rename_i hb
          cases h
          have := Nat.ne_of_beq_eq_false hb
          simp only [Ct.ex, inBlockQ, if_neg this]
          exact hq
      · rename_i hne
        refine hih _ _ _ _ _ _ h B nt _ ?_
        cases c with
        | exit id => exact (hne _ _ _ h).elim
        | norm => exact hq
        | goto l => exact hq
        | ret => exact hq
    | loop a => exact Sem.loop (hih (.loop a) _ _ _ _ _ h B nt Q hq)
    | exit id => cases h; exact Sem.exit hq
    | scope a => exact Sem.scope (hih (.scope a a) _ _ _ _ _ h B nt Q hq)
    | label l => cases h; exact Sem.label hq
    | goto l => cases h; exact Sem.goto hq
    | ret => cases h; exact Sem.ret hq
  | loop a =>
    simp only [bodyX] at h
    refine SemL.once ?_
    split at h
    · rename_i tm1 s1 h1
      exact hih _ _ _ _ _ _ h1 B nt _ (hih (.loop a) _ _ _ _ _ h B nt Q hq)
    · rename_i hne
      refine hih _ _ _ _ _ _ h B nt _ ?_
      cases c with
      | norm => exact (hne _ _ h).elim
      | exit id => exact hq
      | goto l => exact hq
      | ret => exact hq
  | scope a r =>
    simp only [bodyX] at h
    refine SemS.once ?_
    split at h
    · rename_i l tm1 s1 h1
      split at h
      · rename_i r' hr'
        exact hih _ _ _ _ _ _ h1 B nt _ ⟨r', hr', hih (.scope a r') _ _ _ _ _ h B nt Q hq⟩
      · cases h
    · rename_i hne
      refine hih _ _ _ _ _ _ h B nt _ ?_
      cases c with
      | goto l => exact (hne _ _ _ h).elim
      | norm => exact hq
      | exit id => exact hq
      | ret => exact hq

theorem execX_sound {prim : CallT} (hp : SoundC P prim) {code : Nat → Option AF} (henv : Env P code) : ∀ n, SoundX P (execX prim code n)
  | 0 => fun _ _ _ _ _ _ h => by cases h
  | n + 1 => bodyX_sound hp henv (execX_sound hp henv n)

theorem callF_sound {prim : CallT} (hp : SoundC P prim) {code : Nat → Option AF} (henv : Env P code) (n : Nat) : SoundC P (callF prim code n) := callX_sound hp henv (execX_sound hp henv n)

/-! ### Copying an empty slice -/

theorem ACalls.conv {f : FuncId} {args : List D} {s : St} {Q Q' : D → St → Prop} (h : ACalls P f args s Q) (hq : ∀ d s', Q d s' → ∃ d', Q' d' s' ∧ ∀ M v, RD M s' d v → RD M s' d' v) : ACalls P f args s Q' :=
  fun M w vargs r hl ha => (h M w vargs r hl ha).mono fun _ _ ⟨M', d, v, s', h1, h2, h3, h4, h5⟩ =>
    let ⟨d', g1, g2⟩ := hq d s' h2
    ⟨M', d', v, s', h1, g1, h3, h4, g2 M' v h5⟩

theorem RD.empty {M : Map} {s : St} {z z' : Nat} {v : Value} (h : RD M s (.slice .full z []) v) : RD M s (.slice .full z' []) v := by
  cases h with
  | snil g size cap hc ht => exact .snil _ _ _ hc ht
  | slice g size rows b k cap hl hs h1 h2 ht => exact .slice _ _ [] b k cap hl (by simp) (by simp) (by simp) ht

theorem clone_empty {f : Nat} {fn : Func} {zero : List D} {size bytes : Nat} (hf : P.funcs[f]? = some fn) (hc : cF P fn = some (cloneAF zero size bytes)) (g : Tag) (z : Nat) (s : St) : Fun P f [.slice g z []] s (.slice .full 0 []) s := by
  refine ACalls.conv (Q := fun d s' => s' = s ∧ ∃ z, d = .slice .full z []) (ACalls.intro0 hf hc (by simp [cloneAF]) fun B hB => ?_) fun d s' ⟨h1, z, h2⟩ => ⟨.slice .full 0 [], ⟨rfl, h1⟩, fun M v h => by subst h2; exact h.empty⟩
  refine Sem.seq (Sem.run ?_)
  simp only [vcI, guarded, evalO, X.ev, argTm, Tm.put, Tm.set, thenQ]
  refine Sem.seq (Sem.seq (Sem.run ?_))
  simp only [vcI, guarded, evalO, X.ev, Tm.put, Tm.set, Tm.get, thenQ]
  intro b _
  cases b with
  | true =>
    refine Sem.cond_true (by simp [X.ev, Tm.get, Tm.set]) (Sem.seq (Sem.run ?_))
    simp only [vcI, guarded, evalO, X.ev, Tm.put, Tm.set, Tm.get, thenQ]
    refine Sem.ret ?_
    simp [thenQ, retQ0, cloneAF, resL, Tm.get, Tm.set, oneD]
  | false =>
    refine Sem.cond_false (by simp [X.ev, Tm.get, Tm.set]) (Sem.skip ?_)
    refine Sem.seq (Sem.run ?_)
    simp [vcI, guarded, evalO, X.ev, Tm.put, Tm.set, Tm.get, thenQ, fillRows, zeroRows, appD]
    refine Sem.ret ?_
    simp [thenQ, retQ0, cloneAF, resL, Tm.get, Tm.set, oneD]

theorem memN_mem {n : Nat} : ∀ {l : List Nat}, memN n l = true → n ∈ l
  | [], h => by cases h
  | k :: r, h => by
    simp only [memN, Bool.or_eq_true] at h
    rcases h with h | h
    · rw [Nat.eq_of_beq_eq_true h]; simp
    · exact List.mem_cons_of_mem _ (memN_mem h)

theorem primC_sound {code : Nat → Option AF} (henv : Env P code) {cl : List Nat} (hcl : ∀ f ∈ cl, ∃ zero size bytes, code f = some (cloneAF zero size bytes)) : SoundC P (primC cl) := by
  intro f args s d s' h
  unfold primC at h
  split at h
  · rename_i g z
    split at h
    · rename_i hm
      cases h
      obtain ⟨zero, size, bytes, hcode⟩ := hcl f (memN_mem hm)
      obtain ⟨fn, hf, hc⟩ := henv f _ hcode
      exact clone_empty hf hc g z s
    · cases h
  · cases h

/-! ### A table of functions -/

inductive Tree where
  | nil
  | node (l : Tree) (k : Nat) (v : AF) (r : Tree)

def Tree.find : Tree → Nat → Option AF
  | .nil, _ => none
  | .node l k v r, f =>
    match Nat.beq f k with
    | true => some v
    | false => match Nat.ble f k with | true => l.find f | false => r.find f

def Tree.All (p : Nat → AF → Prop) : Tree → Prop
  | .nil => True
  | .node l k v r => l.All p ∧ p k v ∧ r.All p

theorem Tree.find_all {p : Nat → AF → Prop} {f : Nat} {af : AF} : ∀ {t : Tree}, t.All p → t.find f = some af → p f af
  | .nil, _, h => by cases h
  | .node l k v r, ⟨h1, h2, h3⟩, h => by
    simp only [Tree.find] at h
    split at h
    · rename_i hb
      have := Nat.eq_of_beq_eq_true hb
      subst this
      cases h
      exact h2
    · split at h
      · exact Tree.find_all h1 h
      · exact Tree.find_all h3 h

theorem Tree.env (t : Tree) (h : t.All fun f af => ∃ fn, P.funcs[f]? = some fn ∧ cF P fn = some af) : Env P t.find := fun _ _ hf => Tree.find_all h hf

end
end Go.Abs
