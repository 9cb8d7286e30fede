/-
  What is proved here: the rules by which a function's statements, loops, jumps and calls are walked on abstract states.
  No conditions.
-/
import Derived.Test.YtecpopiacpckiaaCode
namespace Go.Abs

/-- Which code was turned into a piece of abstract code. -/
def Turned (P : Program) (nt : Nat) : AC → Code → Prop
  | .skip, c => c = .skip
  | .run is, c => ∃ id ops, c = .region id ops false ∧ cIs P nt ops ops.toList = some is
  | .par is plan, c => ∃ id ops, c = .region id ops true ∧ cIs P nt ops ops.toList = some is ∧ P.follows .mixedOrders = true ∧ ∃ pt, planOk is (ops.toList.map edgesOf) pt plan = true
  | .seq a b, c => ∃ x y, c = .seq x y ∧ cC P nt x = some a ∧ cC P nt y = some b
  | .cond x a b, c => ∃ o p q, c = .cond o p q ∧ cX o = some x ∧ cC P nt p = some a ∧ cC P nt q = some b
  | .block id a, c => ∃ x, c = .block id x ∧ cC P nt x = some a
  | .loop a, c => ∃ x, c = .loop x ∧ cC P nt x = some a
  | .exit id, c => c = .exit id
  | .scope a, c => ∃ x, c = .scope x ∧ cC P nt x = some a
  | .label l, c => c = .label l
  | .goto l, c => c = .goto l
  | .ret, c => c = .ret

theorem cC_inv {P : Program} {nt : Nat} {c : Code} {ac : AC} (h : cC P nt c = some ac) : Turned P nt ac c := by
  cases c with
  | skip => cases h; rfl
  | region id ops draw =>
    cases draw
    · obtain ⟨is, h1, rfl⟩ := map_some (x := cIs P nt ops ops.toList) (f := AC.run) (by simpa [cC] using h)
      exact ⟨id, ops, rfl, h1⟩
    · simp only [cC] at h
      split at h
      · rename_i hm
        obtain ⟨is, h1, h2⟩ := Option.bind_eq_some_iff.1 h
        unfold parOf at h2
        split at h2
        · rename_i hp
          cases h2
          exact ⟨id, ops, rfl, h1, hm, _, hp⟩
        · cases h2
      · cases h
  | seq a b =>
    simp only [cC] at h
    split at h
    · rename_i a' b' h1 h2; cases h; exact ⟨a, b, rfl, h1, h2⟩
    · cases h
  | cond x a b =>
    simp only [cC] at h
    split at h
    · rename_i x' a' b' h1 h2 h3; cases h; exact ⟨x, a, b, rfl, h1, h2, h3⟩
    · cases h
  | block id a =>
    obtain ⟨a', h1, rfl⟩ := map_some (x := cC P nt a) (f := AC.block id) (by simpa [cC] using h)
    exact ⟨a, rfl, h1⟩
  | loop a =>
    obtain ⟨a', h1, rfl⟩ := map_some (x := cC P nt a) (f := AC.loop) (by simpa [cC] using h)
    exact ⟨a, rfl, h1⟩
  | rangeFunc f p a b => simp [cC] at h
  | exit id => cases h; rfl
  | scope a =>
    obtain ⟨a', h1, rfl⟩ := map_some (x := cC P nt a) (f := AC.scope) (by simpa [cC] using h)
    exact ⟨a, rfl, h1⟩
  | label l => cases h; rfl
  | goto l => cases h; rfl
  | ret => cases h; rfl
  | refuse w => simp [cC] at h

/-- What must hold ahead of a piece of code, so that Q holds behind it. -/
def Sem (P : Program) (B : Base) (nt : Nat) (ac : AC) (Q : Exit → Tm → St → Prop) (tm : Tm) (s : St) : Prop :=
  ∀ c, cC P nt c = some ac → ∀ act w, Holds B nt tm s act w → c.wp P (Post B nt Q) act w

def thenQ (next : Tm → St → Prop) (Q : Exit → Tm → St → Prop) : Exit → Tm → St → Prop
  | .normal, tm, s => next tm s
  | e, tm, s => Q e tm s

def inBlockQ (id : Nat) (Q : Exit → Tm → St → Prop) : Exit → Tm → St → Prop
  | .exit i, tm, s => if i = id then Q .normal tm s else Q (.exit i) tm s
  | e, tm, s => Q e tm s

section
variable {P : Program} {B : Base} {nt : Nat} {Q : Exit → Tm → St → Prop} {tm : Tm} {s : St}

theorem Sem.mono {ac : AC} {Q' : Exit → Tm → St → Prop} (h : Sem P B nt ac Q tm s) (hq : ∀ e tm s, Q e tm s → Q' e tm s) : Sem P B nt ac Q' tm s :=
  fun c hc act w hh => wp_mono (h c hc act w hh) fun _ _ _ ⟨tm, s, h1, h2⟩ => ⟨tm, s, hq _ _ _ h1, h2⟩

theorem Sem.skip (h : Q .normal tm s) : Sem P B nt .skip Q tm s := by
  intro c hc act w hh
  cases cC_inv hc
  exact wp_skip ⟨tm, s, h, hh⟩

theorem Sem.label {l : Nat} (h : Q .normal tm s) : Sem P B nt (.label l) Q tm s := by
  intro c hc act w hh
  cases cC_inv hc
  exact wp_label ⟨tm, s, h, hh⟩

theorem Sem.exit {id : Nat} (h : Q (.exit id) tm s) : Sem P B nt (.exit id) Q tm s := by
  intro c hc act w hh
  cases cC_inv hc
  exact wp_exit ⟨tm, s, h, hh⟩

theorem Sem.goto {l : Nat} (h : Q (.goto l) tm s) : Sem P B nt (.goto l) Q tm s := by
  intro c hc act w hh
  cases cC_inv hc
  exact wp_goto ⟨tm, s, h, hh⟩

theorem Sem.ret (h : Q .ret tm s) : Sem P B nt .ret Q tm s := by
  intro c hc act w hh
  cases cC_inv hc
  exact wp_ret ⟨tm, s, h, hh⟩

theorem range_map (ops : Array Oper) : (List.range ops.size).map (ops[·]?) = ops.toList.map some := by
  apply List.ext_getElem?
  intro i
  by_cases h : i < ops.size
  · simp [h]
  · simp [h]

theorem Sem.run {is : List AI} (h : vcI P is (Q .normal) tm s) : Sem P B nt (.run is) Q tm s := by
  intro c hc act w hh
  obtain ⟨id, ops, rfl, hi⟩ := cC_inv hc
  exact wp_region (vcI_sound (Q := Q) (List.range ops.size) ops.toList is (range_map ops) hi tm s act w h hh)

theorem Sem.seq {a b : AC} (h : Sem P B nt a (thenQ (Sem P B nt b Q) Q) tm s) : Sem P B nt (.seq a b) Q tm s := by
  intro c hc act w hh
  obtain ⟨x, y, rfl, h1, h2⟩ := cC_inv hc
  refine wp_seq (wp_mono (h x h1 act w hh) fun e act w hp => ?_)
  obtain ⟨tm', s', hq, hh'⟩ := hp
  cases e with
  | normal => exact hq y h2 act w hh'
  | exit id => exact ⟨tm', s', hq, hh'⟩
  | goto l => exact ⟨tm', s', hq, hh'⟩
  | ret => exact ⟨tm', s', hq, hh'⟩
  | panic ch => exact ⟨tm', s', hq, hh'⟩
  | outgrown => exact ⟨tm', s', hq, hh'⟩

theorem Sem.cond {x : X} {a b : AC} {t : Bool} (hx : x.ev tm = .bool t) (h1 : t = true → Sem P B nt a Q tm s) (h2 : t = false → Sem P B nt b Q tm s) : Sem P B nt (.cond x a b) Q tm s := by
  intro c hc act w hh
  obtain ⟨o, p, q, rfl, g1, g2, g3⟩ := cC_inv hc
  have hh' := hh
  obtain ⟨M, e, r, ht, hn, hd⟩ := hh
  have hv := cX_sound g1 ht
  rw [hx] at hv
  exact wp_cond_split hv.bool_inv (fun h => h1 h p g2 act w hh') (fun h => h2 h q g3 act w hh')

theorem Sem.cond_true {x : X} {a b : AC} (hx : x.ev tm = .bool true) (h1 : Sem P B nt a Q tm s) : Sem P B nt (.cond x a b) Q tm s := Sem.cond hx (fun _ => h1) (fun h => by cases h)
theorem Sem.cond_false {x : X} {a b : AC} (hx : x.ev tm = .bool false) (h1 : Sem P B nt b Q tm s) : Sem P B nt (.cond x a b) Q tm s := Sem.cond hx (fun h => by cases h) (fun _ => h1)

theorem Sem.block {id : Nat} {a : AC} (h : Sem P B nt a (inBlockQ id Q) tm s) : Sem P B nt (.block id a) Q tm s := by
  intro c hc act w hh
  obtain ⟨x, rfl, h1⟩ := cC_inv hc
  refine wp_block (wp_mono (h x h1 act w hh) fun e act w hp => ?_)
  obtain ⟨tm', s', hq, hh'⟩ := hp
  cases e with
  | exit i =>
    simp only [inBlockQ] at hq
    simp only [Exit.inBlock]
    split at hq
    · rename_i h; rw [if_pos h]; exact ⟨tm', s', hq, hh'⟩
    · rename_i h; rw [if_neg h]; exact ⟨tm', s', hq, hh'⟩
  | normal => exact ⟨tm', s', hq, hh'⟩
  | goto l => exact ⟨tm', s', hq, hh'⟩
  | ret => exact ⟨tm', s', hq, hh'⟩
  | panic ch => exact ⟨tm', s', hq, hh'⟩
  | outgrown => exact ⟨tm', s', hq, hh'⟩

/-- From a loop's head on. -/
def LoopP (P : Program) (c : Code) (Q : Exit → Act → World → Prop) (a : Act) (w : World) : Prop :=
  ∀ (b : Frame) (k : List Item) (cs : List Frame), ∃ e a' w', Q e a' w' ∧ Arrives P (lone (b.at a (.code c :: .inLoop c :: k)) cs w) b k cs e a' w'

theorem LoopP.wp {c : Code} {Q : Exit → Act → World → Prop} {a : Act} {w : World} (h : LoopP P c Q a w) : (Code.loop c).wp P Q a w := fun b k cs =>
  let ⟨e, a', w', hq, harr⟩ := h b k cs
  ⟨e, a', w', hq, .of_steps (.one step_loop) harr⟩

theorem LoopP.once {c : Code} {Q : Exit → Act → World → Prop} {a : Act} {w : World} (h : c.wp P (Exit.then (LoopP P c Q) Q) a w) : LoopP P c Q a w := by
  intro b k cs
  obtain ⟨e, a₁, w₁, hq, harr⟩ := h b (.inLoop c :: k) cs
  cases e with
  | normal =>
    obtain ⟨e₂, a₂, w₂, hq₂, harr₂⟩ := hq b k cs
    exact ⟨e₂, a₂, w₂, hq₂, .of_steps (Steps.trans harr (.one step_inLoop)) harr₂⟩
  | exit id => exact ⟨_, a₁, w₁, hq, .pass (x := .inLoop c) rfl (fun _ _ => .inl (by simp)) harr⟩
  | goto l => exact ⟨_, a₁, w₁, hq, .pass (x := .inLoop c) rfl (fun _ _ => .inl (by simp)) harr⟩
  | ret => exact ⟨_, a₁, w₁, hq, .pass (x := .inLoop c) rfl (fun _ _ => .inl (by simp)) harr⟩
  | panic ch => exact ⟨_, a₁, w₁, hq, .pass (x := .inLoop c) rfl (fun _ _ => .inl (by simp)) harr⟩
  | outgrown => exact ⟨_, a₁, w₁, hq, .pass (x := .inLoop c) rfl (fun _ _ => .inl (by simp)) harr⟩

def SemL (P : Program) (B : Base) (nt : Nat) (ac : AC) (Q : Exit → Tm → St → Prop) (tm : Tm) (s : St) : Prop :=
  ∀ c, cC P nt c = some ac → ∀ act w, Holds B nt tm s act w → LoopP P c (Post B nt Q) act w

theorem Sem.loop {a : AC} (h : SemL P B nt a Q tm s) : Sem P B nt (.loop a) Q tm s := by
  intro c hc act w hh
  obtain ⟨x, rfl, h1⟩ := cC_inv hc
  exact (h x h1 act w hh).wp

theorem SemL.once {a : AC} (h : Sem P B nt a (thenQ (SemL P B nt a Q) Q) tm s) : SemL P B nt a Q tm s := by
  intro c hc act w hh
  refine LoopP.once (wp_mono (h c hc act w hh) fun e act w hp => ?_)
  obtain ⟨tm', s', hq, hh'⟩ := hp
  cases e with
  | normal => exact hq c hc act w hh'
  | exit id => exact ⟨tm', s', hq, hh'⟩
  | goto l => exact ⟨tm', s', hq, hh'⟩
  | ret => exact ⟨tm', s', hq, hh'⟩
  | panic ch => exact ⟨tm', s', hq, hh'⟩
  | outgrown => exact ⟨tm', s', hq, hh'⟩

/-! ### Scopes: labels and jumps -/

/-- In a scope, with some code still to do. -/
def ScopeP (P : Program) (c r : Code) (Q : Exit → Act → World → Prop) (a : Act) (w : World) : Prop :=
  ∀ (b : Frame) (k : List Item) (cs : List Frame), ∃ e a' w', Q e a' w' ∧ Arrives P (lone (b.at a (.code r :: .inScope c :: k)) cs w) b k cs e a' w'

def jumpQ (P : Program) (c : Code) (Q : Exit → Act → World → Prop) : Exit → Act → World → Prop
  | .goto l, a, w => ∃ rest, findLabel c l = some rest ∧ ScopeP P c rest Q a w
  | e, a, w => Q e a w

theorem ScopeP.wp {c : Code} {Q : Exit → Act → World → Prop} {a : Act} {w : World} (h : ScopeP P c c Q a w) : (Code.scope c).wp P Q a w := fun b k cs =>
  let ⟨e, a', w', hq, harr⟩ := h b k cs
  ⟨e, a', w', hq, .of_steps (.one step_scope) harr⟩

theorem ScopeP.once {c r : Code} {Q : Exit → Act → World → Prop} {a : Act} {w : World} (h : r.wp P (jumpQ P c Q) a w) : ScopeP P c r Q a w := by
  intro b k cs
  obtain ⟨e, a₁, w₁, hq, harr⟩ := h b (.inScope c :: k) cs
  cases e with
  | normal => exact ⟨.normal, a₁, w₁, hq, Steps.trans harr (.one step_inScope)⟩
  | exit id => exact ⟨.exit id, a₁, w₁, hq, fun k' hk => harr k' (by simp [exitTo, hk])⟩
  | goto l =>
    obtain ⟨rest, hf, hs⟩ := hq
    obtain ⟨e₂, a₂, w₂, hq₂, harr₂⟩ := hs b k cs
    exact ⟨e₂, a₂, w₂, hq₂, .of_steps (harr _ (by simp [gotoIn, hf])) harr₂⟩
  | ret => exact ⟨_, a₁, w₁, hq, harr⟩
  | panic ch => exact ⟨_, a₁, w₁, hq, harr⟩
  | outgrown => exact ⟨_, a₁, w₁, hq, harr⟩

/-- Where a label stands in abstract code. -/
def findL : AC → Nat → Option AC
  | .seq a b, l =>
    match findL a l with
    | some r => some (.seq r b)
    | none => findL b l
  | .label l', l => if l' == l then some .skip else none
  | _, _ => none

theorem findL_sound : ∀ {c : Code} {ac : AC}, cC P nt c = some ac → ∀ l, (findL ac l = none → findLabel c l = none) ∧ ∀ r, findL ac l = some r → ∃ rest, findLabel c l = some rest ∧ cC P nt rest = some r := by
  intro c
  induction c with
  | seq a b iha ihb =>
    intro ac h l
    simp only [cC] at h
    split at h
    · rename_i a' b' h1 h2
      cases h
      obtain ⟨n1, s1⟩ := iha h1 l
      obtain ⟨n2, s2⟩ := ihb h2 l
      simp only [findL, findLabel]
      cases hf : findL a' l with
      | none =>
        rw [n1 hf]
        exact ⟨n2, s2⟩
      | some r =>
        obtain ⟨rest, g1, g2⟩ := s1 r hf
        rw [g1]
        refine ⟨(by intro h; cases h), fun r' h => ?_⟩
        cases h
        exact ⟨_, rfl, by simp [cC, g2, h2]⟩
    · cases h
  | label l' =>
    intro ac h l
    cases h
    simp only [findL, findLabel]
    split
    · exact ⟨(by intro h; cases h), (by intro r h; cases h; exact ⟨_, rfl, rfl⟩)⟩
    · exact ⟨fun _ => rfl, (by intro r h; cases h)⟩
  | _ =>
    intro ac h l
    have := cC_inv h
    cases ac <;> simp only [Turned] at this <;> first
      | (exfalso; obtain ⟨_, _, this⟩ := this; cases this.1; done)
      | exact ⟨fun _ => rfl, (by intro r h; cases h)⟩
      | (exfalso; cases this; done)
      | (exfalso; obtain ⟨_, this⟩ := this; cases this.1; done)
      | (exfalso; obtain ⟨_, _, _, _, this⟩ := this; cases this.1; done)

def SemS (P : Program) (B : Base) (nt : Nat) (ac r : AC) (Q : Exit → Tm → St → Prop) (tm : Tm) (s : St) : Prop :=
  ∀ c rest, cC P nt c = some ac → cC P nt rest = some r → ∀ act w, Holds B nt tm s act w → ScopeP P c rest (Post B nt Q) act w

/-- In a scope a jump goes on at its label. -/
def jumpA (P : Program) (B : Base) (nt : Nat) (ac : AC) (Q : Exit → Tm → St → Prop) : Exit → Tm → St → Prop
  | .goto l, tm, s => ∃ r, findL ac l = some r ∧ SemS P B nt ac r Q tm s
  | e, tm, s => Q e tm s

theorem Sem.scope {a : AC} (h : SemS P B nt a a Q tm s) : Sem P B nt (.scope a) Q tm s := by
  intro c hc act w hh
  obtain ⟨x, rfl, h1⟩ := cC_inv hc
  exact (h x x h1 h1 act w hh).wp

theorem SemS.once {a r : AC} (h : Sem P B nt r (jumpA P B nt a Q) tm s) : SemS P B nt a r Q tm s := by
  intro c rest hc hrest act w hh
  refine ScopeP.once (wp_mono (h rest hrest act w hh) fun e act w hp => ?_)
  obtain ⟨tm', s', hq, hh'⟩ := hp
  cases e with
  | normal => exact ⟨tm', s', hq, hh'⟩
  | exit id => exact ⟨tm', s', hq, hh'⟩
  | goto l =>
    obtain ⟨r', hf, hs⟩ := hq
    obtain ⟨rest', g1, g2⟩ := (findL_sound hc l).2 r' hf
    exact ⟨rest', g1, hs c rest' hc g2 act w hh'⟩
  | ret => exact ⟨tm', s', hq, hh'⟩
  | panic ch => exact ⟨tm', s', hq, hh'⟩
  | outgrown => exact ⟨tm', s', hq, hh'⟩

/-! ### Forgetting -/

def Tag.fg (m : Nat) : Tag → Tag
  | .tok t => if t < m then .tok t else .shared
  | g => g

mutual
/-- A value without what lies beyond the first n objects and m tokens. -/
def D.fg (n m : Nat) : D → D
  | .ptr o off => if o < n then .ptr o off else .junk
  | .cptr row off => .cptr (D.fgs n m row) off
  | .slice g z rows => .slice (g.fg m) z (D.fgr n m rows)
  | .agg cs => .agg (D.fgs n m cs)
  | .tuple ds => .tuple (D.fgs n m ds)
  | .junk => .junk
  | .int k x => .int k x
  | .bool b => .bool b
  | .str l => .str l
  | .nilp => .nilp
def D.fgs (n m : Nat) : List D → List D
  | [] => []
  | d :: r => D.fg n m d :: D.fgs n m r
def D.fgr (n m : Nat) : List (List D) → List (List D)
  | [] => []
  | d :: r => D.fgs n m d :: D.fgr n m r
end

theorem fgs_eq (n m : Nat) : ∀ l, D.fgs n m l = l.map (D.fg n m)
  | [] => by simp [D.fgs]
  | d :: r => by simp [D.fgs, fgs_eq n m r]
theorem fgr_eq (n m : Nat) : ∀ l, D.fgr n m l = l.map (D.fgs n m)
  | [] => by simp [D.fgr]
  | d :: r => by simp [D.fgr, fgr_eq n m r]

def St.cut (s : St) (n m : Nat) : St := ⟨(s.objs.take n).map (D.fgs n m), s.toks.take m⟩

def Tm.fg (n m : Nat) (tm : Tm) : Tm := tm.map fun p => (p.1, p.2.fg n m)

/-- Only these slots are still wanted. -/
def Tm.keep (ks : List Nat) (tm : Tm) : Tm := tm.filter fun p => ks.contains p.1

theorem cut_objs (s : St) (n m : Nat) : (s.cut n m).objs.length = min n s.objs.length := by simp [St.cut]

theorem TagOk.fg {M : Map} {g : Tag} {z len cap : Nat} {base : Option (Nat × Nat)} (n m : Nat) (h : TagOk M s g z len base cap) : TagOk M (s.cut n m) (g.fg m) z len base cap := by
  cases g with
  | full => exact h
  | shared => exact h
  | tok t =>
    simp only [Tag.fg]
    split
    · rename_i ht
      obtain ⟨h1, h2⟩ := h
      refine ⟨by simp [St.cut]; omega, fun k hk => h2 k ?_⟩
      simpa [St.cut, List.getElem?_take_of_lt ht] using hk
    · trivial

theorem RD.fg {M : Map} {d : D} {v : Value} (n m : Nat) (h : RD M s d v) : RD M (s.cut n m) (d.fg n m) v := by
  induction h with
  | junk v => simp only [D.fg]; exact .junk v
  | int k x => simp only [D.fg]; exact .int k x
  | bool b => simp only [D.fg]; exact .bool b
  | str l => simp only [D.fg]; exact .str l
  | nilp => simp only [D.fg]; exact .nilp
  | ptr o off h =>
    simp only [D.fg]
    split
    · exact .ptr o off (by rw [cut_objs]; omega)
    · exact .junk _
  | cptr row off b k h1 h2 ih =>
    simp only [D.fg, fgs_eq]
    refine .cptr _ off b k (fun i d e => ?_) (fun i d u e eu => ?_)
    · simp only [List.getElem?_map, Option.map_eq_some_iff] at e
      obtain ⟨d', e, rfl⟩ := e
      exact h1 i d' e
    · simp only [List.getElem?_map, Option.map_eq_some_iff] at e
      obtain ⟨d', e, rfl⟩ := e
      exact ih i d' u e eu
  | snil g z cap hc ht => simp only [D.fg, D.fgr]; exact .snil _ z cap hc (ht.fg n m)
  | slice g z rows b k cap hl hs h1 h2 ht ih =>
    simp only [D.fg, fgr_eq]
    have hlen : (rows.map (D.fgs n m)).length = rows.length := by simp
    have key := RD.slice (M := M) (s := s.cut n m) (g.fg m) z (rows.map (D.fgs n m)) b k cap (by rw [hlen]; exact hl) (fun row hr => by
        obtain ⟨row', h', rfl⟩ := List.mem_map.1 hr
        rw [fgs_eq, List.length_map]; exact hs row' h')
      (fun i row j d e1 e2 => by
        simp only [List.getElem?_map, Option.map_eq_some_iff] at e1
        obtain ⟨row', e1, rfl⟩ := e1
        rw [fgs_eq] at e2
        simp only [List.getElem?_map, Option.map_eq_some_iff] at e2
        obtain ⟨d', e2, rfl⟩ := e2
        exact h1 i row' j d' e1 e2)
      (fun i row j d u e1 e2 eu => by
        simp only [List.getElem?_map, Option.map_eq_some_iff] at e1
        obtain ⟨row', e1, rfl⟩ := e1
        rw [fgs_eq] at e2
        simp only [List.getElem?_map, Option.map_eq_some_iff] at e2
        obtain ⟨d', e2, rfl⟩ := e2
        exact ih i row' j d' u e1 e2 eu)
      (by rw [hlen]; exact ht.fg n m)
    rw [hlen] at key
    exact key
  | agg cells vs hl h1 _ ih =>
    simp only [D.fg, fgs_eq]
    refine .agg _ vs (by simpa using hl) h1 (fun i d v e1 e2 => ?_)
    simp only [List.getElem?_map, Option.map_eq_some_iff] at e1
    obtain ⟨d', e1, rfl⟩ := e1
    exact ih i d' v e1 e2
  | tuple ds vs hl _ ih =>
    simp only [D.fg, fgs_eq]
    refine .tuple _ vs (by simpa using hl) (fun i d v e1 e2 => ?_)
    simp only [List.getElem?_map, Option.map_eq_some_iff] at e1
    obtain ⟨d', e1, rfl⟩ := e1
    exact ih i d' v e1 e2

theorem cut_tok {t k n m : Nat} (h : (s.cut n m).toks[t]? = some (some k)) : s.toks[t]? = some (some k) := by
  simp only [St.cut, List.getElem?_take] at h
  split at h
  · exact h
  · cases h

theorem cut_live {t n m : Nat} (h : (s.cut n m).live t) : s.live t := by
  obtain ⟨k, hk⟩ := h
  exact ⟨k, cut_tok hk⟩

theorem Rel.cut {M : Map} {w : World} (n m : Nat) (r : Rel M s w) : Rel M (s.cut n m) w := by
  have hlt : ∀ o, o < (s.cut n m).objs.length → o < s.objs.length := fun o h => by rw [cut_objs] at h; omega
  refine ⟨r.comm, fun o ds e => ?_, fun o ho => r.objG o (hlt o ho), fun o o' h h' => r.inj o o' (hlt o h) (hlt o' h'), fun t k e => r.tok t k (cut_tok e),
    fun t b c z o hl e ho => r.tokObj t b c z o (cut_live hl) e (hlt o ho), fun t t' b c z c' z' h h' e e' => r.tokInj t t' b c z c' z' (cut_live h) (cut_live h') e e'⟩
  simp only [St.cut, List.getElem?_map, Option.map_eq_some_iff, List.getElem?_take] at e
  obtain ⟨ds', e, rfl⟩ := e
  split at e
  · obtain ⟨vs, T, h1, h2, h3, h4⟩ := r.obj o ds' e
    refine ⟨vs, T, h1, by rw [fgs_eq]; simpa using h2, h3, fun i d v e1 e2 => ?_⟩
    rw [fgs_eq] at e1
    simp only [List.getElem?_map, Option.map_eq_some_iff] at e1
    obtain ⟨d', e1, rfl⟩ := e1
    exact (h4 i d' v e1 e2).fg n m
  · cases e

theorem Ext.cut {M0 M : Map} {s0 : St} {w0 w : World} {n m : Nat} (e : Ext M0 s0 w0 M s w) (hn : s0.objs.length ≤ n) (hm : s0.toks.length ≤ m) : Ext M0 s0 w0 M (s.cut n m) w := by
  have hlt : ∀ o, o < (s.cut n m).objs.length → o < s.objs.length := fun o h => by rw [cut_objs] at h; omega
  refine ⟨⟨e.le.G, by rw [cut_objs]; have := e.le.n; omega, e.le.mu, by simp [St.cut]; have := e.le.t; omega, fun t k h1 h2 => e.le.tk t k h1 (cut_tok h2)⟩, e.kept, fun o h1 h2 => e.newO o h1 (hlt o h2), fun t b c z h => e.newT t b c z (cut_live h), e.newG, e.size, e.os, e.tape, e.output⟩

theorem get_fg (n m : Nat) : ∀ (tm : Tm) (t : Nat), (tm.fg n m).get t = (tm.get t).fg n m
  | [], _ => by simp [Tm.fg, Tm.get, D.fg]
  | (k, d) :: r, t => by
    have ih := get_fg n m r t
    simp only [Tm.fg] at ih
    simp only [Tm.fg, List.map_cons, Tm.get]
    split
    · rfl
    · exact ih

theorem get_keep (ks : List Nat) : ∀ (tm : Tm) (t : Nat), (tm.keep ks).get t = if ks.contains t then tm.get t else .junk
  | [], t => by simp [Tm.keep, Tm.get]
  | (k, d) :: r, t => by
    have ih := get_keep ks r t
    simp only [Tm.keep] at ih
    simp only [Tm.keep, List.filter_cons, Tm.get]
    by_cases hk : ks.contains k = true
    · simp only [hk, if_true, Tm.get]
      by_cases h : k = t
      · subst h; simp only [if_true, hk]
      · simp only [if_neg h]; exact ih
    · rw [if_neg hk]
      by_cases h : k = t
      · subst h; rw [ih]; simp only [if_neg hk]
      · simp only [if_neg h]; exact ih

/-- What is no longer wanted may be forgotten. -/
theorem Holds.forget {act : Act} {w : World} (ks : List Nat) (n m : Nat) (hn : B.s.objs.length ≤ n) (hm : B.s.toks.length ≤ m) (h : Holds B nt tm s act w) : Holds B nt ((tm.keep ks).fg n m) (s.cut n m) act w := by
  obtain ⟨M, e, r, ht, h1, h2⟩ := h
  refine ⟨M, e.cut hn hm, r.cut n m, fun t => ?_, h1, h2⟩
  rw [get_fg, get_keep]
  split
  · exact (ht t).fg n m
  · simp only [D.fg]; exact .junk _

theorem Sem.forget {ac : AC} (ks : List Nat) (n m : Nat) (hn : B.s.objs.length ≤ n) (hm : B.s.toks.length ≤ m) (h : Sem P B nt ac Q ((tm.keep ks).fg n m) (s.cut n m)) : Sem P B nt ac Q tm s :=
  fun c hc act w hh => h c hc act w (hh.forget ks n m hn hm)

theorem SemL.forget {ac : AC} (ks : List Nat) (n m : Nat) (hn : B.s.objs.length ≤ n) (hm : B.s.toks.length ≤ m) (h : SemL P B nt ac Q ((tm.keep ks).fg n m) (s.cut n m)) : SemL P B nt ac Q tm s :=
  fun c hc act w hh => h c hc act w (hh.forget ks n m hn hm)

theorem SemS.forget {a r : AC} (ks : List Nat) (n m : Nat) (hn : B.s.objs.length ≤ n) (hm : B.s.toks.length ≤ m) (h : SemS P B nt a r Q ((tm.keep ks).fg n m) (s.cut n m)) : SemS P B nt a r Q tm s :=
  fun c rest hc hr act w hh => h c rest hc hr act w (hh.forget ks n m hn hm)

end
end Go.Abs
