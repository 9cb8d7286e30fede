/-
  What is proved here: from a call on abstract values to the call in the model; what a reckoned call without arguments leaves.
  No conditions.
-/
import Derived.Test.YtecpopiacpckiaaFast
import Derived.RowKit3
namespace Go.Abs

def M0 : Map := ⟨fun _ _ => none, fun _ => 0, fun _ => none⟩
def S0 : St := ⟨[], []⟩

/-- Of what was there nothing turns. -/
def Kept (w w' : World) : Prop := w.keptBut w' (fun _ => False) ∧ ∀ a : Addr, a.block < w.heap.size → w'.frozen? a = w.frozen? a

theorem Kept.frame {w w' : World} (h : Kept w w') (may : MemPlace → Prop) : w.keptBut w' may := World.keptBut_mono (fun _ f => f.elim) h.1

theorem Ext.toKept {M M' : Map} {s' : St} {w w' : World} (e : Ext M S0 w M' s' w') : Kept w w' := by
  have hh : ∀ b, b < w.heap.size → w'.heap[b]? = w.heap[b]? := fun b hb =>
    e.kept b hb (fun o ho => by simp [S0] at ho) (fun t c z hl => by obtain ⟨n, hn⟩ := hl; simp [S0] at hn)
  refine ⟨⟨e.os, e.output, fun i hi => ?_⟩, fun a ha => ?_⟩
  · rw [hh i hi]
    exact (World.keptBut_refl w (fun _ => False)).2.2 i hi
  · simp only [World.frozen?, hh _ ha]

theorem rel0 (G : Nat → Nat → Option Value) (w : World) (h : ∀ b o v, G b o = some v → w.cell? ⟨b, o, none⟩ = some v ∧ v.oneCell' = true) : Rel ⟨G, fun _ => 0, fun _ => none⟩ S0 w :=
  ⟨h, fun o ds e => by simp [S0] at e, fun o ho => by simp [S0] at ho, fun o o' ho => by simp [S0] at ho, fun t n e => by simp [S0] at e,
    fun t b c z o hl => by obtain ⟨n, hn⟩ := hl; simp [S0] at hn, fun t t' b c z c' z' hl => by obtain ⟨n, hn⟩ := hl; simp [S0] at hn⟩

/-- A law is called. -/
theorem law_calls {P : Program} {f : FuncId} {args : List D} {vargs : Array Value} {w : World} {G : Nat → Nat → Option Value} (h : ACalls P f args S0 fun d _ => d = .bool true)
    (hG : ∀ b o v, G b o = some v → w.cell? ⟨b, o, none⟩ = some v ∧ v.oneCell' = true) (hl : vargs.size = args.length)
    (ha : ∀ (i : Nat) (d : D) (v : Value), args[i]? = some d → vargs[i]? = some v → RD ⟨G, fun _ => 0, fun _ => none⟩ S0 d v) :
    Calls P f vargs w fun e w' => e = .returned (.bool true) ∧ Kept w w' := by
  refine (h _ w vargs (rel0 G w hG) hl ha).mono fun e w' hw => ?_
  obtain ⟨M', d, v, s', rfl, rfl, he, _, hv⟩ := hw
  rw [hv.bool_inv]
  exact ⟨rfl, he.toKept⟩

/-- A call that reckons nothing but its result may be taken as leaving nothing. -/
theorem Fun.clean {P : Program} {f : Nat} {args : List D} {d : D} {s' : St} (h : Fun P f args S0 d s') (hd : d.fg 0 0 = d) : Fun P f args S0 d S0 := by
  intro M w vargs r hl ha
  refine (h M w vargs r hl ha).mono fun e w' hw => ?_
  obtain ⟨M', d', v, s1, he, ⟨rfl, rfl⟩, hext, r', hv⟩ := hw
  have h1 := hext.cut (n := 0) (m := 0) (by simp [S0]) (by simp [S0])
  have h2 := r'.cut 0 0
  have h3 := hv.fg 0 0
  have hs : s1.cut 0 0 = S0 := by simp [St.cut, S0]
  rw [hs] at h1 h2 h3
  rw [hd] at h3
  exact ⟨M', d', v, S0, he, ⟨rfl, rfl⟩, h1, h2, h3⟩

def isTrue : Option (D × St) → Bool
  | some (.bool true, _) => true
  | _ => false

theorem isTrue_fun {P : Program} {call : CallT} (hc : SoundC P call) {f : Nat} {args : List D} (h : isTrue (call f args S0) = true) : Fun P f args S0 (.bool true) S0 := by
  cases hr : call f args S0 with
  | none => rw [hr] at h; cases h
  | some p =>
    obtain ⟨d, s'⟩ := p
    rw [hr] at h
    cases d <;> simp only [isTrue] at h <;> first | (cases h; done) | skip
    rename_i b
    cases b
    · cases h
    · exact (hc _ _ _ _ _ hr).clean rfl

/-- A known law: it is true. -/
def primT (known : List Nat) (prim : CallT) : CallT := fun f args s =>
  match memN f known with
  | true =>
    match args, s with
    | [], ⟨[], []⟩ => some (.bool true, ⟨[], []⟩)
    | _, _ => prim f args s
  | false => prim f args s

theorem primT_sound {P : Program} {prim : CallT} (hp : SoundC P prim) {known : List Nat} (hk : ∀ f ∈ known, Fun P f [] S0 (.bool true) S0) : SoundC P (primT known prim) := by
  intro f args s d s' h
  unfold primT at h
  split at h
  · rename_i hm
    split at h
    · cases h
      exact hk f (memN_mem hm)
    · exact hp _ _ _ _ _ h
  · exact hp _ _ _ _ _ h

section
variable {P : Program} {H : Type} {enc : TypeId × Value → H}

/-- The row's closing condition, where nothing turns of what was there. -/
theorem post_of_kept {f : Func} {s : ChangeSpec} {apart fresh handsOn again : Bool} {W W' : World} {args : Array Value} {v : Value} {ds gs : List (DataW H)} {before pa pv : List MemPlace}
    (hW : DataW.Whole enc P f.params.toList s.vars apart W args.toList ds gs before)
    (hres : ∀ (b : Nat) (sp : Nat → Bool) (hd : Bool), DataW.TrodAll enc P W' b sp hd f.resultTypes.toList (v.resultList f.resultTypes.size) (s.fn H (ds ++ gs)).results [])
    (hargs : ∀ sp : Nat → Bool, (∀ p ∈ before, sp p.block = true) → DataW.TrodAll enc P W' 0 sp true f.params.toList args.toList (s.fn H (ds ++ gs)).args pa)
    (hvars : ∀ sp : Nat → Bool, (∀ p ∈ before, sp p.block = true) → DataW.TrodVars enc P W' sp s.vars (s.fn H (ds ++ gs)).vars pv)
    (hps : before = pa ++ pv) (hk : Kept W W')
    (hok : ∀ (j : Nat) (t : TypeId) (r : Value), f.resultTypes[j]? = some t → (v.resultList f.resultTypes.size)[j]? = some r → Value.okWide P W' .any 0 t r) :
    s.post enc P f apart fresh handsOn again W args v W' := by
  have hlt : ∀ p ∈ before, p.block < W.heap.size := fun p hp => hW.lt p hp
  have hold : ∀ p ∈ before, (fun b => decide (b < W.heap.size)) p.block = true := fun p hp => by simpa using hlt p hp
  refine ⟨ds, gs, before, [], pa, pv, hW, hres _ _ _, hargs _ hold, hvars _ hold, World.keptBut_mono (fun p hp => ⟨hp, ?_⟩) (hk.frame (· ∈ before)), fun _ => ?_⟩
  · rw [hps, List.mem_append] at hp
    exact Or.inr hp
  · obtain ⟨_, _, _, _, _, hz, hn⟩ := hW
    refine ⟨hok, _, _, ([] ++ pa) ++ pv, ⟨[] ++ pa, pv, ChangeShapes.trodAll_append (hargs _ (fun _ _ => rfl)) (hres _ _ _), hvars _ (fun _ _ => rfl), rfl, ?_, ?_⟩, ?_⟩
    · intro b off hp
      have hp' : MemPlace.cell b off ∈ before := by rw [hps]; simpa using hp
      rw [hk.2 _ (hlt _ hp')]
      exact hz b off hp'
    · intro ha
      have := hn ha
      rw [hps] at this
      simpa using this
    · intro p hp _
      rw [hps]
      simpa using hp
end
end Go.Abs
