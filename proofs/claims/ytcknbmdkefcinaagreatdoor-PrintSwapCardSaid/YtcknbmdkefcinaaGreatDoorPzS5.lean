/-
  What is proved here: the statement PrintSwapCardSaid: whatever the arguments, the law, called, gives true, and of what was there nothing turns.
  No conditions.
-/
import Derived.Test.YtcknbmdkefcinaaGreatDoorPzS4
import Derived.RowKit3
import Derived.WalkKit
import Derived.ProofKit
import Derived.OpenShut
import Derived.ShutString
import Derived.ChangeMaps5
import Derived.ChangeStays
import Derived.KernelRfl
import Derived.Test.YtcknbmdkefcinaaGreatDoorRows
import Derived.Lib.LaidTab
import Derived.Lib.LaidIn
import Derived.LaidSub
import Derived.Test.YtcknbmdkefcinaaGreatDoorCards
import Derived.Test.YtcknbmdkefcinaaGreatDoorTie
import Derived.SevenTiedAt

set_option linter.unusedSimpArgs false
set_option linter.unusedVariables false

/-! Swap2 -/

namespace Go.Abs

theorem oth_oth (a b t : Str) : oth a b (oth a b t) = t := by
 simp only [oth, beq_iff_eq]
 by_cases h1 : t = a
 · subst h1
   rw [if_pos rfl]
   by_cases h2 : b = t
   · rw [if_pos h2]; exact h2
   · rw [if_neg h2, if_pos rfl]
 · rw [if_neg h1]
   by_cases h2 : t = b
   · subst h2
     have e : (if t = t then a else t) = a := if_pos rfl
     rw [e, if_pos rfl]
   · rw [if_neg h2, if_neg h1, if_neg h2]
theorem map_oth (a b : Str) : ∀ l : List Str, (l.map (oth a b)).map (oth a b) = l
 | [] => rfl
 | t :: l => by simp only [List.map_cons, oth_oth, map_oth a b l]
theorem isName_oth {a b : Str} (ha : isName a = true) (hb : isName b = true) (t : Str) : isName (oth a b t) = isName t := by
 simp only [oth, beq_iff_eq]
 by_cases h1 : t = a
 · rw [if_pos h1, h1, ha, hb]
 · rw [if_neg h1]
   by_cases h2 : t = b
   · rw [if_pos h2, h2, ha, hb]
   · rw [if_neg h2]
theorem nil_oth {a b : Str} (ha : isName a = true) (hb : isName b = true) (t : Str) : (oth a b t == []) = (t == []) := by
 have n0 : ∀ {s : Str}, isName s = true → (s == []) = false := by
   intro s h
   cases s with
   | nil => simp [isName] at h
   | cons c r => rfl
 simp only [oth, beq_iff_eq]
 by_cases h1 : t = a
 · rw [if_pos h1, h1, n0 ha, n0 hb]
 · rw [if_neg h1]
   by_cases h2 : t = b
   · rw [if_pos h2, h2, n0 ha, n0 hb]
   · rw [if_neg h2]
theorem mayNames_oth {a b : Str} (ha : isName a = true) (hb : isName b = true) : ∀ l : List Str, mayNames (l.map (oth a b)) = mayNames l
 | [] => rfl
 | t :: l => by simp only [List.map_cons, mayNames, isName_oth ha hb, mayNames_oth ha hb l]

theorem swaps_len (a b : Str) (l : List Ex) : (Ex.swaps a b l).length = l.length := by rw [swaps_map, List.length_map]
mutual
theorem ex_form {a b : Str} (ha : isName a = true) (hb : isName b = true) : ∀ x : Ex, (x.swap a b).form = x.form
 | ⟨op, n, name, kids⟩ => by
   simp only [Ex.swap, Ex.form]
   rw [swaps_len, isName_oth ha hb, nil_oth ha hb, ex_forms ha hb kids]
theorem ex_forms {a b : Str} (ha : isName a = true) (hb : isName b = true) : ∀ l : List Ex, Ex.forms (Ex.swaps a b l) = Ex.forms l
 | [] => rfl
 | x :: l => by simp only [Ex.swaps, Ex.forms, ex_form ha hb x, ex_forms ha hb l]
end
mutual
theorem ex_deep (a b : Str) : ∀ x : Ex, (x.swap a b).depth = x.depth ∧ (x.swap a b).size = x.size ∧ ((x.rng) → (x.swap a b).rng) ∧ (x.swap a b).swap a b = x
 | ⟨op, n, name, kids⟩ => by
   obtain ⟨h1, h2, h3, h4⟩ := ex_deeps a b kids
   refine ⟨?_, ?_, fun h => ?_, ?_⟩
   · simp only [Ex.swap, Ex.depth, h1]
   · simp only [Ex.swap, Ex.size, h2]
   · simp only [Ex.swap, Ex.rng] at h ⊢; exact ⟨h.1, h3 h.2⟩
   · simp only [Ex.swap, oth_oth, h4]
theorem ex_deeps (a b : Str) : ∀ l : List Ex, Ex.depths (Ex.swaps a b l) = Ex.depths l ∧ Ex.sizes (Ex.swaps a b l) = Ex.sizes l ∧ (Ex.rngs l → Ex.rngs (Ex.swaps a b l)) ∧ Ex.swaps a b (Ex.swaps a b l) = l
 | [] => ⟨rfl, rfl, fun _ => trivial, rfl⟩
 | x :: l => by
   obtain ⟨h1, h2, h3, h4⟩ := ex_deeps a b l
   obtain ⟨k1, k2, k3, k4⟩ := ex_deep a b x
   refine ⟨?_, ?_, fun h => ?_, ?_⟩
   · simp only [Ex.swaps, Ex.depths, h1, k1]
   · simp only [Ex.swaps, Ex.sizes, h2, k2]
   · simp only [Ex.swaps, Ex.rngs] at h ⊢; exact ⟨k3 h.1, h3 h.2⟩
   · simp only [Ex.swaps, h4, k4]
end
theorem ex_may {a b : Str} (ha : isName a = true) (hb : isName b = true) (x : Ex) : (x.swap a b).may = x.may := by unfold Ex.may; rw [(ex_deep a b x).1, ex_form ha hb]
theorem ex_none {a b : Str} (ha : isName a = true) (hb : isName b = true) (x : Ex) : (x.swap a b).none = x.none := by
 obtain ⟨op, n, name, kids⟩ := x
 simp only [Ex.swap, Ex.none]
 rw [swaps_len, nil_oth ha hb]
theorem ex_toks (a b : Str) (x : Ex) : ∀ k, exN k (x.swap a b) = exN k x := by
 have key : ∀ n : Nat, ∀ x : Ex, x.size ≤ n → ∀ k, exN k (x.swap a b) = exN k x := by
   intro n
   induction n with
   | zero => intro x h; cases x; simp only [Ex.size] at h; omega
   | succ n ih =>
     rintro ⟨op, m, name, kids⟩ h k
     simp only [Ex.size] at h
     match kids with
     | [] => simp [exN, Ex.swap, Ex.swaps]
     | [x] =>
       simp only [Ex.sizes] at h
       simp only [exN, Ex.swap, Ex.swaps]
       rw [ih x (by omega)]
     | x :: y :: l =>
       simp only [Ex.sizes] at h
       simp only [exN, Ex.swap, Ex.swaps]
       rw [ih x (by omega), ih y (by omega)]
 exact key _ x (Nat.le_refl _)

theorem ar_may {a b : Str} (ha : isName a = true) (hb : isName b = true) (x : Ar) : (x.swap a b).may = x.may := by
 simp only [Ar.swap, Ar.may, isName_oth ha hb, nil_oth ha hb, ex_may ha hb, ex_none ha hb]
theorem ar_mays {a b : Str} (ha : isName a = true) (hb : isName b = true) : ∀ l : List Ar, Ar.mays (l.map (Ar.swap a b)) = Ar.mays l
 | [] => rfl
 | x :: l => by simp only [List.map_cons, Ar.mays, ar_may ha hb, ar_mays ha hb l]
theorem ar_swap (a b : Str) : ∀ l : List Ar, (l.map (Ar.swap a b)).map (Ar.swap a b) = l
 | [] => rfl
 | x :: l => by
   have e : Ar.swap a b (Ar.swap a b x) = x := by simp only [Ar.swap, oth_oth, (ex_deep a b x.x).2.2.2]
   simp only [List.map_cons, e, ar_swap a b l]
theorem ar_size (a b : Str) : ∀ l : List Ar, Ar.sizes (l.map (Ar.swap a b)) = Ar.sizes l
 | [] => rfl
 | x :: l => by simp only [List.map_cons, Ar.sizes, ar_size a b l, Ar.swap, (ex_deep a b x.x).2.1]
theorem ar_toks (a b : Str) (x : Ar) : argN (x.swap a b) = argN x := by simp only [argN, Ar.swap, ex_toks]
theorem sep_map {α : Type} {f : α → Nat} {g : α → α} (h : ∀ x, f (g x) = f x) : ∀ l : List α, sepN f (l.map g) = sepN f l
 | [] => rfl
 | [x] => by simp only [List.map_cons, List.map_nil, sepN, h]
 | x :: y :: l => by
   have := sep_map h (y :: l)
   simp only [List.map_cons] at this
   simp only [List.map_cons, sepN, h, this]

theorem sswaps_len (a b : Str) : ∀ l : List Sm, (Sm.swaps a b l).length = l.length
 | [] => rfl
 | x :: l => by simp only [Sm.swaps, List.length_cons, sswaps_len a b l]
theorem sm_one {a b : Str} (ha : isName a = true) (hb : isName b = true) (s : Sm) : (s.swap a b).one = s.one := by
 obtain ⟨id, kind, labels, name, proc, x, has, args, thn, els⟩ := s
 simp only [Sm.swap, Sm.one, Sm.hasX, Sm.hasName, Sm.isCall, mayNames_oth ha hb, ex_may ha hb, ex_none ha hb, isName_oth ha hb, nil_oth ha hb, ar_mays ha hb, List.length_map, sswaps_len]
 rfl
def It.swap (a b : Str) (i : It) : It := ⟨i.s.swap a b, i.deep, i.inn, i.els⟩
mutual
theorem flatS_swap (a b : Str) : ∀ (s : Sm) (deep inn : Int) (els : Bool) (out : List It), flatS deep inn els (out.map (It.swap a b)) (s.swap a b) = (flatS deep inn els out s).map (It.swap a b)
 | ⟨id, kind, labels, name, proc, x, has, args, thn, e⟩, deep, inn, els, out => by
   have e1 : ∀ o : List It, o.map (It.swap a b) ++ [(⟨Sm.swap a b ⟨id, kind, labels, name, proc, x, has, args, thn, e⟩, deep, inn, els⟩ : It)] = (o ++ [(⟨⟨id, kind, labels, name, proc, x, has, args, thn, e⟩, deep, inn, els⟩ : It)]).map (It.swap a b) := by
     intro o; simp only [List.map_append, List.map_cons, List.map_nil, It.swap]
   have e2 := e1 out
   simp only [Sm.swap] at e2
   simp only [Sm.swap, flatS, e2]
   rw [flatL_swap a b thn, flatL_swap a b e]
   split <;> rfl
theorem flatL_swap (a b : Str) : ∀ (l : List Sm) (deep inn : Int) (els : Bool) (out : List It), flatL deep inn els (out.map (It.swap a b)) (Sm.swaps a b l) = (flatL deep inn els out l).map (It.swap a b)
 | [], deep, inn, els, out => by simp only [Sm.swaps, flatL]
 | s :: l, deep, inn, els, out => by
   simp only [Sm.swaps, flatL, List.length_map]
   split
   · rw [flatS_swap a b s, flatL_swap a b l]
   · rfl
end
theorem pc_flat (a b : Str) (f : Pc) : (f.swap a b).flat = f.flat.map (It.swap a b) := by
 unfold Pc.flat
 rw [← flatL_swap]; rfl
theorem all_swap (a b : Str) : ∀ (l : List Pc) (out : List It), allM (out.map (It.swap a b)) (l.map (Pc.swap a b)) = (allM out l).map (It.swap a b)
 | [], out => by simp only [List.map_nil, allM]
 | f :: l, out => by
   simp only [List.map_cons, allM, pc_flat]
   rw [← List.map_append, List.length_map, all_swap a b l]
   split <;> rfl
theorem it_mays {a b : Str} (ha : isName a = true) (hb : isName b = true) : ∀ (l : List It) (n : Nat), It.mays n (l.map (It.swap a b)) = It.mays n l
 | [], n => rfl
 | i :: l, n => by
   have e : (It.swap a b i).s.id = i.s.id := by obtain ⟨⟨id, kind, labels, name, proc, x, has, args, thn, els⟩, d, inn, e⟩ := i; rfl
   have e2 : (It.swap a b i).s.one = i.s.one := sm_one ha hb i.s
   simp only [List.map_cons, It.mays, e, e2, it_mays ha hb l]
   rfl
theorem pm_mays {a b : Str} (ha : isName a = true) (hb : isName b = true) : ∀ l : List Pm, Pm.mays (l.map (Pm.swap a b)) = Pm.mays l
 | [] => rfl
 | x :: l => by simp only [List.map_cons, Pm.mays, Pm.swap, isName_oth ha hb, pm_mays ha hb l]
theorem pc_heads {a b : Str} (ha : isName a = true) (hb : isName b = true) : ∀ l : List Pc, Pc.heads (l.map (Pc.swap a b)) = Pc.heads l
 | [] => rfl
 | f :: l => by simp only [List.map_cons, Pc.heads, Pc.swap, isName_oth ha hb, mayNames_oth ha hb, pm_mays ha hb, List.length_map, pc_heads ha hb l]
theorem may_swap {a b : Str} (ha : isName a = true) (hb : isName b = true) (p : Pg) : (p.swap a b).may = p.may := by
 have e : (p.swap a b).all = p.all.map (It.swap a b) := all_swap a b p.procs []
 unfold Pg.may
 rw [e, it_mays ha hb]
 simp only [Pg.swap, List.length_map, mayNames_oth ha hb, pc_heads ha hb]

mutual
theorem sm_deep {a b : Str} (ha : isName a = true) (hb : isName b = true) : ∀ s : Sm, (s.swap a b).size = s.size ∧ (s.rng → (s.swap a b).rng) ∧ (s.swap a b).swap a b = s ∧ bodyN (s.swap a b) = bodyN s ∧ (s.swap a b).labels.length = s.labels.length
 | ⟨id, kind, labels, name, proc, x, has, args, thn, els⟩ => by
   obtain ⟨h1, h2, h3, h4⟩ := sm_deeps ha hb thn
   obtain ⟨k1, k2, k3, k4⟩ := sm_deeps ha hb els
   obtain ⟨_, x1, x2, x3⟩ := ex_deep a b x
   refine ⟨?_, fun h => ?_, ?_, ?_, ?_⟩
   · simp only [Sm.swap, Sm.size, h1, k1, x1, ar_size, List.length_map]
   · simp only [Sm.swap, Sm.rng] at h ⊢
     refine ⟨x2 h.1, fun y hy => ?_, h2 h.2.2.1, k2 h.2.2.2⟩
     obtain ⟨z, hz, rfl⟩ := List.mem_map.1 hy
     exact (ex_deep a b z.x).2.2.1 (h.2.1 z hz)
   · simp only [Sm.swap, map_oth, oth_oth, x3, ar_swap, h3, k3]
   · have e : (oth a b name = []) = (name = []) := by
       have := nil_oth ha hb name
       rw [Bool.eq_iff_iff, beq_iff_eq, beq_iff_eq] at this
       exact propext this
     simp only [Sm.swap, bodyN, plainN, ex_toks, h4, k4, sswaps_len, sep_map (ar_toks a b), e]
   · simp only [Sm.swap, List.length_map]
theorem sm_deeps {a b : Str} (ha : isName a = true) (hb : isName b = true) : ∀ l : List Sm, Sm.sizes (Sm.swaps a b l) = Sm.sizes l ∧ (Sm.rngs l → Sm.rngs (Sm.swaps a b l)) ∧ Sm.swaps a b (Sm.swaps a b l) = l ∧ rowsN (Sm.swaps a b l) = rowsN l
 | [] => ⟨rfl, fun _ => trivial, rfl, rfl⟩
 | s :: l => by
   obtain ⟨h1, h2, h3, h4⟩ := sm_deeps ha hb l
   obtain ⟨k1, k2, k3, k4, k5⟩ := sm_deep ha hb s
   refine ⟨?_, fun h => ?_, ?_, ?_⟩
   · simp only [Sm.swaps, Sm.sizes, h1, k1]
   · simp only [Sm.swaps, Sm.rngs] at h ⊢; exact ⟨k2 h.1, h2 h.2⟩
   · simp only [Sm.swaps, h3, k3]
   · simp only [Sm.swaps, rowsN, h4, k4, k5]
end
theorem pm_swap (a b : Str) : ∀ l : List Pm, (l.map (Pm.swap a b)).map (Pm.swap a b) = l
 | [] => rfl
 | x :: l => by simp only [List.map_cons, Pm.swap, oth_oth, pm_swap a b l]
theorem namesN_map (l : List Str) (g : Str → Str) : namesN (l.map g) = namesN l := by
 unfold namesN
 rw [List.length_map, sep_map (f := fun _ => 1) (g := g) (fun _ => rfl)]
theorem pcs_deep {a b : Str} (ha : isName a = true) (hb : isName b = true) : ∀ l : List Pc, Pc.sizes (l.map (Pc.swap a b)) = Pc.sizes l ∧ ((∀ f ∈ l, Sm.rngs f.body) → ∀ f ∈ l.map (Pc.swap a b), Sm.rngs f.body) ∧ (l.map (Pc.swap a b)).map (Pc.swap a b) = l ∧ procsN (l.map (Pc.swap a b)) = procsN l
 | [] => ⟨rfl, fun h => h, rfl, rfl⟩
 | f :: l => by
   obtain ⟨h1, h2, h3, h4⟩ := pcs_deep ha hb l
   obtain ⟨k1, k2, k3, k4⟩ := sm_deeps ha hb f.body
   refine ⟨?_, fun h g hg => ?_, ?_, ?_⟩
   · simp only [List.map_cons, Pc.sizes, Pc.size, Pc.swap, List.length_map, k1, h1]
   · rw [List.map_cons] at hg
     rcases List.mem_cons.1 hg with rfl | hg
     · exact k2 (h f (List.mem_cons_self ..))
     · exact h2 (fun g m => h g (List.mem_cons_of_mem _ m)) g hg
   · simp only [List.map_cons, h3]
     simp only [Pc.swap, oth_oth, pm_swap, map_oth, k3]
   · simp only [List.map_cons, procsN, procN, h4]
     simp only [Pc.swap, k4, List.length_map, namesN_map, sep_map (f := parN) (g := Pm.swap a b) (fun _ => rfl)]
theorem swap_deep {a b : Str} (ha : isName a = true) (hb : isName b = true) (p : Pg) : (p.swap a b).size = p.size ∧ (p.rng → (p.swap a b).rng) ∧ (p.swap a b).swap a b = p ∧ (p.swap a b).toks = p.toks := by
 obtain ⟨h1, h2, h3, h4⟩ := pcs_deep ha hb p.procs
 refine ⟨?_, h2, ?_, ?_⟩
 · simp only [Pg.swap, Pg.size, List.length_map, h1]
 · simp only [Pg.swap, map_oth, h3]
 · simp only [Pg.swap, Pg.toks, namesN_map, h4]

end Go.Abs

/-! Swap3 -/

namespace Go.Abs

set_option maxRecDepth 8000
open Go.Proofs

abbrev C_swap (a b : Str) (N : Nat) : Prop := ∀ l : List Sm, Sm.sizes l < N → ∀ s : St, Fun Tryz.prog n_ref3_SwapStmts [.slice .shared 13 (l.map encSm), .str a, .str b] s (.slice .shared 13 ((Sm.swaps a b l).map encSm)) s

theorem swap_step (a b : Str) {N : Nat} (hN : N < 10000000) (ih : C_swap a b N) (l : List Sm) (hl : Sm.sizes l < N + 1) :
   Fun Tryz.prog n_ref3_SwapStmts [.slice .shared 13 (l.map encSm), .str a, .str b] S0 (.slice .shared 13 ((Sm.swaps a b l).map encSm)) S0 := by
 have hlen : l.length < 10000001 := by have := Sm.sizes_len l; omega
 have ho := fun t s => other_s a b t s
 generalize hR : Sm.swaps a b l = R
 unfold S0
 refine Fun.go has_ref3_SwapStmts rfl fun B Q hB hQ => ?_
 have ⟨hH, hJ, hY, hZ⟩ := H4_
 repeat' (first
 | simp only [go_sem, hH, hJ, hY, hZ]
 | (with_reducible first | refine kT_ fun hc => ?_ | refine kF_ fun hc => ?_ | refine kS_ (fun hc => ?_) fun hc => ?_) <;> (try simp only [hc, bs, ↓reduceIte] at h) <;> try simp only [hc]
 | (with_reducible refine lA_ hQ ?_; exact lY_)
 | (cases h; done))
 refine SemL.tokT 7 13 rfl ?_
 simp only [go_sem, hH, hJ, hY, hZ]
 refine rL_ 0 1 (SemL.ind (ι := List Sm × Nat × List Sm) (fun i => l.drop i.2.1 = i.1 ∧ i.2.1 = i.2.2.length ∧ i.2.2 ++ Sm.swaps a b i.1 = R) (fun i => i.1.length)
   (fun i => [(1, .str a), (2, .str b), (7, .slice (.tok 0) 13 (i.2.2.map encSm)), (13, .slice .shared 13 (l.map encSm)), (14, .int .i64 (l.length : Int)), (15, .int .i64 (i.2.1 : Int))])
   (fun i => ⟨[], [some i.2.1]⟩) ?_ (l, 0, []) ⟨rfl, rfl, hR⟩)
 rintro ⟨rest, k, acc⟩ ⟨h1, h2, h3⟩ IH
 dsimp only at h1 h2 h3
 subst h2
 cases rest with
 | nil =>
   have hH := drop_nil h1
   simp only [Sm.swaps, List.append_nil] at h3
   subst h3
   repeat' (first
 | simp only [go_sem, hH, hJ, hY, hZ]
 | (with_reducible first | refine kT_ fun hc => ?_ | refine kF_ fun hc => ?_ | refine kS_ (fun hc => ?_) fun hc => ?_) <;> (try simp only [hc, bs, ↓reduceIte] at h) <;> try simp only [hc]
 | (with_reducible refine lA_ hQ ?_; exact lY_)
 | (cases h; done))
 | cons y rest =>
   obtain ⟨hJ, g2, hH, g4⟩ := drop_cons h1
   have hk : acc.length < 4611686018427387904 := by omega
   have hsz : y.size ≤ N := by have := Sm.sizes_mem (List.mem_of_getElem? hJ); omega
   obtain ⟨id, kind, labels, name, proc, x, has, args, thn, els⟩ := y
   simp only [Sm.size] at hsz
   have hroom : (acc.length + 1) * 209 ≤ maxStr := by simp only [maxStr]; omega
   have hal := Ar.sizes_len args
   have hx := fun s => swapExpr_s a b (x := x) (by omega) s
   simp only [encEx_eq] at hx
   have hL := fun s => swapTexts_s a b (l := labels) (by omega) s
   repeat' (first
 | simp only [go_sem, hH, hJ, hY, hZ]
 | (with_reducible refine CU (hL _) ?_)
 | (with_reducible refine CU (ho _ _) ?_)
 | (with_reducible refine CU (hx _) ?_)
 | (with_reducible first | refine kT_ fun hc => ?_ | refine kF_ fun hc => ?_ | refine kS_ (fun hc => ?_) fun hc => ?_) <;> (try simp only [hc, bs, ↓reduceIte] at h) <;> try simp only [hc]
 | (with_reducible refine lA_ hQ ?_; exact lY_)
 | (cases h; done))
   refine SemL.tokO 1 10 6 rfl rfl ?_
   simp only [go_sem, hH, hJ, hY, hZ]
   generalize hLB : labels.map (oth a b) = labels'
   generalize hX : x.swap a b = x'
   refine rL_ 2 2 (SemL.ind (ι := List Ar × Nat × List Ar) (fun i => args.drop i.2.1 = i.1 ∧ i.2.1 = i.2.2.length ∧ i.2.2 ++ i.1.map (Ar.swap a b) = args.map (Ar.swap a b)) (fun i => i.1.length)
     (fun i => [(1, .str a), (2, .str b), (7, .slice (.tok 0) 13 (acc.map encSm)), (9, .ptr 0 0), (10, .ptr 1 0), (13, .slice .shared 13 (l.map encSm)), (14, .int .i64 (l.length : Int)), (15, .int .i64 (acc.length : Int)),
       (47, .slice .shared 6 (args.map encAr)), (48, .int .i64 (args.length : Int)), (49, .int .i64 (i.2.1 : Int))])
     (fun i => ⟨[encSm ⟨id, kind, labels, name, proc, x, has, args, thn, els⟩, [.int .i64 id, .int .i64 kind, .slice .shared 1 (labels'.map encStr), .str (oth a b name), .str (oth a b proc), .int .i64 x'.op, .int .i64 x'.n, .str x'.name, .slice .shared 4 (x'.kids.map encEx), .bool has, .slice (.tok 1) 6 (i.2.2.map encAr), .slice .full 0 [], .slice .full 0 []]], [some acc.length, some i.2.1]⟩) ?_ (args, 0, []) ⟨rfl, rfl, rfl⟩)
   rintro ⟨resta, ka, acca⟩ ⟨j1, j2, j3⟩ IHa
   dsimp only at j1 j2 j3
   subst j2
   cases resta with
   | nil =>
     have hH := drop_nil j1
     simp only [List.map_nil, List.append_nil] at j3
     have c1 := ih thn (by omega)
     have c2 := ih els (by omega)
     have e : Sm.swap a b ⟨id, kind, labels, name, proc, x, has, args, thn, els⟩ = ⟨id, kind, labels', oth a b name, oth a b proc, x', has, acca, Sm.swaps a b thn, Sm.swaps a b els⟩ := by simp only [Sm.swap, hLB, hX, j3]
     repeat' (first
 | simp only [go_sem, hH, hJ, hY, hZ, hroom]
 | (with_reducible refine CU (c1 _) ?_)
 | (with_reducible refine CU (c2 _) ?_)
 | (with_reducible first | refine kT_ fun hc => ?_ | refine kF_ fun hc => ?_ | refine kS_ (fun hc => ?_) fun hc => ?_) <;> (try simp only [hc, bs, ↓reduceIte] at h) <;> try simp only [hc]
 | (with_reducible refine lA_ hQ ?_; (try cases h); simp only [resL, oneD, sI_, eL_, go_sem, hH, hJ, hY, hZ, hroom]; try exact lE_)
 | (cases h; done))
     refine rl_ 0 1 ?_ ?_ (IH (rest, acc.length + 1, acc ++ [Sm.swap a b ⟨id, kind, labels, name, proc, x, has, args, thn, els⟩]) ⟨g2, by simp, by rw [← h3]; simp [Sm.swaps]⟩ (Nat.lt_succ_self _))
     · (simp only [go_sem, hH, hJ, hY, hZ, wrap_inc hk, e]; try exact lF_)
     · (simp only [go_sem, hH, hJ, hY, hZ, wrap_inc hk, e]; try exact lF_)
   | cons c resta =>
     obtain ⟨hJ, g2, hH, g4⟩ := drop_cons j1
     have ha : c.x.size < 1073741824 := by have := Ar.sizes_mem (List.mem_of_getElem? hJ); omega
     have hka : acca.length < 4611686018427387904 := by
       have := congrArg List.length j3
       simp at this; omega
     have hrooma : (acca.length + 1) * 81 ≤ maxStr := by
       have := congrArg List.length j3
       simp at this; simp only [maxStr]; omega
     have hxa := fun s => swapExpr_s a b ha s
     simp only [encEx_eq] at hxa
     obtain ⟨aref, aname, ax⟩ := c
     repeat' (first
 | simp only [go_sem, hH, hJ, hY, hZ, hrooma]
 | (with_reducible refine CU (hxa _) ?_)
 | (with_reducible refine CU (ho _ _) ?_)
 | (with_reducible first | refine kT_ fun hc => ?_ | refine kF_ fun hc => ?_ | refine kS_ (fun hc => ?_) fun hc => ?_) <;> (try simp only [hc, bs, ↓reduceIte] at h) <;> try simp only [hc]
 | (with_reducible refine lA_ hQ ?_; (try cases h); simp only [resL, oneD, sI_, eL_, go_sem, hH, hJ, hY, hZ, hrooma]; try exact lE_)
 | (cases h; done))
     refine rl_ 2 2 ?_ ?_ (IHa (resta, acca.length + 1, acca ++ [⟨aref, oth a b aname, ax.swap a b⟩]) ⟨g2, by simp, by simp only [List.append_assoc, List.cons_append, List.nil_append]; exact j3⟩ (Nat.lt_succ_self _))
     · (simp only [go_sem, hH, hJ, hY, hZ, wrap_inc hka]; try exact lF_)
     · (simp only [go_sem, hH, hJ, hY, hZ, wrap_inc hka]; try exact lF_)

theorem swap_all (a b : Str) : ∀ N, N < 10000000 → C_swap a b N := by
 intro N
 induction N with
 | zero => intro _ l hl; exact absurd hl (Nat.not_lt_zero _)
 | succ N ih =>
   intro hN l hl s
   exact (swap_step a b (by omega) (ih (by omega)) l hl).pure (by simp [D.oks, D.ok, Tag.ok, okrSm]) (by simp [D.oks, D.ok, Tag.ok, okrSm]) s
theorem swapStmts_s (a b : Str) {l : List Sm} (h : Sm.sizes l < 9000000) (s : St) : Fun Tryz.prog n_ref3_SwapStmts [.slice .shared 13 (l.map encSm), .str a, .str b] s (.slice .shared 13 ((Sm.swaps a b l).map encSm)) s :=
 swap_all a b 9999999 (by omega) l (by omega) s

theorem swap_s (a b : Str) {p : Pg} (hp : p.size < 1000000) (st : St) : Fun Tryz.prog n_ref3_Swap [.agg (encPg p), .str a, .str b] st (.agg (encPg (p.swap a b))) st := by
 refine Fun.pure ?_ (by simp [D.oks, D.ok, okPg]) (by simp [D.ok, okPg]) st
 obtain ⟨globals, procs⟩ := p
 simp only [Pg.size] at hp
 have hlen : procs.length < 1000000 := by have := Pc.sizes_len procs; omega
 have hG := fun s => swapTexts_s a b (l := globals) (by omega) s
 have ho := fun t s => other_s a b t s
 have e : Pg.swap a b ⟨globals, procs⟩ = ⟨globals.map (oth a b), procs.map (Pc.swap a b)⟩ := rfl
 rw [e]
 generalize hR : procs.map (Pc.swap a b) = R
 unfold S0
 refine Fun.go has_ref3_Swap rfl fun B Q hB hQ => ?_
 have ⟨hH, hJ, hY, hZ⟩ := H4_
 repeat' (first
 | simp only [go_sem, hH, hJ, hY, hZ]
 | (with_reducible refine CU (hG _) ?_)
 | (with_reducible first | refine kT_ fun hc => ?_ | refine kF_ fun hc => ?_ | refine kS_ (fun hc => ?_) fun hc => ?_) <;> (try simp only [hc, bs, ↓reduceIte] at h) <;> try simp only [hc]
 | (with_reducible refine lA_ hQ ?_; exact lY_)
 | (cases h; done))
 generalize globals.map (oth a b) = globals' at *
 refine SemL.tokO 2 1 5 rfl rfl ?_
 simp only [go_sem, hH, hJ, hY, hZ]
 refine rL_ 3 1 (SemL.ind (ι := List Pc × Nat × List Pc) (fun i => procs.drop i.2.1 = i.1 ∧ i.2.1 = i.2.2.length ∧ i.2.2 ++ i.1.map (Pc.swap a b) = R) (fun i => i.1.length)
   (fun i => [(1, .str a), (2, .str b), (6, .ptr 1 0), (7, .ptr 2 0), (20, .slice .shared 5 (procs.map encPc)), (21, .int .i64 (procs.length : Int)), (22, .int .i64 (i.2.1 : Int))])
   (fun i => ⟨[encPg ⟨globals, procs⟩, encPg pg0, [.slice .shared 1 (globals'.map encStr), .slice (.tok 0) 5 (i.2.2.map encPc)]], [some i.2.1]⟩) ?_ (procs, 0, []) ⟨rfl, rfl, hR⟩)
 rintro ⟨rest, k, acc⟩ ⟨h1, h2, h3⟩ IH
 dsimp only at h1 h2 h3
 subst h2
 cases rest with
 | nil =>
   have hH := drop_nil h1
   simp only [List.map_nil, List.append_nil] at h3
   subst h3
   repeat' (first
 | simp only [go_sem, hH, hJ, hY, hZ]
 | (with_reducible first | refine kT_ fun hc => ?_ | refine kF_ fun hc => ?_ | refine kS_ (fun hc => ?_) fun hc => ?_) <;> (try simp only [hc, bs, ↓reduceIte] at h) <;> try simp only [hc]
 | (with_reducible refine lA_ hQ ?_; exact lY_)
 | (cases h; done))
 | cons y rest =>
   obtain ⟨hJ, g2, hH, g4⟩ := drop_cons h1
   have hsz := Pc.sizes_mem (List.mem_of_getElem? hJ)
   obtain ⟨name, params, vars, body, fin⟩ := y
   simp only [Pc.size] at hsz
   have hk : acc.length < 4611686018427387904 := by omega
   have hroom : (acc.length + 1) * 113 ≤ maxStr := by simp only [maxStr]; omega
   have c1 := fun s => swapTexts_s a b (l := vars) (by omega) s
   have c2 := fun s => swapTexts_s a b (l := fin) (by omega) s
   have c3 := fun s => swapStmts_s a b (l := body) (by omega) s
   repeat' (first
 | simp only [go_sem, hH, hJ, hY, hZ]
 | (with_reducible refine CU (c1 _) ?_)
 | (with_reducible refine CU (c2 _) ?_)
 | (with_reducible refine CU (c3 _) ?_)
 | (with_reducible refine CU (ho _ _) ?_)
 | (with_reducible first | refine kT_ fun hc => ?_ | refine kF_ fun hc => ?_ | refine kS_ (fun hc => ?_) fun hc => ?_) <;> (try simp only [hc, bs, ↓reduceIte] at h) <;> try simp only [hc]
 | (with_reducible refine lA_ hQ ?_; exact lY_)
 | (cases h; done))
   generalize hV : vars.map (oth a b) = vars'
   generalize hF : fin.map (oth a b) = fin'
   refine SemL.tokO 4 1 2 rfl rfl ?_
   simp only [go_sem, hH, hJ, hY, hZ]
   refine rL_ 5 2 (SemL.ind (ι := List Pm × Nat × List Pm) (fun i => params.drop i.2.1 = i.1 ∧ i.2.1 = i.2.2.length ∧ i.2.2 ++ i.1.map (Pm.swap a b) = params.map (Pm.swap a b)) (fun i => i.1.length)
     (fun i => [(1, .str a), (2, .str b), (6, .ptr 1 0), (7, .ptr 2 0), (10, .ptr 4 0), (20, .slice .shared 5 (procs.map encPc)), (21, .int .i64 (procs.length : Int)), (22, .int .i64 (acc.length : Int)),
       (48, .slice .shared 2 (params.map encPm)), (49, .int .i64 (params.length : Int)), (50, .int .i64 (i.2.1 : Int))])
     (fun i => ⟨[encPg ⟨globals, procs⟩, encPg pg0, [.slice .shared 1 (globals'.map encStr), .slice (.tok 0) 5 (acc.map encPc)], encPc ⟨name, params, vars, body, fin⟩,
       [.str (oth a b name), .slice (.tok 1) 2 (i.2.2.map encPm), .slice .shared 1 (vars'.map encStr), .slice .shared 13 ((Sm.swaps a b body).map encSm), .slice .shared 1 (fin'.map encStr)]], [some acc.length, some i.2.1]⟩) ?_ (params, 0, []) ⟨rfl, rfl, rfl⟩)
   rintro ⟨resta, ka, acca⟩ ⟨j1, j2, j3⟩ IHa
   dsimp only at j1 j2 j3
   subst j2
   cases resta with
   | nil =>
     have hH := drop_nil j1
     simp only [List.map_nil, List.append_nil] at j3
     have e2 : Pc.swap a b ⟨name, params, vars, body, fin⟩ = ⟨oth a b name, acca, vars', Sm.swaps a b body, fin'⟩ := by simp only [Pc.swap, hV, hF, j3]
     repeat' (first
 | simp only [go_sem, hH, hJ, hY, hZ, hroom]
 | (with_reducible first | refine kT_ fun hc => ?_ | refine kF_ fun hc => ?_ | refine kS_ (fun hc => ?_) fun hc => ?_) <;> (try simp only [hc, bs, ↓reduceIte] at h) <;> try simp only [hc]
 | (with_reducible refine lA_ hQ ?_; (try cases h); simp only [resL, oneD, sI_, eL_, go_sem, hH, hJ, hY, hZ, hroom]; try exact lE_)
 | (cases h; done))
     refine rl_ 3 1 ?_ ?_ (IH (rest, acc.length + 1, acc ++ [Pc.swap a b ⟨name, params, vars, body, fin⟩]) ⟨g2, by simp, by rw [← h3]; simp⟩ (Nat.lt_succ_self _))
     · (simp only [go_sem, hH, hJ, hY, hZ, wrap_inc hk, e2]; try exact lF_)
     · (simp only [go_sem, hH, hJ, hY, hZ, wrap_inc hk, e2]; try exact lF_)
   | cons c resta =>
     obtain ⟨hJ, g2, hH, g4⟩ := drop_cons j1
     have hl2 : acca.length + 1 ≤ params.length := by
       have := congrArg List.length j3
       simp at this; omega
     have hka : acca.length < 4611686018427387904 := by omega
     have hrooma : (acca.length + 1) * 25 ≤ maxStr := by simp only [maxStr]; omega
     obtain ⟨pname, pref⟩ := c
     repeat' (first
 | simp only [go_sem, hH, hJ, hY, hZ, hrooma]
 | (with_reducible refine CU (ho _ _) ?_)
 | (with_reducible first | refine kT_ fun hc => ?_ | refine kF_ fun hc => ?_ | refine kS_ (fun hc => ?_) fun hc => ?_) <;> (try simp only [hc, bs, ↓reduceIte] at h) <;> try simp only [hc]
 | (with_reducible refine lA_ hQ ?_; (try cases h); simp only [resL, oneD, sI_, eL_, go_sem, hH, hJ, hY, hZ, hrooma]; try exact lE_)
 | (cases h; done))
     refine rl_ 5 2 ?_ ?_ (IHa (resta, acca.length + 1, acca ++ [⟨oth a b pname, pref⟩]) ⟨g2, by simp, by simp only [List.append_assoc, List.cons_append, List.nil_append]; exact j3⟩ (Nat.lt_succ_self _))
     · (simp only [go_sem, hH, hJ, hY, hZ, wrap_inc hka]; try exact lF_)
     · (simp only [go_sem, hH, hJ, hY, hZ, wrap_inc hka]; try exact lF_)

end Go.Abs

/-! BeqEq -/

namespace Go.Abs

end Go.Abs

/-! LawPr7 -/

namespace Go.Abs

set_option maxRecDepth 8000
open Go.Proofs

theorem Name_all (t : Str) (s : St) : Fun Tryz.prog n_lex_Name [.str t] s (.bool (isName t)) s := by
 by_cases hl : t.length < 9
 · exact Name_s t (by omega) s
 · refine Fun.pure ?_ rfl rfl s
   cases t with
   | nil => simp at hl
   | cons c r =>
     simp only [List.length_cons] at hl
     have l1 : decide (((r.length + 1 : Nat) : Int) < 1) = false := by simp; omega
     have c8 : decide (((r.length + 1 : Nat) : Int) > 8) = true := by simp; omega
     have h : isName (c :: r) = false := by simp only [isName, c8, Bool.true_or, ↓reduceIte]
     rw [h]
     unfold S0
     refine Fun.go has_lex_Name rfl fun B Q hB hQ => ?_
     have ⟨hH, hJ, hY, hZ⟩ := H4_
     repeat' (first
 | simp only [go_sem, hH, hJ, hY, hZ, l1, c8]
 | (with_reducible first | refine kT_ fun hc => ?_ | refine kF_ fun hc => ?_ | refine kS_ (fun hc => ?_) fun hc => ?_) <;> (try simp only [hc, bs, ↓reduceIte] at h) <;> try simp only [hc]
 | (with_reducible refine lA_ hQ ?_; (try cases h); simp only [resL, oneD, sI_, eL_, go_sem, hH, hJ, hY, hZ, l1, c8]; try exact lE_)
 | (cases h; done))

theorem printSwap_s {p : Pg} (hr : p.rng) (a b : Str) (s : St) : Fun Tryz.prog n_law5_PrintSwap [.agg (encPg p), .str a, .str b] s (.bool true) s := by
 refine Fun.pure ?_ (by simp only [D.oks, D.ok, okPg]; rfl) rfl s
 have h0 := fun s => printed5_s s
 have hf := fun s => Fits_s p s
 have hna := fun t s => Name_all t s
 unfold S0
 cases c : decide (p.weigh ≤ 20000) with
 | false =>
   refine Fun.go has_law5_PrintSwap rfl fun B Q hB hQ => ?_
   have ⟨hH, hJ, hY, hZ⟩ := H4_
   repeat' (first
 | simp only [go_sem, hH, hJ, hY, hZ, c]
 | (with_reducible refine CU (h0 _) ?_)
 | (with_reducible refine CU (hf _) ?_)
 | (with_reducible first | refine kT_ fun hc => ?_ | refine kF_ fun hc => ?_ | refine kS_ (fun hc => ?_) fun hc => ?_) <;> (try simp only [hc, bs, ↓reduceIte] at h) <;> try simp only [hc]
 | (with_reducible refine lA_ hQ ?_; (try cases h); simp only [resL, oneD, sI_, eL_, go_sem, hH, hJ, hY, hZ, c]; try exact lE_)
 | (cases h; replace h := hr; clear hr; (try simp only [bs, ↓reduceIte] at h))
 | (cases h; done))
 | true =>
 obtain ⟨hs, hP⟩ := weigh_fits (of_decide_eq_true c)
 have m1 := fun s => May_s (fineP_fine hP) s
 cases ca : isName a with
 | false =>
   refine Fun.go has_law5_PrintSwap rfl fun B Q hB hQ => ?_
   have ⟨hH, hJ, hY, hZ⟩ := H4_
   repeat' (first
 | simp only [go_sem, hH, hJ, hY, hZ, c, ca]
 | (with_reducible refine CU (h0 _) ?_)
 | (with_reducible refine CU (hf _) ?_)
 | (with_reducible refine CU (hna _ _) ?_)
 | (with_reducible first | refine kT_ fun hc => ?_ | refine kF_ fun hc => ?_ | refine kS_ (fun hc => ?_) fun hc => ?_) <;> (try simp only [hc, bs, ↓reduceIte] at h) <;> try simp only [hc]
 | (with_reducible refine lA_ hQ ?_; (try cases h); simp only [resL, oneD, sI_, eL_, go_sem, hH, hJ, hY, hZ, c, ca]; try exact lE_)
 | (cases h; replace h := hr; clear hr; (try simp only [bs, ↓reduceIte] at h))
 | (cases h; done))
 | true =>
 cases cb : isName b with
 | false =>
   refine Fun.go has_law5_PrintSwap rfl fun B Q hB hQ => ?_
   have ⟨hH, hJ, hY, hZ⟩ := H4_
   repeat' (first
 | simp only [go_sem, hH, hJ, hY, hZ, c, ca, cb]
 | (with_reducible refine CU (h0 _) ?_)
 | (with_reducible refine CU (hf _) ?_)
 | (with_reducible refine CU (hna _ _) ?_)
 | (with_reducible first | refine kT_ fun hc => ?_ | refine kF_ fun hc => ?_ | refine kS_ (fun hc => ?_) fun hc => ?_) <;> (try simp only [hc, bs, ↓reduceIte] at h) <;> try simp only [hc]
 | (with_reducible refine lA_ hQ ?_; (try cases h); simp only [resL, oneD, sI_, eL_, go_sem, hH, hJ, hY, hZ, c, ca, cb]; try exact lE_)
 | (cases h; replace h := hr; clear hr; (try simp only [bs, ↓reduceIte] at h))
 | (cases h; done))
 | true =>
 cases c2 : p.may with
 | false =>
   refine Fun.go has_law5_PrintSwap rfl fun B Q hB hQ => ?_
   have ⟨hH, hJ, hY, hZ⟩ := H4_
   repeat' (first
 | simp only [go_sem, hH, hJ, hY, hZ, c, ca, cb, c2]
 | (with_reducible refine CU (h0 _) ?_)
 | (with_reducible refine CU (hf _) ?_)
 | (with_reducible refine CU (hna _ _) ?_)
 | (with_reducible refine CU (m1 _) ?_)
 | (with_reducible first | refine kT_ fun hc => ?_ | refine kF_ fun hc => ?_ | refine kS_ (fun hc => ?_) fun hc => ?_) <;> (try simp only [hc, bs, ↓reduceIte] at h) <;> try simp only [hc]
 | (with_reducible refine lA_ hQ ?_; (try cases h); simp only [resL, oneD, sI_, eL_, go_sem, hH, hJ, hY, hZ, c, ca, cb, c2]; try exact lE_)
 | (cases h; replace h := hr; clear hr; (try simp only [bs, ↓reduceIte] at h))
 | (cases h; done))
 | true =>
 have hT := fun s => Tokens_s (p := p) (by omega) s
 cases c3 : decide (tokM p > 2000) with
 | true =>
   refine Fun.go has_law5_PrintSwap rfl fun B Q hB hQ => ?_
   have ⟨hH, hJ, hY, hZ⟩ := H4_
   repeat' (first
 | simp only [go_sem, hH, hJ, hY, hZ, c, ca, cb, c2, c3]
 | (with_reducible refine CU (h0 _) ?_)
 | (with_reducible refine CU (hf _) ?_)
 | (with_reducible refine CU (hna _ _) ?_)
 | (with_reducible refine CU (m1 _) ?_)
 | (with_reducible refine CU (hT _) ?_)
 | (with_reducible first | refine kT_ fun hc => ?_ | refine kF_ fun hc => ?_ | refine kS_ (fun hc => ?_) fun hc => ?_) <;> (try simp only [hc, bs, ↓reduceIte] at h) <;> try simp only [hc]
 | (with_reducible refine lA_ hQ ?_; (try cases h); simp only [resL, oneD, sI_, eL_, go_sem, hH, hJ, hY, hZ, c, ca, cb, c2, c3]; try exact lE_)
 | (cases h; replace h := hr; clear hr; (try simp only [bs, ↓reduceIte] at h))
 | (cases h; done))
 | false =>
 have ht := toks_le c2 hr (by simp only [decide_eq_false_iff_not] at c3; omega)
 obtain ⟨w1, w2, w3, w4⟩ := swap_deep ca cb p
 have w5 := may_swap ca cb p
 have hsw := fun s => swap_s a b (p := p) (by omega) s
 have w6 : Pg.swap a b (Pg.swap a b p) = p := w3
 have hsw2 := fun s => swap_s a b (p := p.swap a b) (by omega) s
 rw [w6] at hsw2
 generalize p.swap a b = q at *
 rw [c2] at w5
 have hrq := w2 hr
 have hl := text_short w5 hrq
 have h2 := text_parse w5 hrq (by omega) (by omega) (by omega)
 have h3 := fun s => pText_s (may_FineP w5 (by omega)) (fun h => may_PrG w5 hrq) (by omega) s
 rw [if_pos w5] at h3
 have h4 := fun s => Parse_s h2 (by omega) s
 have he := fun s => Eq_s (a := p) (b := p) (by omega) s
 rw [Pg.beq_refl] at he
 have z2 : ((0 : Int) == 0) = true := rfl
 clear h2 hl
 generalize textS q = T at *
 refine Fun.go has_law5_PrintSwap rfl fun B Q hB hQ => ?_
 have ⟨hH, hJ, hY, hZ⟩ := H4_
 repeat' (first
 | simp only [go_sem, hH, hJ, hY, hZ, c, ca, cb, c2, c3, z2, encF]
 | (with_reducible refine CU (h0 _) ?_)
 | (with_reducible refine CU (hf _) ?_)
 | (with_reducible refine CU (hna _ _) ?_)
 | (with_reducible refine CU (m1 _) ?_)
 | (with_reducible refine CU (hT _) ?_)
 | (with_reducible refine CU (hsw _) ?_)
 | (with_reducible refine CU (hsw2 _) ?_)
 | (with_reducible refine CU (h3 _) ?_)
 | (with_reducible refine CU (h4 _) ?_)
 | (with_reducible refine CU (he _) ?_)
 | (with_reducible first | refine kT_ fun hc => ?_ | refine kF_ fun hc => ?_ | refine kS_ (fun hc => ?_) fun hc => ?_) <;> (try simp only [hc, bs, ↓reduceIte] at h) <;> try simp only [hc]
 | (with_reducible refine lA_ hQ ?_; (try cases h); simp only [resL, oneD, sI_, eL_, go_sem, hH, hJ, hY, hZ, c, ca, cb, c2, c3, z2, encF]; try exact lE_)
 | (cases h; replace h := hr; clear hr; (try simp only [bs, ↓reduceIte] at h))
 | (cases h; done))

end Go.Abs

/-! Glue2 -/

namespace Go.Abs

def M0 : Map := ⟨fun _ _ => none, fun _ => (0, none), fun _ => none⟩

def Kept (w w' : World) : Prop := w.keptBut w' (fun _ => False) ∧ ∀ a : Addr, a.block < w.heap.size → w'.frozen? a = w.frozen? a

theorem Kept.frame {w w' : World} (h : Kept w w') (may : MemPlace → Prop) : w.keptBut w' may := World.keptBut_mono (fun _ f => f.elim) h.1

theorem Ext.toKept {M M' : Map} {s' : St} {w w' : World} (e : Ext M S0 w M' s' w') : Kept w w' := by
 have hh : ∀ b, b < w.heap.size → w'.heap[b]? = w.heap[b]? := fun b hb =>
   e.kept b hb (fun o ho => by simp [S0] at ho) (fun t c z hl => by obtain ⟨n, hn⟩ := hl; simp [S0] at hn)
 refine ⟨⟨e.os, e.output, fun i hi => ?_⟩, fun a ha => ?_⟩
 · rw [hh i hi]
   exact (World.keptBut_refl w (fun _ => False)).2.2 i hi
 · simp only [World.frozen?, hh _ ha]

theorem rel0 (G : Nat → Nat → Option Value) (w : World) (h : ∀ b o v, G b o = some v → w.cell? ⟨b, o, none⟩ = some v ∧ v.oneCell' = true) : Rel ⟨G, fun _ => (0, none), fun _ => none⟩ S0 w :=
 ⟨h, fun o ds e => by simp [S0] at e, fun o ho => by simp [S0] at ho, fun o o' ho => by simp [S0] at ho, fun t n e => by simp [S0] at e,
   fun t b c z o hl => by obtain ⟨n, hn⟩ := hl; simp [S0] at hn, fun t t' b c z c' z' hl => by obtain ⟨n, hn⟩ := hl; simp [S0] at hn⟩

def LaidW (w : World) : Prop := ∀ g cs, tabs g = some cs → ∃ T fr, w.heap[g]? = some (.cells cs T fr)
theorem laid0 (G : Nat → Nat → Option Value) {w : World} (h : LaidW w) : Laid ⟨G, fun _ => (0, none), fun _ => none⟩ S0 w :=
 fun g cs hg => ⟨h g cs hg, fun o ho => by simp [S0] at ho, fun t c z hl => by obtain ⟨n, hn⟩ := hl; simp [S0] at hn⟩

theorem law_calls {P : Program} {f : FuncId} {args : List D} {vargs : Array Value} {w : World} {G : Nat → Nat → Option Value} (h : ACalls P f args S0 fun d _ => d = .bool true)
   (hG : ∀ b o v, G b o = some v → w.cell? ⟨b, o, none⟩ = some v ∧ v.oneCell' = true) (hl : vargs.size = args.length)
   (ha : ∀ (i : Nat) (d : D) (v : Value), args[i]? = some d → vargs[i]? = some v → RD ⟨G, fun _ => (0, none), fun _ => none⟩ S0 d v) (hlaid : LaidW w) :
   Calls P f vargs w fun e w' => e = .returned (.bool true) ∧ Kept w w' := by
 refine (h _ w vargs (rel0 G w hG) (laid0 G hlaid) hl ha).mono fun e w' hw => ?_
 obtain ⟨M', d, v, s', rfl, rfl, he, _, hv⟩ := hw
 rw [hv.bool_inv]
 exact ⟨rfl, he.toKept⟩

section
variable {P : Program} {H : Type} {enc : TypeId × Value → H}

theorem post_of_kept {f : Func} {s : ChangeSpec} {apart fresh handsOn again : Bool} {W W' : World} {args : Array Value} {v : Value} {ds gs : List (DataW H)} {before pa pv : List MemPlace}
   (hW : DataW.Whole enc P f.params.toList s.vars apart W args.toList ds gs before)
   (hres : ∀ (b : Nat) (sp : Nat → Bool) (hd : Bool), DataW.TrodAll enc P W' b sp hd f.resultTypes.toList (v.resultList f.resultTypes.size) (s.fn H (ds ++ gs)).results [])
   (hargs : ∀ sp : Nat → Bool, (∀ p ∈ before, sp p.block = true) → DataW.TrodAll enc P W' 0 sp true f.params.toList args.toList (s.fn H (ds ++ gs)).args pa)
   (hvars : ∀ sp : Nat → Bool, (∀ p ∈ before, sp p.block = true) → DataW.TrodVars enc P W' sp s.vars (s.fn H (ds ++ gs)).vars pv)
   (hps : before = pa ++ pv) (hk : Kept W W')
   (hok : ∀ (j : Nat) (t : TypeId) (r : Value), f.resultTypes[j]? = some t → (v.resultList f.resultTypes.size)[j]? = some r → Value.okWide P W' .any 0 t r) :
   s.post enc P f apart fresh handsOn again W args v W' := by
 have hH : ∀ p ∈ before, p.block < W.heap.size := fun p hp => hW.lt p hp
 have hold : ∀ p ∈ before, (fun b => decide (b < W.heap.size)) p.block = true := fun p hp => by simpa using hH p hp
 refine ⟨ds, gs, before, [], pa, pv, hW, hres _ _ _, hargs _ hold, hvars _ hold, World.keptBut_mono (fun p hp => ⟨hp, ?_⟩) (hk.frame (· ∈ before)), fun _ => ?_⟩
 · rw [hps, List.mem_append] at hp
   exact Or.inr hp
 · obtain ⟨_, _, _, _, _, hz, hn⟩ := hW
   refine ⟨hok, _, _, ([] ++ pa) ++ pv, ⟨[] ++ pa, pv, ChangeShapes.trodAll_append (hargs _ (fun _ _ => rfl)) (hres _ _ _), hvars _ (fun _ _ => rfl), rfl, ?_, ?_⟩, ?_⟩
   · intro b off hp
     have hp' : MemPlace.cell b off ∈ before := by rw [hps]; simpa using hp
     rw [hk.2 _ (hH _ hp')]
     exact hz b off hp'
   · intro ha
     have := hn ha
     rw [hps] at this
     simpa using this
   · intro p hp _
     rw [hps]
     simpa using hp
end
end Go.Abs

/-! Join -/

namespace Go.Abs
open Go.RowKit Go.ChangeShapes Go.WideShapes

def memG (w : World) (b o : Nat) : Option Value :=
 match w.cell? ⟨b, o, none⟩ with
 | some v => if v.oneCell' = true then some v else none
 | none => none
theorem memG_ok {w : World} (b o : Nat) (v : Value) (h : memG w b o = some v) : w.cell? ⟨b, o, none⟩ = some v ∧ v.oneCell' = true := by
 unfold memG at h
 split at h
 · split at h
   · cases h; exact ⟨‹_›, ‹_›⟩
   · cases h
 · cases h
def memM (w : World) : Map := ⟨memG w, fun _ => (0, none), fun _ => none⟩

theorem Kept.sameAt {w w' : World} (h : Kept w w') {p : MemPlace} (hp : p.block < w.heap.size) : w.sameAt w' p := by
 have hk := h.1.2.2 p.block hp
 cases p with
 | cell b off =>
   simp only [MemPlace.block] at hk hp
   simp only [World.sameAt, World.cell?]
   split at hk
   · rename_i c t fr c' t' fr' e e'
     rw [e, e']
     simp only [hk.2.2.2 off (fun f => f)]
   · rename_i es clock es' clock' e e'
     rw [e, e']
   · rw [hk]
 | map b =>
   simp only [MemPlace.block] at hk hp
   simp only [World.sameAt]
   split at hk
   · rename_i c t fr c' t' fr' e e'
     rw [e, e']
     obtain ⟨rfl, rfl, hs, hc⟩ := hk
     have : c' = c := by
       apply Array.ext_getElem?
       intro i
       exact hc i (fun f => f)
     rw [this]
   · rename_i es clock es' clock' e e'
     rcases hk with f | ⟨rfl, rfl⟩
     · exact f.elim
     · rw [e, e']
   · exact hk

section
variable {P : Program} {H : Type} {enc : TypeId × Value → H} {T : TypeId → Prop}

theorem args_again (K : Kids P T) (hz : ∀ {t e : TypeId}, T t → P.underlying t = some (.slice e) → 0 < P.cellsOf e) {W W' : World} (hk : Kept W W') {sp : Nat → Bool} :
   ∀ {ts : List TypeId} {vs : List Value} {ds : List (DataW H)} {ps : List MemPlace}, (∀ t ∈ ts, T t) → (∀ p ∈ ps, p.block < W.heap.size) → (∀ p ∈ ps, sp p.block = true) →
     DataW.TrodAll enc P W 0 (fun _ => true) true ts vs ds ps → DataW.TrodAll enc P W' 0 sp true ts vs ds ps
 | [], [], [], _, _, _, _, h => h
 | t :: ts, v :: vs, d :: ds, ps, hT, hH, hs, ⟨p, q, ⟨n, h1⟩, h2, e⟩ => by
   subst e
   refine ⟨p, q, ⟨n, DataW.trod_stays K hz (fun f => by cases f) (hT t (List.mem_cons_self ..)) h1 (fun x hx => hk.sameAt (hH x (List.mem_append_left _ hx))) (fun x hx => hs x (List.mem_append_left _ hx))⟩, ?_, rfl⟩
   exact args_again K hz hk (fun t ht => hT t (List.mem_cons_of_mem _ ht)) (fun x hx => hH x (List.mem_append_right _ hx)) (fun x hx => hs x (List.mem_append_right _ hx)) h2
 | [], [], _ :: _, _, _, _, _, h => h.elim
 | [], _ :: _, _, _, _, _, _, h => h.elim
 | _ :: _, [], _, _, _, _, _, h => h.elim
 | _ :: _, _ :: _, [], _, _, _, _, h => h.elim

theorem law_post (K : Kids P T) (hz : ∀ {t e : TypeId}, T t → P.underlying t = some (.slice e) → 0 < P.cellsOf e) {f : Func} {s : ChangeSpec} {apart fresh handsOn again : Bool} {tb : TypeId} {W W' : World} {args : Array Value} {ds gs : List (DataW H)} {before : List MemPlace}
   (hT : ∀ t ∈ f.params.toList, T t) (hb : P.underlying tb = some .bool) (hr : f.resultTypes = #[tb]) (hvars : s.vars = []) (hW : DataW.Whole enc P f.params.toList s.vars apart W args.toList ds gs before)
   (hfn : s.fn H (ds ++ gs) = { results := [.lit (.bool true)], args := ds }) (hk : Kept W W') : s.post enc P f apart fresh handsOn again W args (.bool true) W' := by
 have hW' := hW
 have hH : ∀ p ∈ before, p.block < W.heap.size := fun p hp => hW.lt p hp
 obtain ⟨p, q, hA, hV, rfl, hfz, hnd⟩ := hW
 rw [hvars] at hV
 obtain ⟨rfl, rfl⟩ := trodVars_none hV
 simp only [List.append_nil] at hH hfn
 refine post_of_kept (pa := p) (pv := []) hW' (fun b sp hd => ?_) (fun sp hsp => ?_) (fun sp hsp => ?_) rfl hk (ok_one hr rfl (okWide_bool_mk hb _))
 · rw [List.append_nil, hfn, hr]
   exact trodAll_cons_mk (shut_bool hb _) trodAll_mk0
 · rw [List.append_nil, hfn]
   simp only [List.append_nil] at hsp
   exact args_again K hz hk hT hH hsp hA
 · rw [List.append_nil, hfn, hvars]
   rfl

theorem law_run {f : FuncId} {args : List D} {vargs : Array Value} {w : World} (h : ACalls P f args S0 fun d _ => d = .bool true) (hl : vargs.size = args.length)
   (ha : ∀ (i : Nat) (d : D) (v : Value), args[i]? = some d → vargs[i]? = some v → RD (memM w) S0 d v) (hlaid : LaidW w) : Calls P f vargs w fun e w' => e = .returned (.bool true) ∧ Kept w w' :=
 law_calls (G := memG w) h memG_ok hl ha hlaid
end

end Go.Abs

/-! Join2 -/

namespace Go.Abs
open Go.RowKit Go.ChangeShapes Go.WideShapes

end Go.Abs

/-! Join3 -/

namespace Go.Abs
open Go.RowKit Go.ChangeShapes Go.WideShapes

def Rowed (W : World) (ds : List D) (cs : List Value) : Prop := ds.length = cs.length ∧ (∀ (i : Nat) (d : D) (v : Value), ds[i]? = some d → cs[i]? = some v → RD (memM W) S0 d v) ∧ ∀ v ∈ cs, v.oneCell' = true

theorem Rowed.one {W : World} {d : D} {v : Value} (h : RD (memM W) S0 d v) (hv : v.oneCell' = true) : Rowed W [d] [v] := by
 refine ⟨rfl, fun i d' v' h1 h2 => ?_, fun u hu => by simp at hu; subst hu; exact hv⟩
 cases i with
 | zero => simp at h1 h2; subst h1 h2; exact h
 | succ i => simp at h1
theorem Rowed.app {W : World} {ds ds' : List D} {cs cs' : List Value} (h : Rowed W ds cs) (h' : Rowed W ds' cs') : Rowed W (ds ++ ds') (cs ++ cs') := by
 obtain ⟨a1, a2, a3⟩ := h
 obtain ⟨b1, b2, b3⟩ := h'
 refine ⟨by simp [a1, b1], fun i d v h1 h2 => ?_, fun v hv => ?_⟩
 · by_cases hi : i < ds.length
   · rw [List.getElem?_append_left hi] at h1
     rw [List.getElem?_append_left (by omega)] at h2
     exact a2 i d v h1 h2
   · rw [List.getElem?_append_right (by omega)] at h1
     rw [List.getElem?_append_right (by omega), ← a1] at h2
     exact b2 _ d v h1 h2
 · rcases List.mem_append.1 hv with hv | hv
   · exact a3 v hv
   · exact b3 v hv
theorem Rowed.at {W : World} {ds ds' : List D} {cs : List Value} {o n : Nat} (h : Rowed W ds ((cs.drop o).take n)) (h' : Rowed W ds' (cs.drop (o + n))) : Rowed W (ds ++ ds') (cs.drop o) := by
 have e : cs.drop o = (cs.drop o).take n ++ cs.drop (o + n) := by rw [← List.drop_drop, List.take_append_drop]
 rw [e]
 exact h.app h'
theorem Rowed.end {W : World} {cs : List Value} {o : Nat} (h : cs.length = o) : Rowed W [] (cs.drop o) := by
 rw [← h, List.drop_length]
 exact ⟨rfl, fun i d v h => by simp at h, fun v hv => by cases hv⟩

section
variable {H : Type} {enc : TypeId × Value → H} {P : Program} {W : World} {sp : Nat → Bool}

def structOf (P : Program) (t : TypeId) : List (TypeId × Nat) :=
 match P.underlying t with
 | some (.struct fs) => fs.toList.map fun f => (f.type, f.offset)
 | _ => []

theorem struct_fields {t : TypeId} {l : List (TypeId × Nat)} {fuel : Nat} {cs : List Value} {x : DataW H × List MemPlace} (h : structOf P t = l) (hne : l ≠ []) (ht : DataW.trod enc P W 0 sp true fuel t cs = some x) :
   ∃ n, fuel = n + 1 ∧ cs.length = P.cellsOf t ∧ ∀ (i : Nat) (f : TypeId × Nat), l[i]? = some f → ∃ y, DataW.trod enc P W 0 sp true n f.1 ((cs.drop f.2).take (P.cellsOf f.1)) = some y := by
 unfold structOf at h
 split at h
 · rename_i fs hu
   obtain ⟨xs, n, e, _, hl, hlen, hf⟩ := DataW.trod_struct hu ht
   refine ⟨n, e, hl, fun i f hi => ?_⟩
   subst h
   rw [List.getElem?_map, Option.map_eq_some_iff] at hi
   obtain ⟨g, hg, rfl⟩ := hi
   have hg' : fs[i]? = some g := by simpa using hg
   have hi : i < xs.length := by rw [hlen]; exact (Array.getElem?_eq_some_iff.1 hg').1
   exact ⟨xs[i], by rw [hf i g hg', List.getElem?_eq_getElem hi]⟩
 · exact absurd h.symm hne

theorem structOf_some {t : TypeId} {l : List (TypeId × Nat)} (h : structOf P t = l) (hne : l ≠ []) : ∃ fs, P.underlying t = some (.struct fs) := by
 unfold structOf at h
 split at h
 · exact ⟨_, ‹_›⟩
 · exact absurd h.symm hne

theorem choose_list {α : Type} {Q : Nat → α → Prop} : ∀ n, (∀ i, i < n → ∃ y, Q i y) → ∃ ys : List α, ys.length = n ∧ ∀ i y, ys[i]? = some y → Q i y
 | 0, _ => ⟨[], rfl, fun i y h => by simp at h⟩
 | n + 1, h => by
   obtain ⟨ys, h1, h2⟩ := choose_list n fun i hi => h i (by omega)
   obtain ⟨y, hy⟩ := h n (by omega)
   refine ⟨ys ++ [y], by simp [h1], fun i z hz => ?_⟩
   by_cases hi : i < ys.length
   · rw [List.getElem?_append_left hi] at hz; exact h2 i z hz
   · rw [List.getElem?_append_right (by omega)] at hz
     have : i - ys.length = 0 := by
       rcases Nat.eq_zero_or_pos (i - ys.length) with h | h
       · exact h
       · rw [List.getElem?_eq_none (by simp only [List.length_cons, List.length_nil]; omega)] at hz; cases hz
     rw [this] at hz
     simp at hz
     subst hz
     have : i = n := by omega
     subst this
     exact hy

theorem rd_slice {α : Type} (en : α → List D) (good : α → Prop) {z : Nat} {t e : TypeId} {fuel : Nat} {cs : List Value} {x : DataW H × List MemPlace} (ht : P.underlying t = some (.slice e)) (hz : P.cellsOf e = z) (hz0 : 0 < z) (hen : ∀ y, (en y).length = z)
   (hel : ∀ n < fuel, ∀ cs x, DataW.trod enc P W 0 sp true n e cs = some x → ∃ y, Rowed W (en y) cs ∧ good y) (h : DataW.trod enc P W 0 sp true fuel t cs = some x) :
   ∃ ys : List α, Rowed W [.slice .shared z (ys.map en)] cs ∧ ∀ y ∈ ys, good y := by
 rcases DataW.trod_slice ht h with ⟨rfl, _⟩ | ⟨a, len, cap, elems, rest, n, hn, rfl, _, hb, hl, hm, hlen, hcell, _, _⟩
 · exact ⟨[], Rowed.one (.snil _ _ _ rfl trivial) rfl, fun y hy => by cases hy⟩
 · by_cases h0 : len = 0
   · subst h0
     exact ⟨[], Rowed.one (.semp _ _ _) rfl, fun y hy => by cases hy⟩
   · obtain ⟨ys, hys, hall⟩ := choose_list (Q := fun i y => good y ∧ ∃ cs', W.cells? 0 (a.add (i * z)) z = some cs' ∧ Rowed W (en y) cs') len fun i hi => by
       have hc := hcell i hi
       rw [List.getElem?_eq_getElem (by omega), hz, Option.bind_eq_some_iff] at hc
       obtain ⟨cs', h1, h2⟩ := hc
       obtain ⟨y, h3, h4⟩ := hel n (by omega) _ _ h2
       exact ⟨y, h4, cs', h1, h3⟩
     have cell : ∀ i y, ys[i]? = some y → ∀ (j : Nat) d, (en y)[j]? = some d → ∃ v, W.cell? ((a.add (i * z)).add j) = some v ∧ RD (memM W) S0 d v ∧ v.oneCell' = true := by
       intro i y hy j d hd
       obtain ⟨_, cs', h1, h2, h3, h4⟩ := hall i y hy
       obtain ⟨_, k1, k2⟩ := World.cells?_some h1
       have hj : j < z := by rw [← hen y]; exact (List.getElem?_eq_some_iff.1 hd).1
       have hv : cs'[j]? = some cs'[j] := List.getElem?_eq_getElem (by omega)
       exact ⟨cs'[j], by rw [k2 j hj, hv], h3 j d _ hd hv, h4 _ (List.getElem_mem _)⟩
     obtain ⟨b, off, spot⟩ := a
     have hspot : spot = none := by
       have hy : ys[0]? = some (ys[0]'(by omega)) := List.getElem?_eq_getElem (by omega)
       obtain ⟨d, hd⟩ : ∃ d, (en (ys[0]'(by omega)))[0]? = some d := ⟨_, List.getElem?_eq_getElem (show 0 < (en (ys[0]'(by omega))).length by rw [hen]; exact hz0)⟩
       obtain ⟨v, hv, _⟩ := cell 0 _ hy 0 _ hd
       have := World.cell?_spot hv
       simpa [Addr.add] using this
     subst hspot
     have e : (ys.map en).length = len := by simp [hys]
     have := RD.slice (M := memM W) (s := S0) .shared z (ys.map en) b off cap (by omega) (fun row hr => by obtain ⟨y, _, rfl⟩ := List.mem_map.1 hr; exact hen y)
       (fun i row j d h1 h2 => by
         rw [List.getElem?_map, Option.map_eq_some_iff] at h1
         obtain ⟨y, h1, rfl⟩ := h1
         obtain ⟨v, hv, _, h4⟩ := cell i y h1 j d h2
         rw [add_plain, add_plain] at hv
         refine ⟨v, ?_⟩
         show memG W b (off + (i * z + j)) = _
         unfold memG
         rw [show off + (i * z + j) = off + i * z + j by omega, hv]
         simp [h4])
       (fun i row j d u h1 h2 hu => by
         rw [List.getElem?_map, Option.map_eq_some_iff] at h1
         obtain ⟨y, h1, rfl⟩ := h1
         obtain ⟨v, hv, h3, h4⟩ := cell i y h1 j d h2
         rw [add_plain, add_plain] at hv
         obtain ⟨hu, _⟩ := memG_ok _ _ _ hu
         rw [show off + (i * z + j) = off + i * z + j by omega, hv] at hu
         cases hu
         exact h3) trivial
     rw [e] at this
     refine ⟨ys, Rowed.one this rfl, fun y hy => ?_⟩
     obtain ⟨i, hi⟩ := List.getElem?_of_mem hy
     exact (hall i y hi).1

theorem rd_i64 {t : TypeId} {fuel : Nat} {cs : List Value} {x : DataW H × List MemPlace} (ht : P.underlying t = some (.int .i64)) (h : DataW.trod enc P W 0 sp true fuel t cs = some x) : ∃ n : Int, Rowed W [.int .i64 n] cs ∧ n ≤ 9223372036854775807 ∧ -9223372036854775808 ≤ n := by
 obtain ⟨n, rfl, _, hw⟩ := DataW.trod_int ht h
 simp [Lit.wf, IntKind.min, IntKind.max, IntKind.signed, IntKind.bits] at hw
 exact ⟨n, Rowed.one (.int _ _) rfl, by omega, by omega⟩
theorem rd_bool {t : TypeId} {fuel : Nat} {cs : List Value} {x : DataW H × List MemPlace} (ht : P.underlying t = some .bool) (h : DataW.trod enc P W 0 sp true fuel t cs = some x) : ∃ b : Bool, Rowed W [.bool b] cs := by
 obtain ⟨n, rfl, _⟩ := DataW.trod_bool ht h
 exact ⟨n, Rowed.one (.bool _) rfl⟩
theorem rd_str {t : TypeId} {fuel : Nat} {cs : List Value} {x : DataW H × List MemPlace} (ht : P.underlying t = some .string) (h : DataW.trod enc P W 0 sp true fuel t cs = some x) : ∃ s : Str, Rowed W (encStr s) cs ∧ s.length ≤ maxLen := by
 obtain ⟨s, rfl, _, hm⟩ := DataW.trod_string ht h
 obtain ⟨⟨l⟩⟩ := s
 exact ⟨l, Rowed.one (.str l) rfl, hm⟩

theorem rd_ex {tE tI tN tS tK : TypeId} (hE : structOf P tE = [(tI, 0), (tN, 1), (tS, 2), (tK, 3)]) (hEc : P.cellsOf tE = 4) (hI : P.underlying tI = some (.int .i64)) (hN : P.underlying tN = some (.int .i64)) (hS : P.underlying tS = some .string) (hK : P.underlying tK = some (.slice tE))
   (cI : P.cellsOf tI = 1) (cN : P.cellsOf tN = 1) (cS : P.cellsOf tS = 1) (cK : P.cellsOf tK = 1) :
   ∀ (fuel : Nat) (cs : List Value) (x : DataW H × List MemPlace), DataW.trod enc P W 0 sp true fuel tE cs = some x → ∃ y : Ex, Rowed W (encEx y) cs ∧ y.rng := by
 intro fuel
 induction fuel using Nat.strongRecOn with
 | _ fuel ih =>
   intro cs x h
   obtain ⟨n, rfl, hl, hf⟩ := struct_fields hE (by simp) h
   obtain ⟨y0, h0⟩ := hf 0 _ rfl
   obtain ⟨y1, h1⟩ := hf 1 _ rfl
   obtain ⟨y2, h2⟩ := hf 2 _ rfl
   obtain ⟨y3, h3⟩ := hf 3 _ rfl
   dsimp only at h0 h1 h2 h3
   rw [cI] at h0
   rw [cN] at h1
   rw [cS] at h2
   rw [cK] at h3
   obtain ⟨op, r0, _⟩ := rd_i64 hI h0
   obtain ⟨m, r1, hm, _⟩ := rd_i64 hN h1
   obtain ⟨s, r2, _⟩ := rd_str hS h2
   obtain ⟨ks, r3, hg⟩ := rd_slice (W := W) encEx Ex.rng hK hEc (by decide) lenEx (fun k hk cs x hx => ih k (by omega) cs x hx) h3
   refine ⟨⟨op, m, s, ks⟩, ?_, hm, ?_⟩
   · have := r0.at (r1.at (r2.at (r3.at (Rowed.end (by rw [hl, hEc])))))
     rw [encEx_eq]
     simpa [encStr] using this
   · clear r3
     induction ks with
     | nil => exact trivial
     | cons k ks ihk => exact ⟨hg k (by simp), ihk fun y hy => hg y (by simp [hy])⟩

theorem Rowed.agg {ds : List D} {v : Value} (h : Rowed W ds v.cells.toList) (hv : ∃ vs, v = .agg vs) : RD (memM W) S0 (.agg ds) v := by
 obtain ⟨vs, rfl⟩ := hv
 obtain ⟨h1, h2, h3⟩ := h
 have e : (Value.agg vs).cells = vs := rfl
 rw [e] at h1 h2 h3
 refine .agg ds vs (by simpa using h1) (fun v hv => h3 v (by simpa using hv)) fun i d v hd hv => h2 i d v hd (by simpa using hv)
end

end Go.Abs

/-! Join4 -/

namespace Go.Abs
open Go.Proofs Go.RowKit Go.ChangeShapes Go.WideShapes

section
variable {H : Type} {enc : TypeId × Value → H} {W : World} {sp : Nat → Bool}

theorem rdp_ex (fuel : Nat) (cs : List Value) (x : DataW H × List MemPlace) (h : DataW.trod enc Tryz.prog W 0 sp true fuel 47 cs = some x) : ∃ y : Ex, Rowed W (encEx y) cs ∧ y.rng :=
 rd_ex (tE := 47) (tI := 3) (tN := 2) (tS := 9) (tK := 45) (by kernel_rfl) (by kernel_rfl) (by kernel_rfl) (by kernel_rfl) (by kernel_rfl) (by kernel_rfl) (by kernel_rfl) (by kernel_rfl) (by kernel_rfl) (by kernel_rfl) _ _ _ h
theorem ut_strs : Tryz.prog.underlying 22 = some (.slice 9) := by kernel_rfl
theorem ut_str : Tryz.prog.underlying 9 = some .string := by kernel_rfl
theorem ut_int : Tryz.prog.underlying 3 = some (.int .i64) := by kernel_rfl
theorem ut_bool : Tryz.prog.underlying 4 = some .bool := by kernel_rfl
theorem ct_str : Tryz.prog.cellsOf 9 = 1 := by kernel_rfl
theorem ct_int : Tryz.prog.cellsOf 3 = 1 := by kernel_rfl
theorem ct_bool : Tryz.prog.cellsOf 4 = 1 := by kernel_rfl
theorem ct_strs : Tryz.prog.cellsOf 22 = 1 := by kernel_rfl
theorem ct_ex : Tryz.prog.cellsOf 47 = 4 := by kernel_rfl
theorem rdp_strs {fuel : Nat} {cs : List Value} {x : DataW H × List MemPlace} (h : DataW.trod enc Tryz.prog W 0 sp true fuel 22 cs = some x) : ∃ l : List Str, Rowed W [.slice .shared 1 (l.map encStr)] cs := by
 obtain ⟨l, h, _⟩ := rd_slice (W := W) encStr (fun _ => True) ut_strs ct_str (by decide) (fun _ => rfl) (fun k hk cs x hx => by
   obtain ⟨s, hs, _⟩ := rd_str ut_str hx
   exact ⟨s, hs, trivial⟩) h
 exact ⟨l, h⟩

theorem rdp_pm {fuel : Nat} {cs : List Value} {x : DataW H × List MemPlace} (h : DataW.trod enc Tryz.prog W 0 sp true fuel 58 cs = some x) : ∃ y : Pm, Rowed W (encPm y) cs := by
 obtain ⟨n, rfl, hl, hf⟩ := struct_fields (l := [(9, 0), (4, 1)]) (by kernel_rfl) (by simp) h
 have hc : Tryz.prog.cellsOf 58 = 2 := by kernel_rfl
 obtain ⟨y0, h0⟩ := hf 0 _ rfl
 obtain ⟨y1, h1⟩ := hf 1 _ rfl
 dsimp only at h0 h1
 rw [ct_str] at h0
 rw [ct_bool] at h1
 obtain ⟨s, r0, _⟩ := rd_str ut_str h0
 obtain ⟨b, r1⟩ := rd_bool ut_bool h1
 refine ⟨⟨s, b⟩, ?_⟩
 have := r0.at (r1.at (Rowed.end (by rw [hl, hc])))
 simpa [encStr, encPm] using this

theorem rdp_ar {fuel : Nat} {cs : List Value} {x : DataW H × List MemPlace} (h : DataW.trod enc Tryz.prog W 0 sp true fuel 96 cs = some x) : ∃ y : Ar, Rowed W (encAr y) cs ∧ y.x.rng := by
 obtain ⟨n, rfl, hl, hf⟩ := struct_fields (l := [(4, 0), (9, 1), (47, 2)]) (by kernel_rfl) (by simp) h
 have hc : Tryz.prog.cellsOf 96 = 6 := by kernel_rfl
 obtain ⟨y0, h0⟩ := hf 0 _ rfl
 obtain ⟨y1, h1⟩ := hf 1 _ rfl
 obtain ⟨y2, h2⟩ := hf 2 _ rfl
 dsimp only at h0 h1 h2
 rw [ct_bool] at h0
 rw [ct_str] at h1
 rw [ct_ex] at h2
 obtain ⟨b, r0⟩ := rd_bool ut_bool h0
 obtain ⟨s, r1, _⟩ := rd_str ut_str h1
 obtain ⟨e, r2, hr⟩ := rdp_ex _ _ _ h2
 refine ⟨⟨b, s, e⟩, ?_, hr⟩
 have := r0.at (r1.at (r2.at (Rowed.end (by rw [hl, hc]))))
 rw [encEx_eq] at this
 simpa [encStr, encAr] using this

theorem rngs_all : ∀ {l : List Sm}, (∀ s ∈ l, s.rng) → Sm.rngs l
 | [], _ => trivial
 | s :: l, h => ⟨h s (List.mem_cons_self ..), rngs_all fun t m => h t (List.mem_cons_of_mem _ m)⟩

theorem rdp_sm : ∀ (fuel : Nat) (cs : List Value) (x : DataW H × List MemPlace), DataW.trod enc Tryz.prog W 0 sp true fuel 51 cs = some x → ∃ y : Sm, Rowed W (encSm y) cs ∧ y.rng := by
 intro fuel
 induction fuel using Nat.strongRecOn with
 | _ fuel ih =>
   intro cs x h
   obtain ⟨n, rfl, hl, hf⟩ := struct_fields (l := [(3, 0), (3, 1), (22, 2), (9, 3), (9, 4), (47, 5), (4, 9), (48, 10), (49, 11), (49, 12)]) (by kernel_rfl) (by simp) h
   have hc : Tryz.prog.cellsOf 51 = 13 := by kernel_rfl
   have ca : Tryz.prog.cellsOf 48 = 1 := by kernel_rfl
   have cs' : Tryz.prog.cellsOf 49 = 1 := by kernel_rfl
   have ua : Tryz.prog.underlying 48 = some (.slice 96) := by kernel_rfl
   have us : Tryz.prog.underlying 49 = some (.slice 51) := by kernel_rfl
   have ca6 : Tryz.prog.cellsOf 96 = 6 := by kernel_rfl
   obtain ⟨y0, h0⟩ := hf 0 _ rfl
   obtain ⟨y1, h1⟩ := hf 1 _ rfl
   obtain ⟨y2, h2⟩ := hf 2 _ rfl
   obtain ⟨y3, h3⟩ := hf 3 _ rfl
   obtain ⟨y4, h4⟩ := hf 4 _ rfl
   obtain ⟨y5, h5⟩ := hf 5 _ rfl
   obtain ⟨y6, h6⟩ := hf 6 _ rfl
   obtain ⟨y7, h7⟩ := hf 7 _ rfl
   obtain ⟨y8, h8⟩ := hf 8 _ rfl
   obtain ⟨y9, h9⟩ := hf 9 _ rfl
   dsimp only at h0 h1 h2 h3 h4 h5 h6 h7 h8 h9
   rw [ct_int] at h0 h1
   rw [ct_strs] at h2
   rw [ct_str] at h3 h4
   rw [ct_ex] at h5
   rw [ct_bool] at h6
   rw [ca] at h7
   rw [cs'] at h8 h9
   obtain ⟨id, r0, _⟩ := rd_i64 ut_int h0
   obtain ⟨kind, r1, _⟩ := rd_i64 ut_int h1
   obtain ⟨labels, r2⟩ := rdp_strs h2
   obtain ⟨name, r3, _⟩ := rd_str ut_str h3
   obtain ⟨proc, r4, _⟩ := rd_str ut_str h4
   obtain ⟨e, r5, hr⟩ := rdp_ex _ _ _ h5
   obtain ⟨b, r6⟩ := rd_bool ut_bool h6
   obtain ⟨args, r7, ha⟩ := rd_slice (W := W) encAr (fun a => a.x.rng) ua ca6 (by decide) (fun _ => rfl) (fun k hk cs x hx => rdp_ar hx) h7
   obtain ⟨thn, r8, ht⟩ := rd_slice (W := W) encSm Sm.rng us hc (by decide) lenSm (fun k hk cs x hx => ih k (by omega) cs x hx) h8
   obtain ⟨els, r9, he⟩ := rd_slice (W := W) encSm Sm.rng us hc (by decide) lenSm (fun k hk cs x hx => ih k (by omega) cs x hx) h9
   refine ⟨⟨id, kind, labels, name, proc, e, b, args, thn, els⟩, ?_, hr, ha, rngs_all ht, rngs_all he⟩
   have := r0.at (r1.at (r2.at (r3.at (r4.at (r5.at (r6.at (r7.at (r8.at (r9.at (Rowed.end (by rw [hl, hc])))))))))))
   rw [encEx_eq] at this
   rw [encSm_eq]
   simpa [encStr] using this

theorem rdp_pc {fuel : Nat} {cs : List Value} {x : DataW H × List MemPlace} (h : DataW.trod enc Tryz.prog W 0 sp true fuel 54 cs = some x) : ∃ y : Pc, Rowed W (encPc y) cs ∧ Sm.rngs y.body := by
 obtain ⟨n, rfl, hl, hf⟩ := struct_fields (l := [(9, 0), (52, 1), (22, 2), (49, 3), (22, 4)]) (by kernel_rfl) (by simp) h
 have hc : Tryz.prog.cellsOf 54 = 5 := by kernel_rfl
 have cp : Tryz.prog.cellsOf 52 = 1 := by kernel_rfl
 have cs' : Tryz.prog.cellsOf 49 = 1 := by kernel_rfl
 have up : Tryz.prog.underlying 52 = some (.slice 58) := by kernel_rfl
 have us : Tryz.prog.underlying 49 = some (.slice 51) := by kernel_rfl
 have cp2 : Tryz.prog.cellsOf 58 = 2 := by kernel_rfl
 have cs13 : Tryz.prog.cellsOf 51 = 13 := by kernel_rfl
 obtain ⟨y0, h0⟩ := hf 0 _ rfl
 obtain ⟨y1, h1⟩ := hf 1 _ rfl
 obtain ⟨y2, h2⟩ := hf 2 _ rfl
 obtain ⟨y3, h3⟩ := hf 3 _ rfl
 obtain ⟨y4, h4⟩ := hf 4 _ rfl
 dsimp only at h0 h1 h2 h3 h4
 rw [ct_str] at h0
 rw [cp] at h1
 rw [ct_strs] at h2 h4
 rw [cs'] at h3
 obtain ⟨name, r0, _⟩ := rd_str ut_str h0
 obtain ⟨ps, r1, _⟩ := rd_slice (W := W) encPm (fun _ => True) up cp2 (by decide) (fun _ => rfl) (fun k hk cs x hx => by
   obtain ⟨y, hy⟩ := rdp_pm hx
   exact ⟨y, hy, trivial⟩) h1
 obtain ⟨vars, r2⟩ := rdp_strs h2
 obtain ⟨body, r3, hb⟩ := rd_slice (W := W) encSm Sm.rng us cs13 (by decide) lenSm (fun k hk cs x hx => rdp_sm k cs x hx) h3
 obtain ⟨fin, r4⟩ := rdp_strs h4
 refine ⟨⟨name, ps, vars, body, fin⟩, ?_, rngs_all hb⟩
 have := r0.at (r1.at (r2.at (r3.at (r4.at (Rowed.end (by rw [hl, hc]))))))
 simpa [encStr, encPc] using this

theorem rdp_pg {fuel : Nat} {cs : List Value} {x : DataW H × List MemPlace} (h : DataW.trod enc Tryz.prog W 0 sp true fuel 25 cs = some x) : ∃ y : Pg, Rowed W (encPg y) cs ∧ y.rng := by
 obtain ⟨n, rfl, hl, hf⟩ := struct_fields (l := [(22, 0), (23, 1)]) (by kernel_rfl) (by simp) h
 have hc : Tryz.prog.cellsOf 25 = 2 := by kernel_rfl
 have cp : Tryz.prog.cellsOf 23 = 1 := by kernel_rfl
 have up : Tryz.prog.underlying 23 = some (.slice 54) := by kernel_rfl
 have cp5 : Tryz.prog.cellsOf 54 = 5 := by kernel_rfl
 obtain ⟨y0, h0⟩ := hf 0 _ rfl
 obtain ⟨y1, h1⟩ := hf 1 _ rfl
 dsimp only at h0 h1
 rw [ct_strs] at h0
 rw [cp] at h1
 obtain ⟨globals, r0⟩ := rdp_strs h0
 obtain ⟨procs, r1, hp⟩ := rd_slice (W := W) encPc (fun f => Sm.rngs f.body) up cp5 (by decide) (fun _ => rfl) (fun k hk cs x hx => rdp_pc hx) h1
 refine ⟨⟨globals, procs⟩, ?_, hp⟩
 have := r0.at (r1.at (Rowed.end (by rw [hl, hc])))
 simpa [encPg] using this
end

end Go.Abs

/-! Laid5 -/

namespace Go.Proofs.YtcknbmdkefcinaaGreatDoor
open Go.ChangeShapes Go.WideShapes Go.ChangeAt Go.RowKit Go.Abs

theorem own : ownKnob Tryz.prog.godebug = none := by kernel_rfl
theorem kids : Kids Tryz.prog (· < Tryz.prog.types.size) := kids_rows (by kernel_rfl) (by kernel_rfl)
theorem full : ∀ {t e : TypeId}, t < Tryz.prog.types.size → Tryz.prog.underlying t = some (.slice e) → 0 < Tryz.prog.cellsOf e := fun {t e} => slices_full_of Tryz.prog (by kernel_rfl) t e

def laid3 : List (String × DataW Unit) := [("math/bits.deBruijn32tab", Rows.laid_math_bits_deBruijn32tab), ("math/bits.deBruijn64tab", Rows.laid_math_bits_deBruijn64tab), ("internal/strconv.uint64pow10", Rows.laid_internal_strconv_uint64pow10)]

theorem laid_pow : (Rows.laid_internal_strconv_uint64pow10 : DataW Unit) = Lib.tabData .u64 Lib.pow10Tab := by kernel_rfl

theorem laidW_of {W : World} (h : laidMetH Tryz.prog laid3 W) : LaidW W := by
 have h1 : laidMet Tryz.prog [("internal/strconv.uint64pow10", Lib.tabData .u64 Lib.pow10Tab)] W := by
   have := (laidMetH_iff.1 h).1.filter fun x => x.1 == "internal/strconv.uint64pow10"
   rw [← laid_pow]
   exact this
 have ht : Lib.TabIs Tryz.prog W "internal/strconv.uint64pow10" .u64 Lib.pow10Tab :=
   Lib.tabIs_of_head (g := gPow) (t := 156) (e := 146) (n := 20) (by kernel_rfl) (by kernel_rfl) (by kernel_rfl) (by kernel_rfl) (by kernel_rfl) (by kernel_rfl) h1
 have hg : Tryz.prog.globalNamed "internal/strconv.uint64pow10" = some gPow := by kernel_rfl
 unfold Lib.TabIs World.var? at ht
 rw [hg] at ht
 simp only [Option.bind_some] at ht
 intro g cs hcs
 unfold tabs at hcs
 split at hcs
 · rename_i hgg
   subst hgg
   cases hcs
   split at ht
   · rename_i cs' T fr e
     cases ht
     exact ⟨T, fr, e⟩
   · cases ht
 · cases hcs

def tabCells : DataW Unit → Array Value
 | .agg l => (l.map fun | .lit (.int k n) => Value.int k n | _ => .int .i64 0).toArray
 | _ => #[]
noncomputable def laidWorld (os : Os) : World :=
 let w0 := World.holding Tryz.prog os ⟨#[], #[], []⟩
 let lay := fun (h : Array Obj) (g : Nat) (d : DataW Unit) => h.modify g fun
     | .cells _ t frozen => .cells (tabCells d) t frozen
     | o => o
 { w0 with heap := lay (lay (lay w0.heap 1 Rows.laid_internal_strconv_uint64pow10) 2 Rows.laid_math_bits_deBruijn32tab) 3 Rows.laid_math_bits_deBruijn64tab }
theorem laid_met (os : Os) (args : Array Value) : laidMetH Tryz.prog laid3 ((laidWorld os).forCall (fun _ _ => 0) ⟨#[], args, []⟩).memory :=
 laidMetH_iff.2 ⟨(LaidIn.of_run [2, 3, 1] 8 (by kernel_rfl) (by kernel_rfl) (by kernel_rfl) (by kernel_rfl)).met, fun x hx => by
   have : laid3.filter (fun x => x.2.handleName?.isSome) = [] := by kernel_rfl
   rw [this] at hx; cases hx⟩

end Go.Proofs.YtcknbmdkefcinaaGreatDoor

/-! Join5 -/

namespace Go.Abs
open Go.Proofs Go.ChangeShapes Go.WideShapes Go.ChangeAt Go.RowKit

theorem trod_cons {H : Type} {enc : TypeId × Value → H} {P : Program} {W : World} {sp : Nat → Bool} {t : TypeId} {ts : List TypeId} {ps : List MemPlace} : ∀ {l : List Value} {ds : List (DataW H)}, DataW.TrodAll enc P W 0 sp true (t :: ts) l ds ps →
   ∃ v l' d ds' p q, l = v :: l' ∧ ds = d :: ds' ∧ DataW.Trod enc P W 0 sp true t v d p ∧ DataW.TrodAll enc P W 0 sp true ts l' ds' q
 | v :: l, d :: ds, ⟨p, q, h1, h2, e⟩ => ⟨v, l, d, ds, p, q, rfl, rfl, h1, h2⟩
 | [], [], h => h.elim
 | [], _ :: _, h => h.elim
 | _ :: _, [], h => h.elim
theorem trod_nil {H : Type} {enc : TypeId × Value → H} {P : Program} {W : World} {sp : Nat → Bool} {ps : List MemPlace} : ∀ {l : List Value} {ds : List (DataW H)}, DataW.TrodAll enc P W 0 sp true [] l ds ps → l = [] ∧ ds = []
 | [], [], _ => ⟨rfl, rfl⟩
 | [], _ :: _, h => h.elim
 | _ :: _, ds, h => by cases ds <;> exact h.elim

end Go.Abs

/-! PrintSwap -/

namespace Go.Proofs.YtcknbmdkefcinaaGreatDoor.printSwap
open Go.ChangeShapes Go.WideShapes Go.ChangeAt Go.RowKit Go.Abs

theorem walk (w : World) (hL : LaidW w) (x0 : Pg) (hr0 : x0.rng) (v0 : Value) (hv0 : RD (memM w) S0 (.agg (encPg x0)) v0) (x1 : ByteArray) (x2 : ByteArray) : Calls Tryz.prog 4 #[v0, .string x1, .string x2] w fun e w' => e = .returned (.bool true) ∧ Kept w w' := by
 refine law_run (args := [.agg (encPg x0), .str x1.data.toList, .str x2.data.toList]) ((printSwap_s hr0 x1.data.toList x2.data.toList S0).mono fun _ _ h => h.1) rfl ?_ hL
 intro i d v h1 h2
 match i, h1, h2 with
 | 0, h1, h2 => simp at h1 h2; subst h1 h2; exact hv0
 | 1, h1, h2 => simp at h1 h2; subst h1 h2; exact RD.str _
 | 2, h1, h2 => simp at h1 h2; subst h1 h2; exact RD.str _

set_option maxRecDepth 100000 in
theorem lifted (os : Os) (started : os.Started) (H : Type) (enc : TypeId × Value → H) :
   ReturnsInHanded {} Tryz.checked os 4 .any (fun w args => (Rows.printSwapSpec.pre enc Tryz.prog Tryz.f4 Rows.printSwapRow.domain false w args ∧ laidMetH Tryz.prog laid3 w) ∧ sizedMet enc Tryz.prog Tryz.f4 (OpenSpec.ofChange Rows.printSwapSpec) false w args)
     (Rows.printSwapSpec.post enc Tryz.prog Tryz.f4 false true false false) := by
 refine returnsInHanded_of_change_and (C := Tryz.checked) (X := fun w _ => laidMetH Tryz.prog laid3 w) (fun _ _ _ hh h => h.of_heap hh) own started (by kernel_rfl) Tryz.func4
   (ChangeSpec.witness_at (enc := enc) (C := Tryz.checked) (os := os) (X := fun w _ => laidMetH Tryz.prog laid3 w) false (laidWorld os) #[.agg #[.slice none 0 0, .slice none 0 0], .string ⟨#[]⟩, .string ⟨#[]⟩] 8 rfl (by kernel_rfl) (by kernel_rfl) (by kernel_rfl) (by kernel_rfl) (by kernel_rfl) (laid_met os _)) ?_
 intro W base args ds gs before hval0 hW hcnd _ hL _
 have hval : ∀ (j : Nat) t v, Tryz.f4.params[j]? = some t → args[j]? = some v → Value.okWide Tryz.prog W .any base t v := hval0
 have hW' := hW
 obtain ⟨p, q, hA0, hV, rfl, hfz, hnd⟩ := hW
 have hA : DataW.TrodAll enc Tryz.prog W 0 (fun _ => true) true Tryz.f4.params.toList args.toList ds p := hA0
 rw [Tryz.params4] at hA hval
 obtain ⟨l⟩ := args
 obtain ⟨v0, l0, d0, ds0, p0, q0, e0, e0d, hd0, hA0⟩ := trod_cons hA
 obtain ⟨v1, l1, d1, ds1, p1, q1, e1, e1d, hd1, hA1⟩ := trod_cons hA0
 obtain ⟨v2, l2, d2, ds2, p2, q2, e2, e2d, hd2, hA2⟩ := trod_cons hA1
 obtain ⟨en, end_⟩ := trod_nil hA2
 have el : l = [v0, v1, v2] := by rw [show l = _ from e0, e1, e2, en]
 subst el
 have ed : ds = [d0, d1, d2] := by rw [e0d, e1d, e2d, end_]
 clear e0d
 subst ed
 have hpg : ∀ (i : Nat) (v : Value), Tryz.f4.params[i]? = some 25 → (⟨[v0, v1, v2]⟩ : Array Value)[i]? = some v → ∀ {d ps}, DataW.Trod enc Tryz.prog W 0 (fun _ => true) true 25 v d ps → ∃ x : Pg, RD (memM W) S0 (.agg (encPg x)) v ∧ x.rng := by
   intro i v hp hv d ps ⟨fuel, hf⟩
   obtain ⟨y, h1, h2⟩ := rdp_pg hf
   obtain ⟨fs, hfs⟩ := structOf_some (P := Tryz.prog) (t := 25) (l := [(22, 0), (23, 1)]) (by kernel_rfl) (by simp)
   obtain ⟨cs, e, _⟩ := okWide_struct hfs (hval i 25 v (by rw [← Tryz.params4]; exact hp) hv)
   exact ⟨y, h1.agg ⟨cs, e⟩, h2⟩
 obtain ⟨x0, hv0, hr0⟩ := hpg 0 v0 (by rw [Tryz.params4]; rfl) rfl hd0
 obtain ⟨x1, rfl, rfl, rfl, _⟩ := Go.ChangeMaps.open_string Tryz.underlying9 (hval 1 _ _ rfl rfl) hd1
 obtain ⟨x2, rfl, rfl, rfl, _⟩ := Go.ChangeMaps.open_string Tryz.underlying9 (hval 2 _ _ rfl rfl) hd2
 obtain ⟨rfl, rfl⟩ := trodVars_none hV
 refine (walk W (laidW_of hL) x0 hr0 v0 hv0 x1 x2).mono fun e W' ⟨he, hg⟩ => ?_
 subst he
 exact ⟨_, rfl, law_post kids full (by rw [Tryz.params4]; decide) Tryz.underlying4 (by kernel_rfl) rfl hW' rfl hg⟩

theorem over : Rows.PrintSwapSaid :=
 OpenClaim.holds_of_wide 4 Tryz.f4 rfl rfl rfl rfl rfl rfl rfl ⟨rfl, rfl, rfl, rfl, rfl⟩ rfl rfl rfl rfl rfl (by kernel_rfl) Tryz.func4 (by kernel_rfl)
   (of_decide_eq_true (by kernel_rfl)) (by unfold Func.isWrapper; first | (rw [if_pos (by decide +kernel)]; kernel_rfl) | (rw [if_neg (by decide +kernel)]; exact ⟨rfl, rfl⟩))
   (fun os started H enc _ => lifted os started H enc)

theorem proved : Rows.PrintSwapCardSaid :=
 Claim7.holds_tied_plain_at .later [] [.data, .data, .data] true (true, "976d7d070ccae62888779f1ab03d585f794fc104ccaf5782f0a2e51da894295d") false
   over (fun _ h => by cases h) (by kernel_rfl) (fun _ h => by cases h) printSwap_row_tie rfl ⟨rfl, rfl⟩ (by kernel_rfl) rfl
   (fun f fn hf hfn => by
     obtain rfl : f = 4 := Option.some.inj ((show Tryz.prog.funcNamed "whittler/whittlerlaw5.PrintSwap" = some 4 by kernel_rfl).symm.trans hf) |>.symm
     obtain rfl : fn = Tryz.f4 := (Option.some.inj (Tryz.func4.symm.trans hfn)).symm
     refine ⟨by kernel_rfl, fun j t ht => ?_⟩
     rw [Tryz.params4] at ht
     rcases j with _ | _ | _ | j
     · have h3 : t = 25 := by simpa using ht.symm
       subst h3
       exact (show Tryz.prog.wantsStandIn 25 = false by kernel_rfl)
     · have h3 : t = 9 := by simpa using ht.symm
       subst h3
       exact (show Tryz.prog.wantsStandIn 9 = false by kernel_rfl)
     · have h3 : t = 9 := by simpa using ht.symm
       subst h3
       exact (show Tryz.prog.wantsStandIn 9 = false by kernel_rfl)
     · simp at ht)
   (by kernel_rfl)
#print axioms proved
end Go.Proofs.YtcknbmdkefcinaaGreatDoor.printSwap
