/-
  What is proved here: part 4 of the road to the claim (Pr2, Pr3, Own, MayEq2, Pr4, Ps1, Ps2, PrMay, Pr5, Pr6, Pr7, Ps3, Ps4, Ps5, Pr8, Ps6, Ps7, PLen, Fits1, Fits2, Some, Toks, Toks2, Swap1).
  No conditions.
-/
import Derived.Test.YtcknbmdkefcinaaGreatDoorPzS3

set_option linter.unusedSimpArgs false
set_option linter.unusedVariables false

/-! Pr2 -/

namespace Go.Abs

set_option maxRecDepth 8000
open Go.Proofs

def marksS : List Str → Str
 | [] => []
 | s :: l => s ++ [58, 32] ++ marksS l
theorem marksS_len : ∀ {l : List Str}, (∀ t ∈ l, t.length ≤ 8) → (marksS l).length ≤ 10 * l.length
 | [], _ => Nat.le_refl _
 | s :: l, h => by
   have := h s (List.mem_cons_self ..)
   have := marksS_len fun t m => h t (List.mem_cons_of_mem _ m)
   simp only [marksS, List.length_append, List.length_cons, List.length_nil]; omega

theorem pref_s (b : Bool) (s : St) : Fun Tryz.prog n_print_ref [.bool b] s (.str (if b then [114, 101, 102, 32] else [])) s := by
 refine Fun.pure ?_ rfl rfl s
 unfold S0
 cases b
 · refine Fun.go has_print_ref rfl fun B Q hB hQ => ?_
   have ⟨hH, hJ, hY, hZ⟩ := H4_
   repeat' (first
 | simp only [go_sem, hH, hJ, hY, hZ]
 | (with_reducible first | refine kT_ fun hc => ?_ | refine kF_ fun hc => ?_ | refine kS_ (fun hc => ?_) fun hc => ?_) <;> (try simp only [hc, bs, ↓reduceIte] at h) <;> try simp only [hc]
 | (with_reducible refine lA_ hQ ?_; exact lY_)
 | (cases h; done))
 · refine Fun.go has_print_ref rfl fun B Q hB hQ => ?_
   have ⟨hH, hJ, hY, hZ⟩ := H4_
   repeat' (first
 | simp only [go_sem, hH, hJ, hY, hZ]
 | (with_reducible first | refine kT_ fun hc => ?_ | refine kF_ fun hc => ?_ | refine kS_ (fun hc => ?_) fun hc => ?_) <;> (try simp only [hc, bs, ↓reduceIte] at h) <;> try simp only [hc]
 | (with_reducible refine lA_ hQ ?_; exact lY_)
 | (cases h; done))

theorem pmarks_s {l : List Str} (hn : l.length ≤ 10000000) (h : ∀ t ∈ l, t.length ≤ 8) (s : St) : Fun Tryz.prog n_print_marks [.slice .shared 1 (l.map encStr)] s (.str (marksS l)) s := by
 refine Fun.pure ?_ (by simp [D.oks, D.ok, okrStr, Tag.ok]) rfl s
 unfold S0
 generalize hR : marksS l = R
 have hlen := marksS_len h
 rw [hR] at hlen
 refine Fun.go has_print_marks rfl fun B Q hB hQ => ?_
 have ⟨hH, hJ, hY, hZ⟩ := H4_
 repeat' (first
 | simp only [go_sem, hH, hJ, hY, hZ]
 | (with_reducible first | refine kT_ fun hc => ?_ | refine kF_ fun hc => ?_ | refine kS_ (fun hc => ?_) fun hc => ?_) <;> (try simp only [hc, bs, ↓reduceIte] at h) <;> try simp only [hc]
 | (with_reducible refine lA_ hQ ?_; exact lY_)
 | (cases h; done))
 refine rL_ 1 0 (SemL.ind (ι := List Str × Nat × Str) (fun i => l.drop i.2.1 = i.1 ∧ i.2.2 ++ marksS i.1 = R) (fun i => i.1.length)
   (fun i => [(3, .str i.2.2), (6, .slice .shared 1 (l.map encStr)), (7, .int .i64 (l.length : Int)), (8, .int .i64 (i.2.1 : Int))]) (fun i => ⟨[], []⟩) ?_ (l, 0, []) ⟨rfl, hR⟩)
 rintro ⟨rest, k, acc⟩ ⟨h1, h2⟩ IH
 dsimp only at h1 h2
 cases rest with
 | nil =>
   have hH := drop_nil h1
   simp only [marksS, List.append_nil] at h2
   repeat' (first
 | simp only [go_sem, hH, hJ, hY, hZ, h2]
 | (with_reducible first | refine kT_ fun hc => ?_ | refine kF_ fun hc => ?_ | refine kS_ (fun hc => ?_) fun hc => ?_) <;> (try simp only [hc, bs, ↓reduceIte] at h) <;> try simp only [hc]
 | (with_reducible refine lA_ hQ ?_; (try cases h); simp only [resL, oneD, sI_, eL_, go_sem, hH, hJ, hY, hZ, h2]; try exact lE_)
 | (cases h; done))
 | cons t rest =>
   obtain ⟨hJ, g2, hH, g4⟩ := drop_cons h1
   have hY : k < 4611686018427387904 := by omega
   have w1 : IntKind.wrap .i64 ((k : Int) + 1) = ((k + 1 : Nat) : Int) := by rw [wrap_ok] <;> omega
   have hal : acc.length + t.length + 2 ≤ R.length := by rw [← h2]; simp only [marksS, List.length_append, List.length_cons, List.length_nil]; omega
   have m1 : t.length + 1 + 1 ≤ maxStr := by unfold maxStr; omega
   have m2 : acc.length + (t.length + 1 + 1) ≤ maxStr := by unfold maxStr; omega
   repeat' (first
 | simp only [go_sem, hH, hJ, hY, hZ, w1, m1, m2]
 | (with_reducible first | refine kT_ fun hc => ?_ | refine kF_ fun hc => ?_ | refine kS_ (fun hc => ?_) fun hc => ?_) <;> (try simp only [hc, bs, ↓reduceIte] at h) <;> try simp only [hc]
 | (with_reducible refine lA_ hQ ?_; (try cases h); simp only [resL, oneD, sI_, eL_, go_sem, hH, hJ, hY, hZ, w1, m1, m2]; try exact lE_)
 | (cases h; done))
   refine rL_ 1 0 (IH (rest, k + 1, acc ++ (t ++ [58, 32])) ⟨g2, by rw [← h2]; simp [marksS]⟩ (by simp))

/-! ### Plain statements -/

def argS (a : Ar) : Str := if a.ref then [114, 101, 102, 32] ++ a.name else prE 0 a.x
def callS (name proc : Str) (args : List Ar) : Str := (if name = [] then [] else name ++ [32, 61, 32]) ++ (proc ++ [40] ++ Lib.join (args.map argS) [44, 32] ++ [41])
def plainS (kind : Int) (name proc : Str) (x : Ex) (has : Bool) (args : List Ar) : Str :=
 if kind = 1 then name ++ [32, 61, 32] ++ prE 0 x else if kind = 2 then [114, 101, 97, 100, 32] ++ name else if kind = 3 then [112, 114, 105, 110, 116, 32] ++ prE 0 x else if kind = 7 then [98, 114, 101, 97, 107] else if kind = 8 then [99, 111, 110, 116, 105, 110, 117, 101]
 else if kind = 10 then [103, 111, 116, 111, 32] ++ name else if kind = 9 then (if has then [114, 101, 116, 117, 114, 110, 32] ++ prE 0 x else [114, 101, 116, 117, 114, 110]) else callS name proc args

structure Sm.PrO (s : Sm) : Prop where
 x : s.hasX = true → FormI s.x
 lab : ∀ t ∈ s.labels, t.length ≤ 8
 name : s.name.length ≤ 8
 proc : s.proc.length ≤ 8
 args : ∀ a ∈ s.args, a.name.length ≤ 8 ∧ (a.ref = false → FormI a.x)
 kind : 1 ≤ s.kind ∧ s.kind ≤ 10
 els : s.kind = 6 → s.els = []

theorem join_len (sep : Str) : ∀ l : List Str, (Lib.join l sep).length ≤ (l.map (·.length)).sum + sep.length * l.length
 | [] => by simp [Lib.join]
 | [a] => by simp [Lib.join, List.intercalate]
 | a :: b :: l => by
   have := join_len sep (b :: l)
   simp only [Lib.join, List.intercalate_cons_cons, List.length_append, List.map_cons, List.sum_cons, List.length_cons, Nat.mul_add] at this ⊢
   omega

theorem argsS_len : ∀ {l : List Ar}, (∀ a ∈ l, a.name.length ≤ 8 ∧ (a.ref = false → FormI a.x)) → ((l.map argS).map (·.length)).sum ≤ 25 * Ar.sizes l
 | [], _ => by simp
 | a :: l, h => by
   have h1 := h a (List.mem_cons_self ..)
   have := argsS_len fun t m => h t (List.mem_cons_of_mem _ m)
   have h2 : (argS a).length ≤ 25 * (1 + a.x.size) := by
     unfold argS
     split
     · simp only [List.length_append, List.length_cons, List.length_nil]; omega
     · rename_i c
       have := prE_len (h1.2 (by simpa using c)) 0
       have := nodes_size a.x.size a.x (Nat.le_refl _)
       omega
   simp only [List.map_cons, List.sum_cons, Ar.sizes] at this ⊢
   omega

theorem args_len {l : List Ar} (h : ∀ a ∈ l, a.name.length ≤ 8 ∧ (a.ref = false → FormI a.x)) : (Lib.join (l.map argS) [44, 32]).length ≤ 27 * Ar.sizes l := by
 have h1 := join_len [44, 32] (l.map argS)
 have h2 := argsS_len h
 have h3 := Ar.sizes_len l
 simp only [List.length_map, List.length_cons, List.length_nil] at h1 h3
 omega

theorem pplain_s {s : Sm} (h : s.PrO) (hs : s.size ≤ 1000000) (st : St) : Fun Tryz.prog n_print_plain [.agg (encSm s)] st (.str (plainS s.kind s.name s.proc s.x s.has s.args)) st := by
 refine Fun.pure ?_ (by simp [D.oks, D.ok, okSm]) rfl st
 obtain ⟨id, kind, labels, name, proc, x, has, args, thn, els⟩ := s
 obtain ⟨hx, _, hname, hproc, hargs, _, _⟩ := h
 dsimp only at hx hname hproc hargs ⊢
 simp only [Sm.size] at hs
 have hns := nodes_size x.size x (Nat.le_refl _)
 have hxn : x.nodes ≤ 1000000 := by omega
 unfold S0
 unfold plainS
 simp only [← beq_iff_eq (α := Int)]
 have hal := args_len hargs
 have k1 : (kind == 1) = true → FormI x := fun k => hx (by simp [Sm.hasX, k])
 have k3 : (kind == 3) = true → FormI x := fun k => hx (by simp [Sm.hasX, k])
 have k9 : (kind == 9) = true → has = true → FormI x := fun k h => hx (by simp [Sm.hasX, k, h])
 cases c1 : kind == 1 with
 | true =>
   have e1 := fun s => pexpr_s (k1 c1) hxn (least := 0) s
   simp only [encEx_eq] at e1
   have := prE_len (k1 c1) 0
   have m1 : name.length + 1 + 1 + 1 ≤ maxStr := by unfold maxStr; omega
   have m2 : name.length + 1 + 1 + 1 + (prE 0 x).length ≤ maxStr := by unfold maxStr; omega
   refine Fun.go has_print_plain rfl fun B Q hB hQ => ?_
   have ⟨hH, hJ, hY, hZ⟩ := H4_
   repeat' (first
 | simp only [go_sem, hH, hJ, hY, hZ, c1, m1, m2]
 | (with_reducible refine CU (e1 _) ?_)
 | (with_reducible first | refine kT_ fun hc => ?_ | refine kF_ fun hc => ?_ | refine kS_ (fun hc => ?_) fun hc => ?_) <;> (try simp only [hc, bs, ↓reduceIte] at h) <;> try simp only [hc]
 | (with_reducible refine lA_ hQ ?_; (try cases h); simp only [resL, oneD, sI_, eL_, go_sem, hH, hJ, hY, hZ, c1, m1, m2]; try exact lE_)
 | (cases h; replace h := hr; clear hr; (try simp only [bs, ↓reduceIte] at h))
 | (cases h; done))
 | false =>
 cases c2 : kind == 2 with
 | true =>
   have m1 : (5 : Nat) + name.length ≤ maxStr := by unfold maxStr; omega
   refine Fun.go has_print_plain rfl fun B Q hB hQ => ?_
   have ⟨hH, hJ, hY, hZ⟩ := H4_
   repeat' (first
 | simp only [go_sem, hH, hJ, hY, hZ, c1, c2, m1]
 | (with_reducible first | refine kT_ fun hc => ?_ | refine kF_ fun hc => ?_ | refine kS_ (fun hc => ?_) fun hc => ?_) <;> (try simp only [hc, bs, ↓reduceIte] at h) <;> try simp only [hc]
 | (with_reducible refine lA_ hQ ?_; (try cases h); simp only [resL, oneD, sI_, eL_, go_sem, hH, hJ, hY, hZ, c1, c2, m1]; try exact lE_)
 | (cases h; replace h := hr; clear hr; (try simp only [bs, ↓reduceIte] at h))
 | (cases h; done))
 | false =>
 cases c3 : kind == 3 with
 | true =>
   have e1 := fun s => pexpr_s (k3 c3) hxn (least := 0) s
   simp only [encEx_eq] at e1
   have := prE_len (k3 c3) 0
   have m1 : (6 : Nat) + (prE 0 x).length ≤ maxStr := by unfold maxStr; omega
   refine Fun.go has_print_plain rfl fun B Q hB hQ => ?_
   have ⟨hH, hJ, hY, hZ⟩ := H4_
   repeat' (first
 | simp only [go_sem, hH, hJ, hY, hZ, c1, c2, c3, m1]
 | (with_reducible refine CU (e1 _) ?_)
 | (with_reducible first | refine kT_ fun hc => ?_ | refine kF_ fun hc => ?_ | refine kS_ (fun hc => ?_) fun hc => ?_) <;> (try simp only [hc, bs, ↓reduceIte] at h) <;> try simp only [hc]
 | (with_reducible refine lA_ hQ ?_; (try cases h); simp only [resL, oneD, sI_, eL_, go_sem, hH, hJ, hY, hZ, c1, c2, c3, m1]; try exact lE_)
 | (cases h; replace h := hr; clear hr; (try simp only [bs, ↓reduceIte] at h))
 | (cases h; done))
 | false =>
 cases c7 : kind == 7 with
 | true =>
   refine Fun.go has_print_plain rfl fun B Q hB hQ => ?_
   have ⟨hH, hJ, hY, hZ⟩ := H4_
   repeat' (first
 | simp only [go_sem, hH, hJ, hY, hZ, c1, c2, c3, c7]
 | (with_reducible first | refine kT_ fun hc => ?_ | refine kF_ fun hc => ?_ | refine kS_ (fun hc => ?_) fun hc => ?_) <;> (try simp only [hc, bs, ↓reduceIte] at h) <;> try simp only [hc]
 | (with_reducible refine lA_ hQ ?_; (try cases h); simp only [resL, oneD, sI_, eL_, go_sem, hH, hJ, hY, hZ, c1, c2, c3, c7]; try exact lE_)
 | (cases h; replace h := hr; clear hr; (try simp only [bs, ↓reduceIte] at h))
 | (cases h; done))
 | false =>
 cases c8 : kind == 8 with
 | true =>
   refine Fun.go has_print_plain rfl fun B Q hB hQ => ?_
   have ⟨hH, hJ, hY, hZ⟩ := H4_
   repeat' (first
 | simp only [go_sem, hH, hJ, hY, hZ, c1, c2, c3, c7, c8]
 | (with_reducible first | refine kT_ fun hc => ?_ | refine kF_ fun hc => ?_ | refine kS_ (fun hc => ?_) fun hc => ?_) <;> (try simp only [hc, bs, ↓reduceIte] at h) <;> try simp only [hc]
 | (with_reducible refine lA_ hQ ?_; (try cases h); simp only [resL, oneD, sI_, eL_, go_sem, hH, hJ, hY, hZ, c1, c2, c3, c7, c8]; try exact lE_)
 | (cases h; replace h := hr; clear hr; (try simp only [bs, ↓reduceIte] at h))
 | (cases h; done))
 | false =>
 cases c10 : kind == 10 with
 | true =>
   have m1 : (5 : Nat) + name.length ≤ maxStr := by unfold maxStr; omega
   refine Fun.go has_print_plain rfl fun B Q hB hQ => ?_
   have ⟨hH, hJ, hY, hZ⟩ := H4_
   repeat' (first
 | simp only [go_sem, hH, hJ, hY, hZ, c1, c2, c3, c7, c8, c10, m1]
 | (with_reducible first | refine kT_ fun hc => ?_ | refine kF_ fun hc => ?_ | refine kS_ (fun hc => ?_) fun hc => ?_) <;> (try simp only [hc, bs, ↓reduceIte] at h) <;> try simp only [hc]
 | (with_reducible refine lA_ hQ ?_; (try cases h); simp only [resL, oneD, sI_, eL_, go_sem, hH, hJ, hY, hZ, c1, c2, c3, c7, c8, c10, m1]; try exact lE_)
 | (cases h; replace h := hr; clear hr; (try simp only [bs, ↓reduceIte] at h))
 | (cases h; done))
 | false =>
 cases c9 : kind == 9 with
 | true =>
   cases hh : has with
   | true =>
     have e1 := fun s => pexpr_s (k9 c9 hh) hxn (least := 0) s
     simp only [encEx_eq] at e1
     have := prE_len (k9 c9 hh) 0
     have m1 : (7 : Nat) + (prE 0 x).length ≤ maxStr := by unfold maxStr; omega
     refine Fun.go has_print_plain rfl fun B Q hB hQ => ?_
     have ⟨hH, hJ, hY, hZ⟩ := H4_
     repeat' (first
 | simp only [go_sem, hH, hJ, hY, hZ, c1, c2, c3, c7, c8, c10, c9, m1]
 | (with_reducible refine CU (e1 _) ?_)
 | (with_reducible first | refine kT_ fun hc => ?_ | refine kF_ fun hc => ?_ | refine kS_ (fun hc => ?_) fun hc => ?_) <;> (try simp only [hc, bs, ↓reduceIte] at h) <;> try simp only [hc]
 | (with_reducible refine lA_ hQ ?_; (try cases h); simp only [resL, oneD, sI_, eL_, go_sem, hH, hJ, hY, hZ, c1, c2, c3, c7, c8, c10, c9, m1]; try exact lE_)
 | (cases h; replace h := hr; clear hr; (try simp only [bs, ↓reduceIte] at h))
 | (cases h; done))
   | false =>
     refine Fun.go has_print_plain rfl fun B Q hB hQ => ?_
     have ⟨hH, hJ, hY, hZ⟩ := H4_
     repeat' (first
 | simp only [go_sem, hH, hJ, hY, hZ, c1, c2, c3, c7, c8, c10, c9]
 | (with_reducible first | refine kT_ fun hc => ?_ | refine kF_ fun hc => ?_ | refine kS_ (fun hc => ?_) fun hc => ?_) <;> (try simp only [hc, bs, ↓reduceIte] at h) <;> try simp only [hc]
 | (with_reducible refine lA_ hQ ?_; (try cases h); simp only [resL, oneD, sI_, eL_, go_sem, hH, hJ, hY, hZ, c1, c2, c3, c7, c8, c10, c9]; try exact lE_)
 | (cases h; replace h := hr; clear hr; (try simp only [bs, ↓reduceIte] at h))
 | (cases h; done))
 | false =>
   have hjl : (args.map argS).length ≤ 140737488355328 := by simp; have := Ar.sizes_len args; omega
   have hjm : (Lib.join (args.map argS) [44, 32]).length ≤ 140737488355328 := by omega
   have ej := fun s => Join_s (l := args.map argS) (sep := [44, 32]) hjl hjm (.tok 0) s
   have asz := Ar.sizes_len args
   have m1 : proc.length + 1 ≤ maxStr := by unfold maxStr; omega
   have m2 : proc.length + 1 + (Lib.join (args.map argS) [44, 32]).length ≤ maxStr := by unfold maxStr; omega
   have m3 : proc.length + 1 + (Lib.join (args.map argS) [44, 32]).length + 1 ≤ maxStr := by unfold maxStr; omega
   have m4 : name.length + 1 + 1 + 1 ≤ maxStr := by unfold maxStr; omega
   have m5 : name.length + 1 + 1 + 1 + (proc.length + 1 + (Lib.join (args.map argS) [44, 32]).length + 1) ≤ maxStr := by unfold maxStr; omega
   refine Fun.go has_print_plain rfl fun B Q hB hQ => ?_
   have ⟨hH, hJ, hY, hZ⟩ := H4_
   repeat' (first
 | simp only [go_sem, hH, hJ, hY, hZ, c1, c2, c3, c7, c8, c10, c9]
 | (with_reducible first | refine kT_ fun hc => ?_ | refine kF_ fun hc => ?_ | refine kS_ (fun hc => ?_) fun hc => ?_) <;> (try simp only [hc, bs, ↓reduceIte] at h) <;> try simp only [hc]
 | (with_reducible refine lA_ hQ ?_; (try cases h); simp only [resL, oneD, sI_, eL_, go_sem, hH, hJ, hY, hZ, c1, c2, c3, c7, c8, c10, c9]; try exact lE_)
 | (cases h; replace h := hr; clear hr; (try simp only [bs, ↓reduceIte] at h))
 | (cases h; done))
   refine SemL.tokT 3 1 rfl ?_
   simp only [go_sem, hH, hJ, hY, hZ]
   refine rL_ 1 1 (SemL.ind (ι := List Ar × Nat × List Str) (fun i => args.drop i.2.1 = i.1 ∧ i.2.2 ++ i.1.map argS = args.map argS ∧ i.2.2.length = i.2.1) (fun i => i.1.length)
     (fun i => [(1, .ptr 0 0), (3, .slice (.tok 0) 1 (i.2.2.map encStr)), (47, .slice .shared 6 (args.map encAr)), (48, .int .i64 (args.length : Int)), (49, .int .i64 (i.2.1 : Int))]) (fun i => ⟨[encSm ⟨id, kind, labels, name, proc, x, has, args, thn, els⟩], [some i.2.1]⟩) ?_ (args, 0, []) ⟨rfl, rfl, rfl⟩)
   rintro ⟨rest, k, acc⟩ ⟨h1, h2, h3⟩ IH
   dsimp only at h1 h2 h3
   cases rest with
   | nil =>
     have hH := drop_nil h1
     simp only [List.map_nil, List.append_nil] at h2
     subst h2
     cases cn : name == [] with
     | true =>
       have ec : callS name proc args = proc ++ [40] ++ Lib.join (args.map argS) [44, 32] ++ [41] := by rw [callS, if_pos (by simpa using cn), List.nil_append]
       repeat' (first
 | simp only [go_sem, hH, hJ, hY, hZ, m1, m2, m3, cn, ec]
 | (with_reducible refine CU (ej _) ?_)
 | (with_reducible first | refine kT_ fun hc => ?_ | refine kF_ fun hc => ?_ | refine kS_ (fun hc => ?_) fun hc => ?_) <;> (try simp only [hc, bs, ↓reduceIte] at h) <;> try simp only [hc]
 | (with_reducible refine lA_ hQ ?_; (try cases h); simp only [resL, oneD, sI_, eL_, go_sem, hH, hJ, hY, hZ, m1, m2, m3, cn, ec]; try exact lE_)
 | (cases h; replace h := hr; clear hr; (try simp only [bs, ↓reduceIte] at h))
 | (cases h; done))
     | false =>
       have ec : callS name proc args = name ++ [32, 61, 32] ++ (proc ++ [40] ++ Lib.join (args.map argS) [44, 32] ++ [41]) := by rw [callS, if_neg (by simpa using cn)]
       repeat' (first
 | simp only [go_sem, hH, hJ, hY, hZ, m1, m2, m3, m4, m5, cn, ec]
 | (with_reducible refine CU (ej _) ?_)
 | (with_reducible first | refine kT_ fun hc => ?_ | refine kF_ fun hc => ?_ | refine kS_ (fun hc => ?_) fun hc => ?_) <;> (try simp only [hc, bs, ↓reduceIte] at h) <;> try simp only [hc]
 | (with_reducible refine lA_ hQ ?_; (try cases h); simp only [resL, oneD, sI_, eL_, go_sem, hH, hJ, hY, hZ, m1, m2, m3, m4, m5, cn, ec]; try exact lE_)
 | (cases h; replace h := hr; clear hr; (try simp only [bs, ↓reduceIte] at h))
 | (cases h; done))
   | cons a rest =>
     obtain ⟨hJ, g2, hH, g4⟩ := drop_cons h1
     have hmem := List.mem_of_getElem? hJ
     obtain ⟨ha1, ha2⟩ := hargs a hmem
     have hsz := Ar.sizes_mem hmem
     have han := nodes_size a.x.size a.x (Nat.le_refl _)
     have hk : k < 4611686018427387904 := by omega
     have w1 : IntKind.wrap .i64 ((k : Int) + 1) = ((k + 1 : Nat) : Int) := by rw [wrap_ok] <;> omega
     have hY : (k + 1) * 17 ≤ maxStr := by unfold maxStr; omega
     cases hr : a.ref with
     | true =>
       have m1 : (4 : Nat) + a.name.length ≤ maxStr := by unfold maxStr; omega
       have ea : argS a = [114, 101, 102, 32] ++ a.name := by simp only [argS, hr, ↓reduceIte]
       repeat' (first
 | simp only [go_sem, hH, hJ, hY, hZ, hr, m1, w1, h3]
 | (with_reducible refine CU (pref_s _ _) ?_)
 | (with_reducible first | refine kT_ fun hc => ?_ | refine kF_ fun hc => ?_ | refine kS_ (fun hc => ?_) fun hc => ?_) <;> (try simp only [hc, bs, ↓reduceIte] at h) <;> try simp only [hc]
 | (with_reducible refine lA_ hQ ?_; (try cases h); simp only [resL, oneD, sI_, eL_, go_sem, hH, hJ, hY, hZ, hr, m1, w1, h3]; try exact lE_)
 | (cases h; replace h := hr; clear hr; (try simp only [bs, ↓reduceIte] at h))
 | (cases h; done))
       refine rl_ 1 1 ?_ ?_ (IH (rest, k + 1, acc ++ [argS a]) ⟨g2, by rw [← h2]; simp, by simp [h3]⟩ (by simp))
       · (simp only [go_sem, hH, hJ, hY, hZ, ea, List.cons_append, List.nil_append]; try exact lF_)
       · (simp only [go_sem, hH, hJ, hY, hZ, ea, List.cons_append, List.nil_append]; try exact lF_)
     | false =>
       have e1 := fun s => pexpr_s (ha2 hr) (by omega) (least := 0) s
       have ea : argS a = prE 0 a.x := by simp only [argS, hr, Bool.false_eq_true, ↓reduceIte]
       repeat' (first
 | simp only [go_sem, hH, hJ, hY, hZ, hr, w1, h3]
 | (with_reducible refine CU (e1 _) ?_)
 | (with_reducible first | refine kT_ fun hc => ?_ | refine kF_ fun hc => ?_ | refine kS_ (fun hc => ?_) fun hc => ?_) <;> (try simp only [hc, bs, ↓reduceIte] at h) <;> try simp only [hc]
 | (with_reducible refine lA_ hQ ?_; (try cases h); simp only [resL, oneD, sI_, eL_, go_sem, hH, hJ, hY, hZ, hr, w1, h3]; try exact lE_)
 | (cases h; replace h := hr; clear hr; (try simp only [bs, ↓reduceIte] at h))
 | (cases h; done))
       refine rl_ 1 1 ?_ ?_ (IH (rest, k + 1, acc ++ [argS a]) ⟨g2, by rw [← h2]; simp, by simp [h3]⟩ (by simp))
       · (simp only [go_sem, hH, hJ, hY, hZ, ea, List.cons_append, List.nil_append]; try exact lF_)
       · (simp only [go_sem, hH, hJ, hY, hZ, ea, List.cons_append, List.nil_append]; try exact lF_)

end Go.Abs

/-! Pr3 -/

namespace Go.Abs

set_option maxRecDepth 8000
open Go.Proofs

mutual
def rowS (inn : Nat) : Sm → Str
 | ⟨id, kind, labels, name, proc, x, has, args, thn, els⟩ =>
   if kind = 6 then lineS inn (marksS labels ++ [119, 104, 105, 108, 101, 32, 40] ++ prE 0 x ++ [41, 32, 123]) ++ rowsS (inn + 1) thn ++ lineS inn [125]
   else if kind = 5 then lineS inn (marksS labels ++ [105, 102, 32, 40] ++ prE 0 x ++ [41, 32, 123]) ++ rowsS (inn + 1) thn ++ (if els.length = 0 then [] else lineS inn [125, 32, 101, 108, 115, 101, 32, 123] ++ rowsS (inn + 1) els) ++ lineS inn [125]
   else lineS inn (marksS labels ++ plainS kind name proc x has args ++ [59])
def rowsS (inn : Nat) : List Sm → Str
 | [] => []
 | s :: l => rowS inn s ++ rowsS inn l
end
theorem rowS_eq (inn : Nat) (s : Sm) : rowS inn s = if s.kind = 6 then lineS inn (marksS s.labels ++ [119, 104, 105, 108, 101, 32, 40] ++ prE 0 s.x ++ [41, 32, 123]) ++ rowsS (inn + 1) s.thn ++ lineS inn [125]
   else if s.kind = 5 then lineS inn (marksS s.labels ++ [105, 102, 32, 40] ++ prE 0 s.x ++ [41, 32, 123]) ++ rowsS (inn + 1) s.thn ++ (if s.els.length = 0 then [] else lineS inn [125, 32, 101, 108, 115, 101, 32, 123] ++ rowsS (inn + 1) s.els) ++ lineS inn [125]
   else lineS inn (marksS s.labels ++ plainS s.kind s.name s.proc s.x s.has s.args ++ [59]) := by
 cases s; simp only [rowS]

mutual
def Sm.PrR (inn : Nat) : Sm → Prop
 | ⟨id, kind, labels, name, proc, x, has, args, thn, els⟩ => Sm.PrO ⟨id, kind, labels, name, proc, x, has, args, thn, els⟩ ∧ inn ≤ 12 ∧ Sm.PrRs (inn + 1) thn ∧ Sm.PrRs (inn + 1) els
def Sm.PrRs (inn : Nat) : List Sm → Prop
 | [] => True
 | s :: l => s.PrR inn ∧ Sm.PrRs inn l
end
theorem PrR_eq (inn : Nat) (s : Sm) : s.PrR inn ↔ s.PrO ∧ inn ≤ 12 ∧ Sm.PrRs (inn + 1) s.thn ∧ Sm.PrRs (inn + 1) s.els := by cases s; simp only [Sm.PrR]
theorem PrRs_mem {inn : Nat} {s : Sm} : ∀ {l : List Sm}, Sm.PrRs inn l → s ∈ l → s.PrR inn
 | y :: l, h, m => by
   simp only [Sm.PrRs] at h
   rcases List.mem_cons.1 m with rfl | m
   · exact h.1
   · exact PrRs_mem h.2 m

theorem plainS_len {s : Sm} (h : s.PrO) : (plainS s.kind s.name s.proc s.x s.has s.args).length ≤ 25 * s.x.size + 27 * Ar.sizes s.args + 30 := by
 obtain ⟨hx, _, hname, hproc, hargs, _, _⟩ := h
 have hal := args_len hargs
 have hns := nodes_size s.x.size s.x (Nat.le_refl _)
 unfold plainS
 split
 · rename_i k
   have := prE_len (hx (by simp [Sm.hasX, k])) 0
   simp only [List.length_append, List.length_cons, List.length_nil]; omega
 split
 · simp only [List.length_append, List.length_cons, List.length_nil]; omega
 split
 · rename_i k
   have := prE_len (hx (by simp [Sm.hasX, k])) 0
   simp only [List.length_append, List.length_cons, List.length_nil]; omega
 split
 · simp only [List.length_append, List.length_cons, List.length_nil]; omega
 split
 · simp only [List.length_append, List.length_cons, List.length_nil]; omega
 split
 · simp only [List.length_append, List.length_cons, List.length_nil]; omega
 split
 · rename_i k
   split
   · rename_i kh
     have := prE_len (hx (by simp [Sm.hasX, k, kh])) 0
     simp only [List.length_append, List.length_cons, List.length_nil]; omega
   · simp only [List.length_append, List.length_cons, List.length_nil]; omega
 · unfold callS
   split <;> simp only [List.length_append, List.length_cons, List.length_nil] <;> omega

mutual
theorem rowS_len : ∀ {inn : Nat} (s : Sm), s.PrR inn → (rowS inn s).length ≤ 200 * s.size
 | inn, ⟨id, kind, labels, name, proc, x, has, args, thn, els⟩, h => by
   obtain ⟨ho, hi, ht, he⟩ := (PrR_eq _ _).1 h
   have h1 := rowsS_len thn ht
   have h2 := rowsS_len els he
   have h3 := marksS_len ho.lab
   have h4 := plainS_len ho
   have h6 := nodes_size x.size x (Nat.le_refl _)
   dsimp only at h3 h4
   simp only [rowS, Sm.size]
   split
   · rename_i k
     have h5 := prE_len (ho.x (by simp [Sm.hasX, k])) 0
     dsimp only at h5
     simp only [List.length_append, List.length_cons, List.length_nil, lineS_len]; omega
   split
   · rename_i k
     have h5 := prE_len (ho.x (by simp [Sm.hasX, k])) 0
     dsimp only at h5
     split <;> simp only [List.length_append, List.length_cons, List.length_nil, lineS_len] <;> omega
   · simp only [List.length_append, List.length_cons, List.length_nil, lineS_len]; omega
theorem rowsS_len : ∀ {inn : Nat} (l : List Sm), Sm.PrRs inn l → (rowsS inn l).length ≤ 200 * Sm.sizes l
 | _, [], _ => by simp [rowsS, Sm.sizes]
 | inn, s :: l, h => by
   simp only [Sm.PrRs] at h
   have h1 := rowS_len s h.1
   have h2 := rowsS_len l h.2
   simp only [rowsS, Sm.sizes, List.length_append]; omega
end

/-! ### The walk -/

def slen (l : Str) : Nat := l.length
theorem Fun.bldz {P : Program} {f : Nat} {args : List D} {l l' : Str} {d : D} (h : Fun P f (.ptr 0 0 :: args) ⟨[bobj 0 0 l], [some (slen l)]⟩ d ⟨[bobj 0 0 l'], [some (slen l')]⟩) (ha : D.oks 0 0 args = true) (hd : D.ok 0 0 d = true)
   {s : St} {o t : Nat} (ho : s.objs[o]? = some (bobj o t l)) (ht : s.toks[t]? = some (some (slen l))) : Fun P f (.ptr o 0 :: args) s d ⟨s.objs.set o (bobj o t l'), s.toks.set t (some (slen l'))⟩ := Fun.bld h ha hd ho ht
theorem line_z {l : Str} (n : Nat) (m : Str) (h : l.length + n + m.length + 1 ≤ 549755813888) {s : St} {o t : Nat} (ho : s.objs[o]? = some (bobj o t l)) (ht : s.toks[t]? = some (some (slen l))) :
   Fun Tryz.prog n_print_writer_line [.ptr o 0, .int .i64 n, .str m] s (.tuple []) ⟨s.objs.set o (bobj o t (l ++ lineS n m)), s.toks.set t (some (slen (l ++ lineS n m)))⟩ := (line_0 m n l h).bld rfl rfl ho ht

theorem prows_n : ∀ (m : Nat) (l : List Sm), Sm.sizes l ≤ m → Sm.sizes l ≤ 1000000 → ∀ (inn : Nat), Sm.PrRs inn l → ∀ acc : Str, acc.length + 200 * Sm.sizes l ≤ 540000000000 →
   Fun Tryz.prog n_print_writer_rows [.ptr 0 0, .slice .shared 13 (l.map encSm), .int .i64 inn] ⟨[bobj 0 0 acc], [some (slen acc)]⟩ (.tuple []) ⟨[bobj 0 0 (acc ++ rowsS inn l)], [some (slen (acc ++ rowsS inn l))]⟩ := by
 intro m
 induction m with
 | zero =>
   intro l h hs inn hp acc hb
   cases l with
   | nil =>
     have z : decide ((0 : Int) < 0) = false := rfl
     simp only [rowsS, List.append_nil]
     refine Fun.go has_print_writer_rows rfl fun B Q hB hQ => ?_
     have ⟨hH, hJ, hY, hZ⟩ := H4_
     repeat' (first
 | simp only [go_sem, hH, hJ, hY, hZ, z]
 | (with_reducible refine SemL.onceW ?_)
 | (with_reducible first | refine kT_ fun hc => ?_ | refine kF_ fun hc => ?_ | refine kS_ (fun hc => ?_) fun hc => ?_) <;> (try simp only [hc, bs, ↓reduceIte] at h) <;> try simp only [hc]
 | (with_reducible refine lA_ hQ ?_; (try cases h); simp only [resL, oneD, sI_, eL_, go_sem, hH, hJ, hY, hZ, z]; try exact lE_)
 | (cases h; done))
   | cons s l => simp only [Sm.sizes] at h; omega
 | succ m ih =>
   intro l h hs inn hp acc0 hb
   generalize hR : acc0 ++ rowsS inn l = R
   have hlen := Sm.sizes_len l
   refine Fun.go has_print_writer_rows rfl fun B Q hB hQ => ?_
   have ⟨hH, hJ, hY, hZ⟩ := H4_
   repeat' (first
 | simp only [go_sem, hH, hJ, hY, hZ]
 | (with_reducible first | refine kT_ fun hc => ?_ | refine kF_ fun hc => ?_ | refine kS_ (fun hc => ?_) fun hc => ?_) <;> (try simp only [hc, bs, ↓reduceIte] at h) <;> try simp only [hc]
 | (with_reducible refine lA_ hQ ?_; exact lY_)
 | (cases h; done))
   refine rL_ 1 1 (SemL.ind (ι := List Sm × Nat × Str) (fun i => l.drop i.2.1 = i.1 ∧ i.2.2 ++ rowsS inn i.1 = R ∧ i.2.2.length + 200 * Sm.sizes i.1 ≤ 540000000000) (fun i => i.1.length)
     (fun i => [(0, .ptr 0 0), (2, .int .i64 (inn : Int)), (9, .slice .shared 13 (l.map encSm)), (10, .int .i64 (l.length : Int)), (11, .int .i64 (i.2.1 : Int))]) (fun i => ⟨[bobj 0 0 i.2.2], [some (slen i.2.2)]⟩) ?_ (l, 0, acc0) ⟨rfl, hR, hb⟩)
   rintro ⟨rest, k, acc⟩ ⟨h1, h2, h3⟩ IH
   dsimp only at h1 h2 h3
   cases rest with
   | nil =>
     have hH := drop_nil h1
     simp only [rowsS, List.append_nil] at h2
     repeat' (first
 | simp only [go_sem, hH, hJ, hY, hZ, h2]
 | (with_reducible first | refine kT_ fun hc => ?_ | refine kF_ fun hc => ?_ | refine kS_ (fun hc => ?_) fun hc => ?_) <;> (try simp only [hc, bs, ↓reduceIte] at h) <;> try simp only [hc]
 | (with_reducible refine lA_ hQ ?_; (try cases h); simp only [resL, oneD, sI_, eL_, go_sem, hH, hJ, hY, hZ, h2]; try exact lE_)
 | (cases h; done))
   | cons s rest =>
     obtain ⟨hJ, g2, hH, g4⟩ := drop_cons h1
     have hmem := List.mem_of_getElem? hJ
     have hsz := Sm.sizes_mem hmem
     have hPR := PrRs_mem hp hmem
     obtain ⟨ho, hin, hpt, hpe⟩ := (PrR_eq _ _).1 hPR
     have hk : k < 4611686018427387904 := by omega
     have hsz2 : s.labels.length + s.x.size + Ar.sizes s.args + Sm.sizes s.thn + Sm.sizes s.els + 1 ≤ s.size := by cases s; simp only [Sm.size]; omega
     have w1 : IntKind.wrap .i64 ((k : Int) + 1) = ((k + 1 : Nat) : Int) := by rw [wrap_ok] <;> omega
     have w2 : IntKind.wrap .i64 ((inn : Int) + 1) = ((inn + 1 : Nat) : Int) := by rw [wrap_ok] <;> omega
     simp only [Sm.sizes] at h3
     have lm := marksS_len ho.lab
     have lp := plainS_len ho
     have lt := rowsS_len s.thn hpt
     have le := rowsS_len s.els hpe
     have ln := nodes_size s.x.size s.x (Nat.le_refl _)
     have em := fun st => pmarks_s (by omega) ho.lab st
     have hrow := rowS_eq inn s
     have lr := rowS_len s hPR
     simp only [rowsS] at h2
     cases c6 : s.kind == 6 with
     | true =>
       have hx : FormI s.x := ho.x (by simp [Sm.hasX, c6])
       have lx := prE_len hx 0
       have ee := fun st => pexpr_s hx (by omega) (least := 0) st
       have b1 : (marksS s.labels).length + 1 + 1 + 1 + 1 + 1 + 1 + 1 ≤ maxStr := by unfold maxStr; omega
       have b2 : (marksS s.labels).length + 1 + 1 + 1 + 1 + 1 + 1 + 1 + (prE 0 s.x).length ≤ maxStr := by unfold maxStr; omega
       have b3 : (marksS s.labels).length + 1 + 1 + 1 + 1 + 1 + 1 + 1 + (prE 0 s.x).length + 1 + 1 + 1 ≤ maxStr := by unfold maxStr; omega
       have e1 := fun st a b => line_z (l := acc) inn (marksS s.labels ++ [119, 104, 105, 108, 101, 32, 40] ++ prE 0 s.x ++ [41, 32, 123]) (by simp only [List.length_append, List.length_cons, List.length_nil]; omega) (s := st) (o := 0) (t := 0) a b
       have e2 := fun st a b => (ih s.thn (by omega) (by omega) (inn + 1) hpt (acc ++ lineS inn (marksS s.labels ++ [119, 104, 105, 108, 101, 32, 40] ++ prE 0 s.x ++ [41, 32, 123])) (by simp only [List.length_append, List.length_cons, List.length_nil, lineS_len]; omega)).bldz (by simp [D.oks, D.ok, okrSm, Tag.ok]) rfl (s := st) (o := 0) (t := 0) a b
       have e3 := fun st a b => line_z (l := acc ++ lineS inn (marksS s.labels ++ [119, 104, 105, 108, 101, 32, 40] ++ prE 0 s.x ++ [41, 32, 123]) ++ rowsS (inn + 1) s.thn) inn [125] (by simp only [List.length_append, List.length_cons, List.length_nil, lineS_len]; omega) (s := st) (o := 0) (t := 0) a b
       rw [if_pos (by simpa using c6)] at hrow
       repeat' (first
 | simp only [go_sem, hH, hJ, hY, hZ, c6, b1, b2, b3, w1, w2]
 | (with_reducible refine CU (em _) ?_)
 | (with_reducible refine CU (ee _) ?_)
 | (with_reducible refine CU (e1 _ (by with_unfolding_all rfl) (by with_unfolding_all rfl)) ?_)
 | (with_reducible refine CU (e2 _ (by with_unfolding_all rfl) (by with_unfolding_all rfl)) ?_)
 | (with_reducible refine CU (e3 _ (by with_unfolding_all rfl) (by with_unfolding_all rfl)) ?_)
 | (with_reducible first | refine kT_ fun hc => ?_ | refine kF_ fun hc => ?_ | refine kS_ (fun hc => ?_) fun hc => ?_) <;> (try simp only [hc, bs, ↓reduceIte] at h) <;> try simp only [hc]
 | (with_reducible refine lA_ hQ ?_; (try cases h); simp only [resL, oneD, sI_, eL_, go_sem, hH, hJ, hY, hZ, c6, b1, b2, b3, w1, w2]; try exact lE_)
 | (cases h; done))
       refine rL_ 1 1 (IH (rest, k + 1, acc ++ lineS inn (marksS s.labels ++ [119, 104, 105, 108, 101, 32, 40] ++ prE 0 s.x ++ [41, 32, 123]) ++ rowsS (inn + 1) s.thn ++ lineS inn [125]) ⟨g2, by rw [← h2, hrow]; simp only [List.append_assoc], by rw [hrow] at lr; simp only [List.length_append] at lr ⊢; omega⟩ (by simp))
     | false =>
     cases c5 : s.kind == 5 with
     | true =>
       have hx : FormI s.x := ho.x (by simp [Sm.hasX, c5])
       have lx := prE_len hx 0
       have ee := fun st => pexpr_s hx (by omega) (least := 0) st
       have b1 : (marksS s.labels).length + 1 + 1 + 1 + 1 ≤ maxStr := by unfold maxStr; omega
       have b2 : (marksS s.labels).length + 1 + 1 + 1 + 1 + (prE 0 s.x).length ≤ maxStr := by unfold maxStr; omega
       have b3 : (marksS s.labels).length + 1 + 1 + 1 + 1 + (prE 0 s.x).length + 1 + 1 + 1 ≤ maxStr := by unfold maxStr; omega
       have e1 := fun st a b => line_z (l := acc) inn (marksS s.labels ++ [105, 102, 32, 40] ++ prE 0 s.x ++ [41, 32, 123]) (by simp only [List.length_append, List.length_cons, List.length_nil]; omega) (s := st) (o := 0) (t := 0) a b
       have e2 := fun st a b => (ih s.thn (by omega) (by omega) (inn + 1) hpt (acc ++ lineS inn (marksS s.labels ++ [105, 102, 32, 40] ++ prE 0 s.x ++ [41, 32, 123])) (by simp only [List.length_append, List.length_cons, List.length_nil, lineS_len]; omega)).bldz (by simp [D.oks, D.ok, okrSm, Tag.ok]) rfl (s := st) (o := 0) (t := 0) a b
       rw [if_neg (by simpa using c6), if_pos (by simpa using c5)] at hrow
       cases ce : decide ((s.els.length : Int) > 0) with
       | true =>
         have ce' : s.els.length ≠ 0 := by have := of_decide_eq_true ce; omega
         rw [if_neg ce'] at hrow
         have e3 := fun st a b => line_z (l := acc ++ lineS inn (marksS s.labels ++ [105, 102, 32, 40] ++ prE 0 s.x ++ [41, 32, 123]) ++ rowsS (inn + 1) s.thn) inn [125, 32, 101, 108, 115, 101, 32, 123] (by simp only [List.length_append, List.length_cons, List.length_nil, lineS_len]; omega) (s := st) (o := 0) (t := 0) a b
         have e4 := fun st a b => (ih s.els (by omega) (by omega) (inn + 1) hpe (acc ++ lineS inn (marksS s.labels ++ [105, 102, 32, 40] ++ prE 0 s.x ++ [41, 32, 123]) ++ rowsS (inn + 1) s.thn ++ lineS inn [125, 32, 101, 108, 115, 101, 32, 123]) (by simp only [List.length_append, List.length_cons, List.length_nil, lineS_len]; omega)).bldz (by simp [D.oks, D.ok, okrSm, Tag.ok]) rfl (s := st) (o := 0) (t := 0) a b
         have e5 := fun st a b => line_z (l := acc ++ lineS inn (marksS s.labels ++ [105, 102, 32, 40] ++ prE 0 s.x ++ [41, 32, 123]) ++ rowsS (inn + 1) s.thn ++ lineS inn [125, 32, 101, 108, 115, 101, 32, 123] ++ rowsS (inn + 1) s.els) inn [125] (by simp only [List.length_append, List.length_cons, List.length_nil, lineS_len]; omega) (s := st) (o := 0) (t := 0) a b
         repeat' (first
 | simp only [go_sem, hH, hJ, hY, hZ, c6, c5, ce, b1, b2, b3, w1, w2]
 | (with_reducible refine CU (em _) ?_)
 | (with_reducible refine CU (ee _) ?_)
 | (with_reducible refine CU (e1 _ (by with_unfolding_all rfl) (by with_unfolding_all rfl)) ?_)
 | (with_reducible refine CU (e2 _ (by with_unfolding_all rfl) (by with_unfolding_all rfl)) ?_)
 | (with_reducible refine CU (e3 _ (by with_unfolding_all rfl) (by with_unfolding_all rfl)) ?_)
 | (with_reducible refine CU (e4 _ (by with_unfolding_all rfl) (by with_unfolding_all rfl)) ?_)
 | (with_reducible refine CU (e5 _ (by with_unfolding_all rfl) (by with_unfolding_all rfl)) ?_)
 | (with_reducible first | refine kT_ fun hc => ?_ | refine kF_ fun hc => ?_ | refine kS_ (fun hc => ?_) fun hc => ?_) <;> (try simp only [hc, bs, ↓reduceIte] at h) <;> try simp only [hc]
 | (with_reducible refine lA_ hQ ?_; (try cases h); simp only [resL, oneD, sI_, eL_, go_sem, hH, hJ, hY, hZ, c6, c5, ce, b1, b2, b3, w1, w2]; try exact lE_)
 | (cases h; done))
         refine rL_ 1 1 (IH (rest, k + 1, acc ++ lineS inn (marksS s.labels ++ [105, 102, 32, 40] ++ prE 0 s.x ++ [41, 32, 123]) ++ rowsS (inn + 1) s.thn ++ lineS inn [125, 32, 101, 108, 115, 101, 32, 123] ++ rowsS (inn + 1) s.els ++ lineS inn [125]) ⟨g2, by rw [← h2, hrow]; simp only [List.append_assoc], by rw [hrow] at lr; simp only [List.length_append] at lr ⊢; omega⟩ (by simp))
       | false =>
         have ce' : s.els.length = 0 := by have := of_decide_eq_false ce; omega
         rw [if_pos ce'] at hrow
         have e3 := fun st a b => line_z (l := acc ++ lineS inn (marksS s.labels ++ [105, 102, 32, 40] ++ prE 0 s.x ++ [41, 32, 123]) ++ rowsS (inn + 1) s.thn) inn [125] (by simp only [List.length_append, List.length_cons, List.length_nil, lineS_len]; omega) (s := st) (o := 0) (t := 0) a b
         repeat' (first
 | simp only [go_sem, hH, hJ, hY, hZ, c6, c5, ce, b1, b2, b3, w1, w2]
 | (with_reducible refine CU (em _) ?_)
 | (with_reducible refine CU (ee _) ?_)
 | (with_reducible refine CU (e1 _ (by with_unfolding_all rfl) (by with_unfolding_all rfl)) ?_)
 | (with_reducible refine CU (e2 _ (by with_unfolding_all rfl) (by with_unfolding_all rfl)) ?_)
 | (with_reducible refine CU (e3 _ (by with_unfolding_all rfl) (by with_unfolding_all rfl)) ?_)
 | (with_reducible first | refine kT_ fun hc => ?_ | refine kF_ fun hc => ?_ | refine kS_ (fun hc => ?_) fun hc => ?_) <;> (try simp only [hc, bs, ↓reduceIte] at h) <;> try simp only [hc]
 | (with_reducible refine lA_ hQ ?_; (try cases h); simp only [resL, oneD, sI_, eL_, go_sem, hH, hJ, hY, hZ, c6, c5, ce, b1, b2, b3, w1, w2]; try exact lE_)
 | (cases h; done))
         refine rL_ 1 1 (IH (rest, k + 1, acc ++ lineS inn (marksS s.labels ++ [105, 102, 32, 40] ++ prE 0 s.x ++ [41, 32, 123]) ++ rowsS (inn + 1) s.thn ++ lineS inn [125]) ⟨g2, by rw [← h2, hrow]; simp only [List.append_assoc, List.nil_append], by rw [hrow] at lr; simp only [List.length_append] at lr ⊢; omega⟩ (by simp))
     | false =>
       have ep := fun st => pplain_s ho (by omega) st
       have b1 : (marksS s.labels).length + (plainS s.kind s.name s.proc s.x s.has s.args).length ≤ maxStr := by unfold maxStr; omega
       have b2 : (marksS s.labels).length + (plainS s.kind s.name s.proc s.x s.has s.args).length + 1 ≤ maxStr := by unfold maxStr; omega
       have e1 := fun st a b => line_z (l := acc) inn (marksS s.labels ++ plainS s.kind s.name s.proc s.x s.has s.args ++ [59]) (by simp only [List.length_append, List.length_cons, List.length_nil]; omega) (s := st) (o := 0) (t := 0) a b
       rw [if_neg (by simpa using c6), if_neg (by simpa using c5)] at hrow
       repeat' (first
 | simp only [go_sem, hH, hJ, hY, hZ, c6, c5, b1, b2, w1, w2]
 | (with_reducible refine CU (em _) ?_)
 | (with_reducible refine CU (ep _) ?_)
 | (with_reducible refine CU (e1 _ (by with_unfolding_all rfl) (by with_unfolding_all rfl)) ?_)
 | (with_reducible first | refine kT_ fun hc => ?_ | refine kF_ fun hc => ?_ | refine kS_ (fun hc => ?_) fun hc => ?_) <;> (try simp only [hc, bs, ↓reduceIte] at h) <;> try simp only [hc]
 | (with_reducible refine lA_ hQ ?_; (try cases h); simp only [resL, oneD, sI_, eL_, go_sem, hH, hJ, hY, hZ, c6, c5, b1, b2, w1, w2]; try exact lE_)
 | (cases h; done))
       refine rL_ 1 1 (IH (rest, k + 1, acc ++ lineS inn (marksS s.labels ++ plainS s.kind s.name s.proc s.x s.has s.args ++ [59])) ⟨g2, by rw [← h2, hrow]; simp only [List.append_assoc], by rw [hrow] at lr; simp only [List.length_append] at lr ⊢; omega⟩ (by simp))

end Go.Abs

/-! Own -/

namespace Go.Abs

theorem Rel.ownO {M : Map} {s : St} {w : World} (r : Rel M s w) (o i z' : Nat) (y : Bool) {cs : List D} (hc : s.objs[o]? = some cs) (hi : cs[i]? = some (.val (.slice none 0 0))) :
   Rel (M.setT s.toks.length none) ⟨s.objs.set o (cs.set i (.slice (.tok s.toks.length y) z' [])), s.toks ++ [some 0]⟩ w ∧ Le M s (M.setT s.toks.length none) ⟨s.objs.set o (cs.set i (.slice (.tok s.toks.length y) z' [])), s.toks ++ [some 0]⟩ ∧
   Ext M s w (M.setT s.toks.length none) ⟨s.objs.set o (cs.set i (.slice (.tok s.toks.length y) z' [])), s.toks ++ [some 0]⟩ w := by
 obtain ⟨r', le⟩ := r.blank
 have le' : Le M s (M.setT s.toks.length none) ⟨s.objs.set o (cs.set i (.slice (.tok s.toks.length y) z' [])), s.toks ++ [some 0]⟩ := ⟨le.G, by simp, le.loc, le.t, le.tk⟩
 have le2 : Le (M.setT s.toks.length none) { s with toks := s.toks ++ [some 0] } (M.setT s.toks.length none) ⟨s.objs.set o (cs.set i (.slice (.tok s.toks.length y) z' [])), s.toks ++ [some 0]⟩ :=
   ⟨fun _ _ _ h => h, by simp, fun _ _ => rfl, Nat.le_refl _, fun t n' _ e => ⟨n', e, Nat.le_refl _, fun _ => rfl⟩⟩
 refine ⟨⟨r'.comm, fun o' ds e => ?_, fun o ho => r'.objG o (by simpa using ho), fun o o' ho ho' => r'.inj o o' (by simpa using ho) (by simpa using ho'), r'.tok,
     fun t b c z o hv e ho => r'.tokObj t b c z o hv e (by simpa using ho), r'.tokInj⟩, le', ?_⟩
 · simp only [List.getElem?_set] at e
   split at e
   · rename_i ho
     subst ho
     split at e
     · cases e
       obtain ⟨vs, T, g1, g2, g3, g4⟩ := r.obj o cs hc
       refine ⟨vs, T, g1, by simpa using g2, g3, fun j d v e1 e2 => ?_⟩
       rw [List.getElem?_set] at e1
       split at e1
       · rename_i hj
         subst hj
         split at e1
         · cases e1
           exact ((g4 i _ v hi e2).ownB (z' := z') (y := y)).mono le2
         · cases e1
       · exact (g4 j d v e1 e2).mono le'
     · cases e
   · obtain ⟨vs, T, g1, g2, g3, g4⟩ := r'.obj o' ds e
     exact ⟨vs, T, g1, g2, g3, fun i d v e1 e2 => (g4 i d v e1 e2).mono le2⟩
 · refine (ext_blank (Ext.refl M s w) le).trans ⟨le2, fun _ _ _ _ => rfl, fun o h1 h2 => ?_, fun t b c z hl e => .inl ⟨hl, c, z, e⟩, fun _ _ h => (h rfl).elim, Nat.le_refl _, rfl, rfl, rfl⟩
   simp at h2
   exact absurd h2 (Nat.not_lt.2 h1)

theorem SemL.tokB {P : Program} {B : Base} {nt : Nat} {a : AC} {Q : Exit → Tm → St → Prop} {tm : Tm} {s : St} (o i z' : Nat) (y : Bool) {cs : List D} (hc : s.objs[o]? = some cs) (hi : cs[i]? = some (.val (.slice none 0 0)))
   (h : SemL P B nt a Q tm ⟨s.objs.set o (cs.set i (.slice (.tok s.toks.length y) z' [])), s.toks ++ [some 0]⟩) : SemL P B nt a Q tm s := by
 intro c hcc act w hh
 obtain ⟨M, e, r, ht, h1, h2⟩ := hh
 obtain ⟨r2, le', ee⟩ := r.ownO o i z' y hc hi
 exact h c hcc act w ⟨_, e.trans ee, r2, fun k => (ht k).mono le', h1, h2⟩

theorem ACalls.tokB {P : Program} {f : FuncId} {args : List D} {s : St} {Q : D → St → Prop} (o i z' : Nat) (y : Bool) {cs : List D} (hc : s.objs[o]? = some cs) (hi : cs[i]? = some (.val (.slice none 0 0)))
   (h : ACalls P f args ⟨s.objs.set o (cs.set i (.slice (.tok s.toks.length y) z' [])), s.toks ++ [some 0]⟩ Q) : ACalls P f args s Q := by
 intro M w vargs r hd hl ha
 obtain ⟨r2, le', ee⟩ := r.ownO o i z' y hc hi
 refine (h _ w vargs r2 (hd.ext ee) hl fun i d v e1 e2 => (ha i d v e1 e2).mono le').mono fun e w' ⟨M', d, v, s', h1, h2, h3, h4⟩ => ⟨M', d, v, s', h1, h2, ee.trans h3, h4⟩

end Go.Abs

/-! MayEq2 -/

namespace Go.Abs

theorem itmays_app : ∀ (a b : List It) (n : Nat), It.mays n (a ++ b) = (It.mays n a && It.mays (n + a.length) b)
 | [], b, n => by simp [It.mays]
 | i :: a, b, n => by
   simp only [List.cons_append, It.mays, itmays_app a b (n + 1), List.length_cons]
   have : n + 1 + a.length = n + (a.length + 1) := by omega
   rw [this]
   split <;> simp

theorem itmays_one (n : Nat) (i : It) : It.mays n [i] = true ↔ i.s.id = ((n + 1 : Nat) : Int) ∧ i.deep ≤ 12 ∧ i.s.one = true := by
 simp only [It.mays]
 split
 · rename_i h
   simp only [Bool.or_eq_true, bne_iff_ne, ne_eq, decide_eq_true_eq, Bool.not_eq_true'] at h
   refine ⟨fun h => (Bool.false_ne_true h).elim, fun ⟨h1, h2, h3⟩ => ?_⟩
   rcases h with (h | h) | h
   · exact (h h1).elim
   · omega
   · rw [h] at h3; cases h3
 · rename_i h
   simp only [Bool.or_eq_true, bne_iff_ne, ne_eq, decide_eq_true_eq, Bool.not_eq_true', not_or, Decidable.not_not, Bool.not_eq_false] at h
   exact ⟨fun _ => ⟨h.1.1, by omega, h.2⟩, fun _ => rfl⟩

mutual
theorem flatS_pre (deep inn : Int) (els : Bool) : ∀ (s : Sm) (out : List It), ∃ new, flatS deep inn els out s = out ++ (⟨s, deep, inn, els⟩ :: new)
 | ⟨id, kind, labels, name, proc, x, has, args, thn, e⟩, out => by
   simp only [flatS]
   split
   · obtain ⟨n1, h1⟩ := flatL_pre (deep + 1) id false thn (out ++ [⟨⟨id, kind, labels, name, proc, x, has, args, thn, e⟩, deep, inn, els⟩])
     obtain ⟨n2, h2⟩ := flatL_pre (deep + 1) id true e (flatL (deep + 1) id false (out ++ [⟨⟨id, kind, labels, name, proc, x, has, args, thn, e⟩, deep, inn, els⟩]) thn)
     rw [h2, h1]
     exact ⟨n1 ++ n2, by simp⟩
   · exact ⟨[], rfl⟩
theorem flatL_pre (deep inn : Int) (els : Bool) : ∀ (l : List Sm) (out : List It), ∃ new, flatL deep inn els out l = out ++ new
 | [], out => ⟨[], by simp [flatL]⟩
 | s :: l, out => by
   simp only [flatL]
   split
   · obtain ⟨n1, h1⟩ := flatS_pre deep inn els s out
     obtain ⟨n2, h2⟩ := flatL_pre deep inn els l (flatS deep inn els out s)
     rw [h2, h1]
     exact ⟨⟨s, deep, inn, els⟩ :: n1 ++ n2, by simp⟩
   · exact ⟨[], by simp⟩
end

theorem mayR_true {nest : Int} {n : Nat} {s : Sm} (h : (Sm.mayR nest n s).1 = true) :
   n + 1 ≤ 200 ∧ s.id = ((n + 1 : Nat) : Int) ∧ s.one = true ∧ (Sm.mayG (nest + 1) (n + 1) s.thn).1 = true ∧ (Sm.mayG (nest + 1) (Sm.mayG (nest + 1) (n + 1) s.thn).2 s.els).1 = true ∧
   (Sm.mayR nest n s).2 = (Sm.mayG (nest + 1) (Sm.mayG (nest + 1) (n + 1) s.thn).2 s.els).2 := by
 rw [mayR_eq] at h ⊢
 split at h
 · cases h
 rename_i h1
 simp only [Bool.or_eq_true, bne_iff_ne, ne_eq, decide_eq_true_eq, Bool.not_eq_true', not_or, Decidable.not_not, Bool.not_eq_false] at h1
 split at h
 · cases h
 rename_i h2
 have h2' : (Sm.mayG (nest + 1) (n + 1) s.thn).1 = true := by simpa using h2
 refine ⟨by omega, h1.1.1.2, ?_, h2', h, ?_⟩
 · rw [one_fields, h1.1.2, h1.2]; rfl
 · rw [if_neg (by simp only [Bool.or_eq_true, bne_iff_ne, ne_eq, decide_eq_true_eq, Bool.not_eq_true', not_or, Decidable.not_not, Bool.not_eq_false]; exact h1), if_neg h2]

theorem mayG_true {nest : Int} {n : Nat} {l : List Sm} (h : (Sm.mayG nest n l).1 = true) : (l = [] ∨ nest ≤ 12) ∧ Sm.mayG nest n l = Sm.mayL nest n l := by
 unfold Sm.mayG gate at *
 split at h
 · cases h
 · rename_i hc
   rw [if_neg hc]
   refine ⟨?_, rfl⟩
   simp only [Bool.and_eq_true, decide_eq_true_eq, not_and] at hc
   cases l with
   | nil => exact .inl rfl
   | cons s l => right; simp only [List.length_cons] at hc; omega

mutual
theorem mayR_flat : ∀ (s : Sm) (nest inn : Int) (els : Bool) (n : Nat) (out : List It), nest ≤ 12 → out.length ≤ n → n ≤ 200 → (Sm.mayR nest n s).1 = true →
   ∃ new, flatS nest inn els out s = out ++ new ∧ It.mays n new = true ∧ n + new.length = (Sm.mayR nest n s).2 ∧ (Sm.mayR nest n s).2 ≤ 200
 | ⟨id, kind, labels, name, proc, x, has, args, thn, e⟩, nest, inn, els, n, out, h12, ho, hn, h => by
   obtain ⟨h1, h2, h3, h4, h5, h6⟩ := mayR_true h
   dsimp only at h2 h4 h5 h6
   rw [h6]
   obtain ⟨g1, e1⟩ := mayG_true h4
   rw [e1] at h4 h5 ⊢
   obtain ⟨g2, e2⟩ := mayG_true h5
   rw [e2] at h5 ⊢
   have hit : It.mays n [(⟨⟨id, kind, labels, name, proc, x, has, args, thn, e⟩, nest, inn, els⟩ : It)] = true := (itmays_one _ _).2 ⟨h2, h12, h3⟩
   obtain ⟨n1, k1, k2, k3, k4⟩ := mayL_flat thn (nest + 1) id false (n + 1) (out ++ [⟨⟨id, kind, labels, name, proc, x, has, args, thn, e⟩, nest, inn, els⟩]) g1 (by simp; omega) h1 h4
   obtain ⟨n2, j1, j2, j3, j4⟩ := mayL_flat e (nest + 1) id true _ (out ++ [⟨⟨id, kind, labels, name, proc, x, has, args, thn, e⟩, nest, inn, els⟩] ++ n1) g2 (by simp; omega) k4 h5
   simp only [flatS]
   rw [if_pos (by simpa using h12), k1, j1]
   refine ⟨⟨⟨id, kind, labels, name, proc, x, has, args, thn, e⟩, nest, inn, els⟩ :: (n1 ++ n2), by simp, ?_, ?_, j4⟩
   · have : (⟨⟨id, kind, labels, name, proc, x, has, args, thn, e⟩, nest, inn, els⟩ : It) :: (n1 ++ n2) = [⟨⟨id, kind, labels, name, proc, x, has, args, thn, e⟩, nest, inn, els⟩] ++ n1 ++ n2 := by simp
     rw [this, itmays_app, itmays_app, hit, Bool.true_and]
     have e3 : n + ([(⟨⟨id, kind, labels, name, proc, x, has, args, thn, e⟩, nest, inn, els⟩ : It)] ++ n1).length = (Sm.mayL (nest + 1) (n + 1) thn).2 := by simp; omega
     rw [e3, j2]
     have e4 : n + [(⟨⟨id, kind, labels, name, proc, x, has, args, thn, e⟩, nest, inn, els⟩ : It)].length = n + 1 := rfl
     rw [e4, k2]; rfl
   · simp only [List.length_cons, List.length_append]; omega
theorem mayL_flat : ∀ (l : List Sm) (nest inn : Int) (els : Bool) (n : Nat) (out : List It), (l = [] ∨ nest ≤ 12) → out.length ≤ n → n ≤ 200 → (Sm.mayL nest n l).1 = true →
   ∃ new, flatL nest inn els out l = out ++ new ∧ It.mays n new = true ∧ n + new.length = (Sm.mayL nest n l).2 ∧ (Sm.mayL nest n l).2 ≤ 200
 | [], nest, inn, els, n, out, h12, ho, hn, h => ⟨[], by simp [flatL], rfl, by simp [Sm.mayL], by simpa [Sm.mayL] using hn⟩
 | s :: l, nest, inn, els, n, out, h12, ho, hn, h => by
   have h12' : nest ≤ 12 := h12.resolve_left (by simp)
   simp only [Sm.mayL] at h ⊢
   split at h
   · cases h
   rename_i hc
   rw [if_neg hc]
   obtain ⟨n1, k1, k2, k3, k4⟩ := mayR_flat s nest inn els n out h12' ho hn (by simpa using hc)
   obtain ⟨n2, j1, j2, j3, j4⟩ := mayL_flat l nest inn els _ (out ++ n1) (.inr h12') (by simp; omega) k4 h
   simp only [flatL]
   rw [if_pos (by simp only [decide_eq_true_eq]; omega), k1, j1]
   refine ⟨n1 ++ n2, by simp, ?_, by simp; omega, j4⟩
   rw [itmays_app, k2, k3, j2]; rfl
end

mutual
theorem flat_mayR : ∀ (s : Sm) (nest inn : Int) (els : Bool) (n : Nat) (out new : List It), flatS nest inn els out s = out ++ new → It.mays n new = true → out.length ≤ n → n + new.length ≤ 200 →
   Sm.mayR nest n s = (true, n + new.length) ∧ nest ≤ 12
 | ⟨id, kind, labels, name, proc, x, has, args, thn, e⟩, nest, inn, els, n, out, new, hfl, hm, ho, hn => by
   obtain ⟨n0, h0⟩ := flatS_pre nest inn els ⟨id, kind, labels, name, proc, x, has, args, thn, e⟩ out
   have e0 : new = ⟨⟨id, kind, labels, name, proc, x, has, args, thn, e⟩, nest, inn, els⟩ :: n0 := List.append_cancel_left (hfl.symm.trans h0)
   subst e0
   have hcons : (⟨⟨id, kind, labels, name, proc, x, has, args, thn, e⟩, nest, inn, els⟩ : It) :: n0 = [⟨⟨id, kind, labels, name, proc, x, has, args, thn, e⟩, nest, inn, els⟩] ++ n0 := rfl
   rw [hcons, itmays_app, Bool.and_eq_true] at hm
   obtain ⟨hm1, hm2⟩ := hm
   obtain ⟨c1, c2, c3⟩ := (itmays_one _ _).1 hm1
   dsimp only at c1 c2 c3
   simp only [List.length_cons] at hn ⊢
   have hfl' : flatL (nest + 1) id true (flatL (nest + 1) id false (out ++ [⟨⟨id, kind, labels, name, proc, x, has, args, thn, e⟩, nest, inn, els⟩]) thn) e = out ++ ([⟨⟨id, kind, labels, name, proc, x, has, args, thn, e⟩, nest, inn, els⟩] ++ n0) := by
     simp only [flatS] at hfl
     rw [if_pos (by simpa using c2)] at hfl
     exact hfl
   obtain ⟨n1, g1⟩ := flatL_pre (nest + 1) id false thn (out ++ [⟨⟨id, kind, labels, name, proc, x, has, args, thn, e⟩, nest, inn, els⟩])
   obtain ⟨n2, g2⟩ := flatL_pre (nest + 1) id true e (flatL (nest + 1) id false (out ++ [⟨⟨id, kind, labels, name, proc, x, has, args, thn, e⟩, nest, inn, els⟩]) thn)
   have en : n0 = n1 ++ n2 := by
     rw [g2, g1] at hfl'
     simp only [List.append_assoc, List.append_cancel_left_eq] at hfl'
     exact hfl'.symm
   subst en
   have hm2' : It.mays (n + 1) (n1 ++ n2) = true := hm2
   rw [itmays_app, Bool.and_eq_true] at hm2'
   simp only [List.length_append] at hn ⊢
   obtain ⟨r1, r2⟩ := flat_mayL thn (nest + 1) id false (n + 1) _ n1 g1 hm2'.1 (by simp; omega) (by omega)
   obtain ⟨q1, q2⟩ := flat_mayL e (nest + 1) id true (n + 1 + n1.length) _ n2 g2 hm2'.2 (by rw [g1]; simp; omega) (by omega)
   refine ⟨?_, c2⟩
   have gg : ∀ {l : List Sm} {m : Nat} {r : Bool × Nat}, Sm.mayL (nest + 1) m l = r → (l = [] ∨ nest + 1 ≤ 12) → Sm.mayG (nest + 1) m l = r := by
     intro l m r h1 h2
     unfold Sm.mayG gate
     rw [if_neg]
     · exact h1
     · simp only [Bool.and_eq_true, decide_eq_true_eq, not_and]
       rcases h2 with h2 | h2
       · subst h2; simp
       · omega
   have t1 := gg r1 r2
   have t2 := gg q1 q2
   rw [mayR_eq]
   dsimp only
   rw [t1]
   dsimp only
   rw [t2]
   rw [one_fields, Bool.and_eq_true] at c3
   rw [if_neg]
   · simp; omega
   · simp only [Bool.or_eq_true, bne_iff_ne, ne_eq, decide_eq_true_eq, Bool.not_eq_true', not_or, Decidable.not_not, Bool.not_eq_false]
     exact ⟨⟨⟨by omega, c1⟩, c3.1⟩, c3.2⟩
theorem flat_mayL : ∀ (l : List Sm) (nest inn : Int) (els : Bool) (n : Nat) (out new : List It), flatL nest inn els out l = out ++ new → It.mays n new = true → out.length ≤ n → n + new.length ≤ 200 →
   Sm.mayL nest n l = (true, n + new.length) ∧ (l = [] ∨ nest ≤ 12)
 | [], nest, inn, els, n, out, new, hfl, hm, ho, hn => by
   simp only [flatL] at hfl
   have : new = [] := by simpa using hfl
   subst this
   exact ⟨by simp [Sm.mayL], .inl rfl⟩
 | s :: l, nest, inn, els, n, out, new, hfl, hm, ho, hn => by
   simp only [flatL] at hfl
   rw [if_pos (by simp only [decide_eq_true_eq]; omega)] at hfl
   obtain ⟨n1, g1⟩ := flatS_pre nest inn els s out
   obtain ⟨n2, g2⟩ := flatL_pre nest inn els l (flatS nest inn els out s)
   have en : new = (⟨s, nest, inn, els⟩ :: n1) ++ n2 := by
     rw [g2, g1, List.append_assoc, List.append_cancel_left_eq] at hfl
     exact hfl.symm
   subst en
   rw [itmays_app, Bool.and_eq_true] at hm
   rw [List.length_append] at hn ⊢
   obtain ⟨r1, r2⟩ := flat_mayR s nest inn els n out _ g1 hm.1 ho (by omega)
   obtain ⟨q1, q2⟩ := flat_mayL l nest inn els (n + (⟨s, nest, inn, els⟩ :: n1 : List It).length) _ n2 g2 hm.2 (by rw [g1, List.length_append]; omega) (by omega)
   refine ⟨?_, .inr r2⟩
   simp only [Sm.mayL, r1, Bool.not_true, Bool.false_eq_true, ↓reduceIte, q1]
   congr 1; omega
end

theorem procs_all : ∀ (l : List Pc) (out : List It), out.length ≤ 200 → (Pc.mayL out.length l = true ↔ Pc.heads l = true ∧ ∃ new, allM out l = out ++ new ∧ (out ++ new).length ≤ 200 ∧ It.mays out.length new = true)
 | [], out, ho => by simp [Pc.mayL, Pc.heads, allM, It.mays]; exact ho
 | f :: l, out, ho => by
   have hpre : ∀ (l : List Pc) (out : List It), ∃ new, allM out l = out ++ new := by
     intro l
     induction l with
     | nil => intro out; exact ⟨[], by simp [allM]⟩
     | cons f l ih =>
       intro out
       simp only [allM]
       split
       · exact ⟨_, rfl⟩
       · obtain ⟨n1, h1⟩ := ih (out ++ f.flat)
         exact ⟨f.flat ++ n1, by rw [h1, List.append_assoc]⟩
   simp only [Pc.mayL, Pc.heads]
   have hcond : (decide ((f.params.length : Int) > 8) || decide ((f.vars.length : Int) > 16) || !(isName f.name) || !(mayNames f.vars) || !(mayNames f.fin)) = (!(isName f.name) || decide ((f.params.length : Int) > 8) || decide ((f.vars.length : Int) > 16) || !(mayNames f.vars) || !(mayNames f.fin)) := by
     cases isName f.name <;> simp
   rw [hcond]
   split
   · simp
   split
   · simp
   have hg : Sm.mayG 1 out.length f.body = Sm.mayL 1 out.length f.body := by unfold Sm.mayG gate; rw [if_neg (by simp)]
   rw [hg]
   constructor
   · intro h
     split at h
     · cases h
     rename_i hc
     obtain ⟨n1, k1, k2, k3, k4⟩ := mayL_flat f.body 1 0 false out.length [] (.inr (by omega)) (by simp) ho (by simpa using hc)
     have hfl : f.flat = n1 := by unfold Pc.flat; rw [k1]; rfl
     rw [← k3, ← List.length_append] at h
     obtain ⟨hh, n2, j1, j2, j3⟩ := (procs_all l (out ++ n1) (by rw [List.length_append]; omega)).1 h
     refine ⟨hh, n1 ++ n2, ?_, by simpa using j2, ?_⟩
     · simp only [allM, hfl]
       rw [if_neg (by simp only [List.length_append, decide_eq_true_eq]; omega), j1, List.append_assoc]
     · rw [itmays_app, k2, ← List.length_append, j3]; rfl
   · rintro ⟨hh, new, j1, j2, j3⟩
     simp only [allM] at j1
     split at j1
     · rename_i hc
       have : new = f.flat := (List.append_cancel_left j1).symm
       subst this
       simp only [decide_eq_true_eq] at hc
       omega
     rename_i hc
     simp only [decide_eq_true_eq] at hc
     obtain ⟨n2, g2⟩ := hpre l (out ++ f.flat)
     have en : new = f.flat ++ n2 := by
       rw [g2, List.append_assoc] at j1
       exact (List.append_cancel_left j1).symm
     subst en
     rw [itmays_app, Bool.and_eq_true] at j3
     rw [List.length_append, List.length_append] at j2
     obtain ⟨r1, _⟩ := flat_mayL f.body 1 0 false out.length [] f.flat (by unfold Pc.flat; rfl) j3.1 (by simp) (by omega)
     rw [r1]
     simp only [Bool.not_true, Bool.false_eq_true, ↓reduceIte]
     rw [← List.length_append]
     exact (procs_all l (out ++ f.flat) (by rw [List.length_append]; omega)).2 ⟨hh, n2, g2, by simp; omega, by rw [List.length_append]; exact j3.2⟩

theorem mayP_eq (p : Pg) : p.mayP = p.may := by
 have h := procs_all p.procs [] (by simp)
 unfold Pg.mayP Pg.may
 split
 · rfl
 · have e : Pc.mayL 0 p.procs = (if !(Pc.heads p.procs) then false else if decide ((p.all.length : Int) > 200) then false else It.mays 0 p.all) := by
     rw [Bool.eq_iff_iff]
     have h' : Pc.mayL 0 p.procs = true ↔ _ := h
     rw [h']
     have ha : p.all = allM [] p.procs := rfl
     constructor
     · rintro ⟨h1, new, h2, h3, h4⟩
       rw [ha, h2, h1]
       simp only [List.nil_append] at h3 ⊢
       simp only [Bool.not_true, Bool.false_eq_true, ↓reduceIte]
       rw [if_neg (by simp only [decide_eq_true_eq]; omega)]
       exact h4
     · intro h1
       cases hh : Pc.heads p.procs
       · rw [hh] at h1; simp at h1
       · rw [hh] at h1
         simp only [Bool.not_true, Bool.false_eq_true, ↓reduceIte] at h1
         split at h1
         · cases h1
         · rename_i hc
           simp only [decide_eq_true_eq] at hc
           exact ⟨rfl, p.all, by rw [ha]; rfl, by simp; omega, h1⟩
   exact e

end Go.Abs

/-! Pr4 -/

namespace Go.Abs

set_option maxRecDepth 8000
open Go.Proofs

def paramS (a : Pm) : Str := (if a.ref then [114, 101, 102, 32] else []) ++ a.name
def procS (f : Pc) : Str :=
 lineS 0 ([112, 114, 111, 99, 32] ++ f.name ++ [40] ++ Lib.join (f.params.map paramS) [44, 32] ++ [41, 32, 123]) ++ (if f.vars.length = 0 then [] else lineS 1 ([118, 97, 114, 32] ++ Lib.join f.vars [44, 32] ++ [59])) ++ rowsS 1 f.body ++ lineS 0 (marksS f.fin ++ [125])
def procsS : List Pc → Str
 | [] => []
 | f :: l => procS f ++ procsS l
def globsS (l : List Str) : Str := if l.length = 0 then [] else lineS 0 ([103, 108, 111, 98, 97, 108, 32] ++ Lib.join l [44, 32] ++ [59])
def textS (p : Pg) : Str := globsS p.globals ++ procsS p.procs

structure Pc.PrP (f : Pc) : Prop where
 name : f.name.length ≤ 8
 params : ∀ a ∈ f.params, a.name.length ≤ 8
 vars : ∀ t ∈ f.vars, t.length ≤ 8
 fin : ∀ t ∈ f.fin, t.length ≤ 8
 body : Sm.PrRs 1 f.body
structure Pg.PrG (p : Pg) : Prop where
 globals : ∀ t ∈ p.globals, t.length ≤ 8
 procs : ∀ f ∈ p.procs, f.PrP

theorem short_len (sep : Str) {l : List Str} {n : Nat} (h : ∀ t ∈ l, t.length ≤ n) : (Lib.join l sep).length ≤ (n + sep.length) * l.length := by
 have h1 := join_len sep l
 have h2 : (l.map (·.length)).sum ≤ n * l.length := by
   clear h1
   induction l with
   | nil => simp
   | cons a l ih =>
     have := h a (List.mem_cons_self ..)
     have := ih fun t m => h t (List.mem_cons_of_mem _ m)
     simp only [List.map_cons, List.sum_cons, List.length_cons, Nat.mul_add, Nat.mul_one]; omega
 rw [Nat.add_mul]; omega
theorem params_len {l : List Pm} (h : ∀ a ∈ l, a.name.length ≤ 8) : (Lib.join (l.map paramS) [44, 32]).length ≤ 14 * l.length := by
 have := short_len [44, 32] (l := l.map paramS) (n := 12) (by
   intro t m
   obtain ⟨a, ha, rfl⟩ := List.mem_map.1 m
   have := h a ha
   unfold paramS
   split <;> simp only [List.length_append, List.length_cons, List.length_nil] <;> omega)
 simpa using this

theorem globsS_len {l : List Str} (h : ∀ t ∈ l, t.length ≤ 8) : (globsS l).length ≤ 10 * l.length + 9 := by
 have := short_len [44, 32] h
 unfold globsS
 split
 · simp
 · simp only [List.length_append, List.length_cons, List.length_nil, lineS_len] at this ⊢; omega

theorem procS_len {f : Pc} (h : f.PrP) : (procS f).length ≤ 200 * f.size := by
 have h1 := params_len h.params
 have h2 := short_len [44, 32] h.vars
 have h3 := marksS_len h.fin
 have h4 := rowsS_len f.body h.body
 have h5 := h.name
 unfold procS Pc.size
 simp only [List.length_cons, List.length_nil] at h2
 split <;> simp only [List.length_append, List.length_cons, List.length_nil, lineS_len] <;> omega
theorem procsS_len : ∀ {l : List Pc}, (∀ f ∈ l, f.PrP) → (procsS l).length ≤ 200 * Pc.sizes l
 | [], _ => by simp [procsS]
 | f :: l, h => by
   have h1 := procS_len (h f (List.mem_cons_self ..))
   have h2 := procsS_len fun t m => h t (List.mem_cons_of_mem _ m)
   simp only [procsS, Pc.sizes, List.length_append]; omega

/-! ### The walk -/

theorem prows_z {l : List Sm} (hs : Sm.sizes l ≤ 1000000) {inn : Nat} (hp : Sm.PrRs inn l) {acc : Str} (hb : acc.length + 200 * Sm.sizes l ≤ 540000000000) {s : St} {o t : Nat} (ho : s.objs[o]? = some (bobj o t acc)) (ht : s.toks[t]? = some (some (slen acc))) :
   Fun Tryz.prog n_print_writer_rows [.ptr o 0, .slice .shared 13 (l.map encSm), .int .i64 inn] s (.tuple []) ⟨s.objs.set o (bobj o t (acc ++ rowsS inn l)), s.toks.set t (some (slen (acc ++ rowsS inn l)))⟩ :=
 (prows_n _ l (Nat.le_refl _) hs inn hp acc hb).bldz (by simp [D.oks, D.ok, okrSm, Tag.ok]) rfl ho ht

theorem line_first (n : Nat) (m : Str) (h : n + m.length + 1 ≤ 549755813888) {s : St} {o : Nat} (ho : s.objs[o]? = some [.selfp tWriter o, .val (.slice none 0 0)]) :
   Fun Tryz.prog n_print_writer_line [.ptr o 0, .int .i64 n, .str m] s (.tuple []) ⟨s.objs.set o (bobj o s.toks.length (lineS n m)), s.toks ++ [some (slen (lineS n m))]⟩ := by
 have hH := (List.getElem?_eq_some_iff.1 ho).1
 have := line_z (l := []) n m (by simpa using h) (s := ⟨s.objs.set o (bobj o s.toks.length []), s.toks ++ [some 0]⟩) (o := o) (t := s.toks.length) (by simp [hH]) (by simp [slen])
 refine ACalls.tokB o 1 1 true ho rfl ?_
 refine ACalls.mono this fun d s' ⟨e1, e2⟩ => ⟨e1, ?_⟩
 rw [e2]
 simp

set_option maxHeartbeats 1600000 in
theorem pText_loop {p : Pg} (hg : p.PrG) (hps : Pc.sizes p.procs ≤ 1000000) (hpl : p.procs.length ≤ Pc.sizes p.procs) {B : Base} {Q : Exit → Tm → St → Prop} (hB : B.s = { objs := [], toks := [] }) {R : Str} (hRn : R.length ≤ 540000000000)
   (hQ : retF { objs := [], toks := [] : St }.objs.length { objs := [], toks := [] : St }.toks.length [(2, none)] (D.str R) { objs := [], toks := [] } = Q) :
   ∀ i : List Pc × Nat × Str, (p.procs.drop i.2.1 = i.1 ∧ i.2.2 ++ procsS i.1 = R ∧ i.2.2.length + 200 * Pc.sizes i.1 ≤ 530000000000) →
   SemL Tryz.prog B 85 Q35 (inBlockQ 0 (thenQ (wpC Tryz.prog B 85 Q3A Q) Q))
     [(3, .ptr 1 0), (26, .slice .shared 5 (p.procs.map encPc)), (27, .int .i64 (p.procs.length : Int)), (28, .int .i64 (i.2.1 : Int))] ⟨[encPg p, bobj 1 0 i.2.2], [some (slen i.2.2)]⟩ := by
 have ⟨hH, hJ, hY, hZ⟩ := H4_
 refine SemL.ind (ι := List Pc × Nat × Str) (fun i => p.procs.drop i.2.1 = i.1 ∧ i.2.2 ++ procsS i.1 = R ∧ i.2.2.length + 200 * Pc.sizes i.1 ≤ 530000000000) (fun i => i.1.length) (fun i => [(3, .ptr 1 0), (26, .slice .shared 5 (p.procs.map encPc)), (27, .int .i64 (p.procs.length : Int)), (28, .int .i64 (i.2.1 : Int))]) (fun i => ⟨[encPg p, bobj 1 0 i.2.2], [some (slen i.2.2)]⟩) ?_
 rintro ⟨rest, k, acc⟩ ⟨h1, h2, h3⟩ IH
 dsimp only at h1 h2 h3
 cases rest with
 | nil =>
   have hH := drop_nil h1
   simp only [procsS, List.append_nil] at h2
   subst h2
   have es := fun st a b => String_s (s := st) (o := 1) (t := 0) (c0 := .selfp tWriter 1) acc a b (by omega)
   repeat' (first
 | simp only [go_sem, hH, hJ, hY, hZ, bobj, slen]
 | (with_reducible refine CU (es _ (by with_unfolding_all rfl) (by with_unfolding_all rfl)) ?_)
 | (with_reducible first | refine kT_ fun hc => ?_ | refine kF_ fun hc => ?_ | refine kS_ (fun hc => ?_) fun hc => ?_) <;> (try simp only [hc, bs, ↓reduceIte] at h) <;> try simp only [hc]
 | (with_reducible refine lA_ hQ ?_; (try cases h); simp only [resL, oneD, sI_, eL_, go_sem, hH, hJ, hY, hZ, bobj, slen]; try exact lE_)
 | (cases h; replace h := hr; clear hr; (try simp only [bs, ↓reduceIte] at h))
 | (cases h; done))
 | cons f rest =>
   obtain ⟨hJ, g2, hH, g4⟩ := drop_cons h1
   have hmem := List.mem_of_getElem? hJ
   have hsz := Pc.sizes_mem hmem
   have hP := hg.procs f hmem
   have hk : k < 4611686018427387904 := by omega
   have w1 : IntKind.wrap .i64 ((k : Int) + 1) = ((k + 1 : Nat) : Int) := by rw [wrap_ok] <;> omega
   simp only [Pc.sizes] at h3
   simp only [procsS] at h2
   have lf := procS_len hP
   have hfz : f.params.length + f.vars.length + f.fin.length + Sm.sizes f.body + 1 ≤ f.size := by unfold Pc.size; omega
   repeat' (first
 | simp only [go_sem, hH, hJ, hY, hZ]
 | (with_reducible first | refine kT_ fun hc => ?_ | refine kF_ fun hc => ?_ | refine kS_ (fun hc => ?_) fun hc => ?_) <;> (try simp only [hc, bs, ↓reduceIte] at h) <;> try simp only [hc]
 | (with_reducible refine lA_ hQ ?_; exact lY_)
 | (cases h; replace h := hr; clear hr; (try simp only [bs, ↓reduceIte] at h))
 | (cases h; done))
   refine SemL.tokT 6 1 rfl ?_
   simp only [go_sem, hH, hJ, hY, hZ]
   refine rL_ 3 2 (SemL.ind (ι := List Pm × Nat × List Str) (fun i => f.params.drop i.2.1 = i.1 ∧ i.2.2 ++ i.1.map paramS = f.params.map paramS ∧ i.2.2.length = i.2.1) (fun i => i.1.length)
     (fun i => [(3, .ptr 1 0), (26, .slice .shared 5 (p.procs.map encPc)), (27, .int .i64 (p.procs.length : Int)), (28, .int .i64 (k : Int)), (5, .ptr 2 0), (6, .slice (.tok 1) 1 (i.2.2.map encStr)), (33, .slice .shared 2 (f.params.map encPm)), (34, .int .i64 (f.params.length : Int)), (35, .int .i64 (i.2.1 : Int))]) (fun i => ⟨[encPg p, bobj 1 0 acc, encPc f], [some (slen acc), some i.2.1]⟩) ?_ (f.params, 0, []) ⟨rfl, rfl, rfl⟩)
   rintro ⟨ps, j, out⟩ ⟨p1, p2, p3⟩ IH2
   dsimp only at p1 p2 p3
   cases ps with
   | nil =>
     have hH := drop_nil p1
     simp only [List.map_nil, List.append_nil] at p2
     subst p2
     have lps := params_len hP.params
     have lvs := short_len [44, 32] hP.vars
     have lms := marksS_len hP.fin
     have lrs := rowsS_len f.body hP.body
     have lnm := hP.name
     simp only [List.length_cons, List.length_nil] at lvs
     have ej := fun s => Join_s (l := f.params.map paramS) (sep := [44, 32]) (by simp; omega) (by omega) (.tok 1) s
     have em := fun st => pmarks_s (by omega) hP.fin st
     have b1 : (5 : Nat) + f.name.length ≤ maxStr := by unfold maxStr; omega
     have b2 : f.name.length + 1 + 1 + 1 + 1 + 1 + 1 ≤ maxStr := by unfold maxStr; omega
     have b3 : f.name.length + 1 + 1 + 1 + 1 + 1 + 1 + (Lib.join (f.params.map paramS) [44, 32]).length ≤ maxStr := by unfold maxStr; omega
     have b4 : f.name.length + 1 + (Lib.join (f.params.map paramS) [44, 32]).length + 1 + 1 + 1 + 1 + 1 + 1 + 1 + 1 ≤ maxStr := by unfold maxStr; omega
     have b7 : (marksS f.fin).length + 1 ≤ maxStr := by unfold maxStr; omega
     have e1 := fun st a b => line_z (l := acc) 0 ([112, 114, 111, 99, 32] ++ f.name ++ [40] ++ Lib.join (f.params.map paramS) [44, 32] ++ [41, 32, 123]) (by simp only [List.length_append, List.length_cons, List.length_nil, lineS_len]; omega) (s := st) (o := 1) (t := 0) a b
     simp only [List.cons_append, List.nil_append, Int.cast_ofNat_Int] at e1
     cases cv : decide ((f.vars.length : Int) > 0) with
     | false =>
       have cv' : f.vars.length = 0 := by have := of_decide_eq_false cv; omega
       have e3 := fun st a b => prows_z (l := f.body) (by omega) hP.body (acc := acc ++ lineS 0 ([112, 114, 111, 99, 32] ++ f.name ++ [40] ++ Lib.join (f.params.map paramS) [44, 32] ++ [41, 32, 123])) (by simp only [List.length_append, List.length_cons, List.length_nil, lineS_len]; omega) (s := st) (o := 1) (t := 0) a b
       have e4 := fun st a b => line_z (l := acc ++ lineS 0 ([112, 114, 111, 99, 32] ++ f.name ++ [40] ++ Lib.join (f.params.map paramS) [44, 32] ++ [41, 32, 123]) ++ rowsS 1 f.body) 0 (marksS f.fin ++ [125]) (by simp only [List.length_append, List.length_cons, List.length_nil, lineS_len]; omega) (s := st) (o := 1) (t := 0) a b
       simp only [List.cons_append, List.nil_append, Int.cast_ofNat_Int] at e3 e4
       repeat' (first
 | simp only [go_sem, hH, hJ, hY, hZ, w1, b1, b2, b3, b4, b7, cv]
 | (with_reducible refine CU (ej _) ?_)
 | (with_reducible refine CU (em _) ?_)
 | (with_reducible refine CU (e1 _ (by with_unfolding_all rfl) (by with_unfolding_all rfl)) ?_)
 | (with_reducible refine CU (e3 _ (by with_unfolding_all rfl) (by with_unfolding_all rfl)) ?_)
 | (with_reducible refine CU (e4 _ (by with_unfolding_all rfl) (by with_unfolding_all rfl)) ?_)
 | (with_reducible first | refine kT_ fun hc => ?_ | refine kF_ fun hc => ?_ | refine kS_ (fun hc => ?_) fun hc => ?_) <;> (try simp only [hc, bs, ↓reduceIte] at h) <;> try simp only [hc]
 | (with_reducible refine lA_ hQ ?_; (try cases h); simp only [resL, oneD, sI_, eL_, go_sem, hH, hJ, hY, hZ, w1, b1, b2, b3, b4, b7, cv]; try exact lE_)
 | (cases h; replace h := hr; clear hr; (try simp only [bs, ↓reduceIte] at h))
 | (cases h; done))
       have hl := IH (rest, k + 1, acc ++ lineS 0 ([112, 114, 111, 99, 32] ++ f.name ++ [40] ++ Lib.join (f.params.map paramS) [44, 32] ++ [41, 32, 123]) ++ rowsS 1 f.body ++ lineS 0 (marksS f.fin ++ [125])) ⟨g2, by rw [← h2, procS, if_pos cv']; simp only [List.append_assoc, List.nil_append, List.cons_append], by rw [procS, if_pos cv'] at lf; simp only [List.length_append] at lf ⊢; omega⟩ (by simp)
       simp only [List.cons_append, List.nil_append, Int.cast_ofNat_Int] at hl
       refine rL_ 2 1 (hl)
     | true =>
       have cv' : f.vars.length ≠ 0 := by have := of_decide_eq_true cv; omega
       have ej2 := fun s => Join_s (l := f.vars) (sep := [44, 32]) (by omega) (by omega) .shared s
       have b5 : (4 : Nat) + (Lib.join f.vars [44, 32]).length ≤ maxStr := by unfold maxStr; omega
       have b6 : (Lib.join f.vars [44, 32]).length + 1 + 1 + 1 + 1 + 1 ≤ maxStr := by unfold maxStr; omega
       have e2 := fun st a b => line_z (l := acc ++ lineS 0 ([112, 114, 111, 99, 32] ++ f.name ++ [40] ++ Lib.join (f.params.map paramS) [44, 32] ++ [41, 32, 123])) 1 ([118, 97, 114, 32] ++ Lib.join f.vars [44, 32] ++ [59]) (by simp only [List.length_append, List.length_cons, List.length_nil, lineS_len]; omega) (s := st) (o := 1) (t := 0) a b
       simp only [List.cons_append, List.nil_append, Int.cast_ofNat_Int] at e2
       have e3 := fun st a b => prows_z (l := f.body) (by omega) hP.body (acc := acc ++ lineS 0 ([112, 114, 111, 99, 32] ++ f.name ++ [40] ++ Lib.join (f.params.map paramS) [44, 32] ++ [41, 32, 123]) ++ lineS 1 ([118, 97, 114, 32] ++ Lib.join f.vars [44, 32] ++ [59])) (by simp only [List.length_append, List.length_cons, List.length_nil, lineS_len]; omega) (s := st) (o := 1) (t := 0) a b
       have e4 := fun st a b => line_z (l := acc ++ lineS 0 ([112, 114, 111, 99, 32] ++ f.name ++ [40] ++ Lib.join (f.params.map paramS) [44, 32] ++ [41, 32, 123]) ++ lineS 1 ([118, 97, 114, 32] ++ Lib.join f.vars [44, 32] ++ [59]) ++ rowsS 1 f.body) 0 (marksS f.fin ++ [125]) (by simp only [List.length_append, List.length_cons, List.length_nil, lineS_len]; omega) (s := st) (o := 1) (t := 0) a b
       simp only [List.cons_append, List.nil_append, Int.cast_ofNat_Int] at e3 e4
       repeat' (first
 | simp only [go_sem, hH, hJ, hY, hZ, w1, b1, b2, b3, b4, b7, cv, b5, b6]
 | (with_reducible refine CU (ej _) ?_)
 | (with_reducible refine CU (em _) ?_)
 | (with_reducible refine CU (e1 _ (by with_unfolding_all rfl) (by with_unfolding_all rfl)) ?_)
 | (with_reducible refine CU (ej2 _) ?_)
 | (with_reducible refine CU (e2 _ (by with_unfolding_all rfl) (by with_unfolding_all rfl)) ?_)
 | (with_reducible refine CU (e3 _ (by with_unfolding_all rfl) (by with_unfolding_all rfl)) ?_)
 | (with_reducible refine CU (e4 _ (by with_unfolding_all rfl) (by with_unfolding_all rfl)) ?_)
 | (with_reducible first | refine kT_ fun hc => ?_ | refine kF_ fun hc => ?_ | refine kS_ (fun hc => ?_) fun hc => ?_) <;> (try simp only [hc, bs, ↓reduceIte] at h) <;> try simp only [hc]
 | (with_reducible refine lA_ hQ ?_; (try cases h); simp only [resL, oneD, sI_, eL_, go_sem, hH, hJ, hY, hZ, w1, b1, b2, b3, b4, b7, cv, b5, b6]; try exact lE_)
 | (cases h; replace h := hr; clear hr; (try simp only [bs, ↓reduceIte] at h))
 | (cases h; done))
       have hl := IH (rest, k + 1, acc ++ lineS 0 ([112, 114, 111, 99, 32] ++ f.name ++ [40] ++ Lib.join (f.params.map paramS) [44, 32] ++ [41, 32, 123]) ++ lineS 1 ([118, 97, 114, 32] ++ Lib.join f.vars [44, 32] ++ [59]) ++ rowsS 1 f.body ++ lineS 0 (marksS f.fin ++ [125])) ⟨g2, by rw [← h2, procS, if_neg cv']; simp only [List.append_assoc, List.nil_append, List.cons_append], by rw [procS, if_neg cv'] at lf; simp only [List.length_append] at lf ⊢; omega⟩ (by simp)
       simp only [List.cons_append, List.nil_append, Int.cast_ofNat_Int] at hl
       refine rL_ 2 1 (hl)
   | cons a ps =>
     obtain ⟨hJ, q2, hH, q4⟩ := drop_cons p1
     have hmem2 := List.mem_of_getElem? hJ
     have han := hP.params a hmem2
     have hj : j < 4611686018427387904 := by omega
     have w2 : IntKind.wrap .i64 ((j : Int) + 1) = ((j + 1 : Nat) : Int) := by rw [wrap_ok] <;> omega
     have hY : (j + 1) * 17 ≤ maxStr := by unfold maxStr; omega
     have ea : paramS a = (if a.ref = true then [114, 101, 102, 32] else []) ++ a.name := rfl
     cases hr : a.ref with
     | true =>
       rw [hr] at ea
       have m1 : (4 : Nat) + a.name.length ≤ maxStr := by unfold maxStr; omega
       repeat' (first
 | simp only [go_sem, hH, hJ, hY, hZ, hr, m1, w2, p3]
 | (with_reducible refine CU (pref_s _ _) ?_)
 | (with_reducible first | refine kT_ fun hc => ?_ | refine kF_ fun hc => ?_ | refine kS_ (fun hc => ?_) fun hc => ?_) <;> (try simp only [hc, bs, ↓reduceIte] at h) <;> try simp only [hc]
 | (with_reducible refine lA_ hQ ?_; (try cases h); simp only [resL, oneD, sI_, eL_, go_sem, hH, hJ, hY, hZ, hr, m1, w2, p3]; try exact lE_)
 | (cases h; replace h := hr; clear hr; (try simp only [bs, ↓reduceIte] at h))
 | (cases h; done))
       refine rl_ 3 2 ?_ ?_ (IH2 (ps, j + 1, out ++ [paramS a]) ⟨q2, by rw [← p2]; simp, by simp [p3]⟩ (by simp))
       · (simp only [go_sem, hH, hJ, hY, hZ, ea, List.cons_append, List.nil_append]; try exact lF_)
       · (simp only [go_sem, hH, hJ, hY, hZ, ea, List.cons_append, List.nil_append]; try exact lF_)
     | false =>
       rw [hr] at ea
       have m1 : a.name.length ≤ maxStr := by unfold maxStr; omega
       repeat' (first
 | simp only [go_sem, hH, hJ, hY, hZ, hr, m1, w2, p3, List.nil_append]
 | (with_reducible refine CU (pref_s _ _) ?_)
 | (with_reducible first | refine kT_ fun hc => ?_ | refine kF_ fun hc => ?_ | refine kS_ (fun hc => ?_) fun hc => ?_) <;> (try simp only [hc, bs, ↓reduceIte] at h) <;> try simp only [hc]
 | (with_reducible refine lA_ hQ ?_; (try cases h); simp only [resL, oneD, sI_, eL_, go_sem, hH, hJ, hY, hZ, hr, m1, w2, p3, List.nil_append]; try exact lE_)
 | (cases h; replace h := hr; clear hr; (try simp only [bs, ↓reduceIte] at h))
 | (cases h; done))
       refine rl_ 3 2 ?_ ?_ (IH2 (ps, j + 1, out ++ [paramS a]) ⟨q2, by rw [← p2]; simp, by simp [p3]⟩ (by simp))
       · (simp only [go_sem, hH, hJ, hY, hZ, ea, List.cons_append, List.nil_append]; try exact lF_)
       · (simp only [go_sem, hH, hJ, hY, hZ, ea, List.cons_append, List.nil_append]; try exact lF_)

theorem pText_s {p : Pg} (hf : p.FineP) (hg : p.mayP = true → p.PrG) (hs : p.size ≤ 1000000) (s : St) : Fun Tryz.prog n_print_Text [.agg (encPg p)] s (.str (if p.may then textS p else [])) s := by
 refine Fun.pure ?_ (by simp only [D.oks, D.ok, okPg]; rfl) rfl s
 have hm := fun s => tMay_s hf s
 rw [← mayP_eq]
 cases cm : p.mayP with
 | false =>
   rw [if_neg (by simp)]
   unfold S0
   refine Fun.go has_print_Text rfl fun B Q hB hQ => ?_
   have ⟨hH, hJ, hY, hZ⟩ := H4_
   repeat' (first
 | simp only [go_sem, hH, hJ, hY, hZ, cm]
 | (with_reducible refine CU (hm _) ?_)
 | (with_reducible first | refine kT_ fun hc => ?_ | refine kF_ fun hc => ?_ | refine kS_ (fun hc => ?_) fun hc => ?_) <;> (try simp only [hc, bs, ↓reduceIte] at h) <;> try simp only [hc]
 | (with_reducible refine lA_ hQ ?_; (try cases h); simp only [resL, oneD, sI_, eL_, go_sem, hH, hJ, hY, hZ, cm]; try exact lE_)
 | (cases h; done))
 | true =>
   rw [if_pos rfl]
   have hg := hg cm
   have hps : Pc.sizes p.procs ≤ 1000000 := by simp only [Pg.size] at hs; omega
   have hgl : p.globals.length ≤ 1000000 := by simp only [Pg.size] at hs; omega
   have hpl := Pc.sizes_len p.procs
   have lg := globsS_len hg.globals
   have lp := procsS_len hg.procs
   have ls := short_len [44, 32] hg.globals
   simp only [List.length_cons, List.length_nil] at ls
   unfold S0
   cases cg : decide ((p.globals.length : Int) > 0) with
   | true =>
     have cg' : p.globals.length ≠ 0 := by have := of_decide_eq_true cg; omega
     have eg : globsS p.globals = lineS 0 ([103, 108, 111, 98, 97, 108, 32] ++ Lib.join p.globals [44, 32] ++ [59]) := by rw [globsS, if_neg cg']
     have ej := fun s => Join_s (l := p.globals) (sep := [44, 32]) (by omega) (by omega) .shared s
     have b1 : (7 : Nat) + (Lib.join p.globals [44, 32]).length ≤ maxStr := by unfold maxStr; omega
     have b2 : (Lib.join p.globals [44, 32]).length + 1 + 1 + 1 + 1 + 1 + 1 + 1 + 1 ≤ maxStr := by unfold maxStr; omega
     have e1 := fun s a => line_first 0 ([103, 108, 111, 98, 97, 108, 32] ++ Lib.join p.globals [44, 32] ++ [59]) (by simp only [List.length_append, List.length_cons, List.length_nil]; omega) (s := s) (o := 1) a
     simp only [List.cons_append, List.nil_append, Int.cast_ofNat_Int] at e1 eg
     refine Fun.go has_print_Text rfl fun B Q hB hQ => ?_
     have ⟨hH, hJ, hY, hZ⟩ := H4_
     repeat' (first
 | simp only [go_sem, hH, hJ, hY, hZ, cm, cg, b1, b2]
 | (with_reducible refine CU (hm _) ?_)
 | (with_reducible refine CU (ej _) ?_)
 | (with_reducible refine CU (e1 _ (by with_unfolding_all rfl)) ?_)
 | (with_reducible first | refine kT_ fun hc => ?_ | refine kF_ fun hc => ?_ | refine kS_ (fun hc => ?_) fun hc => ?_) <;> (try simp only [hc, bs, ↓reduceIte] at h) <;> try simp only [hc]
 | (with_reducible refine lA_ hQ ?_; (try cases h); simp only [resL, oneD, sI_, eL_, go_sem, hH, hJ, hY, hZ, cm, cg, b1, b2]; try exact lE_)
 | (cases h; done))
     have hl := pText_loop hg hps hpl hB (R := textS p) (by simp only [textS, List.length_append]; omega) hQ (p.procs, 0, globsS p.globals) ⟨rfl, rfl, by dsimp only; omega⟩
     simp only [eg] at hl
     refine rL_ 2 1 (hl)
   | false =>
     have cg' : p.globals.length = 0 := by have := of_decide_eq_false cg; omega
     have eg : globsS p.globals = [] := by rw [globsS, if_pos cg']
     refine Fun.go has_print_Text rfl fun B Q hB hQ => ?_
     have ⟨hH, hJ, hY, hZ⟩ := H4_
     repeat' (first
 | simp only [go_sem, hH, hJ, hY, hZ, cm, cg]
 | (with_reducible refine CU (hm _) ?_)
 | (with_reducible first | refine kT_ fun hc => ?_ | refine kF_ fun hc => ?_ | refine kS_ (fun hc => ?_) fun hc => ?_) <;> (try simp only [hc, bs, ↓reduceIte] at h) <;> try simp only [hc]
 | (with_reducible refine lA_ hQ ?_; (try cases h); simp only [resL, oneD, sI_, eL_, go_sem, hH, hJ, hY, hZ, cm, cg]; try exact lE_)
 | (cases h; done))
     refine SemL.tokB 1 1 1 true rfl rfl ?_
     simp only [go_sem, hH, hJ, hY, hZ]
     have hl := pText_loop hg hps hpl hB (R := textS p) (by simp only [textS, List.length_append]; omega) hQ (p.procs, 0, globsS p.globals) ⟨rfl, rfl, by dsimp only; omega⟩
     simp only [eg] at hl
     refine rl_ 2 1 ?_ ?_ (hl)
     · (simp only [go_sem, hH, hJ, hY, hZ, bobj, encBy, List.map_nil, tWriter]; try exact lF_)
     · (simp only [go_sem, hH, hJ, hY, hZ, bobj, encBy, List.map_nil, tWriter]; try exact lF_)

end Go.Abs

/-! Ps1 -/

namespace Go.Abs

def LxF (s : Str) (pos : Nat) (l : List Tok) : Prop := ∀ r lr, Lx (pos + s.length) r lr → Lx pos (s ++ r) (l ++ lr)
theorem LxF.nil (pos : Nat) : LxF [] pos [] := fun r lr h => h
theorem LxF.app {s t : Str} {pos : Nat} {l m : List Tok} (h : LxF s pos l) (k : LxF t (pos + s.length) m) : LxF (s ++ t) pos (l ++ m) := by
 intro r lr hl
 rw [List.append_assoc, List.append_assoc]
 refine h _ _ (k _ _ ?_)
 rw [List.length_append, ← Nat.add_assoc] at hl
 exact hl
theorem LxF.blank {c : UInt8} (h : isB c = true) {t : Str} {pos : Nat} {l : List Tok} (k : LxF t (pos + 1) l) : LxF (c :: t) pos l := by
 intro r lr hl
 refine .blank _ _ _ _ h (k _ _ ?_)
 have : pos + 1 + t.length = pos + (c :: t).length := by simp; omega
 rw [this]; exact hl
theorem LxF.blanks : ∀ (n : Nat) {t : Str} {pos : Nat} {l : List Tok}, LxF t (pos + n) l → LxF (List.replicate n 32 ++ t) pos l
 | 0, t, pos, l, k => k
 | n + 1, t, pos, l, k => by
   rw [List.replicate_succ, List.cons_append]
   exact .blank (by decide) (LxF.blanks n (by rw [Nat.add_right_comm]; exact k))
theorem LxS.then {s t : Str} {c : UInt8} {pos : Nat} {l m : List Tok} (h : LxS s pos l) (k : LxF (c :: t) (pos + s.length) m) (hc : isL c = false ∧ isD c = false := by decide) : LxF (s ++ c :: t) pos (l ++ m) := by
 intro r lr hl
 rw [List.append_assoc, List.append_assoc]
 refine h _ _ hc (k _ _ ?_)
 rw [List.length_append, ← Nat.add_assoc] at hl
 exact hl
theorem LxS.behind {s t : Str} {pos : Nat} {l m : List Tok} (h : LxF s pos l) (k : LxS t (pos + s.length) m) : LxS (s ++ t) pos (l ++ m) := by
 intro r lr hr hl
 rw [List.append_assoc, List.append_assoc]
 refine h _ _ (k _ _ hr ?_)
 rw [List.length_append, ← Nat.add_assoc] at hl
 exact hl
theorem LxF.s {s : Str} {pos : Nat} {l : List Tok} (h : LxF s pos l) : LxS s pos l := fun r lr _ hl => h r lr hl

def tSg (c : UInt8) (pos : Nat) : Tok := ⟨4, [c], 0, (pos : Nat)⟩
theorem tokE_sg {c : UInt8} (hc : (c == 40 || c == 41 || c == 44 || c == 58 || c == 59 || c == 123 || c == 125) = true) (pos : Nat) (r : Str) : tokE pos (c :: r) = .inl (tSg c pos) := by
 simp only [Bool.or_eq_true, beq_iff_eq] at hc
 cases r with
 | nil => rcases hc with (((((rfl | rfl) | rfl) | rfl) | rfl) | rfl) | rfl <;> simp (decide := true) [tokE, signL, tSg]
 | cons d r =>
   rcases hc with (((((rfl | rfl) | rfl) | rfl) | rfl) | rfl) | rfl
   all_goals
     have := fun a b c : UInt8 => (rfl : sign2 [a, b] = sign2 [a, b])
     simp (decide := true) [tokE, signL, tSg, sign2]
theorem LxF.sg {c : UInt8} {t : Str} {pos : Nat} {l : List Tok} (k : LxF t (pos + 1) l) (hc : (c == 40 || c == 41 || c == 44 || c == 58 || c == 59 || c == 123 || c == 125) = true := by decide) : LxF (c :: t) pos (tSg c pos :: l) := by
 intro r lr hl
 simp only [List.cons_append]
 refine .tok' (tokE_sg hc pos _) ?_
 refine k r lr ?_
 have : pos + (tSg c pos).text.length + t.length = pos + (c :: t).length := by simp [tSg]; omega
 have e : (tSg c pos).text.length = 1 := rfl
 rw [e] at this
 rw [this]; exact hl
theorem LxF.eq {t : Str} {pos : Nat} {l : List Tok} (k : LxF t (pos + 2) l) : LxF (61 :: 32 :: t) pos (tSg 61 pos :: l) := by
 intro r lr hl
 simp only [List.cons_append]
 have : tokE pos (61 :: 32 :: (t ++ r)) = .inl (tSg 61 pos) := by simp (decide := true) [tokE, signL, tSg]
 refine .tok' this ?_
 refine .blank _ _ _ _ (by decide) ?_
 refine k r lr ?_
 have : pos + (tSg 61 pos).text.length + 1 + t.length = pos + (61 :: 32 :: t).length := by simp [tSg]; omega
 have e : (tSg 61 pos).text.length = 1 := rfl
 rw [e] at this
 have e2 : pos + 2 + t.length = pos + 1 + 1 + t.length := by omega
 rw [e2, this]; exact hl

def tNm (t : Str) (pos : Nat) : Tok := ⟨1, t, 0, (pos : Nat)⟩
theorem LxS.nm {t : Str} (ht : isName t = true) (pos : Nat) : LxS t pos [tNm t pos] := by
 intro r lr hr hl
 refine .tok' (tokE_nm ht pos hr).1 ?_
 simpa [tNm] using hl
def tWd (t : Str) (pos : Nat) : Tok := ⟨3, t, 0, (pos : Nat)⟩
theorem LxS.wd {w : Str} (pos : Nat) (h : (isWord w && w.all isL && !w.isEmpty && decide (w.length ≤ 8)) = true := by decide) : LxS w pos [tWd w pos] := by
 intro r lr hnr hl
 simp only [Bool.and_eq_true, decide_eq_true_eq, Bool.not_eq_true', List.isEmpty_eq_false_iff] at h
 obtain ⟨⟨⟨hw, ha⟩, h0⟩, h8⟩ := h
 have hrun : ∀ s : Str, s.all isL = true → runL (s ++ r) = s.length := by
   intro s
   induction s with
   | nil =>
     intro _
     cases r with
     | nil => rfl
     | cons c r => simp only [NoGo] at hnr; simp [runL, hnr.1, hnr.2]
   | cons d s ih =>
     intro hs
     simp only [List.all_cons, Bool.and_eq_true] at hs
     simp only [List.cons_append, runL, hs.1, Bool.true_or, ↓reduceIte, List.length_cons, ih hs.2]
 obtain ⟨d, s, rfl⟩ : ∃ d s, w = d :: s := by
   cases w with
   | nil => exact absurd rfl h0
   | cons d s => exact ⟨d, s, rfl⟩
 have hd : isL d = true := by
   simp only [List.all_cons, Bool.and_eq_true] at ha
   exact ha.1
 have hr := hrun _ ha
 have htk : (d :: s ++ r).take (d :: s).length = d :: s := List.take_left' rfl
 have : tokE pos (d :: s ++ r) = .inl (tWd (d :: s) pos) := by
   rw [List.cons_append] at hr htk ⊢
   simp only [tokE, hd, ↓reduceIte, hr, htk, hw]
   rw [if_neg (by omega)]
   rfl
 refine .tok' this ?_
 simpa [tWd] using hl

/-! ### Lists -/

inductive SepG {α : Type} (G : α → List Tok → Prop) : List α → List Tok → Prop
 | one (x : α) (l : List Tok) (h : G x l) : SepG G [x] l
 | cons (x : α) (l : List Tok) (c : Tok) (hc : c.kind = 4 ∧ c.text = [44]) (xs : List α) (m : List Tok) (h : G x l) (k : SepG G xs m) : SepG G (x :: xs) (l ++ c :: m)

theorem LxS.join {α : Type} (f : α → Str) (G : α → List Tok → Prop) : ∀ (xs : List α) (pos : Nat), xs ≠ [] → (∀ x ∈ xs, ∀ pos, ∃ l, LxS (f x) pos l ∧ G x l) →
   ∃ l, LxS (Lib.join (xs.map f) [44, 32]) pos l ∧ SepG G xs l
 | [x], pos, _, h => by
   obtain ⟨l, h1, h2⟩ := h x (by simp) pos
   refine ⟨l, ?_, .one x l h2⟩
   simpa [Lib.join, List.intercalate] using h1
 | x :: y :: xs, pos, _, h => by
   obtain ⟨l, h1, h2⟩ := h x (by simp) pos
   obtain ⟨m, k1, k2⟩ := LxS.join f G (y :: xs) (pos + (f x).length + 2) (by simp) (fun z hz => h z (List.mem_cons_of_mem _ hz))
   refine ⟨l ++ tSg 44 (pos + (f x).length) :: m, ?_, .cons x l _ ⟨rfl, rfl⟩ _ m h2 k2⟩
   have e : Lib.join ((x :: y :: xs).map f) [44, 32] = f x ++ 44 :: (32 :: Lib.join ((y :: xs).map f) [44, 32]) := by
     simp only [Lib.join, List.map_cons, List.intercalate_cons_cons, List.append_assoc, List.cons_append, List.nil_append]
   rw [e]
   intro r lr hr hl
   rw [List.append_assoc, List.append_assoc]
   refine h1 _ _ ⟨by decide, by decide⟩ ?_
   refine .tok' (tokE_sg (by decide) _ _) ?_
   refine .blank _ _ _ _ (by decide) ?_
   have e2 : pos + (f x).length + (tSg 44 (pos + (f x).length)).text.length + 1 = pos + (f x).length + 2 := rfl
   refine k1 r lr hr ?_
   have : pos + (f x).length + 2 + (Lib.join ((y :: xs).map f) [44, 32]).length = pos + (f x ++ 44 :: (32 :: Lib.join ((y :: xs).map f) [44, 32])).length := by simp; omega
   rw [this]; exact hl

end Go.Abs

/-! Ps2 -/

namespace Go.Abs

theorem At.name' {r : Rd} {t : Tok} {m : List Tok} (h : At r (t :: m)) (hk : t.kind = 1) {b : Bool} (hb : b = true) : r.name b = some (t.text, r.mv 1) := by rw [hb]; exact h.name hk
theorem push_ok {α : Type} {k : Nat} {l : List α} {x : α} (hl : l.length ≤ 1000000) (hk : k ≤ 1000) : push k l x = some (l ++ [x]) := by
 unfold push
 rw [if_pos]
 have : (l.length + 1) * k ≤ 1000001 * 1000 := Nat.mul_le_mul (by omega) hk
 unfold maxStr; omega

def GName (t : Str) (l : List Tok) : Prop := ∃ k : Tok, l = [k] ∧ k.kind = 1 ∧ k.text = t
theorem kd4 {t : Tok} (h : t.kind = 4) : Kd t := Kd.of h
theorem kd1 {t : Tok} (h : t.kind = 1) : Kd t := Kd.of h

theorem names_as {xs : List Str} {l : List Tok} (h : SepG GName xs l) : ∀ (r : Rd) (q : Tok) (lr : List Tok) (out : List Str) (n : Nat) (most : Int), At r (l ++ q :: lr) → q.kind = 4 → q.text = [59] → ((out.length + xs.length : Nat) : Int) ≤ most → most ≤ 1000 → xs.length ≤ n →
   Rd.names n out most r = some (out ++ xs, r.mv (l.length + 1)) := by
 induction h with
 | one x l hx =>
   intro r q lr out n most hA hq ht hm hm2 hn
   obtain ⟨k, rfl, hk, rfl⟩ := hx
   simp only [List.length_cons, List.length_nil] at hm hn
   cases n with
   | zero => omega
   | succ n =>
     have hA : At r (k :: q :: lr) := hA
     have hA1 := hA.one
     rw [Rd.names, if_pos hA.good, hA.name' hk (by simp only [decide_eq_true_eq]; omega), Option.bind_some, push_ok (by omega) (by omega), Option.bind_some, hA1.take_no (kd4 hq) (.inr (by rw [ht]; decide)), Option.bind_some]
     simp only [Bool.not_false, ↓reduceIte]
     rw [hA1.want (.inr hq) ht]
     rfl
 | cons x l c hc xs m hx _ ih =>
   intro r q lr out n most hA hq ht hm hm2 hn
   obtain ⟨k, rfl, hk, rfl⟩ := hx
   simp only [List.length_cons] at hm hn
   cases n with
   | zero => omega
   | succ n =>
     have hA : At r (k :: c :: (m ++ q :: lr)) := by simpa using hA
     have hA1 := hA.one
     rw [Rd.names, if_pos hA.good, hA.name' hk (by simp only [decide_eq_true_eq]; omega), Option.bind_some, push_ok (by omega) (by omega), Option.bind_some, hA1.take_yes (.inr hc.1) hc.2, Option.bind_some]
     simp only [Bool.not_true, Bool.false_eq_true, ↓reduceIte]
     rw [ih _ q lr (out ++ [k.text]) n most hA1.one hq ht (by simp only [List.length_append, List.length_cons, List.length_nil]; omega) hm2 (by omega)]
     simp only [List.append_assoc, List.cons_append, List.nil_append, mv_mv, List.length_append, List.length_cons, List.length_nil]
     congr 3
     omega

def GParam (a : Pm) (l : List Tok) : Prop := if a.ref then ∃ w k : Tok, l = [w, k] ∧ w.kind = 3 ∧ w.text = [114, 101, 102] ∧ k.kind = 1 ∧ k.text = a.name else GName a.name l
theorem params_as {xs : List Pm} {l : List Tok} (h : SepG GParam xs l) : ∀ (r : Rd) (q : Tok) (lr : List Tok) (out : List Pm) (n : Nat), At r (l ++ q :: lr) → q.kind = 4 → q.text = [41] → out.length + xs.length ≤ 8 → xs.length ≤ n →
   Rd.params n out r = some (out ++ xs, r.mv l.length) := by
 -- one of them
 have step : ∀ (x : Pm) (l : List Tok), GParam x l → ∀ (r : Rd) (q : Tok) (lr : List Tok) (out : List Pm), At r (l ++ q :: lr) → out.length < 8 → (r.take [114, 101, 102]).bind (fun p => (p.2.name (decide ((out.length : Int) < 8))).bind fun y => (push 25 out ⟨y.1, p.1⟩).bind fun o => some (o, y.2)) = some (out ++ [x], r.mv l.length) := by
   intro x l hx r q lr out hA ho
   obtain ⟨nm, rf⟩ := x
   unfold GParam at hx
   split at hx
   · rename_i hr
     obtain ⟨w, k, rfl, w1, w2, k1, k2⟩ := hx
     have hA : At r (w :: k :: q :: lr) := hA
     dsimp only at hr k2
     subst hr k2
     rw [hA.take_yes (.inl w1) w2, Option.bind_some]
     dsimp only
     rw [hA.one.name' k1 (by simp only [decide_eq_true_eq]; omega), Option.bind_some]
     dsimp only
     rw [push_ok (by omega) (by omega), Option.bind_some, mv_mv]
     rfl
   · rename_i hr
     obtain ⟨k, rfl, k1, k2⟩ := hx
     have hA : At r (k :: q :: lr) := hA
     have hr : rf = false := by simpa using hr
     dsimp only at k2
     subst hr k2
     rw [hA.take_no (kd1 k1) (.inl (by omega)), Option.bind_some]
     dsimp only
     rw [hA.name' k1 (by simp only [decide_eq_true_eq]; omega), Option.bind_some]
     dsimp only
     rw [push_ok (by omega) (by omega), Option.bind_some]
     rfl
 have glue : ∀ (out : List Pm) (r : Rd) (n : Nat), r.good = true → Rd.params (n + 1) out r = ((r.take [114, 101, 102]).bind (fun p => (p.2.name (decide ((out.length : Int) < 8))).bind fun y => (push 25 out ⟨y.1, p.1⟩).bind fun o => some (o, y.2))).bind fun o => (o.2.take [44]).bind fun c => if !c.1 then some (o.1, c.2) else Rd.params n o.1 c.2 := by
   intro out r n hg
   rw [Rd.params, if_pos hg]
   simp only [Option.bind_assoc, Option.bind_some]
 induction h with
 | one x l hx =>
   intro r q lr out n hA hq ht hm hn
   simp only [List.length_cons, List.length_nil] at hm hn
   cases n with
   | zero => omega
   | succ n =>
     rw [glue _ _ _ hA.good, step x l hx r q lr out hA (by omega), Option.bind_some]
     dsimp only
     rw [hA.app.take_no (kd4 hq) (.inr (by rw [ht]; decide)), Option.bind_some]
     rfl
 | cons x l c hc xs m hx _ ih =>
   intro r q lr out n hA hq ht hm hn
   simp only [List.length_cons] at hm hn
   cases n with
   | zero => omega
   | succ n =>
     have hA : At r (l ++ c :: (m ++ q :: lr)) := by simpa using hA
     rw [glue _ _ _ hA.good, step x l hx r c _ out hA (by omega), Option.bind_some]
     dsimp only
     rw [hA.app.take_yes (.inr hc.1) hc.2, Option.bind_some]
     simp only [Bool.not_true, Bool.false_eq_true, ↓reduceIte]
     rw [ih _ q lr _ n hA.app.one hq ht (by simp only [List.length_append, List.length_cons, List.length_nil]; omega) (by omega)]
     simp only [List.append_assoc, List.cons_append, List.nil_append, mv_mv, List.length_append, List.length_cons, List.length_nil]
     congr 3
     omega

theorem NoCall.first {l : List Tok} (h : NoCall l) : ∃ t l', l = t :: l' ∧ Kd t ∧ ∀ s : Str, (s == [40] || s == [45] || s == [33]) = false → (t.kind ≠ 3 ∧ t.kind ≠ 4) ∨ t.text ≠ s := by
 rcases h with ⟨t, l', rfl, h⟩ | ⟨t, rfl, h⟩ | ⟨t, u, l', rfl, h, _⟩
 · refine ⟨t, l', rfl, by rcases h with h | h; exact Kd.of h; exact Kd.of h.1, fun s hs => ?_⟩
   rcases h with h | ⟨h, h2⟩
   · exact .inl (by omega)
   · right
     rintro rfl
     rcases h2 with h2 | h2 | h2 <;> simp [h2] at hs
 · exact ⟨t, [], rfl, kd1 h, fun s _ => .inl (by omega)⟩
 · exact ⟨t, _, rfl, kd1 h, fun s _ => .inl (by omega)⟩

def GArg (a : Ar) (l : List Tok) : Prop := if a.ref then ∃ w k : Tok, l = [w, k] ∧ w.kind = 3 ∧ w.text = [114, 101, 102] ∧ k.kind = 1 ∧ k.text = a.name else WholeAs a.x l ∧ NoCall l ∧ l.length = exN 0 a.x
def arZ (a : Ar) : Ar := if a.ref then ⟨true, a.name, ex0⟩ else ⟨false, [], a.x⟩

theorem ends_sign {t : Tok} {m : List Tok} (hk : t.kind = 4) {s : Str} (ht : t.text = s) (hs : (s == [41] || s == [59] || s == [44] || s == [123] || s == [125]) = true) : Ends (t :: m) := by
 refine ⟨t, m, rfl, kd4 hk, ?_⟩
 simp only [Bool.or_eq_true, beq_iff_eq] at hs
 rcases hs with (((rfl | rfl) | rfl) | rfl) | rfl <;> simp (decide := true) [opOf, hk, ht]

theorem args_as {xs : List Ar} {l : List Tok} (h : SepG GArg xs l) : ∀ (r : Rd) (q : Tok) (lr : List Tok) (out : List Ar) (m n : Nat), At r (l ++ q :: lr) → q.kind = 4 → q.text = [41] → out.length + xs.length ≤ 1000000 → xs.length ≤ n → 3 * l.length < m →
   Rd.callL m n out r = some (out ++ xs.map arZ, r.mv l.length) := by
 have step : ∀ (x : Ar) (l : List Tok), GArg x l → ∀ (r : Rd) (q : Tok) (lr : List Tok) (out : List Ar) (m n : Nat), At r (l ++ q :: lr) → q.kind = 4 → (q.text = [41] ∨ q.text = [44]) → out.length < 1000000 → 3 * l.length < m →
     Rd.callL m (n + 1) out r = ((r.mv l.length).take [44]).bind fun c => if !c.1 then some (out ++ [arZ x], c.2) else Rd.callL m n (out ++ [arZ x]) c.2 := by
   intro x l hx r q lr out m n hA hq hqt ho hm
   obtain ⟨rf, nm, e⟩ := x
   rw [Rd.callL, if_pos hA.good]
   unfold GArg at hx
   split at hx
   · rename_i hr
     obtain ⟨w, k, rfl, w1, w2, k1, k2⟩ := hx
     have hA : At r (w :: k :: q :: lr) := hA
     dsimp only at hr k2
     subst hr k2
     rw [hA.take_yes (.inl w1) w2, Option.bind_some]
     simp only [↓reduceIte]
     rw [hA.one.name k1, Option.bind_some]
     dsimp only
     rw [push_ok (by omega) (by omega), Option.bind_some, mv_mv]
     rfl
   · rename_i hr
     obtain ⟨h1, h2, _⟩ := hx
     have hr : rf = false := by simpa using hr
     subst hr
     obtain ⟨t, l', rfl, hk, hs⟩ := h2.first
     have hA' : At r (t :: (l' ++ q :: lr)) := hA
     rw [hA'.take_no hk (hs _ (by decide)), Option.bind_some]
     simp only [Bool.false_eq_true, ↓reduceIte]
     rw [h1 r (q :: lr) m hA (by rcases hqt with h | h <;> exact ends_sign hq h (by decide)) hm, Option.bind_some]
     dsimp only
     rw [push_ok (by omega) (by omega), Option.bind_some]
     rfl
 induction h with
 | one x l hx =>
   intro r q lr out m n hA hq ht hm hn hf
   simp only [List.length_cons, List.length_nil] at hm hn
   cases n with
   | zero => omega
   | succ n =>
     rw [step x l hx r q lr out m n hA hq (.inl ht) (by omega) hf, hA.app.take_no (kd4 hq) (.inr (by rw [ht]; decide)), Option.bind_some]
     rfl
 | cons x l c hc xs k hx _ ih =>
   intro r q lr out m n hA hq ht hm hn hf
   simp only [List.length_cons, List.length_append] at hm hn hf
   cases n with
   | zero => omega
   | succ n =>
     have hA : At r (l ++ c :: (k ++ q :: lr)) := by simpa using hA
     rw [step x l hx r c _ out m n hA hc.1 (.inr hc.2) (by omega) (by omega), hA.app.take_yes (.inr hc.1) hc.2, Option.bind_some]
     simp only [Bool.not_true, Bool.false_eq_true, ↓reduceIte]
     rw [ih _ q lr _ m n hA.app.one hq ht (by simp only [List.length_append, List.length_cons, List.length_nil]; omega) (by omega) (by omega)]
     simp only [List.append_assoc, List.cons_append, List.nil_append, mv_mv, List.length_append, List.length_cons, List.length_nil, List.map_cons]
     congr 3
     omega

/-! ### Labels -/

inductive LabT : List Str → List Tok → Prop
 | nil : LabT [] []
 | cons (t c : Tok) (ls : List Str) (m : List Tok) (ht : t.kind = 1) (hc : c.kind = 4) (hc2 : c.text = [58]) (h : LabT ls m) : LabT (t.text :: ls) (t :: c :: m)
def NoLab (l : List Tok) : Prop := ∃ t l', l = t :: l' ∧ Kd t ∧ (t.kind ≠ 1 ∨ ∃ u m, l' = u :: m ∧ (u.kind ≠ 4 ∨ u.text ≠ [58]))

theorem At.ahead_no {r : Rd} {l : List Tok} (h : At r l) {s : Str} (hl : ∃ t l', l = t :: l' ∧ Kd t ∧ (t.kind ≠ 1 ∨ ∃ u m, l' = u :: m ∧ (u.kind ≠ 4 ∨ u.text ≠ s))) : r.ahead s = some false := by
 obtain ⟨t, l', rfl, hk, hl⟩ := hl
 unfold Rd.ahead
 rw [if_pos h.good, h.peek hk, Option.bind_some]
 by_cases h1 : t.kind = 1
 · rcases hl with hl | ⟨u, m, rfl, hl⟩
   · exact absurd h1 hl
   · have hg : Go.Abs.getO r.l (r.i + 1) = some u := h.one.getO
     have k1 : (t.kind == 1) = true := by simp [h1]
     rw [if_pos k1, hg, Option.bind_some]
     rcases hl with hl | hl <;> simp [hl]
 · have k1 : (t.kind == 1) = false := by simp [h1]
   rw [if_neg (by simp [h1])]
theorem At.ahead_yes {r : Rd} {t u : Tok} {m : List Tok} (h : At r (t :: u :: m)) {s : Str} (ht : t.kind = 1) (hu : u.kind = 4) (hs : u.text = s) : r.ahead s = some true := by
 unfold Rd.ahead
 have hg : Go.Abs.getO r.l (r.i + 1) = some u := h.one.getO
 have k1 : (t.kind == 1) = true := by simp [ht]
 rw [if_pos h.good, h.peek (kd1 ht), Option.bind_some, if_pos k1, hg, Option.bind_some]
 simp [hu, hs]

theorem labels_as {ls : List Str} {l : List Tok} (h : LabT ls l) : ∀ (r : Rd) (lr : List Tok) (out : List Str) (n : Nat), At r (l ++ lr) → NoLab lr → out.length + ls.length ≤ 1000000 → ls.length < n → Rd.labels n out r = some (out ++ ls, r.mv l.length) := by
 induction h with
 | nil =>
   intro r lr out n hA hN ho hn
   cases n with
   | zero => omega
   | succ n =>
     have hA : At r lr := hA
     rw [Rd.labels, hA.ahead_no hN, Option.bind_some]
     simp [Rd.mv]
 | cons t c ls m ht hc hc2 _ ih =>
   intro r lr out n hA hN ho hn
   simp only [List.length_cons] at ho hn
   cases n with
   | zero => omega
   | succ n =>
     have hA : At r (t :: c :: (m ++ lr)) := hA
     rw [Rd.labels, hA.ahead_yes ht hc hc2, Option.bind_some]
     simp only [↓reduceIte]
     rw [hA.peek (kd1 ht), Option.bind_some, push_ok (by omega) (by omega), Option.bind_some]
     have hA2 : At ({ r with i := r.i + 2 } : Rd) (m ++ lr) := hA.one.one
     rw [ih _ lr _ n hA2 hN (by simp only [List.length_append, List.length_cons, List.length_nil]; omega) (by omega)]
     simp only [List.append_assoc, List.cons_append, List.nil_append, Rd.mv, List.length_cons]
     congr 3
     omega

end Go.Abs

/-! PrMay -/

namespace Go.Abs

mutual
def Sm.rng : Sm → Prop
 | ⟨_, _, _, _, _, x, _, args, thn, els⟩ => x.rng ∧ (∀ a ∈ args, a.x.rng) ∧ Sm.rngs thn ∧ Sm.rngs els
def Sm.rngs : List Sm → Prop
 | [] => True
 | s :: l => s.rng ∧ Sm.rngs l
end
def Pg.rng (p : Pg) : Prop := ∀ f ∈ p.procs, Sm.rngs f.body
theorem Sm.rng_eq (s : Sm) : s.rng ↔ s.x.rng ∧ (∀ a ∈ s.args, a.x.rng) ∧ Sm.rngs s.thn ∧ Sm.rngs s.els := by cases s; simp only [Sm.rng]

theorem one_PrO {s : Sm} (h : s.one = true) (hx : s.x.rng) (ha : ∀ a ∈ s.args, a.x.rng) : s.PrO := by
 unfold Sm.one at h
 split at h
 · cases h
 rename_i c1
 split at h
 · cases h
 rename_i c2
 split at h
 · cases h
 rename_i c3
 split at h
 · cases h
 rename_i c4
 simp only [Bool.or_eq_true, Bool.and_eq_true, decide_eq_true_eq, Bool.not_eq_true', not_or, Bool.not_eq_false, not_and, Bool.not_eq_true] at c1 c2 c3 c4
 refine ⟨fun k => may_formI (c1.1.1.2 k) hx, fun t ht => isName_len (mayNames_mem c1.1.1.1.2 ht), ?_, ?_, fun a m => ?_, by omega, fun k => ?_⟩
 · cases hn : s.hasName with
   | true => exact isName_len (c2.1 hn)
   | false =>
     by_cases e : s.name = []
     · rw [e]; simp
     · exact isName_len (c2.2 ⟨hn, by simpa using e⟩).2
 · cases hn : s.isCall with
   | true => exact isName_len (c3.1.2 hn)
   | false =>
     have : s.proc = [] := by
       have := c3.1.1
       rw [hn] at this
       simpa using this
     rw [this]; simp
 · have hm := mays_mem c4 m
   unfold Ar.may at hm
   split at hm
   · rename_i hr
     simp only [Bool.and_eq_true] at hm
     exact ⟨isName_len hm.1, fun h => by rw [hr] at h; cases h⟩
   · simp only [Bool.and_eq_true, beq_iff_eq] at hm
     exact ⟨by rw [hm.1]; simp, fun _ => may_formI hm.2 (ha a m)⟩
 · simp only [Bool.and_eq_true, Bool.or_eq_true, beq_iff_eq] at h
   rcases h.2 with h | h
   · exact List.eq_nil_of_length_eq_zero (by omega)
   · omega

mutual
theorem mayR_PrR : ∀ (s : Sm) (inn n : Nat), (inn : Int) ≤ 12 → (Sm.mayR inn n s).1 = true → s.rng → s.PrR inn
 | ⟨id, kind, labels, name, proc, x, has, args, thn, els⟩, inn, n, h12, hm, hr => by
   obtain ⟨_, _, h1, h2, h3, _⟩ := mayR_true hm
   obtain ⟨r1, r2, r3, r4⟩ := (Sm.rng_eq _).1 hr
   rw [PrR_eq]
   have t2 := mayG_true h2
   have t3 := mayG_true h3
   rw [t2.2] at h2
   rw [t3.2] at h3
   refine ⟨one_PrO h1 r1 r2, by omega, ?_, ?_⟩
   · exact mayL_PrR thn (inn + 1) _ (t2.1.imp_right fun h => by omega) (by simpa using h2) r3
   · exact mayL_PrR els (inn + 1) _ (t3.1.imp_right fun h => by omega) (by simpa using h3) r4
theorem mayL_PrR : ∀ (l : List Sm) (inn n : Nat), (l = [] ∨ (inn : Int) ≤ 12) → (Sm.mayL inn n l).1 = true → Sm.rngs l → Sm.PrRs inn l
 | [], _, _, _, _, _ => by simp only [Sm.PrRs]
 | s :: l, inn, n, h12, hm, hr => by
   have h12 : (inn : Int) ≤ 12 := h12.resolve_left (by simp)
   simp only [Sm.mayL] at hm
   simp only [Sm.rngs] at hr
   split at hm
   · cases hm
   rename_i hc
   simp only [Bool.not_eq_true', Bool.not_eq_false] at hc
   exact ⟨mayR_PrR s inn n h12 hc hr.1, mayL_PrR l inn _ (.inr h12) hm hr.2⟩
end

theorem pmayL_mem {f : Pc} : ∀ {l : List Pc} {n : Nat}, Pc.mayL n l = true → f ∈ l → (isName f.name = true ∧ mayNames f.vars = true ∧ mayNames f.fin = true ∧ Pm.mays f.params = true) ∧ ∃ n, (Sm.mayG 1 n f.body).1 = true
 | g :: l, n, h, m => by
   simp only [Pc.mayL] at h
   split at h
   · cases h
   rename_i c1
   split at h
   · cases h
   rename_i c2
   split at h
   · cases h
   rename_i c3
   simp only [Bool.or_eq_true, Bool.not_eq_true', not_or, Bool.not_eq_false] at c1 c2 c3
   rcases List.mem_cons.1 m with rfl | m
   · exact ⟨⟨c1.1.1.2, c1.1.2, c1.2, c2⟩, n, c3⟩
   · exact pmayL_mem h m

theorem may_PrG {p : Pg} (h : p.may = true) (hr : p.rng) : p.PrG := by
 rw [← mayP_eq] at h
 unfold Pg.mayP at h
 split at h
 · cases h
 rename_i c
 simp only [Bool.or_eq_true, Bool.not_eq_true', not_or, Bool.not_eq_false] at c
 refine ⟨fun t ht => isName_len (mayNames_mem c.2 ht), fun f hf => ?_⟩
 obtain ⟨⟨a, b, c, d⟩, n, e⟩ := pmayL_mem h hf
 have t := mayG_true e
 rw [t.2] at e
 exact ⟨isName_len a, fun x hx => isName_len (pmays_mem d hx), fun x hx => isName_len (mayNames_mem b hx), fun x hx => isName_len (mayNames_mem c hx), mayL_PrR f.body 1 n (.inr (by omega)) e (hr f hf)⟩

/-! ### It is asked alike -/

mutual
theorem mayR_FineD : ∀ (s : Sm) (nest : Int) (n : Nat), (Sm.mayR nest n s).1 = true → s.size < 4611686018427387000 → s.FineD
 | ⟨id, kind, labels, name, proc, x, has, args, thn, els⟩, nest, n, hm, hs => by
   obtain ⟨_, _, h1, h2, h3, _⟩ := mayR_true hm
   rw [FineD_eq]
   rw [(mayG_true h2).2] at h2
   rw [(mayG_true h3).2] at h3
   refine ⟨one_fine h1 hs, mayL_FineD thn _ _ h2 ?_, mayL_FineD els _ _ h3 ?_⟩ <;> simp only [Sm.size] at hs <;> omega
theorem mayL_FineD : ∀ (l : List Sm) (nest : Int) (n : Nat), (Sm.mayL nest n l).1 = true → Sm.sizes l < 4611686018427387000 → Sm.FineDs l
 | [], _, _, _, _ => by simp only [Sm.FineDs]
 | s :: l, nest, n, hm, hs => by
   simp only [Sm.mayL] at hm
   simp only [Sm.sizes] at hs
   split at hm
   · cases hm
   rename_i hc
   simp only [Bool.not_eq_true', Bool.not_eq_false] at hc
   exact ⟨mayR_FineD s nest n hc (by omega), mayL_FineD l nest _ hm (by omega)⟩
end
theorem may_FineP {p : Pg} (h : p.may = true) (hs : p.size < 4611686018427387000) : p.FineP := by
 have hf := may_fine h hs
 rw [← mayP_eq] at h
 unfold Pg.mayP at h
 split at h
 · cases h
 refine ⟨hf.sz, hf.glob, hf.heads, fun f m => ?_⟩
 obtain ⟨_, n, e⟩ := pmayL_mem h m
 rw [(mayG_true e).2] at e
 have := Pc.sizes_mem m
 simp only [Pg.size] at hs
 exact mayL_FineD f.body 1 n e (by unfold Pc.size at this; omega)

mutual
theorem flatS_fine {deep inn : Int} {els : Bool} {out : List It} {i : It} : ∀ s : Sm, s.FineD → i ∈ flatS deep inn els out s → i ∈ out ∨ i.s.Fine
 | ⟨id, kind, labels, name, proc, x, has, args, thn, e⟩, hf, h => by
   simp only [flatS] at h
   simp only [Sm.FineD] at hf
   have key : i ∈ out ++ [(⟨⟨id, kind, labels, name, proc, x, has, args, thn, e⟩, deep, inn, els⟩ : It)] → i ∈ out ∨ i.s.Fine := by
     intro h
     rcases List.mem_append.1 h with h | h
     · exact .inl h
     · simp at h; subst h; exact .inr hf.1
   split at h
   · rcases flatL_fine e hf.2.2 h with h | h
     · rcases flatL_fine thn hf.2.1 h with h | h
       · exact key h
       · exact .inr h
     · exact .inr h
   · exact key h
theorem flatL_fine {deep inn : Int} {els : Bool} {out : List It} {i : It} : ∀ l : List Sm, Sm.FineDs l → i ∈ flatL deep inn els out l → i ∈ out ∨ i.s.Fine
 | [], _, h => by simp only [flatL] at h; exact .inl h
 | s :: l, hf, h => by
   simp only [flatL] at h
   simp only [Sm.FineDs] at hf
   split at h
   · rcases flatL_fine l hf.2 h with h | h
     · exact flatS_fine s hf.1 h
     · exact .inr h
   · exact .inl h
end
theorem allM_fine {i : It} : ∀ (l : List Pc) (out : List It), (∀ f ∈ l, Sm.FineDs f.body) → i ∈ allM out l → i ∈ out ∨ i.s.Fine
 | [], out, _, h => by simp only [allM] at h; exact .inl h
 | f :: l, out, hf, h => by
   have key : i ∈ out ++ f.flat → i ∈ out ∨ i.s.Fine := by
     intro h
     rcases List.mem_append.1 h with h | h
     · exact .inl h
     · rcases flatL_fine _ (hf f (List.mem_cons_self ..)) h with h | h
       · simp at h
       · exact .inr h
   simp only [allM] at h
   split at h
   · exact key h
   · rcases allM_fine l _ (fun g m => hf g (List.mem_cons_of_mem _ m)) h with h | h
     · exact key h
     · exact .inr h
theorem fineP_fine {p : Pg} (h : p.FineP) : p.Fine := ⟨h.sz, h.glob, h.heads, fun i hi => (allM_fine p.procs [] h.body hi).resolve_left (by simp)⟩

end Go.Abs

/-! Pr5 -/

namespace Go.Abs
open Go.Proofs

def muchR (x : Ex) : Int := if arityI x.op < 2 then 7 else bindB x.op
/-! ### Texts -/

def joinF (sep : Str) : Nat → List Str → Str
 | _, [] => []
 | k, a :: l => (if k = 0 then [] else sep) ++ (a ++ joinF sep (k + 1) l)
end Go.Abs

/-! Pr6 -/

namespace Go.Abs
open Go.Proofs

def lineT (s : Sm) : Str := if s.kind = 6 then [119, 104, 105, 108, 101, 32, 40] ++ prE 0 s.x ++ [41, 32, 123] else if s.kind = 5 then [105, 102, 32, 40] ++ prE 0 s.x ++ [41, 32, 123] else plainS s.kind s.name s.proc s.x s.has s.args ++ [59]

end Go.Abs

/-! Pr7 -/

namespace Go.Abs
open Go.Proofs

theorem rowS_line (inn : Nat) (s : Sm) : rowS inn s = List.replicate inn 32 ++ marksS s.labels ++ lineT s ++ [10] ++ (if s.kind = 5 ∨ s.kind = 6 then
   rowsS (inn + 1) s.thn ++ (if s.kind = 5 ∧ s.els.length ≠ 0 then List.replicate inn 32 ++ [125, 32, 101, 108, 115, 101, 32, 123, 10] ++ rowsS (inn + 1) s.els else []) ++ (List.replicate inn 32 ++ [125, 10]) else []) := by
 rw [rowS_eq]
 unfold lineT lineS
 by_cases c6 : s.kind = 6
 · simp [c6]
 · by_cases c5 : s.kind = 5
   · by_cases ce : s.els.length = 0
     · simp only [c5, ce, Int.reduceEq, ↓reduceIte, true_or, ne_eq, not_true_eq_false, and_false, List.append_assoc, List.cons_append, List.nil_append]
     · simp only [c5, ce, Int.reduceEq, ↓reduceIte, true_or, ne_eq, not_false_eq_true, and_true, List.append_assoc, List.cons_append, List.nil_append]
   · simp only [c6, c5, ↓reduceIte, or_self, List.append_assoc, List.cons_append, List.nil_append, List.append_nil]

end Go.Abs

/-! Ps3 -/

namespace Go.Abs

mutual
def Sm.z : Sm → Sm
 | ⟨_, kind, labels, name, proc, x, has, args, thn, els⟩ => ⟨0, kind, labels, name, proc, x, has, args, Sm.zs thn, Sm.zs els⟩
def Sm.zs : List Sm → List Sm
 | [] => []
 | s :: l => s.z :: Sm.zs l
end
theorem z_eq (s : Sm) : s.z = ⟨0, s.kind, s.labels, s.name, s.proc, s.x, s.has, s.args, Sm.zs s.thn, Sm.zs s.els⟩ := by cases s; simp only [Sm.z]

structure OneF (s : Sm) : Prop where
 lab : mayNames s.labels = true
 x : s.hasX = true → s.x.may = true
 x0 : s.hasX = false → s.x = ex0
 has : s.has = true → s.kind = 9
 nm : s.hasName = true → isName s.name = true
 nm0 : s.hasName = false → s.name = [] ∨ (s.isCall = true ∧ isName s.name = true)
 proc : s.isCall = true → isName s.proc = true
 call : s.isCall = false → s.proc = [] ∧ s.args = []
 args : Ar.mays s.args = true
 thn : s.thn = [] ∨ s.kind = 5 ∨ s.kind = 6
 els : s.els = [] ∨ s.kind = 5
 kind : 1 ≤ s.kind ∧ s.kind ≤ 10

theorem none_ex0 {x : Ex} (h : x.none = true) : x = ex0 := by
 obtain ⟨op, n, name, kids⟩ := x
 simp only [Ex.none, Bool.and_eq_true, beq_iff_eq] at h
 obtain ⟨⟨⟨rfl, rfl⟩, rfl⟩, h⟩ := h
 have : kids = [] := List.eq_nil_of_length_eq_zero (by omega)
 subst this; rfl
theorem one_facts {s : Sm} (h : s.one = true) : OneF s := by
 unfold Sm.one at h
 split at h
 · cases h
 rename_i c1
 split at h
 · cases h
 rename_i c2
 split at h
 · cases h
 rename_i c3
 split at h
 · cases h
 rename_i c4
 simp only [Bool.or_eq_true, Bool.and_eq_true, decide_eq_true_eq, Bool.not_eq_true', not_or, Bool.not_eq_false, not_and, Bool.not_eq_true, beq_iff_eq] at c1 c2 c3 c4 h
 refine ⟨c1.1.1.1.2, c1.1.1.2, fun k => none_ex0 (c1.1.2 k), fun k => ?_, c2.1, fun k => ?_, c3.1.2, fun k => ⟨?_, ?_⟩, c4, ?_, ?_, by omega⟩
 · have := c1.2 k; simpa using this
 · by_cases e : s.name = []
   · exact .inl e
   · exact .inr (c2.2 ⟨k, by simpa using e⟩)
 · have := c3.1.1; rw [k] at this; simpa using this
 · have := c3.2 k
   exact List.eq_nil_of_length_eq_zero (by omega)
 · rcases h.1 with (h | h) | h
   · exact .inl (List.eq_nil_of_length_eq_zero (by omega))
   · exact .inr (.inl h)
   · exact .inr (.inr h)
 · rcases h.2 with h | h
   · exact .inl (List.eq_nil_of_length_eq_zero (by omega))
   · exact .inr h
theorem arZ_may {a : Ar} (h : a.may = true) : arZ a = a := by
 obtain ⟨rf, nm, x⟩ := a
 unfold Ar.may at h
 unfold arZ
 dsimp only at h ⊢
 split at h
 · rename_i hr
   simp only [Bool.and_eq_true] at h
   rw [if_pos hr, none_ex0 h.2, hr]
 · rename_i hr
   simp only [Bool.and_eq_true, beq_iff_eq] at h
   rw [if_neg hr, h.1]
   simp at hr
   rw [hr]
theorem arZs_may {l : List Ar} (h : Ar.mays l = true) : l.map arZ = l := by
 induction l with
 | nil => rfl
 | cons a l ih =>
   simp only [Ar.mays] at h
   split at h
   · cases h
   · rename_i hc
     rw [List.map_cons, ih h, arZ_may (by simpa using hc)]

def bodyS (inn : Nat) (s : Sm) : Str := lineT s ++ ([10] ++ (if s.kind = 5 ∨ s.kind = 6 then
   rowsS (inn + 1) s.thn ++ ((if s.kind = 5 ∧ s.els.length ≠ 0 then List.replicate inn 32 ++ [125, 32, 101, 108, 115, 101, 32, 123, 10] ++ rowsS (inn + 1) s.els else []) ++ (List.replicate inn 32 ++ [125, 10])) else []))
theorem rowS_body (inn : Nat) (s : Sm) : rowS inn s = List.replicate inn 32 ++ (marksS s.labels ++ bodyS inn s) := by
 rw [rowS_line]; unfold bodyS
 simp only [List.append_assoc]

theorem At.n {r : Rd} {l : List Tok} (h : At r l) (k : Nat) : At ({ r with n := k } : Rd) l := ⟨h.d, h.c, h.s⟩
def NoW (w : Str) (l : List Tok) : Prop := ∃ t l', l = t :: l' ∧ Kd t ∧ ((t.kind ≠ 3 ∧ t.kind ≠ 4) ∨ t.text ≠ w)
abbrev NoElse (l : List Tok) : Prop := NoW [101, 108, 115, 101] l
def StmtAs (nest : Int) (n0 n1 : Nat) (s : Sm) (l : List Tok) : Prop := ∀ (r : Rd) (lr : List Tok) (m n : Nat), At r (l ++ lr) → NoElse lr → r.n = n0 → 3 * l.length < m → l.length ≤ n →
 Rd.stmt m n nest r = some ({ s.z with labels := [] }, { r.mv l.length with n := n1 })

theorem st_step {r : Rd} {t : Tok} {lr : List Tok} {m n : Nat} {nest : Int} {n0 : Nat} (hA : At r (t :: lr)) (hk : Kd t) (hn : r.n = n0) (h200 : n0 + 1 ≤ 200) (h12 : nest ≤ 12)
   (hb : (if t.kind == 1 then true else if t.kind != 3 then false
   else t.text == [105, 102] || t.text == [119, 104, 105, 108, 101] || t.text == [98, 114, 101, 97, 107] || t.text == [99, 111, 110, 116, 105, 110, 117, 101] || t.text == [114, 101, 116, 117, 114, 110] || t.text == [103, 111, 116, 111] || t.text == [114, 101, 97, 100] || t.text == [112, 114, 105, 110, 116]) = true) :
   Rd.stmt m (n + 1) nest r = (if t.kind == 1 then Rd.named m { r with n := n0 + 1 }
       else if t.text == [105, 102] then Rd.choice m n nest { r with n := n0 + 1, i := r.i + 1 }
       else if t.text == [119, 104, 105, 108, 101] then (Rd.head m { r with n := n0 + 1, i := r.i + 1 }).bind fun x => (Rd.block m n nest x.2).bind fun b => some (⟨0, 6, [], [], [], x.1, false, [], b.1, []⟩, b.2)
       else (Rd.plain m t.text { r with n := n0 + 1, i := r.i + 1 }).bind fun s => (s.2.want [59]).bind fun r => some (s.1, r)) := by
 rw [Rd.stmt]
 unfold Rd.begins
 rw [hA.peek hk, Option.bind_some, hb, Option.bind_some]
 simp only [Bool.not_true, Bool.false_eq_true, ↓reduceIte]
 have hi : inc r.n = some (n0 + 1) := by unfold inc; rw [hn, if_pos (by omega)]
 rw [hi, Option.bind_some, if_neg (by simp only [Bool.or_eq_true, decide_eq_true_eq]; omega), (hA.n (n0 + 1)).peek hk, Option.bind_some]

theorem st_word {r : Rd} {t : Tok} {lr : List Tok} {m n : Nat} {nest : Int} {n0 : Nat} {w : Str} (hA : At r (t :: lr)) (hk : t.kind = 3) (ht : t.text = w) (hn : r.n = n0) (h200 : n0 + 1 ≤ 200) (h12 : nest ≤ 12)
   (hb : (w == [98, 114, 101, 97, 107] || w == [99, 111, 110, 116, 105, 110, 117, 101] || w == [114, 101, 116, 117, 114, 110] || w == [103, 111, 116, 111] || w == [114, 101, 97, 100] || w == [112, 114, 105, 110, 116]) = true) :
   Rd.stmt m (n + 1) nest r = (Rd.plain m w { r.mv 1 with n := n0 + 1 }).bind fun s => (s.2.want [59]).bind fun r => some (s.1, r) := by
 have k1 : (t.kind == 1) = false := by simp [hk]
 have k3 : (t.kind != 3) = false := by simp [hk]
 have hw : w ≠ [105, 102] ∧ w ≠ [119, 104, 105, 108, 101] := by
   simp only [Bool.or_eq_true, beq_iff_eq] at hb
   rcases hb with ((((rfl | rfl) | rfl) | rfl) | rfl) | rfl <;> exact ⟨by decide, by decide⟩
 rw [st_step hA (Kd.of hk) hn h200 h12 (by rw [k1, k3, ht]; simp only [Bool.false_eq_true, ↓reduceIte]; simp only [Bool.or_eq_true] at hb ⊢; rcases hb with ((((h | h) | h) | h) | h) | h <;> simp [h]), k1, ht]
 simp only [Bool.false_eq_true, ↓reduceIte, beq_iff_eq, hw.1, hw.2]
 rfl

theorem mayG_nil (nest : Int) (n : Nat) : Sm.mayG nest n [] = (true, n) := by simp [Sm.mayG, gate, Sm.mayL]
theorem mayR_simple {nest : Int} {n0 : Nat} {s : Sm} (h : (Sm.mayR nest n0 s).1 = true) (ht : s.thn = []) (he : s.els = []) : (Sm.mayR nest n0 s).2 = n0 + 1 := by
 obtain ⟨_, _, _, _, _, h6⟩ := mayR_true h
 rw [h6, ht, he, mayG_nil, mayG_nil]

/-! ### One by one -/

theorem read_assign {nest : Int} {n0 : Nat} (h200 : n0 + 1 ≤ 200) (h12 : nest ≤ 12) {x : Ex} {t e q : Tok} {lx : List Tok} (ht : t.kind = 1) (he : e.kind = 4) (he2 : e.text = [61]) (hx : WholeAs x lx) (hc : NoCall lx) (hq : q.kind = 4) (hq2 : q.text = [59]) :
   ∀ (r : Rd) (lr : List Tok) (m n : Nat), At r (t :: e :: (lx ++ q :: lr)) → r.n = n0 → 3 * lx.length < m → 0 < n → Rd.stmt m n nest r = some (⟨0, 1, [], t.text, [], x, false, [], [], []⟩, { r.mv (lx.length + 3) with n := n0 + 1 }) := by
 intro r lr m n hA hn hm h0
 cases n with
 | zero => omega
 | succ n =>
   have k1 : (t.kind == 1) = true := by simp [ht]
   rw [st_step hA (kd1 ht) hn h200 h12 (by rw [k1]; rfl), if_pos k1]
   have hA := hA.n (n0 + 1)
   have hA1 := hA.one
   have hA2 := hA1.one
   unfold Rd.named
   rw [hA.name ht, Option.bind_some, hA1.is (kd4 he), Option.bind_some]
   have b0 : ((e.kind == 3 || e.kind == 4) && e.text == [40]) = false := by rw [he2]; simp
   dsimp only
   rw [b0]
   simp only [Bool.false_eq_true, ↓reduceIte]
   rw [hA1.want (.inr he) he2, Option.bind_some]
   have hno : ((({ r with n := n0 + 1 } : Rd).mv 1).mv 1).ahead [40] = some false := by
     refine hA2.ahead_no ?_
     rcases hc with ⟨a, l', rfl, h⟩ | ⟨a, rfl, h⟩ | ⟨a, u, l', rfl, h, h2⟩
     · exact ⟨a, _, rfl, by rcases h with h | h; exact Kd.of h; exact Kd.of h.1, .inl (by rcases h with h | h; omega; omega)⟩
     · exact ⟨a, _, rfl, kd1 h, .inr ⟨q, lr, rfl, .inr (by rw [hq2]; decide)⟩⟩
     · refine ⟨a, _, rfl, kd1 h, .inr ⟨u, _, rfl, .inr ?_⟩⟩
       intro hu
       by_cases hk : u.kind = 4
       · have : opOf u = (0, 0) := by simp (decide := true) [opOf, hk, hu]
         rw [this] at h2; simp at h2
       · have : opOf u = (0, 0) := by simp [opOf, hk]
         rw [this] at h2; simp at h2
   rw [hno, Option.bind_some]
   simp only [Bool.false_eq_true, ↓reduceIte]
   rw [hx _ (q :: lr) m hA2 (ends_sign hq hq2 (by decide)) hm, Option.bind_some]
   dsimp only
   rw [hA2.app.want (.inr hq) hq2, Option.bind_some]
   simp only [Rd.mv]
   congr 3
   omega

theorem args_first {xs : List Ar} {l : List Tok} (h : SepG GArg xs l) : ∃ t l', l = t :: l' ∧ Kd t ∧ ((t.kind ≠ 3 ∧ t.kind ≠ 4) ∨ t.text ≠ [41]) := by
 have one : ∀ (x : Ar) (l : List Tok), GArg x l → ∃ t l', l = t :: l' ∧ Kd t ∧ ((t.kind ≠ 3 ∧ t.kind ≠ 4) ∨ t.text ≠ [41]) := by
   intro x l hx
   unfold GArg at hx
   split at hx
   · obtain ⟨w, k, rfl, w1, w2, _⟩ := hx
     exact ⟨w, [k], rfl, Kd.of w1, .inr (by rw [w2]; decide)⟩
   · obtain ⟨t, l', e, hk, hs⟩ := hx.2.1.first
     exact ⟨t, l', e, hk, hs _ (by decide)⟩
 cases h with
 | one x l hx => exact one x l hx
 | cons x l c hc xs m hx k =>
   obtain ⟨t, l', rfl, h⟩ := one x l hx
   exact ⟨t, _, rfl, h⟩
theorem argT_len {xs : List Ar} {l : List Tok} (h : SepG GArg xs l) : xs.length ≤ l.length := by
 have one : ∀ (x : Ar) (l : List Tok), GArg x l → 0 < l.length := by
   intro x l hx
   obtain ⟨t, l', rfl, _⟩ := args_first (SepG.one x l hx)
   simp
 induction h with
 | one x l hx => have := one x l hx; simp only [List.length_cons, List.length_nil]; omega
 | cons x l c hc xs m hx k ih => simp only [List.length_cons, List.length_append]; omega

theorem read_call {nm pr : Str} {args : List Ar} {p q c : Tok} {la : List Tok} (hp : p.kind = 4) (hp2 : p.text = [40]) (ha : (args = [] ∧ la = []) ∨ SepG GArg args la) (hz : args.map arZ = args) (hq : q.kind = 4) (hq2 : q.text = [41]) (hc : c.kind = 4) (hc2 : c.text = [59]) (hal : args.length ≤ 1000000) :
   ∀ (r : Rd) (lr : List Tok) (m : Nat), At r (p :: (la ++ q :: c :: lr)) → 3 * la.length < m → Rd.call m nm pr r = some (⟨0, 4, [], nm, pr, ex0, false, args, [], []⟩, r.mv (la.length + 3)) := by
 intro r lr m hA hm
 unfold Rd.call
 rw [hA.want (.inr hp) hp2, Option.bind_some]
 have hA1 := hA.one
 rcases ha with ⟨rfl, rfl⟩ | ha
 · have hA1 : At (r.mv 1) (q :: c :: lr) := hA1
   unfold Rd.other
   rw [if_pos hA1.good, hA1.is (kd4 hq), Option.bind_some, Option.bind_some]
   have b0 : ((q.kind == 3 || q.kind == 4) && q.text == [41]) = true := by simp [hq, hq2]
   rw [b0]
   simp only [Bool.not_true, Bool.false_eq_true, ↓reduceIte]
   rw [hA1.want (.inr hq) hq2, Option.bind_some, hA1.one.want (.inr hc) hc2, Option.bind_some]
   rfl
 · have hlen := argT_len ha
   obtain ⟨t, l', e, hk, hne⟩ := args_first ha
   have hA1' : At (r.mv 1) (t :: (l' ++ q :: c :: lr)) := by rw [e] at hA1; exact hA1
   unfold Rd.other
   rw [if_pos hA1'.good, hA1'.is hk, Option.bind_some, Option.bind_some]
   have b0 : ((t.kind == 3 || t.kind == 4) && t.text == [41]) = false := by
     rcases hne with ⟨h1, h2⟩ | h
     · simp [h1, h2]
     · simp [h]
   rw [b0]
   simp only [Bool.not_false, ↓reduceIte]
   rw [args_as ha _ q (c :: lr) [] m m hA1 hq hq2 (by simpa using hal) (by omega) hm, Option.bind_some]
   dsimp only
   rw [hA1.app.want (.inr hq) hq2, Option.bind_some, hA1.app.one.want (.inr hc) hc2, Option.bind_some, hz]
   simp only [List.nil_append, mv_mv]
   congr 3
   omega

theorem read_calls {nest : Int} {n0 : Nat} (h200 : n0 + 1 ≤ 200) (h12 : nest ≤ 12) {args : List Ar} {t p q c : Tok} {la : List Tok} (ht : t.kind = 1) (hp : p.kind = 4) (hp2 : p.text = [40]) (ha : (args = [] ∧ la = []) ∨ SepG GArg args la) (hz : args.map arZ = args) (hq : q.kind = 4) (hq2 : q.text = [41]) (hc : c.kind = 4) (hc2 : c.text = [59]) (hal : args.length ≤ 1000000) :
   ∀ (r : Rd) (lr : List Tok) (m n : Nat), At r (t :: p :: (la ++ q :: c :: lr)) → r.n = n0 → 3 * la.length < m → 0 < n → Rd.stmt m n nest r = some (⟨0, 4, [], [], t.text, ex0, false, args, [], []⟩, { r.mv (la.length + 4) with n := n0 + 1 }) := by
 intro r lr m n hA hn hm h0
 cases n with
 | zero => omega
 | succ n =>
   have k1 : (t.kind == 1) = true := by simp [ht]
   rw [st_step hA (kd1 ht) hn h200 h12 (by rw [k1]; rfl), if_pos k1]
   have hA := hA.n (n0 + 1)
   have hA1 := hA.one
   unfold Rd.named
   rw [hA.name ht, Option.bind_some]
   dsimp only
   rw [hA1.is (kd4 hp), Option.bind_some]
   have b0 : ((p.kind == 3 || p.kind == 4) && p.text == [40]) = true := by simp [hp, hp2]
   rw [if_pos b0, read_call hp hp2 ha hz hq hq2 hc hc2 hal _ lr m hA1 hm]
   simp only [Rd.mv]
   congr 3
   omega
theorem read_callto {nest : Int} {n0 : Nat} (h200 : n0 + 1 ≤ 200) (h12 : nest ≤ 12) {args : List Ar} {s e t p q c : Tok} {la : List Tok} (hs : s.kind = 1) (he : e.kind = 4) (he2 : e.text = [61]) (ht : t.kind = 1) (hp : p.kind = 4) (hp2 : p.text = [40]) (ha : (args = [] ∧ la = []) ∨ SepG GArg args la) (hz : args.map arZ = args) (hq : q.kind = 4) (hq2 : q.text = [41]) (hc : c.kind = 4) (hc2 : c.text = [59]) (hal : args.length ≤ 1000000) :
   ∀ (r : Rd) (lr : List Tok) (m n : Nat), At r (s :: e :: t :: p :: (la ++ q :: c :: lr)) → r.n = n0 → 3 * la.length < m → 0 < n → Rd.stmt m n nest r = some (⟨0, 4, [], s.text, t.text, ex0, false, args, [], []⟩, { r.mv (la.length + 6) with n := n0 + 1 }) := by
 intro r lr m n hA hn hm h0
 cases n with
 | zero => omega
 | succ n =>
   have k1 : (s.kind == 1) = true := by simp [hs]
   rw [st_step hA (kd1 hs) hn h200 h12 (by rw [k1]; rfl), if_pos k1]
   have hA := hA.n (n0 + 1)
   have hA1 := hA.one
   have hA2 := hA1.one
   unfold Rd.named
   rw [hA.name hs, Option.bind_some]
   dsimp only
   rw [hA1.is (kd4 he), Option.bind_some]
   have b0 : ((e.kind == 3 || e.kind == 4) && e.text == [40]) = false := by rw [he2]; simp
   rw [if_neg (by rw [b0]; simp), hA1.want (.inr he) he2, Option.bind_some, hA2.ahead_yes ht hp hp2, Option.bind_some]
   simp only [↓reduceIte]
   rw [hA2.name ht, Option.bind_some]
   dsimp only
   rw [read_call hp hp2 ha hz hq hq2 hc hc2 hal _ lr m hA2.one hm]
   simp only [Rd.mv]
   congr 3
   omega

theorem read_word {nest : Int} {n0 : Nat} (h200 : n0 + 1 ≤ 200) (h12 : nest ≤ 12) {w q : Tok} (hw : w.kind = 3) {k : Int} (hk : (k = 7 ∧ w.text = [98, 114, 101, 97, 107]) ∨ (k = 8 ∧ w.text = [99, 111, 110, 116, 105, 110, 117, 101]) ∨ (k = 9 ∧ w.text = [114, 101, 116, 117, 114, 110])) (hq : q.kind = 4) (hq2 : q.text = [59]) :
   ∀ (r : Rd) (lr : List Tok) (m n : Nat), At r (w :: q :: lr) → r.n = n0 → 0 < n → Rd.stmt m n nest r = some (⟨0, k, [], [], [], ex0, false, [], [], []⟩, { r.mv 2 with n := n0 + 1 }) := by
 intro r lr m n hA hn h0
 cases n with
 | zero => omega
 | succ n =>
   have hA1 : At ({ r.mv 1 with n := n0 + 1 } : Rd) (q :: lr) := hA.one.n (n0 + 1)
   rcases hk with ⟨rfl, h⟩ | ⟨rfl, h⟩ | ⟨rfl, h⟩
   · rw [st_word hA hw h hn h200 h12 (by decide)]
     unfold Rd.plain
     simp only [beq_self_eq_true, ↓reduceIte, Option.bind_some]
     rw [hA1.want (.inr hq) hq2]; rfl
   · rw [st_word hA hw h hn h200 h12 (by decide)]
     unfold Rd.plain
     rw [if_neg (by decide), if_pos (by decide), Option.bind_some]
     dsimp only
     rw [hA1.want (.inr hq) hq2]; rfl
   · rw [st_word hA hw h hn h200 h12 (by decide)]
     unfold Rd.plain
     rw [if_neg (by decide), if_neg (by decide), if_pos (by decide), hA1.is (kd4 hq), Option.bind_some]
     have b0 : ((q.kind == 3 || q.kind == 4) && q.text == [59]) = true := by simp [hq, hq2]
     rw [b0]
     simp only [Bool.not_true, Bool.false_eq_true, ↓reduceIte, Option.bind_some]
     rw [hA1.want (.inr hq) hq2]; rfl
theorem read_wname {nest : Int} {n0 : Nat} (h200 : n0 + 1 ≤ 200) (h12 : nest ≤ 12) {w t q : Tok} (hw : w.kind = 3) {k : Int} (hk : (k = 10 ∧ w.text = [103, 111, 116, 111]) ∨ (k = 2 ∧ w.text = [114, 101, 97, 100])) (ht : t.kind = 1) (hq : q.kind = 4) (hq2 : q.text = [59]) :
   ∀ (r : Rd) (lr : List Tok) (m n : Nat), At r (w :: t :: q :: lr) → r.n = n0 → 0 < n → Rd.stmt m n nest r = some (⟨0, k, [], t.text, [], ex0, false, [], [], []⟩, { r.mv 3 with n := n0 + 1 }) := by
 intro r lr m n hA hn h0
 cases n with
 | zero => omega
 | succ n =>
   have hA1 : At ({ r.mv 1 with n := n0 + 1 } : Rd) (t :: q :: lr) := hA.one.n (n0 + 1)
   rcases hk with ⟨rfl, h⟩ | ⟨rfl, h⟩
   · rw [st_word hA hw h hn h200 h12 (by decide)]
     unfold Rd.plain
     rw [if_neg (by decide), if_neg (by decide), if_neg (by decide), if_pos (by decide), hA1.name ht, Option.bind_some, Option.bind_some]
     dsimp only
     rw [hA1.one.want (.inr hq) hq2]; rfl
   · rw [st_word hA hw h hn h200 h12 (by decide)]
     unfold Rd.plain
     rw [if_neg (by decide), if_neg (by decide), if_neg (by decide), if_neg (by decide), if_pos (by decide), hA1.name ht, Option.bind_some, Option.bind_some]
     dsimp only
     rw [hA1.one.want (.inr hq) hq2]; rfl
theorem read_wexpr {nest : Int} {n0 : Nat} (h200 : n0 + 1 ≤ 200) (h12 : nest ≤ 12) {w q : Tok} {x : Ex} {lx : List Tok} (hw : w.kind = 3) {k : Int} {b : Bool} (hk : (k = 3 ∧ b = false ∧ w.text = [112, 114, 105, 110, 116]) ∨ (k = 9 ∧ b = true ∧ w.text = [114, 101, 116, 117, 114, 110])) (hx : WholeAs x lx) (hc : NoCall lx) (hq : q.kind = 4) (hq2 : q.text = [59]) :
   ∀ (r : Rd) (lr : List Tok) (m n : Nat), At r (w :: (lx ++ q :: lr)) → r.n = n0 → 3 * lx.length < m → 0 < n → Rd.stmt m n nest r = some (⟨0, k, [], [], [], x, b, [], [], []⟩, { r.mv (lx.length + 2) with n := n0 + 1 }) := by
 intro r lr m n hA hn hm h0
 cases n with
 | zero => omega
 | succ n =>
   have hA1 : At ({ r.mv 1 with n := n0 + 1 } : Rd) (lx ++ q :: lr) := hA.one.n (n0 + 1)
   have fin : ∀ r' : Rd, r' = ({ r.mv 1 with n := n0 + 1 } : Rd).mv lx.length → r'.want [59] = some { r.mv (lx.length + 2) with n := n0 + 1 } := by
     intro r' e
     rw [e, hA1.app.want (.inr hq) hq2]
     simp only [Rd.mv]
     congr 2
     omega
   rcases hk with ⟨rfl, rfl, h⟩ | ⟨rfl, rfl, h⟩
   · rw [st_word hA hw h hn h200 h12 (by decide)]
     unfold Rd.plain
     rw [if_neg (by decide), if_neg (by decide), if_neg (by decide), if_neg (by decide), if_neg (by decide), if_pos (by decide), hx _ (q :: lr) m hA1 (ends_sign hq hq2 (by decide)) hm, Option.bind_some, Option.bind_some]
     dsimp only
     rw [fin _ rfl]; rfl
   · rw [st_word hA hw h hn h200 h12 (by decide)]
     unfold Rd.plain
     obtain ⟨t, l', e, hk, hs⟩ := hc.first
     have hA1' : At ({ r.mv 1 with n := n0 + 1 } : Rd) (t :: (l' ++ q :: lr)) := by rw [e] at hA1; exact hA1
     have b0 : ((t.kind == 3 || t.kind == 4) && t.text == [59]) = false := by
       rcases hs [59] (by decide) with ⟨h1, h2⟩ | h
       · simp [h1, h2]
       · simp [h]
     rw [if_neg (by decide), if_neg (by decide), if_pos (by decide), hA1'.is hk, Option.bind_some, b0]
     simp only [Bool.not_false, ↓reduceIte]
     rw [hx _ (q :: lr) m hA1 (ends_sign hq hq2 (by decide)) hm, Option.bind_some, Option.bind_some]
     dsimp only
     rw [fin _ rfl]; rfl

end Go.Abs

/-! Ps4 -/

namespace Go.Abs

def argN (a : Ar) : Nat := if a.ref then 2 else exN 0 a.x
def sepN {α : Type} (f : α → Nat) : List α → Nat
 | [] => 0
 | [a] => f a
 | a :: b :: l => f a + 1 + sepN f (b :: l)
theorem sep_len {α : Type} {G : α → List Tok → Prop} {f : α → Nat} (hG : ∀ a l, G a l → l.length = f a) {xs : List α} {l : List Tok} (h : SepG G xs l) : l.length = sepN f xs := by
 induction h with
 | one x l hx => exact hG x l hx
 | cons x l c hc xs m hx k ih =>
   cases k with
   | one y l' hy => simp only [sepN, List.length_append, List.length_cons] at ih ⊢; rw [hG x l hx, ih]; omega
   | cons y l' c' hc' ys m' hy k' => simp only [sepN, List.length_append, List.length_cons] at ih ⊢; rw [hG x l hx]; omega
theorem garg_len (a : Ar) (l : List Tok) (h : GArg a l) : l.length = argN a := by
 unfold GArg at h
 unfold argN
 split at h
 · rename_i hr; rw [if_pos hr]; obtain ⟨w, k, rfl, _⟩ := h; rfl
 · rename_i hr; rw [if_neg hr]; exact h.2.2

def plainN (kind : Int) (name : Str) (x : Ex) (has : Bool) (args : List Ar) : Nat :=
 if kind = 1 then exN 0 x + 3 else if kind = 2 then 3 else if kind = 3 then exN 0 x + 2 else if kind = 7 then 2 else if kind = 8 then 2 else if kind = 10 then 3
 else if kind = 9 then (if has then exN 0 x + 2 else 2) else (if name = [] then 0 else 2) + sepN argN args + 4

theorem StmtAs.of {nest : Int} {n0 n1 k : Nat} {s v : Sm} {l : List Tok} (h : ∀ (r : Rd) (lr : List Tok) (m n : Nat), At r (l ++ lr) → r.n = n0 → 3 * l.length < m → 0 < n → Rd.stmt m n nest r = some (v, { r.mv k with n := n1 })) (hk : k = l.length) (hv : v = { s.z with labels := [] }) (h0 : 0 < l.length) : StmtAs nest n0 n1 s l := by
 intro r lr m n hA _ hn hm hl
 rw [h r lr m n hA hn hm (by omega), hk, hv]

theorem LxF.end (pos : Nat) : LxF [59, 10] pos [tSg 59 pos] := LxF.sg (LxF.blank (by decide) (LxF.nil _))

theorem args_lx {args : List Ar} (hm : Ar.mays args = true) (hr : ∀ a ∈ args, a.x.rng) (hs : ∀ a ∈ args, a.x.size < 1000000000) (h0 : args ≠ []) (pos : Nat) : ∃ l, LxS (Lib.join (args.map argS) [44, 32]) pos l ∧ SepG GArg args l := by
 refine LxS.join argS GArg args pos h0 fun a ha pos => ?_
 have hma := mays_mem hm ha
 unfold Ar.may at hma
 unfold argS GArg
 split at hma
 · rename_i hrf
   simp only [Bool.and_eq_true] at hma
   rw [if_pos hrf]
   refine ⟨[tWd [114, 101, 102] pos, tNm a.name (pos + 4)], ?_, ?_⟩
   · have : LxF [114, 101, 102, 32] pos [tWd [114, 101, 102] pos] := LxS.then (s := [114, 101, 102]) (c := 32) (t := []) (LxS.wd pos) (LxF.blank (by decide) (LxF.nil _))
     exact LxS.behind this (LxS.nm hma.1 _)
   · simp only [hrf, ↓reduceIte]; exact ⟨_, _, rfl, rfl, rfl, rfl, rfl⟩
 · rename_i hrf
   simp only [Bool.and_eq_true, beq_iff_eq] at hma
   rw [if_neg hrf]
   have hF := may_formI hma.2 (hr a ha)
   have hd : a.x.depth ≤ 20 := by have := hma.2; simp only [Ex.may, Bool.and_eq_true, decide_eq_true_eq] at this; omega
   obtain ⟨l, g1, g2, g3, g4⟩ := pr_whole hF hd (hs a ha) pos
   refine ⟨l, g2, ?_⟩
   simp only [hrf, Bool.false_eq_true, ↓reduceIte]
   exact ⟨g3, g4, g1⟩

def StBeg (l : List Tok) : Prop := (∃ t u l', l = t :: u :: l' ∧ t.kind = 1 ∧ (u.kind ≠ 4 ∨ u.text ≠ [58])) ∨ (∃ t l', l = t :: l' ∧ t.kind = 3 ∧ t.text ≠ [125] ∧ t.text ≠ [101, 108, 115, 101] ∧ t.text ≠ [118, 97, 114])
theorem StBeg.lab {l : List Tok} (h : StBeg l) (lr : List Tok) : NoLab (l ++ lr) := by
 rcases h with ⟨t, u, l', rfl, h1, h2⟩ | ⟨t, l', rfl, h1, h2, h3⟩
 · exact ⟨t, _, rfl, kd1 h1, .inr ⟨u, _, rfl, h2⟩⟩
 · exact ⟨t, _, rfl, Kd.of h1, .inl (by omega)⟩
theorem StBeg.is {l : List Tok} (h : StBeg l) {r : Rd} {lr : List Tok} (hA : At r (l ++ lr)) : r.is [125] = some false := by
 rcases h with ⟨t, u, l', rfl, h1, h2⟩ | ⟨t, l', rfl, h1, h2, h3⟩
 · have hA : At r (t :: (u :: l' ++ lr)) := hA
   rw [hA.is (kd1 h1)]; simp [h1]
 · have hA : At r (t :: (l' ++ lr)) := hA
   rw [hA.is (Kd.of h1)]; simp [h1, h2]
theorem StBeg.els {l : List Tok} (h : StBeg l) {w : Str} (hw : w = [101, 108, 115, 101] ∨ w = [118, 97, 114]) (lr : List Tok) : NoW w (l ++ lr) := by
 rcases h with ⟨t, u, l', rfl, h1, h2⟩ | ⟨t, l', rfl, h1, h2, h3, h4⟩
 · exact ⟨t, _, rfl, kd1 h1, .inl (by omega)⟩
 · exact ⟨t, _, rfl, Kd.of h1, .inr (by rcases hw with rfl | rfl; exact h3; exact h4)⟩
theorem StBeg.pos {l : List Tok} (h : StBeg l) : 0 < l.length := by
 rcases h with ⟨t, u, l', rfl, _⟩ | ⟨t, l', rfl, _⟩ <;> simp

theorem plain_as {s : Sm} (ho : s.one = true) (hxr : s.x.rng) (har : ∀ a ∈ s.args, a.x.rng) (hs : s.size < 1000000) (k5 : s.kind ≠ 5) (k6 : s.kind ≠ 6) {nest : Int} {n0 : Nat} (h200 : n0 + 1 ≤ 200) (h12 : nest ≤ 12) (pos : Nat) :
   ∃ l, LxF (plainS s.kind s.name s.proc s.x s.has s.args ++ [59, 10]) pos l ∧ l.length = plainN s.kind s.name s.x s.has s.args ∧ StBeg l ∧ StmtAs nest n0 (n0 + 1) s l := by
 have hf := one_facts ho
 obtain ⟨id, kind, labels, name, proc, x, has, args, thn, els⟩ := s
 obtain ⟨_, hx, hx0, hhas, hnm, hnm0, hproc, hcall, hargs, hthn, hels, hkind⟩ := hf
 dsimp only at hx hx0 hhas hnm hnm0 hproc hcall hargs hthn hels hkind hxr har k5 k6 ⊢
 simp only [Sm.size] at hs
 have ht : thn = [] := hthn.resolve_right (by omega)
 have he : els = [] := hels.resolve_right (by omega)
 subst ht he
 have hF : x.may = true → FormI x ∧ x.depth ≤ 20 := fun h => ⟨may_formI h hxr, by simp only [Ex.may, Bool.and_eq_true, decide_eq_true_eq] at h; omega⟩
 have hxs : x.size < 1000000000 := by omega
 have h9 : kind ≠ 9 → has = false := fun h => by
   cases hh : has
   · rfl
   · exact absurd (hhas hh) h
 have hz : ∀ v : Sm, v = ⟨0, kind, [], name, proc, x, has, args, [], []⟩ → v = { (Sm.z ⟨id, kind, labels, name, proc, x, has, args, [], []⟩) with labels := [] } := by
   rintro v rfl; simp only [Sm.z, Sm.zs]
 have : kind = 1 ∨ kind = 2 ∨ kind = 3 ∨ kind = 4 ∨ kind = 7 ∨ kind = 8 ∨ kind = 9 ∨ kind = 10 := by omega
 rcases this with rfl | rfl | rfl | rfl | rfl | rfl | rfl | rfl
 · -- an assignment
   have hX := hF (hx rfl)
   have hn := hnm rfl
   obtain ⟨rfl, rfl⟩ := hcall rfl
   obtain rfl := h9 (by decide)
   obtain ⟨lx, g1, g2, g3, g4⟩ := pr_whole hX.1 hX.2 hxs (pos + name.length + 1 + 2)
   have e : plainS 1 name [] x false [] ++ [59, 10] = name ++ 32 :: (61 :: 32 :: (prE 0 x ++ 59 :: [10])) := by simp [plainS]
   rw [e]
   refine ⟨_, LxS.then (LxS.nm hn pos) (LxF.blank (by decide) (LxF.eq (LxS.then g2 (LxF.end _)))), ?_, ?_, ?_⟩
   · simp [plainN, g1]
   · exact .inl ⟨_, _, _, rfl, rfl, .inr (by simp [tSg])⟩
   · refine StmtAs.of (k := lx.length + 3) (fun r lr m n hA hn' hm h0 => ?_) ?_ (hz _ rfl) (by simp)
     · exact read_assign h200 h12 (t := tNm name pos) rfl rfl rfl g3 g4 (q := tSg 59 (pos + name.length + 1 + 2 + (prE 0 x).length)) rfl rfl r lr m n (by simpa using hA) hn' (by simp at hm; omega) h0
     · simp
 · -- read
   have hn := hnm rfl
   obtain ⟨rfl, rfl⟩ := hcall rfl
   obtain rfl := h9 (by decide)
   obtain rfl := hx0 rfl
   have e : plainS 2 name [] ex0 false [] ++ [59, 10] = [114, 101, 97, 100] ++ 32 :: (name ++ 59 :: [10]) := by simp [plainS]
   rw [e]
   refine ⟨_, LxS.then (LxS.wd pos) (LxF.blank (by decide) (LxS.then (LxS.nm hn _) (LxF.end _))), ?_, ?_, ?_⟩
   · simp [plainN]
   · exact .inr ⟨_, _, rfl, rfl, by simp [tWd], by simp [tWd], by simp [tWd]⟩
   · refine StmtAs.of (k := 3) (fun r lr m n hA hn' hm h0 => ?_) ?_ (hz _ rfl) (by simp)
     · exact read_wname h200 h12 (w := tWd [114, 101, 97, 100] pos) rfl (.inr ⟨rfl, rfl⟩) (t := tNm name (pos + 4 + 1)) rfl (q := tSg 59 (pos + 4 + 1 + name.length)) rfl rfl r lr m n (by simpa using hA) hn' h0
     · simp
 · -- print
   have hX := hF (hx rfl)
   obtain ⟨rfl, rfl⟩ := hcall rfl
   obtain rfl := h9 (by decide)
   have hn : name = [] := (hnm0 rfl).resolve_right (by intro h; exact absurd h.1 (by simp [Sm.isCall]))
   subst hn
   obtain ⟨lx, g1, g2, g3, g4⟩ := pr_whole hX.1 hX.2 hxs (pos + 5 + 1)
   have e : plainS 3 [] [] x false [] ++ [59, 10] = [112, 114, 105, 110, 116] ++ 32 :: (prE 0 x ++ 59 :: [10]) := by simp [plainS]
   rw [e]
   refine ⟨_, LxS.then (LxS.wd pos) (LxF.blank (by decide) (LxS.then g2 (LxF.end _))), ?_, ?_, ?_⟩
   · simp [plainN, g1]
   · exact .inr ⟨_, _, rfl, rfl, by simp [tWd], by simp [tWd], by simp [tWd]⟩
   · refine StmtAs.of (k := lx.length + 2) (fun r lr m n hA hn' hm h0 => ?_) ?_ (hz _ rfl) (by simp)
     · exact read_wexpr h200 h12 (w := tWd [112, 114, 105, 110, 116] pos) rfl (.inl ⟨rfl, rfl, rfl⟩) g3 g4 (q := tSg 59 (pos + 5 + 1 + (prE 0 x).length)) rfl rfl r lr m n (by simpa using hA) hn' (by simp at hm; omega) h0
     · simp
 · -- a call
   have hp := hproc rfl
   obtain rfl := h9 (by decide)
   obtain rfl := hx0 rfl
   have hasz := Ar.sizes_len args
   have hsz : ∀ a ∈ args, a.x.size < 1000000000 := fun a ha => by have := Ar.sizes_mem ha; omega
   have key : ∀ P : Nat, ∃ la, LxS (Lib.join (args.map argS) [44, 32]) P la ∧ ((args = [] ∧ la = []) ∨ SepG GArg args la) ∧ la.length = sepN argN args := by
     intro P
     by_cases h0 : args = []
     · subst h0
       refine ⟨[], ?_, .inl ⟨rfl, rfl⟩, rfl⟩
       simp only [List.map_nil]
       have : Lib.join [] [44, 32] = [] := by simp [Lib.join]
       rw [this]
       exact (LxF.nil _).s
     · obtain ⟨l, h1, h2⟩ := args_lx hargs har hsz h0 P
       exact ⟨l, h1, .inr h2, sep_len garg_len h2⟩
   rcases hnm0 rfl with hn | ⟨_, hn⟩
   · subst hn
     have e : plainS 4 [] proc ex0 false args ++ [59, 10] = proc ++ 40 :: (Lib.join (args.map argS) [44, 32] ++ 41 :: (59 :: [10])) := by simp [plainS, callS]
     rw [e]
     obtain ⟨la, g1, g2, g3⟩ := key (pos + proc.length + 1)
     refine ⟨_, LxS.then (LxS.nm hp pos) (LxF.sg (LxS.then g1 (LxF.sg (LxF.end _)))), ?_, ?_, ?_⟩
     · simp [plainN, g3]
     · exact .inl ⟨_, _, _, rfl, rfl, .inr (by simp [tSg])⟩
     · refine StmtAs.of (k := la.length + 4) (fun r lr m n hA hn' hm h0 => ?_) ?_ (hz _ rfl) (by simp)
       · exact read_calls h200 h12 (t := tNm proc pos) rfl (p := tSg 40 (pos + proc.length)) rfl rfl g2 (arZs_may hargs) (q := tSg 41 (pos + proc.length + 1 + (Lib.join (args.map argS) [44, 32]).length)) rfl rfl (c := tSg 59 (pos + proc.length + 1 + (Lib.join (args.map argS) [44, 32]).length + 1)) rfl rfl (by omega) r lr m n (by simpa using hA) hn' (by simp at hm; omega) h0
       · simp
   · have hne := isName_ne hn
     have e : plainS 4 name proc ex0 false args ++ [59, 10] = name ++ 32 :: (61 :: 32 :: (proc ++ 40 :: (Lib.join (args.map argS) [44, 32] ++ 41 :: (59 :: [10])))) := by simp [plainS, callS, hne]
     rw [e]
     obtain ⟨la, g1, g2, g3⟩ := key (pos + name.length + 1 + 2 + proc.length + 1)
     refine ⟨_, LxS.then (LxS.nm hn pos) (LxF.blank (by decide) (LxF.eq (LxS.then (LxS.nm hp _) (LxF.sg (LxS.then g1 (LxF.sg (LxF.end _))))))), ?_, ?_, ?_⟩
     · simp [plainN, g3, hne]; omega
     · exact .inl ⟨_, _, _, rfl, rfl, .inr (by simp [tSg])⟩
     · refine StmtAs.of (k := la.length + 6) (fun r lr m n hA hn' hm h0 => ?_) ?_ (hz _ rfl) (by simp)
       · exact read_callto h200 h12 (s := tNm name pos) rfl (e := tSg 61 (pos + name.length + 1)) rfl rfl (t := tNm proc (pos + name.length + 1 + 2)) rfl (p := tSg 40 (pos + name.length + 1 + 2 + proc.length)) rfl rfl g2 (arZs_may hargs) (q := tSg 41 (pos + name.length + 1 + 2 + proc.length + 1 + (Lib.join (args.map argS) [44, 32]).length)) rfl rfl (c := tSg 59 (pos + name.length + 1 + 2 + proc.length + 1 + (Lib.join (args.map argS) [44, 32]).length + 1)) rfl rfl (by omega) r lr m n (by simpa using hA) hn' (by simp at hm; omega) h0
       · simp
 · -- break
   obtain ⟨rfl, rfl⟩ := hcall rfl
   obtain rfl := h9 (by decide)
   obtain rfl := hx0 rfl
   have hn : name = [] := (hnm0 rfl).resolve_right (by intro h; exact absurd h.1 (by simp [Sm.isCall]))
   subst hn
   have e : plainS 7 [] [] ex0 false [] ++ [59, 10] = [98, 114, 101, 97, 107] ++ 59 :: [10] := by simp [plainS]
   rw [e]
   refine ⟨_, LxS.then (LxS.wd pos) (LxF.end _), ?_, ?_, ?_⟩
   · simp [plainN]
   · exact .inr ⟨_, _, rfl, rfl, by simp [tWd], by simp [tWd], by simp [tWd]⟩
   · refine StmtAs.of (k := 2) (fun r lr m n hA hn' hm h0 => ?_) ?_ (hz _ rfl) (by simp)
     · exact read_word h200 h12 (w := tWd [98, 114, 101, 97, 107] pos) rfl (.inl ⟨rfl, rfl⟩) (q := tSg 59 (pos + 5)) rfl rfl r lr m n (by simpa using hA) hn' h0
     · simp
 · -- continue
   obtain ⟨rfl, rfl⟩ := hcall rfl
   obtain rfl := h9 (by decide)
   obtain rfl := hx0 rfl
   have hn : name = [] := (hnm0 rfl).resolve_right (by intro h; exact absurd h.1 (by simp [Sm.isCall]))
   subst hn
   have e : plainS 8 [] [] ex0 false [] ++ [59, 10] = [99, 111, 110, 116, 105, 110, 117, 101] ++ 59 :: [10] := by simp [plainS]
   rw [e]
   refine ⟨_, LxS.then (LxS.wd pos) (LxF.end _), ?_, ?_, ?_⟩
   · simp [plainN]
   · exact .inr ⟨_, _, rfl, rfl, by simp [tWd], by simp [tWd], by simp [tWd]⟩
   · refine StmtAs.of (k := 2) (fun r lr m n hA hn' hm h0 => ?_) ?_ (hz _ rfl) (by simp)
     · exact read_word h200 h12 (w := tWd [99, 111, 110, 116, 105, 110, 117, 101] pos) rfl (.inr (.inl ⟨rfl, rfl⟩)) (q := tSg 59 (pos + 8)) rfl rfl r lr m n (by simpa using hA) hn' h0
     · simp
 · -- return
   obtain ⟨rfl, rfl⟩ := hcall rfl
   have hn : name = [] := (hnm0 rfl).resolve_right (by intro h; exact absurd h.1 (by simp [Sm.isCall]))
   subst hn
   cases has with
   | false =>
     obtain rfl := hx0 rfl
     have e : plainS 9 [] [] ex0 false [] ++ [59, 10] = [114, 101, 116, 117, 114, 110] ++ 59 :: [10] := by simp [plainS]
     rw [e]
     refine ⟨_, LxS.then (LxS.wd pos) (LxF.end _), ?_, ?_, ?_⟩
     · simp [plainN]
     · exact .inr ⟨_, _, rfl, rfl, by simp [tWd], by simp [tWd], by simp [tWd]⟩
     · refine StmtAs.of (k := 2) (fun r lr m n hA hn' hm h0 => ?_) ?_ (hz _ rfl) (by simp)
       · exact read_word h200 h12 (w := tWd [114, 101, 116, 117, 114, 110] pos) rfl (.inr (.inr ⟨rfl, rfl⟩)) (q := tSg 59 (pos + 6)) rfl rfl r lr m n (by simpa using hA) hn' h0
       · simp
   | true =>
     have hX := hF (hx rfl)
     obtain ⟨lx, g1, g2, g3, g4⟩ := pr_whole hX.1 hX.2 hxs (pos + 6 + 1)
     have e : plainS 9 [] [] x true [] ++ [59, 10] = [114, 101, 116, 117, 114, 110] ++ 32 :: (prE 0 x ++ 59 :: [10]) := by simp [plainS]
     rw [e]
     refine ⟨_, LxS.then (LxS.wd pos) (LxF.blank (by decide) (LxS.then g2 (LxF.end _))), ?_, ?_, ?_⟩
     · simp [plainN, g1]
     · exact .inr ⟨_, _, rfl, rfl, by simp [tWd], by simp [tWd], by simp [tWd]⟩
     · refine StmtAs.of (k := lx.length + 2) (fun r lr m n hA hn' hm h0 => ?_) ?_ (hz _ rfl) (by simp)
       · exact read_wexpr h200 h12 (w := tWd [114, 101, 116, 117, 114, 110] pos) rfl (.inr ⟨rfl, rfl, rfl⟩) g3 g4 (q := tSg 59 (pos + 6 + 1 + (prE 0 x).length)) rfl rfl r lr m n (by simpa using hA) hn' (by simp at hm; omega) h0
       · simp
 · -- goto
   have hn := hnm rfl
   obtain ⟨rfl, rfl⟩ := hcall rfl
   obtain rfl := h9 (by decide)
   obtain rfl := hx0 rfl
   have e : plainS 10 name [] ex0 false [] ++ [59, 10] = [103, 111, 116, 111] ++ 32 :: (name ++ 59 :: [10]) := by simp [plainS]
   rw [e]
   refine ⟨_, LxS.then (LxS.wd pos) (LxF.blank (by decide) (LxS.then (LxS.nm hn _) (LxF.end _))), ?_, ?_, ?_⟩
   · simp [plainN]
   · exact .inr ⟨_, _, rfl, rfl, by simp [tWd], by simp [tWd], by simp [tWd]⟩
   · refine StmtAs.of (k := 3) (fun r lr m n hA hn' hm h0 => ?_) ?_ (hz _ rfl) (by simp)
     · exact read_wname h200 h12 (w := tWd [103, 111, 116, 111] pos) rfl (.inl ⟨rfl, rfl⟩) (t := tNm name (pos + 4 + 1)) rfl (q := tSg 59 (pos + 4 + 1 + name.length)) rfl rfl r lr m n (by simpa using hA) hn' h0
     · simp

end Go.Abs

/-! Ps5 -/

namespace Go.Abs

mutual
def bodyN : Sm → Nat
 | ⟨_, kind, _, name, _, x, has, args, thn, els⟩ => if kind = 6 then exN 0 x + 5 + rowsN thn else if kind = 5 then exN 0 x + 5 + rowsN thn + (if els.length = 0 then 0 else rowsN els + 3) else plainN kind name x has args
def rowsN : List Sm → Nat
 | [] => 0
 | s :: l => 2 * s.labels.length + bodyN s + rowsN l
end

theorem LabT.len {ls : List Str} {l : List Tok} (h : LabT ls l) : l.length = 2 * ls.length := by
 induction h with
 | nil => rfl
 | cons t c ls m _ _ _ _ ih => simp only [List.length_cons]; omega
theorem lab_lx : ∀ {ls : List Str}, mayNames ls = true → ∀ pos, ∃ l, LxF (marksS ls) pos l ∧ LabT ls l
 | [], _, pos => ⟨[], LxF.nil _, .nil⟩
 | t :: ls, h, pos => by
   simp only [mayNames] at h
   split at h
   · cases h
   rename_i ht
   have ht : isName t = true := by simpa using ht
   obtain ⟨l, g1, g2⟩ := lab_lx h (pos + t.length + 1 + 1)
   have e : marksS (t :: ls) = t ++ 58 :: (32 :: marksS ls) := by simp [marksS]
   rw [e]
   exact ⟨_, LxS.then (LxS.nm ht pos) (LxF.sg (LxF.blank (by decide) g1)), .cons (tNm t pos) (tSg 58 (pos + t.length)) ls l rfl rfl rfl g2⟩

def RowsAs (nest : Int) (n0 n1 : Nat) (l : List Sm) (L : List Tok) : Prop := ∀ (fin : List Str) (F : List Tok) (q : Tok) (body : Bool) (r : Rd) (lr : List Tok) (m n : Nat) (out : List Sm), LabT fin F → q.kind = 4 → q.text = [125] → (body = true ∨ fin = []) →
 At r (L ++ (F ++ q :: lr)) → r.n = n0 → 3 * (L.length + F.length + 1) < m → L.length + F.length + 1 ≤ n → out.length + l.length ≤ 1000000 → fin.length ≤ 1000000 →
 Rd.rowsL m n nest body out r = some ((out ++ Sm.zs l, fin), { r.mv (L.length + F.length + 1) with n := n1 })

def RowBeg (L : List Tok) : Prop := ∀ w, (w = [101, 108, 115, 101] ∨ w = [118, 97, 114]) → ∀ lr, NoW w lr → NoW w (L ++ lr)
theorem RowBeg.nil : RowBeg [] := fun w _ lr h => h
theorem LabT.els {ls : List Str} {l : List Tok} (h : LabT ls l) : RowBeg l := by
 intro w hw lr hlr
 cases h with
 | nil => exact hlr
 | cons t c ls m ht _ _ _ => exact ⟨t, _, rfl, kd1 ht, .inl (by omega)⟩
theorem RowBeg.cons {Fs ls L : List Tok} {labs : List Str} (hF : LabT labs Fs) (hb : StBeg ls) : RowBeg (Fs ++ (ls ++ L)) := by
 intro w hw lr _
 rw [List.append_assoc, List.append_assoc]
 exact hF.els w hw _ (hb.els hw _)

theorem rows_nil (nest : Int) (n0 : Nat) : RowsAs nest n0 n0 [] [] := by
 intro fin F q body r lr m n out hF hq hq2 hb hA hn hm hl ho hf
 have hFl := hF.len
 simp only [List.length_nil] at hm hl
 cases n with
 | zero => omega
 | succ n =>
   have hA : At r (F ++ q :: lr) := hA
   rw [Rd.rowsL, if_pos hA.good, labels_as hF r (q :: lr) [] m hA ⟨q, lr, rfl, kd4 hq, .inl (by omega)⟩ (by simpa using hf) (by omega), Option.bind_some]
   dsimp only
   have hA1 := hA.app
   rw [hA1.is (kd4 hq), Option.bind_some]
   have b0 : ((q.kind == 3 || q.kind == 4) && q.text == [125]) = true := by simp [hq, hq2]
   have b1 : (body || ((([] ++ fin : List Str).length : Nat) : Int) == 0) = true := by rcases hb with rfl | rfl <;> simp
   rw [b0, b1]
   simp only [Bool.and_self, ↓reduceIte, List.nil_append, Sm.zs, List.append_nil, List.length_nil, Nat.zero_add]
   simp only [Rd.mv, ← hn, Nat.add_assoc]

theorem rows_cons {nest : Int} {n0 n1 n2 : Nat} {s : Sm} {l : List Sm} {Fs ls L : List Tok} (hF : LabT s.labels Fs) (hb : StBeg ls) (hs : StmtAs nest n0 n1 s ls) (hl : RowsAs nest n1 n2 l L) (hLb : RowBeg L) (hlab : s.labels.length ≤ 1000000) : RowsAs nest n0 n2 (s :: l) (Fs ++ (ls ++ L)) := by
 intro fin F q body r lr m n out hFin hq hq2 hbd hA hn hm hlen ho hf
 simp only [List.length_append] at hm hlen
 simp only [List.length_cons] at ho
 have hFl := hF.len
 have hbp := hb.pos
 cases n with
 | zero => omega
 | succ n =>
   have hA : At r (Fs ++ (ls ++ (L ++ (F ++ q :: lr)))) := by simpa only [List.append_assoc] using hA
   have hA1 := hA.app
   rw [Rd.rowsL, if_pos hA.good, labels_as hF r _ [] m hA (hb.lab _) (by simpa using hlab) (by omega), Option.bind_some]
   dsimp only
   rw [hb.is hA1, Option.bind_some]
   simp only [Bool.false_and, Bool.false_eq_true, ↓reduceIte]
   have hne : NoElse (L ++ (F ++ q :: lr)) := hLb _ (.inl rfl) _ (hFin.els _ (.inl rfl) _ ⟨q, lr, rfl, kd4 hq, .inr (by rw [hq2]; decide)⟩)
   rw [hs (r.mv Fs.length) (L ++ (F ++ q :: lr)) m n hA1 hne (by simpa [Rd.mv] using hn) (by omega) (by omega), Option.bind_some]
   dsimp only
   rw [push_ok (by omega) (by omega), Option.bind_some]
   have hA2 : At ({ (r.mv Fs.length).mv ls.length with n := n1 } : Rd) (L ++ (F ++ q :: lr)) := hA1.app.n n1
   rw [hl fin F q body _ lr m n _ hFin hq hq2 hbd hA2 rfl (by omega) (by omega) (by simp only [List.length_append, List.length_cons, List.length_nil]; omega) hf]
   have e : ({ ({ (Sm.z s) with labels := [] } : Sm) with labels := [] ++ s.labels } : Sm) = s.z := by rw [z_eq]; simp
   rw [e]
   simp only [List.append_assoc, List.cons_append, List.nil_append, Sm.zs, Rd.mv, List.length_append]
   congr 3
   omega

theorem block_as {nest : Int} {k n1 : Nat} {thn : List Sm} {L : List Tok} (h : RowsAs (nest + 1) k n1 thn L) (h12 : -1000 ≤ nest ∧ nest ≤ 12) (hl : thn.length ≤ 1000000) {b c : Tok} (hb : b.kind = 4) (hb2 : b.text = [123]) (hc : c.kind = 4) (hc2 : c.text = [125]) :
   ∀ (r : Rd) (lr : List Tok) (m n : Nat), At r (b :: (L ++ c :: lr)) → r.n = k → 3 * (L.length + 1) < m → L.length + 3 ≤ n → Rd.block m n nest r = some (Sm.zs thn, { r.mv (L.length + 2) with n := n1 }) := by
 intro r lr m n hA hn hm hlen
 obtain ⟨n, rfl⟩ : ∃ n', n = n' + 2 := ⟨n - 2, by omega⟩
 rw [Rd.block, hA.want (.inr hb) hb2, Option.bind_some]
 have hi : incI nest = some (nest + 1) := by unfold incI; rw [if_pos (by omega)]
 rw [hi, Option.bind_some, Rd.rows]
 rw [h [] [] c false (r.mv 1) lr m n [] .nil hc hc2 (.inr rfl) hA.one (by simpa [Rd.mv] using hn) (by simpa using hm) (by simp; omega) (by simpa using hl) (by simp), Option.bind_some]
 simp only [List.nil_append, Rd.mv, List.length_nil, Nat.add_zero]
 congr 3
 omega

theorem head_as {x : Ex} {lx : List Tok} (hx : WholeAs x lx) {p q : Tok} (hp : p.kind = 4) (hp2 : p.text = [40]) (hq : q.kind = 4) (hq2 : q.text = [41]) : ∀ (r : Rd) (lr : List Tok) (m : Nat), At r (p :: (lx ++ q :: lr)) → 3 * lx.length < m → Rd.head m r = some (x, r.mv (lx.length + 2)) := by
 intro r lr m hA hm
 unfold Rd.head
 rw [hA.want (.inr hp) hp2, Option.bind_some, hx _ (q :: lr) m hA.one (ends_sign hq hq2 (by decide)) hm, Option.bind_some]
 dsimp only
 rw [hA.one.app.want (.inr hq) hq2, Option.bind_some]
 simp only [Rd.mv]
 congr 3
 omega

theorem read_while {nest : Int} {n0 n1 : Nat} (h200 : n0 + 1 ≤ 200) (h12 : -1000 ≤ nest ∧ nest ≤ 12) {x : Ex} {lx L : List Tok} {thn : List Sm} {w p q b c : Tok} (hw : w.kind = 3) (hw2 : w.text = [119, 104, 105, 108, 101]) (hp : p.kind = 4) (hp2 : p.text = [40]) (hx : WholeAs x lx) (hq : q.kind = 4) (hq2 : q.text = [41])
   (hb : b.kind = 4) (hb2 : b.text = [123]) (hL : RowsAs (nest + 1) (n0 + 1) n1 thn L) (hl : thn.length ≤ 1000000) (hc : c.kind = 4) (hc2 : c.text = [125]) :
   ∀ (r : Rd) (lr : List Tok) (m n : Nat), At r (w :: p :: (lx ++ q :: b :: (L ++ c :: lr))) → r.n = n0 → 3 * (lx.length + L.length + 5) < m → lx.length + L.length + 5 ≤ n → Rd.stmt m n nest r = some (⟨0, 6, [], [], [], x, false, [], Sm.zs thn, []⟩, { r.mv (lx.length + L.length + 5) with n := n1 }) := by
 intro r lr m n hA hn hm hlen
 obtain ⟨n, rfl⟩ : ∃ n', n = n' + 1 := ⟨n - 1, by omega⟩
 have k1 : (w.kind == 1) = false := by simp [hw]
 have k3 : (w.kind != 3) = false := by simp [hw]
 rw [st_step hA (Kd.of hw) hn h200 h12.2 (by rw [k1, k3, hw2]; decide), k1, hw2]
 rw [if_neg (by simp), if_neg (by decide), if_pos (by decide)]
 have hA1 : At ({ r with n := n0 + 1, i := r.i + 1 } : Rd) (p :: (lx ++ q :: b :: (L ++ c :: lr))) := hA.one.n (n0 + 1)
 rw [head_as hx hp hp2 hq hq2 _ _ m hA1 (by omega), Option.bind_some]
 dsimp only
 have hA2 : At (({ r with n := n0 + 1, i := r.i + 1 } : Rd).mv (lx.length + 2)) (b :: (L ++ c :: lr)) := by
   have := hA1.one.app.one
   simpa only [mv_mv, Nat.add_comm, Nat.add_left_comm, Nat.add_assoc, Nat.reduceAdd] using this
 rw [block_as hL h12 hl hb hb2 hc hc2 _ lr m n hA2 rfl (by omega) (by omega), Option.bind_some]
 simp only [Rd.mv]
 congr 3
 omega

theorem read_if {nest : Int} {n0 n1 : Nat} (h200 : n0 + 1 ≤ 200) (h12 : -1000 ≤ nest ∧ nest ≤ 12) {x : Ex} {lx L : List Tok} {thn : List Sm} {w p q b c : Tok} (hw : w.kind = 3) (hw2 : w.text = [105, 102]) (hp : p.kind = 4) (hp2 : p.text = [40]) (hx : WholeAs x lx) (hq : q.kind = 4) (hq2 : q.text = [41])
   (hb : b.kind = 4) (hb2 : b.text = [123]) (hL : RowsAs (nest + 1) (n0 + 1) n1 thn L) (hl : thn.length ≤ 1000000) (hc : c.kind = 4) (hc2 : c.text = [125]) :
   (∀ (r : Rd) (t : Tok) (lr : List Tok) (m n : Nat), At r (w :: p :: (lx ++ q :: b :: (L ++ c :: t :: lr))) → Kd t → ((t.kind ≠ 3 ∧ t.kind ≠ 4) ∨ t.text ≠ [101, 108, 115, 101]) → r.n = n0 → 3 * (lx.length + L.length + 5) < m → lx.length + L.length + 5 ≤ n → Rd.stmt m n nest r = some (⟨0, 5, [], [], [], x, false, [], Sm.zs thn, []⟩, { r.mv (lx.length + L.length + 5) with n := n1 })) ∧
   ∀ {n2 : Nat} {E : List Tok} {els : List Sm} {e b' c' : Tok}, e.kind = 3 → e.text = [101, 108, 115, 101] → b'.kind = 4 → b'.text = [123] → RowsAs (nest + 1) n1 n2 els E → els.length ≤ 1000000 → c'.kind = 4 → c'.text = [125] →
     ∀ (r : Rd) (lr : List Tok) (m n : Nat), At r (w :: p :: (lx ++ q :: b :: (L ++ c :: e :: b' :: (E ++ c' :: lr)))) → r.n = n0 → 3 * (lx.length + L.length + E.length + 8) < m → lx.length + L.length + E.length + 8 ≤ n → Rd.stmt m n nest r = some (⟨0, 5, [], [], [], x, false, [], Sm.zs thn, Sm.zs els⟩, { r.mv (lx.length + L.length + E.length + 8) with n := n2 }) := by
 have first : ∀ (r : Rd) (t : Tok) (lr : List Tok) (m n : Nat), At r (w :: p :: (lx ++ q :: b :: (L ++ c :: t :: lr))) → r.n = n0 → 3 * (lx.length + L.length + 5) < m → lx.length + L.length + 3 ≤ n → Rd.stmt m (n + 2) nest r = ((({ r.mv (lx.length + L.length + 5) with n := n1 } : Rd).take [101, 108, 115, 101]).bind fun q => if q.1 then (Rd.block m n nest q.2).bind fun e => some (⟨0, 5, [], [], [], x, false, [], Sm.zs thn, e.1⟩, e.2) else some (⟨0, 5, [], [], [], x, false, [], Sm.zs thn, []⟩, q.2)) ∧
     At ({ r.mv (lx.length + L.length + 5) with n := n1 } : Rd) (t :: lr) := by
   intro r t lr m n hA hn hm hlen
   have k1 : (w.kind == 1) = false := by simp [hw]
   have k3 : (w.kind != 3) = false := by simp [hw]
   have hA1 : At ({ r with n := n0 + 1, i := r.i + 1 } : Rd) (p :: (lx ++ q :: b :: (L ++ c :: t :: lr))) := hA.one.n (n0 + 1)
   have hA2 : At (({ r with n := n0 + 1, i := r.i + 1 } : Rd).mv (lx.length + 2)) (b :: (L ++ c :: t :: lr)) := by
     have := hA1.one.app.one
     simpa only [mv_mv, Nat.add_comm, Nat.add_left_comm, Nat.add_assoc, Nat.reduceAdd] using this
   have hA3 : At ({ r.mv (lx.length + L.length + 5) with n := n1 } : Rd) (t :: lr) := by
     have := hA2.one.app.one.n n1
     have e : ({ (((({ r with n := n0 + 1, i := r.i + 1 } : Rd).mv (lx.length + 2)).mv 1).mv L.length).mv 1 with n := n1 } : Rd) = { r.mv (lx.length + L.length + 5) with n := n1 } := by
       simp only [Rd.mv]; congr 1; omega
     rw [e] at this; exact this
   refine ⟨?_, hA3⟩
   rw [st_step hA (Kd.of hw) hn h200 h12.2 (by rw [k1, k3, hw2]; decide), k1, hw2]
   rw [if_neg (by simp), if_pos (by decide), Rd.choice]
   rw [head_as hx hp hp2 hq hq2 _ _ m hA1 (by omega), Option.bind_some]
   dsimp only
   rw [block_as hL h12 hl hb hb2 hc hc2 _ (t :: lr) m n hA2 rfl (by omega) (by omega), Option.bind_some]
   have e : ({ (({ r with n := n0 + 1, i := r.i + 1 } : Rd).mv (lx.length + 2)).mv (L.length + 2) with n := n1 } : Rd) = { r.mv (lx.length + L.length + 5) with n := n1 } := by
     simp only [Rd.mv]; congr 1; omega
   dsimp only
   rw [e]
 refine ⟨fun r t lr m n hA hk ht hn hm hlen => ?_, fun {n2 E els e b' c'} he he2 hb' hb2' hE hel hc' hc2' r lr m n hA hn hm hlen => ?_⟩
 · obtain ⟨n, rfl⟩ : ∃ n', n = n' + 2 := ⟨n - 2, by omega⟩
   obtain ⟨h1, h2⟩ := first r t lr m n hA hn hm (by omega)
   rw [h1, h2.take_no hk ht, Option.bind_some]
   rfl
 · obtain ⟨n, rfl⟩ : ∃ n', n = n' + 2 := ⟨n - 2, by omega⟩
   obtain ⟨h1, h2⟩ := first r e _ m n hA hn (by omega) (by omega)
   rw [h1, h2.take_yes (.inl he) he2, Option.bind_some]
   simp only [↓reduceIte]
   rw [block_as hE h12 hel hb' hb2' hc' hc2' _ lr m n h2.one rfl (by omega) (by omega), Option.bind_some]
   simp only [Rd.mv]
   congr 3
   omega

/-! ### Rows -/

theorem mayL_cons {nest : Int} {n : Nat} {s : Sm} {l : List Sm} (h : (Sm.mayL nest n (s :: l)).1 = true) : (Sm.mayR nest n s).1 = true ∧ (Sm.mayL nest (Sm.mayR nest n s).2 l).1 = true ∧ (Sm.mayL nest n (s :: l)).2 = (Sm.mayL nest (Sm.mayR nest n s).2 l).2 := by
 simp only [Sm.mayL] at h ⊢
 split at h
 · cases h
 rename_i hc
 rw [if_neg hc]
 exact ⟨by simpa using hc, h, rfl⟩

mutual
theorem stmt_as : ∀ (s : Sm) (inn : Nat) (nest : Int) (n0 : Nat), (Sm.mayR nest n0 s).1 = true → s.rng → -1000 ≤ nest ∧ nest ≤ 12 → s.size < 1000000 → ∀ pos, ∃ l, LxF (bodyS inn s) pos l ∧ l.length = bodyN s ∧ StBeg l ∧ StmtAs nest n0 (Sm.mayR nest n0 s).2 s l
 | ⟨id, kind, labels, name, proc, x, has, args, thn, els⟩, inn, nest, n0, hm, hr, h12, hs, pos => by
   obtain ⟨h200, _, ho, ht, he, h2⟩ := mayR_true hm
   obtain ⟨r1, r2, r3, r4⟩ := (Sm.rng_eq _).1 hr
   have tt := mayG_true ht
   have te := mayG_true he
   rw [tt.2] at ht te he h2
   rw [te.2] at he h2
   have hf := one_facts ho
   dsimp only at r1 r2 r3 r4 ht he tt te h2
   simp only [Sm.size] at hs
   have hxs : x.size < 1000000000 := by omega
   have hH := Sm.sizes_len thn
   have hle := Sm.sizes_len els
   by_cases k6 : kind = 6
   · subst k6
     have hX := hf.x rfl
     dsimp only at hX
     have hF := may_formI hX r1
     have hd : x.depth ≤ 20 := by simp only [Ex.may, Bool.and_eq_true, decide_eq_true_eq] at hX; omega
     have hels := hf.els.resolve_right (by simp)
     dsimp only at hels
     subst hels
     have hhas : has = false := by
       cases hh : has
       · rfl
       · have := hf.has hh; simp at this
     have hcall := hf.call rfl
     have hnm : name = [] := (hf.nm0 rfl).resolve_right (by intro h; exact absurd h.1 (by simp [Sm.isCall]))
     dsimp only at hcall
     obtain ⟨rfl, rfl⟩ := hcall
     subst hhas hnm
     obtain ⟨lx, g1, g2, g3, g4⟩ := pr_whole hF hd hxs (pos + 5 + 1 + 1)
     obtain ⟨L, k1, k2, k3, k4⟩ := rows_as thn (inn + 1) (nest + 1) (n0 + 1) ht r3 (tt.1.imp_right fun h => ⟨by omega, h⟩) (by omega) (by omega) (pos + 5 + 1 + 1 + (prE 0 x).length + 1 + 1 + 1 + 1)
     have e : bodyS inn ⟨id, 6, labels, [], [], x, false, [], thn, []⟩ = [119, 104, 105, 108, 101] ++ 32 :: (40 :: (prE 0 x ++ 41 :: (32 :: (123 :: (10 :: (rowsS (inn + 1) thn ++ (List.replicate inn 32 ++ (125 :: [10]))))))))  := by
       simp [bodyS, lineT]
     rw [e]
     refine ⟨_, LxS.then (LxS.wd pos) (LxF.blank (by decide) (LxF.sg (LxS.then g2 (LxF.sg (LxF.blank (by decide) (LxF.sg (LxF.blank (by decide) (LxF.app k1 (LxF.blanks inn (LxF.sg (LxF.blank (by decide) (LxF.nil _))))))))))))  , ?_, ?_, ?_⟩
     · simp [bodyN, g1, k2]; omega
     · exact .inr ⟨_, _, rfl, rfl, by simp [tWd], by simp [tWd], by simp [tWd]⟩
     · intro r lr m n hA _ hn hm' hl
       simp only [List.length_append, List.length_cons, List.length_nil] at hm' hl
       rw [read_while h200 h12 (w := tWd [119, 104, 105, 108, 101] pos) rfl rfl (p := tSg 40 (pos + 5 + 1)) rfl rfl g3 (q := tSg 41 (pos + 5 + 1 + 1 + (prE 0 x).length)) rfl rfl (b := tSg 123 (pos + 5 + 1 + 1 + (prE 0 x).length + 1 + 1)) rfl rfl k4 (by omega) (c := tSg 125 (pos + 5 + 1 + 1 + (prE 0 x).length + 1 + 1 + 1 + 1 + (rowsS (inn + 1) thn).length + inn)) rfl rfl r lr m n (by simpa using hA) hn (by omega) (by omega)]
       rw [h2]
       simp only [Sm.z, Sm.zs, Sm.mayL, List.length_append, List.length_cons, List.length_nil, Rd.mv]
       congr 3
       omega
   · by_cases k5 : kind = 5
     · subst k5
       have hX := hf.x rfl
       dsimp only at hX
       have hF := may_formI hX r1
       have hd : x.depth ≤ 20 := by simp only [Ex.may, Bool.and_eq_true, decide_eq_true_eq] at hX; omega
       have hhas : has = false := by
         cases hh : has
         · rfl
         · have := hf.has hh; simp at this
       have hcall := hf.call rfl
       have hnm : name = [] := (hf.nm0 rfl).resolve_right (by intro h; exact absurd h.1 (by simp [Sm.isCall]))
       dsimp only at hcall
       obtain ⟨rfl, rfl⟩ := hcall
       subst hhas hnm
       obtain ⟨lx, g1, g2, g3, g4⟩ := pr_whole hF hd hxs (pos + 2 + 1 + 1)
       obtain ⟨L, k1, k2, k3, k4⟩ := rows_as thn (inn + 1) (nest + 1) (n0 + 1) ht r3 (tt.1.imp_right fun h => ⟨by omega, h⟩) (by omega) (by omega) (pos + 2 + 1 + 1 + (prE 0 x).length + 1 + 1 + 1 + 1)
       by_cases ce : els.length = 0
       · have hels : els = [] := List.eq_nil_of_length_eq_zero ce
         subst hels
         have e : bodyS inn ⟨id, 5, labels, [], [], x, false, [], thn, []⟩ = [105, 102] ++ 32 :: (40 :: (prE 0 x ++ 41 :: (32 :: (123 :: (10 :: (rowsS (inn + 1) thn ++ (List.replicate inn 32 ++ (125 :: [10]))))))))  := by
           simp [bodyS, lineT]
         rw [e]
         refine ⟨_, LxS.then (LxS.wd pos) (LxF.blank (by decide) (LxF.sg (LxS.then g2 (LxF.sg (LxF.blank (by decide) (LxF.sg (LxF.blank (by decide) (LxF.app k1 (LxF.blanks inn (LxF.sg (LxF.blank (by decide) (LxF.nil _))))))))))))  , ?_, ?_, ?_⟩
         · simp [bodyN, g1, k2]; omega
         · exact .inr ⟨_, _, rfl, rfl, by simp [tWd], by simp [tWd], by simp [tWd]⟩
         · intro r lr m n hA hNE hn hm' hl
           simp only [List.length_append, List.length_cons, List.length_nil] at hm' hl
           obtain ⟨t, lr', rfl, hk, hne⟩ := hNE
           rw [(read_if h200 h12 (w := tWd [105, 102] pos) rfl rfl (p := tSg 40 (pos + 2 + 1)) rfl rfl g3 (q := tSg 41 (pos + 2 + 1 + 1 + (prE 0 x).length)) rfl rfl (b := tSg 123 (pos + 2 + 1 + 1 + (prE 0 x).length + 1 + 1)) rfl rfl k4 (by omega) (c := tSg 125 (pos + 2 + 1 + 1 + (prE 0 x).length + 1 + 1 + 1 + 1 + (rowsS (inn + 1) thn).length + inn)) rfl rfl).1 r t lr' m n (by simpa using hA) hk hne hn (by omega) (by omega)]
           rw [h2]
           simp only [Sm.z, Sm.zs, Sm.mayL, List.length_append, List.length_cons, List.length_nil, Rd.mv]
           congr 3
           omega
       · obtain ⟨E, j1, j2, j3, j4⟩ := rows_as els (inn + 1) (nest + 1) _ he r4 (te.1.imp_right fun h => ⟨by omega, h⟩) (by omega) (by omega) (pos + 2 + 1 + 1 + (prE 0 x).length + 1 + 1 + 1 + 1 + (rowsS (inn + 1) thn).length + inn + 1 + 1 + 4 + 1 + 1 + 1)
         have e : bodyS inn ⟨id, 5, labels, [], [], x, false, [], thn, els⟩ = [105, 102] ++ 32 :: (40 :: (prE 0 x ++ 41 :: (32 :: (123 :: (10 :: (rowsS (inn + 1) thn ++ (List.replicate inn 32 ++ (125 :: (32 :: ([101, 108, 115, 101] ++ 32 :: (123 :: (10 :: (rowsS (inn + 1) els ++ (List.replicate inn 32 ++ (125 :: [10]))))))))))))))) := by
           have : els ≠ [] := fun h => ce (by rw [h]; rfl)
           simp [bodyS, lineT, this]
         rw [e]
         refine ⟨_, LxS.then (LxS.wd pos) (LxF.blank (by decide) (LxF.sg (LxS.then g2 (LxF.sg (LxF.blank (by decide) (LxF.sg (LxF.blank (by decide) (LxF.app k1 (LxF.blanks inn (LxF.sg (LxF.blank (by decide)
           (LxS.then (LxS.wd _) (LxF.blank (by decide) (LxF.sg (LxF.blank (by decide) (LxF.app j1 (LxF.blanks inn (LxF.sg (LxF.blank (by decide) (LxF.nil _)))))))))))))))))))), ?_, ?_, ?_⟩
         · simp only [bodyN, List.length_append, List.length_cons, List.length_nil, Int.reduceEq, ↓reduceIte, if_neg ce, g1, k2, j2]; omega
         · exact .inr ⟨_, _, rfl, rfl, by simp [tWd], by simp [tWd], by simp [tWd]⟩
         · intro r lr m n hA hNE hn hm' hl
           simp only [List.length_append, List.length_cons, List.length_nil] at hm' hl
           rw [(read_if h200 h12 (w := tWd [105, 102] pos) rfl rfl (p := tSg 40 (pos + 2 + 1)) rfl rfl g3 (q := tSg 41 (pos + 2 + 1 + 1 + (prE 0 x).length)) rfl rfl (b := tSg 123 (pos + 2 + 1 + 1 + (prE 0 x).length + 1 + 1)) rfl rfl k4 (by omega) (c := tSg 125 (pos + 2 + 1 + 1 + (prE 0 x).length + 1 + 1 + 1 + 1 + (rowsS (inn + 1) thn).length + inn)) rfl rfl).2
             (e := tWd [101, 108, 115, 101] (pos + 2 + 1 + 1 + (prE 0 x).length + 1 + 1 + 1 + 1 + (rowsS (inn + 1) thn).length + inn + 1 + 1)) rfl rfl (b' := tSg 123 (pos + 2 + 1 + 1 + (prE 0 x).length + 1 + 1 + 1 + 1 + (rowsS (inn + 1) thn).length + inn + 1 + 1 + 4 + 1)) rfl rfl j4 (by omega)
             (c' := tSg 125 (pos + 2 + 1 + 1 + (prE 0 x).length + 1 + 1 + 1 + 1 + (rowsS (inn + 1) thn).length + inn + 1 + 1 + 4 + 1 + 1 + 1 + (rowsS (inn + 1) els).length + inn)) rfl rfl r lr m n (by simpa using hA) hn (by omega) (by omega)]
           rw [h2]
           simp only [Sm.z, Sm.zs, Sm.mayL, List.length_append, List.length_cons, List.length_nil, Rd.mv]
           congr 3
           omega
     · obtain ⟨l, g1, g2, g3, g4⟩ := plain_as ho r1 r2 (by simp only [Sm.size]; omega) k5 k6 h200 h12.2 pos
       have ht0 : thn = [] := hf.thn.resolve_right (by dsimp only; omega)
       have he0 : els = [] := hf.els.resolve_right k5
       refine ⟨l, ?_, ?_, g3, ?_⟩
       · have e : bodyS inn ⟨id, kind, labels, name, proc, x, has, args, thn, els⟩ = plainS kind name proc x has args ++ [59, 10] := by
           unfold bodyS lineT
           dsimp only
           rw [if_neg k6, if_neg k5, if_neg (by omega)]
           simp
         rw [e]; exact g1
       · rw [g2]; simp only [bodyN, if_neg k6, if_neg k5]
       · rw [mayR_simple hm ht0 he0]; exact g4
theorem rows_as : ∀ (l : List Sm) (inn : Nat) (nest : Int) (n0 : Nat), (Sm.mayL nest n0 l).1 = true → Sm.rngs l → (l = [] ∨ (-1000 ≤ nest ∧ nest ≤ 12)) → l.length ≤ 1000000 → Sm.sizes l < 1000000 → ∀ pos, ∃ L, LxF (rowsS inn l) pos L ∧ L.length = rowsN l ∧ RowBeg L ∧ RowsAs nest n0 (Sm.mayL nest n0 l).2 l L
 | [], inn, nest, n0, _, _, _, _, _, pos => ⟨[], by simp only [rowsS]; exact LxF.nil _, by simp [rowsN], .nil, by simp only [Sm.mayL]; exact rows_nil nest n0⟩
 | s :: l, inn, nest, n0, hm, hr, h12, hln, hs, pos => by
   obtain ⟨m1, m2, m3⟩ := mayL_cons hm
   have h12 := h12.resolve_left (by simp)
   simp only [Sm.rngs] at hr
   simp only [Sm.sizes] at hs
   simp only [List.length_cons] at hln
   have hlab : s.labels.length < s.size := by cases s; simp only [Sm.size]; omega
   have hml : mayNames s.labels = true := (one_facts (mayR_true m1).2.2.1).lab
   obtain ⟨Fs, f1, f2⟩ := lab_lx hml (pos + inn)
   obtain ⟨ls, g1, g2, g3, g4⟩ := stmt_as s inn nest n0 m1 hr.1 h12 (by omega) (pos + inn + (marksS s.labels).length)
   obtain ⟨L, k1, k2, k3, k4⟩ := rows_as l inn nest _ m2 hr.2 (.inr h12) (by omega) (by omega) (pos + inn + (marksS s.labels).length + (bodyS inn s).length)
   refine ⟨Fs ++ (ls ++ L), ?_, ?_, RowBeg.cons f2 g3, ?_⟩
   · simp only [rowsS]
     rw [rowS_body]
     have e : List.replicate inn 32 ++ (marksS s.labels ++ bodyS inn s) ++ rowsS inn l = List.replicate inn 32 ++ (marksS s.labels ++ (bodyS inn s ++ rowsS inn l)) := by simp only [List.append_assoc]
     rw [e]
     exact LxF.blanks inn (LxF.app f1 (LxF.app g1 k1))
   · simp only [rowsN, List.length_append, f2.len, g2, k2]; omega
   · rw [m3]; exact rows_cons f2 g3 g4 k4 k3 (by omega)
end

end Go.Abs

/-! Pr8 -/

namespace Go.Abs
open Go.Proofs

end Go.Abs

/-! Ps6 -/

namespace Go.Abs

def parN (a : Pm) : Nat := if a.ref then 2 else 1
theorem gname_len (a : Str) (l : List Tok) (h : GName a l) : l.length = 1 := by obtain ⟨k, rfl, _⟩ := h; rfl
theorem gparam_len (a : Pm) (l : List Tok) (h : GParam a l) : l.length = parN a := by
 unfold GParam at h
 unfold parN
 split at h
 · rename_i hr; rw [if_pos hr]; obtain ⟨w, k, rfl, _⟩ := h; rfl
 · rename_i hr; rw [if_neg hr]; exact gname_len _ _ h
theorem names_lx {l : List Str} (hm : mayNames l = true) (h0 : l ≠ []) (pos : Nat) : ∃ t, LxS (Lib.join l [44, 32]) pos t ∧ SepG GName l t := by
 have := LxS.join id GName l pos h0 fun a ha pos => ⟨[tNm a pos], LxS.nm (mayNames_mem hm ha) pos, ⟨_, rfl, rfl, rfl⟩⟩
 simpa using this
theorem params_lx {l : List Pm} (hm : Pm.mays l = true) (h0 : l ≠ []) (pos : Nat) : ∃ t, LxS (Lib.join (l.map paramS) [44, 32]) pos t ∧ SepG GParam l t := by
 refine LxS.join paramS GParam l pos h0 fun a ha pos => ?_
 have hn := pmays_mem hm ha
 unfold paramS GParam
 by_cases hr : a.ref = true
 · simp only [hr, ↓reduceIte]
   have : LxF [114, 101, 102, 32] pos [tWd [114, 101, 102] pos] := LxS.then (s := [114, 101, 102]) (c := 32) (t := []) (LxS.wd pos) (LxF.blank (by decide) (LxF.nil _))
   exact ⟨_, LxS.behind this (LxS.nm hn _), ⟨_, _, rfl, rfl, rfl, rfl, rfl⟩⟩
 · simp only [hr, Bool.false_eq_true, ↓reduceIte, List.nil_append]
   exact ⟨[tNm a.name pos], LxS.nm hn pos, ⟨_, rfl, rfl, rfl⟩⟩

theorem sep_first {α : Type} {G : α → List Tok → Prop} {K : List Tok → Prop} (hG : ∀ a l m, G a l → K (l ++ m)) {xs : List α} {l : List Tok} (h : SepG G xs l) : ∀ m, K (l ++ m) := by
 cases h with
 | one x l hx => exact fun m => hG x l m hx
 | cons x l c hc xs m hx k => intro m'; rw [List.append_assoc]; exact hG x l _ hx

/-! ### Variables -/

def NamesT (w : Str) (l : List Str) (T : List Tok) : Prop := (l = [] ∧ T = []) ∨ ∃ (t q : Tok) (m : List Tok), T = t :: (m ++ [q]) ∧ t.kind = 3 ∧ t.text = w ∧ SepG GName l m ∧ q.kind = 4 ∧ q.text = [59]
def namesN (l : List Str) : Nat := if l.length = 0 then 0 else sepN (fun _ => 1) l + 2
theorem NamesT.len {w : Str} {l : List Str} {T : List Tok} (h : NamesT w l T) (h0 : ∀ m, ¬ SepG GName [] m) : T.length = namesN l := by
 rcases h with ⟨rfl, rfl⟩ | ⟨t, q, m, rfl, _, _, hs, _⟩
 · rfl
 · have : l.length ≠ 0 := by
     intro hl
     have : l = [] := List.eq_nil_of_length_eq_zero hl
     subst this
     exact h0 m hs
   unfold namesN
   rw [if_neg this]
   simp only [List.length_cons, List.length_append, List.length_nil, sep_len gname_len hs]
theorem sep_ne {α : Type} {G : α → List Tok → Prop} (m : List Tok) : ¬ SepG G [] m := by intro h; cases h

theorem sep_xs {α : Type} {G : α → List Tok → Prop} (hG : ∀ a l, G a l → 0 < l.length) {xs : List α} {l : List Tok} (h : SepG G xs l) : xs.length ≤ l.length := by
 induction h with
 | one x l hx => have := hG x l hx; simp only [List.length_cons, List.length_nil]; omega
 | cons x l c hc xs m hx k ih => simp only [List.length_cons, List.length_append]; omega

theorem vars_as {l : List Str} {T : List Tok} (h : NamesT [118, 97, 114] l T) (h16 : l.length ≤ 16) : ∀ (r : Rd) (lr : List Tok) (m n : Nat), At r (T ++ lr) → NoW [118, 97, 114] lr → T.length < m → 1 < n → Rd.vars m n [] r = some (l, r.mv T.length) := by
 intro r lr m n hA hN hm hn
 obtain ⟨n, rfl⟩ : ∃ n', n = n' + 2 := ⟨n - 2, by omega⟩
 obtain ⟨t, lr', rfl, hk, hne⟩ := hN
 rcases h with ⟨rfl, rfl⟩ | ⟨w, q, M, rfl, w1, w2, hs, q1, q2⟩
 · have hA : At r (t :: lr') := hA
   rw [Rd.vars, hA.take_no hk hne, Option.bind_some]
   rfl
 · have hA : At r (w :: (M ++ q :: (t :: lr'))) := by simpa using hA
   simp only [List.length_cons, List.length_append, List.length_nil] at hm
   have hlen := sep_xs (fun a l h => by rw [gname_len a l h]; omega) hs
   rw [Rd.vars, hA.take_yes (.inl w1) w2, Option.bind_some]
   simp only [↓reduceIte]
   rw [names_as hs _ q (t :: lr') [] m 16 hA.one q1 q2 (by simp; omega) (by omega) (by omega), Option.bind_some]
   dsimp only
   have hA2 : At ((r.mv 1).mv (M.length + 1)) (t :: lr') := by
     have := hA.one.app.one
     simpa only [mv_mv, Nat.add_assoc] using this
   rw [Rd.vars, hA2.take_no hk hne, Option.bind_some]
   simp only [Bool.false_eq_true, ↓reduceIte, List.nil_append, mv_mv, List.length_cons, List.length_append, List.length_nil]
   congr 3
   omega
theorem globals_as {l : List Str} {T : List Tok} (h : NamesT [103, 108, 111, 98, 97, 108] l T) (h16 : l.length ≤ 16) : ∀ (r : Rd) (lr : List Tok) (m n : Nat), At r (T ++ lr) → NoW [103, 108, 111, 98, 97, 108] lr → T.length < m → 1 < n → Rd.globals m n [] r = some (l, r.mv T.length) := by
 intro r lr m n hA hN hm hn
 obtain ⟨n, rfl⟩ : ∃ n', n = n' + 2 := ⟨n - 2, by omega⟩
 obtain ⟨t, lr', rfl, hk, hne⟩ := hN
 rcases h with ⟨rfl, rfl⟩ | ⟨w, q, M, rfl, w1, w2, hs, q1, q2⟩
 · have hA : At r (t :: lr') := hA
   rw [Rd.globals, hA.take_no hk hne, Option.bind_some]
   rfl
 · have hA : At r (w :: (M ++ q :: (t :: lr'))) := by simpa using hA
   simp only [List.length_cons, List.length_append, List.length_nil] at hm
   have hlen := sep_xs (fun a l h => by rw [gname_len a l h]; omega) hs
   rw [Rd.globals, hA.take_yes (.inl w1) w2, Option.bind_some]
   simp only [↓reduceIte]
   rw [names_as hs _ q (t :: lr') [] m 16 hA.one q1 q2 (by simp; omega) (by omega) (by omega), Option.bind_some]
   dsimp only
   have hA2 : At ((r.mv 1).mv (M.length + 1)) (t :: lr') := by
     have := hA.one.app.one
     simpa only [mv_mv, Nat.add_assoc] using this
   rw [Rd.globals, hA2.take_no hk hne, Option.bind_some]
   simp only [Bool.false_eq_true, ↓reduceIte, List.nil_append, mv_mv, List.length_cons, List.length_append, List.length_nil]
   congr 3
   omega

/-! ### Procedures -/

def ProcAs (n0 n1 : Nat) (f : Pc) (l : List Tok) : Prop := ∀ (r : Rd) (lr : List Tok) (m : Nat), At r (l ++ lr) → r.n = n0 → 3 * l.length + 10 < m → Rd.proc m r = some (⟨f.name, f.params, f.vars, Sm.zs f.body, f.fin⟩, { r.mv l.length with n := n1 })
def procN (f : Pc) : Nat := 6 + sepN parN f.params + namesN f.vars + rowsN f.body + 2 * f.fin.length

theorem gparam_first {a : Pm} {l m : List Tok} (h : GParam a l) : NoW [41] (l ++ m) := by
 unfold GParam at h
 split at h
 · obtain ⟨w, k, rfl, w1, w2, _⟩ := h
   exact ⟨w, _, rfl, Kd.of w1, .inr (by rw [w2]; decide)⟩
 · obtain ⟨k, rfl, k1, _⟩ := h
   exact ⟨k, _, rfl, kd1 k1, .inl (by omega)⟩

theorem proc_read {n0 n1 : Nat} {f : Pc} {t p q b c : Tok} {P V L F : List Tok} (ht : t.kind = 1) (ht2 : t.text = f.name) (hp : p.kind = 4) (hp2 : p.text = [40]) (hP : (f.params = [] ∧ P = []) ∨ SepG GParam f.params P) (h8 : f.params.length ≤ 8) (hq : q.kind = 4) (hq2 : q.text = [41]) (hb : b.kind = 4) (hb2 : b.text = [123])
   (hV : NamesT [118, 97, 114] f.vars V) (h16 : f.vars.length ≤ 16) (hL : RowsAs 1 n0 n1 f.body L) (hLb : RowBeg L) (hF : LabT f.fin F) (hc : c.kind = 4) (hc2 : c.text = [125]) (hl : f.body.length ≤ 1000000) (hfl : f.fin.length ≤ 1000000) : ProcAs n0 n1 f (t :: p :: (P ++ q :: b :: (V ++ (L ++ (F ++ [c]))))) := by
 intro r lr m hA hn hm
 simp only [List.length_cons, List.length_append, List.length_nil] at hm
 have hA : At r (t :: p :: (P ++ q :: b :: (V ++ (L ++ (F ++ c :: lr))))) := by simpa using hA
 have hA2 := hA.one.one
 have body : ∀ r1 : Rd, At r1 (V ++ (L ++ (F ++ c :: lr))) → r1.n = n0 → Rd.procB m f.name f.params r1 = some (⟨f.name, f.params, f.vars, Sm.zs f.body, f.fin⟩, { r1.mv (V.length + L.length + F.length + 1) with n := n1 }) := by
   intro r1 hA1 hn1
   unfold Rd.procB
   have hno : NoW [118, 97, 114] (L ++ (F ++ c :: lr)) := hLb _ (.inr rfl) _ (hF.els _ (.inr rfl) _ ⟨c, lr, rfl, kd4 hc, .inr (by rw [hc2]; decide)⟩)
   rw [vars_as hV h16 r1 _ m m hA1 hno (by omega) (by omega), Option.bind_some]
   dsimp only
   obtain ⟨m', rfl⟩ : ∃ m', m = m' + 1 := ⟨m - 1, by omega⟩
   rw [Rd.rows, hL f.fin F c true _ lr (m' + 1) m' [] hF hc hc2 (.inl rfl) hA1.app (by simpa [Rd.mv] using hn1) (by omega) (by omega) (by simpa using hl) hfl, Option.bind_some]
   simp only [List.nil_append, Rd.mv]
   congr 3
   omega
 unfold Rd.proc
 rw [hA.name ht, Option.bind_some]
 dsimp only
 rw [hA.one.want (.inr hp) hp2, Option.bind_some, ht2]
 rcases hP with ⟨hp0, rfl⟩ | hP
 · have hA2 : At ((r.mv 1).mv 1) (q :: b :: (V ++ (L ++ (F ++ c :: lr)))) := hA2
   unfold Rd.other
   rw [if_pos hA2.good, hA2.is (kd4 hq), Option.bind_some, Option.bind_some]
   have b0 : ((q.kind == 3 || q.kind == 4) && q.text == [41]) = true := by simp [hq, hq2]
   rw [b0]
   simp only [Bool.not_true, Bool.false_eq_true, ↓reduceIte]
   rw [hA2.want (.inr hq) hq2, Option.bind_some, hA2.one.want (.inr hb) hb2, Option.bind_some]
   have := body _ hA2.one.one (by simpa [Rd.mv] using hn)
   rw [hp0] at this ⊢
   rw [this]
   simp only [Rd.mv, List.length_cons, List.length_append, List.length_nil]
   congr 3
   omega
 · obtain ⟨t', l', e, hk, hne⟩ := sep_first (K := NoW [41]) (fun a l m h => gparam_first h) hP (q :: b :: (V ++ (L ++ (F ++ c :: lr))))
   have hA2' : At ((r.mv 1).mv 1) (t' :: l') := by rw [← e]; exact hA2
   have hpl := sep_xs (fun a l h => by rw [gparam_len a l h]; unfold parN; split <;> omega) hP
   unfold Rd.other
   rw [if_pos hA2.good, hA2'.is hk, Option.bind_some, Option.bind_some]
   have b0 : ((t'.kind == 3 || t'.kind == 4) && t'.text == [41]) = false := by
     rcases hne with ⟨h1, h2⟩ | h
     · simp [h1, h2]
     · simp [h]
   rw [b0]
   simp only [Bool.not_false, ↓reduceIte]
   rw [params_as hP _ q _ [] m hA2 hq hq2 (by simpa using h8) (by omega), Option.bind_some]
   dsimp only
   rw [hA2.app.want (.inr hq) hq2, Option.bind_some, hA2.app.one.want (.inr hb) hb2, Option.bind_some, List.nil_append]
   rw [body _ hA2.app.one.one (by simpa [Rd.mv] using hn)]
   simp only [Rd.mv, List.length_cons, List.length_append, List.length_nil]
   congr 3
   omega

theorem names_line {w : Str} (hw : (isWord w && w.all isL && !w.isEmpty && decide (w.length ≤ 8)) = true) {l : List Str} (hm : mayNames l = true) (n pos : Nat) : ∃ T, LxF (if l.length = 0 then [] else lineS n (w ++ [32] ++ Lib.join l [44, 32] ++ [59])) pos T ∧ NamesT w l T := by
 by_cases h0 : l.length = 0
 · rw [if_pos h0]
   exact ⟨[], LxF.nil _, .inl ⟨List.eq_nil_of_length_eq_zero h0, rfl⟩⟩
 · rw [if_neg h0]
   have hne : l ≠ [] := fun h => h0 (by rw [h]; rfl)
   obtain ⟨T, g1, g2⟩ := names_lx hm hne (pos + n + w.length + 1)
   have e : lineS n (w ++ [32] ++ Lib.join l [44, 32] ++ [59]) = List.replicate n 32 ++ (w ++ 32 :: (Lib.join l [44, 32] ++ 59 :: [10])) := by simp [lineS]
   rw [e]
   refine ⟨_, LxF.blanks n (LxS.then (LxS.wd (pos + n) hw) (LxF.blank (by decide) (LxS.then g1 (LxF.end _)))), .inr ⟨tWd w (pos + n), tSg 59 (pos + n + w.length + 1 + (Lib.join l [44, 32]).length), T, by simp, rfl, rfl, g2, rfl, rfl⟩⟩

theorem proc_as {f : Pc} {n0 : Nat} (hn : isName f.name = true) (hv : mayNames f.vars = true) (hfn : mayNames f.fin = true) (hp : Pm.mays f.params = true) (h8 : f.params.length ≤ 8) (h16 : f.vars.length ≤ 16) (hm : (Sm.mayL 1 n0 f.body).1 = true) (hr : Sm.rngs f.body) (hs : f.size < 1000000) (pos : Nat) :
   ∃ T, LxF (procS f) pos T ∧ ∃ t l, T = t :: l ∧ t.kind = 3 ∧ t.text = [112, 114, 111, 99] ∧ l.length + 1 = procN f ∧ ProcAs n0 (Sm.mayL 1 n0 f.body).2 f l := by
 have hfz : f.params.length + f.vars.length + f.fin.length + Sm.sizes f.body + 1 ≤ f.size := by unfold Pc.size; omega
 have hbl := Sm.sizes_len f.body
 have key : ∀ P : Nat, ∃ l, LxS (Lib.join (f.params.map paramS) [44, 32]) P l ∧ ((f.params = [] ∧ l = []) ∨ SepG GParam f.params l) ∧ l.length = sepN parN f.params := by
   intro P
   by_cases h0 : f.params = []
   · rw [h0]
     refine ⟨[], ?_, .inl ⟨rfl, rfl⟩, rfl⟩
     simp only [List.map_nil]
     have : Lib.join [] [44, 32] = [] := by simp [Lib.join]
     rw [this]
     exact (LxF.nil _).s
   · obtain ⟨l, h1, h2⟩ := params_lx hp h0 P
     exact ⟨l, h1, .inr h2, sep_len gparam_len h2⟩
 obtain ⟨P, a1, a2, a3⟩ := key (pos + 4 + 1 + f.name.length + 1)
 obtain ⟨V, v1, v2⟩ := names_line (w := [118, 97, 114]) (by decide) hv 1 (pos + 4 + 1 + f.name.length + 1 + (Lib.join (f.params.map paramS) [44, 32]).length + 1 + 1 + 1 + 1)
 obtain ⟨L, k1, k2, k3, k4⟩ := rows_as f.body 1 1 n0 hm hr (.inr (by omega)) (by omega) (by omega) (pos + 4 + 1 + f.name.length + 1 + (Lib.join (f.params.map paramS) [44, 32]).length + 1 + 1 + 1 + 1 + (if f.vars.length = 0 then [] else lineS 1 ([118, 97, 114] ++ [32] ++ Lib.join f.vars [44, 32] ++ [59])).length)
 obtain ⟨F, f1, f2⟩ := lab_lx hfn (pos + 4 + 1 + f.name.length + 1 + (Lib.join (f.params.map paramS) [44, 32]).length + 1 + 1 + 1 + 1 + (if f.vars.length = 0 then [] else lineS 1 ([118, 97, 114] ++ [32] ++ Lib.join f.vars [44, 32] ++ [59])).length + (rowsS 1 f.body).length)
 have e : procS f = [112, 114, 111, 99] ++ 32 :: (f.name ++ 40 :: (Lib.join (f.params.map paramS) [44, 32] ++ 41 :: (32 :: (123 :: (10 :: ((if f.vars.length = 0 then [] else lineS 1 ([118, 97, 114] ++ [32] ++ Lib.join f.vars [44, 32] ++ [59])) ++ (rowsS 1 f.body ++ (marksS f.fin ++ (125 :: [10]))))))))) := by
   unfold procS
   split <;> simp [lineS]
 rw [e]
 refine ⟨_, LxS.then (LxS.wd pos) (LxF.blank (by decide) (LxS.then (LxS.nm hn _) (LxF.sg (LxS.then a1 (LxF.sg (LxF.blank (by decide) (LxF.sg (LxF.blank (by decide) (LxF.app v1 (LxF.app k1 (LxF.app f1 (LxF.sg (LxF.blank (by decide) (LxF.nil _)))))))))))))), _, _, List.singleton_append, rfl, rfl, ?_, ?_⟩
 · have := v2.len (fun m => sep_ne m)
   have := f2.len
   simp only [List.nil_append, List.length_cons, List.length_append, List.length_nil, procN]; omega
 · have := proc_read (f := f) (t := tNm f.name (pos + 4 + 1)) rfl rfl (p := tSg 40 (pos + 4 + 1 + f.name.length)) rfl rfl a2 h8 (q := tSg 41 (pos + 4 + 1 + f.name.length + 1 + (Lib.join (f.params.map paramS) [44, 32]).length)) rfl rfl
     (b := tSg 123 (pos + 4 + 1 + f.name.length + 1 + (Lib.join (f.params.map paramS) [44, 32]).length + 1 + 1)) rfl rfl v2 h16 k4 k3 f2
     (c := tSg 125 (pos + 4 + 1 + f.name.length + 1 + (Lib.join (f.params.map paramS) [44, 32]).length + 1 + 1 + 1 + 1 + (if f.vars.length = 0 then [] else lineS 1 ([118, 97, 114] ++ [32] ++ Lib.join f.vars [44, 32] ++ [59])).length + (rowsS 1 f.body).length + (marksS f.fin).length)) rfl rfl (by omega) (by omega)
   simpa using this

end Go.Abs

/-! Ps7 -/

namespace Go.Abs

def Pc.z (f : Pc) : Pc := ⟨f.name, f.params, f.vars, Sm.zs f.body, f.fin⟩
def Pg.z (p : Pg) : Pg := ⟨p.globals, p.procs.map Pc.z⟩

mutual
theorem z_num : ∀ (s : Sm) (nest : Int) (n : Nat), (Sm.mayR nest n s).1 = true → Sm.num true n s.z = (s, (Sm.mayR nest n s).2)
 | ⟨id, kind, labels, name, proc, x, has, args, thn, els⟩, nest, n, hm => by
   obtain ⟨_, hid, _, h2, h3, h4⟩ := mayR_true hm
   have t2 := (mayG_true h2).2
   have t3 := (mayG_true h3).2
   rw [t2] at h2 h3 h4 t3
   rw [t3] at h3 h4
   dsimp only at hid h2 h3 h4
   simp only [Sm.z, Sm.num, zs_nums thn _ _ h2, zs_nums els _ _ h3, ↓reduceIte]
   rw [h4, ← hid]
theorem zs_nums : ∀ (l : List Sm) (nest : Int) (n : Nat), (Sm.mayL nest n l).1 = true → Sm.nums true n (Sm.zs l) = (l, (Sm.mayL nest n l).2)
 | [], nest, n, _ => by simp only [Sm.zs, Sm.nums, Sm.mayL]
 | s :: l, nest, n, hm => by
   obtain ⟨m1, m2, m3⟩ := mayL_cons hm
   simp only [Sm.zs, Sm.nums, z_num s nest n m1, zs_nums l nest _ m2, m3]
end

def ProcsAs (n0 : Nat) (l : List Pc) (L : List Tok) : Prop := ∀ (r : Rd) (e : Tok) (m n : Nat) (out : List Pc), At r (L ++ [e]) → e.kind = 0 → r.n = n0 → out.length + l.length ≤ 16 → 3 * L.length + 10 < m → l.length < n →
 ∃ n1, Rd.procs m n out r = some (out ++ l.map Pc.z, { r.mv L.length with n := n1 })
def procsN : List Pc → Nat
 | [] => 0
 | f :: l => procN f + procsN l

theorem procs_as : ∀ (l : List Pc) (n0 : Nat), Pc.mayL n0 l = true → (∀ f ∈ l, Sm.rngs f.body) → (∀ f ∈ l, f.size < 1000000) → ∀ pos, ∃ L, LxF (procsS l) pos L ∧ L.length = procsN l ∧ ProcsAs n0 l L ∧ (Pc.nums n0 (l.map Pc.z) = l) ∧ (∀ e : Tok, e.kind = 0 → NoW [103, 108, 111, 98, 97, 108] (L ++ [e]))
 | [], n0, _, _, _, pos => by
   refine ⟨[], by simp only [procsS]; exact LxF.nil _, rfl, ?_, by simp [Pc.nums], fun e he => ⟨e, [], rfl, Kd.of he, .inl (by omega)⟩⟩
   intro r e m n out hA he hn ho hm hl
   refine ⟨r.n, ?_⟩
   cases n with
   | zero => simp at hl
   | succ n =>
     have hA : At r [e] := hA
     have k3 : (e.kind == 3) = false := by simp [he]
     have k4 : (e.kind == 4) = false := by simp [he]
     rw [Rd.procs]
     unfold Rd.isProc Rd.notEnd
     rw [if_pos hA.good, hA.is (Kd.of he), Option.bind_some, k3, k4]
     simp only [Bool.or_self, Bool.false_and, Bool.false_eq_true, ↓reduceIte]
     rw [if_pos hA.good, hA.peek (Kd.of he), Option.bind_some, Option.bind_some, he]
     simp [Rd.mv]
 | f :: l, n0, h, hr, hs, pos => by
   simp only [Pc.mayL] at h
   split at h
   · cases h
   rename_i c1
   split at h
   · cases h
   rename_i c2
   split at h
   · cases h
   rename_i c3
   simp only [Bool.or_eq_true, Bool.not_eq_true', not_or, Bool.not_eq_false, decide_eq_true_eq] at c1 c2 c3
   have hg := (mayG_true c3).2
   rw [hg] at c3 h
   obtain ⟨T, g1, t, L1, rfl, g2, g3, g4, g5⟩ := proc_as (f := f) (n0 := n0) c1.1.1.2 c1.1.2 c1.2 c2 (by omega) (by omega) c3 (hr f (List.mem_cons_self ..)) (hs f (List.mem_cons_self ..)) pos
   obtain ⟨L2, k1, k2, k3, k4, k5⟩ := procs_as l _ h (fun g m => hr g (List.mem_cons_of_mem _ m)) (fun g m => hs g (List.mem_cons_of_mem _ m)) (pos + (procS f).length)
   refine ⟨(t :: L1) ++ L2, ?_, ?_, ?_, ?_, fun e he => ⟨t, _, rfl, Kd.of g2, .inr (by rw [g3]; decide)⟩⟩
   · simp only [procsS]; exact LxF.app g1 k1
   · simp only [procsN, List.length_append, List.length_cons, k2]; omega
   · intro r e m n out hA he hn ho hm hl
     simp only [List.length_append, List.length_cons] at ho hm hl
     cases n with
     | zero => omega
     | succ n =>
       have hA : At r (t :: (L1 ++ (L2 ++ [e]))) := by simpa using hA
       rw [Rd.procs]
       unfold Rd.isProc
       rw [if_pos hA.good, hA.is (Kd.of g2), Option.bind_some]
       have b0 : ((t.kind == 3 || t.kind == 4) && t.text == [112, 114, 111, 99]) = true := by simp [g2, g3]
       rw [if_pos b0, if_neg (by simp only [beq_iff_eq]; omega)]
       have e1 := g5 (r.mv 1) (L2 ++ [e]) m hA.one (by simpa [Rd.mv] using hn) (by omega)
       have e1' : Rd.proc m { r with i := r.i + 1 } = _ := e1
       rw [e1', Option.bind_some]
       dsimp only
       rw [push_ok (by omega) (by omega), Option.bind_some]
       obtain ⟨n1, e2⟩ := k3 ({ (r.mv 1).mv L1.length with n := (Sm.mayL 1 n0 f.body).2 } : Rd) e m n (out ++ [⟨f.name, f.params, f.vars, Sm.zs f.body, f.fin⟩]) (hA.one.app.n _) he rfl (by simp only [List.length_append, List.length_cons, List.length_nil]; omega) (by omega) (by omega)
       refine ⟨n1, ?_⟩
       rw [e2]
       simp only [List.map_cons, List.append_assoc, List.cons_append, List.nil_append, Pc.z, Rd.mv, List.length_append, List.length_cons]
       congr 3
       omega
   · simp only [List.map_cons, Pc.nums]
     have e1 := zs_nums f.body 1 n0 c3
     have e2 : (Pc.z f).body = Sm.zs f.body := rfl
     rw [e2, e1, k4]
     rfl

def Pg.toks (p : Pg) : Nat := namesN p.globals + procsN p.procs

theorem text_as {p : Pg} (h : p.may = true) (hr : p.rng) (hs : p.size < 1000000) : ∃ L, Lx 0 (textS p) L ∧ L.length = p.toks ∧ p.z.number = p ∧
   ∀ (r : Rd) (e : Tok) (m : Nat), At r (L ++ [e]) → e.kind = 0 → r.n = 0 → 3 * L.length + 30 < m → ∃ n1, Rd.program m r = some (p.z, { r.mv L.length with n := n1 }) := by
 rw [← mayP_eq] at h
 unfold Pg.mayP at h
 split at h
 · cases h
 rename_i c
 simp only [Bool.or_eq_true, Bool.not_eq_true', not_or, Bool.not_eq_false, decide_eq_true_eq] at c
 have hsz : ∀ f ∈ p.procs, f.size < 1000000 := fun f m => by have := Pc.sizes_mem m; simp only [Pg.size] at hs; omega
 obtain ⟨T, t1, t2⟩ := names_line (w := [103, 108, 111, 98, 97, 108]) (by decide) c.2 0 0
 obtain ⟨L, k1, k2, k3, k4, k5⟩ := procs_as p.procs 0 h hr hsz (0 + (if p.globals.length = 0 then [] else lineS 0 ([103, 108, 111, 98, 97, 108] ++ [32] ++ Lib.join p.globals [44, 32] ++ [59])).length)
 have e : textS p = (if p.globals.length = 0 then [] else lineS 0 ([103, 108, 111, 98, 97, 108] ++ [32] ++ Lib.join p.globals [44, 32] ++ [59])) ++ procsS p.procs := rfl
 refine ⟨T ++ L, ?_, ?_, ?_, ?_⟩
 · rw [e]
   have := LxF.app t1 k1 [] [] (.nil _)
   simpa using this
 · rw [List.length_append, t2.len (fun m => sep_ne m), k2]; rfl
 · unfold Pg.number Pg.z
   dsimp only
   rw [k4]
 · intro r e m hA he hn hm
   simp only [List.length_append] at hm
   have hA : At r (T ++ (L ++ [e])) := by simpa using hA
   have hlp : p.procs.length ≤ 16 := by omega
   unfold Rd.program
   rw [globals_as t2 (by omega) r _ m m hA (k5 e he) (by omega) (by omega), Option.bind_some]
   dsimp only
   obtain ⟨n1, e2⟩ := k3 (r.mv T.length) e m m [] hA.app he (by simpa [Rd.mv] using hn) (by simpa using hlp) (by omega) (by omega)
   refine ⟨n1, ?_⟩
   rw [e2, Option.bind_some]
   simp only [List.nil_append, Pg.z, Rd.mv, List.length_append]
   congr 3
   omega

theorem text_parse {p : Pg} (hp : p.may = true) (hpr : p.rng) (hps : p.size < 1000000) (hl : (textS p).length ≤ 100000) (ht : p.toks ≤ 2000) : parseM fuelM (textS p) = some (p, 0, 0) := by
 obtain ⟨L, a1, a2, a3, a4⟩ := text_as hp hpr hps
 have hlex := lexAll_Lx a1 hl (by omega)
 have hA : At (rd0 (L ++ [tEnd (textS p).length])) (L ++ [tEnd (textS p).length]) := ⟨rfl, rfl, by simp [rd0]; omega⟩
 obtain ⟨n1, e1⟩ := a4 _ (tEnd (textS p).length) fuelM hA rfl rfl (by unfold fuelM; omega)
 unfold parseM
 rw [hlex]
 simp only [bne_self_eq_false, Bool.false_eq_true, ↓reduceIte]
 rw [e1, Option.bind_some]
 dsimp only
 rw [if_neg (by simp [Rd.mv, rd0])]
 have hz : p.z.size = p.size := by rw [← a3, Pg.number_size, a3]
 unfold Pg.numberO
 rw [if_pos (by omega), a3]
 rfl

end Go.Abs

/-! PLen -/

namespace Go.Abs

theorem prE_short {x : Ex} (h : FormI x) : ∀ least, (prE least x).length ≤ 20 * exN least x := by
 induction h with
 | num n => intro least; rw [pr_num]; simp only [exN]; have := digF_len 20 n.toNat; omega
 | name t h => intro least; rw [pr_name]; simp only [exN]; have := isName_len h; omega
 | neg y _ ih => intro least; rw [pr_neg]; have := ih 7; simp only [exN, List.length_append, List.length_cons, List.length_nil]; omega
 | no y _ ih => intro least; rw [pr_no]; have := ih 7; simp only [exN, List.length_append, List.length_cons, List.length_nil]; omega
 | two op a b ho _ _ iha ihb =>
   intro least; rw [pr_two]
   have := signR_len' ho; have := iha (bindB op); have := ihb (bindB op + 1)
   simp only [exN]
   split <;> simp only [prT, List.length_append, List.length_cons, List.length_nil] <;> omega

theorem joinN_len {α : Type} (f : α → Str) (w : α → Nat) (sep : Str) (hs : sep.length ≤ 2) : ∀ {l : List α}, (∀ a ∈ l, (f a).length ≤ 20 * w a) → (Lib.join (l.map f) sep).length ≤ 20 * sepN w l
 | [], _ => by simp [Lib.join]
 | [a], h => by
   have := h a (by simp)
   simpa [Lib.join, List.intercalate, sepN] using this
 | a :: b :: l, h => by
   have h1 := h a (by simp)
   have h2 := joinN_len f w sep hs (l := b :: l) (fun c m => h c (List.mem_cons_of_mem _ m))
   have e : Lib.join ((a :: b :: l).map f) sep = f a ++ (sep ++ Lib.join ((b :: l).map f) sep) := by simp only [Lib.join, List.map_cons, List.intercalate_cons_cons, List.append_assoc]
   rw [e]
   simp only [sepN, List.length_append]
   omega

theorem plain_short {s : Sm} (h : s.PrO) (hone : s.one = true) (k5 : s.kind ≠ 5) (k6 : s.kind ≠ 6) : (plainS s.kind s.name s.proc s.x s.has s.args).length + 1 ≤ 20 * plainN s.kind s.name s.x s.has s.args := by
 have hf := one_facts hone
 obtain ⟨hx, _, hname, hproc, hargs, hkind, _⟩ := h
 have hE : s.hasX = true → (prE 0 s.x).length ≤ 20 * exN 0 s.x := fun h => prE_short (hx h) 0
 unfold plainS plainN
 split
 · rename_i k
   have := hE (by simp [Sm.hasX, k])
   simp only [List.length_append, List.length_cons, List.length_nil]; omega
 split
 · simp only [List.length_append, List.length_cons, List.length_nil]; omega
 split
 · rename_i k
   have := hE (by simp [Sm.hasX, k])
   simp only [List.length_append, List.length_cons, List.length_nil]; omega
 split
 · simp only [List.length_cons, List.length_nil]; omega
 split
 · simp only [List.length_cons, List.length_nil]; omega
 split
 · simp only [List.length_append, List.length_cons, List.length_nil]; omega
 split
 · rename_i k
   split
   · rename_i kh
     have := hE (by simp [Sm.hasX, k, kh])
     simp only [List.length_append, List.length_cons, List.length_nil]; omega
   · simp only [List.length_cons, List.length_nil]; omega
 · have hj := joinN_len argS argN [44, 32] (by decide) (l := s.args) (fun a ha => by
     obtain ⟨h1, h2⟩ := hargs a ha
     unfold argS argN
     split
     · simp only [List.length_append, List.length_cons, List.length_nil]; omega
     · rename_i hr
       exact prE_short (h2 (by simpa using hr)) 0)
   unfold callS
   split <;> simp only [List.length_append, List.length_cons, List.length_nil] <;> omega

mutual
theorem row_short : ∀ (s : Sm) (inn : Nat) (nest : Int) (n0 : Nat), s.PrR inn → (Sm.mayR nest n0 s).1 = true → (rowS inn s).length ≤ 35 * (2 * s.labels.length + bodyN s)
 | ⟨id, kind, labels, name, proc, x, has, args, thn, els⟩, inn, nest, n0, h, hm => by
   obtain ⟨ho, hi, ht, he⟩ := (PrR_eq _ _).1 h
   obtain ⟨_, _, hone, mt, me, _⟩ := mayR_true hm
   have tt := (mayG_true mt).2
   have te := (mayG_true me).2
   rw [tt] at mt te me
   rw [te] at me
   dsimp only at ht he mt me
   have h1 := rows_short thn (inn + 1) _ _ ht mt
   have h2 := rows_short els (inn + 1) _ _ he me
   have h3 := marksS_len ho.lab
   dsimp only at h3
   have hE : (kind = 5 ∨ kind = 6) → (prE 0 x).length ≤ 20 * exN 0 x := fun k => prE_short (ho.x (by rcases k with k | k <;> simp [Sm.hasX, k])) 0
   simp only [rowS, bodyN]
   split
   · rename_i k
     have h5 := hE (.inr k)
     simp only [List.length_append, List.length_cons, List.length_nil, lineS_len]; omega
   rename_i k6
   split
   · rename_i k
     have h5 := hE (.inl k)
     split <;> simp only [List.length_append, List.length_cons, List.length_nil, lineS_len] <;> omega
   · rename_i k5
     have h4 := plain_short ho hone k5 k6
     dsimp only at h4
     simp only [List.length_append, List.length_cons, List.length_nil, lineS_len]; omega
theorem rows_short : ∀ (l : List Sm) (inn : Nat) (nest : Int) (n0 : Nat), Sm.PrRs inn l → (Sm.mayL nest n0 l).1 = true → (rowsS inn l).length ≤ 35 * rowsN l
 | [], _, _, _, _, _ => by simp [rowsS]
 | s :: l, inn, nest, n0, h, hm => by
   obtain ⟨m1, m2, _⟩ := mayL_cons hm
   simp only [Sm.PrRs] at h
   have h1 := row_short s inn nest n0 h.1 m1
   have h2 := rows_short l inn nest _ h.2 m2
   simp only [rowsS, rowsN, List.length_append]; omega
end

theorem names_short {l : List Str} (h : ∀ t ∈ l, t.length ≤ 8) (n : Nat) (hn : n ≤ 1) (w : Str) (hw : w.length ≤ 6) : (if l.length = 0 then ([] : Str) else lineS n (w ++ [32] ++ Lib.join l [44, 32] ++ [59])).length ≤ 35 * namesN l := by
 unfold namesN
 by_cases h0 : l.length = 0
 · rw [if_pos h0, if_pos h0]; simp
 · rw [if_neg h0, if_neg h0]
   have hj := joinN_len id (fun _ => 1) [44, 32] (by decide) (l := l) (fun a ha => by have := h a ha; simp only [id]; omega)
   rw [List.map_id] at hj
   simp only [List.length_append, List.length_cons, List.length_nil, lineS_len]; omega

theorem proc_short {f : Pc} (h : f.PrP) {nest : Int} {n0 : Nat} (hm : (Sm.mayL nest n0 f.body).1 = true) : (procS f).length ≤ 35 * procN f := by
 have h1 := joinN_len paramS parN [44, 32] (by decide) (l := f.params) (fun a ha => by
   have := h.params a ha
   unfold paramS parN
   split <;> simp only [List.length_append, List.length_cons, List.length_nil] <;> omega)
 have h2 := names_short h.vars 1 (by omega) [118, 97, 114] (by decide)
 have h3 := marksS_len h.fin
 have h4 := rows_short f.body 1 nest n0 h.body hm
 have h5 := h.name
 have e : procS f = lineS 0 ([112, 114, 111, 99, 32] ++ f.name ++ [40] ++ Lib.join (f.params.map paramS) [44, 32] ++ [41, 32, 123]) ++ (if f.vars.length = 0 then ([] : Str) else lineS 1 ([118, 97, 114] ++ [32] ++ Lib.join f.vars [44, 32] ++ [59])) ++ rowsS 1 f.body ++ lineS 0 (marksS f.fin ++ [125]) := rfl
 rw [e]
 unfold procN
 simp only [List.length_append, List.length_cons, List.length_nil, lineS_len] at h2 ⊢
 omega

theorem text_short {p : Pg} (h : p.may = true) (hr : p.rng) : (textS p).length ≤ 35 * p.toks := by
 have hG := may_PrG h hr
 rw [← mayP_eq] at h
 unfold Pg.mayP at h
 split at h
 · cases h
 have h1 := names_short hG.globals 0 (by omega) [103, 108, 111, 98, 97, 108] (by decide)
 have h2 : ∀ (l : List Pc) (n0 : Nat), Pc.mayL n0 l = true → (∀ f ∈ l, f.PrP) → (procsS l).length ≤ 35 * procsN l := by
   intro l
   induction l with
   | nil => intro _ _ _; simp [procsS]
   | cons f l ih =>
     intro n0 h hP
     simp only [Pc.mayL] at h
     split at h
     · cases h
     split at h
     · cases h
     split at h
     · cases h
     rename_i c3
     have c3 : (Sm.mayG 1 n0 f.body).1 = true := by simpa using c3
     have c4 := c3
     rw [(mayG_true c3).2] at c4
     have a1 := proc_short (hP f (List.mem_cons_self ..)) c4
     have a2 := ih _ h fun g m => hP g (List.mem_cons_of_mem _ m)
     simp only [procsS, procsN, List.length_append]; omega
 have h3 := h2 p.procs 0 h hG.procs
 have e : textS p = (if p.globals.length = 0 then ([] : Str) else lineS 0 ([103, 108, 111, 98, 97, 108] ++ [32] ++ Lib.join p.globals [44, 32] ++ [59])) ++ procsS p.procs := rfl
 rw [e, List.length_append]
 unfold Pg.toks
 omega

end Go.Abs

/-! Fits1 -/

namespace Go.Abs

set_option maxRecDepth 8000
open Go.Proofs

def weighTs : List Str → Int → Int
 | [], n => n
 | t :: l, n => if n ≤ 20000 then weighTs l (weighT t n) else n
def weighAs : List Ar → Int → Int
 | [], n => n
 | a :: l, n => if n ≤ 20000 then weighAs l (weighT a.name (weighE a.x n)) else n
def weighMs : List Pm → Int → Int
 | [], n => n
 | a :: l, n => if n ≤ 20000 then weighMs l (weighT a.name n) else n
mutual
def weighS : Sm → Int → Int
 | ⟨_, _, labels, name, proc, x, _, args, thn, els⟩, n => weighSs els (weighSs thn (weighAs args (weighT proc (weighT name (weighTs labels (weighE x n))))))
def weighSs : List Sm → Int → Int
 | [], n => n
 | s :: l, n => if n ≤ 20000 then weighSs l (weighS s n) else n
end
theorem weighS_eq (s : Sm) (n : Int) : weighS s n = weighSs s.els (weighSs s.thn (weighAs s.args (weighT s.proc (weighT s.name (weighTs s.labels (weighE s.x n)))))) := by cases s; simp only [weighS]
def weighF (f : Pc) (n : Int) : Int := weighSs f.body (weighMs f.params (weighTs f.fin (weighTs f.vars (weighT f.name n))))
def weighFs : List Pc → Int → Int
 | [], n => n
 | f :: l, n => if n ≤ 20000 then weighFs l (weighF f n) else n
def Pg.weigh (p : Pg) : Int := weighFs p.procs (weighTs p.globals 0)

theorem weighTs_in : ∀ (l : List Str) {n : Int}, 0 ≤ n → n ≤ 20001 → weighTs l n ≤ 20001 ∧ n ≤ weighTs l n ∧ (weighTs l n ≤ 20000 → n + l.length ≤ weighTs l n ∧ ∀ t ∈ l, t.length < 4611686018427387904)
 | [], n, h0, h1 => by simp only [weighTs]; exact ⟨h1, Int.le_refl _, fun _ => ⟨by simp, by simp⟩⟩
 | t :: l, n, h0, h1 => by
   simp only [weighTs]
   split
   · rename_i hc
     obtain ⟨a1, a2, a3, a4⟩ := weighT_in (t := t) h0
     obtain ⟨b1, b2, b3⟩ := weighTs_in l (n := weighT t n) a3 a1
     have := a2 hc
     refine ⟨b1, by omega, fun hw => ?_⟩
     obtain ⟨c1, c2⟩ := b3 hw
     have := a4 (by omega)
     refine ⟨by simp only [List.length_cons]; omega, fun s m => ?_⟩
     rcases List.mem_cons.1 m with rfl | m
     · omega
     · exact c2 s m
   · exact ⟨h1, Int.le_refl _, fun hw => by omega⟩
theorem weighMs_in : ∀ (l : List Pm) {n : Int}, 0 ≤ n → n ≤ 20001 → weighMs l n ≤ 20001 ∧ n ≤ weighMs l n ∧ (weighMs l n ≤ 20000 → n + l.length ≤ weighMs l n ∧ ∀ t ∈ l, t.name.length < 4611686018427387904)
 | [], n, h0, h1 => by simp only [weighMs]; exact ⟨h1, Int.le_refl _, fun _ => ⟨by simp, by simp⟩⟩
 | t :: l, n, h0, h1 => by
   simp only [weighMs]
   split
   · rename_i hc
     obtain ⟨a1, a2, a3, a4⟩ := weighT_in (t := t.name) h0
     obtain ⟨b1, b2, b3⟩ := weighMs_in l (n := weighT t.name n) a3 a1
     have := a2 hc
     refine ⟨b1, by omega, fun hw => ?_⟩
     obtain ⟨c1, c2⟩ := b3 hw
     have := a4 (by omega)
     refine ⟨by simp only [List.length_cons]; omega, fun s m => ?_⟩
     rcases List.mem_cons.1 m with rfl | m
     · omega
     · exact c2 s m
   · exact ⟨h1, Int.le_refl _, fun hw => by omega⟩
theorem weighAs_in : ∀ (l : List Ar) {n : Int}, 0 ≤ n → n ≤ 20001 → weighAs l n ≤ 20001 ∧ n ≤ weighAs l n ∧
   (weighAs l n ≤ 20000 → (Ar.sizes l : Int) ≤ 2 * (weighAs l n - n) ∧ ∀ a ∈ l, a.x.size < 4611686018427387904 ∧ a.x.texts ∧ a.name.length < 4611686018427387904)
 | [], n, h0, h1 => by simp only [weighAs]; exact ⟨h1, Int.le_refl _, fun _ => ⟨by simp [Ar.sizes], by simp⟩⟩
 | a :: l, n, h0, h1 => by
   simp only [weighAs]
   split
   · rename_i hc
     obtain ⟨a1, a2, a3, a4⟩ := weigh_in _ a.x (Nat.le_refl _) n h0
     obtain ⟨e1, e2, e3, e4⟩ := weighT_in (t := a.name) a3
     obtain ⟨b1, b2, b3⟩ := weighAs_in l (n := weighT a.name (weighE a.x n)) e3 e1
     have := a2 hc
     have : weighE a.x n ≤ weighT a.name (weighE a.x n) := by
       by_cases h : weighE a.x n ≤ 20000
       · have := e2 h; omega
       · have : weighT a.name (weighE a.x n) = 20001 := by unfold weighT; rw [if_pos (by omega)]
         omega
     refine ⟨b1, by omega, fun hw => ?_⟩
     obtain ⟨c1, c2⟩ := b3 hw
     have := e4 (by omega)
     obtain ⟨d1, d2⟩ := a4 (by omega)
     refine ⟨by simp only [Ar.sizes]; omega, fun s m => ?_⟩
     rcases List.mem_cons.1 m with rfl | m
     · exact ⟨by omega, d2, by omega⟩
     · exact c2 s m
   · exact ⟨h1, Int.le_refl _, fun hw => by omega⟩
theorem weighT_mono {t : Str} {n : Int} (h0 : 0 ≤ n) (h1 : n ≤ 20001) : n ≤ weighT t n ∧ weighT t n ≤ 20001 ∧ (weighT t n ≤ 20000 → n + 1 ≤ weighT t n ∧ t.length < 4611686018427387904) := by
 obtain ⟨e1, e2, e3, e4⟩ := weighT_in (t := t) h0
 by_cases h : n ≤ 20000
 · have := e2 h
   exact ⟨by omega, e1, fun hw => ⟨by omega, by have := e4 hw; omega⟩⟩
 · have : weighT t n = 20001 := by unfold weighT; rw [if_pos (by omega)]
   exact ⟨by omega, e1, fun hw => by omega⟩

mutual
theorem weighS_in : ∀ (s : Sm) {n : Int}, 0 ≤ n → n ≤ 20000 → weighS s n ≤ 20001 ∧ n + 1 ≤ weighS s n ∧ (weighS s n ≤ 20000 → (s.size : Int) + 1 ≤ 2 * (weighS s n - n) ∧ s.FineD)
 | ⟨id, kind, labels, name, proc, x, has, args, thn, els⟩, n, h0, h1 => by
   obtain ⟨a1, a2, a3, a4⟩ := weigh_in _ x (Nat.le_refl _) n h0
   have a2 := a2 h1
   obtain ⟨b1, b2, b3⟩ := weighTs_in labels a3 a1
   obtain ⟨c1, c2, c3⟩ := weighT_mono (t := name) (n := weighTs labels (weighE x n)) (by omega) b1
   obtain ⟨d1, d2, d3⟩ := weighT_mono (t := proc) (n := weighT name (weighTs labels (weighE x n))) (by omega) c2
   obtain ⟨e1, e2, e3⟩ := weighAs_in args (n := weighT proc (weighT name (weighTs labels (weighE x n)))) (by omega) d2
   obtain ⟨f1, f2, f3⟩ := weighSs_in thn (n := weighAs args (weighT proc (weighT name (weighTs labels (weighE x n))))) (by omega) e1
   obtain ⟨g1, g2, g3⟩ := weighSs_in els (n := weighSs thn (weighAs args (weighT proc (weighT name (weighTs labels (weighE x n)))))) (by omega) f1
   simp only [weighS, Sm.size]
   refine ⟨g1, by omega, fun hw => ?_⟩
   obtain ⟨g4, g5⟩ := g3 hw
   obtain ⟨f4, f5⟩ := f3 (by omega)
   obtain ⟨e4, e5⟩ := e3 (by omega)
   obtain ⟨d4, d5⟩ := d3 (by omega)
   obtain ⟨c4, c5⟩ := c3 (by omega)
   obtain ⟨b4, b5⟩ := b3 (by omega)
   obtain ⟨a5, a6⟩ := a4 (by omega)
   have := Ar.sizes_len args
   refine ⟨by omega, ?_⟩
   rw [FineD_eq]
   exact ⟨⟨b5, by dsimp only; omega, c5, d5, by dsimp only; omega, a6, by dsimp only; omega, e5⟩, f5, g5⟩
theorem weighSs_in : ∀ (l : List Sm) {n : Int}, 0 ≤ n → n ≤ 20001 → weighSs l n ≤ 20001 ∧ n ≤ weighSs l n ∧ (weighSs l n ≤ 20000 → (Sm.sizes l : Int) ≤ 2 * (weighSs l n - n) ∧ Sm.FineDs l)
 | [], n, h0, h1 => by simp only [weighSs]; exact ⟨h1, Int.le_refl _, fun _ => ⟨by simp [Sm.sizes], by simp only [Sm.FineDs]⟩⟩
 | s :: l, n, h0, h1 => by
   simp only [weighSs]
   split
   · rename_i hc
     obtain ⟨a1, a2, a3⟩ := weighS_in s h0 hc
     obtain ⟨b1, b2, b3⟩ := weighSs_in l (n := weighS s n) (by omega) a1
     refine ⟨b1, by omega, fun hw => ?_⟩
     obtain ⟨c1, c2⟩ := b3 hw
     obtain ⟨d1, d2⟩ := a3 (by omega)
     exact ⟨by simp only [Sm.sizes]; omega, d2, c2⟩
   · exact ⟨h1, Int.le_refl _, fun hw => by omega⟩
end

theorem weighF_in (f : Pc) {n : Int} (h0 : 0 ≤ n) (h1 : n ≤ 20000) : weighF f n ≤ 20001 ∧ n + 1 ≤ weighF f n ∧ (weighF f n ≤ 20000 → (f.size : Int) + 1 ≤ 2 * (weighF f n - n) ∧
   (f.name.length < 4611686018427387904 ∧ (∀ t ∈ f.vars, t.length < 4611686018427387904) ∧ (∀ t ∈ f.fin, t.length < 4611686018427387904) ∧ ∀ a ∈ f.params, a.name.length < 4611686018427387904) ∧ Sm.FineDs f.body) := by
 obtain ⟨c1, c2, c3⟩ := weighT_mono (t := f.name) h0 (by omega : n ≤ 20001)
 have c4 := (weighT_in (t := f.name) h0).2.1 h1
 obtain ⟨d1, d2, d3⟩ := weighTs_in f.vars (n := weighT f.name n) (by omega) c2
 obtain ⟨e1, e2, e3⟩ := weighTs_in f.fin (n := weighTs f.vars (weighT f.name n)) (by omega) d1
 obtain ⟨g1, g2, g3⟩ := weighMs_in f.params (n := weighTs f.fin (weighTs f.vars (weighT f.name n))) (by omega) e1
 obtain ⟨k1, k2, k3⟩ := weighSs_in f.body (n := weighMs f.params (weighTs f.fin (weighTs f.vars (weighT f.name n)))) (by omega) g1
 unfold weighF Pc.size
 refine ⟨k1, by omega, fun hw => ?_⟩
 obtain ⟨k4, k5⟩ := k3 hw
 obtain ⟨g4, g5⟩ := g3 (by omega)
 obtain ⟨e4, e5⟩ := e3 (by omega)
 obtain ⟨d4, d5⟩ := d3 (by omega)
 obtain ⟨_, c5⟩ := c3 (by omega)
 exact ⟨by omega, ⟨c5, d5, e5, g5⟩, k5⟩

theorem weighFs_in : ∀ (l : List Pc) {n : Int}, 0 ≤ n → n ≤ 20001 → weighFs l n ≤ 20001 ∧ n ≤ weighFs l n ∧ (weighFs l n ≤ 20000 → (Pc.sizes l : Int) ≤ 2 * (weighFs l n - n) ∧ ∀ f ∈ l,
   (f.name.length < 4611686018427387904 ∧ (∀ t ∈ f.vars, t.length < 4611686018427387904) ∧ (∀ t ∈ f.fin, t.length < 4611686018427387904) ∧ ∀ a ∈ f.params, a.name.length < 4611686018427387904) ∧ Sm.FineDs f.body)
 | [], n, h0, h1 => by simp only [weighFs]; exact ⟨h1, Int.le_refl _, fun _ => ⟨by simp [Pc.sizes], by simp⟩⟩
 | f :: l, n, h0, h1 => by
   simp only [weighFs]
   split
   · rename_i hc
     obtain ⟨a1, a2, a3⟩ := weighF_in f h0 hc
     obtain ⟨b1, b2, b3⟩ := weighFs_in l (n := weighF f n) (by omega) a1
     refine ⟨b1, by omega, fun hw => ?_⟩
     obtain ⟨c1, c2⟩ := b3 hw
     obtain ⟨d1, d2⟩ := a3 (by omega)
     refine ⟨by simp only [Pc.sizes]; omega, fun s m => ?_⟩
     rcases List.mem_cons.1 m with rfl | m
     · exact d2
     · exact c2 s m
   · exact ⟨h1, Int.le_refl _, fun hw => by omega⟩

theorem weigh_fits {p : Pg} (h : p.weigh ≤ 20000) : p.size ≤ 40001 ∧ p.FineP := by
 unfold Pg.weigh at h
 obtain ⟨a1, a2, a3⟩ := weighTs_in p.globals (n := 0) (by omega) (by omega)
 obtain ⟨b1, b2, b3⟩ := weighFs_in p.procs (n := weighTs p.globals 0) (by omega) a1
 obtain ⟨c1, c2⟩ := b3 h
 obtain ⟨d1, d2⟩ := a3 (by omega)
 have : p.size ≤ 40001 := by unfold Pg.size; omega
 exact ⟨this, by omega, d2, fun f m => (c2 f m).1, fun f m => (c2 f m).2⟩

/-! ### The walk -/

theorem weighTs_s {l : List Str} {n : Int} (h0 : 0 ≤ n) (h1 : n ≤ 20001) (s : St) : Fun Tryz.prog n_ref3_weighTexts [.slice .shared 1 (l.map encStr), .int .i64 n] s (.int .i64 (weighTs l n)) s := by
 refine Fun.pure ?_ (by simp [D.oks, D.ok, okrStr, Tag.ok]) rfl s
 unfold S0
 generalize h : weighTs l n = p
 refine Fun.go has_ref3_weighTexts rfl fun B Q hB hQ => ?_
 have ⟨hH, hJ, hY, hZ⟩ := H4_
 repeat' (first
 | simp only [go_sem, hH, hJ, hY, hZ]
 | (with_reducible first | refine kT_ fun hc => ?_ | refine kF_ fun hc => ?_ | refine kS_ (fun hc => ?_) fun hc => ?_) <;> (try simp only [hc, bs, ↓reduceIte] at h) <;> try simp only [hc]
 | (with_reducible refine lA_ hQ ?_; exact lY_)
 | (cases h; done))
 refine rL_ 0 0 (SemL.ind (ι := List Str × Nat × Int) (fun i => l.drop i.2.1 = i.1 ∧ weighTs i.1 i.2.2 = p ∧ (i.2.1 : Int) ≤ i.2.2 ∧ i.2.2 ≤ 20001) (fun i => i.1.length)
   (fun i => [(0, .slice .shared 1 (l.map encStr)), (1, .int .i64 i.2.2), (5, .int .i64 (i.2.1 : Int))]) (fun i => ⟨[], []⟩) ?_ (l, 0, n) ⟨rfl, h, h0, h1⟩)
 rintro ⟨rest, k, c⟩ ⟨g1, h, g3, g4⟩ IH
 dsimp only at g1 h g3 g4
 cases rest with
 | nil =>
   have hH := drop_nil g1
   simp only [weighTs] at h
   subst h
   repeat' (first
 | simp only [go_sem, hH, hJ, hY, hZ]
 | (with_reducible first | refine kT_ fun hc => ?_ | refine kF_ fun hc => ?_ | refine kS_ (fun hc => ?_) fun hc => ?_) <;> (try simp only [hc, bs, ↓reduceIte] at h) <;> try simp only [hc]
 | (with_reducible refine lA_ hQ ?_; exact lY_)
 | (cases h; done))
 | cons y rest =>
   obtain ⟨hJ, g2, hH, g5⟩ := drop_cons g1
   simp only [weighTs] at h
   by_cases hc : c ≤ 20000
   · have c1 : decide (c ≤ 20000) = true := by simp; omega
     have hy := fun s => weighT_s y (n := c) (by omega) g4 s
     obtain ⟨a1, a2, a3, a4⟩ := weighT_in (t := y) (n := c) (by omega)
     have := a2 hc
     have w3 : IntKind.wrap .i64 ((k : Int) + 1) = ((k + 1 : Nat) : Int) := by rw [wrap_ok] <;> omega
     rw [if_pos hc] at h
     repeat' (first
 | simp only [go_sem, hH, hJ, hY, hZ, c1, w3]
 | (with_reducible refine CU (hy _) ?_)
 | (with_reducible first | refine kT_ fun hc => ?_ | refine kF_ fun hc => ?_ | refine kS_ (fun hc => ?_) fun hc => ?_) <;> (try simp only [hc, bs, ↓reduceIte] at h) <;> try simp only [hc]
 | (with_reducible refine lA_ hQ ?_; (try cases h); simp only [resL, oneD, sI_, eL_, go_sem, hH, hJ, hY, hZ, c1, w3]; try exact lE_)
 | (cases h; done))
     refine rL_ 0 0 (IH (rest, k + 1, weighT y c) ⟨g2, h, by dsimp only; omega, a1⟩ (Nat.lt_succ_self _))
   · have c1 : decide (c ≤ 20000) = false := by simp; omega
     rw [if_neg hc] at h
     subst h
     repeat' (first
 | simp only [go_sem, hH, hJ, hY, hZ, c1]
 | (with_reducible first | refine kT_ fun hc => ?_ | refine kF_ fun hc => ?_ | refine kS_ (fun hc => ?_) fun hc => ?_) <;> (try simp only [hc, bs, ↓reduceIte] at h) <;> try simp only [hc]
 | (with_reducible refine lA_ hQ ?_; (try cases h); simp only [resL, oneD, sI_, eL_, go_sem, hH, hJ, hY, hZ, c1]; try exact lE_)
 | (cases h; done))

theorem weighSs_s : ∀ (m : Nat) (l : List Sm), Sm.sizes l ≤ m → ∀ {n : Int}, 0 ≤ n → n ≤ 20001 → ∀ s : St, Fun Tryz.prog n_ref3_weighStmts [.slice .shared 13 (l.map encSm), .int .i64 n] s (.int .i64 (weighSs l n)) s := by
 intro m
 induction m with
 | zero =>
   intro l h n h0 h1 s
   cases l with
   | nil =>
     have z : decide ((0 : Int) < 0) = false := rfl
     refine Fun.pure ?_ (by simp [D.oks, D.ok, D.okr, Tag.ok]) rfl s
     unfold S0
     simp only [weighSs]
     refine Fun.go has_ref3_weighStmts rfl fun B Q hB hQ => ?_
     have ⟨hH, hJ, hY, hZ⟩ := H4_
     repeat' (first
 | simp only [go_sem, hH, hJ, hY, hZ, z]
 | (with_reducible refine SemL.onceW ?_)
 | (with_reducible first | refine kT_ fun hc => ?_ | refine kF_ fun hc => ?_ | refine kS_ (fun hc => ?_) fun hc => ?_) <;> (try simp only [hc, bs, ↓reduceIte] at h) <;> try simp only [hc]
 | (with_reducible refine lA_ hQ ?_; (try cases h); simp only [resL, oneD, sI_, eL_, go_sem, hH, hJ, hY, hZ, z]; try exact lE_)
 | (cases h; done))
   | cons s l => simp only [Sm.sizes] at h; omega
 | succ m ih =>
   intro l h n h0 h1 s
   refine Fun.pure ?_ (by simp [D.oks, D.ok, okrSm, Tag.ok]) rfl s
   unfold S0
   generalize hp : weighSs l n = p
   refine Fun.go has_ref3_weighStmts rfl fun B Q hB hQ => ?_
   have ⟨hH, hJ, hY, hZ⟩ := H4_
   repeat' (first
 | simp only [go_sem, hH, hJ, hY, hZ]
 | (with_reducible first | refine kT_ fun hc => ?_ | refine kF_ fun hc => ?_ | refine kS_ (fun hc => ?_) fun hc => ?_) <;> (try simp only [hc, bs, ↓reduceIte] at h) <;> try simp only [hc]
 | (with_reducible refine lA_ hQ ?_; exact lY_)
 | (cases h; done))
   refine rL_ 0 0 (SemL.ind (ι := List Sm × Nat × Int) (fun i => l.drop i.2.1 = i.1 ∧ weighSs i.1 i.2.2 = p ∧ (i.2.1 : Int) ≤ i.2.2 ∧ i.2.2 ≤ 20001) (fun i => i.1.length)
     (fun i => [(0, .slice .shared 13 (l.map encSm)), (1, .int .i64 i.2.2), (5, .int .i64 (i.2.1 : Int))]) (fun i => ⟨[], []⟩) ?_ (l, 0, n) ⟨rfl, hp, h0, h1⟩)
   rintro ⟨rest, k, c⟩ ⟨g1, hp, g3, g4⟩ IH
   dsimp only at g1 hp g3 g4
   cases rest with
   | nil =>
     have hH := drop_nil g1
     simp only [weighSs] at hp
     subst hp
     repeat' (first
 | simp only [go_sem, hH, hJ, hY, hZ]
 | (with_reducible first | refine kT_ fun hc => ?_ | refine kF_ fun hc => ?_ | refine kS_ (fun hc => ?_) fun hc => ?_) <;> (try simp only [hc, bs, ↓reduceIte] at h) <;> try simp only [hc]
 | (with_reducible refine lA_ hQ ?_; exact lY_)
 | (cases h; done))
   | cons y rest =>
     obtain ⟨hJ, g2, hH, g5⟩ := drop_cons g1
     simp only [weighSs] at hp
     by_cases hc : c ≤ 20000
     · have c1 : decide (c ≤ 20000) = true := by simp; omega
       have hmem := List.mem_of_getElem? hJ
       have hsz := Sm.sizes_mem hmem
       have hsz2 : s.objs.length ≤ s.objs.length ∧ Sm.sizes y.thn < y.size ∧ Sm.sizes y.els < y.size := by cases y; simp only [Sm.size]; omega
       have w3 : IntKind.wrap .i64 ((k : Int) + 1) = ((k + 1 : Nat) : Int) := by rw [wrap_ok] <;> omega
       rw [if_pos hc] at hp
       obtain ⟨a1, a2, a3, a4⟩ := weigh_in _ y.x (Nat.le_refl _) c (by omega)
       have a2 := a2 hc
       obtain ⟨b1, b2, b3⟩ := weighTs_in y.labels a3 a1
       obtain ⟨c1', c2, c3⟩ := weighT_mono (t := y.name) (n := weighTs y.labels (weighE y.x c)) (by omega) b1
       obtain ⟨d1, d2, d3⟩ := weighT_mono (t := y.proc) (n := weighT y.name (weighTs y.labels (weighE y.x c))) (by omega) c2
       have eE := fun s => weighE_s _ y.x (Nat.le_refl _) (n := c) (by omega) hc s
       have eL := fun s => weighTs_s (l := y.labels) (n := weighE y.x c) (by omega) a1 s
       have eN := fun s => weighT_s y.name (n := weighTs y.labels (weighE y.x c)) (by omega) b1 s
       have eP := fun s => weighT_s y.proc (n := weighT y.name (weighTs y.labels (weighE y.x c))) (by omega) c2 s
       obtain ⟨r1, r2, r3⟩ := weighS_in y (n := c) (by omega) hc
       rw [weighS_eq] at hp r1 r2
       generalize hC : weighT y.proc (weighT y.name (weighTs y.labels (weighE y.x c))) = C at *
       obtain ⟨s1, s2, s3⟩ := weighAs_in y.args (n := C) (by omega) d2
       obtain ⟨t1, t2, t3⟩ := weighSs_in y.thn (n := weighAs y.args C) (by omega) s1
       have eT := fun s => ih y.thn (by omega) (n := weighAs y.args C) (by omega) s1 s
       have eS := fun s => ih y.els (by omega) (n := weighSs y.thn (weighAs y.args C)) (by omega) t1 s
       generalize hW : weighAs y.args C = W at *
       repeat' (first
 | simp only [go_sem, hH, hJ, hY, hZ, c1, w3]
 | (with_reducible refine CU (eE _) ?_)
 | (with_reducible refine CU (eL _) ?_)
 | (with_reducible refine CU (eN _) ?_)
 | (with_reducible refine CU (eP _) ?_)
 | (with_reducible first | refine kT_ fun hc => ?_ | refine kF_ fun hc => ?_ | refine kS_ (fun hc => ?_) fun hc => ?_) <;> (try simp only [hc, bs, ↓reduceIte] at h) <;> try simp only [hc]
 | (with_reducible refine lA_ hQ ?_; (try cases h); simp only [resL, oneD, sI_, eL_, go_sem, hH, hJ, hY, hZ, c1, w3]; try exact lE_)
 | (cases h; done))
       refine rL_ 1 0 (SemL.ind (ι := List Ar × Nat × Int) (fun i => y.args.drop i.2.1 = i.1 ∧ weighAs i.1 i.2.2 = W ∧ (i.2.1 : Int) ≤ i.2.2 ∧ i.2.2 ≤ 20001) (fun i => i.1.length)
         (fun i => [(0, .slice .shared 13 (l.map encSm)), (1, .int .i64 i.2.2), (5, .int .i64 (k : Int)), (6, .ptr 0 0), (7, .int .i64 (i.2.1 : Int))]) (fun i => ⟨[encSm y], []⟩) ?_ (y.args, 0, C) ⟨rfl, hW, by dsimp only; omega, d2⟩)
       rintro ⟨ars, j, e⟩ ⟨k1, hw, k3, k4⟩ IH2
       dsimp only at k1 hw k3 k4
       cases ars with
       | nil =>
         have hH := drop_nil k1
         simp only [weighAs] at hw
         subst hw
         repeat' (first
 | simp only [go_sem, hH, hJ, hY, hZ, w3]
 | (with_reducible refine CU (eT _) ?_)
 | (with_reducible refine CU (eS _) ?_)
 | (with_reducible first | refine kT_ fun hc => ?_ | refine kF_ fun hc => ?_ | refine kS_ (fun hc => ?_) fun hc => ?_) <;> (try simp only [hc, bs, ↓reduceIte] at h) <;> try simp only [hc]
 | (with_reducible refine lA_ hQ ?_; (try cases h); simp only [resL, oneD, sI_, eL_, go_sem, hH, hJ, hY, hZ, w3]; try exact lE_)
 | (cases h; done))
         refine rL_ 0 0 (IH (rest, k + 1, weighSs y.els (weighSs y.thn e)) ⟨g2, hp, by dsimp only; omega, r1⟩ (Nat.lt_succ_self _))
       | cons a ars =>
         obtain ⟨hJ, k2, hH, k5⟩ := drop_cons k1
         simp only [weighAs] at hw
         by_cases he : e ≤ 20000
         · have e1 : decide (e ≤ 20000) = true := by simp; omega
           have w4 : IntKind.wrap .i64 ((j : Int) + 1) = ((j + 1 : Nat) : Int) := by rw [wrap_ok] <;> omega
           rw [if_pos he] at hw
           obtain ⟨u1, u2, u3, u4⟩ := weigh_in _ a.x (Nat.le_refl _) e (by omega)
           have u2 := u2 he
           obtain ⟨v1, v2, v3⟩ := weighT_mono (t := a.name) (n := weighE a.x e) u3 u1
           have eX := fun s => weighE_s _ a.x (Nat.le_refl _) (n := e) (by omega) he s
           have eM := fun s => weighT_s a.name (n := weighE a.x e) u3 u1 s
           repeat' (first
 | simp only [go_sem, hH, hJ, hY, hZ, e1, w4]
 | (with_reducible refine CU (eX _) ?_)
 | (with_reducible refine CU (eM _) ?_)
 | (with_reducible first | refine kT_ fun hc => ?_ | refine kF_ fun hc => ?_ | refine kS_ (fun hc => ?_) fun hc => ?_) <;> (try simp only [hc, bs, ↓reduceIte] at h) <;> try simp only [hc]
 | (with_reducible refine lA_ hQ ?_; (try cases h); simp only [resL, oneD, sI_, eL_, go_sem, hH, hJ, hY, hZ, e1, w4]; try exact lE_)
 | (cases h; done))
           refine rL_ 1 0 (IH2 (ars, j + 1, weighT a.name (weighE a.x e)) ⟨k2, hw, by dsimp only; omega, v2⟩ (Nat.lt_succ_self _))
         · have e1 : decide (e ≤ 20000) = false := by simp; omega
           rw [if_neg he] at hw
           subst hw
           repeat' (first
 | simp only [go_sem, hH, hJ, hY, hZ, e1, w3]
 | (with_reducible refine CU (eT _) ?_)
 | (with_reducible refine CU (eS _) ?_)
 | (with_reducible first | refine kT_ fun hc => ?_ | refine kF_ fun hc => ?_ | refine kS_ (fun hc => ?_) fun hc => ?_) <;> (try simp only [hc, bs, ↓reduceIte] at h) <;> try simp only [hc]
 | (with_reducible refine lA_ hQ ?_; (try cases h); simp only [resL, oneD, sI_, eL_, go_sem, hH, hJ, hY, hZ, e1, w3]; try exact lE_)
 | (cases h; done))
           refine rL_ 0 0 (IH (rest, k + 1, weighSs y.els (weighSs y.thn e)) ⟨g2, hp, by dsimp only; omega, r1⟩ (Nat.lt_succ_self _))
     · have c1 : decide (c ≤ 20000) = false := by simp; omega
       rw [if_neg hc] at hp
       subst hp
       repeat' (first
 | simp only [go_sem, hH, hJ, hY, hZ, c1]
 | (with_reducible first | refine kT_ fun hc => ?_ | refine kF_ fun hc => ?_ | refine kS_ (fun hc => ?_) fun hc => ?_) <;> (try simp only [hc, bs, ↓reduceIte] at h) <;> try simp only [hc]
 | (with_reducible refine lA_ hQ ?_; (try cases h); simp only [resL, oneD, sI_, eL_, go_sem, hH, hJ, hY, hZ, c1]; try exact lE_)
 | (cases h; done))

end Go.Abs

/-! Fits2 -/

namespace Go.Abs

set_option maxRecDepth 8000
open Go.Proofs

theorem Fits_s (p : Pg) (s : St) : Fun Tryz.prog n_ref3_Fits [.agg (encPg p)] s (.bool (decide (p.weigh ≤ 20000))) s := by
 refine Fun.pure ?_ (by simp only [D.oks, D.ok, okPg]; rfl) rfl s
 unfold S0
 generalize hp : p.weigh = W
 unfold Pg.weigh at hp
 obtain ⟨a1, a2, a3⟩ := weighTs_in p.globals (n := 0) (by omega) (by omega)
 have eG := fun s => weighTs_s (l := p.globals) (n := 0) (by omega) (by omega) s
 refine Fun.go has_ref3_Fits rfl fun B Q hB hQ => ?_
 have ⟨hH, hJ, hY, hZ⟩ := H4_
 repeat' (first
 | simp only [go_sem, hH, hJ, hY, hZ]
 | (with_reducible refine CU (eG _) ?_)
 | (with_reducible first | refine kT_ fun hc => ?_ | refine kF_ fun hc => ?_ | refine kS_ (fun hc => ?_) fun hc => ?_) <;> (try simp only [hc, bs, ↓reduceIte] at h) <;> try simp only [hc]
 | (with_reducible refine lA_ hQ ?_; exact lY_)
 | (cases h; done))
 refine rL_ 1 0 (SemL.ind (ι := List Pc × Nat × Int) (fun i => p.procs.drop i.2.1 = i.1 ∧ weighFs i.1 i.2.2 = W ∧ (i.2.1 : Int) ≤ i.2.2 ∧ i.2.2 ≤ 20001) (fun i => i.1.length)
   (fun i => [(1, .ptr 0 0), (3, .int .i64 i.2.2), (4, .int .i64 (i.2.1 : Int))]) (fun i => ⟨[encPg p], []⟩) ?_ (p.procs, 0, weighTs p.globals 0) ⟨rfl, hp, a2, a1⟩)
 rintro ⟨rest, k, c⟩ ⟨g1, hp, g3, g4⟩ IH
 dsimp only at g1 hp g3 g4
 cases rest with
 | nil =>
   have hH := drop_nil g1
   simp only [weighFs] at hp
   subst hp
   repeat' (first
 | simp only [go_sem, hH, hJ, hY, hZ]
 | (with_reducible first | refine kT_ fun hc => ?_ | refine kF_ fun hc => ?_ | refine kS_ (fun hc => ?_) fun hc => ?_) <;> (try simp only [hc, bs, ↓reduceIte] at h) <;> try simp only [hc]
 | (with_reducible refine lA_ hQ ?_; exact lY_)
 | (cases h; done))
 | cons f rest =>
   obtain ⟨hJ, g2, hH, g5⟩ := drop_cons g1
   simp only [weighFs] at hp
   by_cases hc : c ≤ 20000
   · have c1 : decide (c ≤ 20000) = true := by simp; omega
     have w3 : IntKind.wrap .i64 ((k : Int) + 1) = ((k + 1 : Nat) : Int) := by rw [wrap_ok] <;> omega
     rw [if_pos hc] at hp
     obtain ⟨r1, r2, r3⟩ := weighF_in f (n := c) (by omega) hc
     unfold weighF at hp r1 r2
     obtain ⟨c1', c2, c3⟩ := weighT_mono (t := f.name) (n := c) (by omega) g4
     obtain ⟨d1, d2, d3⟩ := weighTs_in f.vars (n := weighT f.name c) (by omega) c2
     obtain ⟨e1, e2, e3⟩ := weighTs_in f.fin (n := weighTs f.vars (weighT f.name c)) (by omega) d1
     have eN := fun s => weighT_s f.name (n := c) (by omega) g4 s
     have eV := fun s => weighTs_s (l := f.vars) (n := weighT f.name c) (by omega) c2 s
     have eF := fun s => weighTs_s (l := f.fin) (n := weighTs f.vars (weighT f.name c)) (by omega) d1 s
     generalize hC : weighTs f.fin (weighTs f.vars (weighT f.name c)) = C at *
     obtain ⟨s1, s2, s3⟩ := weighMs_in f.params (n := C) (by omega) e1
     have eT := fun s => weighSs_s _ f.body (Nat.le_refl _) (n := weighMs f.params C) (by omega) s1 s
     generalize hM : weighMs f.params C = M at *
     repeat' (first
 | simp only [go_sem, hH, hJ, hY, hZ, c1, w3]
 | (with_reducible refine CU (eN _) ?_)
 | (with_reducible refine CU (eV _) ?_)
 | (with_reducible refine CU (eF _) ?_)
 | (with_reducible first | refine kT_ fun hc => ?_ | refine kF_ fun hc => ?_ | refine kS_ (fun hc => ?_) fun hc => ?_) <;> (try simp only [hc, bs, ↓reduceIte] at h) <;> try simp only [hc]
 | (with_reducible refine lA_ hQ ?_; (try cases h); simp only [resL, oneD, sI_, eL_, go_sem, hH, hJ, hY, hZ, c1, w3]; try exact lE_)
 | (cases h; done))
     refine rL_ 2 0 (SemL.ind (ι := List Pm × Nat × Int) (fun i => f.params.drop i.2.1 = i.1 ∧ weighMs i.1 i.2.2 = M ∧ (i.2.1 : Int) ≤ i.2.2 ∧ i.2.2 ≤ 20001) (fun i => i.1.length)
       (fun i => [(1, .ptr 0 0), (3, .int .i64 i.2.2), (4, .int .i64 (k : Int)), (5, .ptr 1 0), (6, .int .i64 (i.2.1 : Int))]) (fun i => ⟨[encPg p, encPc f], []⟩) ?_ (f.params, 0, C) ⟨rfl, hM, by dsimp only; omega, e1⟩)
     rintro ⟨ms, j, e⟩ ⟨k1, hw, k3, k4⟩ IH2
     dsimp only at k1 hw k3 k4
     cases ms with
     | nil =>
       have hH := drop_nil k1
       simp only [weighMs] at hw
       subst hw
       repeat' (first
 | simp only [go_sem, hH, hJ, hY, hZ, w3]
 | (with_reducible refine CU (eT _) ?_)
 | (with_reducible first | refine kT_ fun hc => ?_ | refine kF_ fun hc => ?_ | refine kS_ (fun hc => ?_) fun hc => ?_) <;> (try simp only [hc, bs, ↓reduceIte] at h) <;> try simp only [hc]
 | (with_reducible refine lA_ hQ ?_; (try cases h); simp only [resL, oneD, sI_, eL_, go_sem, hH, hJ, hY, hZ, w3]; try exact lE_)
 | (cases h; done))
       refine rL_ 1 0 (IH (rest, k + 1, weighSs f.body e) ⟨g2, hp, by dsimp only; omega, r1⟩ (Nat.lt_succ_self _))
     | cons a ms =>
       obtain ⟨hJ, k2, hH, k5⟩ := drop_cons k1
       simp only [weighMs] at hw
       by_cases he : e ≤ 20000
       · have e1 : decide (e ≤ 20000) = true := by simp; omega
         have w4 : IntKind.wrap .i64 ((j : Int) + 1) = ((j + 1 : Nat) : Int) := by rw [wrap_ok] <;> omega
         rw [if_pos he] at hw
         obtain ⟨v1, v2, v3⟩ := weighT_mono (t := a.name) (n := e) (by omega) k4
         have v4 := (weighT_in (t := a.name) (n := e) (by omega)).2.1 he
         have eM := fun s => weighT_s a.name (n := e) (by omega) k4 s
         repeat' (first
 | simp only [go_sem, hH, hJ, hY, hZ, e1, w4]
 | (with_reducible refine CU (eM _) ?_)
 | (with_reducible first | refine kT_ fun hc => ?_ | refine kF_ fun hc => ?_ | refine kS_ (fun hc => ?_) fun hc => ?_) <;> (try simp only [hc, bs, ↓reduceIte] at h) <;> try simp only [hc]
 | (with_reducible refine lA_ hQ ?_; (try cases h); simp only [resL, oneD, sI_, eL_, go_sem, hH, hJ, hY, hZ, e1, w4]; try exact lE_)
 | (cases h; done))
         refine rL_ 2 0 (IH2 (ms, j + 1, weighT a.name e) ⟨k2, hw, by dsimp only; omega, v2⟩ (Nat.lt_succ_self _))
       · have e1 : decide (e ≤ 20000) = false := by simp; omega
         rw [if_neg he] at hw
         subst hw
         repeat' (first
 | simp only [go_sem, hH, hJ, hY, hZ, e1, w3]
 | (with_reducible refine CU (eT _) ?_)
 | (with_reducible first | refine kT_ fun hc => ?_ | refine kF_ fun hc => ?_ | refine kS_ (fun hc => ?_) fun hc => ?_) <;> (try simp only [hc, bs, ↓reduceIte] at h) <;> try simp only [hc]
 | (with_reducible refine lA_ hQ ?_; (try cases h); simp only [resL, oneD, sI_, eL_, go_sem, hH, hJ, hY, hZ, e1, w3]; try exact lE_)
 | (cases h; done))
         refine rL_ 1 0 (IH (rest, k + 1, weighSs f.body e) ⟨g2, hp, by dsimp only; omega, r1⟩ (Nat.lt_succ_self _))
   · have c1 : decide (c ≤ 20000) = false := by simp; omega
     rw [if_neg hc] at hp
     subst hp
     repeat' (first
 | simp only [go_sem, hH, hJ, hY, hZ, c1]
 | (with_reducible first | refine kT_ fun hc => ?_ | refine kF_ fun hc => ?_ | refine kS_ (fun hc => ?_) fun hc => ?_) <;> (try simp only [hc, bs, ↓reduceIte] at h) <;> try simp only [hc]
 | (with_reducible refine lA_ hQ ?_; (try cases h); simp only [resL, oneD, sI_, eL_, go_sem, hH, hJ, hY, hZ, c1]; try exact lE_)
 | (cases h; done))

end Go.Abs

/-! Some -/

namespace Go.Abs

set_option maxRecDepth 8000
open Go.Proofs

theorem some_may : some0.may = true := by decide +kernel
theorem some_text : textS some0 = source := by decide +kernel
theorem some_rng : some0.rng := by
 intro f hf
 simp only [some0, List.mem_cons, List.not_mem_nil, or_false] at hf
 rcases hf with rfl | rfl <;> simp [Sm.rngs, Sm.rng, Ex.rng, Ex.rngs, exNum, exName, exTwo, ex0]

def prB : Pc := ⟨[112], [⟨[120], false⟩, ⟨[121], true⟩], [], [
   ⟨5, 1, [], [121], [], exTwo 8 (exName [121]) (exName [120]), false, [], [], []⟩,
   ⟨6, 5, [], [], [], exTwo 12 (exName [121]) (exNum 9), false, [], [⟨7, 10, [], [101], [], ex0, false, [], [], []⟩], []⟩,
   ⟨8, 9, [], [], [], exName [121], true, [], [], []⟩], [[101]]⟩
def stB : Sm := ⟨6, 5, [], [], [], exTwo 12 (exName [121]) (exNum 9), false, [], [⟨7, 10, [], [101], [], ex0, false, [], [], []⟩], []⟩
theorem some_prB : some0.procs[1]? = some prB := rfl
theorem some_stB : prB.body[1]? = some stB := rfl

theorem printed5_s (s : St) : Fun Tryz.prog n_law5_printed [] s (.bool true) s := by
 refine Fun.pure ?_ rfl rfl s
 have hsz : some0.size ≤ 1000000 := by decide +kernel
 have h1 := pText_s (may_FineP some_may (by omega)) (fun _ => may_PrG some_may some_rng) hsz
 rw [if_pos some_may, some_text] at h1
 have h2 := pExpr_s (x := stB.x) (by simp [stB, Ex.rng, Ex.rngs, exNum, exName, exTwo]) (by decide) (by simp [stB, Ex.texts, Ex.textss, exNum, exName, exTwo]) (by decide)
 have e : printE stB.x = [121, 32, 62, 32, 57] := by decide +kernel
 rw [e] at h2
 have b1 : (source == source) = true := beq_self_eq_true _
 have b2 : (([121, 32, 62, 32, 57] : Str) == [121, 32, 62, 32, 57]) = true := rfl
 have e1 := some_prB
 have e2 := some_stB
 have hS := fun s => Some_s s
 generalize some0 = P at *
 generalize prB = F at *
 generalize stB = T at *
 unfold S0
 refine Fun.go has_law5_printed rfl fun B Q hB hQ => ?_
 have ⟨hH, hJ, hY, hZ⟩ := H4_
 repeat' (first
 | simp only [go_sem, hH, hJ, hY, hZ, Int.toNat_one, e1, e2, b1, b2]
 | (with_reducible refine CU (hS _) ?_)
 | (with_reducible refine CU (h1 _) ?_)
 | (with_reducible refine CU (h2 _) ?_)
 | (with_reducible refine CU (Source_s _) ?_)
 | (with_reducible first | refine kT_ fun hc => ?_ | refine kF_ fun hc => ?_ | refine kS_ (fun hc => ?_) fun hc => ?_) <;> (try simp only [hc, bs, ↓reduceIte] at h) <;> try simp only [hc]
 | (with_reducible refine lA_ hQ ?_; (try cases h); simp only [resL, oneD, sI_, eL_, go_sem, hH, hJ, hY, hZ, Int.toNat_one, e1, e2, b1, b2]; try exact lE_)
 | (cases h; done))

end Go.Abs

/-! Toks -/

namespace Go.Abs

set_option maxRecDepth 8000
open Go.Proofs

def argsTok : List Ar → Int
 | [] => 0
 | a :: l => 3 + 4 * sizeM a.x 2000 + argsTok l
def tokOf (s : Sm) : Int := 8 + 2 * (s.labels.length : Int) + 4 * sizeM s.x 2000 + argsTok s.args
def itemsTok : List It → Int
 | [] => 0
 | i :: l => tokOf i.s + itemsTok l
def refsN : List Pm → Int
 | [] => 0
 | a :: l => (if a.ref then 1 else 0) + refsN l
def pcTok (f : Pc) : Int := 6 + 2 * (f.params.length : Int) + 2 * (f.fin.length : Int) + refsN f.params - (if f.params.length = 0 then 0 else 1) + (if f.vars.length = 0 then 0 else 1 + 2 * (f.vars.length : Int)) + itemsTok f.flat
def pcsTok : List Pc → Int
 | [] => 0
 | f :: l => pcTok f + pcsTok l
def tokM (p : Pg) : Int := (if p.globals.length = 0 then 0 else 1 + 2 * (p.globals.length : Int)) + pcsTok p.procs

theorem size_b (x : Ex) : 1 ≤ sizeM x 2000 ∧ sizeM x 2000 ≤ 2001 := by
 obtain ⟨h1, h2, _⟩ := size_in _ x (Nat.le_refl _) 2000 (by omega)
 exact ⟨h1, by omega⟩
theorem argsTok_b : ∀ l : List Ar, 0 ≤ argsTok l ∧ argsTok l ≤ 9000 * (l.length : Int)
 | [] => by simp [argsTok]
 | a :: l => by
   have := argsTok_b l; have := size_b a.x
   simp only [argsTok, List.length_cons]; omega
theorem tokOf_b {s : Sm} (h : s.size ≤ 1000000) : 0 ≤ tokOf s ∧ tokOf s ≤ 10000000000 := by
 have := argsTok_b s.args; have := size_b s.x
 have h1 := Ar.sizes_len s.args
 have h2 : s.labels.length + Ar.sizes s.args ≤ s.size := by cases s; simp only [Sm.size]; omega
 unfold tokOf; omega
theorem itemsTok_b : ∀ {l : List It}, (∀ i ∈ l, i.s.size ≤ 1000000) → 0 ≤ itemsTok l ∧ itemsTok l ≤ 10000000000 * (l.length : Int)
 | [], _ => by simp [itemsTok]
 | i :: l, h => by
   have := itemsTok_b fun j m => h j (List.mem_cons_of_mem _ m)
   have := tokOf_b (h i (List.mem_cons_self ..))
   simp only [itemsTok, List.length_cons]; omega
theorem refsN_b : ∀ l : List Pm, 0 ≤ refsN l ∧ refsN l ≤ (l.length : Int)
 | [] => by simp [refsN]
 | a :: l => by
   have := refsN_b l
   simp only [refsN, List.length_cons]
   split <;> omega

theorem tokensOf_s {s : Sm} (hs : s.size ≤ 1000000) (st : St) : Fun Tryz.prog n_ref3_tokensOf [.agg (encSm s)] st (.int .i64 (tokOf s)) st := by
 refine Fun.pure ?_ (by simp [D.oks, D.ok, okSm]) rfl st
 obtain ⟨hb0, hb1⟩ := tokOf_b hs
 have hsz : s.labels.length + s.x.size + Ar.sizes s.args ≤ s.size := by cases s; simp only [Sm.size]; omega
 have e1 := fun st => Size_s _ s.x (Nat.le_refl _) (most := 2000) (by omega) (by omega) st
 have sb := size_b s.x
 have ab := argsTok_b s.args
 generalize hR : tokOf s = R at *
 unfold tokOf at hR
 unfold S0
 have w1 : IntKind.wrap .i64 (2 * (s.labels.length : Int)) = 2 * (s.labels.length : Int) := wrap_ok (by omega) (by omega)
 have w2 : IntKind.wrap .i64 (8 + 2 * (s.labels.length : Int)) = 8 + 2 * (s.labels.length : Int) := wrap_ok (by omega) (by omega)
 have w3 : IntKind.wrap .i64 (4 * sizeM s.x 2000) = 4 * sizeM s.x 2000 := wrap_ok (by omega) (by omega)
 have w4 : IntKind.wrap .i64 (8 + 2 * (s.labels.length : Int) + 4 * sizeM s.x 2000) = 8 + 2 * (s.labels.length : Int) + 4 * sizeM s.x 2000 := wrap_ok (by omega) (by omega)
 refine Fun.go has_ref3_tokensOf rfl fun B Q hB hQ => ?_
 have ⟨hH, hJ, hY, hZ⟩ := H4_
 repeat' (first
 | simp only [go_sem, hH, hJ, hY, hZ, w1, w2, w3, w4]
 | (with_reducible refine CU (e1 _) ?_)
 | (with_reducible first | refine kT_ fun hc => ?_ | refine kF_ fun hc => ?_ | refine kS_ (fun hc => ?_) fun hc => ?_) <;> (try simp only [hc, bs, ↓reduceIte] at h) <;> try simp only [hc]
 | (with_reducible refine lA_ hQ ?_; (try cases h); simp only [resL, oneD, sI_, eL_, go_sem, hH, hJ, hY, hZ, w1, w2, w3, w4]; try exact lE_)
 | (cases h; done))
 refine rL_ 1 0 (SemL.ind (ι := List Ar × Nat × Int) (fun i => s.args.drop i.2.1 = i.1 ∧ i.2.2 + argsTok i.1 = R ∧ 0 ≤ i.2.2) (fun i => i.1.length)
   (fun i => [(3, .int .i64 i.2.2), (17, .slice .shared 6 (s.args.map encAr)), (18, .int .i64 (s.args.length : Int)), (19, .int .i64 (i.2.1 : Nat))]) (fun i => ⟨[encSm s], []⟩) ?_ (s.args, 0, 8 + 2 * (s.labels.length : Int) + 4 * sizeM s.x 2000) ⟨rfl, hR, by dsimp only; omega⟩)
 rintro ⟨rest, k, c⟩ ⟨g1, h, g3⟩ IH
 dsimp only at g1 h g3
 cases rest with
 | nil =>
   have hH := drop_nil g1
   simp only [argsTok, Int.add_zero] at h
   subst h
   repeat' (first
 | simp only [go_sem, hH, hJ, hY, hZ]
 | (with_reducible first | refine kT_ fun hc => ?_ | refine kF_ fun hc => ?_ | refine kS_ (fun hc => ?_) fun hc => ?_) <;> (try simp only [hc, bs, ↓reduceIte] at h) <;> try simp only [hc]
 | (with_reducible refine lA_ hQ ?_; exact lY_)
 | (cases h; done))
 | cons a rest =>
   obtain ⟨hJ, g2, hH, g5⟩ := drop_cons g1
   have hmem := List.mem_of_getElem? hJ
   have hsz2 := Ar.sizes_mem hmem
   have hln := Ar.sizes_len s.args
   have e2 := fun st => Size_s _ a.x (Nat.le_refl _) (most := 2000) (by omega) (by omega) st
   have sb2 := size_b a.x
   have rb := argsTok_b rest
   simp only [argsTok] at h
   have w5 : IntKind.wrap .i64 ((k : Int) + 1) = ((k + 1 : Nat) : Int) := by rw [wrap_ok] <;> omega
   have w6 : IntKind.wrap .i64 (4 * sizeM a.x 2000) = 4 * sizeM a.x 2000 := wrap_ok (by omega) (by omega)
   have w7 : IntKind.wrap .i64 (3 + 4 * sizeM a.x 2000) = 3 + 4 * sizeM a.x 2000 := wrap_ok (by omega) (by omega)
   have w8 : IntKind.wrap .i64 (c + (3 + 4 * sizeM a.x 2000)) = c + (3 + 4 * sizeM a.x 2000) := wrap_ok (by omega) (by omega)
   repeat' (first
 | simp only [go_sem, hH, hJ, hY, hZ, w5, w6, w7, w8]
 | (with_reducible refine CU (e2 _) ?_)
 | (with_reducible first | refine kT_ fun hc => ?_ | refine kF_ fun hc => ?_ | refine kS_ (fun hc => ?_) fun hc => ?_) <;> (try simp only [hc, bs, ↓reduceIte] at h) <;> try simp only [hc]
 | (with_reducible refine lA_ hQ ?_; (try cases h); simp only [resL, oneD, sI_, eL_, go_sem, hH, hJ, hY, hZ, w5, w6, w7, w8]; try exact lE_)
 | (cases h; done))
   refine rL_ 1 0 (IH (rest, k + 1, c + (3 + 4 * sizeM a.x 2000)) ⟨g2, by dsimp only; omega, by dsimp only; omega⟩ (Nat.lt_succ_self _))

theorem Tokens_s {p : Pg} (hs : p.size ≤ 1000000) (st : St) : Fun Tryz.prog n_ref3_Tokens [.agg (encPg p)] st (.int .i64 (tokM p)) st := by
 refine Fun.pure ?_ (by simp only [D.oks, D.ok, okPg]; rfl) rfl st
 have hps : Pc.sizes p.procs ≤ 1000000 := by simp only [Pg.size] at hs; omega
 have hpl := Pc.sizes_len p.procs
 have hgl : p.globals.length ≤ 1000000 := by simp only [Pg.size] at hs; omega
 have hit : ∀ f ∈ p.procs, ∀ i ∈ f.flat, i.s.size ≤ 1000000 := by
   intro f hf i hi
   have h1 := Pc.sizes_mem hf
   rcases flatL_mem _ hi with h | h
   · simp at h
   · unfold Pc.size at h1; omega
 have hfb : ∀ f ∈ p.procs, 0 ≤ itemsTok f.flat ∧ itemsTok f.flat ≤ 2010000000000 := by
   intro f hf
   have h1 := itemsTok_b (hit f hf)
   have h2 : f.flat.length ≤ 201 := flatL_len _ _ _ _ (by simp) f.body
   omega
 have hpb : ∀ f ∈ p.procs, 0 ≤ pcTok f + 1 ∧ pcTok f ≤ 3000000000000 := by
   intro f hf
   have h1 := hfb f hf
   have h2 := refsN_b f.params
   have h3 := Pc.sizes_mem hf
   unfold Pc.size at h3
   unfold pcTok
   split <;> split <;> omega
 have hsum : ∀ l : List Pc, (∀ f ∈ l, f ∈ p.procs) → -(l.length : Int) ≤ pcsTok l ∧ pcsTok l ≤ 3000000000000 * (l.length : Int) := by
   intro l
   induction l with
   | nil => intro _; simp [pcsTok]
   | cons f l ih =>
     intro h
     have := ih fun g m => h g (List.mem_cons_of_mem _ m)
     have := hpb f (h f (List.mem_cons_self ..))
     simp only [pcsTok, List.length_cons]; omega
 unfold S0
 generalize hR : tokM p = R
 unfold tokM at hR
 have w1 : IntKind.wrap .i64 (2 * (p.globals.length : Int)) = 2 * (p.globals.length : Int) := wrap_ok (by omega) (by omega)
 have w2 : IntKind.wrap .i64 (1 + 2 * (p.globals.length : Int)) = 1 + 2 * (p.globals.length : Int) := wrap_ok (by omega) (by omega)
 refine Fun.go has_ref3_Tokens rfl fun B Q hB hQ => ?_
 have ⟨hH, hJ, hY, hZ⟩ := H4_
 have key : ∀ i : List Pc × Nat × Int, (p.procs.drop i.2.1 = i.1 ∧ i.2.2 + pcsTok i.1 = R ∧ -(i.2.1 : Int) ≤ i.2.2 ∧ i.2.2 ≤ 2000001 + 3000000000000 * (i.2.1 : Int)) →
     SemL Tryz.prog B 82 QAI (inBlockQ 0 (thenQ (wpC Tryz.prog B 82 QAN Q) Q))
       [(3, .int .i64 i.2.2), (20, .slice .shared 5 (p.procs.map encPc)), (21, .int .i64 (p.procs.length : Int)), (22, .int .i64 (i.2.1 : Nat))] ⟨[encPg p], []⟩ := by
   refine SemL.ind (ι := List Pc × Nat × Int) (fun i => p.procs.drop i.2.1 = i.1 ∧ i.2.2 + pcsTok i.1 = R ∧ -(i.2.1 : Int) ≤ i.2.2 ∧ i.2.2 ≤ 2000001 + 3000000000000 * (i.2.1 : Int)) (fun i => i.1.length) (fun i => [(3, .int .i64 i.2.2), (20, .slice .shared 5 (p.procs.map encPc)), (21, .int .i64 (p.procs.length : Int)), (22, .int .i64 (i.2.1 : Nat))]) (fun i => ⟨[encPg p], []⟩) ?_
   rintro ⟨rest, k, c⟩ ⟨g1, h, b1, b2⟩ IH
   dsimp only at g1 h b1 b2
   cases rest with
   | nil =>
     have hH := drop_nil g1
     simp only [pcsTok, Int.add_zero] at h
     subst h
     repeat' (first
 | simp only [go_sem, hH, hJ, hY, hZ]
 | (with_reducible first | refine kT_ fun hc => ?_ | refine kF_ fun hc => ?_ | refine kS_ (fun hc => ?_) fun hc => ?_) <;> (try simp only [hc, bs, ↓reduceIte] at h) <;> try simp only [hc]
 | (with_reducible refine lA_ hQ ?_; exact lY_)
 | (cases h; replace h := hr; clear hr; (try simp only [bs, ↓reduceIte] at h))
 | (cases h; done))
   | cons f rest =>
     obtain ⟨hJ, g2, hH, g5⟩ := drop_cons g1
     have hmem := List.mem_of_getElem? hJ
     have hfz := Pc.sizes_mem hmem
     have hfz2 : f.params.length + f.vars.length + f.fin.length + Sm.sizes f.body + 1 ≤ f.size := by unfold Pc.size; omega
     have hfi := hfb f hmem
     have hits := hit f hmem
     have hfp := hpb f hmem
     have hrf := refsN_b f.params
     have eF := fun st => Flat_s (f := f) (by omega) st
     have hfl : f.flat.length ≤ 201 := flatL_len _ _ _ _ (by simp) f.body
     simp only [pcsTok] at h
     generalize hV : pcTok f = V at *
     unfold pcTok at hV
     have w3 : IntKind.wrap .i64 ((k : Int) + 1) = ((k + 1 : Nat) : Int) := by rw [wrap_ok] <;> omega
     have w4 : IntKind.wrap .i64 (2 * (f.params.length : Int)) = 2 * (f.params.length : Int) := wrap_ok (by omega) (by omega)
     have w5 : IntKind.wrap .i64 (6 + 2 * (f.params.length : Int)) = 6 + 2 * (f.params.length : Int) := wrap_ok (by omega) (by omega)
     have w6 : IntKind.wrap .i64 (2 * (f.fin.length : Int)) = 2 * (f.fin.length : Int) := wrap_ok (by omega) (by omega)
     have w7 : IntKind.wrap .i64 (6 + 2 * (f.params.length : Int) + 2 * (f.fin.length : Int)) = 6 + 2 * (f.params.length : Int) + 2 * (f.fin.length : Int) := wrap_ok (by omega) (by omega)
     have w8 : IntKind.wrap .i64 (c + (6 + 2 * (f.params.length : Int) + 2 * (f.fin.length : Int))) = c + (6 + 2 * (f.params.length : Int) + 2 * (f.fin.length : Int)) := wrap_ok (by omega) (by omega)
     have fin : ∀ i : List It × Nat × Int, (f.flat.drop i.2.1 = i.1 ∧ i.2.2 + itemsTok i.1 = c + V ∧ -1000000000 ≤ i.2.2) →
         SemL Tryz.prog B 82 QA5 (inBlockQ 4 (inBlockQ 1 (thenQ (wpC Tryz.prog B 82 QAF (thenQ (SemL Tryz.prog B 82 QAI (inBlockQ 0 (thenQ (wpC Tryz.prog B 82 QAN Q) Q))) (inBlockQ 0 (thenQ (wpC Tryz.prog B 82 QAN Q) Q)))) (thenQ (SemL Tryz.prog B 82 QAI (inBlockQ 0 (thenQ (wpC Tryz.prog B 82 QAN Q) Q))) (inBlockQ 0 (thenQ (wpC Tryz.prog B 82 QAN Q) Q))))))
           [(3, .int .i64 i.2.2), (20, .slice .shared 5 (p.procs.map encPc)), (21, .int .i64 (p.procs.length : Int)), (22, .int .i64 (k : Nat)), (68, .slice .shared 16 (f.flat.map encIt)), (69, .int .i64 (f.flat.length : Int)), (70, .int .i64 (i.2.1 : Nat))] ⟨[encPg p], []⟩ := by
       refine SemL.ind (ι := List It × Nat × Int) (fun i => f.flat.drop i.2.1 = i.1 ∧ i.2.2 + itemsTok i.1 = c + V ∧ -1000000000 ≤ i.2.2) (fun i => i.1.length) (fun i => [(3, .int .i64 i.2.2), (20, .slice .shared 5 (p.procs.map encPc)), (21, .int .i64 (p.procs.length : Int)), (22, .int .i64 (k : Nat)), (68, .slice .shared 16 (f.flat.map encIt)), (69, .int .i64 (f.flat.length : Int)), (70, .int .i64 (i.2.1 : Nat))]) (fun i => ⟨[encPg p], []⟩) ?_
       rintro ⟨its, j, d⟩ ⟨k1, hd, k3⟩ IH3
       dsimp only at k1 hd k3
       cases its with
       | nil =>
         have hH := drop_nil k1
         simp only [itemsTok, Int.add_zero] at hd
         subst hd
         repeat' (first
 | simp only [go_sem, hH, hJ, hY, hZ, w3]
 | (with_reducible first | refine kT_ fun hc => ?_ | refine kF_ fun hc => ?_ | refine kS_ (fun hc => ?_) fun hc => ?_) <;> (try simp only [hc, bs, ↓reduceIte] at h) <;> try simp only [hc]
 | (with_reducible refine lA_ hQ ?_; (try cases h); simp only [resL, oneD, sI_, eL_, go_sem, hH, hJ, hY, hZ, w3]; try exact lE_)
 | (cases h; replace h := hr; clear hr; (try simp only [bs, ↓reduceIte] at h))
 | (cases h; done))
         refine rL_ 1 0 (IH (rest, k + 1, c + V) ⟨g2, by dsimp only; omega, by dsimp only; omega, by dsimp only; omega⟩ (Nat.lt_succ_self _))
       | cons i its =>
         obtain ⟨hJ, k2, hH, k5⟩ := drop_cons k1
         have hmi := List.mem_of_getElem? hJ
         have hb := tokOf_b (hits i hmi)
         have hrb := itemsTok_b (l := its) fun z m => hits z (List.mem_of_mem_drop (by rw [k2]; exact m))
         have et := fun st => tokensOf_s (hits i hmi) st
         simp only [itemsTok] at hd
         have x1 : IntKind.wrap .i64 ((j : Int) + 1) = ((j + 1 : Nat) : Int) := by rw [wrap_ok] <;> omega
         have x2 : IntKind.wrap .i64 (d + tokOf i.s) = d + tokOf i.s := by rw [wrap_ok] <;> omega
         have h16 : List.take 16 (encIt i) = encIt i := List.take_of_length_le (by rw [lenIt]; exact Nat.le_refl _)
         repeat' (first
 | simp only [go_sem, hH, hJ, hY, hZ, x1, x2, h16]
 | (with_reducible refine CU (et _) ?_)
 | (with_reducible first | refine kT_ fun hc => ?_ | refine kF_ fun hc => ?_ | refine kS_ (fun hc => ?_) fun hc => ?_) <;> (try simp only [hc, bs, ↓reduceIte] at h) <;> try simp only [hc]
 | (with_reducible refine lA_ hQ ?_; (try cases h); simp only [resL, oneD, sI_, eL_, go_sem, hH, hJ, hY, hZ, x1, x2, h16]; try exact lE_)
 | (cases h; replace h := hr; clear hr; (try simp only [bs, ↓reduceIte] at h))
 | (cases h; done))
         refine rL_ 1 0 (IH3 (its, j + 1, d + tokOf i.s) ⟨k2, by dsimp only; omega, by dsimp only; omega⟩ (Nat.lt_succ_self _))
     repeat' (first
 | simp only [go_sem, hH, hJ, hY, hZ, w4, w5, w6, w7, w8]
 | (with_reducible first | refine kT_ fun hc => ?_ | refine kF_ fun hc => ?_ | refine kS_ (fun hc => ?_) fun hc => ?_) <;> (try simp only [hc, bs, ↓reduceIte] at h) <;> try simp only [hc]
 | (with_reducible refine lA_ hQ ?_; (try cases h); simp only [resL, oneD, sI_, eL_, go_sem, hH, hJ, hY, hZ, w4, w5, w6, w7, w8]; try exact lE_)
 | (cases h; replace h := hr; clear hr; (try simp only [bs, ↓reduceIte] at h))
 | (cases h; done))
     refine rL_ 2 0 (SemL.ind (ι := List Pm × Nat × Int) (fun i => f.params.drop i.2.1 = i.1 ∧ i.2.2 + refsN i.1 = c + (6 + 2 * (f.params.length : Int) + 2 * (f.fin.length : Int)) + refsN f.params ∧ -1000000000 ≤ i.2.2) (fun i => i.1.length)
       (fun i => [(3, .int .i64 i.2.2), (5, .ptr 1 0), (20, .slice .shared 5 (p.procs.map encPc)), (21, .int .i64 (p.procs.length : Int)), (22, .int .i64 (k : Nat)), (39, .slice .shared 2 (f.params.map encPm)), (40, .int .i64 (f.params.length : Int)), (41, .int .i64 (i.2.1 : Nat))]) (fun i => ⟨[encPg p, encPc f], []⟩) ?_ (f.params, 0, c + (6 + 2 * (f.params.length : Int) + 2 * (f.fin.length : Int))) ⟨rfl, rfl, by dsimp only; omega⟩)
     rintro ⟨ps, j, d⟩ ⟨k1, hd, k3⟩ IH2
     dsimp only at k1 hd k3
     cases ps with
     | nil =>
       have hH := drop_nil k1
       simp only [refsN, Int.add_zero] at hd
       have wm : IntKind.wrap .i64 (d - 1) = d - 1 := wrap_ok (by omega) (by omega)
       have wv : IntKind.wrap .i64 (2 * (f.vars.length : Int)) = 2 * (f.vars.length : Int) := wrap_ok (by omega) (by omega)
       have wv2 : IntKind.wrap .i64 (1 + 2 * (f.vars.length : Int)) = 1 + 2 * (f.vars.length : Int) := wrap_ok (by omega) (by omega)
       have wv3 : IntKind.wrap .i64 (d + (1 + 2 * (f.vars.length : Int))) = d + (1 + 2 * (f.vars.length : Int)) := wrap_ok (by omega) (by omega)
       have wv4 : IntKind.wrap .i64 (d - 1 + (1 + 2 * (f.vars.length : Int))) = d - 1 + (1 + 2 * (f.vars.length : Int)) := wrap_ok (by omega) (by omega)
       cases cp : decide ((f.params.length : Int) > 0) with
       | true =>
         have cp' : f.params.length ≠ 0 := by have := of_decide_eq_true cp; omega
         rw [if_neg cp'] at hV
         cases cv : decide ((f.vars.length : Int) > 0) with
         | true =>
           have cv' : f.vars.length ≠ 0 := by have := of_decide_eq_true cv; omega
           rw [if_neg cv'] at hV
           repeat' (first
 | simp only [go_sem, hH, hJ, hY, hZ, cp, cv, wm, wv, wv2, wv4]
 | (with_reducible refine CU (eF _) ?_)
 | (with_reducible first | refine kT_ fun hc => ?_ | refine kF_ fun hc => ?_ | refine kS_ (fun hc => ?_) fun hc => ?_) <;> (try simp only [hc, bs, ↓reduceIte] at h) <;> try simp only [hc]
 | (with_reducible refine lA_ hQ ?_; (try cases h); simp only [resL, oneD, sI_, eL_, go_sem, hH, hJ, hY, hZ, cp, cv, wm, wv, wv2, wv4]; try exact lE_)
 | (cases h; replace h := hr; clear hr; (try simp only [bs, ↓reduceIte] at h))
 | (cases h; done))
           refine rL_ 1 0 (fin (f.flat, 0, d - 1 + (1 + 2 * (f.vars.length : Int))) ⟨rfl, by dsimp only; omega, by dsimp only; omega⟩)
         | false =>
           have cv' : f.vars.length = 0 := by have := of_decide_eq_false cv; omega
           rw [if_pos cv'] at hV
           repeat' (first
 | simp only [go_sem, hH, hJ, hY, hZ, cp, cv, wm]
 | (with_reducible refine CU (eF _) ?_)
 | (with_reducible first | refine kT_ fun hc => ?_ | refine kF_ fun hc => ?_ | refine kS_ (fun hc => ?_) fun hc => ?_) <;> (try simp only [hc, bs, ↓reduceIte] at h) <;> try simp only [hc]
 | (with_reducible refine lA_ hQ ?_; (try cases h); simp only [resL, oneD, sI_, eL_, go_sem, hH, hJ, hY, hZ, cp, cv, wm]; try exact lE_)
 | (cases h; replace h := hr; clear hr; (try simp only [bs, ↓reduceIte] at h))
 | (cases h; done))
           refine rL_ 1 0 (fin (f.flat, 0, d - 1) ⟨rfl, by dsimp only; omega, by dsimp only; omega⟩)
       | false =>
         have cp' : f.params.length = 0 := by have := of_decide_eq_false cp; omega
         rw [if_pos cp'] at hV
         cases cv : decide ((f.vars.length : Int) > 0) with
         | true =>
           have cv' : f.vars.length ≠ 0 := by have := of_decide_eq_true cv; omega
           rw [if_neg cv'] at hV
           repeat' (first
 | simp only [go_sem, hH, hJ, hY, hZ, cp, cv, wv, wv2, wv3]
 | (with_reducible refine CU (eF _) ?_)
 | (with_reducible first | refine kT_ fun hc => ?_ | refine kF_ fun hc => ?_ | refine kS_ (fun hc => ?_) fun hc => ?_) <;> (try simp only [hc, bs, ↓reduceIte] at h) <;> try simp only [hc]
 | (with_reducible refine lA_ hQ ?_; (try cases h); simp only [resL, oneD, sI_, eL_, go_sem, hH, hJ, hY, hZ, cp, cv, wv, wv2, wv3]; try exact lE_)
 | (cases h; replace h := hr; clear hr; (try simp only [bs, ↓reduceIte] at h))
 | (cases h; done))
           refine rL_ 1 0 (fin (f.flat, 0, d + (1 + 2 * (f.vars.length : Int))) ⟨rfl, by dsimp only; omega, by dsimp only; omega⟩)
         | false =>
           have cv' : f.vars.length = 0 := by have := of_decide_eq_false cv; omega
           rw [if_pos cv'] at hV
           repeat' (first
 | simp only [go_sem, hH, hJ, hY, hZ, cp, cv]
 | (with_reducible refine CU (eF _) ?_)
 | (with_reducible first | refine kT_ fun hc => ?_ | refine kF_ fun hc => ?_ | refine kS_ (fun hc => ?_) fun hc => ?_) <;> (try simp only [hc, bs, ↓reduceIte] at h) <;> try simp only [hc]
 | (with_reducible refine lA_ hQ ?_; (try cases h); simp only [resL, oneD, sI_, eL_, go_sem, hH, hJ, hY, hZ, cp, cv]; try exact lE_)
 | (cases h; replace h := hr; clear hr; (try simp only [bs, ↓reduceIte] at h))
 | (cases h; done))
           refine rL_ 1 0 (fin (f.flat, 0, d) ⟨rfl, by dsimp only; omega, by dsimp only; omega⟩)
     | cons a ps =>
       obtain ⟨hJ, k2, hH, k5⟩ := drop_cons k1
       have rb := refsN_b ps
       simp only [refsN] at hd
       have x1 : IntKind.wrap .i64 ((j : Int) + 1) = ((j + 1 : Nat) : Int) := by rw [wrap_ok] <;> omega
       have x2 : IntKind.wrap .i64 (d + 1) = d + 1 := by rw [wrap_ok] <;> (split at hd <;> omega)
       cases hr : a.ref with
       | true =>
         rw [hr] at hd
         simp only [↓reduceIte] at hd
         repeat' (first
 | simp only [go_sem, hH, hJ, hY, hZ, hr, x1, x2]
 | (with_reducible first | refine kT_ fun hc => ?_ | refine kF_ fun hc => ?_ | refine kS_ (fun hc => ?_) fun hc => ?_) <;> (try simp only [hc, bs, ↓reduceIte] at h) <;> try simp only [hc]
 | (with_reducible refine lA_ hQ ?_; (try cases h); simp only [resL, oneD, sI_, eL_, go_sem, hH, hJ, hY, hZ, hr, x1, x2]; try exact lE_)
 | (cases h; replace h := hr; clear hr; (try simp only [bs, ↓reduceIte] at h))
 | (cases h; done))
         refine rL_ 2 0 (IH2 (ps, j + 1, d + 1) ⟨k2, by dsimp only; omega, by dsimp only; omega⟩ (Nat.lt_succ_self _))
       | false =>
         rw [hr] at hd
         simp only [Bool.false_eq_true, ↓reduceIte] at hd
         repeat' (first
 | simp only [go_sem, hH, hJ, hY, hZ, hr, x1]
 | (with_reducible first | refine kT_ fun hc => ?_ | refine kF_ fun hc => ?_ | refine kS_ (fun hc => ?_) fun hc => ?_) <;> (try simp only [hc, bs, ↓reduceIte] at h) <;> try simp only [hc]
 | (with_reducible refine lA_ hQ ?_; (try cases h); simp only [resL, oneD, sI_, eL_, go_sem, hH, hJ, hY, hZ, hr, x1]; try exact lE_)
 | (cases h; replace h := hr; clear hr; (try simp only [bs, ↓reduceIte] at h))
 | (cases h; done))
         refine rL_ 2 0 (IH2 (ps, j + 1, d) ⟨k2, by dsimp only; omega, by dsimp only; omega⟩ (Nat.lt_succ_self _))
 cases cg : decide ((p.globals.length : Int) > 0) with
 | true =>
   have cg' : p.globals.length ≠ 0 := by have := of_decide_eq_true cg; omega
   rw [if_neg cg'] at hR
   repeat' (first
 | simp only [go_sem, hH, hJ, hY, hZ, cg, w1, w2]
 | (with_reducible first | refine kT_ fun hc => ?_ | refine kF_ fun hc => ?_ | refine kS_ (fun hc => ?_) fun hc => ?_) <;> (try simp only [hc, bs, ↓reduceIte] at h) <;> try simp only [hc]
 | (with_reducible refine lA_ hQ ?_; (try cases h); simp only [resL, oneD, sI_, eL_, go_sem, hH, hJ, hY, hZ, cg, w1, w2]; try exact lE_)
 | (cases h; replace h := hr; clear hr; (try simp only [bs, ↓reduceIte] at h))
 | (cases h; done))
   refine rL_ 1 0 (key (p.procs, 0, 1 + 2 * (p.globals.length : Int)) ⟨rfl, hR, by dsimp only; omega, by dsimp only; omega⟩)
 | false =>
   have cg' : p.globals.length = 0 := by have := of_decide_eq_false cg; omega
   rw [if_pos cg'] at hR
   repeat' (first
 | simp only [go_sem, hH, hJ, hY, hZ, cg]
 | (with_reducible first | refine kT_ fun hc => ?_ | refine kF_ fun hc => ?_ | refine kS_ (fun hc => ?_) fun hc => ?_) <;> (try simp only [hc, bs, ↓reduceIte] at h) <;> try simp only [hc]
 | (with_reducible refine lA_ hQ ?_; (try cases h); simp only [resL, oneD, sI_, eL_, go_sem, hH, hJ, hY, hZ, cg]; try exact lE_)
 | (cases h; replace h := hr; clear hr; (try simp only [bs, ↓reduceIte] at h))
 | (cases h; done))
   refine rL_ 1 0 (key (p.procs, 0, 0) ⟨rfl, hR, by dsimp only; omega, by dsimp only; omega⟩)

end Go.Abs

/-! Toks2 -/

namespace Go.Abs

mutual
def stTk : Sm → Int
 | ⟨id, kind, labels, name, proc, x, has, args, thn, els⟩ => tokOf ⟨id, kind, labels, name, proc, x, has, args, thn, els⟩ + rowsTk thn + rowsTk els
def rowsTk : List Sm → Int
 | [] => 0
 | s :: l => stTk s + rowsTk l
end
theorem itemsTok_app : ∀ a b : List It, itemsTok (a ++ b) = itemsTok a + itemsTok b
 | [], b => by simp [itemsTok]
 | i :: a, b => by simp only [List.cons_append, itemsTok, itemsTok_app a b]; omega

mutual
theorem flat_tkS : ∀ (s : Sm) (nest inn : Int) (els : Bool) (n : Nat) (out : List It), nest ≤ 12 → out.length ≤ n → n ≤ 200 → (Sm.mayR nest n s).1 = true →
   ∃ new, flatS nest inn els out s = out ++ new ∧ itemsTok new = stTk s ∧ n + new.length = (Sm.mayR nest n s).2 ∧ (Sm.mayR nest n s).2 ≤ 200
 | ⟨id, kind, labels, name, proc, x, has, args, thn, e⟩, nest, inn, els, n, out, h12, ho, hn, h => by
   obtain ⟨h1, h2, h3, h4, h5, h6⟩ := mayR_true h
   dsimp only at h2 h4 h5 h6
   rw [h6]
   obtain ⟨g1, e1⟩ := mayG_true h4
   rw [e1] at h4 h5 ⊢
   obtain ⟨g2, e2⟩ := mayG_true h5
   rw [e2] at h5 ⊢
   obtain ⟨n1, k1, k2, k3, k4⟩ := flat_tkL thn (nest + 1) id false (n + 1) (out ++ [⟨⟨id, kind, labels, name, proc, x, has, args, thn, e⟩, nest, inn, els⟩]) g1 (by simp; omega) h1 h4
   obtain ⟨n2, j1, j2, j3, j4⟩ := flat_tkL e (nest + 1) id true _ (out ++ [⟨⟨id, kind, labels, name, proc, x, has, args, thn, e⟩, nest, inn, els⟩] ++ n1) g2 (by simp; omega) k4 h5
   simp only [flatS]
   rw [if_pos (by simpa using h12), k1, j1]
   refine ⟨⟨⟨id, kind, labels, name, proc, x, has, args, thn, e⟩, nest, inn, els⟩ :: (n1 ++ n2), by simp, ?_, ?_, j4⟩
   · simp only [itemsTok, itemsTok_app, stTk, k2, j2]; omega
   · simp only [List.length_cons, List.length_append]; omega
theorem flat_tkL : ∀ (l : List Sm) (nest inn : Int) (els : Bool) (n : Nat) (out : List It), (l = [] ∨ nest ≤ 12) → out.length ≤ n → n ≤ 200 → (Sm.mayL nest n l).1 = true →
   ∃ new, flatL nest inn els out l = out ++ new ∧ itemsTok new = rowsTk l ∧ n + new.length = (Sm.mayL nest n l).2 ∧ (Sm.mayL nest n l).2 ≤ 200
 | [], nest, inn, els, n, out, h12, ho, hn, h => ⟨[], by simp [flatL], rfl, by simp [Sm.mayL], by simpa [Sm.mayL] using hn⟩
 | s :: l, nest, inn, els, n, out, h12, ho, hn, h => by
   have h12' : nest ≤ 12 := h12.resolve_left (by simp)
   simp only [Sm.mayL] at h ⊢
   split at h
   · cases h
   rename_i hc
   rw [if_neg hc]
   obtain ⟨n1, k1, k2, k3, k4⟩ := flat_tkS s nest inn els n out h12' ho hn (by simpa using hc)
   obtain ⟨n2, j1, j2, j3, j4⟩ := flat_tkL l nest inn els _ (out ++ n1) (.inr h12') (by simp; omega) k4 h
   simp only [flatL]
   rw [if_pos (by simp only [decide_eq_true_eq]; omega), k1, j1]
   refine ⟨n1 ++ n2, by simp, ?_, by simp; omega, j4⟩
   rw [itemsTok_app, k2, j2]; rfl
end

theorem tokOf_0 (s : Sm) : 0 ≤ tokOf s := by
 have := argsTok_b s.args; have := size_b s.x
 unfold tokOf; omega
mutual
theorem stTk_0 : ∀ s : Sm, 0 ≤ stTk s
 | ⟨id, kind, labels, name, proc, x, has, args, thn, els⟩ => by
   have := tokOf_0 ⟨id, kind, labels, name, proc, x, has, args, thn, els⟩
   have := rowsTk_0 thn
   have := rowsTk_0 els
   simp only [stTk]; omega
theorem rowsTk_0 : ∀ l : List Sm, 0 ≤ rowsTk l
 | [] => by simp [rowsTk]
 | s :: l => by
   have := stTk_0 s
   have := rowsTk_0 l
   simp only [rowsTk]; omega
end

theorem exN_tk {x : Ex} (h : FormI x) (hs : sizeM x 2000 ≤ 2000) : (exN 0 x : Int) ≤ 3 * sizeM x 2000 := by
 obtain ⟨_, _, h3⟩ := size_in _ x (Nat.le_refl _) 2000 (by omega)
 rw [h3 hs]
 have := (exN_le h 0).2
 omega

theorem sep_tk {args : List Ar} (hm : ∀ a ∈ args, a.ref = false → FormI a.x) (h : argsTok args ≤ 2000) : (sepN argN args : Int) ≤ argsTok args := by
 have key : ∀ l : List Ar, (∀ a ∈ l, a.ref = false → FormI a.x) → argsTok l ≤ 2000 → (sepN argN l : Int) + (if l = [] then 0 else 1) ≤ argsTok l := by
   intro l
   induction l with
   | nil => intro _ _; simp [sepN, argsTok]
   | cons a l ih =>
     intro hm h
     simp only [argsTok] at h
     have hb := argsTok_b l
     have hs := size_b a.x
     have ih := ih (fun b m => hm b (List.mem_cons_of_mem _ m)) (by omega)
     have ha : (argN a : Int) + 1 ≤ 3 + 4 * sizeM a.x 2000 := by
       unfold argN
       split
       · omega
       · rename_i hr
         have := exN_tk (hm a (List.mem_cons_self ..) (by simpa using hr)) (by omega)
         omega
     cases l with
     | nil => simp only [sepN, argsTok] at ih ⊢; simp; omega
     | cons b l =>
       rw [if_neg (by simp)] at ih ⊢
       have e : argsTok (a :: b :: l) = 3 + 4 * sizeM a.x 2000 + argsTok (b :: l) := rfl
       rw [e]
       simp only [sepN] at ih ⊢
       omega
 have := key args hm h
 split at this <;> omega

mutual
theorem body_tk : ∀ (s : Sm) (inn : Nat) (nest : Int) (n0 : Nat), s.PrR inn → (Sm.mayR nest n0 s).1 = true → stTk s ≤ 2000 → (2 * s.labels.length + bodyN s : Nat) ≤ stTk s
 | ⟨id, kind, labels, name, proc, x, has, args, thn, els⟩, inn, nest, n0, h, hm, ht => by
   obtain ⟨ho, hi, hpt, hpe⟩ := (PrR_eq _ _).1 h
   obtain ⟨_, _, hone, mt, me, _⟩ := mayR_true hm
   have tt := (mayG_true mt).2
   have te := (mayG_true me).2
   rw [tt] at mt te me
   rw [te] at me
   dsimp only at hpt hpe mt me
   have r1 := rowsTk_0 thn
   have r2 := rowsTk_0 els
   have ab := argsTok_b args
   have sb := size_b x
   simp only [stTk, tokOf] at ht ⊢
   have h1 := rows_tk thn (inn + 1) _ _ hpt mt (by omega)
   have h2 := rows_tk els (inn + 1) _ _ hpe me (by omega)
   have hE : (Sm.hasX ⟨id, kind, labels, name, proc, x, has, args, thn, els⟩ = true) → (exN 0 x : Int) ≤ 3 * sizeM x 2000 := fun k => exN_tk (ho.x k) (by omega)
   simp only [bodyN]
   split
   · rename_i k
     have := hE (by simp [Sm.hasX, k])
     omega
   split
   · rename_i k
     have := hE (by simp [Sm.hasX, k])
     split <;> omega
   · rename_i k6 k5
     have hsep := sep_tk (args := args) (fun a m => (ho.args a m).2) (by omega)
     unfold plainN
     split
     · rename_i k; have := hE (by simp [Sm.hasX, k]); omega
     split
     · omega
     split
     · rename_i k; have := hE (by simp [Sm.hasX, k]); omega
     split
     · omega
     split
     · omega
     split
     · omega
     split
     · rename_i k
       split
       · rename_i kh; have := hE (by simp [Sm.hasX, k, kh]); omega
       · omega
     · split <;> omega
theorem rows_tk : ∀ (l : List Sm) (inn : Nat) (nest : Int) (n0 : Nat), Sm.PrRs inn l → (Sm.mayL nest n0 l).1 = true → rowsTk l ≤ 2000 → (rowsN l : Int) ≤ rowsTk l
 | [], _, _, _, _, _, _ => by simp [rowsN, rowsTk]
 | s :: l, inn, nest, n0, h, hm, ht => by
   obtain ⟨m1, m2, _⟩ := mayL_cons hm
   simp only [Sm.PrRs] at h
   simp only [rowsTk] at ht ⊢
   have s0 := stTk_0 s
   have r0 := rowsTk_0 l
   have h1 := body_tk s inn nest n0 h.1 m1 (by omega)
   have h2 := rows_tk l inn nest _ h.2 m2 (by omega)
   simp only [rowsN]; omega
end

theorem names_tk (l : List Str) : (namesN l : Int) ≤ (if l.length = 0 then 0 else 1 + 2 * (l.length : Int)) := by
 unfold namesN
 have key : ∀ l : List Str, l ≠ [] → sepN (fun _ => 1) l + 1 = 2 * l.length := by
   intro l
   induction l with
   | nil => intro h; exact absurd rfl h
   | cons a l ih =>
     intro _
     cases l with
     | nil => simp [sepN]
     | cons b l =>
       have := ih (by simp)
       simp only [sepN, List.length_cons] at this ⊢
       omega
 split
 · simp
 · rename_i h
   have := key l (fun e => h (by rw [e]; rfl))
   omega
theorem params_tk (l : List Pm) : (sepN parN l : Int) ≤ 2 * (l.length : Int) + refsN l - (if l.length = 0 then 0 else 1) := by
 have key : ∀ l : List Pm, l ≠ [] → (sepN parN l : Int) + 1 = 2 * (l.length : Int) + refsN l := by
   intro l
   induction l with
   | nil => intro h; exact absurd rfl h
   | cons a l ih =>
     intro _
     cases l with
     | nil => simp only [sepN, parN, refsN, List.length_cons, List.length_nil]; split <;> simp
     | cons b l =>
       have := ih (by simp)
       have e : refsN (a :: b :: l) = (if a.ref then 1 else 0) + refsN (b :: l) := rfl
       rw [e]
       simp only [sepN, parN, List.length_cons] at this ⊢
       split <;> omega
 by_cases h : l = []
 · subst h; simp [sepN, refsN]
 · have := key l h
   have h0 : l.length ≠ 0 := fun e => h (List.eq_nil_of_length_eq_zero e)
   rw [if_neg h0]; omega

theorem procs_tk : ∀ (l : List Pc) (n0 : Nat), n0 ≤ 200 → Pc.mayL n0 l = true → (∀ f ∈ l, f.PrP) → 0 ≤ pcsTok l ∧ (pcsTok l ≤ 2000 → (procsN l : Int) ≤ pcsTok l)
 | [], _, _, _, _ => by simp [procsN, pcsTok]
 | f :: l, n0, hn, h, hP => by
   simp only [Pc.mayL] at h
   split at h
   · cases h
   split at h
   · cases h
   split at h
   · cases h
   rename_i c3
   have c3 : (Sm.mayG 1 n0 f.body).1 = true := by simpa using c3
   have c4 := c3
   rw [(mayG_true c3).2] at c4 h
   obtain ⟨new, k1, k2, k3, k4⟩ := flat_tkL f.body 1 0 false n0 [] (.inr (by omega)) (by simp) hn c4
   have hfl : f.flat = new := by unfold Pc.flat; rw [k1]; rfl
   have hr0 := rowsTk_0 f.body
   obtain ⟨g1, g2⟩ := procs_tk l _ k4 h fun g m => hP g (List.mem_cons_of_mem _ m)
   have hb := rows_tk f.body 1 1 n0 (hP f (List.mem_cons_self ..)).body c4
   have hv := names_tk f.vars
   have hp := params_tk f.params
   have hrf := refsN_b f.params
   have e : pcTok f = 6 + 2 * (f.params.length : Int) + 2 * (f.fin.length : Int) + refsN f.params - (if f.params.length = 0 then 0 else 1) + (if f.vars.length = 0 then 0 else 1 + 2 * (f.vars.length : Int)) + rowsTk f.body := by unfold pcTok; rw [hfl, k2]
   simp only [pcsTok, procsN, procN, e]
   generalize (if f.params.length = 0 then (0 : Int) else 1) = P at *
   generalize hVV : (if f.vars.length = 0 then (0 : Int) else 1 + 2 * (f.vars.length : Int)) = V at *
   have hV0 : 0 ≤ V := by omega
   refine ⟨by omega, fun hw => ?_⟩
   have := hb (by omega)
   have := g2 (by omega)
   omega

theorem toks_le {p : Pg} (h : p.may = true) (hr : p.rng) (ht : tokM p ≤ 2000) : p.toks ≤ 2000 := by
 have hG := may_PrG h hr
 rw [← mayP_eq] at h
 unfold Pg.mayP at h
 split at h
 · cases h
 obtain ⟨g1, g2⟩ := procs_tk p.procs 0 (by omega) h hG.procs
 have hv := names_tk p.globals
 unfold tokM at ht
 have hv0 : 0 ≤ (namesN p.globals : Int) := Int.natCast_nonneg _
 have := g2 (by omega)
 unfold Pg.toks
 omega

end Go.Abs

/-! Swap1 -/

namespace Go.Abs

set_option maxRecDepth 8000
open Go.Proofs

def oth (a b t : Str) : Str := if t == a then b else if t == b then a else t
mutual
def Ex.swap (a b : Str) : Ex → Ex
 | ⟨op, n, name, kids⟩ => ⟨op, n, oth a b name, Ex.swaps a b kids⟩
def Ex.swaps (a b : Str) : List Ex → List Ex
 | [] => []
 | x :: l => x.swap a b :: Ex.swaps a b l
end
def Ar.swap (a b : Str) (x : Ar) : Ar := ⟨x.ref, oth a b x.name, x.x.swap a b⟩
mutual
def Sm.swap (a b : Str) : Sm → Sm
 | ⟨id, kind, labels, name, proc, x, has, args, thn, els⟩ => ⟨id, kind, labels.map (oth a b), oth a b name, oth a b proc, x.swap a b, has, args.map (Ar.swap a b), Sm.swaps a b thn, Sm.swaps a b els⟩
def Sm.swaps (a b : Str) : List Sm → List Sm
 | [] => []
 | s :: l => s.swap a b :: Sm.swaps a b l
end
def Pm.swap (a b : Str) (x : Pm) : Pm := ⟨oth a b x.name, x.ref⟩
def Pc.swap (a b : Str) (f : Pc) : Pc := ⟨oth a b f.name, f.params.map (Pm.swap a b), f.vars.map (oth a b), Sm.swaps a b f.body, f.fin.map (oth a b)⟩
def Pg.swap (a b : Str) (p : Pg) : Pg := ⟨p.globals.map (oth a b), p.procs.map (Pc.swap a b)⟩

theorem other_s (a b t : Str) (s : St) : Fun Tryz.prog n_ref3_other [.str t, .str a, .str b] s (.str (oth a b t)) s := by
 refine Fun.pure ?_ rfl rfl s
 unfold S0 oth
 cases c1 : t == a with
 | true =>
   rw [if_pos rfl]
   refine Fun.go has_ref3_other rfl fun B Q hB hQ => ?_
   have ⟨hH, hJ, hY, hZ⟩ := H4_
   repeat' (first
 | simp only [go_sem, hH, hJ, hY, hZ, c1]
 | (with_reducible first | refine kT_ fun hc => ?_ | refine kF_ fun hc => ?_ | refine kS_ (fun hc => ?_) fun hc => ?_) <;> (try simp only [hc, bs, ↓reduceIte] at h) <;> try simp only [hc]
 | (with_reducible refine lA_ hQ ?_; (try cases h); simp only [resL, oneD, sI_, eL_, go_sem, hH, hJ, hY, hZ, c1]; try exact lE_)
 | (cases h; done))
 | false =>
   rw [if_neg (by simp)]
   cases c2 : t == b with
   | true =>
     rw [if_pos rfl]
     refine Fun.go has_ref3_other rfl fun B Q hB hQ => ?_
     have ⟨hH, hJ, hY, hZ⟩ := H4_
     repeat' (first
 | simp only [go_sem, hH, hJ, hY, hZ, c1, c2]
 | (with_reducible first | refine kT_ fun hc => ?_ | refine kF_ fun hc => ?_ | refine kS_ (fun hc => ?_) fun hc => ?_) <;> (try simp only [hc, bs, ↓reduceIte] at h) <;> try simp only [hc]
 | (with_reducible refine lA_ hQ ?_; (try cases h); simp only [resL, oneD, sI_, eL_, go_sem, hH, hJ, hY, hZ, c1, c2]; try exact lE_)
 | (cases h; done))
   | false =>
     rw [if_neg (by simp)]
     refine Fun.go has_ref3_other rfl fun B Q hB hQ => ?_
     have ⟨hH, hJ, hY, hZ⟩ := H4_
     repeat' (first
 | simp only [go_sem, hH, hJ, hY, hZ, c1, c2]
 | (with_reducible first | refine kT_ fun hc => ?_ | refine kF_ fun hc => ?_ | refine kS_ (fun hc => ?_) fun hc => ?_) <;> (try simp only [hc, bs, ↓reduceIte] at h) <;> try simp only [hc]
 | (with_reducible refine lA_ hQ ?_; (try cases h); simp only [resL, oneD, sI_, eL_, go_sem, hH, hJ, hY, hZ, c1, c2]; try exact lE_)
 | (cases h; done))

theorem swapTexts_s (a b : Str) {l : List Str} (hl : l.length ≤ 10000000) (s : St) : Fun Tryz.prog n_ref3_SwapTexts [.slice .shared 1 (l.map encStr), .str a, .str b] s (.slice .shared 1 ((l.map (oth a b)).map encStr)) s := by
 refine Fun.pure ?_ (by simp [D.oks, D.ok, okrStr, Tag.ok]) (by rw [D.ok, okrStr]; rfl) s
 have ho := fun t s => other_s a b t s
 unfold S0
 generalize hR : l.map (oth a b) = R
 refine Fun.go has_ref3_SwapTexts rfl fun B Q hB hQ => ?_
 have ⟨hH, hJ, hY, hZ⟩ := H4_
 repeat' (first
 | simp only [go_sem, hH, hJ, hY, hZ]
 | (with_reducible first | refine kT_ fun hc => ?_ | refine kF_ fun hc => ?_ | refine kS_ (fun hc => ?_) fun hc => ?_) <;> (try simp only [hc, bs, ↓reduceIte] at h) <;> try simp only [hc]
 | (with_reducible refine lA_ hQ ?_; exact lY_)
 | (cases h; done))
 refine SemL.tokT 7 1 rfl ?_
 simp only [go_sem, hH, hJ, hY, hZ]
 refine rL_ 0 1 (SemL.ind (ι := List Str × Nat × List Str) (fun i => l.drop i.2.1 = i.1 ∧ i.2.1 = i.2.2.length ∧ i.2.2 ++ i.1.map (oth a b) = R) (fun i => i.1.length)
   (fun i => [(1, .str a), (2, .str b), (7, .slice (.tok 0) 1 (i.2.2.map encStr)), (10, .slice .shared 1 (l.map encStr)), (11, .int .i64 (l.length : Int)), (12, .int .i64 (i.2.1 : Int))]) (fun i => ⟨[], [some i.2.1]⟩) ?_ (l, 0, []) ⟨rfl, rfl, hR⟩)
 rintro ⟨rest, k, acc⟩ ⟨h1, h2, h3⟩ IH
 dsimp only at h1 h2 h3
 subst h2
 cases rest with
 | nil =>
   have hH := drop_nil h1
   simp only [List.map_nil, List.append_nil] at h3
   subst h3
   repeat' (first
 | simp only [go_sem, hH, hJ, hY, hZ]
 | (with_reducible first | refine kT_ fun hc => ?_ | refine kF_ fun hc => ?_ | refine kS_ (fun hc => ?_) fun hc => ?_) <;> (try simp only [hc, bs, ↓reduceIte] at h) <;> try simp only [hc]
 | (with_reducible refine lA_ hQ ?_; exact lY_)
 | (cases h; done))
 | cons t rest =>
   obtain ⟨hJ, g2, hH, g4⟩ := drop_cons h1
   have hY : (acc.length + 1) * 17 ≤ maxStr := by unfold maxStr; omega
   have w1 : IntKind.wrap .i64 ((acc.length : Int) + 1) = ((acc.length + 1 : Nat) : Int) := by rw [wrap_ok] <;> omega
   repeat' (first
 | simp only [go_sem, hH, hJ, hY, hZ, w1]
 | (with_reducible refine CU (ho _ _) ?_)
 | (with_reducible first | refine kT_ fun hc => ?_ | refine kF_ fun hc => ?_ | refine kS_ (fun hc => ?_) fun hc => ?_) <;> (try simp only [hc, bs, ↓reduceIte] at h) <;> try simp only [hc]
 | (with_reducible refine lA_ hQ ?_; (try cases h); simp only [resL, oneD, sI_, eL_, go_sem, hH, hJ, hY, hZ, w1]; try exact lE_)
 | (cases h; done))
   refine rL_ 0 1 (IH (rest, acc.length + 1, acc ++ [oth a b t]) ⟨g2, by simp, by rw [← h3]; simp⟩ (by simp))

theorem swaps_map (a b : Str) : ∀ l : List Ex, Ex.swaps a b l = l.map (Ex.swap a b)
 | [] => rfl
 | x :: l => by simp only [Ex.swaps, swaps_map a b l, List.map_cons]

theorem swapExpr_n (a b : Str) : ∀ n, n < 1073741824 → ∀ x : Ex, x.size ≤ n → Fun Tryz.prog n_ref3_SwapExpr [.agg (encEx x), .str a, .str b] S0 (.agg (encEx (x.swap a b))) S0 := by
 intro n
 induction n with
 | zero => rintro _ ⟨op, m, name, kids⟩ h; simp only [Ex.size] at h; omega
 | succ n ihn =>
 rintro hn ⟨op, m, name, kids⟩ hx
 have hk : ∀ y ∈ kids, ∀ s, Fun Tryz.prog n_ref3_SwapExpr [.agg (encEx y), .str a, .str b] s (.agg (encEx (y.swap a b))) s := fun y hy s =>
   (ihn (by omega) y (by simp only [Ex.size] at hx; have := Ex.sizes_mem hy; omega)).pure (by simp [D.oks, D.ok, okEx]) (by simp [D.ok, okEx]) s
 have hlen : kids.length < 1073741824 := by simp only [Ex.size] at hx; have := Ex.sizes_len kids; omega
 have ho := fun t s => other_s a b t s
 have e : Ex.swap a b ⟨op, m, name, kids⟩ = ⟨op, m, oth a b name, kids.map (Ex.swap a b)⟩ := by simp only [Ex.swap, swaps_map]
 rw [e]
 generalize hR : kids.map (Ex.swap a b) = R
 unfold S0
 refine Fun.go has_ref3_SwapExpr rfl fun B Q hB hQ => ?_
 have ⟨hH, hJ, hY, hZ⟩ := H4_
 repeat' (first
 | simp only [go_sem, hH, hJ, hY, hZ]
 | (with_reducible refine CU (ho _ _) ?_)
 | (with_reducible first | refine kT_ fun hc => ?_ | refine kF_ fun hc => ?_ | refine kS_ (fun hc => ?_) fun hc => ?_) <;> (try simp only [hc, bs, ↓reduceIte] at h) <;> try simp only [hc]
 | (with_reducible refine lA_ hQ ?_; exact lY_)
 | (cases h; done))
 refine SemL.tokO 2 3 4 rfl rfl ?_
 simp only [go_sem, hH, hJ, hY, hZ]
 refine rL_ 3 1 (SemL.ind (ι := List Ex × Nat × List Ex) (fun i => kids.drop i.2.1 = i.1 ∧ i.2.1 = i.2.2.length ∧ i.2.2 ++ i.1.map (Ex.swap a b) = R) (fun i => i.1.length)
   (fun i => [(1, .str a), (2, .str b), (3, .ptr 0 0), (6, .ptr 1 0), (7, .ptr 2 0), (21, .int .i64 (kids.length : Int)), (22, .int .i64 (i.2.1 : Int))])
   (fun i => ⟨[encEx ⟨op, m, name, kids⟩, encEx ex0, [.int .i64 op, .int .i64 m, .str (oth a b name), .slice (.tok 0) 4 (i.2.2.map encEx)]], [some i.2.1]⟩) ?_ (kids, 0, []) ⟨rfl, rfl, hR⟩)
 rintro ⟨rest, k, acc⟩ ⟨h1, h2, h3⟩ IH
 dsimp only at h1 h2 h3
 subst h2
 cases rest with
 | nil =>
   have hH := drop_nil h1
   simp only [List.map_nil, List.append_nil] at h3
   subst h3
   repeat' (first
 | simp only [go_sem, hH, hJ, hY, hZ]
 | (with_reducible first | refine kT_ fun hc => ?_ | refine kF_ fun hc => ?_ | refine kS_ (fun hc => ?_) fun hc => ?_) <;> (try simp only [hc, bs, ↓reduceIte] at h) <;> try simp only [hc]
 | (with_reducible refine lA_ hQ ?_; exact lY_)
 | (cases h; done))
 | cons y rest =>
   obtain ⟨hJ, g2, hH, g4⟩ := drop_cons h1
   have hroom : (acc.length + 1) * 57 ≤ maxStr := by simp only [maxStr]; omega
   have hy := hk y (List.mem_of_getElem? hJ)
   have w1 : IntKind.wrap .i64 ((acc.length : Int) + 1) = ((acc.length + 1 : Nat) : Int) := by rw [wrap_ok] <;> omega
   repeat' (first
 | simp only [go_sem, hH, hJ, hY, hZ, hroom, w1]
 | (with_reducible refine CU (hy _) ?_)
 | (with_reducible first | refine kT_ fun hc => ?_ | refine kF_ fun hc => ?_ | refine kS_ (fun hc => ?_) fun hc => ?_) <;> (try simp only [hc, bs, ↓reduceIte] at h) <;> try simp only [hc]
 | (with_reducible refine lA_ hQ ?_; (try cases h); simp only [resL, oneD, sI_, eL_, go_sem, hH, hJ, hY, hZ, hroom, w1]; try exact lE_)
 | (cases h; done))
   refine rL_ 3 1 (IH (rest, acc.length + 1, acc ++ [y.swap a b]) ⟨g2, by simp, by rw [← h3]; simp⟩ (Nat.lt_succ_self _))
theorem swapExpr_s (a b : Str) {x : Ex} (h : x.size < 1073741824) (s : St) : Fun Tryz.prog n_ref3_SwapExpr [.agg (encEx x), .str a, .str b] s (.agg (encEx (x.swap a b))) s :=
 (swapExpr_n a b x.size h x (Nat.le_refl _)).pure (by simp [D.oks, D.ok, okEx]) (by simp [D.ok, okEx]) s

end Go.Abs
