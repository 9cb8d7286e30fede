/-
  What is proved here: the statement PrintTurnCardSaid: whatever the program, the law, called, gives true, and of what was there nothing turns.
  No conditions.
-/
import Derived.Test.YtcknbmdkefcinaaGreatDoorPzA4
import Derived.RowKit3
import Derived.WalkKit
import Derived.ProofKit
import Derived.OpenShut
import Derived.ShutString
import Derived.ChangeMaps5
import Derived.ChangeStays
import Derived.KernelRfl
import Derived.Test.YtcknbmdkefcinaaGreatDoorRows
import Derived.Lib.LaidTab
import Derived.Lib.LaidIn
import Derived.LaidSub
import Derived.Test.YtcknbmdkefcinaaGreatDoorCards
import Derived.Test.YtcknbmdkefcinaaGreatDoorTie
import Derived.SevenTiedAt

set_option linter.unusedSimpArgs false
set_option linter.unusedVariables false

/-! Toks -/

namespace Go.Abs

set_option maxRecDepth 8000
open Go.Proofs

def argsTok : List Ar → Int
 | [] => 0
 | a :: l => 3 + 4 * sizeM a.x 2000 + argsTok l
def tokOf (s : Sm) : Int := 8 + 2 * (s.labels.length : Int) + 4 * sizeM s.x 2000 + argsTok s.args
def itemsTok : List It → Int
 | [] => 0
 | i :: l => tokOf i.s + itemsTok l
def refsN : List Pm → Int
 | [] => 0
 | a :: l => (if a.ref then 1 else 0) + refsN l
def pcTok (f : Pc) : Int := 6 + 2 * (f.params.length : Int) + 2 * (f.fin.length : Int) + refsN f.params - (if f.params.length = 0 then 0 else 1) + (if f.vars.length = 0 then 0 else 1 + 2 * (f.vars.length : Int)) + itemsTok f.flat
def pcsTok : List Pc → Int
 | [] => 0
 | f :: l => pcTok f + pcsTok l
def tokM (p : Pg) : Int := (if p.globals.length = 0 then 0 else 1 + 2 * (p.globals.length : Int)) + pcsTok p.procs

theorem size_b (x : Ex) : 1 ≤ sizeM x 2000 ∧ sizeM x 2000 ≤ 2001 := by
 obtain ⟨h1, h2, _⟩ := size_in _ x (Nat.le_refl _) 2000 (by omega)
 exact ⟨h1, by omega⟩
theorem argsTok_b : ∀ l : List Ar, 0 ≤ argsTok l ∧ argsTok l ≤ 9000 * (l.length : Int)
 | [] => by simp [argsTok]
 | a :: l => by
   have := argsTok_b l; have := size_b a.x
   simp only [argsTok, List.length_cons]; omega
theorem tokOf_b {s : Sm} (h : s.size ≤ 1000000) : 0 ≤ tokOf s ∧ tokOf s ≤ 10000000000 := by
 have := argsTok_b s.args; have := size_b s.x
 have h1 := Ar.sizes_len s.args
 have h2 : s.labels.length + Ar.sizes s.args ≤ s.size := by cases s; simp only [Sm.size]; omega
 unfold tokOf; omega
theorem itemsTok_b : ∀ {l : List It}, (∀ i ∈ l, i.s.size ≤ 1000000) → 0 ≤ itemsTok l ∧ itemsTok l ≤ 10000000000 * (l.length : Int)
 | [], _ => by simp [itemsTok]
 | i :: l, h => by
   have := itemsTok_b fun j m => h j (List.mem_cons_of_mem _ m)
   have := tokOf_b (h i (List.mem_cons_self ..))
   simp only [itemsTok, List.length_cons]; omega
theorem refsN_b : ∀ l : List Pm, 0 ≤ refsN l ∧ refsN l ≤ (l.length : Int)
 | [] => by simp [refsN]
 | a :: l => by
   have := refsN_b l
   simp only [refsN, List.length_cons]
   split <;> omega

theorem tokensOf_s {s : Sm} (hs : s.size ≤ 1000000) (st : St) : Fun Tryz.prog n_ref3_tokensOf [.agg (encSm s)] st (.int .i64 (tokOf s)) st := by
 refine Fun.pure ?_ (by simp [D.oks, D.ok, okSm]) rfl st
 obtain ⟨hb0, hb1⟩ := tokOf_b hs
 have hsz : s.labels.length + s.x.size + Ar.sizes s.args ≤ s.size := by cases s; simp only [Sm.size]; omega
 have e1 := fun st => Size_s _ s.x (Nat.le_refl _) (most := 2000) (by omega) (by omega) st
 have sb := size_b s.x
 have ab := argsTok_b s.args
 generalize hR : tokOf s = R at *
 unfold tokOf at hR
 unfold S0
 have w1 : IntKind.wrap .i64 (2 * (s.labels.length : Int)) = 2 * (s.labels.length : Int) := wrap_ok (by omega) (by omega)
 have w2 : IntKind.wrap .i64 (8 + 2 * (s.labels.length : Int)) = 8 + 2 * (s.labels.length : Int) := wrap_ok (by omega) (by omega)
 have w3 : IntKind.wrap .i64 (4 * sizeM s.x 2000) = 4 * sizeM s.x 2000 := wrap_ok (by omega) (by omega)
 have w4 : IntKind.wrap .i64 (8 + 2 * (s.labels.length : Int) + 4 * sizeM s.x 2000) = 8 + 2 * (s.labels.length : Int) + 4 * sizeM s.x 2000 := wrap_ok (by omega) (by omega)
 refine Fun.go has_ref3_tokensOf rfl fun B Q hB hQ => ?_
 have ⟨hH, hJ, hY, hZ⟩ := H4_
 repeat' (first
 | simp only [go_sem, hH, hJ, hY, hZ, w1, w2, w3, w4]
 | (with_reducible refine CU (e1 _) ?_)
 | (with_reducible first | refine kT_ fun hc => ?_ | refine kF_ fun hc => ?_ | refine kS_ (fun hc => ?_) fun hc => ?_) <;> (try simp only [hc, bs, ↓reduceIte] at h) <;> try simp only [hc]
 | (with_reducible refine lA_ hQ ?_; (try cases h); simp only [resL, oneD, sI_, eL_, go_sem, hH, hJ, hY, hZ, w1, w2, w3, w4]; repeat' (first | exact Ok.out | with_reducible refine aI_ ?_ ?_ | (simp; done)))
 | (cases h; done))
 refine SemL.re _ _ 1 0 (by rw [hB]; exact lB_ rfl) (by rw [hB]; exact lB_ rfl) ?_ ?_ (SemL.ind (ι := List Ar × Nat × Int) (fun i => s.args.drop i.2.1 = i.1 ∧ i.2.2 + argsTok i.1 = R ∧ 0 ≤ i.2.2) (fun i => i.1.length)
   (fun i => [(3, .int .i64 i.2.2), (17, .slice .shared 6 (s.args.map encAr)), (18, .int .i64 (s.args.length : Int)), (19, .int .i64 (i.2.1 : Nat))]) (fun i => ⟨[encSm s], []⟩) ?_ (s.args, 0, 8 + 2 * (s.labels.length : Int) + 4 * sizeM s.x 2000) ⟨rfl, hR, by dsimp only; omega⟩)
 · (simp only [go_sem, hH, hJ, hY, hZ]; repeat' (first | exact Ok.out | with_reducible refine aI_ ?_ ?_))
 · (simp only [go_sem, hH, hJ, hY, hZ]; repeat' (first | exact Ok.out | with_reducible refine aI_ ?_ ?_))
 rintro ⟨rest, k, c⟩ ⟨g1, h, g3⟩ IH
 dsimp only at g1 h g3
 cases rest with
 | nil =>
   have hH := drop_nil g1
   simp only [argsTok, Int.add_zero] at h
   subst h
   repeat' (first
 | simp only [go_sem, hH, hJ, hY, hZ]
 | (with_reducible first | refine kT_ fun hc => ?_ | refine kF_ fun hc => ?_ | refine kS_ (fun hc => ?_) fun hc => ?_) <;> (try simp only [hc, bs, ↓reduceIte] at h) <;> try simp only [hc]
 | (with_reducible refine lA_ hQ ?_; (try cases h); simp only [resL, oneD, sI_, eL_, go_sem, hH, hJ, hY, hZ]; repeat' (first | exact Ok.out | with_reducible refine aI_ ?_ ?_ | (simp; done)))
 | (cases h; done))
 | cons a rest =>
   obtain ⟨hJ, g2, hH, g5⟩ := drop_cons g1
   have hmem := List.mem_of_getElem? hJ
   have hsz2 := Ar.sizes_mem hmem
   have hln := Ar.sizes_len s.args
   have e2 := fun st => Size_s _ a.x (Nat.le_refl _) (most := 2000) (by omega) (by omega) st
   have sb2 := size_b a.x
   have rb := argsTok_b rest
   simp only [argsTok] at h
   have w5 : IntKind.wrap .i64 ((k : Int) + 1) = ((k + 1 : Nat) : Int) := by rw [wrap_ok] <;> omega
   have w6 : IntKind.wrap .i64 (4 * sizeM a.x 2000) = 4 * sizeM a.x 2000 := wrap_ok (by omega) (by omega)
   have w7 : IntKind.wrap .i64 (3 + 4 * sizeM a.x 2000) = 3 + 4 * sizeM a.x 2000 := wrap_ok (by omega) (by omega)
   have w8 : IntKind.wrap .i64 (c + (3 + 4 * sizeM a.x 2000)) = c + (3 + 4 * sizeM a.x 2000) := wrap_ok (by omega) (by omega)
   repeat' (first
 | simp only [go_sem, hH, hJ, hY, hZ, w5, w6, w7, w8]
 | (with_reducible refine CU (e2 _) ?_)
 | (with_reducible first | refine kT_ fun hc => ?_ | refine kF_ fun hc => ?_ | refine kS_ (fun hc => ?_) fun hc => ?_) <;> (try simp only [hc, bs, ↓reduceIte] at h) <;> try simp only [hc]
 | (with_reducible refine lA_ hQ ?_; (try cases h); simp only [resL, oneD, sI_, eL_, go_sem, hH, hJ, hY, hZ, w5, w6, w7, w8]; repeat' (first | exact Ok.out | with_reducible refine aI_ ?_ ?_ | (simp; done)))
 | (cases h; done))
   refine SemL.re _ _ 1 0 (by rw [hB]; exact lB_ rfl) (by rw [hB]; exact lB_ rfl) ?_ ?_ (IH (rest, k + 1, c + (3 + 4 * sizeM a.x 2000)) ⟨g2, by dsimp only; omega, by dsimp only; omega⟩ (Nat.lt_succ_self _))
   · (simp only [go_sem, hH, hJ, hY, hZ]; repeat' (first | exact Ok.out | with_reducible refine aI_ ?_ ?_))
   · (simp only [go_sem, hH, hJ, hY, hZ]; repeat' (first | exact Ok.out | with_reducible refine aI_ ?_ ?_))

theorem Tokens_s {p : Pg} (hs : p.size ≤ 1000000) (st : St) : Fun Tryz.prog n_ref3_Tokens [.agg (encPg p)] st (.int .i64 (tokM p)) st := by
 refine Fun.pure ?_ (by simp only [D.oks, D.ok, okPg]; rfl) rfl st
 have hps : Pc.sizes p.procs ≤ 1000000 := by simp only [Pg.size] at hs; omega
 have hpl := Pc.sizes_len p.procs
 have hgl : p.globals.length ≤ 1000000 := by simp only [Pg.size] at hs; omega
 have hit : ∀ f ∈ p.procs, ∀ i ∈ f.flat, i.s.size ≤ 1000000 := by
   intro f hf i hi
   have h1 := Pc.sizes_mem hf
   rcases flatL_mem _ hi with h | h
   · simp at h
   · unfold Pc.size at h1; omega
 have hfb : ∀ f ∈ p.procs, 0 ≤ itemsTok f.flat ∧ itemsTok f.flat ≤ 2010000000000 := by
   intro f hf
   have h1 := itemsTok_b (hit f hf)
   have h2 : f.flat.length ≤ 201 := flatL_len _ _ _ _ (by simp) f.body
   omega
 have hpb : ∀ f ∈ p.procs, 0 ≤ pcTok f + 1 ∧ pcTok f ≤ 3000000000000 := by
   intro f hf
   have h1 := hfb f hf
   have h2 := refsN_b f.params
   have h3 := Pc.sizes_mem hf
   unfold Pc.size at h3
   unfold pcTok
   split <;> split <;> omega
 have hsum : ∀ l : List Pc, (∀ f ∈ l, f ∈ p.procs) → -(l.length : Int) ≤ pcsTok l ∧ pcsTok l ≤ 3000000000000 * (l.length : Int) := by
   intro l
   induction l with
   | nil => intro _; simp [pcsTok]
   | cons f l ih =>
     intro h
     have := ih fun g m => h g (List.mem_cons_of_mem _ m)
     have := hpb f (h f (List.mem_cons_self ..))
     simp only [pcsTok, List.length_cons]; omega
 unfold S0
 generalize hR : tokM p = R
 unfold tokM at hR
 have w1 : IntKind.wrap .i64 (2 * (p.globals.length : Int)) = 2 * (p.globals.length : Int) := wrap_ok (by omega) (by omega)
 have w2 : IntKind.wrap .i64 (1 + 2 * (p.globals.length : Int)) = 1 + 2 * (p.globals.length : Int) := wrap_ok (by omega) (by omega)
 refine Fun.go has_ref3_Tokens rfl fun B Q hB hQ => ?_
 have ⟨hH, hJ, hY, hZ⟩ := H4_
 have key : ∀ i : List Pc × Nat × Int, (p.procs.drop i.2.1 = i.1 ∧ i.2.2 + pcsTok i.1 = R ∧ -(i.2.1 : Int) ≤ i.2.2 ∧ i.2.2 ≤ 2000001 + 3000000000000 * (i.2.1 : Int)) →
     SemL Tryz.prog B 82 QAY (inBlockQ 0 (thenQ (wpC Tryz.prog B 82 QB3 Q) Q))
       [(3, .int .i64 i.2.2), (20, .slice .shared 5 (p.procs.map encPc)), (21, .int .i64 (p.procs.length : Int)), (22, .int .i64 (i.2.1 : Nat))] ⟨[encPg p], []⟩ := by
   refine SemL.ind (ι := List Pc × Nat × Int) (fun i => p.procs.drop i.2.1 = i.1 ∧ i.2.2 + pcsTok i.1 = R ∧ -(i.2.1 : Int) ≤ i.2.2 ∧ i.2.2 ≤ 2000001 + 3000000000000 * (i.2.1 : Int)) (fun i => i.1.length) (fun i => [(3, .int .i64 i.2.2), (20, .slice .shared 5 (p.procs.map encPc)), (21, .int .i64 (p.procs.length : Int)), (22, .int .i64 (i.2.1 : Nat))]) (fun i => ⟨[encPg p], []⟩) ?_
   rintro ⟨rest, k, c⟩ ⟨g1, h, b1, b2⟩ IH
   dsimp only at g1 h b1 b2
   cases rest with
   | nil =>
     have hH := drop_nil g1
     simp only [pcsTok, Int.add_zero] at h
     subst h
     repeat' (first
 | simp only [go_sem, hH, hJ, hY, hZ]
 | (with_reducible first | refine kT_ fun hc => ?_ | refine kF_ fun hc => ?_ | refine kS_ (fun hc => ?_) fun hc => ?_) <;> (try simp only [hc, bs, ↓reduceIte] at h) <;> try simp only [hc]
 | (with_reducible refine lA_ hQ ?_; (try cases h); simp only [resL, oneD, sI_, eL_, go_sem, hH, hJ, hY, hZ]; repeat' (first | exact Ok.out | with_reducible refine aI_ ?_ ?_ | (simp; done)))
 | (cases h; replace h := hr; clear hr; (try simp only [bs, ↓reduceIte] at h))
 | (cases h; done))
   | cons f rest =>
     obtain ⟨hJ, g2, hH, g5⟩ := drop_cons g1
     have hmem := List.mem_of_getElem? hJ
     have hfz := Pc.sizes_mem hmem
     have hfz2 : f.params.length + f.vars.length + f.fin.length + Sm.sizes f.body + 1 ≤ f.size := by unfold Pc.size; omega
     have hfi := hfb f hmem
     have hits := hit f hmem
     have hfp := hpb f hmem
     have hrf := refsN_b f.params
     have eF := fun st => Flat_s (f := f) (by omega) st
     have hfl : f.flat.length ≤ 201 := flatL_len _ _ _ _ (by simp) f.body
     simp only [pcsTok] at h
     generalize hV : pcTok f = V at *
     unfold pcTok at hV
     have w3 : IntKind.wrap .i64 ((k : Int) + 1) = ((k + 1 : Nat) : Int) := by rw [wrap_ok] <;> omega
     have w4 : IntKind.wrap .i64 (2 * (f.params.length : Int)) = 2 * (f.params.length : Int) := wrap_ok (by omega) (by omega)
     have w5 : IntKind.wrap .i64 (6 + 2 * (f.params.length : Int)) = 6 + 2 * (f.params.length : Int) := wrap_ok (by omega) (by omega)
     have w6 : IntKind.wrap .i64 (2 * (f.fin.length : Int)) = 2 * (f.fin.length : Int) := wrap_ok (by omega) (by omega)
     have w7 : IntKind.wrap .i64 (6 + 2 * (f.params.length : Int) + 2 * (f.fin.length : Int)) = 6 + 2 * (f.params.length : Int) + 2 * (f.fin.length : Int) := wrap_ok (by omega) (by omega)
     have w8 : IntKind.wrap .i64 (c + (6 + 2 * (f.params.length : Int) + 2 * (f.fin.length : Int))) = c + (6 + 2 * (f.params.length : Int) + 2 * (f.fin.length : Int)) := wrap_ok (by omega) (by omega)
     have fin : ∀ i : List It × Nat × Int, (f.flat.drop i.2.1 = i.1 ∧ i.2.2 + itemsTok i.1 = c + V ∧ -1000000000 ≤ i.2.2) →
         SemL Tryz.prog B 82 QAL (inBlockQ 4 (inBlockQ 1 (thenQ (wpC Tryz.prog B 82 QAV (thenQ (SemL Tryz.prog B 82 QAY (inBlockQ 0 (thenQ (wpC Tryz.prog B 82 QB3 Q) Q))) (inBlockQ 0 (thenQ (wpC Tryz.prog B 82 QB3 Q) Q)))) (thenQ (SemL Tryz.prog B 82 QAY (inBlockQ 0 (thenQ (wpC Tryz.prog B 82 QB3 Q) Q))) (inBlockQ 0 (thenQ (wpC Tryz.prog B 82 QB3 Q) Q))))))
           [(3, .int .i64 i.2.2), (20, .slice .shared 5 (p.procs.map encPc)), (21, .int .i64 (p.procs.length : Int)), (22, .int .i64 (k : Nat)), (68, .slice .shared 16 (f.flat.map encIt)), (69, .int .i64 (f.flat.length : Int)), (70, .int .i64 (i.2.1 : Nat))] ⟨[encPg p], []⟩ := by
       refine SemL.ind (ι := List It × Nat × Int) (fun i => f.flat.drop i.2.1 = i.1 ∧ i.2.2 + itemsTok i.1 = c + V ∧ -1000000000 ≤ i.2.2) (fun i => i.1.length) (fun i => [(3, .int .i64 i.2.2), (20, .slice .shared 5 (p.procs.map encPc)), (21, .int .i64 (p.procs.length : Int)), (22, .int .i64 (k : Nat)), (68, .slice .shared 16 (f.flat.map encIt)), (69, .int .i64 (f.flat.length : Int)), (70, .int .i64 (i.2.1 : Nat))]) (fun i => ⟨[encPg p], []⟩) ?_
       rintro ⟨its, j, d⟩ ⟨k1, hd, k3⟩ IH3
       dsimp only at k1 hd k3
       cases its with
       | nil =>
         have hH := drop_nil k1
         simp only [itemsTok, Int.add_zero] at hd
         subst hd
         repeat' (first
 | simp only [go_sem, hH, hJ, hY, hZ, w3]
 | (with_reducible first | refine kT_ fun hc => ?_ | refine kF_ fun hc => ?_ | refine kS_ (fun hc => ?_) fun hc => ?_) <;> (try simp only [hc, bs, ↓reduceIte] at h) <;> try simp only [hc]
 | (with_reducible refine lA_ hQ ?_; (try cases h); simp only [resL, oneD, sI_, eL_, go_sem, hH, hJ, hY, hZ, w3]; repeat' (first | exact Ok.out | with_reducible refine aI_ ?_ ?_ | (simp; done)))
 | (cases h; replace h := hr; clear hr; (try simp only [bs, ↓reduceIte] at h))
 | (cases h; done))
         refine SemL.re _ _ 1 0 (by rw [hB]; exact lB_ rfl) (by rw [hB]; exact lB_ rfl) ?_ ?_ (IH (rest, k + 1, c + V) ⟨g2, by dsimp only; omega, by dsimp only; omega, by dsimp only; omega⟩ (Nat.lt_succ_self _))
         · (simp only [go_sem, hH, hJ, hY, hZ]; repeat' (first | exact Ok.out | with_reducible refine aI_ ?_ ?_))
         · (simp only [go_sem, hH, hJ, hY, hZ]; repeat' (first | exact Ok.out | with_reducible refine aI_ ?_ ?_))
       | cons i its =>
         obtain ⟨hJ, k2, hH, k5⟩ := drop_cons k1
         have hmi := List.mem_of_getElem? hJ
         have hb := tokOf_b (hits i hmi)
         have hrb := itemsTok_b (l := its) fun z m => hits z (List.mem_of_mem_drop (by rw [k2]; exact m))
         have et := fun st => tokensOf_s (hits i hmi) st
         simp only [itemsTok] at hd
         have x1 : IntKind.wrap .i64 ((j : Int) + 1) = ((j + 1 : Nat) : Int) := by rw [wrap_ok] <;> omega
         have x2 : IntKind.wrap .i64 (d + tokOf i.s) = d + tokOf i.s := by rw [wrap_ok] <;> omega
         have h16 : List.take 16 (encIt i) = encIt i := List.take_of_length_le (by rw [lenIt]; exact Nat.le_refl _)
         repeat' (first
 | simp only [go_sem, hH, hJ, hY, hZ, x1, x2, h16]
 | (with_reducible refine CU (et _) ?_)
 | (with_reducible first | refine kT_ fun hc => ?_ | refine kF_ fun hc => ?_ | refine kS_ (fun hc => ?_) fun hc => ?_) <;> (try simp only [hc, bs, ↓reduceIte] at h) <;> try simp only [hc]
 | (with_reducible refine lA_ hQ ?_; (try cases h); simp only [resL, oneD, sI_, eL_, go_sem, hH, hJ, hY, hZ, x1, x2, h16]; repeat' (first | exact Ok.out | with_reducible refine aI_ ?_ ?_ | (simp; done)))
 | (cases h; replace h := hr; clear hr; (try simp only [bs, ↓reduceIte] at h))
 | (cases h; done))
         refine SemL.re _ _ 1 0 (by rw [hB]; exact lB_ rfl) (by rw [hB]; exact lB_ rfl) ?_ ?_ (IH3 (its, j + 1, d + tokOf i.s) ⟨k2, by dsimp only; omega, by dsimp only; omega⟩ (Nat.lt_succ_self _))
         · (simp only [go_sem, hH, hJ, hY, hZ]; repeat' (first | exact Ok.out | with_reducible refine aI_ ?_ ?_))
         · (simp only [go_sem, hH, hJ, hY, hZ]; repeat' (first | exact Ok.out | with_reducible refine aI_ ?_ ?_))
     repeat' (first
 | simp only [go_sem, hH, hJ, hY, hZ, w4, w5, w6, w7, w8]
 | (with_reducible first | refine kT_ fun hc => ?_ | refine kF_ fun hc => ?_ | refine kS_ (fun hc => ?_) fun hc => ?_) <;> (try simp only [hc, bs, ↓reduceIte] at h) <;> try simp only [hc]
 | (with_reducible refine lA_ hQ ?_; (try cases h); simp only [resL, oneD, sI_, eL_, go_sem, hH, hJ, hY, hZ, w4, w5, w6, w7, w8]; repeat' (first | exact Ok.out | with_reducible refine aI_ ?_ ?_ | (simp; done)))
 | (cases h; replace h := hr; clear hr; (try simp only [bs, ↓reduceIte] at h))
 | (cases h; done))
     refine SemL.re _ _ 2 0 (by rw [hB]; exact lB_ rfl) (by rw [hB]; exact lB_ rfl) ?_ ?_ (SemL.ind (ι := List Pm × Nat × Int) (fun i => f.params.drop i.2.1 = i.1 ∧ i.2.2 + refsN i.1 = c + (6 + 2 * (f.params.length : Int) + 2 * (f.fin.length : Int)) + refsN f.params ∧ -1000000000 ≤ i.2.2) (fun i => i.1.length)
       (fun i => [(3, .int .i64 i.2.2), (5, .ptr 1 0), (20, .slice .shared 5 (p.procs.map encPc)), (21, .int .i64 (p.procs.length : Int)), (22, .int .i64 (k : Nat)), (39, .slice .shared 2 (f.params.map encPm)), (40, .int .i64 (f.params.length : Int)), (41, .int .i64 (i.2.1 : Nat))]) (fun i => ⟨[encPg p, encPc f], []⟩) ?_ (f.params, 0, c + (6 + 2 * (f.params.length : Int) + 2 * (f.fin.length : Int))) ⟨rfl, rfl, by dsimp only; omega⟩)
     · (simp only [go_sem, hH, hJ, hY, hZ]; repeat' (first | exact Ok.out | with_reducible refine aI_ ?_ ?_))
     · (simp only [go_sem, hH, hJ, hY, hZ]; repeat' (first | exact Ok.out | with_reducible refine aI_ ?_ ?_))
     rintro ⟨ps, j, d⟩ ⟨k1, hd, k3⟩ IH2
     dsimp only at k1 hd k3
     cases ps with
     | nil =>
       have hH := drop_nil k1
       simp only [refsN, Int.add_zero] at hd
       have wm : IntKind.wrap .i64 (d - 1) = d - 1 := wrap_ok (by omega) (by omega)
       have wv : IntKind.wrap .i64 (2 * (f.vars.length : Int)) = 2 * (f.vars.length : Int) := wrap_ok (by omega) (by omega)
       have wv2 : IntKind.wrap .i64 (1 + 2 * (f.vars.length : Int)) = 1 + 2 * (f.vars.length : Int) := wrap_ok (by omega) (by omega)
       have wv3 : IntKind.wrap .i64 (d + (1 + 2 * (f.vars.length : Int))) = d + (1 + 2 * (f.vars.length : Int)) := wrap_ok (by omega) (by omega)
       have wv4 : IntKind.wrap .i64 (d - 1 + (1 + 2 * (f.vars.length : Int))) = d - 1 + (1 + 2 * (f.vars.length : Int)) := wrap_ok (by omega) (by omega)
       cases cp : decide ((f.params.length : Int) > 0) with
       | true =>
         have cp' : f.params.length ≠ 0 := by have := of_decide_eq_true cp; omega
         rw [if_neg cp'] at hV
         cases cv : decide ((f.vars.length : Int) > 0) with
         | true =>
           have cv' : f.vars.length ≠ 0 := by have := of_decide_eq_true cv; omega
           rw [if_neg cv'] at hV
           repeat' (first
 | simp only [go_sem, hH, hJ, hY, hZ, cp, cv, wm, wv, wv2, wv4]
 | (with_reducible refine CU (eF _) ?_)
 | (with_reducible first | refine kT_ fun hc => ?_ | refine kF_ fun hc => ?_ | refine kS_ (fun hc => ?_) fun hc => ?_) <;> (try simp only [hc, bs, ↓reduceIte] at h) <;> try simp only [hc]
 | (with_reducible refine lA_ hQ ?_; (try cases h); simp only [resL, oneD, sI_, eL_, go_sem, hH, hJ, hY, hZ, cp, cv, wm, wv, wv2, wv4]; repeat' (first | exact Ok.out | with_reducible refine aI_ ?_ ?_ | (simp; done)))
 | (cases h; replace h := hr; clear hr; (try simp only [bs, ↓reduceIte] at h))
 | (cases h; done))
           refine SemL.re _ _ 1 0 (by rw [hB]; exact lB_ rfl) (by rw [hB]; exact lB_ rfl) ?_ ?_ (fin (f.flat, 0, d - 1 + (1 + 2 * (f.vars.length : Int))) ⟨rfl, by dsimp only; omega, by dsimp only; omega⟩)
           · (simp only [go_sem, hH, hJ, hY, hZ]; repeat' (first | exact Ok.out | with_reducible refine aI_ ?_ ?_))
           · (simp only [go_sem, hH, hJ, hY, hZ]; repeat' (first | exact Ok.out | with_reducible refine aI_ ?_ ?_))
         | false =>
           have cv' : f.vars.length = 0 := by have := of_decide_eq_false cv; omega
           rw [if_pos cv'] at hV
           repeat' (first
 | simp only [go_sem, hH, hJ, hY, hZ, cp, cv, wm]
 | (with_reducible refine CU (eF _) ?_)
 | (with_reducible first | refine kT_ fun hc => ?_ | refine kF_ fun hc => ?_ | refine kS_ (fun hc => ?_) fun hc => ?_) <;> (try simp only [hc, bs, ↓reduceIte] at h) <;> try simp only [hc]
 | (with_reducible refine lA_ hQ ?_; (try cases h); simp only [resL, oneD, sI_, eL_, go_sem, hH, hJ, hY, hZ, cp, cv, wm]; repeat' (first | exact Ok.out | with_reducible refine aI_ ?_ ?_ | (simp; done)))
 | (cases h; replace h := hr; clear hr; (try simp only [bs, ↓reduceIte] at h))
 | (cases h; done))
           refine SemL.re _ _ 1 0 (by rw [hB]; exact lB_ rfl) (by rw [hB]; exact lB_ rfl) ?_ ?_ (fin (f.flat, 0, d - 1) ⟨rfl, by dsimp only; omega, by dsimp only; omega⟩)
           · (simp only [go_sem, hH, hJ, hY, hZ]; repeat' (first | exact Ok.out | with_reducible refine aI_ ?_ ?_))
           · (simp only [go_sem, hH, hJ, hY, hZ]; repeat' (first | exact Ok.out | with_reducible refine aI_ ?_ ?_))
       | false =>
         have cp' : f.params.length = 0 := by have := of_decide_eq_false cp; omega
         rw [if_pos cp'] at hV
         cases cv : decide ((f.vars.length : Int) > 0) with
         | true =>
           have cv' : f.vars.length ≠ 0 := by have := of_decide_eq_true cv; omega
           rw [if_neg cv'] at hV
           repeat' (first
 | simp only [go_sem, hH, hJ, hY, hZ, cp, cv, wv, wv2, wv3]
 | (with_reducible refine CU (eF _) ?_)
 | (with_reducible first | refine kT_ fun hc => ?_ | refine kF_ fun hc => ?_ | refine kS_ (fun hc => ?_) fun hc => ?_) <;> (try simp only [hc, bs, ↓reduceIte] at h) <;> try simp only [hc]
 | (with_reducible refine lA_ hQ ?_; (try cases h); simp only [resL, oneD, sI_, eL_, go_sem, hH, hJ, hY, hZ, cp, cv, wv, wv2, wv3]; repeat' (first | exact Ok.out | with_reducible refine aI_ ?_ ?_ | (simp; done)))
 | (cases h; replace h := hr; clear hr; (try simp only [bs, ↓reduceIte] at h))
 | (cases h; done))
           refine SemL.re _ _ 1 0 (by rw [hB]; exact lB_ rfl) (by rw [hB]; exact lB_ rfl) ?_ ?_ (fin (f.flat, 0, d + (1 + 2 * (f.vars.length : Int))) ⟨rfl, by dsimp only; omega, by dsimp only; omega⟩)
           · (simp only [go_sem, hH, hJ, hY, hZ]; repeat' (first | exact Ok.out | with_reducible refine aI_ ?_ ?_))
           · (simp only [go_sem, hH, hJ, hY, hZ]; repeat' (first | exact Ok.out | with_reducible refine aI_ ?_ ?_))
         | false =>
           have cv' : f.vars.length = 0 := by have := of_decide_eq_false cv; omega
           rw [if_pos cv'] at hV
           repeat' (first
 | simp only [go_sem, hH, hJ, hY, hZ, cp, cv]
 | (with_reducible refine CU (eF _) ?_)
 | (with_reducible first | refine kT_ fun hc => ?_ | refine kF_ fun hc => ?_ | refine kS_ (fun hc => ?_) fun hc => ?_) <;> (try simp only [hc, bs, ↓reduceIte] at h) <;> try simp only [hc]
 | (with_reducible refine lA_ hQ ?_; (try cases h); simp only [resL, oneD, sI_, eL_, go_sem, hH, hJ, hY, hZ, cp, cv]; repeat' (first | exact Ok.out | with_reducible refine aI_ ?_ ?_ | (simp; done)))
 | (cases h; replace h := hr; clear hr; (try simp only [bs, ↓reduceIte] at h))
 | (cases h; done))
           refine SemL.re _ _ 1 0 (by rw [hB]; exact lB_ rfl) (by rw [hB]; exact lB_ rfl) ?_ ?_ (fin (f.flat, 0, d) ⟨rfl, by dsimp only; omega, by dsimp only; omega⟩)
           · (simp only [go_sem, hH, hJ, hY, hZ]; repeat' (first | exact Ok.out | with_reducible refine aI_ ?_ ?_))
           · (simp only [go_sem, hH, hJ, hY, hZ]; repeat' (first | exact Ok.out | with_reducible refine aI_ ?_ ?_))
     | cons a ps =>
       obtain ⟨hJ, k2, hH, k5⟩ := drop_cons k1
       have rb := refsN_b ps
       simp only [refsN] at hd
       have x1 : IntKind.wrap .i64 ((j : Int) + 1) = ((j + 1 : Nat) : Int) := by rw [wrap_ok] <;> omega
       have x2 : IntKind.wrap .i64 (d + 1) = d + 1 := by rw [wrap_ok] <;> (split at hd <;> omega)
       cases hr : a.ref with
       | true =>
         rw [hr] at hd
         simp only [↓reduceIte] at hd
         repeat' (first
 | simp only [go_sem, hH, hJ, hY, hZ, hr, x1, x2]
 | (with_reducible first | refine kT_ fun hc => ?_ | refine kF_ fun hc => ?_ | refine kS_ (fun hc => ?_) fun hc => ?_) <;> (try simp only [hc, bs, ↓reduceIte] at h) <;> try simp only [hc]
 | (with_reducible refine lA_ hQ ?_; (try cases h); simp only [resL, oneD, sI_, eL_, go_sem, hH, hJ, hY, hZ, hr, x1, x2]; repeat' (first | exact Ok.out | with_reducible refine aI_ ?_ ?_ | (simp; done)))
 | (cases h; replace h := hr; clear hr; (try simp only [bs, ↓reduceIte] at h))
 | (cases h; done))
         refine SemL.re _ _ 2 0 (by rw [hB]; exact lB_ rfl) (by rw [hB]; exact lB_ rfl) ?_ ?_ (IH2 (ps, j + 1, d + 1) ⟨k2, by dsimp only; omega, by dsimp only; omega⟩ (Nat.lt_succ_self _))
         · (simp only [go_sem, hH, hJ, hY, hZ]; repeat' (first | exact Ok.out | with_reducible refine aI_ ?_ ?_))
         · (simp only [go_sem, hH, hJ, hY, hZ]; repeat' (first | exact Ok.out | with_reducible refine aI_ ?_ ?_))
       | false =>
         rw [hr] at hd
         simp only [Bool.false_eq_true, ↓reduceIte] at hd
         repeat' (first
 | simp only [go_sem, hH, hJ, hY, hZ, hr, x1]
 | (with_reducible first | refine kT_ fun hc => ?_ | refine kF_ fun hc => ?_ | refine kS_ (fun hc => ?_) fun hc => ?_) <;> (try simp only [hc, bs, ↓reduceIte] at h) <;> try simp only [hc]
 | (with_reducible refine lA_ hQ ?_; (try cases h); simp only [resL, oneD, sI_, eL_, go_sem, hH, hJ, hY, hZ, hr, x1]; repeat' (first | exact Ok.out | with_reducible refine aI_ ?_ ?_ | (simp; done)))
 | (cases h; replace h := hr; clear hr; (try simp only [bs, ↓reduceIte] at h))
 | (cases h; done))
         refine SemL.re _ _ 2 0 (by rw [hB]; exact lB_ rfl) (by rw [hB]; exact lB_ rfl) ?_ ?_ (IH2 (ps, j + 1, d) ⟨k2, by dsimp only; omega, by dsimp only; omega⟩ (Nat.lt_succ_self _))
         · (simp only [go_sem, hH, hJ, hY, hZ]; repeat' (first | exact Ok.out | with_reducible refine aI_ ?_ ?_))
         · (simp only [go_sem, hH, hJ, hY, hZ]; repeat' (first | exact Ok.out | with_reducible refine aI_ ?_ ?_))
 cases cg : decide ((p.globals.length : Int) > 0) with
 | true =>
   have cg' : p.globals.length ≠ 0 := by have := of_decide_eq_true cg; omega
   rw [if_neg cg'] at hR
   repeat' (first
 | simp only [go_sem, hH, hJ, hY, hZ, cg, w1, w2]
 | (with_reducible first | refine kT_ fun hc => ?_ | refine kF_ fun hc => ?_ | refine kS_ (fun hc => ?_) fun hc => ?_) <;> (try simp only [hc, bs, ↓reduceIte] at h) <;> try simp only [hc]
 | (with_reducible refine lA_ hQ ?_; (try cases h); simp only [resL, oneD, sI_, eL_, go_sem, hH, hJ, hY, hZ, cg, w1, w2]; repeat' (first | exact Ok.out | with_reducible refine aI_ ?_ ?_ | (simp; done)))
 | (cases h; replace h := hr; clear hr; (try simp only [bs, ↓reduceIte] at h))
 | (cases h; done))
   refine SemL.re _ _ 1 0 (by rw [hB]; exact lB_ rfl) (by rw [hB]; exact lB_ rfl) ?_ ?_ (key (p.procs, 0, 1 + 2 * (p.globals.length : Int)) ⟨rfl, hR, by dsimp only; omega, by dsimp only; omega⟩)
   · (simp only [go_sem, hH, hJ, hY, hZ]; repeat' (first | exact Ok.out | with_reducible refine aI_ ?_ ?_))
   · (simp only [go_sem, hH, hJ, hY, hZ]; repeat' (first | exact Ok.out | with_reducible refine aI_ ?_ ?_))
 | false =>
   have cg' : p.globals.length = 0 := by have := of_decide_eq_false cg; omega
   rw [if_pos cg'] at hR
   repeat' (first
 | simp only [go_sem, hH, hJ, hY, hZ, cg]
 | (with_reducible first | refine kT_ fun hc => ?_ | refine kF_ fun hc => ?_ | refine kS_ (fun hc => ?_) fun hc => ?_) <;> (try simp only [hc, bs, ↓reduceIte] at h) <;> try simp only [hc]
 | (with_reducible refine lA_ hQ ?_; (try cases h); simp only [resL, oneD, sI_, eL_, go_sem, hH, hJ, hY, hZ, cg]; repeat' (first | exact Ok.out | with_reducible refine aI_ ?_ ?_ | (simp; done)))
 | (cases h; replace h := hr; clear hr; (try simp only [bs, ↓reduceIte] at h))
 | (cases h; done))
   refine SemL.re _ _ 1 0 (by rw [hB]; exact lB_ rfl) (by rw [hB]; exact lB_ rfl) ?_ ?_ (key (p.procs, 0, 0) ⟨rfl, hR, by dsimp only; omega, by dsimp only; omega⟩)
   · (simp only [go_sem, hH, hJ, hY, hZ]; repeat' (first | exact Ok.out | with_reducible refine aI_ ?_ ?_))
   · (simp only [go_sem, hH, hJ, hY, hZ]; repeat' (first | exact Ok.out | with_reducible refine aI_ ?_ ?_))

end Go.Abs

/-! Toks2 -/

namespace Go.Abs

mutual
def stTk : Sm → Int
 | ⟨id, kind, labels, name, proc, x, has, args, thn, els⟩ => tokOf ⟨id, kind, labels, name, proc, x, has, args, thn, els⟩ + rowsTk thn + rowsTk els
def rowsTk : List Sm → Int
 | [] => 0
 | s :: l => stTk s + rowsTk l
end
theorem itemsTok_app : ∀ a b : List It, itemsTok (a ++ b) = itemsTok a + itemsTok b
 | [], b => by simp [itemsTok]
 | i :: a, b => by simp only [List.cons_append, itemsTok, itemsTok_app a b]; omega

mutual
theorem flat_tkS : ∀ (s : Sm) (nest inn : Int) (els : Bool) (n : Nat) (out : List It), nest ≤ 12 → out.length ≤ n → n ≤ 200 → (Sm.mayR nest n s).1 = true →
   ∃ new, flatS nest inn els out s = out ++ new ∧ itemsTok new = stTk s ∧ n + new.length = (Sm.mayR nest n s).2 ∧ (Sm.mayR nest n s).2 ≤ 200
 | ⟨id, kind, labels, name, proc, x, has, args, thn, e⟩, nest, inn, els, n, out, h12, ho, hn, h => by
   obtain ⟨h1, h2, h3, h4, h5, h6⟩ := mayR_true h
   dsimp only at h2 h4 h5 h6
   rw [h6]
   obtain ⟨g1, e1⟩ := mayG_true h4
   rw [e1] at h4 h5 ⊢
   obtain ⟨g2, e2⟩ := mayG_true h5
   rw [e2] at h5 ⊢
   obtain ⟨n1, k1, k2, k3, k4⟩ := flat_tkL thn (nest + 1) id false (n + 1) (out ++ [⟨⟨id, kind, labels, name, proc, x, has, args, thn, e⟩, nest, inn, els⟩]) g1 (by simp; omega) h1 h4
   obtain ⟨n2, j1, j2, j3, j4⟩ := flat_tkL e (nest + 1) id true _ (out ++ [⟨⟨id, kind, labels, name, proc, x, has, args, thn, e⟩, nest, inn, els⟩] ++ n1) g2 (by simp; omega) k4 h5
   simp only [flatS]
   rw [if_pos (by simpa using h12), k1, j1]
   refine ⟨⟨⟨id, kind, labels, name, proc, x, has, args, thn, e⟩, nest, inn, els⟩ :: (n1 ++ n2), by simp, ?_, ?_, j4⟩
   · simp only [itemsTok, itemsTok_app, stTk, k2, j2]; omega
   · simp only [List.length_cons, List.length_append]; omega
theorem flat_tkL : ∀ (l : List Sm) (nest inn : Int) (els : Bool) (n : Nat) (out : List It), (l = [] ∨ nest ≤ 12) → out.length ≤ n → n ≤ 200 → (Sm.mayL nest n l).1 = true →
   ∃ new, flatL nest inn els out l = out ++ new ∧ itemsTok new = rowsTk l ∧ n + new.length = (Sm.mayL nest n l).2 ∧ (Sm.mayL nest n l).2 ≤ 200
 | [], nest, inn, els, n, out, h12, ho, hn, h => ⟨[], by simp [flatL], rfl, by simp [Sm.mayL], by simpa [Sm.mayL] using hn⟩
 | s :: l, nest, inn, els, n, out, h12, ho, hn, h => by
   have h12' : nest ≤ 12 := h12.resolve_left (by simp)
   simp only [Sm.mayL] at h ⊢
   split at h
   · cases h
   rename_i hc
   rw [if_neg hc]
   obtain ⟨n1, k1, k2, k3, k4⟩ := flat_tkS s nest inn els n out h12' ho hn (by simpa using hc)
   obtain ⟨n2, j1, j2, j3, j4⟩ := flat_tkL l nest inn els _ (out ++ n1) (.inr h12') (by simp; omega) k4 h
   simp only [flatL]
   rw [if_pos (by simp only [decide_eq_true_eq]; omega), k1, j1]
   refine ⟨n1 ++ n2, by simp, ?_, by simp; omega, j4⟩
   rw [itemsTok_app, k2, j2]; rfl
end

theorem tokOf_0 (s : Sm) : 0 ≤ tokOf s := by
 have := argsTok_b s.args; have := size_b s.x
 unfold tokOf; omega
mutual
theorem stTk_0 : ∀ s : Sm, 0 ≤ stTk s
 | ⟨id, kind, labels, name, proc, x, has, args, thn, els⟩ => by
   have := tokOf_0 ⟨id, kind, labels, name, proc, x, has, args, thn, els⟩
   have := rowsTk_0 thn
   have := rowsTk_0 els
   simp only [stTk]; omega
theorem rowsTk_0 : ∀ l : List Sm, 0 ≤ rowsTk l
 | [] => by simp [rowsTk]
 | s :: l => by
   have := stTk_0 s
   have := rowsTk_0 l
   simp only [rowsTk]; omega
end

theorem exN_tk {x : Ex} (h : FormI x) (hs : sizeM x 2000 ≤ 2000) : (exN 0 x : Int) ≤ 3 * sizeM x 2000 := by
 obtain ⟨_, _, h3⟩ := size_in _ x (Nat.le_refl _) 2000 (by omega)
 rw [h3 hs]
 have := (exN_le h 0).2
 omega

theorem sep_tk {args : List Ar} (hm : ∀ a ∈ args, a.ref = false → FormI a.x) (h : argsTok args ≤ 2000) : (sepN argN args : Int) ≤ argsTok args := by
 have key : ∀ l : List Ar, (∀ a ∈ l, a.ref = false → FormI a.x) → argsTok l ≤ 2000 → (sepN argN l : Int) + (if l = [] then 0 else 1) ≤ argsTok l := by
   intro l
   induction l with
   | nil => intro _ _; simp [sepN, argsTok]
   | cons a l ih =>
     intro hm h
     simp only [argsTok] at h
     have hb := argsTok_b l
     have hs := size_b a.x
     have ih := ih (fun b m => hm b (List.mem_cons_of_mem _ m)) (by omega)
     have ha : (argN a : Int) + 1 ≤ 3 + 4 * sizeM a.x 2000 := by
       unfold argN
       split
       · omega
       · rename_i hr
         have := exN_tk (hm a (List.mem_cons_self ..) (by simpa using hr)) (by omega)
         omega
     cases l with
     | nil => simp only [sepN, argsTok] at ih ⊢; simp; omega
     | cons b l =>
       rw [if_neg (by simp)] at ih ⊢
       have e : argsTok (a :: b :: l) = 3 + 4 * sizeM a.x 2000 + argsTok (b :: l) := rfl
       rw [e]
       simp only [sepN] at ih ⊢
       omega
 have := key args hm h
 split at this <;> omega

mutual
theorem body_tk : ∀ (s : Sm) (inn : Nat) (nest : Int) (n0 : Nat), s.PrR inn → (Sm.mayR nest n0 s).1 = true → stTk s ≤ 2000 → (2 * s.labels.length + bodyN s : Nat) ≤ stTk s
 | ⟨id, kind, labels, name, proc, x, has, args, thn, els⟩, inn, nest, n0, h, hm, ht => by
   obtain ⟨ho, hi, hpt, hpe⟩ := (PrR_eq _ _).1 h
   obtain ⟨_, _, hone, mt, me, _⟩ := mayR_true hm
   have tt := (mayG_true mt).2
   have te := (mayG_true me).2
   rw [tt] at mt te me
   rw [te] at me
   dsimp only at hpt hpe mt me
   have r1 := rowsTk_0 thn
   have r2 := rowsTk_0 els
   have ab := argsTok_b args
   have sb := size_b x
   simp only [stTk, tokOf] at ht ⊢
   have h1 := rows_tk thn (inn + 1) _ _ hpt mt (by omega)
   have h2 := rows_tk els (inn + 1) _ _ hpe me (by omega)
   have hE : (Sm.hasX ⟨id, kind, labels, name, proc, x, has, args, thn, els⟩ = true) → (exN 0 x : Int) ≤ 3 * sizeM x 2000 := fun k => exN_tk (ho.x k) (by omega)
   simp only [bodyN]
   split
   · rename_i k
     have := hE (by simp [Sm.hasX, k])
     omega
   split
   · rename_i k
     have := hE (by simp [Sm.hasX, k])
     split <;> omega
   · rename_i k6 k5
     have hsep := sep_tk (args := args) (fun a m => (ho.args a m).2) (by omega)
     unfold plainN
     split
     · rename_i k; have := hE (by simp [Sm.hasX, k]); omega
     split
     · omega
     split
     · rename_i k; have := hE (by simp [Sm.hasX, k]); omega
     split
     · omega
     split
     · omega
     split
     · omega
     split
     · rename_i k
       split
       · rename_i kh; have := hE (by simp [Sm.hasX, k, kh]); omega
       · omega
     · split <;> omega
theorem rows_tk : ∀ (l : List Sm) (inn : Nat) (nest : Int) (n0 : Nat), Sm.PrRs inn l → (Sm.mayL nest n0 l).1 = true → rowsTk l ≤ 2000 → (rowsN l : Int) ≤ rowsTk l
 | [], _, _, _, _, _, _ => by simp [rowsN, rowsTk]
 | s :: l, inn, nest, n0, h, hm, ht => by
   obtain ⟨m1, m2, _⟩ := mayL_cons hm
   simp only [Sm.PrRs] at h
   simp only [rowsTk] at ht ⊢
   have s0 := stTk_0 s
   have r0 := rowsTk_0 l
   have h1 := body_tk s inn nest n0 h.1 m1 (by omega)
   have h2 := rows_tk l inn nest _ h.2 m2 (by omega)
   simp only [rowsN]; omega
end

theorem names_tk (l : List Str) : (namesN l : Int) ≤ (if l.length = 0 then 0 else 1 + 2 * (l.length : Int)) := by
 unfold namesN
 have key : ∀ l : List Str, l ≠ [] → sepN (fun _ => 1) l + 1 = 2 * l.length := by
   intro l
   induction l with
   | nil => intro h; exact absurd rfl h
   | cons a l ih =>
     intro _
     cases l with
     | nil => simp [sepN]
     | cons b l =>
       have := ih (by simp)
       simp only [sepN, List.length_cons] at this ⊢
       omega
 split
 · simp
 · rename_i h
   have := key l (fun e => h (by rw [e]; rfl))
   omega
theorem params_tk (l : List Pm) : (sepN parN l : Int) ≤ 2 * (l.length : Int) + refsN l - (if l.length = 0 then 0 else 1) := by
 have key : ∀ l : List Pm, l ≠ [] → (sepN parN l : Int) + 1 = 2 * (l.length : Int) + refsN l := by
   intro l
   induction l with
   | nil => intro h; exact absurd rfl h
   | cons a l ih =>
     intro _
     cases l with
     | nil => simp only [sepN, parN, refsN, List.length_cons, List.length_nil]; split <;> simp
     | cons b l =>
       have := ih (by simp)
       have e : refsN (a :: b :: l) = (if a.ref then 1 else 0) + refsN (b :: l) := rfl
       rw [e]
       simp only [sepN, parN, List.length_cons] at this ⊢
       split <;> omega
 by_cases h : l = []
 · subst h; simp [sepN, refsN]
 · have := key l h
   have h0 : l.length ≠ 0 := fun e => h (List.eq_nil_of_length_eq_zero e)
   rw [if_neg h0]; omega

theorem procs_tk : ∀ (l : List Pc) (n0 : Nat), n0 ≤ 200 → Pc.mayL n0 l = true → (∀ f ∈ l, f.PrP) → 0 ≤ pcsTok l ∧ (pcsTok l ≤ 2000 → (procsN l : Int) ≤ pcsTok l)
 | [], _, _, _, _ => by simp [procsN, pcsTok]
 | f :: l, n0, hn, h, hP => by
   simp only [Pc.mayL] at h
   split at h
   · cases h
   split at h
   · cases h
   split at h
   · cases h
   rename_i c3
   have c3 : (Sm.mayG 1 n0 f.body).1 = true := by simpa using c3
   have c4 := c3
   rw [(mayG_true c3).2] at c4 h
   obtain ⟨new, k1, k2, k3, k4⟩ := flat_tkL f.body 1 0 false n0 [] (.inr (by omega)) (by simp) hn c4
   have hfl : f.flat = new := by unfold Pc.flat; rw [k1]; rfl
   have hr0 := rowsTk_0 f.body
   obtain ⟨g1, g2⟩ := procs_tk l _ k4 h fun g m => hP g (List.mem_cons_of_mem _ m)
   have hb := rows_tk f.body 1 1 n0 (hP f (List.mem_cons_self ..)).body c4
   have hv := names_tk f.vars
   have hp := params_tk f.params
   have hrf := refsN_b f.params
   have e : pcTok f = 6 + 2 * (f.params.length : Int) + 2 * (f.fin.length : Int) + refsN f.params - (if f.params.length = 0 then 0 else 1) + (if f.vars.length = 0 then 0 else 1 + 2 * (f.vars.length : Int)) + rowsTk f.body := by unfold pcTok; rw [hfl, k2]
   simp only [pcsTok, procsN, procN, e]
   generalize (if f.params.length = 0 then (0 : Int) else 1) = P at *
   generalize hVV : (if f.vars.length = 0 then (0 : Int) else 1 + 2 * (f.vars.length : Int)) = V at *
   have hV0 : 0 ≤ V := by omega
   refine ⟨by omega, fun hw => ?_⟩
   have := hb (by omega)
   have := g2 (by omega)
   omega

theorem toks_le {p : Pg} (h : p.may = true) (hr : p.rng) (ht : tokM p ≤ 2000) : p.toks ≤ 2000 := by
 have hG := may_PrG h hr
 rw [← mayP_eq] at h
 unfold Pg.mayP at h
 split at h
 · cases h
 obtain ⟨g1, g2⟩ := procs_tk p.procs 0 (by omega) h hG.procs
 have hv := names_tk p.globals
 unfold tokM at ht
 have hv0 : 0 ≤ (namesN p.globals : Int) := Int.natCast_nonneg _
 have := g2 (by omega)
 unfold Pg.toks
 omega

theorem lexF_long {pos : Nat} {s : Str} {l : List Tok} (h : Lx pos s l) : ∀ (n : Nat) (out : List Tok), s.length < n → out.length ≤ 2000 → 2000 < out.length + l.length → (lexF n pos s out).2.1 = 4 := by
 induction h with
 | nil pos => intro n out hn h1 h2; simp at h2; omega
 | blank pos c r l h k ih =>
   intro n out hn h1 h2
   cases n with
   | zero => omega
   | succ n =>
     simp only [List.length_cons] at hn
     simp only [lexF, h, ↓reduceIte]
     exact ih n out (by omega) h1 h2
 | rem pos c r l h h2 k ih =>
   intro n out hn h1 h2'
   cases n with
   | zero => omega
   | succ n =>
     have h3 : ((c.toNat : Int) == 35) = true := h2
     simp only [lexF, h, h3, Bool.false_eq_true, ↓reduceIte]
     have hp : 0 < lineL (c :: r) := by
       have : ((c.toNat : Int) != 10) = true := by simp only [beq_iff_eq] at h3; simp [h3]
       simp [lineL, this]
     have hle := lineL_le (c :: r)
     exact ih n out (by rw [List.length_drop]; omega) h1 h2'
 | tok pos c r t l h h2 ht k ih =>
   intro n out hn h1 h2'
   cases n with
   | zero => omega
   | succ n =>
     have h3 : ((c.toNat : Int) == 35) = false := h2
     simp only [List.length_cons] at h2'
     simp only [lexF, h, h3, Bool.false_eq_true, ↓reduceIte, ht]
     split
     · rfl
     · rename_i hne
       obtain ⟨_, hp, _⟩ := tokE_text ht
       have hle := tokE_ln ht
       exact ih n _ (by rw [List.length_drop]; omega) (by simp; omega) (by simp; omega)

end Go.Abs

/-! BeqEq -/

namespace Go.Abs

end Go.Abs

/-! LawTurn -/

namespace Go.Abs

set_option maxRecDepth 8000
open Go.Proofs

theorem text_lexed {p : Pg} (h : p.may = true) (hr : p.rng) (hs : p.size < 1000000) :
   ((lexAll (textS p)).2.1 = 0 ∧ (lexAll (textS p)).1.length ≤ 2001 ∧ parseM fuelM (textS p) = some (p, 0, 0)) ∨ ((lexAll (textS p)).2.1 = 4 ∧ 2000 < tokM p) := by
 obtain ⟨L, a1, a2, _, _⟩ := text_as h hr hs
 by_cases hc : (textS p).length ≤ 100000 ∧ p.toks ≤ 2000
 · left
   have hlex := lexAll_Lx a1 hc.1 (by omega)
   rw [hlex]
   exact ⟨rfl, by simp; omega, text_parse h hr hs hc.1 hc.2⟩
 · right
   have ht : 2000 < tokM p := by
     rcases Int.lt_or_le 2000 (tokM p) with h1 | h1
     · exact h1
     · exfalso
       have h2 := toks_le h hr h1
       have h3 := text_short h hr
       exact hc ⟨by omega, h2⟩
   refine ⟨?_, ht⟩
   unfold lexAll
   by_cases hl : (textS p).length > 100000
   · rw [if_pos hl]
   · rw [if_neg hl]
     exact lexF_long a1 _ [] (Nat.lt_succ_self _) (by simp) (by simp; omega)

theorem printTurn_s {p : Pg} (hr : p.rng) (s : St) : Fun Tryz.prog n_law5_PrintTurn [.agg (encPg p)] s (.bool true) s := by
 refine Fun.pure ?_ (by simp only [D.oks, D.ok, okPg]; rfl) rfl s
 have h0 := fun s => printed5_s s
 have hf := fun s => Fits_s p s
 unfold S0
 cases c : decide (p.weigh ≤ 20000) with
 | false =>
   refine Fun.go has_law5_PrintTurn rfl fun B Q hB hQ => ?_
   have ⟨hH, hJ, hY, hZ⟩ := H4_
   repeat' (first
 | simp only [go_sem, hH, hJ, hY, hZ, c]
 | (with_reducible refine CU (h0 _) ?_)
 | (with_reducible refine CU (hf _) ?_)
 | (with_reducible first | refine kT_ fun hc => ?_ | refine kF_ fun hc => ?_ | refine kS_ (fun hc => ?_) fun hc => ?_) <;> (try simp only [hc, bs, ↓reduceIte] at h) <;> try simp only [hc]
 | (with_reducible refine lA_ hQ ?_; (try cases h); simp only [resL, oneD, sI_, eL_, go_sem, hH, hJ, hY, hZ, c]; repeat' (first | exact Ok.out | with_reducible refine aI_ ?_ ?_ | (simp; done)))
 | (cases h; replace h := hr; clear hr; (try simp only [bs, ↓reduceIte] at h))
 | (cases h; done))
 | true =>
 obtain ⟨hs, hP⟩ := weigh_fits (of_decide_eq_true c)
 have m1 := fun s => May_s (fineP_fine hP) s
 have h1 := fun s => pText_s hP (fun h => may_PrG (by rw [← mayP_eq]; exact h) hr) (by omega) s
 cases c2 : p.may with
 | false =>
   rw [if_neg (by rw [c2]; simp)] at h1
   have b1 : (([] : Str) == []) = true := rfl
   refine Fun.go has_law5_PrintTurn rfl fun B Q hB hQ => ?_
   have ⟨hH, hJ, hY, hZ⟩ := H4_
   repeat' (first
 | simp only [go_sem, hH, hJ, hY, hZ, c, c2, b1]
 | (with_reducible refine CU (h0 _) ?_)
 | (with_reducible refine CU (hf _) ?_)
 | (with_reducible refine CU (h1 _) ?_)
 | (with_reducible refine CU (m1 _) ?_)
 | (with_reducible first | refine kT_ fun hc => ?_ | refine kF_ fun hc => ?_ | refine kS_ (fun hc => ?_) fun hc => ?_) <;> (try simp only [hc, bs, ↓reduceIte] at h) <;> try simp only [hc]
 | (with_reducible refine lA_ hQ ?_; (try cases h); simp only [resL, oneD, sI_, eL_, go_sem, hH, hJ, hY, hZ, c, c2, b1]; repeat' (first | exact Ok.out | with_reducible refine aI_ ?_ ?_ | (simp; done)))
 | (cases h; replace h := hr; clear hr; (try simp only [bs, ↓reduceIte] at h))
 | (cases h; done))
 | true =>
   rw [if_pos c2] at h1
   have hG := may_PrG c2 hr
   have hl1 := globsS_len hG.globals
   have hl2 := procsS_len hG.procs
   have hlen : (textS p).length < 4611686018427387904 := by
     have : (textS p).length = (globsS p.globals).length + (procsS p.procs).length := by simp [textS]
     simp only [Pg.size] at hs
     omega
   have hT := fun s => Tokens_s (p := p) (by omega) s
   have hx := text_lexed c2 hr (by omega)
   have hlx := fun s => all_s (textS p) hlen s
   have he := fun s => Eq_s (a := p) (b := p) (by omega) s
   rw [Pg.beq_refl] at he
   rcases hx with ⟨x1, x2, x3⟩ | ⟨x1, x2⟩
   · have hp := fun s => Parse_s x3 hlen s
     obtain ⟨⟨l, f1, f2⟩, hl⟩ : ∃ v, lexAll (textS p) = v := ⟨_, rfl⟩
     rw [hl] at x1 x2 hlx
     dsimp only at x1 x2 hlx
     subst x1
     have z1 : ((0 : Int) != 0) = false := rfl
     have z2 : ((0 : Int) == 0) = true := rfl
     have z3 : decide ((l.length : Int) > 2001) = false := by simp; omega
     generalize textS p = T at *
     cases t2 : decide (tokM p ≤ 2000) with
     | true =>
       refine Fun.go has_law5_PrintTurn rfl fun B Q hB hQ => ?_
       have ⟨hH, hJ, hY, hZ⟩ := H4_
       repeat' (first
 | simp only [go_sem, hH, hJ, hY, hZ, c, c2, encF, z1, z2, z3, t2, List.length_map]
 | (with_reducible refine CU (h0 _) ?_)
 | (with_reducible refine CU (hf _) ?_)
 | (with_reducible refine CU (h1 _) ?_)
 | (with_reducible refine CU (m1 _) ?_)
 | (with_reducible refine CU (hlx _) ?_)
 | (with_reducible refine CU (hT _) ?_)
 | (with_reducible refine CU (hp _) ?_)
 | (with_reducible refine CU (he _) ?_)
 | (with_reducible first | refine kT_ fun hc => ?_ | refine kF_ fun hc => ?_ | refine kS_ (fun hc => ?_) fun hc => ?_) <;> (try simp only [hc, bs, ↓reduceIte] at h) <;> try simp only [hc]
 | (with_reducible refine lA_ hQ ?_; (try cases h); simp only [resL, oneD, sI_, eL_, go_sem, hH, hJ, hY, hZ, c, c2, encF, z1, z2, z3, t2, List.length_map]; repeat' (first | exact Ok.out | with_reducible refine aI_ ?_ ?_ | (simp; done)))
 | (cases h; replace h := hr; clear hr; (try simp only [bs, ↓reduceIte] at h))
 | (cases h; done))
     | false =>
       refine Fun.go has_law5_PrintTurn rfl fun B Q hB hQ => ?_
       have ⟨hH, hJ, hY, hZ⟩ := H4_
       repeat' (first
 | simp only [go_sem, hH, hJ, hY, hZ, c, c2, encF, z1, z2, z3, t2, List.length_map]
 | (with_reducible refine CU (h0 _) ?_)
 | (with_reducible refine CU (hf _) ?_)
 | (with_reducible refine CU (h1 _) ?_)
 | (with_reducible refine CU (m1 _) ?_)
 | (with_reducible refine CU (hlx _) ?_)
 | (with_reducible refine CU (hT _) ?_)
 | (with_reducible refine CU (hp _) ?_)
 | (with_reducible refine CU (he _) ?_)
 | (with_reducible first | refine kT_ fun hc => ?_ | refine kF_ fun hc => ?_ | refine kS_ (fun hc => ?_) fun hc => ?_) <;> (try simp only [hc, bs, ↓reduceIte] at h) <;> try simp only [hc]
 | (with_reducible refine lA_ hQ ?_; (try cases h); simp only [resL, oneD, sI_, eL_, go_sem, hH, hJ, hY, hZ, c, c2, encF, z1, z2, z3, t2, List.length_map]; repeat' (first | exact Ok.out | with_reducible refine aI_ ?_ ?_ | (simp; done)))
 | (cases h; replace h := hr; clear hr; (try simp only [bs, ↓reduceIte] at h))
 | (cases h; done))
   · obtain ⟨⟨l, f1, f2⟩, hl⟩ : ∃ v, lexAll (textS p) = v := ⟨_, rfl⟩
     rw [hl] at x1 hlx
     dsimp only at x1 hlx
     subst x1
     have z1 : ((4 : Int) != 0) = true := rfl
     have z2 : ((4 : Int) == 4) = true := rfl
     have t2 : decide (tokM p ≤ 2000) = false := by simp; omega
     generalize textS p = T at *
     refine Fun.go has_law5_PrintTurn rfl fun B Q hB hQ => ?_
     have ⟨hH, hJ, hY, hZ⟩ := H4_
     repeat' (first
 | simp only [go_sem, hH, hJ, hY, hZ, c, c2, encF, z1, z2, t2]
 | (with_reducible refine CU (h0 _) ?_)
 | (with_reducible refine CU (hf _) ?_)
 | (with_reducible refine CU (h1 _) ?_)
 | (with_reducible refine CU (m1 _) ?_)
 | (with_reducible refine CU (hlx _) ?_)
 | (with_reducible refine CU (hT _) ?_)
 | (with_reducible first | refine kT_ fun hc => ?_ | refine kF_ fun hc => ?_ | refine kS_ (fun hc => ?_) fun hc => ?_) <;> (try simp only [hc, bs, ↓reduceIte] at h) <;> try simp only [hc]
 | (with_reducible refine lA_ hQ ?_; (try cases h); simp only [resL, oneD, sI_, eL_, go_sem, hH, hJ, hY, hZ, c, c2, encF, z1, z2, t2]; repeat' (first | exact Ok.out | with_reducible refine aI_ ?_ ?_ | (simp; done)))
 | (cases h; replace h := hr; clear hr; (try simp only [bs, ↓reduceIte] at h))
 | (cases h; done))

end Go.Abs

/-! Glue2 -/

namespace Go.Abs

def M0 : Map := ⟨fun _ _ => none, fun _ => (0, none), fun _ => none⟩

def Kept (w w' : World) : Prop := w.keptBut w' (fun _ => False) ∧ ∀ a : Addr, a.block < w.heap.size → w'.frozen? a = w.frozen? a

theorem Kept.frame {w w' : World} (h : Kept w w') (may : MemPlace → Prop) : w.keptBut w' may := World.keptBut_mono (fun _ f => f.elim) h.1

theorem Ext.toKept {M M' : Map} {s' : St} {w w' : World} (e : Ext M S0 w M' s' w') : Kept w w' := by
 have hh : ∀ b, b < w.heap.size → w'.heap[b]? = w.heap[b]? := fun b hb =>
   e.kept b hb (fun o ho => by simp [S0] at ho) (fun t c z hl => by obtain ⟨n, hn⟩ := hl; simp [S0] at hn)
 refine ⟨⟨e.os, e.output, fun i hi => ?_⟩, fun a ha => ?_⟩
 · rw [hh i hi]
   exact (World.keptBut_refl w (fun _ => False)).2.2 i hi
 · simp only [World.frozen?, hh _ ha]

theorem rel0 (G : Nat → Nat → Option Value) (w : World) (h : ∀ b o v, G b o = some v → w.cell? ⟨b, o, none⟩ = some v ∧ v.oneCell' = true) : Rel ⟨G, fun _ => (0, none), fun _ => none⟩ S0 w :=
 ⟨h, fun o ds e => by simp [S0] at e, fun o ho => by simp [S0] at ho, fun o o' ho => by simp [S0] at ho, fun t n e => by simp [S0] at e,
   fun t b c z o hl => by obtain ⟨n, hn⟩ := hl; simp [S0] at hn, fun t t' b c z c' z' hl => by obtain ⟨n, hn⟩ := hl; simp [S0] at hn⟩

def LaidW (w : World) : Prop := ∀ g cs, tabs g = some cs → ∃ T fr, w.heap[g]? = some (.cells cs T fr)
theorem laid0 (G : Nat → Nat → Option Value) {w : World} (h : LaidW w) : Laid ⟨G, fun _ => (0, none), fun _ => none⟩ S0 w :=
 fun g cs hg => ⟨h g cs hg, fun o ho => by simp [S0] at ho, fun t c z hl => by obtain ⟨n, hn⟩ := hl; simp [S0] at hn⟩

theorem law_calls {P : Program} {f : FuncId} {args : List D} {vargs : Array Value} {w : World} {G : Nat → Nat → Option Value} (h : ACalls P f args S0 fun d _ => d = .bool true)
   (hG : ∀ b o v, G b o = some v → w.cell? ⟨b, o, none⟩ = some v ∧ v.oneCell' = true) (hl : vargs.size = args.length)
   (ha : ∀ (i : Nat) (d : D) (v : Value), args[i]? = some d → vargs[i]? = some v → RD ⟨G, fun _ => (0, none), fun _ => none⟩ S0 d v) (hlaid : LaidW w) :
   Calls P f vargs w fun e w' => e = .returned (.bool true) ∧ Kept w w' := by
 refine (h _ w vargs (rel0 G w hG) (laid0 G hlaid) hl ha).mono fun e w' hw => ?_
 obtain ⟨M', d, v, s', rfl, rfl, he, _, hv⟩ := hw
 rw [hv.bool_inv]
 exact ⟨rfl, he.toKept⟩

section
variable {P : Program} {H : Type} {enc : TypeId × Value → H}

theorem post_of_kept {f : Func} {s : ChangeSpec} {apart fresh handsOn again : Bool} {W W' : World} {args : Array Value} {v : Value} {ds gs : List (DataW H)} {before pa pv : List MemPlace}
   (hW : DataW.Whole enc P f.params.toList s.vars apart W args.toList ds gs before)
   (hres : ∀ (b : Nat) (sp : Nat → Bool) (hd : Bool), DataW.TrodAll enc P W' b sp hd f.resultTypes.toList (v.resultList f.resultTypes.size) (s.fn H (ds ++ gs)).results [])
   (hargs : ∀ sp : Nat → Bool, (∀ p ∈ before, sp p.block = true) → DataW.TrodAll enc P W' 0 sp true f.params.toList args.toList (s.fn H (ds ++ gs)).args pa)
   (hvars : ∀ sp : Nat → Bool, (∀ p ∈ before, sp p.block = true) → DataW.TrodVars enc P W' sp s.vars (s.fn H (ds ++ gs)).vars pv)
   (hps : before = pa ++ pv) (hk : Kept W W')
   (hok : ∀ (j : Nat) (t : TypeId) (r : Value), f.resultTypes[j]? = some t → (v.resultList f.resultTypes.size)[j]? = some r → Value.okWide P W' .any 0 t r) :
   s.post enc P f apart fresh handsOn again W args v W' := by
 have hH : ∀ p ∈ before, p.block < W.heap.size := fun p hp => hW.lt p hp
 have hold : ∀ p ∈ before, (fun b => decide (b < W.heap.size)) p.block = true := fun p hp => by simpa using hH p hp
 refine ⟨ds, gs, before, [], pa, pv, hW, hres _ _ _, hargs _ hold, hvars _ hold, World.keptBut_mono (fun p hp => ⟨hp, ?_⟩) (hk.frame (· ∈ before)), fun _ => ?_⟩
 · rw [hps, List.mem_append] at hp
   exact Or.inr hp
 · obtain ⟨_, _, _, _, _, hz, hn⟩ := hW
   refine ⟨hok, _, _, ([] ++ pa) ++ pv, ⟨[] ++ pa, pv, ChangeShapes.trodAll_append (hargs _ (fun _ _ => rfl)) (hres _ _ _), hvars _ (fun _ _ => rfl), rfl, ?_, ?_⟩, ?_⟩
   · intro b off hp
     have hp' : MemPlace.cell b off ∈ before := by rw [hps]; simpa using hp
     rw [hk.2 _ (hH _ hp')]
     exact hz b off hp'
   · intro ha
     have := hn ha
     rw [hps] at this
     simpa using this
   · intro p hp _
     rw [hps]
     simpa using hp
end
end Go.Abs

/-! Join -/

namespace Go.Abs
open Go.RowKit Go.ChangeShapes Go.WideShapes

def memG (w : World) (b o : Nat) : Option Value :=
 match w.cell? ⟨b, o, none⟩ with
 | some v => if v.oneCell' = true then some v else none
 | none => none
theorem memG_ok {w : World} (b o : Nat) (v : Value) (h : memG w b o = some v) : w.cell? ⟨b, o, none⟩ = some v ∧ v.oneCell' = true := by
 unfold memG at h
 split at h
 · split at h
   · cases h; exact ⟨‹_›, ‹_›⟩
   · cases h
 · cases h
def memM (w : World) : Map := ⟨memG w, fun _ => (0, none), fun _ => none⟩

theorem Kept.sameAt {w w' : World} (h : Kept w w') {p : MemPlace} (hp : p.block < w.heap.size) : w.sameAt w' p := by
 have hk := h.1.2.2 p.block hp
 cases p with
 | cell b off =>
   simp only [MemPlace.block] at hk hp
   simp only [World.sameAt, World.cell?]
   split at hk
   · rename_i c t fr c' t' fr' e e'
     rw [e, e']
     simp only [hk.2.2.2 off (fun f => f)]
   · rename_i es clock es' clock' e e'
     rw [e, e']
   · rw [hk]
 | map b =>
   simp only [MemPlace.block] at hk hp
   simp only [World.sameAt]
   split at hk
   · rename_i c t fr c' t' fr' e e'
     rw [e, e']
     obtain ⟨rfl, rfl, hs, hc⟩ := hk
     have : c' = c := by
       apply Array.ext_getElem?
       intro i
       exact hc i (fun f => f)
     rw [this]
   · rename_i es clock es' clock' e e'
     rcases hk with f | ⟨rfl, rfl⟩
     · exact f.elim
     · rw [e, e']
   · exact hk

section
variable {P : Program} {H : Type} {enc : TypeId × Value → H} {T : TypeId → Prop}

theorem args_again (K : Kids P T) (hz : ∀ {t e : TypeId}, T t → P.underlying t = some (.slice e) → 0 < P.cellsOf e) {W W' : World} (hk : Kept W W') {sp : Nat → Bool} :
   ∀ {ts : List TypeId} {vs : List Value} {ds : List (DataW H)} {ps : List MemPlace}, (∀ t ∈ ts, T t) → (∀ p ∈ ps, p.block < W.heap.size) → (∀ p ∈ ps, sp p.block = true) →
     DataW.TrodAll enc P W 0 (fun _ => true) true ts vs ds ps → DataW.TrodAll enc P W' 0 sp true ts vs ds ps
 | [], [], [], _, _, _, _, h => h
 | t :: ts, v :: vs, d :: ds, ps, hT, hH, hs, ⟨p, q, ⟨n, h1⟩, h2, e⟩ => by
   subst e
   refine ⟨p, q, ⟨n, DataW.trod_stays K hz (fun f => by cases f) (hT t (List.mem_cons_self ..)) h1 (fun x hx => hk.sameAt (hH x (List.mem_append_left _ hx))) (fun x hx => hs x (List.mem_append_left _ hx))⟩, ?_, rfl⟩
   exact args_again K hz hk (fun t ht => hT t (List.mem_cons_of_mem _ ht)) (fun x hx => hH x (List.mem_append_right _ hx)) (fun x hx => hs x (List.mem_append_right _ hx)) h2
 | [], [], _ :: _, _, _, _, _, h => h.elim
 | [], _ :: _, _, _, _, _, _, h => h.elim
 | _ :: _, [], _, _, _, _, _, h => h.elim
 | _ :: _, _ :: _, [], _, _, _, _, h => h.elim

theorem law_post (K : Kids P T) (hz : ∀ {t e : TypeId}, T t → P.underlying t = some (.slice e) → 0 < P.cellsOf e) {f : Func} {s : ChangeSpec} {apart fresh handsOn again : Bool} {tb : TypeId} {W W' : World} {args : Array Value} {ds gs : List (DataW H)} {before : List MemPlace}
   (hT : ∀ t ∈ f.params.toList, T t) (hb : P.underlying tb = some .bool) (hr : f.resultTypes = #[tb]) (hvars : s.vars = []) (hW : DataW.Whole enc P f.params.toList s.vars apart W args.toList ds gs before)
   (hfn : s.fn H (ds ++ gs) = { results := [.lit (.bool true)], args := ds }) (hk : Kept W W') : s.post enc P f apart fresh handsOn again W args (.bool true) W' := by
 have hW' := hW
 have hH : ∀ p ∈ before, p.block < W.heap.size := fun p hp => hW.lt p hp
 obtain ⟨p, q, hA, hV, rfl, hfz, hnd⟩ := hW
 rw [hvars] at hV
 obtain ⟨rfl, rfl⟩ := trodVars_none hV
 simp only [List.append_nil] at hH hfn
 refine post_of_kept (pa := p) (pv := []) hW' (fun b sp hd => ?_) (fun sp hsp => ?_) (fun sp hsp => ?_) rfl hk (ok_one hr rfl (okWide_bool_mk hb _))
 · rw [List.append_nil, hfn, hr]
   exact trodAll_cons_mk (shut_bool hb _) trodAll_mk0
 · rw [List.append_nil, hfn]
   simp only [List.append_nil] at hsp
   exact args_again K hz hk hT hH hsp hA
 · rw [List.append_nil, hfn, hvars]
   rfl

theorem law_run {f : FuncId} {args : List D} {vargs : Array Value} {w : World} (h : ACalls P f args S0 fun d _ => d = .bool true) (hl : vargs.size = args.length)
   (ha : ∀ (i : Nat) (d : D) (v : Value), args[i]? = some d → vargs[i]? = some v → RD (memM w) S0 d v) (hlaid : LaidW w) : Calls P f vargs w fun e w' => e = .returned (.bool true) ∧ Kept w w' :=
 law_calls (G := memG w) h memG_ok hl ha hlaid
end

end Go.Abs

/-! Join2 -/

namespace Go.Abs
open Go.RowKit Go.ChangeShapes Go.WideShapes

end Go.Abs

/-! Join3 -/

namespace Go.Abs
open Go.RowKit Go.ChangeShapes Go.WideShapes

def Rowed (W : World) (ds : List D) (cs : List Value) : Prop := ds.length = cs.length ∧ (∀ (i : Nat) (d : D) (v : Value), ds[i]? = some d → cs[i]? = some v → RD (memM W) S0 d v) ∧ ∀ v ∈ cs, v.oneCell' = true

theorem Rowed.one {W : World} {d : D} {v : Value} (h : RD (memM W) S0 d v) (hv : v.oneCell' = true) : Rowed W [d] [v] := by
 refine ⟨rfl, fun i d' v' h1 h2 => ?_, fun u hu => by simp at hu; subst hu; exact hv⟩
 cases i with
 | zero => simp at h1 h2; subst h1 h2; exact h
 | succ i => simp at h1
theorem Rowed.app {W : World} {ds ds' : List D} {cs cs' : List Value} (h : Rowed W ds cs) (h' : Rowed W ds' cs') : Rowed W (ds ++ ds') (cs ++ cs') := by
 obtain ⟨a1, a2, a3⟩ := h
 obtain ⟨b1, b2, b3⟩ := h'
 refine ⟨by simp [a1, b1], fun i d v h1 h2 => ?_, fun v hv => ?_⟩
 · by_cases hi : i < ds.length
   · rw [List.getElem?_append_left hi] at h1
     rw [List.getElem?_append_left (by omega)] at h2
     exact a2 i d v h1 h2
   · rw [List.getElem?_append_right (by omega)] at h1
     rw [List.getElem?_append_right (by omega), ← a1] at h2
     exact b2 _ d v h1 h2
 · rcases List.mem_append.1 hv with hv | hv
   · exact a3 v hv
   · exact b3 v hv
theorem Rowed.at {W : World} {ds ds' : List D} {cs : List Value} {o n : Nat} (h : Rowed W ds ((cs.drop o).take n)) (h' : Rowed W ds' (cs.drop (o + n))) : Rowed W (ds ++ ds') (cs.drop o) := by
 have e : cs.drop o = (cs.drop o).take n ++ cs.drop (o + n) := by rw [← List.drop_drop, List.take_append_drop]
 rw [e]
 exact h.app h'
theorem Rowed.end {W : World} {cs : List Value} {o : Nat} (h : cs.length = o) : Rowed W [] (cs.drop o) := by
 rw [← h, List.drop_length]
 exact ⟨rfl, fun i d v h => by simp at h, fun v hv => by cases hv⟩

section
variable {H : Type} {enc : TypeId × Value → H} {P : Program} {W : World} {sp : Nat → Bool}

def structOf (P : Program) (t : TypeId) : List (TypeId × Nat) :=
 match P.underlying t with
 | some (.struct fs) => fs.toList.map fun f => (f.type, f.offset)
 | _ => []

theorem struct_fields {t : TypeId} {l : List (TypeId × Nat)} {fuel : Nat} {cs : List Value} {x : DataW H × List MemPlace} (h : structOf P t = l) (hne : l ≠ []) (ht : DataW.trod enc P W 0 sp true fuel t cs = some x) :
   ∃ n, fuel = n + 1 ∧ cs.length = P.cellsOf t ∧ ∀ (i : Nat) (f : TypeId × Nat), l[i]? = some f → ∃ y, DataW.trod enc P W 0 sp true n f.1 ((cs.drop f.2).take (P.cellsOf f.1)) = some y := by
 unfold structOf at h
 split at h
 · rename_i fs hu
   obtain ⟨xs, n, e, _, hl, hlen, hf⟩ := DataW.trod_struct hu ht
   refine ⟨n, e, hl, fun i f hi => ?_⟩
   subst h
   rw [List.getElem?_map, Option.map_eq_some_iff] at hi
   obtain ⟨g, hg, rfl⟩ := hi
   have hg' : fs[i]? = some g := by simpa using hg
   have hi : i < xs.length := by rw [hlen]; exact (Array.getElem?_eq_some_iff.1 hg').1
   exact ⟨xs[i], by rw [hf i g hg', List.getElem?_eq_getElem hi]⟩
 · exact absurd h.symm hne

theorem structOf_some {t : TypeId} {l : List (TypeId × Nat)} (h : structOf P t = l) (hne : l ≠ []) : ∃ fs, P.underlying t = some (.struct fs) := by
 unfold structOf at h
 split at h
 · exact ⟨_, ‹_›⟩
 · exact absurd h.symm hne

theorem choose_list {α : Type} {Q : Nat → α → Prop} : ∀ n, (∀ i, i < n → ∃ y, Q i y) → ∃ ys : List α, ys.length = n ∧ ∀ i y, ys[i]? = some y → Q i y
 | 0, _ => ⟨[], rfl, fun i y h => by simp at h⟩
 | n + 1, h => by
   obtain ⟨ys, h1, h2⟩ := choose_list n fun i hi => h i (by omega)
   obtain ⟨y, hy⟩ := h n (by omega)
   refine ⟨ys ++ [y], by simp [h1], fun i z hz => ?_⟩
   by_cases hi : i < ys.length
   · rw [List.getElem?_append_left hi] at hz; exact h2 i z hz
   · rw [List.getElem?_append_right (by omega)] at hz
     have : i - ys.length = 0 := by
       rcases Nat.eq_zero_or_pos (i - ys.length) with h | h
       · exact h
       · rw [List.getElem?_eq_none (by simp only [List.length_cons, List.length_nil]; omega)] at hz; cases hz
     rw [this] at hz
     simp at hz
     subst hz
     have : i = n := by omega
     subst this
     exact hy

theorem rd_slice {α : Type} (en : α → List D) (good : α → Prop) {z : Nat} {t e : TypeId} {fuel : Nat} {cs : List Value} {x : DataW H × List MemPlace} (ht : P.underlying t = some (.slice e)) (hz : P.cellsOf e = z) (hz0 : 0 < z) (hen : ∀ y, (en y).length = z)
   (hel : ∀ n < fuel, ∀ cs x, DataW.trod enc P W 0 sp true n e cs = some x → ∃ y, Rowed W (en y) cs ∧ good y) (h : DataW.trod enc P W 0 sp true fuel t cs = some x) :
   ∃ ys : List α, Rowed W [.slice .shared z (ys.map en)] cs ∧ ∀ y ∈ ys, good y := by
 rcases DataW.trod_slice ht h with ⟨rfl, _⟩ | ⟨a, len, cap, elems, rest, n, hn, rfl, _, hb, hl, hm, hlen, hcell, _, _⟩
 · exact ⟨[], Rowed.one (.snil _ _ _ rfl trivial) rfl, fun y hy => by cases hy⟩
 · by_cases h0 : len = 0
   · subst h0
     exact ⟨[], Rowed.one (.semp _ _ _) rfl, fun y hy => by cases hy⟩
   · obtain ⟨ys, hys, hall⟩ := choose_list (Q := fun i y => good y ∧ ∃ cs', W.cells? 0 (a.add (i * z)) z = some cs' ∧ Rowed W (en y) cs') len fun i hi => by
       have hc := hcell i hi
       rw [List.getElem?_eq_getElem (by omega), hz, Option.bind_eq_some_iff] at hc
       obtain ⟨cs', h1, h2⟩ := hc
       obtain ⟨y, h3, h4⟩ := hel n (by omega) _ _ h2
       exact ⟨y, h4, cs', h1, h3⟩
     have cell : ∀ i y, ys[i]? = some y → ∀ (j : Nat) d, (en y)[j]? = some d → ∃ v, W.cell? ((a.add (i * z)).add j) = some v ∧ RD (memM W) S0 d v ∧ v.oneCell' = true := by
       intro i y hy j d hd
       obtain ⟨_, cs', h1, h2, h3, h4⟩ := hall i y hy
       obtain ⟨_, k1, k2⟩ := World.cells?_some h1
       have hj : j < z := by rw [← hen y]; exact (List.getElem?_eq_some_iff.1 hd).1
       have hv : cs'[j]? = some cs'[j] := List.getElem?_eq_getElem (by omega)
       exact ⟨cs'[j], by rw [k2 j hj, hv], h3 j d _ hd hv, h4 _ (List.getElem_mem _)⟩
     obtain ⟨b, off, spot⟩ := a
     have hspot : spot = none := by
       have hy : ys[0]? = some (ys[0]'(by omega)) := List.getElem?_eq_getElem (by omega)
       obtain ⟨d, hd⟩ : ∃ d, (en (ys[0]'(by omega)))[0]? = some d := ⟨_, List.getElem?_eq_getElem (show 0 < (en (ys[0]'(by omega))).length by rw [hen]; exact hz0)⟩
       obtain ⟨v, hv, _⟩ := cell 0 _ hy 0 _ hd
       have := World.cell?_spot hv
       simpa [Addr.add] using this
     subst hspot
     have e : (ys.map en).length = len := by simp [hys]
     have := RD.slice (M := memM W) (s := S0) .shared z (ys.map en) b off cap (by omega) (fun row hr => by obtain ⟨y, _, rfl⟩ := List.mem_map.1 hr; exact hen y)
       (fun i row j d h1 h2 => by
         rw [List.getElem?_map, Option.map_eq_some_iff] at h1
         obtain ⟨y, h1, rfl⟩ := h1
         obtain ⟨v, hv, _, h4⟩ := cell i y h1 j d h2
         rw [add_plain, add_plain] at hv
         refine ⟨v, ?_⟩
         show memG W b (off + (i * z + j)) = _
         unfold memG
         rw [show off + (i * z + j) = off + i * z + j by omega, hv]
         simp [h4])
       (fun i row j d u h1 h2 hu => by
         rw [List.getElem?_map, Option.map_eq_some_iff] at h1
         obtain ⟨y, h1, rfl⟩ := h1
         obtain ⟨v, hv, h3, h4⟩ := cell i y h1 j d h2
         rw [add_plain, add_plain] at hv
         obtain ⟨hu, _⟩ := memG_ok _ _ _ hu
         rw [show off + (i * z + j) = off + i * z + j by omega, hv] at hu
         cases hu
         exact h3) trivial
     rw [e] at this
     refine ⟨ys, Rowed.one this rfl, fun y hy => ?_⟩
     obtain ⟨i, hi⟩ := List.getElem?_of_mem hy
     exact (hall i y hi).1

theorem rd_i64 {t : TypeId} {fuel : Nat} {cs : List Value} {x : DataW H × List MemPlace} (ht : P.underlying t = some (.int .i64)) (h : DataW.trod enc P W 0 sp true fuel t cs = some x) : ∃ n : Int, Rowed W [.int .i64 n] cs ∧ n ≤ 9223372036854775807 ∧ -9223372036854775808 ≤ n := by
 obtain ⟨n, rfl, _, hw⟩ := DataW.trod_int ht h
 simp [Lit.wf, IntKind.min, IntKind.max, IntKind.signed, IntKind.bits] at hw
 exact ⟨n, Rowed.one (.int _ _) rfl, by omega, by omega⟩
theorem rd_bool {t : TypeId} {fuel : Nat} {cs : List Value} {x : DataW H × List MemPlace} (ht : P.underlying t = some .bool) (h : DataW.trod enc P W 0 sp true fuel t cs = some x) : ∃ b : Bool, Rowed W [.bool b] cs := by
 obtain ⟨n, rfl, _⟩ := DataW.trod_bool ht h
 exact ⟨n, Rowed.one (.bool _) rfl⟩
theorem rd_str {t : TypeId} {fuel : Nat} {cs : List Value} {x : DataW H × List MemPlace} (ht : P.underlying t = some .string) (h : DataW.trod enc P W 0 sp true fuel t cs = some x) : ∃ s : Str, Rowed W (encStr s) cs ∧ s.length ≤ maxLen := by
 obtain ⟨s, rfl, _, hm⟩ := DataW.trod_string ht h
 obtain ⟨⟨l⟩⟩ := s
 exact ⟨l, Rowed.one (.str l) rfl, hm⟩

theorem rd_ex {tE tI tN tS tK : TypeId} (hE : structOf P tE = [(tI, 0), (tN, 1), (tS, 2), (tK, 3)]) (hEc : P.cellsOf tE = 4) (hI : P.underlying tI = some (.int .i64)) (hN : P.underlying tN = some (.int .i64)) (hS : P.underlying tS = some .string) (hK : P.underlying tK = some (.slice tE))
   (cI : P.cellsOf tI = 1) (cN : P.cellsOf tN = 1) (cS : P.cellsOf tS = 1) (cK : P.cellsOf tK = 1) :
   ∀ (fuel : Nat) (cs : List Value) (x : DataW H × List MemPlace), DataW.trod enc P W 0 sp true fuel tE cs = some x → ∃ y : Ex, Rowed W (encEx y) cs ∧ y.rng := by
 intro fuel
 induction fuel using Nat.strongRecOn with
 | _ fuel ih =>
   intro cs x h
   obtain ⟨n, rfl, hl, hf⟩ := struct_fields hE (by simp) h
   obtain ⟨y0, h0⟩ := hf 0 _ rfl
   obtain ⟨y1, h1⟩ := hf 1 _ rfl
   obtain ⟨y2, h2⟩ := hf 2 _ rfl
   obtain ⟨y3, h3⟩ := hf 3 _ rfl
   dsimp only at h0 h1 h2 h3
   rw [cI] at h0
   rw [cN] at h1
   rw [cS] at h2
   rw [cK] at h3
   obtain ⟨op, r0, _⟩ := rd_i64 hI h0
   obtain ⟨m, r1, hm, _⟩ := rd_i64 hN h1
   obtain ⟨s, r2, _⟩ := rd_str hS h2
   obtain ⟨ks, r3, hg⟩ := rd_slice (W := W) encEx Ex.rng hK hEc (by decide) lenEx (fun k hk cs x hx => ih k (by omega) cs x hx) h3
   refine ⟨⟨op, m, s, ks⟩, ?_, hm, ?_⟩
   · have := r0.at (r1.at (r2.at (r3.at (Rowed.end (by rw [hl, hEc])))))
     rw [encEx_eq]
     simpa [encStr] using this
   · clear r3
     induction ks with
     | nil => exact trivial
     | cons k ks ihk => exact ⟨hg k (by simp), ihk fun y hy => hg y (by simp [hy])⟩

theorem Rowed.agg {ds : List D} {v : Value} (h : Rowed W ds v.cells.toList) (hv : ∃ vs, v = .agg vs) : RD (memM W) S0 (.agg ds) v := by
 obtain ⟨vs, rfl⟩ := hv
 obtain ⟨h1, h2, h3⟩ := h
 have e : (Value.agg vs).cells = vs := rfl
 rw [e] at h1 h2 h3
 refine .agg ds vs (by simpa using h1) (fun v hv => h3 v (by simpa using hv)) fun i d v hd hv => h2 i d v hd (by simpa using hv)
end

end Go.Abs

/-! Join4 -/

namespace Go.Abs
open Go.Proofs Go.RowKit Go.ChangeShapes Go.WideShapes

section
variable {H : Type} {enc : TypeId × Value → H} {W : World} {sp : Nat → Bool}

theorem rdp_ex (fuel : Nat) (cs : List Value) (x : DataW H × List MemPlace) (h : DataW.trod enc Tryz.prog W 0 sp true fuel 47 cs = some x) : ∃ y : Ex, Rowed W (encEx y) cs ∧ y.rng :=
 rd_ex (tE := 47) (tI := 3) (tN := 2) (tS := 9) (tK := 45) (by kernel_rfl) (by kernel_rfl) (by kernel_rfl) (by kernel_rfl) (by kernel_rfl) (by kernel_rfl) (by kernel_rfl) (by kernel_rfl) (by kernel_rfl) (by kernel_rfl) _ _ _ h
theorem ut_strs : Tryz.prog.underlying 22 = some (.slice 9) := by kernel_rfl
theorem ut_str : Tryz.prog.underlying 9 = some .string := by kernel_rfl
theorem ut_int : Tryz.prog.underlying 3 = some (.int .i64) := by kernel_rfl
theorem ut_bool : Tryz.prog.underlying 4 = some .bool := by kernel_rfl
theorem ct_str : Tryz.prog.cellsOf 9 = 1 := by kernel_rfl
theorem ct_int : Tryz.prog.cellsOf 3 = 1 := by kernel_rfl
theorem ct_bool : Tryz.prog.cellsOf 4 = 1 := by kernel_rfl
theorem ct_strs : Tryz.prog.cellsOf 22 = 1 := by kernel_rfl
theorem ct_ex : Tryz.prog.cellsOf 47 = 4 := by kernel_rfl
theorem rdp_strs {fuel : Nat} {cs : List Value} {x : DataW H × List MemPlace} (h : DataW.trod enc Tryz.prog W 0 sp true fuel 22 cs = some x) : ∃ l : List Str, Rowed W [.slice .shared 1 (l.map encStr)] cs := by
 obtain ⟨l, h, _⟩ := rd_slice (W := W) encStr (fun _ => True) ut_strs ct_str (by decide) (fun _ => rfl) (fun k hk cs x hx => by
   obtain ⟨s, hs, _⟩ := rd_str ut_str hx
   exact ⟨s, hs, trivial⟩) h
 exact ⟨l, h⟩

theorem rdp_pm {fuel : Nat} {cs : List Value} {x : DataW H × List MemPlace} (h : DataW.trod enc Tryz.prog W 0 sp true fuel 58 cs = some x) : ∃ y : Pm, Rowed W (encPm y) cs := by
 obtain ⟨n, rfl, hl, hf⟩ := struct_fields (l := [(9, 0), (4, 1)]) (by kernel_rfl) (by simp) h
 have hc : Tryz.prog.cellsOf 58 = 2 := by kernel_rfl
 obtain ⟨y0, h0⟩ := hf 0 _ rfl
 obtain ⟨y1, h1⟩ := hf 1 _ rfl
 dsimp only at h0 h1
 rw [ct_str] at h0
 rw [ct_bool] at h1
 obtain ⟨s, r0, _⟩ := rd_str ut_str h0
 obtain ⟨b, r1⟩ := rd_bool ut_bool h1
 refine ⟨⟨s, b⟩, ?_⟩
 have := r0.at (r1.at (Rowed.end (by rw [hl, hc])))
 simpa [encStr, encPm] using this

theorem rdp_ar {fuel : Nat} {cs : List Value} {x : DataW H × List MemPlace} (h : DataW.trod enc Tryz.prog W 0 sp true fuel 96 cs = some x) : ∃ y : Ar, Rowed W (encAr y) cs ∧ y.x.rng := by
 obtain ⟨n, rfl, hl, hf⟩ := struct_fields (l := [(4, 0), (9, 1), (47, 2)]) (by kernel_rfl) (by simp) h
 have hc : Tryz.prog.cellsOf 96 = 6 := by kernel_rfl
 obtain ⟨y0, h0⟩ := hf 0 _ rfl
 obtain ⟨y1, h1⟩ := hf 1 _ rfl
 obtain ⟨y2, h2⟩ := hf 2 _ rfl
 dsimp only at h0 h1 h2
 rw [ct_bool] at h0
 rw [ct_str] at h1
 rw [ct_ex] at h2
 obtain ⟨b, r0⟩ := rd_bool ut_bool h0
 obtain ⟨s, r1, _⟩ := rd_str ut_str h1
 obtain ⟨e, r2, hr⟩ := rdp_ex _ _ _ h2
 refine ⟨⟨b, s, e⟩, ?_, hr⟩
 have := r0.at (r1.at (r2.at (Rowed.end (by rw [hl, hc]))))
 rw [encEx_eq] at this
 simpa [encStr, encAr] using this

theorem rngs_all : ∀ {l : List Sm}, (∀ s ∈ l, s.rng) → Sm.rngs l
 | [], _ => trivial
 | s :: l, h => ⟨h s (List.mem_cons_self ..), rngs_all fun t m => h t (List.mem_cons_of_mem _ m)⟩

theorem rdp_sm : ∀ (fuel : Nat) (cs : List Value) (x : DataW H × List MemPlace), DataW.trod enc Tryz.prog W 0 sp true fuel 51 cs = some x → ∃ y : Sm, Rowed W (encSm y) cs ∧ y.rng := by
 intro fuel
 induction fuel using Nat.strongRecOn with
 | _ fuel ih =>
   intro cs x h
   obtain ⟨n, rfl, hl, hf⟩ := struct_fields (l := [(3, 0), (3, 1), (22, 2), (9, 3), (9, 4), (47, 5), (4, 9), (48, 10), (49, 11), (49, 12)]) (by kernel_rfl) (by simp) h
   have hc : Tryz.prog.cellsOf 51 = 13 := by kernel_rfl
   have ca : Tryz.prog.cellsOf 48 = 1 := by kernel_rfl
   have cs' : Tryz.prog.cellsOf 49 = 1 := by kernel_rfl
   have ua : Tryz.prog.underlying 48 = some (.slice 96) := by kernel_rfl
   have us : Tryz.prog.underlying 49 = some (.slice 51) := by kernel_rfl
   have ca6 : Tryz.prog.cellsOf 96 = 6 := by kernel_rfl
   obtain ⟨y0, h0⟩ := hf 0 _ rfl
   obtain ⟨y1, h1⟩ := hf 1 _ rfl
   obtain ⟨y2, h2⟩ := hf 2 _ rfl
   obtain ⟨y3, h3⟩ := hf 3 _ rfl
   obtain ⟨y4, h4⟩ := hf 4 _ rfl
   obtain ⟨y5, h5⟩ := hf 5 _ rfl
   obtain ⟨y6, h6⟩ := hf 6 _ rfl
   obtain ⟨y7, h7⟩ := hf 7 _ rfl
   obtain ⟨y8, h8⟩ := hf 8 _ rfl
   obtain ⟨y9, h9⟩ := hf 9 _ rfl
   dsimp only at h0 h1 h2 h3 h4 h5 h6 h7 h8 h9
   rw [ct_int] at h0 h1
   rw [ct_strs] at h2
   rw [ct_str] at h3 h4
   rw [ct_ex] at h5
   rw [ct_bool] at h6
   rw [ca] at h7
   rw [cs'] at h8 h9
   obtain ⟨id, r0, _⟩ := rd_i64 ut_int h0
   obtain ⟨kind, r1, _⟩ := rd_i64 ut_int h1
   obtain ⟨labels, r2⟩ := rdp_strs h2
   obtain ⟨name, r3, _⟩ := rd_str ut_str h3
   obtain ⟨proc, r4, _⟩ := rd_str ut_str h4
   obtain ⟨e, r5, hr⟩ := rdp_ex _ _ _ h5
   obtain ⟨b, r6⟩ := rd_bool ut_bool h6
   obtain ⟨args, r7, ha⟩ := rd_slice (W := W) encAr (fun a => a.x.rng) ua ca6 (by decide) (fun _ => rfl) (fun k hk cs x hx => rdp_ar hx) h7
   obtain ⟨thn, r8, ht⟩ := rd_slice (W := W) encSm Sm.rng us hc (by decide) lenSm (fun k hk cs x hx => ih k (by omega) cs x hx) h8
   obtain ⟨els, r9, he⟩ := rd_slice (W := W) encSm Sm.rng us hc (by decide) lenSm (fun k hk cs x hx => ih k (by omega) cs x hx) h9
   refine ⟨⟨id, kind, labels, name, proc, e, b, args, thn, els⟩, ?_, hr, ha, rngs_all ht, rngs_all he⟩
   have := r0.at (r1.at (r2.at (r3.at (r4.at (r5.at (r6.at (r7.at (r8.at (r9.at (Rowed.end (by rw [hl, hc])))))))))))
   rw [encEx_eq] at this
   rw [encSm_eq]
   simpa [encStr] using this

theorem rdp_pc {fuel : Nat} {cs : List Value} {x : DataW H × List MemPlace} (h : DataW.trod enc Tryz.prog W 0 sp true fuel 54 cs = some x) : ∃ y : Pc, Rowed W (encPc y) cs ∧ Sm.rngs y.body := by
 obtain ⟨n, rfl, hl, hf⟩ := struct_fields (l := [(9, 0), (52, 1), (22, 2), (49, 3), (22, 4)]) (by kernel_rfl) (by simp) h
 have hc : Tryz.prog.cellsOf 54 = 5 := by kernel_rfl
 have cp : Tryz.prog.cellsOf 52 = 1 := by kernel_rfl
 have cs' : Tryz.prog.cellsOf 49 = 1 := by kernel_rfl
 have up : Tryz.prog.underlying 52 = some (.slice 58) := by kernel_rfl
 have us : Tryz.prog.underlying 49 = some (.slice 51) := by kernel_rfl
 have cp2 : Tryz.prog.cellsOf 58 = 2 := by kernel_rfl
 have cs13 : Tryz.prog.cellsOf 51 = 13 := by kernel_rfl
 obtain ⟨y0, h0⟩ := hf 0 _ rfl
 obtain ⟨y1, h1⟩ := hf 1 _ rfl
 obtain ⟨y2, h2⟩ := hf 2 _ rfl
 obtain ⟨y3, h3⟩ := hf 3 _ rfl
 obtain ⟨y4, h4⟩ := hf 4 _ rfl
 dsimp only at h0 h1 h2 h3 h4
 rw [ct_str] at h0
 rw [cp] at h1
 rw [ct_strs] at h2 h4
 rw [cs'] at h3
 obtain ⟨name, r0, _⟩ := rd_str ut_str h0
 obtain ⟨ps, r1, _⟩ := rd_slice (W := W) encPm (fun _ => True) up cp2 (by decide) (fun _ => rfl) (fun k hk cs x hx => by
   obtain ⟨y, hy⟩ := rdp_pm hx
   exact ⟨y, hy, trivial⟩) h1
 obtain ⟨vars, r2⟩ := rdp_strs h2
 obtain ⟨body, r3, hb⟩ := rd_slice (W := W) encSm Sm.rng us cs13 (by decide) lenSm (fun k hk cs x hx => rdp_sm k cs x hx) h3
 obtain ⟨fin, r4⟩ := rdp_strs h4
 refine ⟨⟨name, ps, vars, body, fin⟩, ?_, rngs_all hb⟩
 have := r0.at (r1.at (r2.at (r3.at (r4.at (Rowed.end (by rw [hl, hc]))))))
 simpa [encStr, encPc] using this

theorem rdp_pg {fuel : Nat} {cs : List Value} {x : DataW H × List MemPlace} (h : DataW.trod enc Tryz.prog W 0 sp true fuel 25 cs = some x) : ∃ y : Pg, Rowed W (encPg y) cs ∧ y.rng := by
 obtain ⟨n, rfl, hl, hf⟩ := struct_fields (l := [(22, 0), (23, 1)]) (by kernel_rfl) (by simp) h
 have hc : Tryz.prog.cellsOf 25 = 2 := by kernel_rfl
 have cp : Tryz.prog.cellsOf 23 = 1 := by kernel_rfl
 have up : Tryz.prog.underlying 23 = some (.slice 54) := by kernel_rfl
 have cp5 : Tryz.prog.cellsOf 54 = 5 := by kernel_rfl
 obtain ⟨y0, h0⟩ := hf 0 _ rfl
 obtain ⟨y1, h1⟩ := hf 1 _ rfl
 dsimp only at h0 h1
 rw [ct_strs] at h0
 rw [cp] at h1
 obtain ⟨globals, r0⟩ := rdp_strs h0
 obtain ⟨procs, r1, hp⟩ := rd_slice (W := W) encPc (fun f => Sm.rngs f.body) up cp5 (by decide) (fun _ => rfl) (fun k hk cs x hx => rdp_pc hx) h1
 refine ⟨⟨globals, procs⟩, ?_, hp⟩
 have := r0.at (r1.at (Rowed.end (by rw [hl, hc])))
 simpa [encPg] using this
end

end Go.Abs

/-! Laid5 -/

namespace Go.Proofs.YtcknbmdkefcinaaGreatDoor
open Go.ChangeShapes Go.WideShapes Go.ChangeAt Go.RowKit Go.Abs

theorem own : ownKnob Tryz.prog.godebug = none := by kernel_rfl
theorem kids : Kids Tryz.prog (· < Tryz.prog.types.size) := kids_rows (by kernel_rfl) (by kernel_rfl)
theorem full : ∀ {t e : TypeId}, t < Tryz.prog.types.size → Tryz.prog.underlying t = some (.slice e) → 0 < Tryz.prog.cellsOf e := fun {t e} => slices_full_of Tryz.prog (by kernel_rfl) t e

def laid3 : List (String × DataW Unit) := [("math/bits.deBruijn32tab", Rows.laid_math_bits_deBruijn32tab), ("math/bits.deBruijn64tab", Rows.laid_math_bits_deBruijn64tab), ("internal/strconv.uint64pow10", Rows.laid_internal_strconv_uint64pow10)]

theorem laid_pow : (Rows.laid_internal_strconv_uint64pow10 : DataW Unit) = Lib.tabData .u64 Lib.pow10Tab := by kernel_rfl

theorem laidW_of {W : World} (h : laidMetH Tryz.prog laid3 W) : LaidW W := by
 have h1 : laidMet Tryz.prog [("internal/strconv.uint64pow10", Lib.tabData .u64 Lib.pow10Tab)] W := by
   have := (laidMetH_iff.1 h).1.filter fun x => x.1 == "internal/strconv.uint64pow10"
   rw [← laid_pow]
   exact this
 have ht : Lib.TabIs Tryz.prog W "internal/strconv.uint64pow10" .u64 Lib.pow10Tab :=
   Lib.tabIs_of_head (g := gPow) (t := 156) (e := 146) (n := 20) (by kernel_rfl) (by kernel_rfl) (by kernel_rfl) (by kernel_rfl) (by kernel_rfl) (by kernel_rfl) h1
 have hg : Tryz.prog.globalNamed "internal/strconv.uint64pow10" = some gPow := by kernel_rfl
 unfold Lib.TabIs World.var? at ht
 rw [hg] at ht
 simp only [Option.bind_some] at ht
 intro g cs hcs
 unfold tabs at hcs
 split at hcs
 · rename_i hgg
   subst hgg
   cases hcs
   split at ht
   · rename_i cs' T fr e
     cases ht
     exact ⟨T, fr, e⟩
   · cases ht
 · cases hcs

def tabCells : DataW Unit → Array Value
 | .agg l => (l.map fun | .lit (.int k n) => Value.int k n | _ => .int .i64 0).toArray
 | _ => #[]
noncomputable def laidWorld (os : Os) : World :=
 let w0 := World.holding Tryz.prog os ⟨#[], #[], []⟩
 let lay := fun (h : Array Obj) (g : Nat) (d : DataW Unit) => h.modify g fun
     | .cells _ t frozen => .cells (tabCells d) t frozen
     | o => o
 { w0 with heap := lay (lay (lay w0.heap 1 Rows.laid_internal_strconv_uint64pow10) 2 Rows.laid_math_bits_deBruijn32tab) 3 Rows.laid_math_bits_deBruijn64tab }
theorem laid_met (os : Os) (args : Array Value) : laidMetH Tryz.prog laid3 ((laidWorld os).forCall (fun _ _ => 0) ⟨#[], args, []⟩).memory :=
 laidMetH_iff.2 ⟨(LaidIn.of_run [2, 3, 1] 8 (by kernel_rfl) (by kernel_rfl) (by kernel_rfl) (by kernel_rfl)).met, fun x hx => by
   have : laid3.filter (fun x => x.2.handleName?.isSome) = [] := by kernel_rfl
   rw [this] at hx; cases hx⟩

end Go.Proofs.YtcknbmdkefcinaaGreatDoor

/-! PrintTurn -/

namespace Go.Proofs.YtcknbmdkefcinaaGreatDoor.printTurn
open Go.ChangeShapes Go.WideShapes Go.ChangeAt Go.RowKit Go.Abs

theorem walk (w : World) (hL : LaidW w) (x : Pg) (hr : x.rng) (v : Value) (hv : RD (memM w) S0 (.agg (encPg x)) v) : Calls Tryz.prog 3 #[v] w fun e w' => e = .returned (.bool true) ∧ Kept w w' := by
 refine law_run (args := [.agg (encPg x)]) ((printTurn_s hr S0).mono fun _ _ h => h.1) rfl ?_ hL
 intro i d v h1 h2
 match i, h1, h2 with
 | 0, h1, h2 => simp at h1 h2; subst h1 h2; exact hv

set_option maxRecDepth 100000 in
theorem lifted (os : Os) (started : os.Started) (H : Type) (enc : TypeId × Value → H) :
   ReturnsInHanded {} Tryz.checked os 3 .any (fun w args => (Rows.printTurnSpec.pre enc Tryz.prog Tryz.f3 Rows.printTurnRow.domain false w args ∧ laidMetH Tryz.prog laid3 w) ∧ sizedMet enc Tryz.prog Tryz.f3 (OpenSpec.ofChange Rows.printTurnSpec) false w args)
     (Rows.printTurnSpec.post enc Tryz.prog Tryz.f3 false true false false) := by
 refine returnsInHanded_of_change_and (C := Tryz.checked) (X := fun w _ => laidMetH Tryz.prog laid3 w) (fun _ _ _ hh h => h.of_heap hh) own started (by kernel_rfl) Tryz.func3
   (ChangeSpec.witness_at (enc := enc) (C := Tryz.checked) (os := os) (X := fun w _ => laidMetH Tryz.prog laid3 w) false (laidWorld os) #[.agg #[.slice none 0 0, .slice none 0 0]] 8 rfl (by kernel_rfl) (by kernel_rfl) (by kernel_rfl) (by kernel_rfl) (by kernel_rfl) (laid_met os _)) ?_
 intro W base args ds gs before hval0 hW hcnd _ hL _
 have hval : ∀ (j : Nat) t v, Tryz.f3.params[j]? = some t → args[j]? = some v → Value.okWide Tryz.prog W .any base t v := hval0
 have hW' := hW
 obtain ⟨p, q, hA0, hV, rfl, hfz, hnd⟩ := hW
 have hA : DataW.TrodAll enc Tryz.prog W 0 (fun _ => true) true Tryz.f3.params.toList args.toList ds p := hA0
 rw [Tryz.params3] at hA hval
 obtain ⟨v0, d0, rfl, rfl, hd0⟩ := trodAll_one hA
 obtain ⟨rfl, rfl⟩ := trodVars_none hV
 have hgo : ∃ x : Pg, RD (memM W) S0 (.agg (encPg x)) v0 ∧ x.rng := by
   obtain ⟨fuel, hf⟩ := hd0
   obtain ⟨y, h1, h2⟩ := rdp_pg hf
   obtain ⟨fs, hfs⟩ := structOf_some (P := Tryz.prog) (t := 25) (l := [(22, 0), (23, 1)]) (by kernel_rfl) (by simp)
   obtain ⟨cs, e, _⟩ := okWide_struct hfs (hval 0 25 _ rfl rfl)
   exact ⟨y, h1.agg ⟨cs, e⟩, h2⟩
 obtain ⟨x, hv, hr⟩ := hgo
 refine (walk W (laidW_of hL) x hr v0 hv).mono fun e W' ⟨he, hg⟩ => ?_
 subst he
 exact ⟨_, rfl, law_post kids full (by rw [Tryz.params3]; decide) Tryz.underlying4 (by kernel_rfl) rfl hW' rfl hg⟩

theorem over : Rows.PrintTurnSaid :=
 OpenClaim.holds_of_wide 3 Tryz.f3 rfl rfl rfl rfl rfl rfl rfl ⟨rfl, rfl, rfl, rfl, rfl⟩ rfl rfl rfl rfl rfl (by kernel_rfl) Tryz.func3 (by kernel_rfl)
   (of_decide_eq_true (by kernel_rfl)) (by unfold Func.isWrapper; first | (rw [if_pos (by decide +kernel)]; kernel_rfl) | (rw [if_neg (by decide +kernel)]; exact ⟨rfl, rfl⟩))
   (fun os started H enc _ => lifted os started H enc)

theorem proved : Rows.PrintTurnCardSaid :=
 Claim7.holds_tied_plain_at .later [] [.data, .data, .data] true (true, "976d7d070ccae62888779f1ab03d585f794fc104ccaf5782f0a2e51da894295d") false
   over (fun _ h => by cases h) (by kernel_rfl) (fun _ h => by cases h) printTurn_row_tie rfl ⟨rfl, rfl⟩ (by kernel_rfl) rfl
   (fun f fn hf hfn => by
     obtain rfl : f = 3 := Option.some.inj ((show Tryz.prog.funcNamed "whittler/whittlerlaw5.PrintTurn" = some 3 by kernel_rfl).symm.trans hf) |>.symm
     obtain rfl : fn = Tryz.f3 := (Option.some.inj (Tryz.func3.symm.trans hfn)).symm
     exact ⟨by kernel_rfl, fun j t ht => by
       rw [Tryz.params3] at ht
       have h3 : t = 25 := by
         rcases j with _ | j
         · simpa using ht.symm
         · simp at ht
       subst h3
       exact (show Tryz.prog.wantsStandIn 25 = false by kernel_rfl)⟩)
   (by kernel_rfl)
#print axioms proved
end Go.Proofs.YtcknbmdkefcinaaGreatDoor.printTurn
