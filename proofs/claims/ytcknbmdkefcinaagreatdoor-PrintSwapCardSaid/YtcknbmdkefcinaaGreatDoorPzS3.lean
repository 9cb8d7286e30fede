/-
  What is proved here: part 3 of the road to the claim (Prs6, Lex3, Tree1, Tree2, MirParse, Prs7, Room1, Binds1, Full3, Rng, RefMay2, RefMay3, RefMay4, MayFine, Full4, Shelf, Prim, Prim2, TMay1, TMay2, TMay3, TMay4, MayEq, Pr1, Binds2, Lx, Lx2, Tot, Tot2, Tot3, BindsL, BindsL2, Full5, Full6, Full7, Pe1, Pe2, Bld).
  No conditions.
-/
import Derived.Test.YtcknbmdkefcinaaGreatDoorPzS2
import Derived.Shelf.Strings.Builder1
import Derived.Shelf.Strings.Builder2
import Derived.Shelf.Strings.OnBuilder
import Derived.Shelf.Strings.BuilderF
import Derived.Shelf.Strings.BuilderK
import Derived.Shelf.Strings.Builder2Cap
import Derived.Shelf.Strconv.Itoa0
import Derived.Shelf.Strconv.Itoa1
import Derived.Shelf.LaysM
import Derived.Shelf.Strconv.Itoa2
import Derived.Shelf.Strconv.Itoa3
import Derived.Shelf.Strconv.Itoa4
import Derived.Shelf.Strings.BuilderCap
import Derived.Ground.Names2Prog
import Derived.Shelf.Slices.Clone
import Derived.Ground.SlgnProg
import Derived.Shelf.SlicesE.Clone
import Derived.Test.YtcknbmdkefcinaaGreatDoorProg
import Derived.Lib.ItoaMem

set_option linter.unusedSimpArgs false
set_option linter.unusedVariables false

/-! Prs6 -/

namespace Go.Abs

set_option maxRecDepth 8000
open Go.Proofs

theorem proc_vars {m : Nat} {B : Base} {Q : Exit → Tm → St → Prop} {row : List D} {name : Str} {p : Pc × Rd} (hB : B.s = ⟨[row], []⟩) (hQ : retF 1 0 [(2, some (true, 5))] (.agg (encPc p.1)) ⟨[encRd p.2], []⟩ = Q)
   (ps : List Pm) (r : Rd) (h : Rd.procB m name ps r = some p) :
   SemL Tryz.prog B 56 Q1A5 (inBlockQ 2 (thenQ (wpC Tryz.prog B 56 Q1AB Q) Q)) [(0, .ptr 0 0), (2, .ptr 1 0), (3, .ptr 2 0)]
     ⟨[encRd r, [.str [], .slice .full 0 [], .slice .full 0 [], .slice .full 0 [], .slice .full 0 []], [.str name, .slice .shared 2 (ps.map encPm), .slice .full 0 [], .slice .full 0 [], .slice .full 0 []]], []⟩ := by
 have ⟨hH, hJ, hY, hZ⟩ := H4_
 unfold Rd.procB at h
 rw [Option.bind_eq_some_iff] at h
 obtain ⟨q, h, hr⟩ := h
 refine SemL.tokO 2 2 1 rfl rfl ?_
 simp only [go_sem, hH, hJ, hY, hZ]
 refine rL_ 3 1 (SemL.ind (ι := Nat × List Str × Rd × Nat) (fun i => Rd.vars m i.1 i.2.1 i.2.2.1 = some q ∧ i.2.2.2 = i.2.1.length) (fun i => i.1)
   (fun i => [(0, .ptr 0 0), (2, .ptr 1 0), (3, .ptr 2 0)]) (fun i => ⟨[encRd i.2.2.1, [.str [], .slice .full 0 [], .slice .full 0 [], .slice .full 0 [], .slice .full 0 []], [.str name, .slice .shared 2 (ps.map encPm), .slice (.tok 0) 1 (i.2.1.map encStr), .slice .full 0 [], .slice .full 0 []]], [some i.2.2.2]⟩) ?_ (m, [], r, 0) ⟨h, rfl⟩)
 rintro ⟨n, l, r, k⟩ ⟨h, hk⟩ IH
 dsimp only at hk; subst hk
 cases n with
 | zero => simp only [Rd.vars] at h; cases h
 | succ n =>
   simp only [Rd.vars] at h
   repeat' (first
 | simp only [go_sem, hH, hJ, hY, hZ]
 | (rw [Option.bind_eq_some_iff] at h; obtain ⟨_, h1, h⟩ := h; first | (with_reducible refine CU (take_s h1 (by with_unfolding_all rfl)) ?_) | (with_reducible refine CU (names_s h1 (by with_unfolding_all rfl) (by with_unfolding_all rfl)) ?_) | (with_reducible refine CU (rows_s h1 (by with_unfolding_all rfl)) ?_))
 | (with_reducible first | refine kT_ fun hc => ?_ | refine kF_ fun hc => ?_ | refine kS_ (fun hc => ?_) fun hc => ?_) <;> (try simp only [hc, bs, ↓reduceIte] at h) <;> try simp only [hc]
 | (with_reducible refine lA_ hQ ?_; exact lY_)
 | (cases h; replace h := hr; clear hr; (try simp only [bs, ↓reduceIte] at h))
 | (cases h; done))
   refine rL_ 3 1 (IH (n, _, _, _) ⟨h, rfl⟩ (Nat.lt_succ_self _))

theorem proc_s {m : Nat} {r : Rd} {p : Pc × Rd} (h : Rd.proc m r = some p) {s : St} {o : Nat} (ho : s.objs[o]? = some (encRd r)) :
   Fun Tryz.prog n_parse_reader_proc [.ptr o 0] s (.agg (encPc p.1)) ⟨s.objs.set o (encRd p.2), s.toks⟩ := by
 refine Fun.meth ?_ rfl (okRd r) (okRd p.2) (by simp [D.ok, okPc]) ho
 unfold Rd.proc Rd.other at h
 refine Fun.go has_parse_reader_proc rfl fun B Q hB hQ => ?_
 have ⟨hH, hJ, hY, hZ⟩ := H4_
 repeat' (first
 | simp only [go_sem, hH, hJ, hY, hZ]
 | (rw [Option.bind_eq_some_iff] at h; obtain ⟨_, h1, h⟩ := h; first | (with_reducible refine CU (want_s h1 (by with_unfolding_all rfl)) ?_) | (with_reducible refine CU (is_s h1 (by with_unfolding_all rfl)) ?_) | (with_reducible refine CU (name_s h1 (by with_unfolding_all rfl)) ?_))
 | (with_reducible refine CU (good_s (by with_unfolding_all rfl)) ?_)
 | (with_reducible first | refine kT_ fun hc => ?_ | refine kF_ fun hc => ?_ | refine kS_ (fun hc => ?_) fun hc => ?_) <;> (try simp only [hc, bs, ↓reduceIte] at h) <;> try simp only [hc]
 | (with_reducible refine lA_ hQ ?_; exact lY_)
 | (cases h; replace h := hr; clear hr; (try simp only [bs, ↓reduceIte] at h))
 | (cases h; done))
 · refine rL_ 3 0 (proc_vars hB hQ [] _ h)
 · rename_i nm _ _ _ _ _
   rw [Option.bind_eq_some_iff] at h
   obtain ⟨q, h, hr⟩ := h
   refine SemL.tokO 2 1 2 rfl rfl ?_
   simp only [go_sem, hH, hJ, hY, hZ]
   refine rL_ 3 1 (SemL.ind (ι := Nat × List Pm × Rd × Nat) (fun i => Rd.params i.1 i.2.1 i.2.2.1 = some q ∧ i.2.2.2 = i.2.1.length) (fun i => i.1)
     (fun i => [(0, .ptr 0 0), (2, .ptr 1 0), (3, .ptr 2 0)]) (fun i => ⟨[encRd i.2.2.1, [.str [], .slice .full 0 [], .slice .full 0 [], .slice .full 0 [], .slice .full 0 []], [.str nm.1, .slice (.tok 0) 2 (i.2.1.map encPm), .slice .full 0 [], .slice .full 0 [], .slice .full 0 []]], [some i.2.2.2]⟩) ?_ (m, [], _, 0) ⟨h, rfl⟩)
   rintro ⟨n, l, r, k⟩ ⟨h, hk⟩ IH
   dsimp only at hk; subst hk
   cases n with
   | zero => simp only [Rd.params] at h; cases h
   | succ n =>
     simp only [Rd.params] at h
     repeat' (first
 | simp only [go_sem, hH, hJ, hY, hZ]
 | (rw [Option.bind_eq_some_iff] at h; obtain ⟨_, h1, h⟩ := h; first | (with_reducible refine CU (take_s h1 (by with_unfolding_all rfl)) ?_) | (with_reducible refine CU (name_s h1 (by with_unfolding_all rfl)) ?_) | (obtain ⟨hY, hpush⟩ := push_some h1; subst hpush; simp only [go_sem, hH, hJ, hY, hZ]) | (with_reducible refine CU (want_s h1 (by with_unfolding_all rfl)) ?_))
 | (with_reducible refine CU (good_s (by with_unfolding_all rfl)) ?_)
 | (with_reducible first | refine kT_ fun hc => ?_ | refine kF_ fun hc => ?_ | refine kS_ (fun hc => ?_) fun hc => ?_) <;> (try simp only [hc, bs, ↓reduceIte] at h) <;> try simp only [hc]
 | (with_reducible refine lA_ hQ ?_; exact lY_)
 | (cases h; replace h := hr; clear hr; (try simp only [bs, ↓reduceIte] at h))
 | (cases h; done))
     · refine rL_ 3 1 (IH (n, _, _, l.length + 1) ⟨h, by simp⟩ (Nat.lt_succ_self _))
     · refine rL_ 3 0 (proc_vars hB hQ _ _ h)
     · refine rL_ 3 0 (proc_vars hB hQ _ _ h)
 · refine rL_ 3 0 (proc_vars hB hQ [] _ h)

theorem program_tail {m : Nat} {B : Base} {Q : Exit → Tm → St → Prop} {row : List D} {g : List Str} {p : Pg × Rd} (hB : B.s = ⟨[row], []⟩) (hQ : retF 1 0 [(2, some (true, 2))] (.agg (encPg p.1)) ⟨[encRd p.2], []⟩ = Q)
   (r : Rd) {k : Nat} (h : ((Rd.procs m k [] r).bind fun q => some (⟨g, q.1⟩, q.2)) = some p) :
   SemL Tryz.prog B 49 QUA (inBlockQ 2 (thenQ (wpC Tryz.prog B 49 QUJ Q) Q)) [(0, .ptr 0 0), (2, .ptr 1 0), (3, .ptr 2 0)]
     ⟨[encRd r, [.slice .full 0 [], .slice .full 0 []], [.slice .shared 1 (g.map encStr), .slice .full 0 []]], []⟩ := by
 have ⟨hH, hJ, hY, hZ⟩ := H4_
 rw [Option.bind_eq_some_iff] at h
 obtain ⟨q, h, hr⟩ := h
 cases hr
 refine SemL.tokO 2 1 5 rfl rfl ?_
 simp only [go_sem, hH, hJ, hY, hZ]
 refine rL_ 3 1 (SemL.ind (ι := Nat × List Pc × Rd × Nat) (fun i => Rd.procs m i.1 i.2.1 i.2.2.1 = some q ∧ i.2.2.2 = i.2.1.length) (fun i => i.1)
   (fun i => [(0, .ptr 0 0), (2, .ptr 1 0), (3, .ptr 2 0)]) (fun i => ⟨[encRd i.2.2.1, [.slice .full 0 [], .slice .full 0 []], [.slice .shared 1 (g.map encStr), .slice (.tok 0) 5 (i.2.1.map encPc)]], [some i.2.2.2]⟩) ?_ (k, [], r, 0) ⟨h, rfl⟩)
 rintro ⟨n, l, r, k⟩ ⟨h, hk⟩ IH
 dsimp only at hk; subst hk
 cases n with
 | zero => simp only [Rd.procs] at h; cases h
 | succ n =>
   simp only [Rd.procs, Rd.isProc, Rd.notEnd] at h
   repeat' (first
 | simp only [go_sem, hH, hJ, hY, hZ]
 | (rw [Option.bind_eq_some_iff] at h; obtain ⟨_, h1, h⟩ := h; first | (with_reducible refine CU (is_s h1 (by with_unfolding_all rfl)) ?_; have hH := is_lt h1) | (with_reducible refine CU (bad_s h1 (by with_unfolding_all rfl)) ?_) | (with_reducible refine CU (proc_s h1 (by with_unfolding_all rfl)) ?_) | (obtain ⟨hY, hpush⟩ := push_some h1; subst hpush; simp only [go_sem, hH, hJ, hY, hZ]) | (with_reducible refine CU (peek_s h1 (by with_unfolding_all rfl)) ?_))
 | (with_reducible refine CU (good_s (by with_unfolding_all rfl)) ?_)
 | (with_reducible first | refine kT_ fun hc => ?_ | refine kF_ fun hc => ?_ | refine kS_ (fun hc => ?_) fun hc => ?_) <;> (try simp only [hc, bs, ↓reduceIte] at h) <;> try simp only [hc]
 | (with_reducible refine lA_ hQ ?_; exact lY_)
 | (cases h; replace h := hr; clear hr; (try simp only [bs, ↓reduceIte] at h))
 | (cases h; done))
   · refine rL_ 3 1 (IH (n, _, _, l.length + 1) ⟨h, by simp⟩ (Nat.lt_succ_self _))

end Go.Abs

/-! Lex3 -/

namespace Go.Abs

set_option maxRecDepth 8000
open Go.Proofs

theorem runD_pos {c : UInt8} {r : Str} (h : isD c = true) : 0 < runD (c :: r) := by simp [runD, h]

theorem lex_digits {text : Str} (hl : text.length ≤ 100000) {B : Base} {Q : Exit → Tm → St → Prop} {p : List Tok × Int × Int} (hB : B.s = S0)
   (hQ : retF 0 0 [(2, none), (3, some (true, 2))] (.tuple [.slice .shared 4 (p.1.map encTok), .agg (encF p.2)]) ⟨[], []⟩ = Q)
   {n pos : Nat} {out : List Tok} (ho : out.length ≤ 2000) (hp : pos ≤ text.length) (IH : LexGo text B Q p (n + 1))
   {c : UInt8} {r : Str} (h1 : text.drop pos = c :: r) (hb : isB c = false) (hc : ((c.toNat : Int) == 35) = false) (hL : isL c = false) (hD : isD c = true) (hn : (c :: r).length < n + 1) (h : lexF (n + 1) pos (c :: r) out = p) :
   wpC Tryz.prog B 152 Q8N (jumpA Tryz.prog B 152 Q8S Q) (lexTM text out pos) (lexST out) := by
 have hY : 0 < 1 := Nat.zero_lt_one
 have hZ : 0 < 1 := Nat.zero_lt_one
 have hJ := (drop_cons h1).1
 have g4 := (drop_cons h1).2.2.2
 have hH : pos < 4611686018427387904 := by omega
 have hge : decide ((pos : Int) ≥ (text.length : Int)) = false := by simp; omega
 have hroom : (out.length + 1) * 41 ≤ maxStr := by simp only [maxStr]; omega
 have hk2 := runD_len (c :: r)
 have hk1 := runD_pos (r := r) hD
 have hk3 : (c :: r).length = text.length - pos := by rw [← h1, List.length_drop]
 have hall := runD_all (c :: r)
 simp only [lexF, hb, Bool.false_eq_true, ↓reduceIte, hc, tokE, hL, hD] at h
 simp only [isB, Bool.or_eq_false_iff] at hb
 generalize hK : runD (c :: r) = k at h hk2 hk1 hall
 have hlen : ((c :: r).take k).length = k := by rw [List.length_take]; omega
 have hnum := fun s => number_s hall (by rw [hlen]; omega) s
 simp only [hlen] at h
 have hfirst : ((c :: r).take k)[0]? = some c := by rw [List.getElem?_take_of_lt hk1]; rfl
 have e2 : (0 : Int) ≤ (pos : Int) ∧ (pos : Int) ≤ ((pos + k : Nat) : Int) ∧ ((pos + k : Nat) : Int) ≤ (text.length : Int) := by omega
 have e3 : (text.take (pos + k)).drop pos = (c :: r).take k := by rw [slice_at, h1]
 have fin : text.drop (pos + k) = (c :: r).drop k := by rw [← h1, List.drop_drop]
 have hlen2 : ((c :: r).drop k).length < n := by rw [List.length_drop]; omega
 have hgo : pos + k ≤ text.length := by omega
 repeat' (first
 | simp only [go_sem, hH, hJ, hY, hZ, hge, hb.1.1.1, hb.1.1.2, hb.1.2, hb.2, hc, hL, hD]
 | (with_reducible refine CU (letter_s _ _) ?_)
 | (with_reducible refine CU (digit_s _ _) ?_)
 | (with_reducible refine jumpA_go (l := 3) (by with_unfolding_all rfl) ?_)
 | (with_reducible first | refine kT_ fun hc => ?_ | refine kF_ fun hc => ?_ | refine kS_ (fun hc => ?_) fun hc => ?_) <;> (try simp only [hc, bs, ↓reduceIte] at h) <;> try simp only [hc]
 | (with_reducible refine lA_ hQ ?_; (try cases h); simp only [resL, oneD, sI_, eL_, go_sem, hH, hJ, hY, hZ, hge, hb.1.1.1, hb.1.1.2, hb.1.2, hb.2, hc, hL, hD]; try exact lE_)
 | (cases h; done))
 refine rL_ 2 1 (SemL.ind (ι := Str × Nat) (fun i => text.drop i.2 = i.1 ∧ i.2 + runD i.1 = pos + k) (fun i => i.1.length)
   (fun i => lexTM text out i.2) (fun i => ⟨[[.int .i64 0, .int .i64 0], [.int .i64 0, .str [], .int .i64 0, .int .i64 (pos : Int)]], [some out.length]⟩) ?_ (c :: r, pos) ⟨h1, by dsimp only; omega⟩)
 rintro ⟨rest, j⟩ ⟨j1, j2⟩ IHl
 dsimp only at j1 j2
 have step : ∀ d rest', rest = d :: rest' → isD d = true → wpC Tryz.prog B 152 Q79 (thenQ (SemL Tryz.prog B 152 Q79
     (inBlockQ 3 (thenQ (wpC Tryz.prog B 152 Q82 (jumpA Tryz.prog B 152 Q8S Q)) (jumpA Tryz.prog B 152 Q8S Q))))
     (inBlockQ 3 (thenQ (wpC Tryz.prog B 152 Q82 (jumpA Tryz.prog B 152 Q8S Q)) (jumpA Tryz.prog B 152 Q8S Q))))
     (lexTM text out j) ⟨[[.int .i64 0, .int .i64 0], [.int .i64 0, .str [], .int .i64 0, .int .i64 (pos : Int)]], [some out.length]⟩ := by
   rintro d rest' rfl hd
   obtain ⟨hJ, g2, hge, g5⟩ := drop_cons j1
   have hH : j < 4611686018427387904 := by omega
   simp only [runD, hd, ↓reduceIte] at j2
   repeat' (first
 | simp only [go_sem, hH, hJ, hY, hZ, hge, hd]
 | (with_reducible refine CU (digit_s _ _) ?_)
 | (with_reducible first | refine kT_ fun hc => ?_ | refine kF_ fun hc => ?_ | refine kS_ (fun hc => ?_) fun hc => ?_) <;> (try simp only [hc, bs, ↓reduceIte] at h) <;> try simp only [hc]
 | (with_reducible refine lA_ hQ ?_; (try cases h); simp only [resL, oneD, sI_, eL_, go_sem, hH, hJ, hY, hZ, hge, hd]; try exact lE_)
 | (cases h; done))
   refine rL_ 2 1 (IHl (rest', j + 1) ⟨g2, by dsimp only; omega⟩ (Nat.lt_succ_self _))
 cases rest with
 | nil =>
   have hge := drop_nil j1
   simp only [runD, Nat.add_zero] at j2
   subst j2
   by_cases hz : k > 1 ∧ (c.toNat : Int) = 48
   · have z1 : decide ((k : Int) > 1) = true := by simp; omega
     have z2 : ((c.toNat : Int) == 48) = true := by simp [hz.2]
     rw [if_pos hz] at h
     dsimp only at h
     repeat' (first
 | simp only [go_sem, hH, hJ, hY, hZ, hge, e2, e3, hlen, hfirst, z1, z2]
 | (with_reducible refine jumpA_go (l := 4) (by with_unfolding_all rfl) ?_)
 | (with_reducible refine jumpA_go (l := 5) (by with_unfolding_all rfl) ?_)
 | (with_reducible first | refine kT_ fun hc => ?_ | refine kF_ fun hc => ?_ | refine kS_ (fun hc => ?_) fun hc => ?_) <;> (try simp only [hc, bs, ↓reduceIte] at h) <;> try simp only [hc]
 | (with_reducible refine lA_ hQ ?_; (try cases h); simp only [resL, oneD, sI_, eL_, go_sem, hH, hJ, hY, hZ, hge, e2, e3, hlen, hfirst, z1, z2]; try exact lE_)
 | (cases h; done))
   · have hz' : decide ((k : Int) > 1) = false ∨ (decide ((k : Int) > 1) = true ∧ ((c.toNat : Int) == 48) = false) := by
       by_cases h1 : k > 1
       · right; exact ⟨by simp; omega, by simp; intro h2; exact hz ⟨h1, h2⟩⟩
       · left; simp; omega
     rw [if_neg hz] at h
     cases hw : worth 0 ((c :: r).take k) with
     | none =>
       have hwp : worthP ((c :: r).take k) = (0, false) := by simp only [worthP, hw]
       simp only [hwp] at hnum
       simp only [hw] at h
       rcases hz' with z1 | ⟨z1, z2⟩
       · repeat' (first
 | simp only [go_sem, hH, hJ, hY, hZ, hge, e2, e3, hlen, hfirst, z1]
 | (with_reducible refine CU (hnum _) ?_)
 | (with_reducible refine jumpA_go (l := 4) (by with_unfolding_all rfl) ?_)
 | (with_reducible refine jumpA_go (l := 5) (by with_unfolding_all rfl) ?_)
 | (with_reducible first | refine kT_ fun hc => ?_ | refine kF_ fun hc => ?_ | refine kS_ (fun hc => ?_) fun hc => ?_) <;> (try simp only [hc, bs, ↓reduceIte] at h) <;> try simp only [hc]
 | (with_reducible refine lA_ hQ ?_; (try cases h); simp only [resL, oneD, sI_, eL_, go_sem, hH, hJ, hY, hZ, hge, e2, e3, hlen, hfirst, z1]; try exact lE_)
 | (cases h; done))
       · repeat' (first
 | simp only [go_sem, hH, hJ, hY, hZ, hge, e2, e3, hlen, hfirst, z1, z2]
 | (with_reducible refine CU (hnum _) ?_)
 | (with_reducible refine jumpA_go (l := 4) (by with_unfolding_all rfl) ?_)
 | (with_reducible refine jumpA_go (l := 5) (by with_unfolding_all rfl) ?_)
 | (with_reducible first | refine kT_ fun hc => ?_ | refine kF_ fun hc => ?_ | refine kS_ (fun hc => ?_) fun hc => ?_) <;> (try simp only [hc, bs, ↓reduceIte] at h) <;> try simp only [hc]
 | (with_reducible refine lA_ hQ ?_; (try cases h); simp only [resL, oneD, sI_, eL_, go_sem, hH, hJ, hY, hZ, hge, e2, e3, hlen, hfirst, z1, z2]; try exact lE_)
 | (cases h; done))
     | some v =>
       have hwp : worthP ((c :: r).take k) = (v, true) := by simp only [worthP, hw]
       simp only [hwp] at hnum
       simp only [hw, hlen] at h
       by_cases ho2 : out.length = 2000
       · have ho3 : ((out.length : Int) == 2000) = true := by simp [ho2]
         simp only [ho2, ↓reduceIte] at h
         rcases hz' with z1 | ⟨z1, z2⟩
         · repeat' (first
 | simp only [go_sem, hH, hJ, hY, hZ, hge, e2, e3, hlen, hfirst, z1, ho3]
 | (with_reducible refine CU (hnum _) ?_)
 | (with_reducible refine jumpA_go (l := 4) (by with_unfolding_all rfl) ?_)
 | (with_reducible refine jumpA_go (l := 5) (by with_unfolding_all rfl) ?_)
 | (with_reducible first | refine kT_ fun hc => ?_ | refine kF_ fun hc => ?_ | refine kS_ (fun hc => ?_) fun hc => ?_) <;> (try simp only [hc, bs, ↓reduceIte] at h) <;> try simp only [hc]
 | (with_reducible refine lA_ hQ ?_; (try cases h); simp only [resL, oneD, sI_, eL_, go_sem, hH, hJ, hY, hZ, hge, e2, e3, hlen, hfirst, z1, ho3]; try exact lE_)
 | (cases h; done))
         · repeat' (first
 | simp only [go_sem, hH, hJ, hY, hZ, hge, e2, e3, hlen, hfirst, z1, z2, ho3]
 | (with_reducible refine CU (hnum _) ?_)
 | (with_reducible refine jumpA_go (l := 4) (by with_unfolding_all rfl) ?_)
 | (with_reducible refine jumpA_go (l := 5) (by with_unfolding_all rfl) ?_)
 | (with_reducible first | refine kT_ fun hc => ?_ | refine kF_ fun hc => ?_ | refine kS_ (fun hc => ?_) fun hc => ?_) <;> (try simp only [hc, bs, ↓reduceIte] at h) <;> try simp only [hc]
 | (with_reducible refine lA_ hQ ?_; (try cases h); simp only [resL, oneD, sI_, eL_, go_sem, hH, hJ, hY, hZ, hge, e2, e3, hlen, hfirst, z1, z2, ho3]; try exact lE_)
 | (cases h; done))
       · have ho3 : ((out.length : Int) == 2000) = false := by simp; omega
         have ho4 : ∀ t : Tok, (out ++ [t]).length ≤ 2000 := by intro t; simp; omega
         simp only [ho2, ↓reduceIte] at h
         rcases hz' with z1 | ⟨z1, z2⟩
         · repeat' (first
 | simp only [go_sem, hH, hJ, hY, hZ, hge, e2, e3, hlen, hfirst, z1, ho3, hroom]
 | (with_reducible refine CU (hnum _) ?_)
 | (with_reducible refine jumpA_go (l := 4) (by with_unfolding_all rfl) ?_)
 | (with_reducible refine jumpA_go (l := 5) (by with_unfolding_all rfl) ?_)
 | (refine IH.to hB fin h hlen2 (ho4 _) hgo (Nat.lt_succ_self _) ?_ ?_ ?_ <;> ((try simp only [go_sem, hH, hJ, hY, hZ]); repeat' (first | exact Ok.out | with_reducible refine aI_ ?_ ?_ | omega | (simp; done))); done)
 | (with_reducible first | refine kT_ fun hc => ?_ | refine kF_ fun hc => ?_ | refine kS_ (fun hc => ?_) fun hc => ?_) <;> (try simp only [hc, bs, ↓reduceIte] at h) <;> try simp only [hc]
 | (with_reducible refine lA_ hQ ?_; (try cases h); simp only [resL, oneD, sI_, eL_, go_sem, hH, hJ, hY, hZ, hge, e2, e3, hlen, hfirst, z1, ho3, hroom]; try exact lE_)
 | (cases h; done))
         · repeat' (first
 | simp only [go_sem, hH, hJ, hY, hZ, hge, e2, e3, hlen, hfirst, z1, z2, ho3, hroom]
 | (with_reducible refine CU (hnum _) ?_)
 | (with_reducible refine jumpA_go (l := 4) (by with_unfolding_all rfl) ?_)
 | (with_reducible refine jumpA_go (l := 5) (by with_unfolding_all rfl) ?_)
 | (refine IH.to hB fin h hlen2 (ho4 _) hgo (Nat.lt_succ_self _) ?_ ?_ ?_ <;> ((try simp only [go_sem, hH, hJ, hY, hZ]); repeat' (first | exact Ok.out | with_reducible refine aI_ ?_ ?_ | omega | (simp; done))); done)
 | (with_reducible first | refine kT_ fun hc => ?_ | refine kF_ fun hc => ?_ | refine kS_ (fun hc => ?_) fun hc => ?_) <;> (try simp only [hc, bs, ↓reduceIte] at h) <;> try simp only [hc]
 | (with_reducible refine lA_ hQ ?_; (try cases h); simp only [resL, oneD, sI_, eL_, go_sem, hH, hJ, hY, hZ, hge, e2, e3, hlen, hfirst, z1, z2, ho3, hroom]; try exact lE_)
 | (cases h; done))
 | cons d rest =>
   obtain ⟨hJ, g2, hge, g5⟩ := drop_cons j1
   have hH : j < 4611686018427387904 := by omega
   cases hd : isD d
   · simp only [runD, hd, Bool.false_eq_true, ↓reduceIte, Nat.add_zero] at j2
     subst j2
     by_cases hz : k > 1 ∧ (c.toNat : Int) = 48
     · have z1 : decide ((k : Int) > 1) = true := by simp; omega
       have z2 : ((c.toNat : Int) == 48) = true := by simp [hz.2]
       rw [if_pos hz] at h
       dsimp only at h
       repeat' (first
 | simp only [go_sem, hH, hJ, hY, hZ, hge, hd, e2, e3, hlen, hfirst, z1, z2]
 | (with_reducible refine CU (digit_s _ _) ?_)
 | (with_reducible refine jumpA_go (l := 4) (by with_unfolding_all rfl) ?_)
 | (with_reducible refine jumpA_go (l := 5) (by with_unfolding_all rfl) ?_)
 | (with_reducible first | refine kT_ fun hc => ?_ | refine kF_ fun hc => ?_ | refine kS_ (fun hc => ?_) fun hc => ?_) <;> (try simp only [hc, bs, ↓reduceIte] at h) <;> try simp only [hc]
 | (with_reducible refine lA_ hQ ?_; (try cases h); simp only [resL, oneD, sI_, eL_, go_sem, hH, hJ, hY, hZ, hge, hd, e2, e3, hlen, hfirst, z1, z2]; try exact lE_)
 | (cases h; done))
     · have hz' : decide ((k : Int) > 1) = false ∨ (decide ((k : Int) > 1) = true ∧ ((c.toNat : Int) == 48) = false) := by
         by_cases h1 : k > 1
         · right; exact ⟨by simp; omega, by simp; intro h2; exact hz ⟨h1, h2⟩⟩
         · left; simp; omega
       rw [if_neg hz] at h
       cases hw : worth 0 ((c :: r).take k) with
       | none =>
         have hwp : worthP ((c :: r).take k) = (0, false) := by simp only [worthP, hw]
         simp only [hwp] at hnum
         simp only [hw] at h
         rcases hz' with z1 | ⟨z1, z2⟩
         · repeat' (first
 | simp only [go_sem, hH, hJ, hY, hZ, hge, hd, e2, e3, hlen, hfirst, z1]
 | (with_reducible refine CU (digit_s _ _) ?_)
 | (with_reducible refine CU (hnum _) ?_)
 | (with_reducible refine jumpA_go (l := 4) (by with_unfolding_all rfl) ?_)
 | (with_reducible refine jumpA_go (l := 5) (by with_unfolding_all rfl) ?_)
 | (with_reducible first | refine kT_ fun hc => ?_ | refine kF_ fun hc => ?_ | refine kS_ (fun hc => ?_) fun hc => ?_) <;> (try simp only [hc, bs, ↓reduceIte] at h) <;> try simp only [hc]
 | (with_reducible refine lA_ hQ ?_; (try cases h); simp only [resL, oneD, sI_, eL_, go_sem, hH, hJ, hY, hZ, hge, hd, e2, e3, hlen, hfirst, z1]; try exact lE_)
 | (cases h; done))
         · repeat' (first
 | simp only [go_sem, hH, hJ, hY, hZ, hge, hd, e2, e3, hlen, hfirst, z1, z2]
 | (with_reducible refine CU (digit_s _ _) ?_)
 | (with_reducible refine CU (hnum _) ?_)
 | (with_reducible refine jumpA_go (l := 4) (by with_unfolding_all rfl) ?_)
 | (with_reducible refine jumpA_go (l := 5) (by with_unfolding_all rfl) ?_)
 | (with_reducible first | refine kT_ fun hc => ?_ | refine kF_ fun hc => ?_ | refine kS_ (fun hc => ?_) fun hc => ?_) <;> (try simp only [hc, bs, ↓reduceIte] at h) <;> try simp only [hc]
 | (with_reducible refine lA_ hQ ?_; (try cases h); simp only [resL, oneD, sI_, eL_, go_sem, hH, hJ, hY, hZ, hge, hd, e2, e3, hlen, hfirst, z1, z2]; try exact lE_)
 | (cases h; done))
       | some v =>
         have hwp : worthP ((c :: r).take k) = (v, true) := by simp only [worthP, hw]
         simp only [hwp] at hnum
         simp only [hw, hlen] at h
         by_cases ho2 : out.length = 2000
         · have ho3 : ((out.length : Int) == 2000) = true := by simp [ho2]
           simp only [ho2, ↓reduceIte] at h
           rcases hz' with z1 | ⟨z1, z2⟩
           · repeat' (first
 | simp only [go_sem, hH, hJ, hY, hZ, hge, hd, e2, e3, hlen, hfirst, z1, ho3]
 | (with_reducible refine CU (digit_s _ _) ?_)
 | (with_reducible refine CU (hnum _) ?_)
 | (with_reducible refine jumpA_go (l := 4) (by with_unfolding_all rfl) ?_)
 | (with_reducible refine jumpA_go (l := 5) (by with_unfolding_all rfl) ?_)
 | (with_reducible first | refine kT_ fun hc => ?_ | refine kF_ fun hc => ?_ | refine kS_ (fun hc => ?_) fun hc => ?_) <;> (try simp only [hc, bs, ↓reduceIte] at h) <;> try simp only [hc]
 | (with_reducible refine lA_ hQ ?_; (try cases h); simp only [resL, oneD, sI_, eL_, go_sem, hH, hJ, hY, hZ, hge, hd, e2, e3, hlen, hfirst, z1, ho3]; try exact lE_)
 | (cases h; done))
           · repeat' (first
 | simp only [go_sem, hH, hJ, hY, hZ, hge, hd, e2, e3, hlen, hfirst, z1, z2, ho3]
 | (with_reducible refine CU (digit_s _ _) ?_)
 | (with_reducible refine CU (hnum _) ?_)
 | (with_reducible refine jumpA_go (l := 4) (by with_unfolding_all rfl) ?_)
 | (with_reducible refine jumpA_go (l := 5) (by with_unfolding_all rfl) ?_)
 | (with_reducible first | refine kT_ fun hc => ?_ | refine kF_ fun hc => ?_ | refine kS_ (fun hc => ?_) fun hc => ?_) <;> (try simp only [hc, bs, ↓reduceIte] at h) <;> try simp only [hc]
 | (with_reducible refine lA_ hQ ?_; (try cases h); simp only [resL, oneD, sI_, eL_, go_sem, hH, hJ, hY, hZ, hge, hd, e2, e3, hlen, hfirst, z1, z2, ho3]; try exact lE_)
 | (cases h; done))
         · have ho3 : ((out.length : Int) == 2000) = false := by simp; omega
           have ho4 : ∀ t : Tok, (out ++ [t]).length ≤ 2000 := by intro t; simp; omega
           simp only [ho2, ↓reduceIte] at h
           rcases hz' with z1 | ⟨z1, z2⟩
           · repeat' (first
 | simp only [go_sem, hH, hJ, hY, hZ, hge, hd, e2, e3, hlen, hfirst, z1, ho3, hroom]
 | (with_reducible refine CU (digit_s _ _) ?_)
 | (with_reducible refine CU (hnum _) ?_)
 | (with_reducible refine jumpA_go (l := 4) (by with_unfolding_all rfl) ?_)
 | (with_reducible refine jumpA_go (l := 5) (by with_unfolding_all rfl) ?_)
 | (refine IH.to hB fin h hlen2 (ho4 _) hgo (Nat.lt_succ_self _) ?_ ?_ ?_ <;> ((try simp only [go_sem, hH, hJ, hY, hZ]); repeat' (first | exact Ok.out | with_reducible refine aI_ ?_ ?_ | omega | (simp; done))); done)
 | (with_reducible first | refine kT_ fun hc => ?_ | refine kF_ fun hc => ?_ | refine kS_ (fun hc => ?_) fun hc => ?_) <;> (try simp only [hc, bs, ↓reduceIte] at h) <;> try simp only [hc]
 | (with_reducible refine lA_ hQ ?_; (try cases h); simp only [resL, oneD, sI_, eL_, go_sem, hH, hJ, hY, hZ, hge, hd, e2, e3, hlen, hfirst, z1, ho3, hroom]; try exact lE_)
 | (cases h; done))
           · repeat' (first
 | simp only [go_sem, hH, hJ, hY, hZ, hge, hd, e2, e3, hlen, hfirst, z1, z2, ho3, hroom]
 | (with_reducible refine CU (digit_s _ _) ?_)
 | (with_reducible refine CU (hnum _) ?_)
 | (with_reducible refine jumpA_go (l := 4) (by with_unfolding_all rfl) ?_)
 | (with_reducible refine jumpA_go (l := 5) (by with_unfolding_all rfl) ?_)
 | (refine IH.to hB fin h hlen2 (ho4 _) hgo (Nat.lt_succ_self _) ?_ ?_ ?_ <;> ((try simp only [go_sem, hH, hJ, hY, hZ]); repeat' (first | exact Ok.out | with_reducible refine aI_ ?_ ?_ | omega | (simp; done))); done)
 | (with_reducible first | refine kT_ fun hc => ?_ | refine kF_ fun hc => ?_ | refine kS_ (fun hc => ?_) fun hc => ?_) <;> (try simp only [hc, bs, ↓reduceIte] at h) <;> try simp only [hc]
 | (with_reducible refine lA_ hQ ?_; (try cases h); simp only [resL, oneD, sI_, eL_, go_sem, hH, hJ, hY, hZ, hge, hd, e2, e3, hlen, hfirst, z1, z2, ho3, hroom]; try exact lE_)
 | (cases h; done))
   · exact step d rest rfl hd


theorem lex_all {text : Str} (hl : text.length ≤ 100000) {B : Base} {Q : Exit → Tm → St → Prop} {p : List Tok × Int × Int} (hB : B.s = S0)
   (hQ : retF 0 0 [(2, none), (3, some (true, 2))] (.tuple [.slice .shared 4 (p.1.map encTok), .agg (encF p.2)]) ⟨[], []⟩ = Q)
   {n pos : Nat} {out : List Tok} (ho : out.length ≤ 2000) (hp : pos ≤ text.length) (IH : LexGo text B Q p (n + 1)) {rest : Str} (h1 : text.drop pos = rest) (h : lexF (n + 1) pos rest out = p) (hn : rest.length < n + 1) :
   wpC Tryz.prog B 152 Q8N (jumpA Tryz.prog B 152 Q8S Q) (lexTM text out pos) (lexST out) := by
 cases rest with
 | nil => exact lex_nil hl hB hQ ho hp IH h1 h
 | cons c r =>
   cases hb : isB c
   · cases hc : ((c.toNat : Int) == 35)
     · cases hL : isL c
       · cases hD : isD c
         · exact lex_sign hl hB hQ ho hp IH h1 hb hc hL hD hn h
         · exact lex_digits hl hB hQ ho hp IH h1 hb hc hL hD hn h
       · exact lex_name hl hB hQ ho hp IH h1 hb hc hL hn h
     · exact lex_remark hl hB hQ ho hp IH h1 hb hc hn h
   · exact lex_blank hl hB hQ ho hp IH h1 hb hn h

theorem lex_go {text : Str} (hl : text.length ≤ 100000) {B : Base} {Q : Exit → Tm → St → Prop} {p : List Tok × Int × Int} (hB : B.s = S0)
   (hQ : retF 0 0 [(2, none), (3, some (true, 2))] (.tuple [.slice .shared 4 (p.1.map encTok), .agg (encF p.2)]) ⟨[], []⟩ = Q) : ∀ N, LexGo text B Q p N := by
 intro N
 induction N with
 | zero => intro n pos rest out _ _ _ _ _ h; exact absurd h (Nat.not_lt_zero _)
 | succ N ih =>
   intro n pos rest out h1 h h2 h3 h4 h5
   cases n with
   | zero => omega
   | succ n =>
     refine SemS.onceW ?_
     show wpC Tryz.prog B 152 Q8N (jumpA Tryz.prog B 152 Q8S Q) (lexTM text out pos) (lexST out)
     exact lex_all hl hB hQ h3 h4 (fun n' pos' rest' out' a b c d e f => ih n' pos' rest' out' a b c d e (by omega)) h1 h h2

theorem all_s (text : Str) (hl : text.length < 4611686018427387904) (s : St) :
   Fun Tryz.prog n_lex_All [.str text] s (.tuple [.slice .shared 4 ((lexAll text).1.map encTok), .agg (encF (lexAll text).2)]) s := by
 refine Fun.pure ?_ rfl (by simp [D.ok, D.oks, okrTok, Tag.ok, encF]) s
 generalize h : lexAll text = p
 unfold lexAll at h
 unfold S0
 refine Fun.go has_lex_All rfl fun B Q hB hQ => ?_
 have ⟨hH, hJ, hY, hZ⟩ := H4_
 repeat' (first
 | simp only [go_sem, hH, hJ, hY, hZ]
 | (with_reducible first | refine kT_ fun hc => ?_ | refine kF_ fun hc => ?_ | refine kS_ (fun hc => ?_) fun hc => ?_) <;> (try simp only [hc, bs, ↓reduceIte] at h) <;> try simp only [hc]
 | (with_reducible refine lA_ hQ ?_; exact lY_)
 | (cases h; done))
 refine SemS.once (Sem.seqW ?_)
 simp only [go_sem, hH, hJ, hY, hZ]
 refine Sem.seqW ?_
 simp only [go_sem, hH, hJ, hY, hZ]
 refine Sem.seqW ?_
 simp only [go_sem, hH, hJ, hY, hZ]
 refine Sem.seqW ?_
 by_cases hz : text.length > 100000
 · have hgt : decide ((text.length : Int) > 100000) = true := by simp; omega
   rw [if_pos hz] at h
   repeat' (first
 | simp only [go_sem, hH, hJ, hY, hZ, hgt]
 | (with_reducible first | refine kT_ fun hc => ?_ | refine kF_ fun hc => ?_ | refine kS_ (fun hc => ?_) fun hc => ?_) <;> (try simp only [hc, bs, ↓reduceIte] at h) <;> try simp only [hc]
 | (with_reducible refine lA_ hQ ?_; (try cases h); simp only [resL, oneD, sI_, eL_, go_sem, hH, hJ, hY, hZ, hgt]; try exact lE_)
 | (cases h; done))
 · have hgt : decide ((text.length : Int) > 100000) = false := by simp; omega
   rw [if_neg hz] at h
   have hl' : text.length ≤ 100000 := by omega
   have hQ' : retF 0 0 [(2, none), (3, some (true, 2))] (.tuple [.slice .shared 4 (p.1.map encTok), .agg (encF p.2)]) ⟨[], []⟩ = Q := hQ
   repeat' (first
 | simp only [go_sem, hH, hJ, hY, hZ, hgt]
 | (with_reducible first | refine kT_ fun hc => ?_ | refine kF_ fun hc => ?_ | refine kS_ (fun hc => ?_) fun hc => ?_) <;> (try simp only [hc, bs, ↓reduceIte] at h) <;> try simp only [hc]
 | (with_reducible refine lA_ hQ ?_; (try cases h); simp only [resL, oneD, sI_, eL_, go_sem, hH, hJ, hY, hZ, hgt]; try exact lE_)
 | (cases h; done))
   refine Sem.seqW ?_
   simp only [go_sem, hH, hJ, hY, hZ]
   refine Sem.tokT 4 4 rfl ?_
   simp only [go_sem, hH, hJ, hY, hZ]
   refine Sem.re _ _ 2 1 (by rw [hB]; exact lB_ rfl) (by rw [hB]; exact lB_ rfl) ?_ ?_ (wpC_sound (lex_all hl' hB hQ' (out := []) (pos := 0) (by simp) (Nat.zero_le _) (lex_go hl' hB hQ' _) rfl h (by simp)))
   · (simp only [go_sem, hH, hJ, hY, hZ]; repeat' (first | exact Ok.out | with_reducible refine aI_ ?_ ?_))
   · (simp only [go_sem, hH, hJ, hY, hZ]; repeat' (first | exact Ok.out | with_reducible refine aI_ ?_ ?_))

end Go.Abs

/-! Tree1 -/

namespace Go.Abs

set_option maxRecDepth 8000
open Go.Proofs

theorem app_emptyN {size bytes z : Nat} {g : Tag} {rows : List (List D)} {s : St} (h : rows.length * (bytes + 1) ≤ maxStr) (hr : rows ≠ []) :
   appD size bytes (.slice .full z []) (.slice g size rows) s = some (.slice (.tok s.toks.length) size rows, ⟨s.objs, s.toks ++ [some rows.length]⟩) := by
 cases rows with
 | nil => exact absurd rfl hr
 | cons r l => simp only [appD]; simp at h ⊢; exact h

theorem clone_str {l : List Str} (hl : l.length < 1073741824) (g : Tag) (s : St) : Fun Tryz.prog n_slices_Clone_string [.slice g 1 (l.map encStr)] s (.slice .shared 1 (l.map encStr)) s := by
 refine ACalls.weak (.cons (Wk.shared _ _ _) .nil) (Fun.pure ?_ (by simp [D.oks, D.ok, Tag.ok, okrStr]) (by simp [D.ok, Tag.ok, okrStr]) s)
 unfold S0
 refine Fun.go has_slices_Clone_string rfl fun B Q hB hQ => ?_
 have ⟨hH, hJ, hY, hZ⟩ := H4_
 cases l with
 | nil =>
   repeat' (first
 | simp only [go_sem, hH, hJ, hY, hZ]
 | (with_reducible first | refine kT_ fun hc => ?_ | refine kF_ fun hc => ?_ | refine kS_ (fun hc => ?_) fun hc => ?_) <;> (try simp only [hc, bs, ↓reduceIte] at h) <;> try simp only [hc]
 | (with_reducible refine lA_ hQ ?_; exact lY_)
 | (cases h; done))
   refine NJ_split (fun _ => ?_) ?_
   · repeat' (first
 | simp only [go_sem, hH, hJ, hY, hZ, appD, true_or, Nat.zero_le]
 | (with_reducible first | refine kT_ fun hc => ?_ | refine kF_ fun hc => ?_ | refine kS_ (fun hc => ?_) fun hc => ?_) <;> (try simp only [hc, bs, ↓reduceIte] at h) <;> try simp only [hc]
 | (with_reducible refine lA_ hQ ?_; (try cases h); simp only [resL, oneD, sI_, eL_, go_sem, hH, hJ, hY, hZ, appD, true_or, Nat.zero_le]; try exact lE_)
 | (cases h; done))
   · repeat' (first
 | simp only [go_sem, hH, hJ, hY, hZ, appD, true_or, Nat.zero_le]
 | (with_reducible first | refine kT_ fun hc => ?_ | refine kF_ fun hc => ?_ | refine kS_ (fun hc => ?_) fun hc => ?_) <;> (try simp only [hc, bs, ↓reduceIte] at h) <;> try simp only [hc]
 | (with_reducible refine lA_ hQ ?_; (try cases h); simp only [resL, oneD, sI_, eL_, go_sem, hH, hJ, hY, hZ, appD, true_or, Nat.zero_le]; try exact lE_)
 | (cases h; done))
 | cons x l =>
   have e : ((x :: l).map encStr).length * (16 + 1) ≤ maxStr := by simp only [List.length_map, maxStr]; omega
   have e2 := fun s => app_emptyN (size := 1) (z := 1) (g := .shared) (s := s) e (by simp)
   simp only [List.map_cons, encStr] at e2
   repeat' (first
 | simp only [go_sem, hH, hJ, hY, hZ, e2]
 | (with_reducible first | refine kT_ fun hc => ?_ | refine kF_ fun hc => ?_ | refine kS_ (fun hc => ?_) fun hc => ?_) <;> (try simp only [hc, bs, ↓reduceIte] at h) <;> try simp only [hc]
 | (with_reducible refine lA_ hQ ?_; (try cases h); simp only [resL, oneD, sI_, eL_, go_sem, hH, hJ, hY, hZ, e2]; try exact lE_)
 | (cases h; done))

theorem clone_pm {l : List Pm} (hl : l.length < 1073741824) (g : Tag) (s : St) : Fun Tryz.prog n_slices_Clone_api_Param [.slice g 2 (l.map encPm)] s (.slice .shared 2 (l.map encPm)) s := by
 refine ACalls.weak (.cons (Wk.shared _ _ _) .nil) (Fun.pure ?_ (by simp [D.oks, D.ok, Tag.ok, okrPm]) (by simp [D.ok, Tag.ok, okrPm]) s)
 unfold S0
 refine Fun.go has_slices_Clone_api_Param rfl fun B Q hB hQ => ?_
 have ⟨hH, hJ, hY, hZ⟩ := H4_
 cases l with
 | nil =>
   repeat' (first
 | simp only [go_sem, hH, hJ, hY, hZ]
 | (with_reducible first | refine kT_ fun hc => ?_ | refine kF_ fun hc => ?_ | refine kS_ (fun hc => ?_) fun hc => ?_) <;> (try simp only [hc, bs, ↓reduceIte] at h) <;> try simp only [hc]
 | (with_reducible refine lA_ hQ ?_; exact lY_)
 | (cases h; done))
   refine NJ_split (fun _ => ?_) ?_
   · repeat' (first
 | simp only [go_sem, hH, hJ, hY, hZ, appD, true_or, Nat.zero_le]
 | (with_reducible first | refine kT_ fun hc => ?_ | refine kF_ fun hc => ?_ | refine kS_ (fun hc => ?_) fun hc => ?_) <;> (try simp only [hc, bs, ↓reduceIte] at h) <;> try simp only [hc]
 | (with_reducible refine lA_ hQ ?_; (try cases h); simp only [resL, oneD, sI_, eL_, go_sem, hH, hJ, hY, hZ, appD, true_or, Nat.zero_le]; try exact lE_)
 | (cases h; done))
   · repeat' (first
 | simp only [go_sem, hH, hJ, hY, hZ, appD, true_or, Nat.zero_le]
 | (with_reducible first | refine kT_ fun hc => ?_ | refine kF_ fun hc => ?_ | refine kS_ (fun hc => ?_) fun hc => ?_) <;> (try simp only [hc, bs, ↓reduceIte] at h) <;> try simp only [hc]
 | (with_reducible refine lA_ hQ ?_; (try cases h); simp only [resL, oneD, sI_, eL_, go_sem, hH, hJ, hY, hZ, appD, true_or, Nat.zero_le]; try exact lE_)
 | (cases h; done))
 | cons x l =>
   have e : ((x :: l).map encPm).length * (24 + 1) ≤ maxStr := by simp only [List.length_map, maxStr]; omega
   have e2 := fun s => app_emptyN (size := 2) (z := 2) (g := .shared) (s := s) e (by simp)
   simp only [List.map_cons, encStr] at e2
   repeat' (first
 | simp only [go_sem, hH, hJ, hY, hZ, e2]
 | (with_reducible first | refine kT_ fun hc => ?_ | refine kF_ fun hc => ?_ | refine kS_ (fun hc => ?_) fun hc => ?_) <;> (try simp only [hc, bs, ↓reduceIte] at h) <;> try simp only [hc]
 | (with_reducible refine lA_ hQ ?_; (try cases h); simp only [resL, oneD, sI_, eL_, go_sem, hH, hJ, hY, hZ, e2]; try exact lE_)
 | (cases h; done))


theorem expr_n : ∀ n, n < 1073741824 → ∀ x : Ex, x.size ≤ n → Fun Tryz.prog n_tree_expr [.agg (encEx x)] S0 (.agg (encEx x)) S0 := by
 intro n
 induction n with
 | zero => rintro _ ⟨op, m, name, kids⟩ h; simp only [Ex.size] at h; omega
 | succ n ihn =>
 rintro hn ⟨op, m, name, kids⟩ hx
 have hk : ∀ y ∈ kids, ∀ s, Fun Tryz.prog n_tree_expr [.agg (encEx y)] s (.agg (encEx y)) s := fun y hy s =>
   (ihn (by omega) y (by simp only [Ex.size] at hx; have := Ex.sizes_mem hy; omega)).pure (by simp [D.oks, D.ok, okEx]) (by simp [D.ok, okEx]) s
 have hlen : kids.length < 1073741824 := by simp only [Ex.size] at hx; have := Ex.sizes_len kids; omega
 unfold S0
 refine Fun.go has_tree_expr rfl fun B Q hB hQ => ?_
 have ⟨hH, hJ, hY, hZ⟩ := H4_
 repeat' (first
 | simp only [go_sem, hH, hJ, hY, hZ]
 | (with_reducible first | refine kT_ fun hc => ?_ | refine kF_ fun hc => ?_ | refine kS_ (fun hc => ?_) fun hc => ?_) <;> (try simp only [hc, bs, ↓reduceIte] at h) <;> try simp only [hc]
 | (with_reducible refine lA_ hQ ?_; exact lY_)
 | (cases h; done))
 refine SemL.tokO 0 3 4 rfl rfl ?_
 simp only [go_sem, hH, hJ, hY, hZ]
 refine rL_ 2 1 (SemL.ind (ι := List Ex × Nat × List Ex) (fun i => kids.drop i.2.1 = i.1 ∧ i.2.1 = i.2.2.length ∧ i.2.2 ++ i.1 = kids) (fun i => i.1.length)
   (fun i => [(1, .ptr 0 0), (2, .ptr 1 0), (9, .slice .shared 4 (kids.map encEx)), (10, .int .i64 (kids.length : Int)), (11, .int .i64 (i.2.1 : Int))])
   (fun i => ⟨[[.int .i64 op, .int .i64 m, .str name, .slice (.tok 0) 4 (i.2.2.map encEx)], encEx ex0], [some i.2.1]⟩) ?_ (kids, 0, []) ⟨rfl, rfl, rfl⟩)
 rintro ⟨rest, k, acc⟩ ⟨h1, h2, h3⟩ IH
 dsimp only at h1 h2 h3
 subst h2
 cases rest with
 | nil =>
   have hH := drop_nil h1
   rw [List.append_nil] at h3
   subst h3
   repeat' (first
 | simp only [go_sem, hH, hJ, hY, hZ]
 | (with_reducible first | refine kT_ fun hc => ?_ | refine kF_ fun hc => ?_ | refine kS_ (fun hc => ?_) fun hc => ?_) <;> (try simp only [hc, bs, ↓reduceIte] at h) <;> try simp only [hc]
 | (with_reducible refine lA_ hQ ?_; exact lY_)
 | (cases h; done))
 | cons y rest =>
   obtain ⟨hJ, g2, hH, g4⟩ := drop_cons h1
   have hY : acc.length < 4611686018427387904 := by omega
   have hroom : (acc.length + 1) * 57 ≤ maxStr := by simp only [maxStr]; omega
   have hy := hk y (List.mem_of_getElem? hJ)
   repeat' (first
 | simp only [go_sem, hH, hJ, hY, hZ, hroom]
 | (with_reducible refine CU (hy _) ?_)
 | (with_reducible first | refine kT_ fun hc => ?_ | refine kF_ fun hc => ?_ | refine kS_ (fun hc => ?_) fun hc => ?_) <;> (try simp only [hc, bs, ↓reduceIte] at h) <;> try simp only [hc]
 | (with_reducible refine lA_ hQ ?_; (try cases h); simp only [resL, oneD, sI_, eL_, go_sem, hH, hJ, hY, hZ, hroom]; try exact lE_)
 | (cases h; done))
   refine rL_ 2 1 (IH (rest, acc.length + 1, acc ++ [y]) ⟨g2, by simp, by simp only [List.append_assoc, List.cons_append, List.nil_append]; exact h3⟩ (Nat.lt_succ_self _))

theorem expr_s {x : Ex} (h : x.size < 1073741824) (s : St) : Fun Tryz.prog n_tree_expr [.agg (encEx x)] s (.agg (encEx x)) s :=
 (expr_n x.size h x (Nat.le_refl _)).pure (by simp [D.oks, D.ok, okEx]) (by simp [D.ok, okEx]) s

end Go.Abs

/-! Tree2 -/

namespace Go.Abs

set_option maxRecDepth 8000
open Go.Proofs

abbrev C_cop (b : Bool) (N : Nat) : Prop := ∀ l : List Sm, Sm.sizes l < N → ∀ n : Nat, n + Sm.sizes l < 1073741824 → ∀ s : St,
 Fun Tryz.prog n_tree_copied [.slice .shared 13 (l.map encSm), .int .i64 (n : Int), .bool b] s (.tuple [.slice .shared 13 ((Sm.nums b n l).1.map encSm), .int .i64 ((Sm.nums b n l).2 : Int)]) s

theorem cop_true {N : Nat} (ih : C_cop true N) (l : List Sm) (hl : Sm.sizes l < N + 1) (n : Nat) (hn : n + Sm.sizes l < 1073741824) :
 Fun Tryz.prog n_tree_copied [.slice .shared 13 (l.map encSm), .int .i64 (n : Int), .bool true] S0 (.tuple [.slice .shared 13 ((Sm.nums true n l).1.map encSm), .int .i64 ((Sm.nums true n l).2 : Int)]) S0 := by
 unfold S0
 refine Fun.go has_tree_copied rfl fun B Q hB hQ => ?_
 have ⟨hH, hJ, hY, hZ⟩ := H4_
 repeat' (first
 | simp only [go_sem, hH, hJ, hY, hZ]
 | (with_reducible first | refine kT_ fun hc => ?_ | refine kF_ fun hc => ?_ | refine kS_ (fun hc => ?_) fun hc => ?_) <;> (try simp only [hc, bs, ↓reduceIte] at h) <;> try simp only [hc]
 | (with_reducible refine lA_ hQ ?_; exact lY_)
 | (cases h; done))
 have hlen : l.length < 1073741824 := by have := Sm.sizes_len l; omega
 refine SemL.tokT 8 13 rfl ?_
 simp only [go_sem, hH, hJ, hY, hZ]
 refine rL_ 0 1 (SemL.ind (ι := List Sm × Nat × List Sm × Nat) (fun i => l.drop i.2.1 = i.1 ∧ i.2.1 = i.2.2.1.length ∧ Sm.nums true n l = (i.2.2.1 ++ (Sm.nums true i.2.2.2 i.1).1, (Sm.nums true i.2.2.2 i.1).2) ∧ i.2.2.2 + Sm.sizes i.1 ≤ n + Sm.sizes l) (fun i => i.1.length)
   (fun i => [(1, .int .i64 (i.2.2.2 : Int)), (2, .bool true), (8, .slice (.tok 0) 13 (i.2.2.1.map encSm)), (14, .slice .shared 13 (l.map encSm)), (15, .int .i64 (l.length : Int)), (16, .int .i64 (i.2.1 : Int))])
   (fun i => ⟨[], [some i.2.1]⟩) ?_ (l, 0, [], n) ⟨rfl, rfl, rfl, Nat.le_refl _⟩)
 rintro ⟨rest, k, acc, m⟩ ⟨h1, h2, h3, h4⟩ IH
 dsimp only at h1 h2 h3 h4
 subst h2
 cases rest with
 | nil =>
   have hH := drop_nil h1
   simp only [Sm.nums, List.append_nil] at h3
   rw [h3] at hQ
   repeat' (first
 | simp only [go_sem, hH, hJ, hY, hZ]
 | (with_reducible first | refine kT_ fun hc => ?_ | refine kF_ fun hc => ?_ | refine kS_ (fun hc => ?_) fun hc => ?_) <;> (try simp only [hc, bs, ↓reduceIte] at h) <;> try simp only [hc]
 | (with_reducible refine lA_ hQ ?_; exact lY_)
 | (cases h; done))
 | cons y rest =>
   obtain ⟨hJ, g2, hH, g4⟩ := drop_cons h1
   simp only [Sm.sizes] at h4 hl
   have hm : m < 4611686018427387904 := by omega
   have hk : acc.length < 4611686018427387904 := by omega
   have hsz : y.size ≤ N := by have := Sm.sizes_mem (List.mem_of_getElem? hJ); omega
   obtain ⟨id, kind, labels, name, proc, x, has, args, thn, els⟩ := y
   simp only [Sm.size] at hsz h4
   have hroom : (acc.length + 1) * 209 ≤ maxStr := by simp only [maxStr]; omega
   have hx := fun s => expr_s (x := x) (by omega) s
   simp only [encEx_eq] at hx
   have hcl := fun g s => clone_str (l := labels) (by omega) g s
   have hal := Ar.sizes_len args
   repeat' (first
 | simp only [go_sem, hH, hJ, hY, hZ, wrap_inc hm]
 | (with_reducible refine CU (hcl _ _) ?_)
 | (with_reducible refine CU (hx _) ?_)
 | (with_reducible first | refine kT_ fun hc => ?_ | refine kF_ fun hc => ?_ | refine kS_ (fun hc => ?_) fun hc => ?_) <;> (try simp only [hc, bs, ↓reduceIte] at h) <;> try simp only [hc]
 | (with_reducible refine lA_ hQ ?_; (try cases h); simp only [resL, oneD, sI_, eL_, go_sem, hH, hJ, hY, hZ, wrap_inc hm]; try exact lE_)
 | (cases h; done))
   refine SemL.tokO 1 10 6 rfl rfl ?_
   simp only [go_sem, hH, hJ, hY, hZ]
   refine rL_ 2 2 (SemL.ind (ι := List Ar × Nat × List Ar) (fun i => args.drop i.2.1 = i.1 ∧ i.2.1 = i.2.2.length ∧ i.2.2 ++ i.1 = args) (fun i => i.1.length)
     (fun i => [(1, .int .i64 ((m + 1 : Nat) : Int)), (2, .bool true), (8, .slice (.tok 0) 13 (acc.map encSm)), (10, .ptr 0 0), (11, .ptr 1 0), (14, .slice .shared 13 (l.map encSm)), (15, .int .i64 (l.length : Int)), (16, .int .i64 (acc.length : Int)),
       (36, .slice .shared 6 (args.map encAr)), (37, .int .i64 (args.length : Int)), (38, .int .i64 (i.2.1 : Int))])
     (fun i => ⟨[encSm ⟨id, kind, labels, name, proc, x, has, args, thn, els⟩, [.int .i64 ((m + 1 : Nat) : Int), .int .i64 kind, .slice .shared 1 (labels.map encStr), .str name, .str proc, .int .i64 x.op, .int .i64 x.n, .str x.name, .slice .shared 4 (x.kids.map encEx), .bool has, .slice (.tok 1) 6 (i.2.2.map encAr), .slice .shared 13 (thn.map encSm), .slice .shared 13 (els.map encSm)]], [some acc.length, some i.2.1]⟩) ?_ (args, 0, []) ⟨rfl, rfl, rfl⟩)
   rintro ⟨resta, ka, acca⟩ ⟨j1, j2, j3⟩ IHa
   dsimp only at j1 j2 j3
   subst j2
   cases resta with
   | nil =>
     have hH := drop_nil j1
     rw [List.append_nil] at j3
     subst j3
     have b1 := Sm.nums_le true (m + 1) thn
     have b2 := Sm.nums_le true (Sm.nums true (m + 1) thn).2 els
     have c1 := ih thn (by omega) (m + 1) (by omega)
     have c2 := ih els (by omega) (Sm.nums true (m + 1) thn).2 (by omega)
     repeat' (first
 | simp only [go_sem, hH, hJ, hY, hZ, hroom]
 | (with_reducible refine CU (c1 _) ?_)
 | (with_reducible refine CU (c2 _) ?_)
 | (with_reducible first | refine kT_ fun hc => ?_ | refine kF_ fun hc => ?_ | refine kS_ (fun hc => ?_) fun hc => ?_) <;> (try simp only [hc, bs, ↓reduceIte] at h) <;> try simp only [hc]
 | (with_reducible refine lA_ hQ ?_; (try cases h); simp only [resL, oneD, sI_, eL_, go_sem, hH, hJ, hY, hZ, hroom]; try exact lE_)
 | (cases h; done))
     refine rl_ 0 1 ?_ ?_ (IH (rest, acc.length + 1, acc ++ [(Sm.num true m ⟨id, kind, labels, name, proc, x, has, acca, thn, els⟩).1], (Sm.num true m ⟨id, kind, labels, name, proc, x, has, acca, thn, els⟩).2) ⟨g2, by simp, by rw [h3]; simp [Sm.nums], by simp only [Sm.num]; omega⟩ (Nat.lt_succ_self _))
     · (simp only [go_sem, hH, hJ, hY, hZ, wrap_inc hk, Sm.num]; try exact lF_)
     · (simp only [go_sem, hH, hJ, hY, hZ, wrap_inc hk, Sm.num]; try exact lF_)
   | cons a resta =>
     obtain ⟨hJ, g2, hH, g4⟩ := drop_cons j1
     have ha : a.x.size < 1073741824 := by have := Ar.sizes_mem (List.mem_of_getElem? hJ); omega
     have hka : acca.length < 4611686018427387904 := by omega
     have hrooma : (acca.length + 1) * 81 ≤ maxStr := by simp only [maxStr]; omega
     have hxa := fun s => expr_s ha s
     simp only [encEx_eq] at hxa
     obtain ⟨aref, aname, ax⟩ := a
     repeat' (first
 | simp only [go_sem, hH, hJ, hY, hZ, hrooma]
 | (with_reducible refine CU (hxa _) ?_)
 | (with_reducible first | refine kT_ fun hc => ?_ | refine kF_ fun hc => ?_ | refine kS_ (fun hc => ?_) fun hc => ?_) <;> (try simp only [hc, bs, ↓reduceIte] at h) <;> try simp only [hc]
 | (with_reducible refine lA_ hQ ?_; (try cases h); simp only [resL, oneD, sI_, eL_, go_sem, hH, hJ, hY, hZ, hrooma]; try exact lE_)
 | (cases h; done))
     refine rl_ 2 2 ?_ ?_ (IHa (resta, acca.length + 1, acca ++ [⟨aref, aname, ax⟩]) ⟨g2, by simp, by simp only [List.append_assoc, List.cons_append, List.nil_append]; exact j3⟩ (Nat.lt_succ_self _))
     · (simp only [go_sem, hH, hJ, hY, hZ, wrap_inc hka]; try exact lF_)
     · (simp only [go_sem, hH, hJ, hY, hZ, wrap_inc hka]; try exact lF_)

theorem cop_all : ∀ N, C_cop true N := by
 intro N
 induction N with
 | zero => intro l hl; exact absurd hl (Nat.not_lt_zero _)
 | succ N ih =>
   intro l hl n hn s
   exact (cop_true ih l hl n hn).pure (by simp [D.oks, D.ok, Tag.ok, okrSm]) (by simp [D.oks, D.ok, Tag.ok, okrSm]) s

theorem cop_s {l : List Sm} {n : Nat} (h : n + Sm.sizes l < 1073741824) (s : St) :
   Fun Tryz.prog n_tree_copied [.slice .shared 13 (l.map encSm), .int .i64 (n : Int), .bool true] s (.tuple [.slice .shared 13 ((Sm.nums true n l).1.map encSm), .int .i64 ((Sm.nums true n l).2 : Int)]) s :=
 cop_all _ l (Nat.lt_succ_self _) n h s

theorem Number_0 {p : Pg} (hp : p.size < 1073741824) : Fun Tryz.prog n_tree_Number [.agg (encPg p)] S0 (.agg (encPg p.number)) S0 := by
 obtain ⟨globals, procs⟩ := p
 simp only [Pg.size] at hp
 have hlen : procs.length < 1073741824 := by have := Pc.sizes_len procs; omega
 have hcg := fun g s => clone_str (l := globals) (by omega) g s
 unfold S0
 refine Fun.go has_tree_Number rfl fun B Q hB hQ => ?_
 have ⟨hH, hJ, hY, hZ⟩ := H4_
 repeat' (first
 | simp only [go_sem, hH, hJ, hY, hZ]
 | (with_reducible refine CU (hcg _ _) ?_)
 | (with_reducible first | refine kT_ fun hc => ?_ | refine kF_ fun hc => ?_ | refine kS_ (fun hc => ?_) fun hc => ?_) <;> (try simp only [hc, bs, ↓reduceIte] at h) <;> try simp only [hc]
 | (with_reducible refine lA_ hQ ?_; exact lY_)
 | (cases h; done))
 refine SemL.tokO 2 1 5 rfl rfl ?_
 simp only [go_sem, hH, hJ, hY, hZ]
 refine rL_ 3 1 (SemL.ind (ι := List Pc × Nat × List Pc × Nat) (fun i => procs.drop i.2.1 = i.1 ∧ i.2.1 = i.2.2.1.length ∧ Pc.nums 0 procs = i.2.2.1 ++ Pc.nums i.2.2.2 i.1 ∧ i.2.2.2 + Pc.sizes i.1 ≤ Pc.sizes procs) (fun i => i.1.length)
   (fun i => [(2, .ptr 1 0), (3, .int .i64 (i.2.2.2 : Int)), (4, .ptr 2 0), (13, .slice .shared 5 (procs.map encPc)), (14, .int .i64 (procs.length : Int)), (15, .int .i64 (i.2.1 : Int))])
   (fun i => ⟨[encPg ⟨globals, procs⟩, encPg pg0, [.slice .shared 1 (globals.map encStr), .slice (.tok 0) 5 (i.2.2.1.map encPc)]], [some i.2.1]⟩) ?_ (procs, 0, [], 0) ⟨rfl, rfl, rfl, by dsimp only; omega⟩)
 rintro ⟨rest, k, acc, m⟩ ⟨h1, h2, h3, h4⟩ IH
 dsimp only at h1 h2 h3 h4
 subst h2
 cases rest with
 | nil =>
   have hH := drop_nil h1
   simp only [Pc.nums, List.append_nil] at h3
   subst h3
   repeat' (first
 | simp only [go_sem, hH, hJ, hY, hZ, Pg.number]
 | (with_reducible first | refine kT_ fun hc => ?_ | refine kF_ fun hc => ?_ | refine kS_ (fun hc => ?_) fun hc => ?_) <;> (try simp only [hc, bs, ↓reduceIte] at h) <;> try simp only [hc]
 | (with_reducible refine lA_ hQ ?_; (try cases h); simp only [resL, oneD, sI_, eL_, go_sem, hH, hJ, hY, hZ, Pg.number]; try exact lE_)
 | (cases h; done))
 | cons y rest =>
   obtain ⟨hJ, g2, hH, g4⟩ := drop_cons h1
   simp only [Pc.sizes] at h4
   have hsz := Pc.sizes_mem (List.mem_of_getElem? hJ)
   obtain ⟨name, params, vars, body, fin⟩ := y
   simp only [Pc.size] at hsz h4
   have hk : acc.length < 4611686018427387904 := by omega
   have hroom : (acc.length + 1) * 113 ≤ maxStr := by simp only [maxStr]; omega
   have c1 := fun g s => clone_pm (l := params) (by omega) g s
   have c2 := fun g s => clone_str (l := vars) (by omega) g s
   have c3 := fun g s => clone_str (l := fin) (by omega) g s
   have c4 := fun s => cop_s (l := body) (n := m) (by omega) s
   have b1 := Sm.nums_le true m body
   repeat' (first
 | simp only [go_sem, hH, hJ, hY, hZ, hroom]
 | (with_reducible refine CU (c1 _ _) ?_)
 | (with_reducible refine CU (c2 _ _) ?_)
 | (with_reducible refine CU (c3 _ _) ?_)
 | (with_reducible refine CU (c4 _) ?_)
 | (with_reducible first | refine kT_ fun hc => ?_ | refine kF_ fun hc => ?_ | refine kS_ (fun hc => ?_) fun hc => ?_) <;> (try simp only [hc, bs, ↓reduceIte] at h) <;> try simp only [hc]
 | (with_reducible refine lA_ hQ ?_; (try cases h); simp only [resL, oneD, sI_, eL_, go_sem, hH, hJ, hY, hZ, hroom]; try exact lE_)
 | (cases h; done))
   refine rl_ 3 1 ?_ ?_ (IH (rest, acc.length + 1, acc ++ [⟨name, params, vars, (Sm.nums true m body).1, fin⟩], (Sm.nums true m body).2) ⟨g2, by simp, by rw [h3]; simp [Pc.nums], by dsimp only; omega⟩ (Nat.lt_succ_self _))
   · (simp only [go_sem, hH, hJ, hY, hZ, wrap_inc hk]; try exact lF_)
   · (simp only [go_sem, hH, hJ, hY, hZ, wrap_inc hk]; try exact lF_)

theorem Number_s {p q : Pg} (h : p.numberO = some q) (s : St) : Fun Tryz.prog n_tree_Number [.agg (encPg p)] s (.agg (encPg q)) s := by
 unfold Pg.numberO at h
 split at h
 · cases h; exact (Number_0 ‹_›).pure (by simp [D.oks, D.ok, okPg]) (by simp [D.ok, okPg]) s
 · cases h

end Go.Abs

/-! MirParse -/

namespace Go.Abs

def rd0 (l : List Tok) : Rd := ⟨l, 0, 0, 0, 0⟩

def parseM (m : Nat) (text : Str) : Option (Pg × Int × Int) :=
 if (lexAll text).2.1 != 0 then some (pg0, (lexAll text).2)
 else (Rd.program m (rd0 (lexAll text).1)).bind fun p => if p.2.code != 0 then some (pg0, p.2.code, p.2.fat) else (p.1.numberO).bind fun q => some (q, 0, 0)

def exprM (m : Nat) (text : Str) : Option (Ex × Int × Int) :=
 if (lexAll text).2.1 != 0 then some (ex0, (lexAll text).2)
 else (Rd.whole m (rd0 (lexAll text).1)).bind fun x => x.2.notEnd.bind fun b =>
   if b then (x.2.bad 3).bind fun r => if !r.good then some (ex0, r.code, r.fat) else some (x.1, 0, 0)
   else if !x.2.good then some (ex0, x.2.code, x.2.fat) else some (x.1, 0, 0)

end Go.Abs

/-! Prs7 -/

namespace Go.Abs

set_option maxRecDepth 8000
open Go.Proofs

theorem program_s {m : Nat} {r : Rd} {p : Pg × Rd} (h : Rd.program m r = some p) {s : St} {o : Nat} (ho : s.objs[o]? = some (encRd r)) :
   Fun Tryz.prog n_parse_reader_program [.ptr o 0] s (.agg (encPg p.1)) ⟨s.objs.set o (encRd p.2), s.toks⟩ := by
 refine Fun.meth ?_ rfl (okRd r) (okRd p.2) (by simp [D.ok, okPg]) ho
 unfold Rd.program at h
 refine Fun.go has_parse_reader_program rfl fun B Q hB hQ => ?_
 have ⟨hH, hJ, hY, hZ⟩ := H4_
 repeat' (first
 | simp only [go_sem, hH, hJ, hY, hZ]
 | (with_reducible first | refine kT_ fun hc => ?_ | refine kF_ fun hc => ?_ | refine kS_ (fun hc => ?_) fun hc => ?_) <;> (try simp only [hc, bs, ↓reduceIte] at h) <;> try simp only [hc]
 | (with_reducible refine lA_ hQ ?_; exact lY_)
 | (cases h; replace h := hr; clear hr; (try simp only [bs, ↓reduceIte] at h))
 | (cases h; done))
 rw [Option.bind_eq_some_iff] at h
 obtain ⟨q, h, hr⟩ := h
 refine SemL.tokO 2 0 1 rfl rfl ?_
 simp only [go_sem, hH, hJ, hY, hZ]
 refine rL_ 3 1 (SemL.ind (ι := Nat × List Str × Rd × Nat) (fun i => Rd.globals m i.1 i.2.1 i.2.2.1 = some q ∧ i.2.2.2 = i.2.1.length) (fun i => i.1)
   (fun i => [(0, .ptr 0 0), (2, .ptr 1 0), (3, .ptr 2 0)]) (fun i => ⟨[encRd i.2.2.1, [.slice .full 0 [], .slice .full 0 []], [.slice (.tok 0) 1 (i.2.1.map encStr), .slice .full 0 []]], [some i.2.2.2]⟩) ?_ (m, [], r, 0) ⟨h, rfl⟩)
 rintro ⟨n, l, r, k⟩ ⟨h, hk⟩ IH
 dsimp only at hk; subst hk
 cases n with
 | zero => simp only [Rd.globals] at h; cases h
 | succ n =>
   simp only [Rd.globals] at h
   repeat' (first
 | simp only [go_sem, hH, hJ, hY, hZ]
 | (rw [Option.bind_eq_some_iff] at h; obtain ⟨_, h1, h⟩ := h; first | (with_reducible refine CU (take_s h1 (by with_unfolding_all rfl)) ?_) | (with_reducible refine CU (names_s h1 (by with_unfolding_all rfl) (by with_unfolding_all rfl)) ?_))
 | (with_reducible first | refine kT_ fun hc => ?_ | refine kF_ fun hc => ?_ | refine kS_ (fun hc => ?_) fun hc => ?_) <;> (try simp only [hc, bs, ↓reduceIte] at h) <;> try simp only [hc]
 | (with_reducible refine lA_ hQ ?_; exact lY_)
 | (cases h; replace h := hr; clear hr; (try simp only [bs, ↓reduceIte] at h))
 | (cases h; done))
   · refine rL_ 3 1 (IH (n, _, _, _) ⟨h, rfl⟩ (Nat.lt_succ_self _))
   · refine rL_ 3 0 (program_tail hB hQ _ h)

theorem Parse_s {m : Nat} {text : Str} {p : Pg × Int × Int} (h : parseM m text = some p) (hl : text.length < 4611686018427387904) (s : St) :
   Fun Tryz.prog n_parse_Parse [.str text] s (.tuple [.agg (encPg p.1), .agg (encF p.2)]) s := by
 refine Fun.pure ?_ rfl (by simp [D.ok, D.oks, okPg, encF]) s
 unfold parseM at h
 have hlex := all_s text hl
 generalize lexAll text = t at h hlex
 unfold S0
 refine Fun.go has_parse_Parse rfl fun B Q hB hQ => ?_
 have ⟨hH, hJ, hY, hZ⟩ := H4_
 repeat' (first
 | simp only [go_sem, hH, hJ, hY, hZ, rd0]
 | (rw [Option.bind_eq_some_iff] at h; obtain ⟨_, h1, h⟩ := h; first | (with_reducible refine CU (program_s h1 (by with_unfolding_all rfl)) ?_) | (with_reducible refine CU (Number_s h1 _) ?_))
 | (with_reducible refine CU (hlex _) ?_)
 | (with_reducible first | refine kT_ fun hc => ?_ | refine kF_ fun hc => ?_ | refine kS_ (fun hc => ?_) fun hc => ?_) <;> (try simp only [hc, bs, ↓reduceIte] at h) <;> try simp only [hc]
 | (with_reducible refine lA_ hQ ?_; (try cases h); simp only [resL, oneD, sI_, eL_, go_sem, hH, hJ, hY, hZ, rd0]; try exact lE_)
 | (cases h; done))

end Go.Abs

/-! Room1 -/

namespace Go.Abs
open Go.Proofs

def modM (n k : Int) : Int := if Int.tmod n k < 0 then Int.tmod n k + k else Int.tmod n k
def manyM (t : Str) : Nat → Str
 | 0 => []
 | n + 1 => manyM t n ++ t
def two (i : Nat) : Str := [UInt8.ofNat (48 + i / 10), UInt8.ofNat (48 + i % 10)]
def rowM (ahead : Str) : Nat → Str
 | 0 => []
 | n + 1 => (if n = 0 then rowM ahead n else rowM ahead n ++ [44]) ++ (ahead ++ [97] ++ two n)
def procsM : Nat → Str
 | 0 => []
 | n + 1 => procsM n ++ ([112, 114, 111, 99, 32, 112] ++ two n ++ [40, 41, 123, 125])

end Go.Abs

/-! Binds1 -/

namespace Go.Abs
open Go.Proofs

def encInt (n : Int) : List D := [.int .i64 n]
theorem okInt (n : Int) : D.oks 0 0 (encInt n) = true := rfl
theorem fgrInt (n m : Nat) (l : List Int) : D.fgr n m (l.map encInt) = l.map encInt := fgr_map okInt n m l
attribute [go_sem] encInt fgrInt
def signR (op : Int) : Str :=
 if op = 5 then [42] else if op = 6 then [47] else if op = 7 then [37] else if op = 8 then [43] else if op = 9 then [45] else if op = 10 then [60] else if op = 11 then [60, 61]
 else if op = 12 then [62] else if op = 13 then [62, 61] else if op = 14 then [61, 61] else if op = 15 then [33, 61] else if op = 16 then [38, 38] else [124, 124]
def bindB (op : Int) : Int := (bindsR (signR op)).1

theorem signs {op : Int} (h : (decide (5 ≤ op) && decide (op ≤ 17)) = true) : op = 5 ∨ op = 6 ∨ op = 7 ∨ op = 8 ∨ op = 9 ∨ op = 10 ∨ op = 11 ∨ op = 12 ∨ op = 13 ∨ op = 14 ∨ op = 15 ∨ op = 16 ∨ op = 17 := by
 simp only [Bool.and_eq_true, decide_eq_true_eq] at h; omega

theorem bindB_pos {op : Int} (h : (decide (5 ≤ op) && decide (op ≤ 17)) = true) : 1 ≤ bindB op ∧ bindB op ≤ 6 ∧ (bindsR (signR op)).2 = op := by
 rcases signs h with rfl | rfl | rfl | rfl | rfl | rfl | rfl | rfl | rfl | rfl | rfl | rfl | rfl <;> exact ⟨by decide, by decide, by decide⟩

def operandsM : Nat → List Str
 | 0 => []
 | n + 1 => operandsM n ++ [[UInt8.ofNat (97 + n)]]
end Go.Abs

/-! Full3 -/

namespace Go.Abs
open Go.Proofs

def digF : Nat → Nat → Str
 | 0, _ => []
 | f + 1, n => if n < 10 then [UInt8.ofNat (48 + n)] else digF f (n / 10) ++ [UInt8.ofNat (48 + n % 10)]
theorem digF_len : ∀ f n, (digF f n).length ≤ f
 | 0, n => Nat.le_refl _
 | f + 1, n => by simp only [digF]; split; simp; simp only [List.length_append, List.length_cons, List.length_nil]; have := digF_len f (n / 10); omega

end Go.Abs

/-! Rng -/

namespace Go.Abs

mutual
def Ex.rng : Ex → Prop
 | ⟨_, n, _, kids⟩ => n ≤ 9223372036854775807 ∧ Ex.rngs kids
def Ex.rngs : List Ex → Prop
 | [] => True
 | x :: l => x.rng ∧ Ex.rngs l
end

end Go.Abs

/-! RefMay2 -/

namespace Go.Abs

set_option maxRecDepth 8000
open Go.Proofs

structure Sm.Fine (s : Sm) : Prop where
 lab : ∀ t ∈ s.labels, t.length < 4611686018427387904
 labl : s.labels.length < 4611686018427387904
 name : s.name.length < 4611686018427387904
 proc : s.proc.length < 4611686018427387904
 x : s.x.size < 4611686018427387904
 xt : s.x.texts
 argl : s.args.length < 4611686018427387904
 arg : ∀ a ∈ s.args, a.x.size < 4611686018427387904 ∧ a.x.texts ∧ a.name.length < 4611686018427387904


section
variable {v : Sm} {B : Base} {Q : Exit → Tm → St → Prop} {p : Bool}

theorem one_4 (hf : v.Fine) (hB : B.s = ⟨[], []⟩) (hQ : retF 0 0 [(2, none)] (.bool p) ⟨[], []⟩ = Q)
   (h : (if !(Ar.mays v.args) then false else ((v.thn.length : Int) == 0 || v.kind == 5 || v.kind == 6) && ((v.els.length : Int) == 0 || v.kind == 5)) = p) :
   Sem Tryz.prog B 178 QNM Q [(1, .ptr 0 0)] ⟨[encSm v], []⟩ := by
 have hargl := hf.argl
 have harg := fun a ha s => arg_s (hf.arg a ha).1 (hf.arg a ha).2.1 (hf.arg a ha).2.2 s
 have ⟨hH, hJ, hY, hZ⟩ := H4_
 refine wpC_sound ?_
 repeat' (first
 | simp only [go_sem, hH, hJ, hY, hZ]
 | (with_reducible first | refine kT_ fun hc => ?_ | refine kF_ fun hc => ?_ | refine kS_ (fun hc => ?_) fun hc => ?_) <;> (try simp only [hc, bs, ↓reduceIte] at h) <;> try simp only [hc]
 | (with_reducible refine lA_ hQ ?_; exact lY_)
 | (cases h; done))
 refine rL_ 1 0 (SemL.ind (ι := List Ar × Nat) (fun i => v.args.drop i.2 = i.1 ∧ (if !(Ar.mays i.1) then false else ((v.thn.length : Int) == 0 || v.kind == 5 || v.kind == 6) && ((v.els.length : Int) == 0 || v.kind == 5)) = p) (fun i => i.1.length)
   (fun i => [(1, .ptr 0 0), (143, .slice .shared 6 (v.args.map encAr)), (144, .int .i64 (v.args.length : Int)), (145, .int .i64 (i.2 : Int))]) (fun i => ⟨[encSm v], []⟩) ?_ (v.args, 0) ⟨rfl, h⟩)
 rintro ⟨rest, k⟩ ⟨h1, h⟩ IH
 dsimp only at h1 h
 cases rest with
 | nil =>
   have hH := drop_nil h1
   simp only [Ar.mays, Bool.not_true, Bool.false_eq_true, ↓reduceIte] at h
   repeat' (first
 | simp only [go_sem, hH, hJ, hY, hZ]
 | (with_reducible first | refine kT_ fun hc => ?_ | refine kF_ fun hc => ?_ | refine kS_ (fun hc => ?_) fun hc => ?_) <;> (try simp only [hc, bs, ↓reduceIte] at h) <;> try simp only [hc]
 | (with_reducible refine lA_ hQ ?_; (try cases h); simp only [resL, oneD, sI_, eL_, go_sem, hH, hJ, hY, hZ]; repeat' (first | exact Ok.out | with_reducible refine aI_ ?_ ?_ | (simp; done)))
 | (cases h; done))
   all_goals
     simp only [*]
     exact Ok.out
 | cons a rest =>
   obtain ⟨hJ, g2, hH, g4⟩ := drop_cons h1
   have ha := harg a (List.mem_of_getElem? hJ)
   have hY : k < 4611686018427387904 := by omega
   simp only [Ar.mays] at h
   repeat' (first
 | simp only [go_sem, hH, hJ, hY, hZ]
 | (with_reducible refine CU (ha _) ?_)
 | (with_reducible first | refine kT_ fun hc => ?_ | refine kF_ fun hc => ?_ | refine kS_ (fun hc => ?_) fun hc => ?_) <;> (try simp only [hc, bs, ↓reduceIte] at h) <;> try simp only [hc]
 | (with_reducible refine lA_ hQ ?_; exact lY_)
 | (cases h; done))
   refine rL_ 1 0 (IH (rest, k + 1) ⟨g2, h⟩ (Nat.lt_succ_self _))

theorem one_3 {cl : Bool} (hf : v.Fine) (hB : B.s = ⟨[], []⟩) (hQ : retF 0 0 [(2, none)] (.bool p) ⟨[], []⟩ = Q)
   (h : (if !(cl == !(v.proc == [])) || (cl && !(isName v.proc)) || (!cl && decide ((v.args.length : Int) > 0)) then false
     else if !(Ar.mays v.args) then false else ((v.thn.length : Int) == 0 || v.kind == 5 || v.kind == 6) && ((v.els.length : Int) == 0 || v.kind == 5)) = p) :
   Sem Tryz.prog B 178 QNN Q [(1, .ptr 0 0), (5, .bool cl)] ⟨[encSm v], []⟩ := by
 have hproc := RName_s v.proc hf.proc
 have ⟨hH, hJ, hY, hZ⟩ := H4_
 refine Sem.seqW ?_
 repeat' (first
 | simp only [go_sem, hH, hJ, hY, hZ]
 | (with_reducible refine CU (hproc _) ?_)
 | (with_reducible first | refine kT_ fun hc => ?_ | refine kF_ fun hc => ?_ | refine kS_ (fun hc => ?_) fun hc => ?_) <;> (try simp only [hc, bs, ↓reduceIte] at h) <;> try simp only [hc]
 | (with_reducible refine lA_ hQ ?_; (try cases h); simp only [resL, oneD, sI_, eL_, go_sem, hH, hJ, hY, hZ]; repeat' (first | exact Ok.out | with_reducible refine aI_ ?_ ?_ | (simp; done)))
 | (cases h; done))
 all_goals
   refine Sem.re _ _ 1 0 (by rw [hB]; exact lB_ rfl) (by rw [hB]; exact lB_ rfl) ?_ ?_ (one_4 hf hB hQ h)
   · (simp only [go_sem, hH, hJ, hY, hZ]; repeat' (first | exact Ok.out | with_reducible refine aI_ ?_ ?_))
   · (simp only [go_sem, hH, hJ, hY, hZ]; repeat' (first | exact Ok.out | with_reducible refine aI_ ?_ ?_))

theorem one_2 {hn cl : Bool} (hf : v.Fine) (hB : B.s = ⟨[], []⟩) (hQ : retF 0 0 [(2, none)] (.bool p) ⟨[], []⟩ = Q)
   (h : (if (hn && !(isName v.name)) || (!hn && !(v.name == []) && !(cl && isName v.name)) then false
     else if !(cl == !(v.proc == [])) || (cl && !(isName v.proc)) || (!cl && decide ((v.args.length : Int) > 0)) then false
     else if !(Ar.mays v.args) then false else ((v.thn.length : Int) == 0 || v.kind == 5 || v.kind == 6) && ((v.els.length : Int) == 0 || v.kind == 5)) = p) :
   Sem Tryz.prog B 178 QNO Q [(1, .ptr 0 0), (4, .bool hn), (5, .bool cl)] ⟨[encSm v], []⟩ := by
 have hname := RName_s v.name hf.name
 have ⟨hH, hJ, hY, hZ⟩ := H4_
 have k := @one_3 v B Q p cl hf hB hQ
 cases cl
 all_goals
   refine Sem.seqW ?_
   repeat' (first
 | simp only [go_sem, hH, hJ, hY, hZ]
 | (with_reducible refine CU (hname _) ?_)
 | (with_reducible first | refine kT_ fun hc => ?_ | refine kF_ fun hc => ?_ | refine kS_ (fun hc => ?_) fun hc => ?_) <;> (try simp only [hc, bs, ↓reduceIte] at h) <;> try simp only [hc]
 | (with_reducible refine lA_ hQ ?_; (try cases h); simp only [resL, oneD, sI_, eL_, go_sem, hH, hJ, hY, hZ]; repeat' (first | exact Ok.out | with_reducible refine aI_ ?_ ?_ | (simp; done)))
 | (cases h; done))
 all_goals
   refine Sem.re _ _ 1 0 (by rw [hB]; exact lB_ rfl) (by rw [hB]; exact lB_ rfl) ?_ ?_ (k (by simpa only [bs, ↓reduceIte] using h))
   · (simp only [go_sem, hH, hJ, hY, hZ]; repeat' (first | exact Ok.out | with_reducible refine aI_ ?_ ?_))
   · (simp only [go_sem, hH, hJ, hY, hZ]; repeat' (first | exact Ok.out | with_reducible refine aI_ ?_ ?_))

theorem one_1 {hx hn cl : Bool} (hf : v.Fine) (hB : B.s = ⟨[], []⟩) (hQ : retF 0 0 [(2, none)] (.bool p) ⟨[], []⟩ = Q)
   (h : (if decide (v.kind < 1) || decide (v.kind > 10) || !(mayNames v.labels) || (hx && !(v.x.may)) || (!hx && !(v.x.none)) || (v.has && v.kind != 9) then false
     else if (hn && !(isName v.name)) || (!hn && !(v.name == []) && !(cl && isName v.name)) then false
     else if !(cl == !(v.proc == [])) || (cl && !(isName v.proc)) || (!cl && decide ((v.args.length : Int) > 0)) then false
     else if !(Ar.mays v.args) then false else ((v.thn.length : Int) == 0 || v.kind == 5 || v.kind == 6) && ((v.els.length : Int) == 0 || v.kind == 5)) = p) :
   Sem Tryz.prog B 178 QNP Q [(1, .ptr 0 0), (3, .bool hx), (4, .bool hn), (5, .bool cl)] ⟨[encSm v], []⟩ := by
 have hns := fun s => names_s' hf.labl hf.lab s
 have hm := MayExpr_s hf.x hf.xt
 have ⟨hH, hJ, hY, hZ⟩ := H4_
 refine Sem.seqW ?_
 repeat' (first
 | simp only [go_sem, hH, hJ, hY, hZ]
 | (with_reducible refine CU (hns _) ?_)
 | (with_reducible refine CU (hm _) ?_)
 | (with_reducible refine CU (none_s _ _) ?_)
 | (with_reducible first | refine kT_ fun hc => ?_ | refine kF_ fun hc => ?_ | refine kS_ (fun hc => ?_) fun hc => ?_) <;> (try simp only [hc, bs, ↓reduceIte] at h) <;> try simp only [hc]
 | (with_reducible refine lA_ hQ ?_; (try cases h); simp only [resL, oneD, sI_, eL_, go_sem, hH, hJ, hY, hZ]; repeat' (first | exact Ok.out | with_reducible refine aI_ ?_ ?_ | (simp; done)))
 | (cases h; done))
 all_goals
   refine Sem.re _ _ 1 0 (by rw [hB]; exact lB_ rfl) (by rw [hB]; exact lB_ rfl) ?_ ?_ (one_2 hf hB hQ h)
   · (simp only [go_sem, hH, hJ, hY, hZ]; repeat' (first | exact Ok.out | with_reducible refine aI_ ?_ ?_))
   · (simp only [go_sem, hH, hJ, hY, hZ]; repeat' (first | exact Ok.out | with_reducible refine aI_ ?_ ?_))

theorem one_c {hx hn : Bool} (hf : v.Fine) (hB : B.s = ⟨[], []⟩) (hQ : retF 0 0 [(2, none)] (.bool p) ⟨[], []⟩ = Q) (ex : v.hasX = hx) (en : v.hasName = hn) (h : v.one = p) :
   Sem Tryz.prog B 178 QNQ Q [(1, .ptr 0 0), (3, .bool hx), (4, .bool hn)] ⟨[encSm v], []⟩ := by
 unfold Sm.one at h
 rw [ex, en] at h
 have ⟨hH, hJ, hY, hZ⟩ := H4_
 refine Sem.seqW ?_
 repeat' (first
 | simp only [go_sem, hH, hJ, hY, hZ]
 | (with_reducible first | refine kT_ fun hc => ?_ | refine kF_ fun hc => ?_ | refine kS_ (fun hc => ?_) fun hc => ?_) <;> (try simp only [hc, bs, ↓reduceIte] at h) <;> try simp only [hc]
 | (with_reducible refine lA_ hQ ?_; exact lY_)
 | (cases h; done))
 refine Sem.re _ _ 1 0 (by rw [hB]; exact lB_ rfl) (by rw [hB]; exact lB_ rfl) ?_ ?_ (one_1 hf hB hQ h)
 · (simp only [go_sem, hH, hJ, hY, hZ, Sm.isCall]; repeat' (first | exact Ok.out | with_reducible refine aI_ ?_ ?_))
 · (simp only [go_sem, hH, hJ, hY, hZ, Sm.isCall]; repeat' (first | exact Ok.out | with_reducible refine aI_ ?_ ?_))

theorem one_b {hx : Bool} (hf : v.Fine) (hB : B.s = ⟨[], []⟩) (hQ : retF 0 0 [(2, none)] (.bool p) ⟨[], []⟩ = Q) (ex : v.hasX = hx) (hp : v.one = p) :
   Sem Tryz.prog B 178 QNR Q [(1, .ptr 0 0), (3, .bool hx)] ⟨[encSm v], []⟩ := by
 generalize h : v.hasName = hn
 have hn := h
 unfold Sm.hasName at h
 have ⟨hH, hJ, hY, hZ⟩ := H4_
 refine Sem.seqW ?_
 repeat' (first
 | simp only [go_sem, hH, hJ, hY, hZ]
 | (with_reducible first | refine kT_ fun hc => ?_ | refine kF_ fun hc => ?_ | refine kS_ (fun hc => ?_) fun hc => ?_) <;> (try simp only [hc, bs, ↓reduceIte] at h) <;> try simp only [hc]
 | (with_reducible refine lA_ hQ ?_; (try cases h); simp only [resL, oneD, sI_, eL_, go_sem, hH, hJ, hY, hZ]; repeat' (first | exact Ok.out | with_reducible refine aI_ ?_ ?_ | (simp; done)))
 | (cases h; done))
 all_goals
   refine Sem.re _ _ 1 0 (by rw [hB]; exact lB_ rfl) (by rw [hB]; exact lB_ rfl) ?_ ?_ (one_c hf hB hQ ex hn hp)
   · (simp only [go_sem, hH, hJ, hY, hZ, h]; repeat' (first | exact Ok.out | with_reducible refine aI_ ?_ ?_))
   · (simp only [go_sem, hH, hJ, hY, hZ, h]; repeat' (first | exact Ok.out | with_reducible refine aI_ ?_ ?_))

theorem one_a (hf : v.Fine) (hB : B.s = ⟨[], []⟩) (hQ : retF 0 0 [(2, none)] (.bool p) ⟨[], []⟩ = Q) (hp : v.one = p) :
   Sem Tryz.prog B 178 QNS Q [(1, .ptr 0 0)] ⟨[encSm v], []⟩ := by
 generalize h : v.hasX = hx
 have ex := h
 unfold Sm.hasX at h
 have ⟨hH, hJ, hY, hZ⟩ := H4_
 refine Sem.seqW ?_
 repeat' (first
 | simp only [go_sem, hH, hJ, hY, hZ]
 | (with_reducible first | refine kT_ fun hc => ?_ | refine kF_ fun hc => ?_ | refine kS_ (fun hc => ?_) fun hc => ?_) <;> (try simp only [hc, bs, ↓reduceIte] at h) <;> try simp only [hc]
 | (with_reducible refine lA_ hQ ?_; (try cases h); simp only [resL, oneD, sI_, eL_, go_sem, hH, hJ, hY, hZ]; repeat' (first | exact Ok.out | with_reducible refine aI_ ?_ ?_ | (simp; done)))
 | (cases h; done))
 all_goals
   refine Sem.re _ _ 1 0 (by rw [hB]; exact lB_ rfl) (by rw [hB]; exact lB_ rfl) ?_ ?_ (one_b hf hB hQ ex hp)
   · (simp only [go_sem, hH, hJ, hY, hZ, h]; repeat' (first | exact Ok.out | with_reducible refine aI_ ?_ ?_))
   · (simp only [go_sem, hH, hJ, hY, hZ, h]; repeat' (first | exact Ok.out | with_reducible refine aI_ ?_ ?_))
end

theorem Fun.goS {P : Program} {f : FuncId} {nt : Nat} {res : List (Nat × Option (Bool × Nat))} {body : AC} {args : List D} {s : St} {d : D} {s' : St} (h0 : Has P f nt res body) (hl : Nat.ble args.length nt = true)
   (h : ∀ (B : Base) (Q : Exit → Tm → St → Prop), B.s = s → retF s.objs.length s.toks.length res d s' = Q → Sem P B nt body Q (argTm 0 args) s) : Fun P f args s d s' := by
 obtain ⟨fn, hf, hc⟩ := h0
 exact Fun.intro ⟨fn, hf, hc⟩ (Nat.le_of_ble_eq_true hl) fun B hB => h B _ hB rfl

theorem one_s {v : Sm} (hf : v.Fine) (s : St) : Fun Tryz.prog n_ref3_one [.agg (encSm v)] s (.bool v.one) s := by
 refine Fun.pure ?_ (by simp [D.oks, D.ok, okSm]) rfl s
 unfold S0
 refine Fun.goS has_ref3_one rfl fun B Q hB hQ => ?_
 have ⟨hH, hJ, hY, hZ⟩ := H4_
 refine Sem.seqW ?_
 repeat' (first
 | simp only [go_sem, hH, hJ, hY, hZ]
 | (with_reducible first | refine kT_ fun hc => ?_ | refine kF_ fun hc => ?_ | refine kS_ (fun hc => ?_) fun hc => ?_) <;> (try simp only [hc, bs, ↓reduceIte] at h) <;> try simp only [hc]
 | (with_reducible refine lA_ hQ ?_; exact lY_)
 | (cases h; done))
 refine Sem.re _ _ 1 0 (by rw [hB]; exact lB_ rfl) (by rw [hB]; exact lB_ rfl) ?_ ?_ (one_a hf hB hQ rfl)
 · (simp only [go_sem, hH, hJ, hY, hZ]; repeat' (first | exact Ok.out | with_reducible refine aI_ ?_ ?_))
 · (simp only [go_sem, hH, hJ, hY, hZ]; repeat' (first | exact Ok.out | with_reducible refine aI_ ?_ ?_))

end Go.Abs

/-! RefMay3 -/

namespace Go.Abs

set_option maxRecDepth 8000
open Go.Proofs

def encIt (i : It) : List D := [.int .i64 i.s.id, .int .i64 i.s.kind, .slice .shared 1 (i.s.labels.map encStr), .str i.s.name, .str i.s.proc,
     .int .i64 i.s.x.op, .int .i64 i.s.x.n, .str i.s.x.name, .slice .shared 4 (i.s.x.kids.map encEx), .bool i.s.has, .slice .shared 6 (i.s.args.map encAr), .slice .shared 13 (i.s.thn.map encSm), .slice .shared 13 (i.s.els.map encSm), .int .i64 i.deep, .int .i64 i.inn, .bool i.els]
theorem okIt (i : It) : D.oks 0 0 (encIt i) = true := by simp [encIt, D.oks, D.ok, Tag.ok, okrStr, okrEx, okrAr, okrSm]
theorem okrIt (l : List It) : D.okr 0 0 (l.map encIt) = true := okr_map okIt l
theorem fgrIt (n m : Nat) (l : List It) : D.fgr n m (l.map encIt) = l.map encIt := fgr_map okIt n m l
theorem fgsIt (n m : Nat) (i : It) : D.fgs n m (encIt i) = encIt i := fgs_ok n m _ (okIt i)
theorem lenIt (x : It) : (encIt x).length = 16 := nd rfl
theorem takeIt (x : It) : List.take 13 (encIt x) = encSm x.s := by simp only [encIt, encSm_eq]; rfl
theorem cellIt_0 (x : It) : (encIt x)[0]? = some (.int .i64 x.s.id) := nd rfl
theorem cellIt_13 (x : It) : (encIt x)[13]? = some (.int .i64 x.deep) := nd rfl
theorem mkIt (s : Sm) (d n : Int) (e : Bool) : encIt ⟨s, d, n, e⟩ = [.int .i64 s.id, .int .i64 s.kind, .slice .shared 1 (s.labels.map encStr), .str s.name, .str s.proc,
     .int .i64 s.x.op, .int .i64 s.x.n, .str s.x.name, .slice .shared 4 (s.x.kids.map encEx), .bool s.has, .slice .shared 6 (s.args.map encAr), .slice .shared 13 (s.thn.map encSm), .slice .shared 13 (s.els.map encSm), .int .i64 d, .int .i64 n, .bool e] := nd rfl
attribute [go_sem] fgrIt fgsIt lenIt takeIt cellIt_0 cellIt_13
theorem flatS_eq (deep inn : Int) (els : Bool) (out : List It) (s : Sm) :
   flatS deep inn els out s = if decide (deep ≤ 12) then flatL (deep + 1) s.id true (flatL (deep + 1) s.id false (out ++ [⟨s, deep, inn, els⟩]) s.thn) s.els else out ++ [⟨s, deep, inn, els⟩] := by
 cases s; simp only [flatS]

mutual
theorem flatS_len (deep inn : Int) (els : Bool) (out : List It) (h : out.length ≤ 200) : ∀ s : Sm, (flatS deep inn els out s).length ≤ 201
 | ⟨id, kind, labels, name, proc, x, has, args, thn, e⟩ => by
   simp only [flatS]
   have h1 : (out ++ [(⟨⟨id, kind, labels, name, proc, x, has, args, thn, e⟩, deep, inn, els⟩ : It)]).length ≤ 201 := by simp; omega
   split
   · exact flatL_len _ _ _ _ (flatL_len _ _ _ _ h1 thn) e
   · exact h1
theorem flatL_len (deep inn : Int) (els : Bool) (out : List It) (h : out.length ≤ 201) : ∀ l : List Sm, (flatL deep inn els out l).length ≤ 201
 | [] => by simpa only [flatL] using h
 | s :: l => by
   simp only [flatL]
   split
   · rename_i hc
     simp only [decide_eq_true_eq] at hc
     exact flatL_len deep inn els _ (flatS_len _ _ _ _ (by omega) s) l
   · exact h
end

abbrev C_flat (N : Nat) : Prop := ∀ (l : List Sm) (deep inn : Int) (els : Bool) (out : List It), Sm.sizes l < N → 0 ≤ deep → deep ≤ 13 → out.length ≤ 201 → ∀ {s : St} {t : Nat}, s.toks[t]? = some (some out.length) →
 Fun Tryz.prog n_ref3_flat [.slice .shared 13 (l.map encSm), .int .i64 deep, .int .i64 inn, .bool els, .slice (.tok t) 16 (out.map encIt)] s (.slice (.tok t) 16 ((flatL deep inn els out l).map encIt)) ⟨s.objs, s.toks.set t (some (flatL deep inn els out l).length)⟩

theorem flat_0 {N : Nat} (hN : N < 4611686018427387904) (ih : C_flat N) {l : List Sm} {deep inn : Int} {els : Bool} {out : List It} (hs : Sm.sizes l < N + 1) (hd0 : 0 ≤ deep) (hd : deep ≤ 13) (ho : out.length ≤ 201) :
   Fun Tryz.prog n_ref3_flat [.slice .shared 13 (l.map encSm), .int .i64 deep, .int .i64 inn, .bool els, .slice (.tok 0) 16 (out.map encIt)] ⟨[], [some out.length]⟩ (.slice (.tok 0) 16 ((flatL deep inn els out l).map encIt)) ⟨[], [some (flatL deep inn els out l).length]⟩ := by
 generalize hR : flatL deep inn els out l = R
 refine Fun.go has_ref3_flat rfl fun B Q hB hQ => ?_
 have ⟨hH, hJ, hY, hZ⟩ := H4_
 repeat' (first
 | simp only [go_sem, hH, hJ, hY, hZ]
 | (with_reducible first | refine kT_ fun hc => ?_ | refine kF_ fun hc => ?_ | refine kS_ (fun hc => ?_) fun hc => ?_) <;> (try simp only [hc, bs, ↓reduceIte] at h) <;> try simp only [hc]
 | (with_reducible refine lA_ hQ ?_; exact lY_)
 | (cases h; done))
 refine rL_ 0 1 (SemL.ind (ι := List Sm × Nat × List It × Nat) (fun i => l.drop i.2.1 = i.1 ∧ flatL deep inn els i.2.2.1 i.1 = R ∧ i.2.2.1.length ≤ 201 ∧ i.2.2.2 = i.2.2.1.length) (fun i => i.1.length)
   (fun i => [(0, .slice .shared 13 (l.map encSm)), (1, .int .i64 deep), (2, .int .i64 inn), (3, .bool els), (4, .slice (.tok 0) 16 (i.2.2.1.map encIt)), (11, .int .i64 (i.2.1 : Int))]) (fun i => ⟨[], [some i.2.2.2]⟩) ?_ (l, 0, out, out.length) ⟨rfl, hR, ho, rfl⟩)
 rintro ⟨rest, k, out, n⟩ ⟨h1, h2, h3, h4⟩ IH
 dsimp only at h1 h2 h3 h4
 subst h4
 have hlen : l.length < 4611686018427387904 := by have := Sm.sizes_len l; omega
 cases rest with
 | nil =>
   have hH := drop_nil h1
   simp only [flatL] at h2
   subst h2
   repeat' (first
 | simp only [go_sem, hH, hJ, hY, hZ]
 | (with_reducible first | refine kT_ fun hc => ?_ | refine kF_ fun hc => ?_ | refine kS_ (fun hc => ?_) fun hc => ?_) <;> (try simp only [hc, bs, ↓reduceIte] at h) <;> try simp only [hc]
 | (with_reducible refine lA_ hQ ?_; exact lY_)
 | (cases h; done))
 | cons v rest =>
   obtain ⟨hJ, g2, hH, g4⟩ := drop_cons h1
   have hk2 : k < 4611686018427387904 := by omega
   have hv := Sm.sizes_mem (List.mem_of_getElem? hJ)
   have hvs : Sm.sizes v.thn < N ∧ Sm.sizes v.els < N := by
     obtain ⟨_, _, _, _, _, _, _, _, _, _⟩ := v
     simp only [Sm.size] at hv ⊢; omega
   simp only [flatL] at h2
   by_cases hc : out.length ≤ 200
   · have c1 : decide ((out.length : Int) ≤ 200) = true := by simp; omega
     simp only [c1, ↓reduceIte, flatS_eq] at h2
     have hY : (out.length + 1) * 233 ≤ maxStr := by unfold maxStr; omega
     have hl2 : (out ++ [(⟨v, deep, inn, els⟩ : It)]).length ≤ 201 := by simp; omega
     have hw : IntKind.wrap .i64 (deep + 1) = deep + 1 := wrap_ok (by omega) (by omega)
     by_cases hd12 : deep ≤ 12
     · have c2 : decide (deep ≤ 12) = true := by simp; omega
       simp only [c2, ↓reduceIte] at h2
       have f1 := fun {s : St} {t : Nat} (ht : s.toks[t]? = some (some (out ++ [(⟨v, deep, inn, els⟩ : It)]).length)) => ih v.thn (deep + 1) v.id false _ hvs.1 (by omega) (by omega) hl2 ht
       have f2 := fun {s : St} {t : Nat} (ht : s.toks[t]? = some (some (flatL (deep + 1) v.id false (out ++ [(⟨v, deep, inn, els⟩ : It)]) v.thn).length)) => ih v.els (deep + 1) v.id true _ hvs.2 (by omega) (by omega) (flatL_len _ _ _ _ hl2 _) ht
       simp only [List.map_append, List.map_cons, List.map_nil, mkIt, List.length_append, List.length_cons, List.length_nil] at f1
       repeat' (first
 | simp only [go_sem, hH, hJ, hY, hZ, c1, c2, hw, encSm_eq]
 | (with_reducible refine CU (f1 (by with_unfolding_all rfl)) ?_)
 | (with_reducible refine CU (f2 (by with_unfolding_all rfl)) ?_)
 | (with_reducible first | refine kT_ fun hc => ?_ | refine kF_ fun hc => ?_ | refine kS_ (fun hc => ?_) fun hc => ?_) <;> (try simp only [hc, bs, ↓reduceIte] at h) <;> try simp only [hc]
 | (with_reducible refine lA_ hQ ?_; (try cases h); simp only [resL, oneD, sI_, eL_, go_sem, hH, hJ, hY, hZ, c1, c2, hw, encSm_eq]; try exact lE_)
 | (cases h; done))
       refine rl_ 0 1 ?_ ?_ (IH (rest, k + 1, _, _) ⟨g2, h2, flatL_len _ _ _ _ (flatL_len _ _ _ _ hl2 _) _, rfl⟩ (Nat.lt_succ_self _))
       · (simp only [go_sem, hH, hJ, hY, hZ, wrap_inc hk2]; try exact lF_)
       · (simp only [go_sem, hH, hJ, hY, hZ, wrap_inc hk2]; try exact lF_)
     · have c2 : decide (deep ≤ 12) = false := by simp; omega
       simp only [c2, Bool.false_eq_true, ↓reduceIte] at h2
       repeat' (first
 | simp only [go_sem, hH, hJ, hY, hZ, c1, c2, encSm_eq]
 | (with_reducible first | refine kT_ fun hc => ?_ | refine kF_ fun hc => ?_ | refine kS_ (fun hc => ?_) fun hc => ?_) <;> (try simp only [hc, bs, ↓reduceIte] at h) <;> try simp only [hc]
 | (with_reducible refine lA_ hQ ?_; (try cases h); simp only [resL, oneD, sI_, eL_, go_sem, hH, hJ, hY, hZ, c1, c2, encSm_eq]; try exact lE_)
 | (cases h; done))
       refine rl_ 0 1 ?_ ?_ (IH (rest, k + 1, out ++ [⟨v, deep, inn, els⟩], out.length + 1) ⟨g2, h2, hl2, by simp⟩ (Nat.lt_succ_self _))
       · (simp only [go_sem, hH, hJ, hY, hZ, wrap_inc hk2, mkIt, List.map_append, List.map_cons, List.map_nil]; try exact lF_)
       · (simp only [go_sem, hH, hJ, hY, hZ, wrap_inc hk2, mkIt, List.map_append, List.map_cons, List.map_nil]; try exact lF_)
   · have c1 : decide ((out.length : Int) ≤ 200) = false := by simp; omega
     simp only [c1, Bool.false_eq_true, ↓reduceIte] at h2
     subst h2
     repeat' (first
 | simp only [go_sem, hH, hJ, hY, hZ, c1]
 | (with_reducible first | refine kT_ fun hc => ?_ | refine kF_ fun hc => ?_ | refine kS_ (fun hc => ?_) fun hc => ?_) <;> (try simp only [hc, bs, ↓reduceIte] at h) <;> try simp only [hc]
 | (with_reducible refine lA_ hQ ?_; (try cases h); simp only [resL, oneD, sI_, eL_, go_sem, hH, hJ, hY, hZ, c1]; try exact lE_)
 | (cases h; done))

theorem flat_all : ∀ N, N < 4611686018427387904 → C_flat N := by
 intro N
 induction N with
 | zero => exact fun _ l deep inn els out h => absurd h (Nat.not_lt_zero _)
 | succ N ih =>
   intro h l deep inn els out hs hd0 hd ho s t ht
   exact (flat_0 (by omega) (ih (by omega)) hs hd0 hd ho).tokF (pre := [_, _, _, _]) (post := []) (by simp [D.oks, D.ok, Tag.ok, okrSm]) rfl (okrIt out) (okrIt _) ht

theorem flat_nil {l : List Sm} (hs : Sm.sizes l < 4611686018427387000) (s : St) :
   Fun Tryz.prog n_ref3_flat [.slice .shared 13 (l.map encSm), .int .i64 1, .int .i64 0, .bool false, .slice .full 0 []] s (.slice .shared 16 ((flatL 1 0 false [] l).map encIt)) s := by
 refine Fun.pure ?_ (by simp [D.oks, D.ok, Tag.ok, okrSm, D.okr]) (by simp [D.ok, Tag.ok, okrIt]) s
 obtain ⟨N, hN⟩ : ∃ N, N = Sm.sizes l := ⟨_, rfl⟩
 have ih := flat_all N (by omega)
 replace hs : Sm.sizes l < N + 1 ∧ N < 4611686018427387000 := by omega
 obtain ⟨hs, hN⟩ := hs
 generalize hR : flatL 1 0 false [] l = R
 obtain ⟨deep, hdeep⟩ : ∃ d : Int, d = 1 := ⟨_, rfl⟩
 obtain ⟨inn, hinn⟩ : ∃ d : Int, d = 0 := ⟨_, rfl⟩
 obtain ⟨els, hels⟩ : ∃ d : Bool, d = false := ⟨_, rfl⟩
 rw [← hdeep, ← hinn, ← hels] at hR
 rw [← hdeep, ← hinn, ← hels]
 have hd0 : 0 ≤ deep := by omega
 have hd : deep ≤ 13 := by omega
 clear hdeep hinn hels
 have ho : ([] : List It).length ≤ 201 := Nat.zero_le _
 unfold S0
 refine Fun.go has_ref3_flat rfl fun B Q hB hQ => ?_
 have ⟨hH, hJ, hY, hZ⟩ := H4_
 repeat' (first
 | simp only [go_sem, hH, hJ, hY, hZ]
 | (with_reducible first | refine kT_ fun hc => ?_ | refine kF_ fun hc => ?_ | refine kS_ (fun hc => ?_) fun hc => ?_) <;> (try simp only [hc, bs, ↓reduceIte] at h) <;> try simp only [hc]
 | (with_reducible refine lA_ hQ ?_; exact lY_)
 | (cases h; done))
 refine SemL.tokT 4 16 rfl ?_
 simp only [go_sem, hH, hJ, hY, hZ]
 refine rL_ 0 1 (SemL.ind (ι := List Sm × Nat × List It × Nat) (fun i => l.drop i.2.1 = i.1 ∧ flatL deep inn els i.2.2.1 i.1 = R ∧ i.2.2.1.length ≤ 201 ∧ i.2.2.2 = i.2.2.1.length) (fun i => i.1.length)
   (fun i => [(0, .slice .shared 13 (l.map encSm)), (1, .int .i64 deep), (2, .int .i64 inn), (3, .bool els), (4, .slice (.tok 0) 16 (i.2.2.1.map encIt)), (11, .int .i64 (i.2.1 : Int))]) (fun i => ⟨[], [some i.2.2.2]⟩) ?_ (l, 0, [], 0) ⟨rfl, hR, ho, rfl⟩)
 rintro ⟨rest, k, out, n⟩ ⟨h1, h2, h3, h4⟩ IH
 dsimp only at h1 h2 h3 h4
 subst h4
 have hlen : l.length < 4611686018427387904 := by have := Sm.sizes_len l; omega
 cases rest with
 | nil =>
   have hH := drop_nil h1
   simp only [flatL] at h2
   subst h2
   repeat' (first
 | simp only [go_sem, hH, hJ, hY, hZ]
 | (with_reducible first | refine kT_ fun hc => ?_ | refine kF_ fun hc => ?_ | refine kS_ (fun hc => ?_) fun hc => ?_) <;> (try simp only [hc, bs, ↓reduceIte] at h) <;> try simp only [hc]
 | (with_reducible refine lA_ hQ ?_; exact lY_)
 | (cases h; done))
 | cons v rest =>
   obtain ⟨hJ, g2, hH, g4⟩ := drop_cons h1
   have hk2 : k < 4611686018427387904 := by omega
   have hv := Sm.sizes_mem (List.mem_of_getElem? hJ)
   have hvs : Sm.sizes v.thn < N ∧ Sm.sizes v.els < N := by
     obtain ⟨_, _, _, _, _, _, _, _, _, _⟩ := v
     simp only [Sm.size] at hv ⊢; omega
   simp only [flatL] at h2
   by_cases hc : out.length ≤ 200
   · have c1 : decide ((out.length : Int) ≤ 200) = true := by simp; omega
     simp only [c1, ↓reduceIte, flatS_eq] at h2
     have hY : (out.length + 1) * 233 ≤ maxStr := by unfold maxStr; omega
     have hl2 : (out ++ [(⟨v, deep, inn, els⟩ : It)]).length ≤ 201 := by simp; omega
     have hw : IntKind.wrap .i64 (deep + 1) = deep + 1 := wrap_ok (by omega) (by omega)
     by_cases hd12 : deep ≤ 12
     · have c2 : decide (deep ≤ 12) = true := by simp; omega
       simp only [c2, ↓reduceIte] at h2
       have f1 := fun {s : St} {t : Nat} (ht : s.toks[t]? = some (some (out ++ [(⟨v, deep, inn, els⟩ : It)]).length)) => ih v.thn (deep + 1) v.id false _ hvs.1 (by omega) (by omega) hl2 ht
       have f2 := fun {s : St} {t : Nat} (ht : s.toks[t]? = some (some (flatL (deep + 1) v.id false (out ++ [(⟨v, deep, inn, els⟩ : It)]) v.thn).length)) => ih v.els (deep + 1) v.id true _ hvs.2 (by omega) (by omega) (flatL_len _ _ _ _ hl2 _) ht
       simp only [List.map_append, List.map_cons, List.map_nil, mkIt, List.length_append, List.length_cons, List.length_nil] at f1
       repeat' (first
 | simp only [go_sem, hH, hJ, hY, hZ, c1, c2, hw, encSm_eq]
 | (with_reducible refine CU (f1 (by with_unfolding_all rfl)) ?_)
 | (with_reducible refine CU (f2 (by with_unfolding_all rfl)) ?_)
 | (with_reducible first | refine kT_ fun hc => ?_ | refine kF_ fun hc => ?_ | refine kS_ (fun hc => ?_) fun hc => ?_) <;> (try simp only [hc, bs, ↓reduceIte] at h) <;> try simp only [hc]
 | (with_reducible refine lA_ hQ ?_; (try cases h); simp only [resL, oneD, sI_, eL_, go_sem, hH, hJ, hY, hZ, c1, c2, hw, encSm_eq]; try exact lE_)
 | (cases h; done))
       refine rl_ 0 1 ?_ ?_ (IH (rest, k + 1, _, _) ⟨g2, h2, flatL_len _ _ _ _ (flatL_len _ _ _ _ hl2 _) _, rfl⟩ (Nat.lt_succ_self _))
       · (simp only [go_sem, hH, hJ, hY, hZ, wrap_inc hk2]; try exact lF_)
       · (simp only [go_sem, hH, hJ, hY, hZ, wrap_inc hk2]; try exact lF_)
     · have c2 : decide (deep ≤ 12) = false := by simp; omega
       simp only [c2, Bool.false_eq_true, ↓reduceIte] at h2
       repeat' (first
 | simp only [go_sem, hH, hJ, hY, hZ, c1, c2, encSm_eq]
 | (with_reducible first | refine kT_ fun hc => ?_ | refine kF_ fun hc => ?_ | refine kS_ (fun hc => ?_) fun hc => ?_) <;> (try simp only [hc, bs, ↓reduceIte] at h) <;> try simp only [hc]
 | (with_reducible refine lA_ hQ ?_; (try cases h); simp only [resL, oneD, sI_, eL_, go_sem, hH, hJ, hY, hZ, c1, c2, encSm_eq]; try exact lE_)
 | (cases h; done))
       refine rl_ 0 1 ?_ ?_ (IH (rest, k + 1, out ++ [⟨v, deep, inn, els⟩], out.length + 1) ⟨g2, h2, hl2, by simp⟩ (Nat.lt_succ_self _))
       · (simp only [go_sem, hH, hJ, hY, hZ, wrap_inc hk2, mkIt, List.map_append, List.map_cons, List.map_nil]; try exact lF_)
       · (simp only [go_sem, hH, hJ, hY, hZ, wrap_inc hk2, mkIt, List.map_append, List.map_cons, List.map_nil]; try exact lF_)
   · have c1 : decide ((out.length : Int) ≤ 200) = false := by simp; omega
     simp only [c1, Bool.false_eq_true, ↓reduceIte] at h2
     subst h2
     repeat' (first
 | simp only [go_sem, hH, hJ, hY, hZ, c1]
 | (with_reducible first | refine kT_ fun hc => ?_ | refine kF_ fun hc => ?_ | refine kS_ (fun hc => ?_) fun hc => ?_) <;> (try simp only [hc, bs, ↓reduceIte] at h) <;> try simp only [hc]
 | (with_reducible refine lA_ hQ ?_; (try cases h); simp only [resL, oneD, sI_, eL_, go_sem, hH, hJ, hY, hZ, c1]; try exact lE_)
 | (cases h; done))

theorem Flat_s {f : Pc} (hs : Sm.sizes f.body < 4611686018427387000) (s : St) : Fun Tryz.prog n_ref3_Flat [.agg (encPc f)] s (.slice .shared 16 (f.flat.map encIt)) s := by
 refine Fun.pure ?_ (by simp only [D.oks, D.ok, okPc]; rfl) (by simp [D.ok, Tag.ok, okrIt]) s
 have h := fun s => flat_nil hs s
 unfold S0
 refine Fun.go has_ref3_Flat rfl fun B Q hB hQ => ?_
 have ⟨hH, hJ, hY, hZ⟩ := H4_
 repeat' (first
 | simp only [go_sem, hH, hJ, hY, hZ, Pc.flat]
 | (with_reducible refine CU (h _) ?_)
 | (with_reducible first | refine kT_ fun hc => ?_ | refine kF_ fun hc => ?_ | refine kS_ (fun hc => ?_) fun hc => ?_) <;> (try simp only [hc, bs, ↓reduceIte] at h) <;> try simp only [hc]
 | (with_reducible refine lA_ hQ ?_; (try cases h); simp only [resL, oneD, sI_, eL_, go_sem, hH, hJ, hY, hZ, Pc.flat]; try exact lE_)
 | (cases h; done))

end Go.Abs

/-! RefMay4 -/

namespace Go.Abs

set_option maxRecDepth 8000
open Go.Proofs

theorem Pc.flat_len (f : Pc) : f.flat.length ≤ 201 := flatL_len _ _ _ _ (Nat.zero_le _) _

theorem All_s {p : Pg} (hs : Pc.sizes p.procs < 4611686018427387000) (s : St) : Fun Tryz.prog n_ref3_All [.agg (encPg p)] s (.slice .shared 16 (p.all.map encIt)) s := by
 refine Fun.pure ?_ (by simp only [D.oks, D.ok, okPg]; rfl) (by simp [D.ok, Tag.ok, okrIt]) s
 have hlen : p.procs.length < 4611686018427387904 := by have := Pc.sizes_len p.procs; omega
 generalize hR : p.all = R
 unfold Pg.all at hR
 unfold S0
 refine Fun.go has_ref3_All rfl fun B Q hB hQ => ?_
 have ⟨hH, hJ, hY, hZ⟩ := H4_
 repeat' (first
 | simp only [go_sem, hH, hJ, hY, hZ]
 | (with_reducible first | refine kT_ fun hc => ?_ | refine kF_ fun hc => ?_ | refine kS_ (fun hc => ?_) fun hc => ?_) <;> (try simp only [hc, bs, ↓reduceIte] at h) <;> try simp only [hc]
 | (with_reducible refine lA_ hQ ?_; exact lY_)
 | (cases h; done))
 refine SemL.tokT 3 16 rfl ?_
 simp only [go_sem, hH, hJ, hY, hZ]
 refine rL_ 1 1 (SemL.ind (ι := List Pc × Nat × List It × Nat) (fun i => p.procs.drop i.2.1 = i.1 ∧ allM i.2.2.1 i.1 = R ∧ i.2.2.1.length ≤ 200 ∧ i.2.2.2 = i.2.2.1.length) (fun i => i.1.length)
   (fun i => [(1, .ptr 0 0), (3, .slice (.tok 0) 16 (i.2.2.1.map encIt)), (7, .slice .shared 5 (p.procs.map encPc)), (8, .int .i64 (p.procs.length : Int)), (9, .int .i64 (i.2.1 : Int))]) (fun i => ⟨[encPg p], [some i.2.2.2]⟩) ?_ (p.procs, 0, [], 0) ⟨rfl, hR, Nat.zero_le _, rfl⟩)
 rintro ⟨rest, k, out, n⟩ ⟨h1, h, h3, h4⟩ IH
 dsimp only at h1 h h3 h4
 subst h4
 cases rest with
 | nil =>
   have hH := drop_nil h1
   simp only [allM] at h
   subst h
   repeat' (first
 | simp only [go_sem, hH, hJ, hY, hZ]
 | (with_reducible first | refine kT_ fun hc => ?_ | refine kF_ fun hc => ?_ | refine kS_ (fun hc => ?_) fun hc => ?_) <;> (try simp only [hc, bs, ↓reduceIte] at h) <;> try simp only [hc]
 | (with_reducible refine lA_ hQ ?_; exact lY_)
 | (cases h; done))
 | cons f rest =>
   obtain ⟨hJ, g2, hH, g4⟩ := drop_cons h1
   have hk2 : k < 4611686018427387904 := by omega
   have hf := Pc.sizes_mem (List.mem_of_getElem? hJ)
   have hb : Sm.sizes f.body < 4611686018427387000 := by simp only [Pc.size] at hf; omega
   have hfl := fun s => Flat_s hb s
   have h201 := f.flat_len
   have hY : (out.length + f.flat.length) * 233 ≤ maxStr := by unfold maxStr; omega
   simp only [allM, List.length_append] at h
   have hap := fun (o : List (List D)) => app_tokN (size := 16) (bytes := 232) (t := 0) (rows := out.map encIt) (new := f.flat.map encIt) (g := .shared) (s := ⟨o, [some out.length]⟩) (by simpa using hY) (by simp)
   repeat' (first
 | simp only [go_sem, hH, hJ, hY, hZ, hap]
 | (with_reducible refine CU (hfl _) ?_)
 | (with_reducible first | refine kT_ fun hc => ?_ | refine kF_ fun hc => ?_ | refine kS_ (fun hc => ?_) fun hc => ?_) <;> (try simp only [hc, bs, ↓reduceIte] at h) <;> try simp only [hc]
 | (with_reducible refine lA_ hQ ?_; (try cases h); simp only [resL, oneD, sI_, eL_, go_sem, hH, hJ, hY, hZ, hap]; try exact lE_)
 | (cases h; done))
   refine rl_ 1 1 ?_ ?_ (IH (rest, k + 1, out ++ f.flat, out.length + f.flat.length) ⟨g2, h, by rename_i hc; simp only [decide_eq_false_iff_not] at hc; simp only [List.length_append]; omega, by simp⟩ (Nat.lt_succ_self _))
   · (simp only [go_sem, hH, hJ, hY, hZ, wrap_inc hk2]; try exact lF_)
   · (simp only [go_sem, hH, hJ, hY, hZ, wrap_inc hk2]; try exact lF_)

structure Pg.Fine (p : Pg) : Prop where
 sz : p.size < 4611686018427387000
 glob : ∀ t ∈ p.globals, t.length < 4611686018427387904
 heads : ∀ f ∈ p.procs, f.name.length < 4611686018427387904 ∧ (∀ t ∈ f.vars, t.length < 4611686018427387904) ∧ (∀ t ∈ f.fin, t.length < 4611686018427387904) ∧ ∀ a ∈ f.params, a.name.length < 4611686018427387904
 items : ∀ i ∈ p.all, i.s.Fine

theorem allM_len : ∀ (l : List Pc) (out : List It), out.length ≤ 200 → (allM out l).length ≤ 401
 | [], out, h => by simp only [allM]; omega
 | f :: l, out, h => by
   have := f.flat_len
   simp only [allM]
   split
   · simp; omega
   · rename_i hc
     exact allM_len l _ (by simp only [decide_eq_true_eq] at hc; omega)

theorem May_s {p : Pg} (hf : p.Fine) (s : St) : Fun Tryz.prog n_ref3_May [.agg (encPg p)] s (.bool p.may) s := by
 refine Fun.pure ?_ (by simp only [D.oks, D.ok, okPg]; rfl) rfl s
 obtain ⟨hsz, hgl, hheads, hitems⟩ := hf
 have hps : Pc.sizes p.procs < 4611686018427387000 := by simp only [Pg.size] at hsz; omega
 have hglen : p.globals.length < 4611686018427387904 := by simp only [Pg.size] at hsz; omega
 have hplen : p.procs.length < 4611686018427387904 := by have := Pc.sizes_len p.procs; omega
 have hg := fun s => names_s' hglen hgl s
 have hal := fun s => All_s hps s
 have hil : p.all.length ≤ 401 := allM_len _ _ (Nat.zero_le _)
 unfold S0
 generalize h : p.may = R
 unfold Pg.may at h
 refine Fun.go has_ref3_May rfl fun B Q hB hQ => ?_
 have ⟨hH, hJ, hY, hZ⟩ := H4_
 repeat' (first
 | simp only [go_sem, hH, hJ, hY, hZ]
 | (with_reducible refine CU (hg _) ?_)
 | (with_reducible first | refine kT_ fun hc => ?_ | refine kF_ fun hc => ?_ | refine kS_ (fun hc => ?_) fun hc => ?_) <;> (try simp only [hc, bs, ↓reduceIte] at h) <;> try simp only [hc]
 | (with_reducible refine lA_ hQ ?_; exact lY_)
 | (cases h; done))
 refine rL_ 1 0 (SemL.ind (ι := List Pc × Nat) (fun i => p.procs.drop i.2 = i.1 ∧ (if !(Pc.heads i.1) then false else if decide ((p.all.length : Int) > 200) then false else It.mays 0 p.all) = R) (fun i => i.1.length)
   (fun i => [(1, .ptr 0 0), (26, .slice .shared 5 (p.procs.map encPc)), (27, .int .i64 (p.procs.length : Int)), (28, .int .i64 (i.2 : Int))]) (fun i => ⟨[encPg p], []⟩) ?_ (p.procs, 0) ⟨rfl, h⟩)
 rintro ⟨rest, k⟩ ⟨h1, h⟩ IH
 dsimp only at h1 h
 cases rest with
 | nil =>
   have hH := drop_nil h1
   simp only [Pc.heads, Bool.not_true, Bool.false_eq_true, ↓reduceIte] at h
   repeat' (first
 | simp only [go_sem, hH, hJ, hY, hZ]
 | (with_reducible refine CU (hal _) ?_)
 | (with_reducible first | refine kT_ fun hc => ?_ | refine kF_ fun hc => ?_ | refine kS_ (fun hc => ?_) fun hc => ?_) <;> (try simp only [hc, bs, ↓reduceIte] at h) <;> try simp only [hc]
 | (with_reducible refine lA_ hQ ?_; exact lY_)
 | (cases h; done))
   clear IH
   refine rL_ 1 0 (SemL.ind (ι := List It × Nat) (fun i => p.all.drop i.2 = i.1 ∧ It.mays i.2 i.1 = R) (fun i => i.1.length)
     (fun i => [(1, .ptr 0 0), (7, .slice .shared 16 (p.all.map encIt)), (79, .int .i64 (p.all.length : Int)), (80, .int .i64 (i.2 : Int))]) (fun i => ⟨[encPg p], []⟩) ?_ (p.all, 0) ⟨rfl, h⟩)
   rintro ⟨rest, k⟩ ⟨h1, h⟩ IH
   dsimp only at h1 h
   cases rest with
   | nil =>
     have hH := drop_nil h1
     simp only [It.mays] at h
     repeat' (first
 | simp only [go_sem, hH, hJ, hY, hZ]
 | (with_reducible first | refine kT_ fun hc => ?_ | refine kF_ fun hc => ?_ | refine kS_ (fun hc => ?_) fun hc => ?_) <;> (try simp only [hc, bs, ↓reduceIte] at h) <;> try simp only [hc]
 | (with_reducible refine lA_ hQ ?_; exact lY_)
 | (cases h; done))
   | cons i rest =>
     obtain ⟨hJ, g2, hH, g4⟩ := drop_cons h1
     have hi := fun s => one_s (hitems i (List.mem_of_getElem? hJ)) s
     have hY : k < 4611686018427387904 := by omega
     simp only [It.mays] at h
     repeat' (first
 | simp only [go_sem, hH, hJ, hY, hZ, wrap_inc hY]
 | (with_reducible refine CU (hi _) ?_)
 | (with_reducible first | refine kT_ fun hc => ?_ | refine kF_ fun hc => ?_ | refine kS_ (fun hc => ?_) fun hc => ?_) <;> (try simp only [hc, bs, ↓reduceIte] at h) <;> try simp only [hc]
 | (with_reducible refine lA_ hQ ?_; (try cases h); simp only [resL, oneD, sI_, eL_, go_sem, hH, hJ, hY, hZ, wrap_inc hY]; try exact lE_)
 | (cases h; done))
     refine rl_ 1 0 ?_ ?_ (IH (rest, k + 1) ⟨g2, h⟩ (Nat.lt_succ_self _))
     · (simp only [go_sem, hH, hJ, hY, hZ, wrap_inc hY]; try exact lF_)
     · (simp only [go_sem, hH, hJ, hY, hZ, wrap_inc hY]; try exact lF_)
 | cons f rest =>
   obtain ⟨hJ, g2, hH, g4⟩ := drop_cons h1
   have hk2 : k < 4611686018427387904 := by omega
   have hfm := Pc.sizes_mem (List.mem_of_getElem? hJ)
   simp only [Pc.size] at hfm
   obtain ⟨hfn, hfv, hff, hfp⟩ := hheads f (List.mem_of_getElem? hJ)
   have hn := RName_s f.name hfn
   have hv := fun s => names_s' (by omega) hfv s
   have he := fun s => names_s' (by omega) hff s
   simp only [Pc.heads] at h
   repeat' (first
 | simp only [go_sem, hH, hJ, hY, hZ]
 | (with_reducible refine CU (hn _) ?_)
 | (with_reducible refine CU (hv _) ?_)
 | (with_reducible refine CU (he _) ?_)
 | (with_reducible first | refine kT_ fun hc => ?_ | refine kF_ fun hc => ?_ | refine kS_ (fun hc => ?_) fun hc => ?_) <;> (try simp only [hc, bs, ↓reduceIte] at h) <;> try simp only [hc]
 | (with_reducible refine lA_ hQ ?_; exact lY_)
 | (cases h; done))
   refine rL_ 1 0 (SemL.ind (ι := List Pm × Nat) (fun i => f.params.drop i.2 = i.1 ∧ (if !(if !(Pm.mays i.1) then false else Pc.heads rest) then false else if decide ((p.all.length : Int) > 200) then false else It.mays 0 p.all) = R) (fun i => i.1.length)
     (fun i => [(1, .ptr 0 0), (26, .slice .shared 5 (p.procs.map encPc)), (27, .int .i64 (p.procs.length : Int)), (28, .int .i64 (k : Int)), (61, .slice .shared 2 (f.params.map encPm)), (62, .int .i64 (f.params.length : Int)), (63, .int .i64 (i.2 : Int))]) (fun i => ⟨[encPg p], []⟩) ?_ (f.params, 0) ⟨rfl, h⟩)
   rintro ⟨prest, j⟩ ⟨j1, h⟩ IH2
   dsimp only at j1 h
   cases prest with
   | nil =>
     have hH := drop_nil j1
     simp only [Pm.mays, Bool.not_true, Bool.false_eq_true, ↓reduceIte] at h
     repeat' (first
 | simp only [go_sem, hH, hJ, hY, hZ]
 | (with_reducible first | refine kT_ fun hc => ?_ | refine kF_ fun hc => ?_ | refine kS_ (fun hc => ?_) fun hc => ?_) <;> (try simp only [hc, bs, ↓reduceIte] at h) <;> try simp only [hc]
 | (with_reducible refine lA_ hQ ?_; exact lY_)
 | (cases h; done))
     refine rl_ 1 0 ?_ ?_ (IH (rest, k + 1) ⟨g2, h⟩ (Nat.lt_succ_self _))
     · (simp only [go_sem, hH, hJ, hY, hZ, wrap_inc hk2]; try exact lF_)
     · (simp only [go_sem, hH, hJ, hY, hZ, wrap_inc hk2]; try exact lF_)
   | cons a prest =>
     obtain ⟨hJ, b2, hH, b4⟩ := drop_cons j1
     have hj2 : j < 4611686018427387904 := by omega
     have ha := RName_s a.name (hfp a (List.mem_of_getElem? hJ))
     simp only [Pm.mays] at h
     repeat' (first
 | simp only [go_sem, hH, hJ, hY, hZ]
 | (with_reducible refine CU (ha _) ?_)
 | (with_reducible first | refine kT_ fun hc => ?_ | refine kF_ fun hc => ?_ | refine kS_ (fun hc => ?_) fun hc => ?_) <;> (try simp only [hc, bs, ↓reduceIte] at h) <;> try simp only [hc]
 | (with_reducible refine lA_ hQ ?_; exact lY_)
 | (cases h; done))
     refine rl_ 1 0 ?_ ?_ (IH2 (prest, j + 1) ⟨b2, h⟩ (Nat.lt_succ_self _))
     · (simp only [go_sem, hH, hJ, hY, hZ, wrap_inc hj2]; try exact lF_)
     · (simp only [go_sem, hH, hJ, hY, hZ, wrap_inc hj2]; try exact lF_)

end Go.Abs

/-! MayFine -/

namespace Go.Abs

theorem isName_len {s : Str} (h : isName s = true) : s.length ≤ 8 := by
 cases s with
 | nil => simp
 | cons c r =>
   simp only [isName] at h
   split at h
   · cases h
   · rename_i hc
     simp only [Bool.or_eq_true, decide_eq_true_eq, not_or] at hc
     simp only [List.length_cons]; omega
theorem mayNames_mem {t : Str} : ∀ {l : List Str}, mayNames l = true → t ∈ l → isName t = true
 | s :: l, h, m => by
   simp only [mayNames] at h
   cases hs : isName s
   · simp [hs] at h
   · simp [hs] at h
     rcases List.mem_cons.1 m with rfl | m
     · exact hs
     · exact mayNames_mem h m
theorem mays_mem {a : Ar} : ∀ {l : List Ar}, Ar.mays l = true → a ∈ l → a.may = true
 | s :: l, h, m => by
   simp only [Ar.mays] at h
   cases hs : s.may
   · simp [hs] at h
   · simp [hs] at h
     rcases List.mem_cons.1 m with rfl | m
     · exact hs
     · exact mays_mem h m
theorem pmays_mem {a : Pm} : ∀ {l : List Pm}, Pm.mays l = true → a ∈ l → isName a.name = true
 | s :: l, h, m => by
   simp only [Pm.mays] at h
   cases hs : isName s.name
   · simp [hs] at h
   · simp [hs] at h
     rcases List.mem_cons.1 m with rfl | m
     · exact hs
     · exact pmays_mem h m
mutual
theorem form_texts : ∀ x : Ex, x.form = true → x.texts
 | ⟨op, n, name, kids⟩, h => by
   simp only [Ex.form] at h
   split at h
   · cases h
   · rename_i hc
     refine ⟨?_, forms_texts kids h⟩
     simp only [Bool.or_eq_true, Bool.and_eq_true, Bool.not_eq_true', not_or, not_and, Bool.not_eq_false] at hc
     cases hn : (name == [])
     · have := isName_len (hc.2 hn); omega
     · simp at hn; subst hn; simp
theorem forms_texts : ∀ l : List Ex, Ex.forms l = true → Ex.textss l
 | [], _ => trivial
 | x :: l, h => by
   simp only [Ex.forms] at h
   cases hx : x.form
   · simp [hx] at h
   · simp [hx] at h
     exact ⟨form_texts x hx, forms_texts l h⟩
end
theorem may_texts {x : Ex} (h : x.may = true) : x.texts := by
 unfold Ex.may at h
 simp only [Bool.and_eq_true] at h
 exact form_texts x h.2
theorem none_texts {x : Ex} (h : x.none = true) : x.texts := by
 obtain ⟨op, n, name, kids⟩ := x
 simp [Ex.none] at h
 obtain ⟨⟨_, h1⟩, h2⟩ := h
 subst h1 h2
 exact ⟨by simp, trivial⟩

mutual
theorem flatS_mem {deep inn : Int} {els : Bool} {out : List It} {i : It} : ∀ s : Sm, i ∈ flatS deep inn els out s → i ∈ out ∨ i.s.size ≤ s.size
 | ⟨id, kind, labels, name, proc, x, has, args, thn, e⟩, h => by
   simp only [flatS] at h
   have key : i ∈ out ++ [(⟨⟨id, kind, labels, name, proc, x, has, args, thn, e⟩, deep, inn, els⟩ : It)] → i ∈ out ∨ i.s.size ≤ (⟨id, kind, labels, name, proc, x, has, args, thn, e⟩ : Sm).size := by
     intro h
     rcases List.mem_append.1 h with h | h
     · exact .inl h
     · simp at h; subst h; exact .inr (Nat.le_refl _)
   split at h
   · rcases flatL_mem e h with h | h
     · rcases flatL_mem thn h with h | h
       · exact key h
       · right; simp only [Sm.size]; omega
     · right; simp only [Sm.size]; omega
   · exact key h
theorem flatL_mem {deep inn : Int} {els : Bool} {out : List It} {i : It} : ∀ l : List Sm, i ∈ flatL deep inn els out l → i ∈ out ∨ i.s.size < Sm.sizes l
 | [], h => by simp only [flatL] at h; exact .inl h
 | s :: l, h => by
   simp only [flatL] at h
   split at h
   · rcases flatL_mem l h with h | h
     · rcases flatS_mem s h with h | h
       · exact .inl h
       · right; simp only [Sm.sizes]; omega
     · right; simp only [Sm.sizes]; omega
   · exact .inl h
end
theorem allM_mem {i : It} : ∀ (l : List Pc) (out : List It), i ∈ allM out l → i ∈ out ∨ i.s.size < Pc.sizes l
 | [], out, h => by simp only [allM] at h; exact .inl h
 | f :: l, out, h => by
   have key : i ∈ out ++ f.flat → i ∈ out ∨ i.s.size < Pc.sizes (f :: l) := by
     intro h
     rcases List.mem_append.1 h with h | h
     · exact .inl h
     · rcases flatL_mem _ h with h | h
       · simp at h
       · right; simp only [Pc.sizes, Pc.size]; omega
   simp only [allM] at h
   split at h
   · exact key h
   · rcases allM_mem l _ h with h | h
     · exact key h
     · right; simp only [Pc.sizes]; omega

theorem itmays_mem {i : It} : ∀ (l : List It) (n : Nat), It.mays n l = true → i ∈ l → i.s.one = true
 | s :: l, n, h, m => by
   simp only [It.mays] at h
   split at h
   · cases h
   · rename_i hc
     simp only [Bool.or_eq_true, Bool.not_eq_true', not_or, Bool.not_eq_false] at hc
     rcases List.mem_cons.1 m with rfl | m
     · exact hc.2
     · exact itmays_mem l (n + 1) h m

theorem one_fine {s : Sm} (h : s.one = true) (hs : s.size < 4611686018427387000) : s.Fine := by
 unfold Sm.one at h
 split at h
 · cases h
 split at h
 · cases h
 split at h
 · cases h
 split at h
 · cases h
 rename_i c1 c2 c3 c4
 simp only [Bool.or_eq_true, Bool.and_eq_true, Bool.not_eq_true', not_or, not_and, Bool.not_eq_false, decide_eq_true_eq] at c1 c2 c3 c4
 obtain ⟨⟨⟨⟨⟨_, _⟩, clab⟩, cx⟩, cn⟩, _⟩ := c1
 obtain ⟨c21, c22⟩ := c2
 obtain ⟨⟨c31, c32⟩, c33⟩ := c3
 have nm : ∀ {t : Str}, isName t = true → t.length < 4611686018427387904 := fun h => by have := isName_len h; omega
 have hsz : 1 + s.labels.length + s.x.size + Ar.sizes s.args ≤ s.size := by cases s; simp only [Sm.size]; omega
 have hal := Ar.sizes_len s.args
 refine ⟨fun t ht => nm (mayNames_mem clab ht), by omega, ?_, ?_, by omega, ?_, by omega, fun a ha => ?_⟩
 · cases hn : s.hasName
   · cases he : (s.name == [])
     · exact nm (c22 ⟨hn, he⟩).2
     · simp at he; rw [he]; simp
   · exact nm (c21 hn)
 · cases hcl : s.isCall
   · rw [hcl] at c31
     have : s.proc = [] := by simpa using c31
     rw [this]; simp
   · exact nm (c32 hcl)
 · cases hx : s.hasX
   · exact none_texts (cn hx)
   · exact may_texts (cx hx)
 · have hm := mays_mem c4 ha
   have hsa := Ar.sizes_mem ha
   unfold Ar.may at hm
   split at hm
   · simp only [Bool.and_eq_true] at hm
     exact ⟨by omega, none_texts hm.2, nm hm.1⟩
   · simp only [Bool.and_eq_true, beq_iff_eq] at hm
     exact ⟨by omega, may_texts hm.2, by rw [hm.1]; simp⟩

theorem heads_mem {f : Pc} : ∀ {l : List Pc}, Pc.heads l = true → f ∈ l → isName f.name = true ∧ mayNames f.vars = true ∧ mayNames f.fin = true ∧ Pm.mays f.params = true
 | s :: l, h, m => by
   simp only [Pc.heads] at h
   split at h
   · cases h
   split at h
   · cases h
   rename_i c1 c2
   simp only [Bool.or_eq_true, Bool.not_eq_true', not_or, Bool.not_eq_false] at c1 c2
   rcases List.mem_cons.1 m with rfl | m
   · exact ⟨c1.1.1.1.1, c1.1.2, c1.2, c2⟩
   · exact heads_mem h m

theorem may_fine {p : Pg} (h : p.may = true) (hs : p.size < 4611686018427387000) : p.Fine := by
 unfold Pg.may at h
 split at h
 · cases h
 split at h
 · cases h
 split at h
 · cases h
 rename_i c1 c2 c3
 simp only [Bool.or_eq_true, Bool.not_eq_true', not_or, Bool.not_eq_false] at c1 c2
 have nm : ∀ {t : Str}, isName t = true → t.length < 4611686018427387904 := fun h => by have := isName_len h; omega
 refine ⟨hs, fun t ht => nm (mayNames_mem c1.2 ht), fun f hf => ?_, fun i hi => ?_⟩
 · obtain ⟨a, b, c, d⟩ := heads_mem c2 hf
   exact ⟨nm a, fun t ht => nm (mayNames_mem b ht), fun t ht => nm (mayNames_mem c ht), fun t ht => nm (pmays_mem d ht)⟩
 · refine one_fine (itmays_mem _ _ h hi) ?_
   rcases allM_mem _ _ hi with h1 | h1
   · simp at h1
   · simp only [Pg.size] at hs; omega

end Go.Abs

/-! Full4 -/

namespace Go.Abs
open Go.Proofs

theorem signR_len' {op : Int} (h : (decide (5 ≤ op) && decide (op ≤ 17)) = true) : (signR op).length ≤ 2 := by
 rcases signs h with rfl | rfl | rfl | rfl | rfl | rfl | rfl | rfl | rfl | rfl | rfl | rfl | rfl <;> decide

inductive FormI : Ex → Prop
 | num (n : Int) (h0 : 0 ≤ n) (h1 : n ≤ 9223372036854775807) : FormI ⟨1, n, [], []⟩
 | name (t : Str) (h : isName t = true) : FormI ⟨2, 0, t, []⟩
 | neg (y : Ex) (h : FormI y) : FormI ⟨3, 0, [], [y]⟩
 | no (y : Ex) (h : FormI y) : FormI ⟨4, 0, [], [y]⟩
 | two (op : Int) (a b : Ex) (ho : (decide (5 ≤ op) && decide (op ≤ 17)) = true) (ha : FormI a) (hb : FormI b) : FormI ⟨op, 0, [], [a, b]⟩

theorem FormI.of : ∀ (m : Nat) (x : Ex), x.size ≤ m → x.form = true → x.rng → FormI x := by
 intro m
 induction m with
 | zero => rintro ⟨op, v, name, kids⟩ h; simp only [Ex.size] at h; omega
 | succ m ih =>
   rintro ⟨op, n, name, kids⟩ h hf hr
   simp only [Ex.size] at h
   simp only [Ex.form] at hf
   split at hf
   · cases hf
   · rename_i hc
     simp only [Bool.or_eq_true, Bool.and_eq_true, not_or, not_and, Bool.not_eq_true, bne_iff_ne, ne_eq, Decidable.not_not, decide_eq_true_eq, Bool.not_eq_true', bne_eq_false_iff_eq, decide_eq_false_iff_not, Bool.not_eq_false, Bool.not_eq_false', beq_iff_eq] at hc
     obtain ⟨⟨⟨⟨ha, hz⟩, hn⟩, hnm⟩, hi⟩ := hc
     have hnil : op ≠ 2 → name = [] := fun h2 => by
       have : (op == 2) = false := beq_eq_false_iff_ne.2 h2
       rw [this] at hnm
       simpa using hnm.symm
     by_cases o1 : op = 1
     · subst o1
       have : kids = [] := List.eq_nil_of_length_eq_zero (by simp [arityI] at ha; omega)
       subst this
       rw [hnil (by omega)]
       exact .num n (by omega) hr.1
     · have hz := hz o1
       subst hz
       by_cases o2 : op = 2
       · subst o2
         have : kids = [] := List.eq_nil_of_length_eq_zero (by simp [arityI] at ha; omega)
         subst this
         exact .name name (hi (by simpa using hnm.symm))
       · have hnm := hnil o2
         subst hnm
         by_cases o3 : op = 3
         · subst o3
           have : kids.length = 1 := by simp [arityI] at ha; omega
           obtain ⟨y, rfl⟩ := List.length_eq_one_iff.1 this
           simp only [Ex.forms, Ex.sizes] at hf h
           exact .neg y (ih y (by omega) (by simpa using hf) hr.2.1)
         · by_cases o4 : op = 4
           · subst o4
             have : kids.length = 1 := by simp [arityI] at ha; omega
             obtain ⟨y, rfl⟩ := List.length_eq_one_iff.1 this
             simp only [Ex.forms, Ex.sizes] at hf h
             exact .no y (ih y (by omega) (by simpa using hf) hr.2.1)
           · by_cases o5 : 5 ≤ op ∧ op ≤ 17
             · have : kids.length = 2 := by simp [arityI, o1, o2, o3, o4, o5.1, o5.2] at ha; omega
               obtain ⟨y, z, rfl⟩ : ∃ y z, kids = [y, z] := by
                 match kids, this with
                 | [y, z], _ => exact ⟨y, z, rfl⟩
               simp only [Ex.forms, Ex.sizes] at hf h
               have hf : y.form = true ∧ z.form = true := by
                 cases hy : y.form <;> cases hz : z.form <;> simp [hy, hz] at hf ⊢
               exact .two op y z (by simp only [Bool.and_eq_true, decide_eq_true_eq]; exact o5) (ih y (by omega) hf.1 hr.2.1) (ih z (by omega) hf.2 hr.2.2.1)
             · exfalso
               have : arityI op = -1 := by
                 unfold arityI
                 have c : (decide (op ≥ 5) && decide (op ≤ 17)) = false := by simp; omega
                 simp [o1, o2, o3, o4, c]
               omega

mutual
def fullE : Ex → Str
 | ⟨op, n, name, kids⟩ => fullK op n name kids
def fullK (op n : Int) (name : Str) : List Ex → Str
 | [] => if op = 2 then name else digF 20 n.toNat
 | [a] => if op = 3 then [40, 45] ++ fullE a ++ [41] else [40, 33] ++ fullE a ++ [41]
 | a :: b :: _ => [40] ++ fullE a ++ signR op ++ fullE b ++ [41]
end

end Go.Abs

/-! Shelf -/

namespace Go.Proofs
open Go.Shelf
def Tryz.lays156_ren : Go.Shelf.Ren := ⟨fun | 156 => 23 | 165 => 57 | 166 => 56 | 169 => 27 | 240 => 83 | 241 => 84 | 276 => 98 | 277 => 99 | n => n, fun | 31 => 22 | 9 => 9 | 3 => 3 | 4 => 4 | 0 => 0 | 20 => 20 | 72 => 64 | 76 => 109 | 70 => 61 | 37 => 62 | 75 => 107 | 127 => 113 | 164 => 140 | 5 => 5 | 80 => 43 | n => n, fun | n => n⟩
theorem Tryz.lays156 : Go.Proofs.Lays.n156 Tryz.prog Tryz.lays156_ren := {
 mixed := by kernel_rfl
 f156 := Tryz.func23.trans (congrArg some (by kernel_rfl))
 f165 := Tryz.func57.trans (congrArg some (by kernel_rfl))
 f166 := Tryz.func56.trans (congrArg some (by kernel_rfl))
 f169 := Tryz.func27.trans (congrArg some (by kernel_rfl))
 f240 := Tryz.func83.trans (congrArg some (by kernel_rfl))
 f241 := Tryz.func84.trans (congrArg some (by kernel_rfl))
 f276 := Tryz.func98.trans (congrArg some (by kernel_rfl))
 f277 := Tryz.func99.trans (congrArg some (by kernel_rfl))
 t0 := Tryz.underlying0
 a0 := Tryz.isAgg0
 z0 := Tryz.sizeOf0
 v0 := Tryz.zeroValue0
 t3 := Tryz.underlying3
 a3 := Tryz.isAgg3
 z3 := Tryz.sizeOf3
 v3 := Tryz.zeroValue3
 t4 := Tryz.underlying4
 a4 := Tryz.isAgg4
 z4 := Tryz.sizeOf4
 v4 := Tryz.zeroValue4
 t9 := Tryz.underlying9
 a9 := Tryz.isAgg9
 z9 := Tryz.sizeOf9
 v9 := Tryz.zeroValue9
 t20 := Tryz.underlying20
 a20 := Tryz.isAgg20
 z20 := Tryz.sizeOf20
 v20 := Tryz.zeroValue20
 t31 := Tryz.underlying22
 a31 := Tryz.isAgg22
 z31 := Tryz.sizeOf22
 v31 := Tryz.zeroValue22
 t37 := Tryz.underlying62
 a37 := Tryz.isAgg62
 z37 := Tryz.sizeOf62
 v37 := Tryz.zeroValue62
 t70 := Tryz.underlying61
 a70 := Tryz.isAgg61
 z70 := Tryz.sizeOf61
 v70 := Tryz.zeroValue61
 t72 := Tryz.underlying64
 a72 := Tryz.isAgg64
 z72 := Tryz.sizeOf64
 v72 := Tryz.zeroValue64
 t75 := Tryz.underlying107
 a75 := Tryz.isAgg107
 z75 := Tryz.sizeOf107
 v75 := Tryz.zeroValue107
 t76 := Tryz.underlying109
 a76 := Tryz.isAgg109
 z76 := Tryz.sizeOf109
 v76 := Tryz.zeroValue109
 t127 := Tryz.underlying113
 a127 := Tryz.isAgg113
 z127 := Tryz.sizeOf113
 v127 := Tryz.zeroValue113
 t164 := Tryz.underlying140
 a164 := Tryz.isAgg140
 z164 := Tryz.sizeOf140
 v164 := Tryz.zeroValue140 }
theorem Tryz.Builder_Extra_156 : Builder.Extra Tryz.prog Tryz.lays156_ren := {
 sizeBuilder := by kernel_rfl
 liesBuilder := by kernel_rfl
 t5 := Tryz.underlying5
 a5 := Tryz.isAgg5
 z5 := Tryz.sizeOf5
 v5 := Tryz.zeroValue5
 infoByte := by kernel_rfl
 cellsByte := by kernel_rfl
 sizeByte := by kernel_rfl
 neB5 := by decide }
open Go.RowKit in
theorem Tryz.strings_Join_none (a : Option Addr) (c : Nat) (sep : ByteArray) (w : World) :
   Calls Tryz.prog 23 #[.slice a 0 c, .string sep] w fun e w' => e = .returned (.string ⟨#[]⟩) ∧ w' = w := Any.strings_Join_none Tryz.lays156 Tryz.Builder_Extra_156 a c sep w
open Go.RowKit in
theorem Tryz.strings_Join (bk o c : Nat) (xs : List ByteArray) (sep : ByteArray) (w : World) (hcells : ∀ (j : Nat) x, xs[j]? = some x → w.cell? ⟨bk, o + j, none⟩ = some (.string x)) (hbk : bk < w.heap.size) (hN : xs.length ≤ 140737488355328) (hcap : xs.length ≤ c) (hlen : (Lib.join (xs.map (·.data.toList)) sep.data.toList).length ≤ 140737488355328) :
   Calls Tryz.prog 23 #[.slice (some ⟨bk, o, none⟩) xs.length c, .string sep] w fun e w' => e = .returned (.string ⟨(Lib.join (xs.map (·.data.toList)) sep.data.toList).toArray⟩) ∧ Below w.heap.size w w' := Any.strings_Join Tryz.lays156 Tryz.Builder_Extra_156 bk o c xs sep w hcells hbk hN hcap hlen
def Tryz.laysM173_ren : Go.Shelf.Ren := ⟨fun | 173 => 80 | 246 => 94 | 283 => 103 | 284 => 104 | 285 => 105 | 286 => 106 | 129 => 115 | 317 => 114 | 318 => 116 | 319 => 117 | 320 => 118 | 337 => 121 | 338 => 122 | n => n, fun | 2 => 2 | 3 => 3 | 9 => 9 | 4 => 4 | 171 => 145 | 0 => 0 | 53 => 146 | 37 => 62 | 5 => 5 | 173 => 149 | 212 => 156 | 51 => 157 | 20 => 20 | 213 => 158 | 46 => 160 | 232 => 166 | 233 => 167 | n => n, fun | 17 => 1 | 18 => 2 | 19 => 3 | n => n⟩
theorem Tryz.laysM173 : Go.Proofs.LaysM.n173 Tryz.prog Tryz.laysM173_ren := {
 mixed := by kernel_rfl
 f129 := Tryz.func115.trans (congrArg some (by kernel_rfl))
 f173 := Tryz.func80.trans (congrArg some (by kernel_rfl))
 f246 := Tryz.func94.trans (congrArg some (by kernel_rfl))
 f283 := Tryz.func103.trans (congrArg some (by kernel_rfl))
 f284 := Tryz.func104.trans (congrArg some (by kernel_rfl))
 f285 := Tryz.func105.trans (congrArg some (by kernel_rfl))
 f286 := Tryz.func106.trans (congrArg some (by kernel_rfl))
 f317 := Tryz.func114.trans (congrArg some (by kernel_rfl))
 f318 := Tryz.func116.trans (congrArg some (by kernel_rfl))
 f319 := Tryz.func117.trans (congrArg some (by kernel_rfl))
 f320 := Tryz.func118.trans (congrArg some (by kernel_rfl))
 f337 := Tryz.func121.trans (congrArg some (by kernel_rfl))
 f338 := Tryz.func122.trans (congrArg some (by kernel_rfl))
 t0 := Tryz.underlying0
 a0 := Tryz.isAgg0
 z0 := Tryz.sizeOf0
 v0 := Tryz.zeroValue0
 t2 := Tryz.underlying2
 a2 := Tryz.isAgg2
 z2 := Tryz.sizeOf2
 v2 := Tryz.zeroValue2
 t3 := Tryz.underlying3
 a3 := Tryz.isAgg3
 z3 := Tryz.sizeOf3
 v3 := Tryz.zeroValue3
 t4 := Tryz.underlying4
 a4 := Tryz.isAgg4
 z4 := Tryz.sizeOf4
 v4 := Tryz.zeroValue4
 t5 := Tryz.underlying5
 a5 := Tryz.isAgg5
 z5 := Tryz.sizeOf5
 v5 := Tryz.zeroValue5
 t9 := Tryz.underlying9
 a9 := Tryz.isAgg9
 z9 := Tryz.sizeOf9
 v9 := Tryz.zeroValue9
 t20 := Tryz.underlying20
 a20 := Tryz.isAgg20
 z20 := Tryz.sizeOf20
 v20 := Tryz.zeroValue20
 t37 := Tryz.underlying62
 a37 := Tryz.isAgg62
 z37 := Tryz.sizeOf62
 v37 := Tryz.zeroValue62
 t46 := Tryz.underlying160
 a46 := Tryz.isAgg160
 z46 := Tryz.sizeOf160
 v46 := Tryz.zeroValue160
 t51 := Tryz.underlying157
 a51 := Tryz.isAgg157
 z51 := Tryz.sizeOf157
 v51 := Tryz.zeroValue157
 t53 := Tryz.underlying146
 a53 := Tryz.isAgg146
 z53 := Tryz.sizeOf146
 v53 := Tryz.zeroValue146
 t171 := Tryz.underlying145
 a171 := Tryz.isAgg145
 z171 := Tryz.sizeOf145
 v171 := Tryz.zeroValue145
 t173 := Tryz.underlying149
 a173 := Tryz.isAgg149
 z173 := Tryz.sizeOf149
 v173 := Tryz.zeroValue149
 t212 := Tryz.underlying156
 a212 := Tryz.isAgg156
 z212 := Tryz.sizeOf156
 v212 := Tryz.zeroValue156
 t213 := Tryz.underlying158
 a213 := Tryz.isAgg158
 z213 := Tryz.sizeOf158
 t232 := Tryz.underlying166
 a232 := Tryz.isAgg166
 z232 := Tryz.sizeOf166
 v232 := Tryz.zeroValue166
 t233 := Tryz.underlying167
 a233 := Tryz.isAgg167
 z233 := Tryz.sizeOf167
 v233 := Tryz.zeroValue167
 g17 := by kernel_rfl
 g18 := by kernel_rfl
 g19 := by kernel_rfl
 i0 := by kernel_rfl
 i2 := by kernel_rfl
 i3 := by kernel_rfl
 i4 := by kernel_rfl
 i5 := by kernel_rfl
 i9 := by kernel_rfl
 i20 := by kernel_rfl
 i37 := by kernel_rfl
 i46 := by kernel_rfl
 i51 := by kernel_rfl
 i53 := by kernel_rfl
 i171 := by kernel_rfl
 i173 := by kernel_rfl
 i212 := by kernel_rfl
 i232 := by kernel_rfl
 i233 := by kernel_rfl
 m17 := by kernel_rfl
 m18 := by kernel_rfl
 m19 := by kernel_rfl }
open Go.RowKit Go.Sort Go.Lib in
theorem Tryz.strconv_FormatInt_10 (n : Int) (h0 : -9223372036854775808 ≤ n) (h1 : n ≤ 9223372036854775807) (w : World) (htab : Lib.TabIs Tryz.prog w "internal/strconv.uint64pow10" .u64 Lib.pow10Tab) :
   Calls Tryz.prog 80 #[.int .i64 n, .int .i64 10] w fun e w' => e = .returned (.string ⟨(Lib.itoa n).toArray⟩) ∧ ∃ k os, w' = grow (w.drewN k) os := Any.strconv_FormatInt_10 Tryz.laysM173 n h0 h1 w htab
end Go.Proofs

/-! Prim -/

namespace Go.Abs
open Go.Proofs

theorem Rel.below {M : Map} {s : St} {w w' : World} (r : Rel M s w) (b : RowKit.Below w.heap.size w w') : Rel M s w' ∧ Ext M s w M s w' := by
 have old : ∀ k, k < w.heap.size → w'.heap[k]? = w.heap[k]? := b.block
 refine ⟨⟨fun p o v e => ?_, fun o ds e => ?_, r.objG, r.inj, fun t n e => ?_, r.tokObj, r.tokInj⟩, ⟨Le.refl M s, fun k hk _ _ => old k hk, fun o h h' => by omega, fun t b c z h e => .inl ⟨h, c, z, e⟩, fun _ _ h => (h rfl).elim, b.size, b.os, b.tape, b.output⟩⟩
 · obtain ⟨h1, h2⟩ := r.comm p o v e
   refine ⟨?_, h2⟩
   rw [← h1]
   simp only [World.cell?, old _ (r.G_lt e)]
 · obtain ⟨vs, T, h1, h2⟩ := r.obj o ds e
   exact ⟨vs, T, by rw [old _ (lt_of_heap h1)]; exact h1, h2⟩
 · rcases r.tok t n e with h | ⟨p, cap, z, vs, T, h1, h2, h3⟩
   · exact .inl h
   · exact .inr ⟨p, cap, z, vs, T, h1, by rw [old _ (lt_of_heap h2)]; exact h2, h3⟩

theorem Fun.ofBelow {P : Program} {f : Nat} {args : List D} {s : St} {d : D} (h : ∀ (M : Map) (w : World) (vargs : Array Value), Rel M s w → Laid M s w → vargs.size = args.length →
     (∀ (i : Nat) (d : D) (v : Value), args[i]? = some d → vargs[i]? = some v → RD M s d v) → Calls P f vargs w fun e w' => ∃ v, e = .returned v ∧ RD M s d v ∧ RowKit.Below w.heap.size w w') : Fun P f args s d s := by
 intro M w vargs r hl hs ha
 refine (h M w vargs r hl hs ha).mono fun e w' ⟨v, h1, h2, h3⟩ => ?_
 obtain ⟨r', e'⟩ := r.below h3
 exact ⟨M, d, v, s, h1, ⟨rfl, rfl⟩, e', r', h2⟩

theorem two_args {M : Map} {s : St} {a b : D} {vargs : Array Value} (hs : vargs.size = [a, b].length) (ha : ∀ (i : Nat) (d : D) (v : Value), [a, b][i]? = some d → vargs[i]? = some v → RD M s d v) :
   ∃ x y, vargs = #[x, y] ∧ RD M s a x ∧ RD M s b y := by
 obtain ⟨l⟩ := vargs
 match l, hs, ha with
 | [x, y], _, ha => exact ⟨x, y, rfl, ha 0 a x rfl rfl, ha 1 b y rfl rfl⟩
theorem one_arg {M : Map} {s : St} {a : D} {vargs : Array Value} (hs : vargs.size = [a].length) (ha : ∀ (i : Nat) (d : D) (v : Value), [a][i]? = some d → vargs[i]? = some v → RD M s d v) :
   ∃ x, vargs = #[x] ∧ RD M s a x := by
 obtain ⟨l⟩ := vargs
 match l, hs, ha with
 | [x], _, ha => exact ⟨x, rfl, ha 0 a x rfl rfl⟩

/-! ### Numbers -/

theorem tab_of {M : Map} {s : St} {w : World} (h : Laid M s w) : Lib.TabIs Tryz.prog w "internal/strconv.uint64pow10" .u64 Lib.pow10Tab := by
 obtain ⟨⟨T, fr, h1⟩, _⟩ := h gPow _ tabs_pow
 have hg : Tryz.prog.globalNamed "internal/strconv.uint64pow10" = some gPow := by kernel_rfl
 unfold Lib.TabIs World.var?
 rw [hg]
 simp only [Option.bind_some, h1]

theorem below_grow (w : World) (k : Nat) (os : Array Obj) : RowKit.Below w.heap.size w (Sort.grow (w.drewN k) os) :=
 ⟨rfl, rfl, rfl, by simp [Sort.grow, World.drewN], fun i hi => by simp [Sort.grow, World.drewN, Array.getElem?_append_left hi]⟩

theorem FormatInt_s {n : Int} (h0 : -9223372036854775808 ≤ n) (h1 : n ≤ 9223372036854775807) (s : St) : Fun Tryz.prog n_strconv_FormatInt [.int .i64 n, .int .i64 10] s (.str (Lib.itoa n)) s := by
 refine Fun.ofBelow fun M w vargs r hl hs ha => ?_
 obtain ⟨x, y, rfl, hx, hy⟩ := two_args hs ha
 rw [hx.int_inv, hy.int_inv]
 refine (Tryz.strconv_FormatInt_10 n h0 h1 w (tab_of hl)).mono fun e w' ⟨h, k, os, hw⟩ => ⟨_, h, .str _, ?_⟩
 subst hw
 exact below_grow w k os

/-! ### Join -/

theorem map_mk (l : List Str) : (l.map fun t => (⟨⟨t⟩⟩ : ByteArray)).map (·.data.toList) = l := by
 rw [List.map_map]
 have : ((fun b : ByteArray => b.data.toList) ∘ fun t : Str => (⟨⟨t⟩⟩ : ByteArray)) = id := rfl
 rw [this, List.map_id]

theorem Join_s {l : List Str} {sep : Str} (hn : l.length ≤ 140737488355328) (hlen : (Lib.join l sep).length ≤ 140737488355328) (g : Tag) (s : St) : Fun Tryz.prog n_strings_Join [.slice g 1 (l.map encStr), .str sep] s (.str (Lib.join l sep)) s := by
 refine Fun.ofBelow fun M w vargs r hl hs ha => ?_
 obtain ⟨x, y, rfl, hx, hy⟩ := two_args hs ha
 rw [hy.str_inv]
 rcases hx.slice_inv with ⟨h0, rfl, _⟩ | ⟨h0, _, a, cap, rfl⟩ | ⟨b, q, cap, rfl, hc, hsz, g1, g2, _⟩
 · have : l = [] := by simpa using h0
   subst this
   refine (Tryz.strings_Join_none none 0 ⟨⟨sep⟩⟩ w).mono fun e w' ⟨h, hw⟩ => ⟨_, h, ?_, hw ▸ RowKit.Below.refl _ _⟩
   exact .str _
 · have : l = [] := by simpa using h0
   subst this
   refine (Tryz.strings_Join_none (some a) cap ⟨⟨sep⟩⟩ w).mono fun e w' ⟨h, hw⟩ => ⟨_, h, ?_, hw ▸ RowKit.Below.refl _ _⟩
   exact .str _
 · cases hl0 : l with
   | nil =>
     refine (Tryz.strings_Join_none (some ⟨b, q, none⟩) cap ⟨⟨sep⟩⟩ w).mono fun e w' ⟨h, hw⟩ => ⟨_, h, ?_, hw ▸ RowKit.Below.refl _ _⟩
     exact .str _
   | cons t r' =>
     rw [← hl0]
     have cell : ∀ (j : Nat) (x : ByteArray), (l.map fun t => (⟨⟨t⟩⟩ : ByteArray))[j]? = some x → w.cell? ⟨b, q + j, none⟩ = some (.string x) := by
       intro j x hj
       rw [List.getElem?_map, Option.map_eq_some_iff] at hj
       obtain ⟨t, ht, rfl⟩ := hj
       obtain ⟨u, hu⟩ := g1 j (encStr t) 0 (.str t) (by rw [List.getElem?_map, ht]; rfl) rfl
       have hv := g2 j (encStr t) 0 (.str t) u (by rw [List.getElem?_map, ht]; rfl) rfl hu
       have := (r.comm _ _ _ hu).1
       rw [hv.str_inv] at this
       simpa using this
     have hb : b < w.heap.size := by
       have := cell 0 ⟨⟨t⟩⟩ (by rw [hl0]; rfl)
       exact World.block_lt_of_cell? w _ this
     have key := Tryz.strings_Join b q cap (l.map fun t => (⟨⟨t⟩⟩ : ByteArray)) ⟨⟨sep⟩⟩ w cell hb (by simpa using hn) (by simpa using hc) (by rw [map_mk]; exact hlen)
     simp only [List.length_map, map_mk] at key ⊢
     exact key.mono fun e w' ⟨h, hw⟩ => ⟨_, h, .str _, hw⟩

end Go.Abs

/-! Prim2 -/

namespace Go.Abs
open Go.Proofs Go.RowKit

theorem bld_info : ∃ j, Tryz.prog.info? 64 = some j ∧ j.size = 2 := by
 have h : (Tryz.prog.info? 64).map (·.size) = some 2 := by kernel_rfl
 obtain ⟨j, h1, h2⟩ := Option.map_eq_some_iff.1 h
 exact ⟨j, h1, h2⟩

set_option maxHeartbeats 1000000 in
set_option maxRecDepth 100000 in
theorem copyCheck_used (b : Nat) (w : World) (h0 : w.cell? ⟨b, 0, none⟩ = some (.pointer (some ⟨b, 0, none⟩))) :
   Calls Tryz.prog 83 #[.pointer (some ⟨b, 0, none⟩)] w fun e w' => e = .returned (.tuple #[]) ∧ w' = w := by
 obtain ⟨j, hj, _⟩ := bld_info
 go_enter Tryz.func83, Tryz.ntmps83
 go_wp2
 rw [Lib.run_neq_ptr_same w _ Tryz.underlying61 hj]
 go_wp2
 go_end0
 exact ⟨rfl, rfl⟩

set_option maxHeartbeats 1000000 in
set_option maxRecDepth 100000 in
theorem copyCheck_fresh (b T n : Nat) (w : World) (h0 : w.cell? ⟨b, 0, none⟩ = some (.pointer none)) (hsh : w.shape? b = some (T, n)) (hn : 0 < n) (hfz : w.frozen? ⟨b, 0, none⟩ = false)
   (hlies : liesAt Tryz.prog Tryz.prog.depth T (n / Tryz.prog.cellsOf T) 0 64 1 = true) :
   Calls Tryz.prog 83 #[.pointer (some ⟨b, 0, none⟩)] w fun e w' => e = .returned (.tuple #[]) ∧ w' = w.setCell ⟨b, 0, none⟩ (.pointer (some ⟨b, 0, none⟩)) := by
 obtain ⟨j, hj, hjs⟩ := bld_info
 go_enter Tryz.func83, Tryz.ntmps83
 go_wp2
 rw [Lib.run_to_unsafe w ⟨b, 0, none⟩ Tryz.underlying61 Tryz.underlying140 hj (by rw [hjs]; decide) hsh hn]
 simp only [Result.andThen]
 rw [Oper.upon_value]
 go_wp2
 rw [run_callFunc_extern Tryz.func98 (by kernel_rfl) (by kernel_rfl) (by kernel_rfl) (e := Extern.AbiNoEscape.same) (by kernel_rfl)]
 rw [Lib.run_noEscape]
 simp only [Result.andThen]
 rw [Oper.upon_value]
 go_wp2
 rw [Lib.run_from_unsafe w ⟨b, 0, none⟩ Tryz.underlying140 Tryz.underlying61 hj hsh hlies]
 simp only [Result.andThen]
 rw [Oper.upon_value]
 go_wp2
 go_end0
 exact ⟨rfl, rfl⟩

set_option maxHeartbeats 1000000 in
set_option maxRecDepth 100000 in
theorem String_run (b g cap cells : Nat) (l : List UInt8) (h0 : l ≠ []) (w : World) (c1 : w.cell? ⟨b, 1, none⟩ = some (.slice (some ⟨g, 0, none⟩) l.length cap)) (hcap : cap ≠ 0)
   (hsh : w.shape? g = some (5, cells)) (hn : l.length ≤ cells) (h63 : l.length ≤ 9223372036854775807) (hcell : ∀ j x, l[j]? = some x → w.cell? ((⟨g, 0, none⟩ : Addr).add j) = some (.int .u8 x.toNat)) :
   Calls Tryz.prog 27 #[.pointer (some ⟨b, 0, none⟩)] w fun e w' => e = .returned (.string ⟨l.toArray⟩) ∧ w' = w.drew.freeze ⟨g, 0, none⟩ l.length := by
 have c1 : w.drew.cell? ⟨b, 1, none⟩ = some (.slice (some ⟨g, 0, none⟩) l.length cap) := c1
 have hSD : (Builtin.unsafeSliceData_ #[62] 113 #[.slice (some ⟨g, 0, none⟩) l.length cap]).run Tryz.prog w.drew = .ok (.pointer (some ⟨g, 0, none⟩)) w.drew :=
   Lib.run_unsafeSliceData_row _ _ _ _ _ _ hcap
 have hUS : (Builtin.unsafeString_ #[113, 3] 9 #[.pointer (some ⟨g, 0, none⟩), .int .i64 l.length]).run Tryz.prog w.drew = .ok (.string ⟨l.toArray⟩) (w.drew.freeze ⟨g, 0, none⟩ l.length) :=
   Lib.run_unsafeString_row w.drew 113 3 9 5 Tryz.underlying113 (by kernel_rfl) g cells hsh l h0 hn h63 hcell
 go_enter Tryz.func27, Tryz.ntmps27
 go_wp2
 go_region
 all_goals (go_wp2; go_ret; exact ⟨rfl, rfl⟩)

set_option maxHeartbeats 1000000 in
set_option maxRecDepth 100000 in
theorem String_run0 (b : Nat) (w : World) (c1 : w.cell? ⟨b, 1, none⟩ = some (.slice none 0 0)) :
   Calls Tryz.prog 27 #[.pointer (some ⟨b, 0, none⟩)] w fun e w' => e = .returned (.string ⟨#[]⟩) ∧ w' = w.drew := by
 have c1 : w.drew.cell? ⟨b, 1, none⟩ = some (.slice none 0 0) := c1
 have hUS := fun (W : World) (q : Option Addr) => Lib.run_unsafeString_none (P := Tryz.prog) W 113 3 9 q
 have hSD : (Builtin.unsafeSliceData_ #[62] 113 #[.slice none 0 0]).run Tryz.prog w.drew = .ok (.pointer none) w.drew := rfl
 go_enter Tryz.func27, Tryz.ntmps27
 go_wp2
 go_region
 all_goals (go_wp2; go_ret; exact ⟨rfl, rfl⟩)

set_option maxHeartbeats 2000000 in
set_option maxRecDepth 100000 in
theorem String_room (b g cap : Nat) (w : World) (hc0 : cap ≠ 0) (c1 : w.cell? ⟨b, 1, none⟩ = some (.slice (some ⟨g, 0, none⟩) 0 cap)) :
   Calls Tryz.prog 27 #[.pointer (some ⟨b, 0, none⟩)] w fun e w' => e = .returned (.string ⟨#[]⟩) ∧ RowKit.Below w.heap.size w w' := by
 have c1 : w.drew.cell? ⟨b, 1, none⟩ = some (.slice (some ⟨g, 0, none⟩) 0 cap) := c1
 have hUS := fun (W : World) (q : Option Addr) => Lib.run_unsafeString_none (P := Tryz.prog) W 113 3 9 q
 have hSD : (Builtin.unsafeSliceData_ #[62] 113 #[.slice (some ⟨g, 0, none⟩) 0 cap]).run Tryz.prog w.drew = .ok (.pointer (some ⟨g, 0, none⟩)) w.drew :=
   Lib.run_unsafeSliceData_row _ _ _ _ _ _ hc0
 clear hc0
 go_enter Tryz.func27, Tryz.ntmps27
 go_wp2
 go_region
 all_goals (go_wp2; go_ret; exact ⟨rfl, RowKit.Below.drew (RowKit.Below.refl _ w)⟩)

set_option maxHeartbeats 2000000 in
set_option maxRecDepth 100000 in
theorem String_noroom (b g n : Nat) (T : TypeId) (w : World) (hH : b < w.heap.size) (c1 : w.cell? ⟨b, 1, none⟩ = some (.slice (some ⟨g, 0, none⟩) 0 0)) (hsh : w.shape? g = some (T, n)) :
   Calls Tryz.prog 27 #[.pointer (some ⟨b, 0, none⟩)] w fun e w' => e = .returned (.string ⟨#[]⟩) ∧ RowKit.Below w.heap.size w w' := by
 have c0 := c1
 have c1 : w.drew.cell? ⟨b, 1, none⟩ = some (.slice (some ⟨g, 0, none⟩) 0 0) := c1
 have hUS := fun (W : World) (q : Option Addr) => Lib.run_unsafeString_none (P := Tryz.prog) W 113 3 9 q
 have hSD : (Builtin.unsafeSliceData_ #[62] 113 #[.slice (some ⟨g, 0, none⟩) 0 0]).run Tryz.prog w.drew = .ok (.pointer (some ⟨w.drew.heap.size, 0, none⟩)) (w.drew.alloc (.view ⟨g, 0, none⟩ 5)) :=
   Lib.run_unsafeSliceData_zero w.drew _ _ 5 Tryz.underlying113 ⟨g, 0, none⟩ 0 (T, n) hsh
 have c2 : (w.drew.alloc (.view ⟨g, 0, none⟩ 5)).cell? ⟨b, 1, none⟩ = some (.slice (some ⟨g, 0, none⟩) 0 0) := by
   rw [World.cell?_alloc_lt]
   · exact c1
   · exact hH
 have c3 : (w.alloc (.view ⟨g, 0, none⟩ 5)).drew.cell? ⟨b, 1, none⟩ = some (.slice (some ⟨g, 0, none⟩) 0 0) := c2
 go_enter Tryz.func27, Tryz.ntmps27
 go_wp2
 go_region
 all_goals (go_wp2; go_ret; exact ⟨rfl, (RowKit.Below.drew (RowKit.Below.refl _ w)).alloc (Nat.le_refl _) _⟩)

/-! ### On abstract states -/

theorem copyCheck_s {T : TypeId} {s : St} {o : Nat} {r : List D} (ho : s.objs[o]? = some (.selfp T o :: r)) (hr : r.length = 1) (hlies : liesAt Tryz.prog Tryz.prog.depth T (2 / Tryz.prog.cellsOf T) 0 64 1 = true) :
   Fun Tryz.prog n_strings_Builder_copyCheck [.ptr o 0] s (.tuple []) s := by
 intro M w vargs rel hl hs ha
 obtain ⟨x, rfl, hx⟩ := one_arg hs ha
 obtain ⟨rfl, hH⟩ := hx.ptr_inv
 obtain ⟨vs, T', hh, hsz, ⟨hone, hty⟩, hrd⟩ := rel.obj o _ ho
 simp only [List.length_cons, hr] at hsz
 obtain ⟨v, hv⟩ : ∃ v, vs[0]? = some v := ⟨_, Array.getElem?_eq_getElem (by omega)⟩
 have h0 := hrd 0 _ v rfl hv
 have hc0 : w.cell? ⟨M.mu o, 0, none⟩ = some v := by rw [cell?_row hh]; exact hv
 have hinv : M.ty o = some T ∧ (v = .pointer none ∨ v = .pointer (some ⟨M.mu o, 0, none⟩)) := by
   cases h0 with
   | selfp _ _ _ _ h1 h2 => exact ⟨h1, h2⟩
 obtain ⟨hT, hvv⟩ := hinv
 have := hty T hT
 subst this
 rcases hvv with rfl | rfl
 · have hsh : w.shape? (M.mu o) = some (T, 2) := by simp [World.shape?, hh, hsz]
   have hfz : w.frozen? ⟨M.mu o, 0, none⟩ = false := by simp [World.frozen?, hh]
   refine (copyCheck_fresh (M.mu o) T 2 w hc0 hsh (by omega) hfz hlies).mono fun e w' ⟨h1, h2⟩ => ?_
   obtain ⟨w2, g1, g2, g3⟩ := rel.setO Tryz.prog (off := 0) ho [.selfp T o] [.pointer (some ⟨M.mu o, 0, none⟩)] rfl (by simp) (fun u hu => by simp at hu; subst hu; rfl) (fun i d u e1 e2 => by
     cases i with
     | zero => simp at e1 e2; subst e1 e2; exact .selfp T o _ hH hT (.inr rfl)
     | succ i => simp at e1)
   have hset : ({ s with objs := s.objs.set o (splice (.selfp T o :: r) 0 [.selfp T o]) } : St) = s := by
     have e1 : splice (.selfp T o :: r) 0 [.selfp T o] = .selfp T o :: r := by simp [splice]
     rw [e1]
     have : s.objs.set o (.selfp T o :: r) = s.objs := by
       apply List.ext_getElem?
       intro i
       rw [List.getElem?_set]
       by_cases hi : o = i
       · subst hi; rw [if_pos rfl, if_pos hH, ho]
       · rw [if_neg hi]
     rw [this]
   rw [hset] at g2 g3
   have hw : w2 = w' := by
     rw [h2]
     have hk := run_storeCells_at Tryz.prog (M.mu o) 0 T [.pointer (some ⟨M.mu o, 0, none⟩)] 0 vs w hh (by simp; omega) (fun u hu => by simp at hu; subst hu; rfl)
     simp only [Nat.add_zero] at hk
     rw [g1] at hk
     have hk := (Result.ok.inj hk).2
     have earr : ∀ (p : Value), (vs.toList.take 0 ++ [p] ++ vs.toList.drop (0 + [p].length)).toArray = vs.setIfInBounds 0 p := by
       intro p
       obtain ⟨a, b, e⟩ : ∃ a b, vs.toList = [a, b] := by
         have : vs.toList.length = 2 := by simpa using hsz
         match h : vs.toList, this with
         | [a, b], _ => exact ⟨a, b, rfl⟩
       have e' : vs = #[a, b] := by rw [← Array.toArray_toList (xs := vs), e]
       subst e'
       rfl
     rw [earr] at hk
     exact hk.trans (setCell_eq_setRow w (M.mu o) 0 vs T (0, 0) _ hh).symm
   subst hw
   exact ⟨M, _, _, s, h1, ⟨rfl, rfl⟩, g3, g2, .undef⟩
 · refine (copyCheck_used (M.mu o) w hc0).mono fun e w' ⟨h1, h2⟩ => ?_
   subst h2
   exact ⟨M, _, _, s, h1, ⟨rfl, rfl⟩, Ext.refl M s w', rel, .undef⟩

def encBy (l : Str) : List (List D) := l.map fun c => [.int .u8 c.toNat]

theorem String_ne {s : St} {o t : Nat} {c0 : D} {l : Str} (h0 : l ≠ []) (ho : s.objs[o]? = some [c0, .slice (.tok t true) 1 (encBy l)]) (ht : s.toks[t]? = some (some l.length)) (h63 : l.length ≤ 9223372036854775807) :
   Fun Tryz.prog n_strings_Builder_String [.ptr o 0] s (.str l) { s with toks := s.toks.set t none } := by
 intro M w vargs rel hl hs ha
 obtain ⟨x, rfl, hx⟩ := one_arg hs ha
 obtain ⟨rfl, hH⟩ := hx.ptr_inv
 obtain ⟨vs, T', hh, hsz, _, hrd⟩ := rel.obj o _ ho
 simp only [List.length_cons, List.length_nil] at hsz
 obtain ⟨v, hv⟩ : ∃ v, vs[1]? = some v := ⟨_, Array.getElem?_eq_getElem (by omega)⟩
 have hv1 := hrd 1 _ v rfl hv
 have hne : encBy l ≠ [] := by simpa [encBy] using h0
 have hlen : (encBy l).length = l.length := by simp [encBy]
 rcases hv1.slice_inv with ⟨h, _, _⟩ | ⟨h, _, _⟩ | ⟨b, k, cap, rfl, hl2, hsz2, g1, g2, htag⟩
 · exact (hne h).elim
 · exact (hne h).elim
 obtain ⟨_, h2⟩ := htag
 obtain ⟨_, h3⟩ := h2 _ ht
 have hl0 : l.length ≠ 0 := by simpa using h0
 rcases h3 hlen with ⟨_, h4⟩ | ⟨b2, h4, hbe⟩
 · omega
 cases h4
 obtain ⟨r1, l1⟩ := rel.dropT t
 rcases rel.tok t l.length ht with ⟨h4, _⟩ | ⟨b', cap', z', vs', T2, h4, h5, h6, h7, h8, h9⟩
 · rw [hbe] at h4; cases h4
 rw [hbe] at h4; cases h4
 have hT2 : T2 = byteT := h9 rfl
 have hz1 : zs (bz true 1) = 1 := rfl
 rw [hz1, Nat.mul_one] at h6
 have hlive : ∀ p, St.live { s with toks := s.toks.set t none } p → p ≠ t ∧ s.live p := by
   rintro p ⟨n, hn⟩
   rw [List.getElem?_set] at hn
   split at hn
   · simp at hn
   · rename_i hne; exact ⟨fun h => hne h.symm, n, hn⟩
 obtain ⟨r2, hh2, hs', hos, htp, hout⟩ := r1.freeze (b := b) 0 l.length (fun o ho => rel.tokObj t b cap _ o ⟨_, ht⟩ hbe ho)
   (fun p c y hp heq => (hlive p hp).1 (rel.tokInj p t b c y cap _ (hlive p hp).2 ⟨_, ht⟩ heq hbe))
 have hcell : ∀ j x, l[j]? = some x → w.cell? ((⟨b, 0, none⟩ : Addr).add j) = some (.int .u8 x.toNat) := by
   intro j x hj
   have e1 : (encBy l)[j]? = some [.int .u8 x.toNat] := by simp [encBy, hj]
   obtain ⟨u, hu⟩ := g1 j _ 0 _ e1 rfl
   have hr := g2 j _ 0 _ u e1 rfl hu
   have hc := (rel.comm _ _ _ hu).1
   rw [hr.int_inv] at hc
   rw [addr_add]
   simpa using hc
 have hshape : w.shape? b = some (5, cap) := by
   have : byteT = 5 := rfl
   simp [World.shape?, h5, h6, hT2, this]
 refine (String_run (M.mu o) b cap cap l h0 w (by rw [cell?_row hh, hv, hlen]) (by omega) hshape (by omega) h63 hcell).mono fun e w' ⟨e1, e2⟩ => ?_
 have hheap : w'.heap = (w.freeze ⟨b, 0, none⟩ l.length).heap := by
   subst e2
   simp only [World.freeze]
   split <;> rfl
 have hw' : w'.os = w.os ∧ w'.tape = w.tape ∧ w'.output = w.output := by
   subst e2
   simp only [World.freeze]
   split <;> exact ⟨rfl, rfl, rfl⟩
 refine ⟨M, _, _, _, e1, ⟨rfl, rfl⟩, ?_, r2.of_heap hheap, .str _⟩
 refine ⟨l1, fun p _ _ h4 => ?_, fun o h3 h4 => ?_, fun p b' c y hp heq => .inl ⟨(hlive p hp).2, c, y, heq⟩, fun _ _ h => (h rfl).elim, ?_, hw'.1, hw'.2.1, hw'.2.2⟩
 · rw [hheap]
   exact hh2 p (fun e => h4 t cap _ ⟨_, ht⟩ (by rw [hbe, e]))
 · simp at h4; omega
 · rw [hheap, hs']; exact Nat.le_refl _

theorem String_e {s : St} {o t : Nat} {c0 : D} (ho : s.objs[o]? = some [c0, .slice (.tok t true) 1 []]) (ht : s.toks[t]? = some (some 0)) :
   Fun Tryz.prog n_strings_Builder_String [.ptr o 0] s (.str []) s := by
 refine Fun.ofBelow fun M w vargs rel hl hs ha => ?_
 obtain ⟨x, rfl, hx⟩ := one_arg hs ha
 obtain ⟨rfl, hH⟩ := hx.ptr_inv
 obtain ⟨vs, T', hh, hsz, _, hrd⟩ := rel.obj o _ ho
 simp only [List.length_cons, List.length_nil] at hsz
 obtain ⟨v, hv⟩ : ∃ v, vs[1]? = some v := ⟨_, Array.getElem?_eq_getElem (by omega)⟩
 have hv1 := hrd 1 _ v rfl hv
 have c1 : w.cell? ⟨M.mu o, 1, none⟩ = some v := by rw [cell?_row hh]; exact hv
 rcases hv1.slice_inv with ⟨_, rfl, _⟩ | ⟨_, h, _⟩ | ⟨b, k, cap, rfl, hl2, hsz2, g1, g2, htag⟩
 · refine (String_run0 (M.mu o) w c1).mono fun e w' ⟨h1, h2⟩ => ⟨_, h1, .str _, ?_⟩
   subst h2
   exact ⟨rfl, rfl, rfl, Nat.le_refl _, fun _ _ => rfl⟩
 · cases h
 obtain ⟨_, h2⟩ := htag
 obtain ⟨_, h3⟩ := h2 _ ht
 rcases h3 rfl with ⟨_, _, h4⟩ | ⟨b2, h4, hbe⟩
 · cases h4 rfl
 cases h4
 rcases rel.tok t 0 ht with ⟨h4, _⟩ | ⟨b', cap', z', vs', T2, h4, h5, h6, h7, h8, h9⟩
 · rw [hbe] at h4; cases h4
 rw [hbe] at h4; cases h4
 by_cases hc : cap = 0
 · subst hc
   refine (String_noroom (M.mu o) b vs'.size T2 w (lt_of_heap hh) c1 (by simp [World.shape?, h5])).mono fun e w' ⟨h1, h2⟩ => ⟨_, h1, .str _, h2⟩
 · refine (String_room (M.mu o) b cap w hc c1).mono fun e w' ⟨h1, h2⟩ => ⟨_, h1, .str _, h2⟩

theorem Fun.drop {P : Program} {f : Nat} {args : List D} {s s' : St} {d : D} (t : Nat) (h : Fun P f args s d s') : Fun P f args s d { s' with toks := s'.toks.set t none } := by
 intro M w vargs r hl hs ha
 refine (h M w vargs r hl hs ha).mono fun e w' ⟨M', d', v, s1, h1, ⟨h2, h3⟩, h4, h5, h6⟩ => ?_
 subst h2 h3
 obtain ⟨r', le⟩ := h5.dropT t
 refine ⟨M', d', v, _, h1, ⟨rfl, rfl⟩, h4.trans ⟨le, fun _ _ _ _ => rfl, fun o h1 h2 => absurd h2 (Nat.not_lt.2 h1), fun q b c z hl e => .inl ⟨?_, c, z, e⟩, fun _ _ h => (h rfl).elim, Nat.le_refl _, rfl, rfl, rfl⟩, r', h6.mono le⟩
 obtain ⟨k, hk⟩ := hl
 rw [List.getElem?_set] at hk
 split at hk
 · simp at hk
 · exact ⟨k, hk⟩

theorem String_s {s : St} {o t : Nat} {c0 : D} (l : Str) (ho : s.objs[o]? = some [c0, .slice (.tok t true) 1 (encBy l)]) (ht : s.toks[t]? = some (some l.length)) (h63 : l.length ≤ 9223372036854775807) :
   Fun Tryz.prog n_strings_Builder_String [.ptr o 0] s (.str l) { s with toks := s.toks.set t none } := by
 by_cases h0 : l = []
 · subst h0
   exact (String_e ho ht).drop t
 · exact String_ne h0 ho ht h63

end Go.Abs

/-! TMay1 -/

namespace Go.Abs

set_option maxRecDepth 8000
open Go.Proofs

theorem nameT_all {r : Str} : nameT r = true ↔ runL r = r.length := by
 induction r with
 | nil => simp [nameT, runL]
 | cons c r ih =>
   simp only [nameT, runL]
   cases h1 : isL c <;> cases h2 : isD c <;> simp [ih]

theorem Name_s (t : Str) (hl : t.length < 4611686018427387904) (s : St) : Fun Tryz.prog n_lex_Name [.str t] s (.bool (isName t)) s := by
 refine Fun.pure ?_ rfl rfl s
 have hr := fun s => run_s (pos := 0) hl s
 simp only [List.drop_zero, Nat.zero_add] at hr
 unfold S0
 cases t with
 | nil =>
   have z : decide (((0 : Nat) : Int) < 1) = true := rfl
   have z' : decide ((0 : Int) < 1) = true := rfl
   have e : isName [] = false := rfl
   rw [e]
   refine Fun.go has_lex_Name rfl fun B Q hB hQ => ?_
   have ⟨hH, hJ, hY, hZ⟩ := H4_
   repeat' (first
 | simp only [go_sem, hH, hJ, hY, hZ, z, z']
 | (with_reducible first | refine kT_ fun hc => ?_ | refine kF_ fun hc => ?_ | refine kS_ (fun hc => ?_) fun hc => ?_) <;> (try simp only [hc, bs, ↓reduceIte] at h) <;> try simp only [hc]
 | (with_reducible refine lA_ hQ ?_; (try cases h); simp only [resL, oneD, sI_, eL_, go_sem, hH, hJ, hY, hZ, z, z']; try exact lE_)
 | (cases h; replace h := hr; clear hr; (try simp only [bs, ↓reduceIte] at h))
 | (cases h; done))
 | cons c r =>
   have l1 : decide (((r.length + 1 : Nat) : Int) < 1) = false := by simp; omega
   generalize h : isName (c :: r) = p
   simp only [isName] at h
   cases hL : isL c
   · simp only [hL, Bool.not_false, Bool.or_true, ↓reduceIte] at h
     subst h
     by_cases c8 : decide (((r.length + 1 : Nat) : Int) > 8) = true
     · refine Fun.go has_lex_Name rfl fun B Q hB hQ => ?_
       have ⟨hH, hJ, hY, hZ⟩ := H4_
       repeat' (first
 | simp only [go_sem, hH, hJ, hY, hZ, l1, c8]
 | (with_reducible first | refine kT_ fun hc => ?_ | refine kF_ fun hc => ?_ | refine kS_ (fun hc => ?_) fun hc => ?_) <;> (try simp only [hc, bs, ↓reduceIte] at h) <;> try simp only [hc]
 | (with_reducible refine lA_ hQ ?_; (try cases h); simp only [resL, oneD, sI_, eL_, go_sem, hH, hJ, hY, hZ, l1, c8]; try exact lE_)
 | (cases h; replace h := hr; clear hr; (try simp only [bs, ↓reduceIte] at h))
 | (cases h; done))
     · have c8 : decide (((r.length + 1 : Nat) : Int) > 8) = false := by simpa using c8
       refine Fun.go has_lex_Name rfl fun B Q hB hQ => ?_
       have ⟨hH, hJ, hY, hZ⟩ := H4_
       repeat' (first
 | simp only [go_sem, hH, hJ, hY, hZ, l1, c8, hL]
 | (with_reducible refine CU (letter_s _ _) ?_)
 | (with_reducible first | refine kT_ fun hc => ?_ | refine kF_ fun hc => ?_ | refine kS_ (fun hc => ?_) fun hc => ?_) <;> (try simp only [hc, bs, ↓reduceIte] at h) <;> try simp only [hc]
 | (with_reducible refine lA_ hQ ?_; (try cases h); simp only [resL, oneD, sI_, eL_, go_sem, hH, hJ, hY, hZ, l1, c8, hL]; try exact lE_)
 | (cases h; replace h := hr; clear hr; (try simp only [bs, ↓reduceIte] at h))
 | (cases h; done))
   · simp only [hL, Bool.not_true, Bool.or_false] at h
     by_cases c8 : decide (((r.length + 1 : Nat) : Int) > 8) = true
     · simp only [c8, ↓reduceIte] at h
       subst h
       refine Fun.go has_lex_Name rfl fun B Q hB hQ => ?_
       have ⟨hH, hJ, hY, hZ⟩ := H4_
       repeat' (first
 | simp only [go_sem, hH, hJ, hY, hZ, l1, c8]
 | (with_reducible first | refine kT_ fun hc => ?_ | refine kF_ fun hc => ?_ | refine kS_ (fun hc => ?_) fun hc => ?_) <;> (try simp only [hc, bs, ↓reduceIte] at h) <;> try simp only [hc]
 | (with_reducible refine lA_ hQ ?_; (try cases h); simp only [resL, oneD, sI_, eL_, go_sem, hH, hJ, hY, hZ, l1, c8]; try exact lE_)
 | (cases h; replace h := hr; clear hr; (try simp only [bs, ↓reduceIte] at h))
 | (cases h; done))
     · have c8 : decide (((r.length + 1 : Nat) : Int) > 8) = false := by simpa using c8
       simp only [c8, Bool.false_eq_true, ↓reduceIte] at h
       have hrun : runL (c :: r) = runL r + 1 := by simp [runL, hL]
       cases hn : nameT r
       · simp only [hn, Bool.false_eq_true, ↓reduceIte] at h
         have : runL r ≠ r.length := fun e => by rw [nameT_all.2 e] at hn; cases hn
         have e : (((runL (c :: r) : Nat) : Int) == ((r.length + 1 : Nat) : Int)) = false := by rw [hrun]; simp; omega
         subst h
         refine Fun.go has_lex_Name rfl fun B Q hB hQ => ?_
         have ⟨hH, hJ, hY, hZ⟩ := H4_
         repeat' (first
 | simp only [go_sem, hH, hJ, hY, hZ, l1, c8, hL, e]
 | (with_reducible refine CU (letter_s _ _) ?_)
 | (with_reducible refine CU (hr _) ?_)
 | (with_reducible first | refine kT_ fun hc => ?_ | refine kF_ fun hc => ?_ | refine kS_ (fun hc => ?_) fun hc => ?_) <;> (try simp only [hc, bs, ↓reduceIte] at h) <;> try simp only [hc]
 | (with_reducible refine lA_ hQ ?_; (try cases h); simp only [resL, oneD, sI_, eL_, go_sem, hH, hJ, hY, hZ, l1, c8, hL, e]; try exact lE_)
 | (cases h; replace h := hr; clear hr; (try simp only [bs, ↓reduceIte] at h))
 | (cases h; done))
       · simp only [hn, ↓reduceIte] at h
         have := nameT_all.1 hn
         have e : (((runL (c :: r) : Nat) : Int) == ((r.length + 1 : Nat) : Int)) = true := by rw [hrun]; simp; omega
         subst h
         refine Fun.go has_lex_Name rfl fun B Q hB hQ => ?_
         have ⟨hH, hJ, hY, hZ⟩ := H4_
         repeat' (first
 | simp only [go_sem, hH, hJ, hY, hZ, l1, c8, hL, e]
 | (with_reducible refine CU (letter_s _ _) ?_)
 | (with_reducible refine CU (hr _) ?_)
 | (with_reducible refine CU (word_s _ _) ?_)
 | (with_reducible first | refine kT_ fun hc => ?_ | refine kF_ fun hc => ?_ | refine kS_ (fun hc => ?_) fun hc => ?_) <;> (try simp only [hc, bs, ↓reduceIte] at h) <;> try simp only [hc]
 | (with_reducible refine lA_ hQ ?_; (try cases h); simp only [resL, oneD, sI_, eL_, go_sem, hH, hJ, hY, hZ, l1, c8, hL, e]; try exact lE_)
 | (cases h; replace h := hr; clear hr; (try simp only [bs, ↓reduceIte] at h))
 | (cases h; done))

theorem tkids_s (op : Int) (s : St) : Fun Tryz.prog n_tree_kids [.int .i64 op] s (.int .i64 (arityI op)) s := by
 refine Fun.pure ?_ rfl rfl s
 unfold S0
 generalize h : arityI op = p
 unfold arityI at h
 refine Fun.go has_tree_kids rfl fun B Q hB hQ => ?_
 have ⟨hH, hJ, hY, hZ⟩ := H4_
 repeat' (first
 | simp only [go_sem, hH, hJ, hY, hZ]
 | (with_reducible first | refine kT_ fun hc => ?_ | refine kF_ fun hc => ?_ | refine kS_ (fun hc => ?_) fun hc => ?_) <;> (try simp only [hc, bs, ↓reduceIte] at h) <;> try simp only [hc]
 | (with_reducible refine lA_ hQ ?_; exact lY_)
 | (cases h; done))

theorem tnames_s {l : List Str} (hl : l.length < 4611686018427387904) (hs : ∀ t ∈ l, t.length < 4611686018427387904) (s : St) : Fun Tryz.prog n_tree_names [.slice .shared 1 (l.map encStr)] s (.bool (mayNames l)) s := by
 refine Fun.pure ?_ (by simp [D.oks, D.ok, okrStr, Tag.ok]) rfl s
 unfold S0
 generalize h : mayNames l = p
 refine Fun.go has_tree_names rfl fun B Q hB hQ => ?_
 have ⟨hH, hJ, hY, hZ⟩ := H4_
 repeat' (first
 | simp only [go_sem, hH, hJ, hY, hZ]
 | (with_reducible first | refine kT_ fun hc => ?_ | refine kF_ fun hc => ?_ | refine kS_ (fun hc => ?_) fun hc => ?_) <;> (try simp only [hc, bs, ↓reduceIte] at h) <;> try simp only [hc]
 | (with_reducible refine lA_ hQ ?_; exact lY_)
 | (cases h; done))
 refine rL_ 0 0 (SemL.ind (ι := List Str × Nat) (fun i => l.drop i.2 = i.1 ∧ mayNames i.1 = p) (fun i => i.1.length)
   (fun i => [(5, .slice .shared 1 (l.map encStr)), (6, .int .i64 (l.length : Int)), (7, .int .i64 (i.2 : Int))]) (fun i => ⟨[], []⟩) ?_ (l, 0) ⟨rfl, h⟩)
 rintro ⟨rest, k⟩ ⟨h1, h⟩ IH
 dsimp only at h1 h
 cases rest with
 | nil =>
   have hH := drop_nil h1
   simp only [mayNames] at h
   repeat' (first
 | simp only [go_sem, hH, hJ, hY, hZ]
 | (with_reducible first | refine kT_ fun hc => ?_ | refine kF_ fun hc => ?_ | refine kS_ (fun hc => ?_) fun hc => ?_) <;> (try simp only [hc, bs, ↓reduceIte] at h) <;> try simp only [hc]
 | (with_reducible refine lA_ hQ ?_; exact lY_)
 | (cases h; done))
 | cons t rest =>
   obtain ⟨hJ, g2, hH, g4⟩ := drop_cons h1
   have hY : k < 4611686018427387904 := by omega
   have hn := Name_s t (hs t (List.mem_of_getElem? hJ))
   simp only [mayNames] at h
   repeat' (first
 | simp only [go_sem, hH, hJ, hY, hZ]
 | (with_reducible refine CU (hn _) ?_)
 | (with_reducible first | refine kT_ fun hc => ?_ | refine kF_ fun hc => ?_ | refine kS_ (fun hc => ?_) fun hc => ?_) <;> (try simp only [hc, bs, ↓reduceIte] at h) <;> try simp only [hc]
 | (with_reducible refine lA_ hQ ?_; exact lY_)
 | (cases h; done))
   refine rL_ 0 0 (IH (rest, k + 1) ⟨g2, h⟩ (Nat.lt_succ_self _))

mutual
def Ex.dp (left : Int) : Ex → Bool
 | ⟨op, n, name, kids⟩ =>
   if decide (left < 1) || (kids.length : Int) != arityI op then false
   else if op == 1 then decide (n ≥ 0) && name == []
   else if op == 2 then n == 0 && isName name
   else if n != 0 || !(name == []) then false
   else Ex.dps (left - 1) kids
def Ex.dps (left : Int) : List Ex → Bool
 | [] => true
 | x :: l => if !(Ex.dp left x) then false else Ex.dps left l
end

theorem tdeep_n : ∀ (m : Nat) (x : Ex), x.size ≤ m → x.size < 4611686018427387904 → x.texts → ∀ left : Int, 0 ≤ left → left ≤ 100 → ∀ s : St, Fun Tryz.prog n_tree_deep [.agg (encEx x), .int .i64 left] s (.bool (x.dp left)) s := by
 intro m
 induction m with
 | zero => rintro ⟨op, v, name, kids⟩ h; simp only [Ex.size] at h; omega
 | succ m ih =>
   rintro ⟨op, v, name, kids⟩ h hx ht left h0 h100 s
   refine Fun.pure ?_ (by simp [D.oks, D.ok, okEx]) rfl s
   have hlen : kids.length < 4611686018427387904 := by simp only [Ex.size] at hx; have := Ex.sizes_len kids; omega
   have hn := Name_s name ht.1
   generalize hp : Ex.dp left ⟨op, v, name, kids⟩ = p
   simp only [Ex.dp] at hp
   unfold S0
   by_cases hl1 : left < 1
   · have d1 : decide (left < 1) = true := by simpa using hl1
     simp only [d1, Bool.true_or, ↓reduceIte] at hp
     subst hp
     refine Fun.go has_tree_deep rfl fun B Q hB hQ => ?_
     have ⟨hH, hJ, hY, hZ⟩ := H4_
     repeat' (first
 | simp only [go_sem, hH, hJ, hY, hZ, d1]
 | (with_reducible refine CU (tkids_s _ _) ?_)
 | (with_reducible refine CU (hn _) ?_)
 | (with_reducible first | refine kT_ fun hc => ?_ | refine kF_ fun hc => ?_ | refine kS_ (fun hc => ?_) fun hc => ?_) <;> (try simp only [hc, bs, ↓reduceIte] at h) <;> try simp only [hc]
 | (with_reducible refine lA_ hQ ?_; (try cases h); simp only [resL, oneD, sI_, eL_, go_sem, hH, hJ, hY, hZ, d1]; try exact lE_)
 | (cases h; done))
   · have d1 : decide (left < 1) = false := by simpa using hl1
     have w1 : IntKind.wrap .i64 (left - 1) = left - 1 := wrap_ok (by omega) (by omega)
     have hk : ∀ y ∈ kids, ∀ s, Fun Tryz.prog n_tree_deep [.agg (encEx y), .int .i64 (left - 1)] s (.bool (y.dp (left - 1))) s := fun y hy s =>
       ih y (by simp only [Ex.size] at h; have := Ex.sizes_mem hy; omega) (by simp only [Ex.size] at hx; have := Ex.sizes_mem hy; omega) (Ex.texts_mem ht hy) (left - 1) (by omega) (by omega) s
     simp only [d1, Bool.false_or] at hp
     have h := hp
     clear hp
     refine Fun.go has_tree_deep rfl fun B Q hB hQ => ?_
     have ⟨hH, hJ, hY, hZ⟩ := H4_
     repeat' (first
 | simp only [go_sem, hH, hJ, hY, hZ, d1]
 | (with_reducible refine CU (tkids_s _ _) ?_)
 | (with_reducible refine CU (hn _) ?_)
 | (with_reducible first | refine kT_ fun hc => ?_ | refine kF_ fun hc => ?_ | refine kS_ (fun hc => ?_) fun hc => ?_) <;> (try simp only [hc, bs, ↓reduceIte] at h) <;> try simp only [hc]
 | (with_reducible refine lA_ hQ ?_; (try cases h); simp only [resL, oneD, sI_, eL_, go_sem, hH, hJ, hY, hZ, d1]; repeat' (first | exact Ok.out | with_reducible refine aI_ ?_ ?_ | (simp; done)))
 | (cases h; done))
     all_goals
       refine rL_ 1 0 (SemL.ind (ι := List Ex × Nat) (fun i => kids.drop i.2 = i.1 ∧ Ex.dps (left - 1) i.1 = p) (fun i => i.1.length)
         (fun i => [(1, .int .i64 left), (49, .slice .shared 4 (kids.map encEx)), (50, .int .i64 (kids.length : Int)), (51, .int .i64 (i.2 : Int))]) (fun i => ⟨[encEx ⟨op, v, name, kids⟩], []⟩) ?_ (kids, 0) ⟨rfl, h⟩)
       rintro ⟨rest, k⟩ ⟨h1, h⟩ IH
       dsimp only at h1 h
       cases rest with
       | nil =>
         have hH := drop_nil h1
         simp only [Ex.dps] at h
         repeat' (first
 | simp only [go_sem, hH, hJ, hY, hZ]
 | (with_reducible first | refine kT_ fun hc => ?_ | refine kF_ fun hc => ?_ | refine kS_ (fun hc => ?_) fun hc => ?_) <;> (try simp only [hc, bs, ↓reduceIte] at h) <;> try simp only [hc]
 | (with_reducible refine lA_ hQ ?_; exact lY_)
 | (cases h; done))
       | cons y rest =>
         obtain ⟨hJ, g2, hH, g4⟩ := drop_cons h1
         have hy := hk y (List.mem_of_getElem? hJ)
         have hY : k < 4611686018427387904 := by omega
         simp only [Ex.dps] at h
         repeat' (first
 | simp only [go_sem, hH, hJ, hY, hZ, w1]
 | (with_reducible refine CU (hy _) ?_)
 | (with_reducible first | refine kT_ fun hc => ?_ | refine kF_ fun hc => ?_ | refine kS_ (fun hc => ?_) fun hc => ?_) <;> (try simp only [hc, bs, ↓reduceIte] at h) <;> try simp only [hc]
 | (with_reducible refine lA_ hQ ?_; (try cases h); simp only [resL, oneD, sI_, eL_, go_sem, hH, hJ, hY, hZ, w1]; try exact lE_)
 | (cases h; done))
         refine rL_ 1 0 (IH (rest, k + 1) ⟨g2, h⟩ (Nat.lt_succ_self _))

end Go.Abs

/-! TMay2 -/

namespace Go.Abs

set_option maxRecDepth 8000
open Go.Proofs

theorem tMayExpr_s {x : Ex} (hx : x.size < 4611686018427387904) (ht : x.texts) (s : St) : Fun Tryz.prog n_tree_MayExpr [.agg (encEx x)] s (.bool (x.dp 20)) s := by
 refine Fun.pure ?_ (by simp [D.oks, D.ok, okEx]) rfl s
 have hd := fun s => tdeep_n _ x (Nat.le_refl _) hx ht 20 (by omega) (by omega) s
 unfold S0
 refine Fun.go has_tree_MayExpr rfl fun B Q hB hQ => ?_
 have ⟨hH, hJ, hY, hZ⟩ := H4_
 repeat' (first
 | simp only [go_sem, hH, hJ, hY, hZ]
 | (with_reducible refine CU (hd _) ?_)
 | (with_reducible first | refine kT_ fun hc => ?_ | refine kF_ fun hc => ?_ | refine kS_ (fun hc => ?_) fun hc => ?_) <;> (try simp only [hc, bs, ↓reduceIte] at h) <;> try simp only [hc]
 | (with_reducible refine lA_ hQ ?_; exact lY_)
 | (cases h; done))

theorem tnone_s (x : Ex) (s : St) : Fun Tryz.prog n_tree_none [.agg (encEx x)] s (.bool x.none) s := by
 refine Fun.pure ?_ (by simp [D.oks, D.ok, okEx]) rfl s
 unfold S0
 generalize h : Ex.none x = p
 unfold Ex.none at h
 refine Fun.go has_tree_none rfl fun B Q hB hQ => ?_
 have ⟨hH, hJ, hY, hZ⟩ := H4_
 repeat' (first
 | simp only [go_sem, hH, hJ, hY, hZ]
 | (with_reducible first | refine kT_ fun hc => ?_ | refine kF_ fun hc => ?_ | refine kS_ (fun hc => ?_) fun hc => ?_) <;> (try simp only [hc, bs, ↓reduceIte] at h) <;> try simp only [hc]
 | (with_reducible refine lA_ hQ ?_; exact lY_)
 | (cases h; done))

def namedM (t : Str) (is : Bool) : Bool := (is && isName t) || (!is && t == [])
theorem tnamed_s (t : Str) (is : Bool) (hl : t.length < 4611686018427387904) (s : St) : Fun Tryz.prog n_tree_named [.str t, .bool is] s (.bool (namedM t is)) s := by
 refine Fun.pure ?_ rfl rfl s
 have hn := Name_s t hl
 unfold S0
 generalize h : namedM t is = p
 unfold namedM at h
 refine Fun.go has_tree_named rfl fun B Q hB hQ => ?_
 have ⟨hH, hJ, hY, hZ⟩ := H4_
 repeat' (first
 | simp only [go_sem, hH, hJ, hY, hZ]
 | (with_reducible refine CU (hn _) ?_)
 | (with_reducible first | refine kT_ fun hc => ?_ | refine kF_ fun hc => ?_ | refine kS_ (fun hc => ?_) fun hc => ?_) <;> (try simp only [hc, bs, ↓reduceIte] at h) <;> try simp only [hc]
 | (with_reducible refine lA_ hQ ?_; exact lY_)
 | (cases h; done))

def worthM (x : Ex) (is : Bool) : Bool := (is && x.dp 20) || (!is && x.none)
theorem worth_s {x : Ex} (is : Bool) (hx : x.size < 4611686018427387904) (ht : x.texts) (s : St) : Fun Tryz.prog n_tree_worth [.agg (encEx x), .bool is] s (.bool (worthM x is)) s := by
 refine Fun.pure ?_ (by simp [D.oks, D.ok, okEx]) rfl s
 have hm := tMayExpr_s hx ht
 unfold S0
 generalize h : worthM x is = p
 unfold worthM at h
 refine Fun.go has_tree_worth rfl fun B Q hB hQ => ?_
 have ⟨hH, hJ, hY, hZ⟩ := H4_
 repeat' (first
 | simp only [go_sem, hH, hJ, hY, hZ]
 | (with_reducible refine CU (hm _) ?_)
 | (with_reducible refine CU (tnone_s _ _) ?_)
 | (with_reducible first | refine kT_ fun hc => ?_ | refine kF_ fun hc => ?_ | refine kS_ (fun hc => ?_) fun hc => ?_) <;> (try simp only [hc, bs, ↓reduceIte] at h) <;> try simp only [hc]
 | (with_reducible refine lA_ hQ ?_; exact lY_)
 | (cases h; done))

def handedM : List Ar → Bool
 | [] => true
 | a :: l => if !(namedM a.name a.ref) || !(worthM a.x !a.ref) then false else handedM l

theorem handed_s {l : List Ar} (hl : l.length < 4611686018427387904) (hs : ∀ a ∈ l, a.x.size < 4611686018427387904 ∧ a.x.texts ∧ a.name.length < 4611686018427387904) (s : St) :
   Fun Tryz.prog n_tree_handed [.slice .shared 6 (l.map encAr)] s (.bool (handedM l)) s := by
 refine Fun.pure ?_ (by simp [D.oks, D.ok, okrAr, Tag.ok]) rfl s
 unfold S0
 generalize h : handedM l = p
 refine Fun.go has_tree_handed rfl fun B Q hB hQ => ?_
 have ⟨hH, hJ, hY, hZ⟩ := H4_
 repeat' (first
 | simp only [go_sem, hH, hJ, hY, hZ]
 | (with_reducible first | refine kT_ fun hc => ?_ | refine kF_ fun hc => ?_ | refine kS_ (fun hc => ?_) fun hc => ?_) <;> (try simp only [hc, bs, ↓reduceIte] at h) <;> try simp only [hc]
 | (with_reducible refine lA_ hQ ?_; exact lY_)
 | (cases h; done))
 refine rL_ 0 0 (SemL.ind (ι := List Ar × Nat) (fun i => l.drop i.2 = i.1 ∧ handedM i.1 = p) (fun i => i.1.length)
   (fun i => [(5, .slice .shared 6 (l.map encAr)), (6, .int .i64 (l.length : Int)), (7, .int .i64 (i.2 : Int))]) (fun i => ⟨[], []⟩) ?_ (l, 0) ⟨rfl, h⟩)
 rintro ⟨rest, k⟩ ⟨h1, h⟩ IH
 dsimp only at h1 h
 cases rest with
 | nil =>
   have hH := drop_nil h1
   simp only [handedM] at h
   repeat' (first
 | simp only [go_sem, hH, hJ, hY, hZ]
 | (with_reducible first | refine kT_ fun hc => ?_ | refine kF_ fun hc => ?_ | refine kS_ (fun hc => ?_) fun hc => ?_) <;> (try simp only [hc, bs, ↓reduceIte] at h) <;> try simp only [hc]
 | (with_reducible refine lA_ hQ ?_; exact lY_)
 | (cases h; done))
 | cons a rest =>
   obtain ⟨hJ, g2, hH, g4⟩ := drop_cons h1
   have hY : k < 4611686018427387904 := by omega
   obtain ⟨a1, a2, a3⟩ := hs a (List.mem_of_getElem? hJ)
   have hn := fun b s => tnamed_s a.name b a3 s
   have hw := fun b s => worth_s b a1 a2 s
   simp only [handedM] at h
   repeat' (first
 | simp only [go_sem, hH, hJ, hY, hZ]
 | (with_reducible refine CU (hn _ _) ?_)
 | (with_reducible refine CU (hw _ _) ?_)
 | (with_reducible first | refine kT_ fun hc => ?_ | refine kF_ fun hc => ?_ | refine kS_ (fun hc => ?_) fun hc => ?_) <;> (try simp only [hc, bs, ↓reduceIte] at h) <;> try simp only [hc]
 | (with_reducible refine lA_ hQ ?_; exact lY_)
 | (cases h; done))
   refine rL_ 0 0 (IH (rest, k + 1) ⟨g2, h⟩ (Nat.lt_succ_self _))

def Sm.flags (s : Sm) : Option (Bool × Bool × Bool × Bool × Bool × Bool) :=
 if s.kind == 1 then some (true, false, true, s.has, false, false)
 else if s.kind == 2 || s.kind == 10 then some (true, false, false, s.has, false, false)
 else if s.kind == 3 then some (false, false, true, s.has, false, false)
 else if s.kind == 4 then some (!(s.name == []), true, false, s.has, false, false)
 else if s.kind == 5 then some (false, false, true, s.has, true, true)
 else if s.kind == 6 then some (false, false, true, s.has, true, false)
 else if s.kind == 9 then some (false, false, s.has, false, false, false)
 else if s.kind == 7 || s.kind == 8 then some (false, false, false, s.has, false, false)
 else none
def Sm.tail2 (s : Sm) (nm pr x : Bool) : Bool := if !(namedM s.name nm) || !(namedM s.proc pr) || !(worthM s.x x) then false else handedM s.args
def Sm.tail1 (s : Sm) (f : Bool × Bool × Bool × Bool × Bool × Bool) : Bool :=
 if f.2.2.2.1 || (!f.2.2.2.2.1 && decide ((s.thn.length : Int) > 0)) || (!f.2.2.2.2.2 && decide ((s.els.length : Int) > 0)) || (!(s.kind == 4) && decide ((s.args.length : Int) > 0)) then false
 else s.tail2 f.1 f.2.1 f.2.2.1
def Sm.fields (s : Sm) : Bool := match s.flags with
 | none => false
 | some f => s.tail1 f

section
variable {v : Sm} {B : Base} {Q : Exit → Tm → St → Prop} {p : Bool}

theorem fields_2 {nm pr x : Bool} (hf : v.Fine) (hB : B.s = ⟨[], []⟩) (hQ : retF 0 0 [(2, none)] (.bool p) ⟨[], []⟩ = Q) (h : v.tail2 nm pr x = p) :
   Sem Tryz.prog B 93 Q1J1 Q [(1, .ptr 0 0), (3, .bool nm), (4, .bool pr), (5, .bool x)] ⟨[encSm v], []⟩ := by
 have h1 := fun b s => tnamed_s v.name b hf.name s
 have h2 := fun b s => tnamed_s v.proc b hf.proc s
 have h3 := fun b s => worth_s b hf.x hf.xt s
 have h4 := fun s => handed_s hf.argl hf.arg s
 unfold Sm.tail2 at h
 have ⟨hH, hJ, hY, hZ⟩ := H4_
 refine wpC_sound ?_
 repeat' (first
 | simp only [go_sem, hH, hJ, hY, hZ]
 | (with_reducible refine CU (h1 _ _) ?_)
 | (with_reducible refine CU (h2 _ _) ?_)
 | (with_reducible refine CU (h3 _ _) ?_)
 | (with_reducible refine CU (h4 _) ?_)
 | (with_reducible first | refine kT_ fun hc => ?_ | refine kF_ fun hc => ?_ | refine kS_ (fun hc => ?_) fun hc => ?_) <;> (try simp only [hc, bs, ↓reduceIte] at h) <;> try simp only [hc]
 | (with_reducible refine lA_ hQ ?_; exact lY_)
 | (cases h; done))

theorem fields_1 {nm pr x has th ot ar : Bool} (hf : v.Fine) (hB : B.s = ⟨[], []⟩) (hQ : retF 0 0 [(2, none)] (.bool p) ⟨[], []⟩ = Q) (e : (v.kind == 4) = ar) (h : v.tail1 (nm, pr, x, has, th, ot) = p) :
   Sem Tryz.prog B 93 Q1J2 Q [(1, .ptr 0 0), (3, .bool nm), (4, .bool pr), (5, .bool x), (6, .bool has), (7, .bool th), (8, .bool ot), (9, .bool ar)] ⟨[encSm v], []⟩ := by
 simp only [Sm.tail1, e] at h
 have ⟨hH, hJ, hY, hZ⟩ := H4_
 refine Sem.seqW ?_
 repeat' (first
 | simp only [go_sem, hH, hJ, hY, hZ]
 | (with_reducible first | refine kT_ fun hc => ?_ | refine kF_ fun hc => ?_ | refine kS_ (fun hc => ?_) fun hc => ?_) <;> (try simp only [hc, bs, ↓reduceIte] at h) <;> try simp only [hc]
 | (with_reducible refine lA_ hQ ?_; (try cases h); simp only [resL, oneD, sI_, eL_, go_sem, hH, hJ, hY, hZ]; repeat' (first | exact Ok.out | with_reducible refine aI_ ?_ ?_ | (simp; done)))
 | (cases h; done))
 all_goals
   refine Sem.re _ _ 1 0 (by rw [hB]; exact lB_ rfl) (by rw [hB]; exact lB_ rfl) ?_ ?_ (fields_2 hf hB hQ h)
   · (simp only [go_sem, hH, hJ, hY, hZ]; repeat' (first | exact Ok.out | with_reducible refine aI_ ?_ ?_))
   · (simp only [go_sem, hH, hJ, hY, hZ]; repeat' (first | exact Ok.out | with_reducible refine aI_ ?_ ?_))

theorem fields_0 {ar : Bool} (hf : v.Fine) (hB : B.s = ⟨[], []⟩) (hQ : retF 0 0 [(2, none)] (.bool p) ⟨[], []⟩ = Q) (e : (v.kind == 4) = ar) (h : v.fields = p) :
   Sem Tryz.prog B 93 Q1J3 Q [(1, .ptr 0 0), (3, .bool false), (4, .bool false), (5, .bool false), (6, .bool v.has), (7, .bool false), (8, .bool false), (9, .bool ar)] ⟨[encSm v], []⟩ := by
 simp only [Sm.fields, Sm.flags] at h
 have ⟨hH, hJ, hY, hZ⟩ := H4_
 refine Sem.seqW ?_
 repeat' (first
 | simp only [go_sem, hH, hJ, hY, hZ]
 | (with_reducible first | refine kT_ fun hc => ?_ | refine kF_ fun hc => ?_ | refine kS_ (fun hc => ?_) fun hc => ?_) <;> (try simp only [hc, bs, ↓reduceIte] at h) <;> try simp only [hc]
 | (with_reducible refine lA_ hQ ?_; (try cases h); simp only [resL, oneD, sI_, eL_, go_sem, hH, hJ, hY, hZ]; repeat' (first | exact Ok.out | with_reducible refine aI_ ?_ ?_ | (simp; done)))
 | (cases h; done))
 all_goals
   refine Sem.re _ _ 1 0 (by rw [hB]; exact lB_ rfl) (by rw [hB]; exact lB_ rfl) ?_ ?_ (fields_1 hf hB hQ e h)
   · (simp only [go_sem, hH, hJ, hY, hZ]; repeat' (first | exact Ok.out | with_reducible refine aI_ ?_ ?_))
   · (simp only [go_sem, hH, hJ, hY, hZ]; repeat' (first | exact Ok.out | with_reducible refine aI_ ?_ ?_))
end

theorem fields_s {v : Sm} (hf : v.Fine) (s : St) : Fun Tryz.prog n_tree_fields [.agg (encSm v)] s (.bool v.fields) s := by
 refine Fun.pure ?_ (by simp [D.oks, D.ok, okSm]) rfl s
 unfold S0
 refine Fun.goS has_tree_fields rfl fun B Q hB hQ => ?_
 have ⟨hH, hJ, hY, hZ⟩ := H4_
 refine Sem.seq (b := Q1J5) (wpC_sound ?_)
 repeat' (first
 | simp only [go_sem, hH, hJ, hY, hZ]
 | (with_reducible first | refine kT_ fun hc => ?_ | refine kF_ fun hc => ?_ | refine kS_ (fun hc => ?_) fun hc => ?_) <;> (try simp only [hc, bs, ↓reduceIte] at h) <;> try simp only [hc]
 | (with_reducible refine lA_ hQ ?_; exact lY_)
 | (cases h; done))
 refine Sem.seq (b := Q1J4) (wpC_sound ?_)
 repeat' (first
 | simp only [go_sem, hH, hJ, hY, hZ]
 | (with_reducible first | refine kT_ fun hc => ?_ | refine kF_ fun hc => ?_ | refine kS_ (fun hc => ?_) fun hc => ?_) <;> (try simp only [hc, bs, ↓reduceIte] at h) <;> try simp only [hc]
 | (with_reducible refine lA_ hQ ?_; exact lY_)
 | (cases h; done))
 refine Sem.seq (b := Q1J3) (wpC_sound ?_)
 repeat' (first
 | simp only [go_sem, hH, hJ, hY, hZ]
 | (with_reducible first | refine kT_ fun hc => ?_ | refine kF_ fun hc => ?_ | refine kS_ (fun hc => ?_) fun hc => ?_) <;> (try simp only [hc, bs, ↓reduceIte] at h) <;> try simp only [hc]
 | (with_reducible refine lA_ hQ ?_; exact lY_)
 | (cases h; done))
 refine Sem.re _ _ 1 0 (by rw [hB]; exact lB_ rfl) (by rw [hB]; exact lB_ rfl) ?_ ?_ (fields_0 hf hB hQ rfl rfl)
 · (simp only [go_sem, hH, hJ, hY, hZ]; repeat' (first | exact Ok.out | with_reducible refine aI_ ?_ ?_))
 · (simp only [go_sem, hH, hJ, hY, hZ]; repeat' (first | exact Ok.out | with_reducible refine aI_ ?_ ?_))

end Go.Abs

/-! TMay3 -/

namespace Go.Abs

set_option maxRecDepth 8000
open Go.Proofs

def gate (nest : Int) (len n : Nat) (r : Bool × Nat) : Bool × Nat := if decide (nest > 12) && decide ((len : Int) > 0) then (false, n) else r

mutual
def Sm.mayR (nest : Int) (n : Nat) : Sm → Bool × Nat
 | ⟨id, kind, labels, name, proc, x, has, args, thn, els⟩ =>
   if decide (((n + 1 : Nat) : Int) > 200) || id != ((n + 1 : Nat) : Int) || !(mayNames labels) || !(Sm.fields ⟨id, kind, labels, name, proc, x, has, args, thn, els⟩) then (false, n + 1)
   else if !(gate (nest + 1) thn.length (n + 1) (Sm.mayL (nest + 1) (n + 1) thn)).1 then (false, (gate (nest + 1) thn.length (n + 1) (Sm.mayL (nest + 1) (n + 1) thn)).2)
   else gate (nest + 1) els.length (gate (nest + 1) thn.length (n + 1) (Sm.mayL (nest + 1) (n + 1) thn)).2 (Sm.mayL (nest + 1) (gate (nest + 1) thn.length (n + 1) (Sm.mayL (nest + 1) (n + 1) thn)).2 els)
def Sm.mayL (nest : Int) (n : Nat) : List Sm → Bool × Nat
 | [] => (true, n)
 | s :: l => if !(Sm.mayR nest n s).1 then (false, (Sm.mayR nest n s).2) else Sm.mayL nest (Sm.mayR nest n s).2 l
end
def Sm.mayG (nest : Int) (n : Nat) (l : List Sm) : Bool × Nat := gate nest l.length n (Sm.mayL nest n l)

theorem mayR_eq (nest : Int) (n : Nat) (s : Sm) : Sm.mayR nest n s =
   if decide (((n + 1 : Nat) : Int) > 200) || s.id != ((n + 1 : Nat) : Int) || !(mayNames s.labels) || !(s.fields) then (false, n + 1)
   else if !(Sm.mayG (nest + 1) (n + 1) s.thn).1 then (false, (Sm.mayG (nest + 1) (n + 1) s.thn).2)
   else Sm.mayG (nest + 1) (Sm.mayG (nest + 1) (n + 1) s.thn).2 s.els := by
 cases s; simp only [Sm.mayR, Sm.mayG]; rfl

mutual
def Sm.FineD : Sm → Prop
 | ⟨id, kind, labels, name, proc, x, has, args, thn, els⟩ => Sm.Fine ⟨id, kind, labels, name, proc, x, has, args, thn, els⟩ ∧ Sm.FineDs thn ∧ Sm.FineDs els
def Sm.FineDs : List Sm → Prop
 | [] => True
 | s :: l => s.FineD ∧ Sm.FineDs l
end
theorem FineD_eq (s : Sm) : s.FineD ↔ s.Fine ∧ Sm.FineDs s.thn ∧ Sm.FineDs s.els := by cases s; simp only [Sm.FineD]
theorem FineDs_mem {s : Sm} : ∀ {l : List Sm}, Sm.FineDs l → s ∈ l → s.FineD
 | y :: l, h, m => by
   simp only [Sm.FineDs] at h
   rcases List.mem_cons.1 m with rfl | m
   · exact h.1
   · exact FineDs_mem h.2 m

mutual
theorem mayR_le (nest : Int) (n : Nat) : ∀ s : Sm, n ≤ 201 → (Sm.mayR nest n s).2 ≤ 202 ∧ ((Sm.mayR nest n s).1 = true → (Sm.mayR nest n s).2 ≤ 200)
 | ⟨id, kind, labels, name, proc, x, has, args, thn, els⟩, hn => by
   simp only [Sm.mayR]
   split
   · exact ⟨by dsimp only; omega, fun h => by cases h⟩
   rename_i hc
   simp only [Bool.or_eq_true, decide_eq_true_eq, not_or] at hc
   have hn2 : n + 1 ≤ 200 := by omega
   have g1 : ∀ (nest : Int) (l : List Sm) (m : Nat), m ≤ 200 → (Sm.mayL nest m l).2 ≤ 202 ∧ ((Sm.mayL nest m l).1 = true → (Sm.mayL nest m l).2 ≤ 200) →
       (gate nest l.length m (Sm.mayL nest m l)).2 ≤ 202 ∧ ((gate nest l.length m (Sm.mayL nest m l)).1 = true → (gate nest l.length m (Sm.mayL nest m l)).2 ≤ 200) := by
     intro nest l m hm h
     unfold gate
     split
     · exact ⟨by dsimp only; omega, fun h => by cases h⟩
     · exact h
   have h1 := g1 (nest + 1) thn (n + 1) hn2 (mayL_le (nest + 1) (n + 1) thn hn2)
   split
   · exact ⟨h1.1, fun h => by cases h⟩
   rename_i hc2
   have h2 := h1.2 (by simpa using hc2)
   exact g1 (nest + 1) els _ h2 (mayL_le (nest + 1) _ els h2)
theorem mayL_le (nest : Int) (n : Nat) : ∀ l : List Sm, n ≤ 200 → (Sm.mayL nest n l).2 ≤ 202 ∧ ((Sm.mayL nest n l).1 = true → (Sm.mayL nest n l).2 ≤ 200)
 | [], hn => by simp only [Sm.mayL]; exact ⟨by omega, fun _ => hn⟩
 | s :: l, hn => by
   simp only [Sm.mayL]
   have h1 := mayR_le nest n s (by omega)
   split
   · exact ⟨h1.1, fun h => by cases h⟩
   rename_i hc
   exact mayL_le nest _ l (h1.2 (by simpa using hc))
end
theorem mayG_le {nest : Int} {n : Nat} {l : List Sm} (hn : n ≤ 200) : (Sm.mayG nest n l).2 ≤ 202 ∧ ((Sm.mayG nest n l).1 = true → (Sm.mayG nest n l).2 ≤ 200) := by
 unfold Sm.mayG gate
 split
 · exact ⟨by dsimp only; omega, fun h => by cases h⟩
 · exact mayL_le nest n l hn

theorem trows_n : ∀ (m : Nat) (l : List Sm), Sm.sizes l ≤ m → Sm.sizes l < 4611686018427387000 → Sm.FineDs l → ∀ (nest : Int) (n : Nat), 0 ≤ nest → nest ≤ 13 → n ≤ 200 →
   Fun Tryz.prog n_tree_looker_rows [.ptr 0 0, .slice .shared 13 (l.map encSm), .int .i64 nest] ⟨[[.int .i64 n]], []⟩ (.bool (Sm.mayG nest n l).1) ⟨[[.int .i64 (Sm.mayG nest n l).2]], []⟩ := by
 intro m
 induction m with
 | zero =>
   intro l h hs hf nest n h0 h13 hn
   cases l with
   | nil =>
     have d1 : decide ((0 : Int) > 0) = false := rfl
     have e : Sm.mayG nest n [] = (true, n) := by simp [Sm.mayG, gate, Sm.mayL]
     have z : decide ((0 : Int) < 0) = false := rfl
     rw [e]
     refine Fun.go has_tree_looker_rows rfl fun B Q hB hQ => ?_
     have ⟨hH, hJ, hY, hZ⟩ := H4_
     repeat' (first
 | simp only [go_sem, hH, hJ, hY, hZ, d1, z]
 | (with_reducible refine SemL.onceW ?_)
 | (with_reducible first | refine kT_ fun hc => ?_ | refine kF_ fun hc => ?_ | refine kS_ (fun hc => ?_) fun hc => ?_) <;> (try simp only [hc, bs, ↓reduceIte] at h) <;> try simp only [hc]
 | (with_reducible refine lA_ hQ ?_; (try cases h); simp only [resL, oneD, sI_, eL_, go_sem, hH, hJ, hY, hZ, d1, z]; try exact lE_)
 | (cases h; done))
   | cons s l => simp only [Sm.sizes] at h; omega
 | succ m ih =>
   intro l h hs hf nest n h0 h13 hn
   generalize hR : Sm.mayG nest n l = R
   have hlen := Sm.sizes_len l
   unfold Sm.mayG gate at hR
   have h := hR
   refine Fun.go has_tree_looker_rows rfl fun B Q hB hQ => ?_
   have ⟨hH, hJ, hY, hZ⟩ := H4_
   repeat' (first
 | simp only [go_sem, hH, hJ, hY, hZ]
 | (with_reducible first | refine kT_ fun hc => ?_ | refine kF_ fun hc => ?_ | refine kS_ (fun hc => ?_) fun hc => ?_) <;> (try simp only [hc, bs, ↓reduceIte] at h) <;> try simp only [hc]
 | (with_reducible refine lA_ hQ ?_; (try cases h); simp only [resL, oneD, sI_, eL_, go_sem, hH, hJ, hY, hZ]; repeat' (first | exact Ok.out | with_reducible refine aI_ ?_ ?_ | (simp; done)))
 | (cases h; done))
   all_goals
     have hnest : l ≠ [] → nest ≤ 12 := by
       intro hne
       have : l.length ≠ 0 := by simpa using hne
       simp_all <;> omega
     refine rL_ 1 0 (SemL.ind (ι := List Sm × Nat × Nat) (fun i => l.drop i.2.1 = i.1 ∧ Sm.mayL nest i.2.2 i.1 = R ∧ i.2.2 ≤ 200) (fun i => i.1.length)
       (fun i => [(0, .ptr 0 0), (2, .int .i64 nest), (16, .slice .shared 13 (l.map encSm)), (17, .int .i64 (l.length : Int)), (18, .int .i64 (i.2.1 : Int))]) (fun i => ⟨[[.int .i64 (i.2.2 : Int)]], []⟩) ?_ (l, 0, n) ⟨rfl, h, hn⟩)
     rintro ⟨rest, k, j⟩ ⟨h1, h, hj⟩ IH
     dsimp only at h1 h hj
     cases rest with
     | nil =>
       have hH := drop_nil h1
       simp only [Sm.mayL] at h
       repeat' (first
 | simp only [go_sem, hH, hJ, hY, hZ]
 | (with_reducible first | refine kT_ fun hc => ?_ | refine kF_ fun hc => ?_ | refine kS_ (fun hc => ?_) fun hc => ?_) <;> (try simp only [hc, bs, ↓reduceIte] at h) <;> try simp only [hc]
 | (with_reducible refine lA_ hQ ?_; exact lY_)
 | (cases h; done))
     | cons s rest =>
       obtain ⟨hJ, g2, hH, g4⟩ := drop_cons h1
       have hY : k < 4611686018427387904 := by omega
       have hmem := List.mem_of_getElem? hJ
       have hsz := Sm.sizes_mem hmem
       have hn12 := hnest (by rintro rfl; simp at hmem)
       obtain ⟨hfs, hft, hfe⟩ := (FineD_eq s).1 (FineDs_mem hf hmem)
       have hsz2 : Sm.sizes s.thn < s.size ∧ Sm.sizes s.els < s.size := by cases s; simp only [Sm.size]; omega
       have w1 : IntKind.wrap .i64 ((j : Int) + 1) = ((j + 1 : Nat) : Int) := by rw [wrap_ok] <;> omega
       have w2 : IntKind.wrap .i64 (nest + 1) = nest + 1 := wrap_ok (by omega) (by omega)
       have c1 := fun s => tnames_s hfs.labl hfs.lab s
       have c2 := fun s => fields_s hfs s
       simp only [Sm.mayL, mayR_eq] at h
       by_cases hj2 : j + 1 ≤ 200
       · have r1 := mayG_le (nest := nest + 1) (l := s.thn) hj2
         have c3 := fun s' ho => (ih s.thn (by omega) (by omega) hft (nest + 1) (j + 1) (by omega) (by omega) hj2).meth (s := s') (o := 0) (by simp [D.oks, D.ok, okrSm, Tag.ok]) rfl rfl rfl ho
         by_cases hr1 : (Sm.mayG (nest + 1) (j + 1) s.thn).1 = true
         · have c4 := fun s' ho => (ih s.els (by omega) (by omega) hfe (nest + 1) _ (by omega) (by omega) (r1.2 hr1)).meth (s := s') (o := 0) (by simp [D.oks, D.ok, okrSm, Tag.ok]) rfl rfl rfl ho
           have r2 := mayG_le (nest := nest + 1) (l := s.els) (r1.2 hr1)
           simp only [hr1] at c3
           simp only [hr1, Bool.not_true, Bool.false_eq_true, ↓reduceIte] at h
           repeat' (first
 | simp only [go_sem, hH, hJ, hY, hZ, w1, w2, hr1]
 | (with_reducible refine CU (c1 _) ?_)
 | (with_reducible refine CU (c2 _) ?_)
 | (with_reducible refine CU (c3 _ rfl) ?_)
 | (with_reducible refine CU (c4 _ rfl) ?_)
 | (with_reducible first | refine kT_ fun hc => ?_ | refine kF_ fun hc => ?_ | refine kS_ (fun hc => ?_) fun hc => ?_) <;> (try simp only [hc, bs, ↓reduceIte] at h) <;> try simp only [hc]
 | (with_reducible refine lA_ hQ ?_; (try cases h); simp only [resL, oneD, sI_, eL_, go_sem, hH, hJ, hY, hZ, w1, w2, hr1]; try exact lE_)
 | (cases h; done))
           refine rL_ 1 0 (IH (rest, k + 1, (Sm.mayG (nest + 1) (Sm.mayG (nest + 1) (j + 1) s.thn).2 s.els).2) ⟨g2, h, r2.2 (by assumption)⟩ (Nat.lt_succ_self _))
         · have hr1 : (Sm.mayG (nest + 1) (j + 1) s.thn).1 = false := by simpa using hr1
           simp only [hr1] at c3
           simp only [hr1, Bool.not_false, ↓reduceIte] at h
           repeat' (first
 | simp only [go_sem, hH, hJ, hY, hZ, w1, w2, hr1]
 | (with_reducible refine CU (c1 _) ?_)
 | (with_reducible refine CU (c2 _) ?_)
 | (with_reducible refine CU (c3 _ rfl) ?_)
 | (with_reducible first | refine kT_ fun hc => ?_ | refine kF_ fun hc => ?_ | refine kS_ (fun hc => ?_) fun hc => ?_) <;> (try simp only [hc, bs, ↓reduceIte] at h) <;> try simp only [hc]
 | (with_reducible refine lA_ hQ ?_; (try cases h); simp only [resL, oneD, sI_, eL_, go_sem, hH, hJ, hY, hZ, w1, w2, hr1]; try exact lE_)
 | (cases h; done))
       · have d1 : decide (((j + 1 : Nat) : Int) > 200) = true := by simp; omega
         simp only [d1, Bool.true_or, Bool.not_false, ↓reduceIte] at h
         repeat' (first
 | simp only [go_sem, hH, hJ, hY, hZ, w1, w2, d1]
 | (with_reducible refine CU (c1 _) ?_)
 | (with_reducible refine CU (c2 _) ?_)
 | (with_reducible first | refine kT_ fun hc => ?_ | refine kF_ fun hc => ?_ | refine kS_ (fun hc => ?_) fun hc => ?_) <;> (try simp only [hc, bs, ↓reduceIte] at h) <;> try simp only [hc]
 | (with_reducible refine lA_ hQ ?_; (try cases h); simp only [resL, oneD, sI_, eL_, go_sem, hH, hJ, hY, hZ, w1, w2, d1]; try exact lE_)
 | (cases h; done))

end Go.Abs

/-! TMay4 -/

namespace Go.Abs

set_option maxRecDepth 8000
open Go.Proofs

def Pc.mayL (n : Nat) : List Pc → Bool
 | [] => true
 | f :: l =>
   if decide ((f.params.length : Int) > 8) || decide ((f.vars.length : Int) > 16) || !(isName f.name) || !(mayNames f.vars) || !(mayNames f.fin) then false
   else if !(Pm.mays f.params) then false
   else if !(Sm.mayG 1 n f.body).1 then false
   else Pc.mayL (Sm.mayG 1 n f.body).2 l
def Pg.mayP (p : Pg) : Bool :=
 if decide ((p.globals.length : Int) > 16) || decide ((p.procs.length : Int) > 16) || !(mayNames p.globals) then false
 else Pc.mayL 0 p.procs

structure Pg.FineP (p : Pg) : Prop where
 sz : p.size < 4611686018427387000
 glob : ∀ t ∈ p.globals, t.length < 4611686018427387904
 heads : ∀ f ∈ p.procs, f.name.length < 4611686018427387904 ∧ (∀ t ∈ f.vars, t.length < 4611686018427387904) ∧ (∀ t ∈ f.fin, t.length < 4611686018427387904) ∧ ∀ a ∈ f.params, a.name.length < 4611686018427387904
 body : ∀ f ∈ p.procs, Sm.FineDs f.body

theorem tMay_s {p : Pg} (hf : p.FineP) (s : St) : Fun Tryz.prog n_tree_May [.agg (encPg p)] s (.bool p.mayP) s := by
 refine Fun.pure ?_ (by simp only [D.oks, D.ok, okPg]; rfl) rfl s
 obtain ⟨hsz, hgl, hheads, hbody⟩ := hf
 have hps : Pc.sizes p.procs < 4611686018427387000 := by simp only [Pg.size] at hsz; omega
 have hglen : p.globals.length < 4611686018427387904 := by simp only [Pg.size] at hsz; omega
 have hplen : p.procs.length < 4611686018427387904 := by have := Pc.sizes_len p.procs; omega
 have hg := fun s => tnames_s hglen hgl s
 unfold S0
 generalize h : p.mayP = R
 unfold Pg.mayP at h
 refine Fun.go has_tree_May rfl fun B Q hB hQ => ?_
 have ⟨hH, hJ, hY, hZ⟩ := H4_
 repeat' (first
 | simp only [go_sem, hH, hJ, hY, hZ]
 | (with_reducible refine CU (hg _) ?_)
 | (with_reducible first | refine kT_ fun hc => ?_ | refine kF_ fun hc => ?_ | refine kS_ (fun hc => ?_) fun hc => ?_) <;> (try simp only [hc, bs, ↓reduceIte] at h) <;> try simp only [hc]
 | (with_reducible refine lA_ hQ ?_; exact lY_)
 | (cases h; done))
 refine rL_ 2 0 (SemL.ind (ι := List Pc × Nat × Nat) (fun i => p.procs.drop i.2.1 = i.1 ∧ Pc.mayL i.2.2 i.1 = R ∧ i.2.2 ≤ 200) (fun i => i.1.length)
   (fun i => [(1, .ptr 0 0), (3, .ptr 1 0), (27, .slice .shared 5 (p.procs.map encPc)), (28, .int .i64 (p.procs.length : Int)), (29, .int .i64 (i.2.1 : Int))]) (fun i => ⟨[encPg p, [.int .i64 (i.2.2 : Int)]], []⟩) ?_ (p.procs, 0, 0) ⟨rfl, h, Nat.zero_le _⟩)
 rintro ⟨rest, k, n⟩ ⟨h1, h, hn⟩ IH
 dsimp only at h1 h hn
 cases rest with
 | nil =>
   have hH := drop_nil h1
   simp only [Pc.mayL] at h
   repeat' (first
 | simp only [go_sem, hH, hJ, hY, hZ]
 | (with_reducible first | refine kT_ fun hc => ?_ | refine kF_ fun hc => ?_ | refine kS_ (fun hc => ?_) fun hc => ?_) <;> (try simp only [hc, bs, ↓reduceIte] at h) <;> try simp only [hc]
 | (with_reducible refine lA_ hQ ?_; exact lY_)
 | (cases h; done))
 | cons f rest =>
   obtain ⟨hJ, g2, hH, g4⟩ := drop_cons h1
   have hk2 : k < 4611686018427387904 := by omega
   have hmem := List.mem_of_getElem? hJ
   have hfm := Pc.sizes_mem hmem
   simp only [Pc.size] at hfm
   obtain ⟨hfn, hfv, hff, hfp⟩ := hheads f hmem
   have hnm := Name_s f.name hfn
   have hv := fun s => tnames_s (by omega) hfv s
   have he := fun s => tnames_s (by omega) hff s
   have hb := fun s' o ho => (trows_n _ f.body (Nat.le_refl _) (by omega) (hbody f hmem) 1 n (by omega) (by omega) hn).meth (s := s') (o := o) (by simp [D.oks, D.ok, okrSm, Tag.ok]) rfl rfl rfl ho
   have hle := mayG_le (nest := 1) (l := f.body) hn
   simp only [Pc.mayL] at h
   repeat' (first
 | simp only [go_sem, hH, hJ, hY, hZ]
 | (with_reducible refine CU (hnm _) ?_)
 | (with_reducible refine CU (hv _) ?_)
 | (with_reducible refine CU (he _) ?_)
 | (with_reducible first | refine kT_ fun hc => ?_ | refine kF_ fun hc => ?_ | refine kS_ (fun hc => ?_) fun hc => ?_) <;> (try simp only [hc, bs, ↓reduceIte] at h) <;> try simp only [hc]
 | (with_reducible refine lA_ hQ ?_; exact lY_)
 | (cases h; done))
   refine rL_ 3 0 (SemL.ind (ι := List Pm × Nat) (fun i => f.params.drop i.2 = i.1 ∧ (if !(Pm.mays i.1) then false else if !(Sm.mayG 1 n f.body).1 then false else Pc.mayL (Sm.mayG 1 n f.body).2 rest) = R) (fun i => i.1.length)
     (fun i => [(1, .ptr 0 0), (3, .ptr 1 0), (5, .ptr 2 0), (27, .slice .shared 5 (p.procs.map encPc)), (28, .int .i64 (p.procs.length : Int)), (29, .int .i64 (k : Int)), (62, .slice .shared 2 (f.params.map encPm)), (63, .int .i64 (f.params.length : Int)), (64, .int .i64 (i.2 : Int))]) (fun i => ⟨[encPg p, [.int .i64 (n : Int)], encPc f], []⟩) ?_ (f.params, 0) ⟨rfl, h⟩)
   rintro ⟨prest, j⟩ ⟨j1, h⟩ IH2
   dsimp only at j1 h
   cases prest with
   | nil =>
     have hH := drop_nil j1
     simp only [Pm.mays, Bool.not_true, Bool.false_eq_true, ↓reduceIte] at h
     repeat' (first
 | simp only [go_sem, hH, hJ, hY, hZ]
 | (with_reducible refine CU (hb _ _ rfl) ?_)
 | (with_reducible first | refine kT_ fun hc => ?_ | refine kF_ fun hc => ?_ | refine kS_ (fun hc => ?_) fun hc => ?_) <;> (try simp only [hc, bs, ↓reduceIte] at h) <;> try simp only [hc]
 | (with_reducible refine lA_ hQ ?_; exact lY_)
 | (cases h; done))
     refine rl_ 2 0 ?_ ?_ (IH (rest, k + 1, (Sm.mayG 1 n f.body).2) ⟨g2, h, hle.2 (by assumption)⟩ (Nat.lt_succ_self _))
     · (simp only [go_sem, hH, hJ, hY, hZ, wrap_inc hk2]; try exact lF_)
     · (simp only [go_sem, hH, hJ, hY, hZ, wrap_inc hk2]; try exact lF_)
   | cons a prest =>
     obtain ⟨hJ, b2, hH, b4⟩ := drop_cons j1
     have hj2 : j < 4611686018427387904 := by omega
     have ha := Name_s a.name (hfp a (List.mem_of_getElem? hJ))
     simp only [Pm.mays] at h
     repeat' (first
 | simp only [go_sem, hH, hJ, hY, hZ]
 | (with_reducible refine CU (ha _) ?_)
 | (with_reducible first | refine kT_ fun hc => ?_ | refine kF_ fun hc => ?_ | refine kS_ (fun hc => ?_) fun hc => ?_) <;> (try simp only [hc, bs, ↓reduceIte] at h) <;> try simp only [hc]
 | (with_reducible refine lA_ hQ ?_; exact lY_)
 | (cases h; done))
     refine rl_ 3 0 ?_ ?_ (IH2 (prest, j + 1) ⟨b2, h⟩ (Nat.lt_succ_self _))
     · (simp only [go_sem, hH, hJ, hY, hZ, wrap_inc hj2]; try exact lF_)
     · (simp only [go_sem, hH, hJ, hY, hZ, wrap_inc hj2]; try exact lF_)

end Go.Abs

/-! MayEq -/

namespace Go.Abs

theorem isName_ne {t : Str} (h : isName t = true) : t ≠ [] := by rintro rfl; cases h

theorem form_iff (op n : Int) (name : Str) (kids : List Ex) : Ex.form ⟨op, n, name, kids⟩ = true ↔
   arityI op = (kids.length : Int) ∧ (op = 1 ∨ n = 0) ∧ 0 ≤ n ∧ (op = 2 ↔ name ≠ []) ∧ (name = [] ∨ isName name = true) ∧ Ex.forms kids = true := by
 simp only [Ex.form]
 split
 · rename_i h
   simp only [Bool.or_eq_true, Bool.and_eq_true, bne_iff_ne, ne_eq, decide_eq_true_eq, Bool.not_eq_true'] at h
   refine ⟨fun h => (Bool.false_ne_true h).elim, fun ⟨h1, h2, h3, h4, h5, _⟩ => ?_⟩
   exfalso
   rcases h with (((h | h) | h) | h) | h
   · exact h h1
   · rcases h2 with h2 | h2
     · exact h.1 h2
     · exact h.2 h2
   · omega
   · by_cases h2 : op = 2 <;> cases name <;> simp_all
   · rcases h5 with h5 | h5
     · subst h5; simp at h
     · rw [h5] at h; simp at h
 · rename_i h
   simp only [Bool.or_eq_true, Bool.and_eq_true, bne_iff_ne, ne_eq, decide_eq_true_eq, Bool.not_eq_true', not_or, not_and, Decidable.not_not, Bool.not_eq_false] at h
   obtain ⟨⟨⟨⟨h1, h2⟩, h3⟩, h4⟩, h5⟩ := h
   refine ⟨fun h => ⟨h1, ?_, by omega, ?_, ?_, h⟩, fun h => h.2.2.2.2.2⟩
   · by_cases h : op = 1
     · exact .inl h
     · exact .inr (h2 h)
   · by_cases h2 : op = 2 <;> cases name <;> simp_all
   · cases name with
     | nil => exact .inl rfl
     | cons c r => exact .inr (h5 rfl)

theorem dp_iff (op n : Int) (name : Str) (kids : List Ex) (k : Int) : Ex.dp k ⟨op, n, name, kids⟩ = true ↔
   1 ≤ k ∧ (kids.length : Int) = arityI op ∧ (if op = 1 then 0 ≤ n ∧ name = [] else if op = 2 then n = 0 ∧ isName name = true else n = 0 ∧ name = [] ∧ Ex.dps (k - 1) kids = true) := by
 simp only [Ex.dp]
 split
 · rename_i h
   simp only [Bool.or_eq_true, decide_eq_true_eq, bne_iff_ne, ne_eq] at h
   refine ⟨fun h => (Bool.false_ne_true h).elim, fun ⟨h1, h2, _⟩ => ?_⟩
   rcases h with h | h
   · omega
   · exact (h h2).elim
 rename_i h
 simp only [Bool.or_eq_true, decide_eq_true_eq, bne_iff_ne, ne_eq, not_or, Decidable.not_not] at h
 have h1 : 1 ≤ k := by omega
 simp only [h1, h.2, true_and]
 by_cases o1 : op = 1
 · subst o1
   cases name <;> simp
 · have o1' : ¬ (op == 1) = true := by simpa using o1
   rw [if_neg o1', if_neg o1]
   by_cases o2 : op = 2
   · subst o2; simp
   · have o2' : ¬ (op == 2) = true := by simpa using o2
     rw [if_neg o2', if_neg o2]
     by_cases hn : n = 0
     · subst hn
       cases name <;> simp
     · simp [hn]

mutual
theorem dp_eq : ∀ (x : Ex) (k : Int), 0 ≤ k → (x.dp k = true ↔ (x.depth : Int) ≤ k ∧ x.form = true)
 | ⟨op, n, name, kids⟩, k, hk => by
   rw [dp_iff, form_iff]
   have hd : Ex.depth ⟨op, n, name, kids⟩ = Ex.depths kids + 1 := by simp only [Ex.depth]
   rw [hd]
   by_cases h1 : 1 ≤ k
   · have ih := dps_eq kids (k - 1) (by omega)
     by_cases o1 : op = 1
     · subst o1
       have ha : arityI 1 = 0 := rfl
       rw [ha, if_pos rfl]
       constructor
       · rintro ⟨_, h2, h3, h4⟩
         have : kids = [] := List.eq_nil_of_length_eq_zero (by omega)
         subst this; subst h4
         simp [Ex.depths, Ex.forms, h3]; omega
       · rintro ⟨h2, h3, _, h4, h5, _⟩
         refine ⟨h1, h3.symm, h4, ?_⟩
         cases name
         · rfl
         · simp at h5
     · rw [if_neg o1]
       by_cases o2 : op = 2
       · subst o2
         have ha : arityI 2 = 0 := rfl
         rw [ha, if_pos rfl]
         constructor
         · rintro ⟨_, h2, h3, h4⟩
           have : kids = [] := List.eq_nil_of_length_eq_zero (by omega)
           subst this; subst h3
           have := isName_ne h4
           simp [Ex.depths, Ex.forms, h4, this]; omega
         · rintro ⟨h2, h3, h4, _, h5, h6, _⟩
           refine ⟨h1, h3.symm, h4.resolve_left o1, ?_⟩
           exact h6.resolve_left (h5.1 rfl)
       · rw [if_neg o2, ih]
         constructor
         · rintro ⟨_, h2, h3, h4, h5, h6⟩
           subst h3; subst h4
           exact ⟨by omega, h2.symm, .inr rfl, Int.le_refl _, by simp [o2], .inl rfl, h6⟩
         · rintro ⟨h2, h3, h4, _, h5, h6, h7⟩
           refine ⟨h1, h3.symm, h4.resolve_left o1, ?_, by omega, h7⟩
           exact Decidable.byContradiction fun h => o2 (h5.2 h)
   · constructor
     · rintro ⟨h, _⟩; exact (h1 h).elim
     · rintro ⟨h, _⟩; omega
theorem dps_eq : ∀ (l : List Ex) (k : Int), 0 ≤ k → (Ex.dps k l = true ↔ (Ex.depths l : Int) ≤ k ∧ Ex.forms l = true)
 | [], k, hk => by simp [Ex.dps, Ex.depths, Ex.forms, hk]
 | x :: l, k, hk => by
   have h1 := dp_eq x k hk
   have h2 := dps_eq l k hk
   have hd : Ex.depths (x :: l) = max x.depth (Ex.depths l) := by simp only [Ex.depths]
   rw [hd]
   simp only [Ex.dps, Ex.forms]
   cases hx : Ex.dp k x
   · simp only [Bool.not_false, ↓reduceIte, Bool.false_eq_true, false_iff, not_and]
     intro h3
     have : ¬ ((x.depth : Int) ≤ k ∧ x.form = true) := by rw [← h1, hx]; simp
     have hf : x.form = false := by
       cases hf : x.form
       · rfl
       · exact (this ⟨by omega, hf⟩).elim
     simp [hf]
   · have := h1.1 hx
     simp only [Bool.not_true, Bool.false_eq_true, ↓reduceIte, this.2, h2]
     have h3 := this.1
     refine and_congr_left fun _ => ?_
     omega
end

theorem dp_may (x : Ex) : x.dp 20 = x.may := by
 rw [Bool.eq_iff_iff, dp_eq x 20 (by omega)]
 unfold Ex.may
 simp only [Bool.and_eq_true, decide_eq_true_eq]
 refine and_congr_left fun _ => ?_
 omega

theorem worth_may (x : Ex) (b : Bool) : worthM x b = if b then x.may else x.none := by
 unfold worthM
 rw [dp_may]
 cases b <;> simp
theorem named_may (t : Str) (b : Bool) : namedM t b = if b then isName t else t == [] := by
 unfold namedM
 cases b <;> simp

theorem handed_mays : ∀ l : List Ar, handedM l = Ar.mays l
 | [] => rfl
 | a :: l => by
   simp only [handedM, Ar.mays, Ar.may, worth_may, named_may, handed_mays l]
   grind


theorem len0 {α : Type} (l : List α) : ((l.length : Int) == 0) = !(decide ((l.length : Int) > 0)) := by
 cases l with
 | nil => rfl
 | cons a l =>
   have h1 : (((a :: l).length : Int) == 0) = false := by simp only [List.length_cons, beq_eq_false_iff_ne]; omega
   have h2 : decide (((a :: l).length : Int) > 0) = true := by simp only [List.length_cons, decide_eq_true_eq]; omega
   rw [h1, h2]; rfl

theorem one_fields (s : Sm) : s.one = (mayNames s.labels && s.fields) := by
 have hk : s.kind = 1 ∨ s.kind = 2 ∨ s.kind = 3 ∨ s.kind = 4 ∨ s.kind = 5 ∨ s.kind = 6 ∨ s.kind = 7 ∨ s.kind = 8 ∨ s.kind = 9 ∨ s.kind = 10 ∨ s.kind < 1 ∨ s.kind > 10 := by omega
 unfold Sm.one Sm.fields Sm.flags Sm.hasX Sm.hasName Sm.isCall
 have p1 : isName [] = false := rfl
 rcases hk with h | h | h | h | h | h | h | h | h | h | h | h
 all_goals
   simp only [h, len0, handed_mays, worth_may, named_may, Sm.tail1, Sm.tail2]
   grind

end Go.Abs

/-! Pr1 -/

namespace Go.Abs

set_option maxRecDepth 8000
open Go.Proofs

mutual
def prE (least : Int) : Ex → Str
 | ⟨op, n, name, kids⟩ => prK least op n name kids
def prK (least op n : Int) (name : Str) : List Ex → Str
 | [] => if op = 2 then name else digF 20 n.toNat
 | [a] => if op = 3 then [45] ++ prE 7 a else [33] ++ prE 7 a
 | a :: b :: _ => if bindB op < least then [40] ++ (prE (bindB op) a ++ [32] ++ signR op ++ [32] ++ prE (bindB op + 1) b) ++ [41] else prE (bindB op) a ++ [32] ++ signR op ++ [32] ++ prE (bindB op + 1) b
end

theorem pr_num (least n : Int) : prE least ⟨1, n, [], []⟩ = digF 20 n.toNat := by simp only [prE, prK, Int.reduceEq, ↓reduceIte]
theorem pr_name (least : Int) (t : Str) : prE least ⟨2, 0, t, []⟩ = t := by simp only [prE, prK, ↓reduceIte]
theorem pr_neg (least : Int) (a : Ex) : prE least ⟨3, 0, [], [a]⟩ = [45] ++ prE 7 a := by simp only [prE, prK, ↓reduceIte]
theorem pr_no (least : Int) (a : Ex) : prE least ⟨4, 0, [], [a]⟩ = [33] ++ prE 7 a := by simp only [prE, prK, Int.reduceEq, ↓reduceIte]
def prT (op : Int) (a b : Ex) : Str := prE (bindB op) a ++ [32] ++ signR op ++ [32] ++ prE (bindB op + 1) b
theorem pr_two (least op : Int) (a b : Ex) : prE least ⟨op, 0, [], [a, b]⟩ = if bindB op < least then [40] ++ prT op a b ++ [41] else prT op a b := by simp only [prE, prK, prT]

theorem prE_len {x : Ex} (h : FormI x) : ∀ least, (prE least x).length ≤ 25 * x.nodes := by
 induction h with
 | num n => intro least; rw [pr_num]; simp only [Ex.nodes, Ex.nodess]; have := digF_len 20 n.toNat; omega
 | name t h => intro least; rw [pr_name]; simp only [Ex.nodes, Ex.nodess]; have := isName_len h; omega
 | neg y _ ih => intro least; rw [pr_neg]; simp only [Ex.nodes, Ex.nodess, List.length_append, List.length_cons, List.length_nil]; have := ih 7; omega
 | no y _ ih => intro least; rw [pr_no]; simp only [Ex.nodes, Ex.nodess, List.length_append, List.length_cons, List.length_nil]; have := ih 7; omega
 | two op a b ho _ _ iha ihb =>
   intro least; rw [pr_two]
   have := signR_len' ho; have := iha (bindB op); have := ihb (bindB op + 1)
   split <;> simp only [prT, Ex.nodes, Ex.nodess, List.length_append, List.length_cons, List.length_nil] <;> omega

theorem digF_dec : ∀ (f n : Nat), n < 10 ^ f → 0 < f → digF f n = Lib.decDigits n
 | 0, _, _, h => by omega
 | f + 1, n, h, _ => by
   rw [Lib.decDigits, digF]
   by_cases c : n < 10
   · simp only [c, ↓reduceIte, ↓reduceDIte]
   · simp only [c, ↓reduceIte, ↓reduceDIte]
     rw [digF_dec f (n / 10) (by rw [Nat.pow_succ] at h; omega) (by
       cases f with
       | zero => simp at h; omega
       | succ f => omega)]
theorem itoa_dig {n : Int} (h0 : 0 ≤ n) (h1 : n ≤ 9223372036854775807) : Lib.itoa n = digF 20 n.toNat := by
 obtain ⟨k, hk⟩ : ∃ k : Nat, n = (k : Int) := ⟨n.toNat, by omega⟩
 subst hk
 rw [Int.toNat_natCast, Lib.itoa_nonneg, digF_dec 20 k (by omega) (by omega)]

theorem psign_s {op : Int} (h : (decide (5 ≤ op) && decide (op ≤ 17)) = true) (s : St) : Fun Tryz.prog n_print_sign [.int .i64 op] s (.tuple [.str (signR op), .int .i64 (bindB op)]) s := by
 refine Fun.pure ?_ rfl rfl s
 unfold S0
 have b5 : bindB 5 = 6 := by decide
 have b6 : bindB 6 = 6 := by decide
 have b7 : bindB 7 = 6 := by decide
 have b8 : bindB 8 = 5 := by decide
 have b9 : bindB 9 = 5 := by decide
 have b10 : bindB 10 = 4 := by decide
 have b11 : bindB 11 = 4 := by decide
 have b12 : bindB 12 = 4 := by decide
 have b13 : bindB 13 = 4 := by decide
 have b14 : bindB 14 = 3 := by decide
 have b15 : bindB 15 = 3 := by decide
 have b16 : bindB 16 = 2 := by decide
 have b17 : bindB 17 = 1 := by decide
 rcases signs h with rfl | rfl | rfl | rfl | rfl | rfl | rfl | rfl | rfl | rfl | rfl | rfl | rfl
 all_goals
   refine Fun.go has_print_sign rfl fun B Q hB hQ => ?_
   have ⟨hH, hJ, hY, hZ⟩ := H4_
   repeat' (first
 | simp only [go_sem, hH, hJ, hY, hZ, signR, Int.reduceEq, Int.reduceBEq, b5, b6, b7, b8, b9, b10, b11, b12, b13, b14, b15, b16, b17]
 | (with_reducible first | refine kT_ fun hc => ?_ | refine kF_ fun hc => ?_ | refine kS_ (fun hc => ?_) fun hc => ?_) <;> (try simp only [hc, bs, ↓reduceIte] at h) <;> try simp only [hc]
 | (with_reducible refine lA_ hQ ?_; (try cases h); simp only [resL, oneD, sI_, eL_, go_sem, hH, hJ, hY, hZ, signR, Int.reduceEq, Int.reduceBEq, b5, b6, b7, b8, b9, b10, b11, b12, b13, b14, b15, b16, b17]; try exact lE_)
 | (cases h; done))

theorem pexpr_s {x : Ex} (h : FormI x) : x.nodes ≤ 1000000 → ∀ {least : Int}, ∀ s : St, Fun Tryz.prog n_print_expr [.agg (encEx x), .int .i64 least] s (.str (prE least x)) s := by
 induction h with
 | num n h0 h1 =>
   intro _ least s
   refine Fun.pure ?_ (by simp [D.oks, D.ok, okEx]) rfl s
   have hf := fun s => FormatInt_s (n := n) (by omega) h1 s
   rw [itoa_dig h0 h1] at hf
   have b1 : ((1 : Int) == 1) = true := rfl
   rw [pr_num]
   unfold S0
   refine Fun.go has_print_expr rfl fun B Q hB hQ => ?_
   have ⟨hH, hJ, hY, hZ⟩ := H4_
   repeat' (first
 | simp only [go_sem, hH, hJ, hY, hZ, b1]
 | (with_reducible refine CU (hf _) ?_)
 | (with_reducible first | refine kT_ fun hc => ?_ | refine kF_ fun hc => ?_ | refine kS_ (fun hc => ?_) fun hc => ?_) <;> (try simp only [hc, bs, ↓reduceIte] at h) <;> try simp only [hc]
 | (with_reducible refine lA_ hQ ?_; (try cases h); simp only [resL, oneD, sI_, eL_, go_sem, hH, hJ, hY, hZ, b1]; try exact lE_)
 | (cases h; done))
 | name t h =>
   intro _ least s
   refine Fun.pure ?_ (by simp [D.oks, D.ok, okEx]) rfl s
   have b1 : ((2 : Int) == 1) = false := rfl
   have b2 : ((2 : Int) == 2) = true := rfl
   rw [pr_name]
   unfold S0
   refine Fun.go has_print_expr rfl fun B Q hB hQ => ?_
   have ⟨hH, hJ, hY, hZ⟩ := H4_
   repeat' (first
 | simp only [go_sem, hH, hJ, hY, hZ, b1, b2]
 | (with_reducible first | refine kT_ fun hc => ?_ | refine kF_ fun hc => ?_ | refine kS_ (fun hc => ?_) fun hc => ?_) <;> (try simp only [hc, bs, ↓reduceIte] at h) <;> try simp only [hc]
 | (with_reducible refine lA_ hQ ?_; (try cases h); simp only [resL, oneD, sI_, eL_, go_sem, hH, hJ, hY, hZ, b1, b2]; try exact lE_)
 | (cases h; done))
 | neg y hy ih =>
   intro hn least s
   refine Fun.pure ?_ (by simp [D.oks, D.ok, okEx]) rfl s
   simp only [Ex.nodes, Ex.nodess] at hn
   have i1 := ih (by omega) (least := 7)
   have l1 := prE_len hy 7
   have m1 : (1 : Nat) + (prE 7 y).length ≤ maxStr := by unfold maxStr; omega
   have b1 : ((3 : Int) == 1) = false := rfl
   have b2 : ((3 : Int) == 2) = false := rfl
   have b3 : ((3 : Int) == 3) = true := rfl
   rw [pr_neg]
   unfold S0
   refine Fun.go has_print_expr rfl fun B Q hB hQ => ?_
   have ⟨hH, hJ, hY, hZ⟩ := H4_
   repeat' (first
 | simp only [go_sem, hH, hJ, hY, hZ, b1, b2, b3, m1]
 | (with_reducible refine CU (i1 _) ?_)
 | (with_reducible first | refine kT_ fun hc => ?_ | refine kF_ fun hc => ?_ | refine kS_ (fun hc => ?_) fun hc => ?_) <;> (try simp only [hc, bs, ↓reduceIte] at h) <;> try simp only [hc]
 | (with_reducible refine lA_ hQ ?_; (try cases h); simp only [resL, oneD, sI_, eL_, go_sem, hH, hJ, hY, hZ, b1, b2, b3, m1]; try exact lE_)
 | (cases h; done))
 | no y hy ih =>
   intro hn least s
   refine Fun.pure ?_ (by simp [D.oks, D.ok, okEx]) rfl s
   simp only [Ex.nodes, Ex.nodess] at hn
   have i1 := ih (by omega) (least := 7)
   have l1 := prE_len hy 7
   have m1 : (1 : Nat) + (prE 7 y).length ≤ maxStr := by unfold maxStr; omega
   have b1 : ((4 : Int) == 1) = false := rfl
   have b2 : ((4 : Int) == 2) = false := rfl
   have b3 : ((4 : Int) == 3) = false := rfl
   have b4 : ((4 : Int) == 4) = true := rfl
   rw [pr_no]
   unfold S0
   refine Fun.go has_print_expr rfl fun B Q hB hQ => ?_
   have ⟨hH, hJ, hY, hZ⟩ := H4_
   repeat' (first
 | simp only [go_sem, hH, hJ, hY, hZ, b1, b2, b3, b4, m1]
 | (with_reducible refine CU (i1 _) ?_)
 | (with_reducible first | refine kT_ fun hc => ?_ | refine kF_ fun hc => ?_ | refine kS_ (fun hc => ?_) fun hc => ?_) <;> (try simp only [hc, bs, ↓reduceIte] at h) <;> try simp only [hc]
 | (with_reducible refine lA_ hQ ?_; (try cases h); simp only [resL, oneD, sI_, eL_, go_sem, hH, hJ, hY, hZ, b1, b2, b3, b4, m1]; try exact lE_)
 | (cases h; done))
 | two op a b ho ha hb iha ihb =>
   intro hn least s
   refine Fun.pure ?_ (by simp [D.oks, D.ok, okEx]) rfl s
   simp only [Ex.nodes, Ex.nodess] at hn
   have i1 := iha (by omega) (least := bindB op)
   have i2 := ihb (by omega) (least := bindB op + 1)
   have l1 := prE_len ha (bindB op)
   have l2 := prE_len hb (bindB op + 1)
   have l3 := signR_len' ho
   obtain ⟨p1, p2, _⟩ := bindB_pos ho
   have hw : IntKind.wrap .i64 (bindB op + 1) = bindB op + 1 := by rw [wrap_ok] <;> omega
   have m1 : (prE (bindB op) a).length + 1 ≤ maxStr := by unfold maxStr; omega
   have m2 : (prE (bindB op) a).length + 1 + (signR op).length ≤ maxStr := by unfold maxStr; omega
   have m3 : (prE (bindB op) a).length + 1 + (signR op).length + 1 ≤ maxStr := by unfold maxStr; omega
   have m4 : (prE (bindB op) a).length + 1 + (signR op).length + 1 + (prE (bindB op + 1) b).length ≤ maxStr := by unfold maxStr; omega
   have m5 : (1 : Nat) + ((prE (bindB op) a).length + 1 + (signR op).length + 1 + (prE (bindB op + 1) b).length) ≤ maxStr := by unfold maxStr; omega
   have m6 : (prE (bindB op) a).length + 1 + (signR op).length + 1 + (prE (bindB op + 1) b).length + 1 + 1 ≤ maxStr := by unfold maxStr; omega
   have b1 : (op == 1) = false := by simp only [Bool.and_eq_true, decide_eq_true_eq] at ho; exact beq_eq_false_iff_ne.2 (by omega)
   have b2 : (op == 2) = false := by simp only [Bool.and_eq_true, decide_eq_true_eq] at ho; exact beq_eq_false_iff_ne.2 (by omega)
   have b3 : (op == 3) = false := by simp only [Bool.and_eq_true, decide_eq_true_eq] at ho; exact beq_eq_false_iff_ne.2 (by omega)
   have b4 : (op == 4) = false := by simp only [Bool.and_eq_true, decide_eq_true_eq] at ho; exact beq_eq_false_iff_ne.2 (by omega)
   rw [pr_two]
   by_cases c : bindB op < least
   · have c1 : decide (bindB op < least) = true := decide_eq_true c
     rw [if_pos c]
     unfold prT
     unfold S0
     refine Fun.go has_print_expr rfl fun B Q hB hQ => ?_
     have ⟨hH, hJ, hY, hZ⟩ := H4_
     repeat' (first
 | simp only [go_sem, hH, hJ, hY, hZ, b1, b2, b3, b4, c1, hw, m1, m2, m3, m4, m5, m6, Int.toNat_one, List.getElem?_cons_succ, List.getElem?_cons_zero]
 | (with_reducible refine CU (i1 _) ?_)
 | (with_reducible refine CU (i2 _) ?_)
 | (with_reducible refine CU (psign_s ho _) ?_)
 | (with_reducible first | refine kT_ fun hc => ?_ | refine kF_ fun hc => ?_ | refine kS_ (fun hc => ?_) fun hc => ?_) <;> (try simp only [hc, bs, ↓reduceIte] at h) <;> try simp only [hc]
 | (with_reducible refine lA_ hQ ?_; (try cases h); simp only [resL, oneD, sI_, eL_, go_sem, hH, hJ, hY, hZ, b1, b2, b3, b4, c1, hw, m1, m2, m3, m4, m5, m6, Int.toNat_one, List.getElem?_cons_succ, List.getElem?_cons_zero]; try exact lE_)
 | (cases h; done))
   · have c1 : decide (bindB op < least) = false := decide_eq_false c
     rw [if_neg c]
     unfold prT
     unfold S0
     refine Fun.go has_print_expr rfl fun B Q hB hQ => ?_
     have ⟨hH, hJ, hY, hZ⟩ := H4_
     repeat' (first
 | simp only [go_sem, hH, hJ, hY, hZ, b1, b2, b3, b4, c1, hw, m1, m2, m3, m4, m5, m6, Int.toNat_one, List.getElem?_cons_succ, List.getElem?_cons_zero]
 | (with_reducible refine CU (i1 _) ?_)
 | (with_reducible refine CU (i2 _) ?_)
 | (with_reducible refine CU (psign_s ho _) ?_)
 | (with_reducible first | refine kT_ fun hc => ?_ | refine kF_ fun hc => ?_ | refine kS_ (fun hc => ?_) fun hc => ?_) <;> (try simp only [hc, bs, ↓reduceIte] at h) <;> try simp only [hc]
 | (with_reducible refine lA_ hQ ?_; (try cases h); simp only [resL, oneD, sI_, eL_, go_sem, hH, hJ, hY, hZ, b1, b2, b3, b4, c1, hw, m1, m2, m3, m4, m5, m6, Int.toNat_one, List.getElem?_cons_succ, List.getElem?_cons_zero]; try exact lE_)
 | (cases h; done))

def printE (x : Ex) : Str := if x.may then prE 0 x else []
theorem nodes_size : ∀ (m : Nat) (x : Ex), x.size ≤ m → x.nodes ≤ x.size := by
 intro m
 induction m with
 | zero => rintro ⟨op, v, name, kids⟩ h; simp only [Ex.size] at h; omega
 | succ m ih =>
   rintro ⟨op, n, name, kids⟩ h
   simp only [Ex.size, Ex.nodes] at h ⊢
   have : ∀ l : List Ex, Ex.sizes l ≤ m + 1 → Ex.nodess l ≤ Ex.sizes l := by
     intro l
     induction l with
     | nil => intro _; simp [Ex.nodess]
     | cons a l ihl =>
       intro hl
       simp only [Ex.sizes, Ex.nodess] at hl ⊢
       have := ih a (by omega)
       have := ihl (by omega)
       omega
   have := this kids (by omega)
   omega
theorem may_formI {x : Ex} (h : x.may = true) (hr : x.rng) : FormI x := by
 simp only [Ex.may, Bool.and_eq_true] at h
 exact FormI.of x.size x (Nat.le_refl _) h.2 hr
theorem pExpr_s {x : Ex} (hr : x.rng) (hn : x.nodes ≤ 1000000) (ht : x.texts) (hs : x.size < 1000000000) (s : St) : Fun Tryz.prog n_print_Expr [.agg (encEx x)] s (.str (printE x)) s := by
 refine Fun.pure ?_ (by simp [D.oks, D.ok, okEx]) rfl s
 have hm := tMayExpr_s (x := x) (by omega) ht
 unfold S0
 unfold printE
 refine Fun.go has_print_Expr rfl fun B Q hB hQ => ?_
 have ⟨hH, hJ, hY, hZ⟩ := H4_
 cases c : x.may with
 | true =>
   have he := pexpr_s (may_formI c hr) hn (least := 0)
   repeat' (first
 | simp only [go_sem, hH, hJ, hY, hZ, c, dp_may, ↓reduceIte]
 | (with_reducible refine CU (hm _) ?_)
 | (with_reducible refine CU (he _) ?_)
 | (with_reducible first | refine kT_ fun hc => ?_ | refine kF_ fun hc => ?_ | refine kS_ (fun hc => ?_) fun hc => ?_) <;> (try simp only [hc, bs, ↓reduceIte] at h) <;> try simp only [hc]
 | (with_reducible refine lA_ hQ ?_; (try cases h); simp only [resL, oneD, sI_, eL_, go_sem, hH, hJ, hY, hZ, c, dp_may, ↓reduceIte]; try exact lE_)
 | (cases h; replace h := hr; clear hr; (try simp only [bs, ↓reduceIte] at h))
 | (cases h; done))
 | false =>
   repeat' (first
 | simp only [go_sem, hH, hJ, hY, hZ, c, dp_may, ↓reduceIte]
 | (with_reducible refine CU (hm _) ?_)
 | (with_reducible first | refine kT_ fun hc => ?_ | refine kF_ fun hc => ?_ | refine kS_ (fun hc => ?_) fun hc => ?_) <;> (try simp only [hc, bs, ↓reduceIte] at h) <;> try simp only [hc]
 | (with_reducible refine lA_ hQ ?_; (try cases h); simp only [resL, oneD, sI_, eL_, go_sem, hH, hJ, hY, hZ, c, dp_may, ↓reduceIte]; try exact lE_)
 | (cases h; replace h := hr; clear hr; (try simp only [bs, ↓reduceIte] at h))
 | (cases h; done))

end Go.Abs

/-! Binds2 -/

namespace Go.Abs
open Go.Proofs

def rowB (names : List Str) (ops : List Int) : Nat → Str
 | 0 => []
 | i + 1 => rowB names ops i ++ (if i = 0 then [] else signR (ops.getD (i - 1) 0)) ++ names.getD i []

structure RowOk (names : List Str) (ops : List Int) : Prop where
 len : names.length = ops.length + 1
 most : ops.length ≤ 20
 short : ∀ x ∈ names, x.length ≤ 1
 op : ∀ o ∈ ops, (decide (5 ≤ o) && decide (o ≤ 17)) = true

/-! ### How it is parted -/

def stepB (i : Nat) (op : Int) (al : Nat × Int) : Nat × Int := if bindB op ≤ al.2 then (i, bindB op) else al
def atB : List Int → Nat → Nat × Int → Nat × Int
 | [], _, al => al
 | op :: r, i, al => atB r (i + 1) (stepB i op al)
def splitB : Nat → List Str → List Int → Ex
 | 0, _, _ => ex0
 | n + 1, names, ops => if ops.length = 0 then exName (names.getD 0 []) else
   exTwo (ops.getD (atB ops 0 (0, 9)).1 0) (splitB n (names.take ((atB ops 0 (0, 9)).1 + 1)) (ops.take (atB ops 0 (0, 9)).1)) (splitB n (names.drop ((atB ops 0 (0, 9)).1 + 1)) (ops.drop ((atB ops 0 (0, 9)).1 + 1)))

end Go.Abs

/-! Lx -/

namespace Go.Abs

def isR (c : UInt8) : Bool := (c.toNat : Int) == 35

inductive Lx : Nat → Str → List Tok → Prop where
 | nil (pos : Nat) : Lx pos [] []
 | blank (pos : Nat) (c : UInt8) (r : Str) (l : List Tok) (h : isB c = true) (k : Lx (pos + 1) r l) : Lx pos (c :: r) l
 | rem (pos : Nat) (c : UInt8) (r : Str) (l : List Tok) (h : isB c = false) (h2 : isR c = true) (k : Lx (pos + lineL (c :: r)) ((c :: r).drop (lineL (c :: r))) l) : Lx pos (c :: r) l
 | tok (pos : Nat) (c : UInt8) (r : Str) (t : Tok) (l : List Tok) (h : isB c = false) (h2 : isR c = false) (ht : tokE pos (c :: r) = .inl t) (k : Lx (pos + t.text.length) ((c :: r).drop t.text.length) l) : Lx pos (c :: r) (t :: l)

theorem lineL_le : ∀ s : Str, lineL s ≤ s.length
 | [] => Nat.le_refl _
 | c :: r => by simp only [lineL, List.length_cons]; split; have := lineL_le r; omega; omega
theorem signL_le : ∀ s : Str, signL s ≤ s.length
 | [] => Nat.le_refl _
 | [c] => by simp only [signL]; split <;> simp
 | c :: d :: r => by simp only [signL, List.length_cons]; split; omega; split; omega; omega

theorem tokE_text {pos : Nat} {s : Str} {t : Tok} (h : tokE pos s = .inl t) : t.pos = pos ∧ 0 < t.text.length ∧ ∃ rest, s = t.text ++ rest := by
 cases s with
 | nil => simp only [tokE] at h; cases h
 | cons c r =>
   simp only [tokE] at h
   cases hL : isL c
   · simp only [hL, Bool.false_eq_true, ↓reduceIte] at h
     cases hD : isD c
     · simp only [hD, Bool.false_eq_true, ↓reduceIte] at h
       split at h
       · cases h
       · cases h
         have := signL_le (c :: r)
         exact ⟨rfl, by simp only [List.length_take]; simp only [List.length_cons] at this ⊢; omega, (c :: r).drop (signL (c :: r)), by simp⟩
     · have k0 : 0 < runD (c :: r) := by simp [runD, hD]
       simp only [hD, ↓reduceIte] at h
       split at h
       · cases h
       · split at h
         · cases h
           exact ⟨rfl, by simp only [List.length_take, List.length_cons]; omega, (c :: r).drop (runD (c :: r)), by simp⟩
         · cases h
   · have k0 : 0 < runL (c :: r) := by simp [runL, hL]
     simp only [hL, ↓reduceIte] at h
     split at h
     · cases h
     · cases h
       exact ⟨rfl, by simp only [List.length_take, List.length_cons]; omega, (c :: r).drop (runL (c :: r)), by simp⟩

theorem tokE_ln {pos : Nat} {s : Str} {t : Tok} (h : tokE pos s = .inl t) : t.text.length ≤ s.length := by
 obtain ⟨_, _, rest, e⟩ := tokE_text h
 rw [e]; simp

theorem lexF_Lx {pos : Nat} {s : Str} {l : List Tok} (h : Lx pos s l) : ∀ (n : Nat) (out : List Tok), s.length < n → out.length + l.length ≤ 2000 → lexF n pos s out = (out ++ l ++ [⟨0, [], 0, (pos + s.length : Nat)⟩], 0, 0) := by
 induction h with
 | nil pos =>
   intro n out hn ho
   cases n with
   | zero => omega
   | succ n => simp [lexF]
 | blank pos c r l h k ih =>
   intro n out hn ho
   cases n with
   | zero => omega
   | succ n =>
     simp only [List.length_cons] at hn
     simp only [lexF, h, ↓reduceIte]
     rw [ih n out (by omega) ho]
     simp only [List.length_cons]
     have : pos + 1 + r.length = pos + (r.length + 1) := by omega
     rw [this]
 | rem pos c r l h h2 k ih =>
   intro n out hn ho
   cases n with
   | zero => omega
   | succ n =>
     have h3 : ((c.toNat : Int) == 35) = true := h2
     simp only [lexF, h, h3, Bool.false_eq_true, ↓reduceIte]
     have hp : 0 < lineL (c :: r) := by
       have : ((c.toNat : Int) != 10) = true := by simp only [beq_iff_eq] at h3; simp [h3]
       simp [lineL, this]
     have hle := lineL_le (c :: r)
     rw [ih n out (by rw [List.length_drop]; omega) ho]
     have : pos + lineL (c :: r) + ((c :: r).drop (lineL (c :: r))).length = pos + (c :: r).length := by rw [List.length_drop]; omega
     rw [this]
 | tok pos c r t l h h2 ht k ih =>
   intro n out hn ho
   cases n with
   | zero => omega
   | succ n =>
     have h3 : ((c.toNat : Int) == 35) = false := h2
     simp only [List.length_cons] at ho
     have hne : ¬ out.length = 2000 := by omega
     simp only [lexF, h, h3, Bool.false_eq_true, ↓reduceIte, ht, if_neg hne]
     obtain ⟨_, hp, _⟩ := tokE_text ht
     have hle := tokE_ln ht
     rw [ih n _ (by rw [List.length_drop]; omega) (by simp; omega)]
     have : pos + t.text.length + ((c :: r).drop t.text.length).length = pos + (c :: r).length := by rw [List.length_drop]; omega
     rw [this]
     simp

def tEnd (n : Nat) : Tok := ⟨0, [], 0, (n : Nat)⟩

theorem lexAll_Lx {s : Str} {l : List Tok} (h : Lx 0 s l) (hs : s.length ≤ 100000) (hl : l.length ≤ 2000) : lexAll s = (l ++ [tEnd s.length], 0, 0) := by
 unfold lexAll
 rw [if_neg (by omega), lexF_Lx h _ _ (Nat.lt_succ_self _) (by simpa using hl)]
 simp [tEnd]
end Go.Abs

/-! Lx2 -/

namespace Go.Abs

def stopC (c : UInt8) : Bool := !(isL c) && !(isD c) && !(c == 61) && !(c == 38) && !(c == 124)
def Stop : Str → Prop
 | [] => True
 | c :: _ => stopC c = true

def TGood (t : Tok) : Prop := 0 < t.text.length ∧ ∀ (p : Nat) (b : Str), Stop b → tokE p (t.text ++ b) = .inl { t with pos := (p : Nat) }
theorem tokE_first {pos : Nat} {s : Str} {t : Tok} (h : tokE pos s = .inl t) : ∃ c r, s = c :: r ∧ isB c = false ∧ isR c = false := by
 cases s with
 | nil => simp only [tokE] at h; cases h
 | cons c r =>
   refine ⟨c, r, rfl, ?_⟩
   simp only [tokE] at h
   cases hL : isL c
   · cases hD : isD c
     · simp only [hL, hD, Bool.false_eq_true, ↓reduceIte] at h
       have hs : signL (c :: r) ≠ 0 := by
         intro h0; rw [if_pos h0] at h; cases h
       have hc : ∀ n : Int, (c.toNat : Int) = n → n = 32 ∨ n = 9 ∨ n = 10 ∨ n = 13 ∨ n = 35 → False := by
         intro n hn hh
         have hcs : c = 32 ∨ c = 9 ∨ c = 10 ∨ c = 13 ∨ c = 35 := by
           have : ∀ k : UInt8, (c.toNat : Int) = (k.toNat : Int) → c = k := by
             intro k hk
             have : c.toNat = k.toNat := by omega
             exact UInt8.toNat_inj.1 this
           rcases hh with h | h | h | h | h
           · exact .inl (this 32 (by rw [hn, h]; rfl))
           · exact .inr (.inl (this 9 (by rw [hn, h]; rfl)))
           · exact .inr (.inr (.inl (this 10 (by rw [hn, h]; rfl))))
           · exact .inr (.inr (.inr (.inl (this 13 (by rw [hn, h]; rfl)))))
           · exact .inr (.inr (.inr (.inr (this 35 (by rw [hn, h]; rfl)))))
         apply hs
         cases r with
         | nil => rcases hcs with rfl | rfl | rfl | rfl | rfl <;> decide
         | cons d r =>
           have h1 : sign2 [c, d] = false := by
             cases hx : sign2 [c, d]
             · rfl
             · simp only [sign2, Bool.or_eq_true, beq_iff_eq, List.cons.injEq, and_true] at hx
               rcases hcs with rfl | rfl | rfl | rfl | rfl <;> simp at hx
           have h2 : sign1 c = false := by rcases hcs with rfl | rfl | rfl | rfl | rfl <;> decide
           simp only [signL, h1, h2, Bool.false_eq_true, ↓reduceIte]
       refine ⟨?_, ?_⟩
       · cases hb : isB c
         · rfl
         · simp only [isB, Bool.or_eq_true, beq_iff_eq] at hb
           exact (hc _ rfl (by omega)).elim
       · cases hb : isR c
         · rfl
         · simp only [isR, beq_iff_eq] at hb
           exact (hc _ rfl (by omega)).elim
     · simp only [isD, Bool.and_eq_true, decide_eq_true_eq] at hD
       refine ⟨?_, ?_⟩
       · simp only [isB, Bool.or_eq_false_iff, beq_eq_false_iff_ne, ne_eq]; omega
       · simp only [isR, beq_eq_false_iff_ne, ne_eq]; omega
   · simp only [isL, Bool.and_eq_true, decide_eq_true_eq] at hL
     refine ⟨?_, ?_⟩
     · simp only [isB, Bool.or_eq_false_iff, beq_eq_false_iff_ne, ne_eq]; omega
     · simp only [isR, beq_eq_false_iff_ne, ne_eq]; omega

theorem Lx.tok' {pos : Nat} {s : Str} {t : Tok} {l : List Tok} (ht : tokE pos s = .inl t) (k : Lx (pos + t.text.length) (s.drop t.text.length) l) : Lx pos s (t :: l) := by
 obtain ⟨c, r, rfl, h1, h2⟩ := tokE_first ht
 exact .tok _ _ _ _ _ h1 h2 ht k
end Go.Abs

/-! Tot -/

namespace Go.Abs

def Tt {α : Type} (o : Option α) (Q : α → Prop) : Prop := ∃ a, o = some a ∧ Q a
structure Rd.Ok (r : Rd) : Prop where
 k : ∀ t ∈ r.l, 0 ≤ t.kind ∧ t.kind ≤ 4
 lt : r.i < r.l.length
 len : r.l.length ≤ 2001
 last : ∀ t, r.l[r.l.length - 1]? = some t → t.kind = 0
 n1 : r.n ≤ 201

structure Rd.To (r r' : Rd) : Prop where
 ok : r'.Ok
 l : r'.l = r.l
 i : r.i ≤ r'.i
 g : r'.good = true → r.good = true
 s : r.good = false → r' = r
structure Rd.ToE (r r' : Rd) : Prop where
 to : r.To r'
 n : r'.n = r.n

/-! ### Expressions -/

def ExT (r : Rd) (p : Ex × Rd) : Prop := r.ToE p.2 ∧ (p.2.good = true → p.1.size + 3 + 4 * r.i ≤ 4 * p.2.i)

end Go.Abs

/-! Tot2 -/

namespace Go.Abs

def StT (r : Rd) (p : Sm × Rd) : Prop := r.ToE p.2 ∧ (p.2.good = true → p.1.size + 1 + 8 * r.i ≤ 8 * p.2.i)

end Go.Abs

/-! Tot3 -/

namespace Go.Abs

structure StQ (r r' : Rd) : Prop where
 to : r.To r'
 n : r'.good = true → r'.n ≤ 200

def RowsT (r : Rd) (p : (List Sm × List Str) × Rd) : Prop := StQ r p.2 ∧ (p.2.good = true → Sm.sizes p.1.1 + p.1.2.length + 8 * r.i ≤ 8 * p.2.i)

/-! ### The lexer's tokens -/

def TokOk (t : Tok) : Prop := 1 ≤ t.kind ∧ t.kind ≤ 4

theorem tokE_ok {pos : Nat} {s : Str} {t : Tok} (h : tokE pos s = .inl t) : TokOk t := by
 cases s with
 | nil => simp only [tokE] at h; cases h
 | cons c r =>
   simp only [tokE] at h
   split at h
   · split at h
     · cases h
     · cases h; simp only [TokOk]; split <;> omega
   · split at h
     · split at h
       · cases h
       · split at h
         · cases h; simp [TokOk]
         · cases h
     · split at h
       · cases h
       · cases h; simp [TokOk]

/-! ### Texts -/

def fuelM : Nat := 20000

mutual
theorem Sm.num_size (b : Bool) (n : Nat) : ∀ s : Sm, (Sm.num b n s).1.size = s.size
 | ⟨id, kind, labels, name, proc, x, has, args, thn, els⟩ => by
   simp only [Sm.num, Sm.size, Sm.nums_size b _ thn, Sm.nums_size b _ els]
theorem Sm.nums_size (b : Bool) (n : Nat) : ∀ l : List Sm, Sm.sizes (Sm.nums b n l).1 = Sm.sizes l
 | [] => rfl
 | s :: l => by simp only [Sm.nums, Sm.sizes, Sm.num_size b _ s, Sm.nums_size b _ l]
end
theorem Pc.nums_size : ∀ (n : Nat) (l : List Pc), Pc.sizes (Pc.nums n l) = Pc.sizes l
 | n, [] => rfl
 | n, f :: l => by simp only [Pc.nums, Pc.sizes, Pc.size, Sm.nums_size, Pc.nums_size _ l]
theorem Pg.number_size (p : Pg) : p.number.size = p.size := by simp only [Pg.number, Pg.size, Pc.nums_size]

end Go.Abs

/-! BindsL -/

namespace Go.Abs

inductive SplitR : Ex → List (Int × Str) → Ex → Prop
 | nil (x : Ex) : SplitR x [] x
 | cut (x : Ex) (p1 : List (Int × Str)) (op : Int) (y : Str) (p2 : List (Int × Str)) (t1 t2 : Ex) (h1 : SplitR x p1 t1) (h2 : SplitR (exName y) p2 t2) (l1 : ∀ q ∈ p1, bindB op ≤ bindB q.1) (l2 : ∀ q ∈ p2, bindB op < bindB q.1) :
   SplitR x (p1 ++ (op, y) :: p2) (exTwo op t1 t2)

def TailT : List (Int × Str) → List Tok → Prop
 | [], l => ∃ t r, l = t :: r ∧ t.kind = 0
 | (op, y) :: p, l => ∃ s u r, l = s :: u :: r ∧ s.kind = 4 ∧ s.text = signR op ∧ (decide (5 ≤ op) && decide (op ≤ 17)) = true ∧ u.kind = 1 ∧ u.text = y ∧ TailT p r

theorem drop_get {α : Type} {l r : List α} {i : Nat} {x : α} (h : l.drop i = x :: r) : l[i]? = some x ∧ l.drop (i + 1) = r := by
 obtain ⟨a, b, _, _⟩ := drop_cons h
 exact ⟨a, b⟩

def KB_two (n : Nat) : Prop := ∀ (least : Int) (r : Rd) (t0 : Tok) (p : List (Int × Str)) (l : List Tok) (x : Ex × Rd), r.l.drop r.i = t0 :: l → t0.kind = 1 → TailT p l → r.code = 0 → 1 ≤ least → Rd.two n least r = some x →
 ∃ p1 p2, p = p1 ++ p2 ∧ SplitR (exName t0.text) p1 x.1 ∧ (∀ q ∈ p1, least ≤ bindB q.1) ∧ (∀ q p', p2 = q :: p' → bindB q.1 < least) ∧ x.2 = { r with i := r.i + 1 + 2 * p1.length } ∧ TailT p2 (l.drop (2 * p1.length))
def KB_twoL (n : Nat) : Prop := ∀ (least : Int) (x0 : Ex) (A : List (Int × Str)) (x : Ex) (r : Rd) (p : List (Int × Str)) (l : List Tok) (z : Ex × Rd), r.l.drop r.i = l → TailT p l → r.code = 0 → 1 ≤ least → SplitR x0 A x →
 (∀ q p', p = q :: p' → ∀ a ∈ A, bindB q.1 ≤ bindB a.1) → Rd.twoL n least x r = some z →
 ∃ p1 p2, p = p1 ++ p2 ∧ SplitR x0 (A ++ p1) z.1 ∧ (∀ q ∈ p1, least ≤ bindB q.1) ∧ (∀ q p', p2 = q :: p' → bindB q.1 < least) ∧ z.2 = { r with i := r.i + 2 * p1.length } ∧ TailT p2 (l.drop (2 * p1.length))

end Go.Abs

/-! BindsL2 -/

namespace Go.Abs

/-! ### The documents' way -/

def AtB (d : List Int) (al : Nat × Int) : Prop := (d = [] ∧ al.2 = 9) ∨ ∃ o1 op o2, d = o1 ++ op :: o2 ∧ o1.length = al.1 ∧ bindB op = al.2 ∧ (∀ o ∈ o1, bindB op ≤ bindB o) ∧ ∀ o ∈ o2, bindB op < bindB o
/-! ### The text -/

def tailB : List Str → List Int → Str
 | x :: xs, op :: ops => signR op ++ (x ++ tailB xs ops)
 | _, _ => []

def NoGo : Str → Prop
 | [] => True
 | c :: _ => isL c = false ∧ isD c = false
end Go.Abs

/-! Full5 -/

namespace Go.Abs

def TokIs (t : Tok) (k : Int) (s : Str) (n : Int) : Prop := t.kind = k ∧ t.text = s ∧ t.n = n

inductive FullT : Ex → List Tok → List Tok → Prop
 | num (n : Int) (t : Tok) (l : List Tok) (h : t.kind = 2) (h2 : t.n = n) : FullT ⟨1, n, [], []⟩ (t :: l) l
 | name (s : Str) (t : Tok) (l : List Tok) (h : t.kind = 1) (h2 : t.text = s) : FullT ⟨2, 0, s, []⟩ (t :: l) l
 | neg (y : Ex) (p m q : Tok) (l r : List Tok) (hp : TokIs p 4 [40] 0) (hm : TokIs m 4 [45] 0) (hy : FullT y l (q :: r)) (hq : TokIs q 4 [41] 0) : FullT ⟨3, 0, [], [y]⟩ (p :: m :: l) r
 | no (y : Ex) (p m q : Tok) (l r : List Tok) (hp : TokIs p 4 [40] 0) (hm : TokIs m 4 [33] 0) (hy : FullT y l (q :: r)) (hq : TokIs q 4 [41] 0) : FullT ⟨4, 0, [], [y]⟩ (p :: m :: l) r
 | two (op : Int) (a b : Ex) (p o q : Tok) (l m r : List Tok) (ho : (decide (5 ≤ op) && decide (op ≤ 17)) = true) (hp : TokIs p 4 [40] 0) (ha : FullT a l (o :: m)) (hs : TokIs o 4 (signR op) 0) (hb : FullT b m (q :: r)) (hq : TokIs q 4 [41] 0) :
   FullT ⟨op, 0, [], [a, b]⟩ (p :: l) r

end Go.Abs

/-! Full6 -/

namespace Go.Abs

theorem dig_byte {d : Nat} (h : d < 10) : isD (UInt8.ofNat (48 + d)) = true ∧ isL (UInt8.ofNat (48 + d)) = false ∧ ((UInt8.ofNat (48 + d)).toNat : Int) = ((48 + d : Nat) : Int) := by
 have e : (UInt8.ofNat (48 + d)).toNat = 48 + d := by simp; omega
 refine ⟨?_, ?_, by rw [e]⟩
 · simp only [isD, e, Bool.and_eq_true, decide_eq_true_eq]; omega
 · simp only [isL, e, Bool.and_eq_false_iff, decide_eq_false_iff_not]; omega

theorem digF_dig : ∀ f n, ∀ c ∈ digF f n, isD c = true
 | 0, n, c, h => by simp [digF] at h
 | f + 1, n, c, h => by
   simp only [digF] at h
   split at h
   · rename_i hc; simp only [List.mem_singleton] at h; subst h; exact (dig_byte hc).1
   · rcases List.mem_append.1 h with h | h
     · exact digF_dig f _ c h
     · simp only [List.mem_singleton] at h; subst h; exact (dig_byte (Nat.mod_lt _ (by omega))).1

theorem runD_all' {b : Str} (hb : NoGo b) : ∀ s : Str, (∀ c ∈ s, isD c = true) → runD (s ++ b) = s.length
 | [], _ => by
   cases b with
   | nil => rfl
   | cons c r => simp only [NoGo] at hb; simp [runD, hb.2]
 | c :: s, h => by simp only [List.cons_append, runD, h c (by simp), ↓reduceIte, List.length_cons, runD_all' hb s (fun d hd => h d (by simp [hd]))]

theorem worth_app : ∀ (s : Str) (a : Int) (c : UInt8), worth a (s ++ [c]) = (worth a s).bind fun n => worth n [c]
 | [], a, c => by simp [worth]
 | d :: s, a, c => by
   simp only [List.cons_append, worth]
   split
   · rfl
   · exact worth_app s _ c

theorem digF_worth : ∀ f n, n < 10 ^ f → n ≤ 9223372036854775807 → 0 < f → worth 0 (digF f n) = some (n : Int)
 | 0, n, _, _, h => by omega
 | f + 1, n, hn, hm, _ => by
   simp only [digF]
   split
   · have := (dig_byte (d := n) (by omega)).2.2
     simp only [worth, this]
     rw [if_neg (by omega)]
     congr 1; omega
   · have hf0 : 0 < f := by
       cases f with
       | zero => simp at hn; omega
       | succ f => omega
     have := (dig_byte (d := n % 10) (by omega)).2.2
     rw [worth_app, digF_worth f (n / 10) (by rw [Nat.pow_succ] at hn; omega) (by omega) hf0]
     simp only [Option.bind_some, worth, this]
     rw [if_neg (by omega)]
     congr 1; omega

theorem digF_first : ∀ f n, 10 ≤ n → n < 10 ^ f → ∃ d r, 1 ≤ d ∧ d < 10 ∧ digF f n = UInt8.ofNat (48 + d) :: r
 | 0, n, h, hn => by simp at hn; omega
 | f + 1, n, h, hn => by
   simp only [digF]
   rw [if_neg (by omega)]
   by_cases h1 : n / 10 < 10
   · cases f with
     | zero => simp at hn; omega
     | succ f => simp only [digF, if_pos h1, List.cons_append, List.nil_append]; exact ⟨n / 10, _, by omega, h1, rfl⟩
   · obtain ⟨d, r, k1, k2, k3⟩ := digF_first f (n / 10) (by omega) (by rw [Nat.pow_succ] at hn; omega)
     rw [k3]
     exact ⟨d, _, k1, k2, rfl⟩

theorem tokE_num {n : Nat} (hn : n ≤ 9223372036854775807) (pos : Nat) {r : Str} (hr : NoGo r) : tokE pos (digF 20 n ++ r) = .inl ⟨2, digF 20 n, n, pos⟩ := by
 have hrun := runD_all' hr (digF 20 n) (digF_dig 20 n)
 have hw := digF_worth 20 n (by omega) hn (by omega)
 have hfirst : ∃ c s, digF 20 n = c :: s ∧ isD c = true ∧ isL c = false ∧ ¬ (s.length + 1 > 1 ∧ (c.toNat : Int) = 48) := by
   by_cases h : n < 10
   · obtain ⟨b1, b2, b3⟩ := dig_byte h
     exact ⟨_, [], by simp only [digF, if_pos h], b1, b2, by simp⟩
   · obtain ⟨d, s, k1, k2, k3⟩ := digF_first 20 n (by omega) (by omega)
     obtain ⟨b1, b2, b3⟩ := dig_byte k2
     exact ⟨_, s, k3, b1, b2, by rw [b3]; omega⟩
 obtain ⟨c, s, e, h1, h2, h3⟩ := hfirst
 rw [e] at hrun hw ⊢
 have ht : (c :: s ++ r).take (c :: s).length = c :: s := List.take_left' rfl
 rw [List.cons_append] at hrun ht ⊢
 simp only [tokE, h1, h2, Bool.false_eq_true, ↓reduceIte, hrun, ht, hw]
 rw [if_neg (by simpa using h3)]

end Go.Abs

/-! Full7 -/

namespace Go.Abs

def Okd : Str → Prop
 | [] => False
 | d :: _ => d ≠ 61 ∧ d ≠ 38 ∧ d ≠ 124

theorem sign2_okd {c d : UInt8} {r : Str} (h : Okd (d :: r)) : sign2 [c, d] = false := by
 obtain ⟨a, b, e⟩ := h
 simp [sign2, a, b, e]

theorem okd_of {d : UInt8} {r : Str} (h : isL d = true ∨ isD d = true ∨ d = 40) : Okd (d :: r) := by
 refine ⟨?_, ?_, ?_⟩ <;> rintro rfl <;> rcases h with h | h | h <;> first | exact absurd h (by decide) | cases h

theorem tokE_sign' {op : Int} (h : (decide (5 ≤ op) && decide (op ≤ 17)) = true) (pos : Nat) {r : Str} (hr : Okd r) : tokE pos (signR op ++ r) = .inl ⟨4, signR op, 0, pos⟩ := by
 cases r with
 | nil => exact hr.elim
 | cons c r =>
   have s2 := fun a => sign2_okd (c := a) hr
   rcases signs h with rfl | rfl | rfl | rfl | rfl | rfl | rfl | rfl | rfl | rfl | rfl | rfl | rfl
   all_goals simp (decide := true) [signR, tokE, signL, s2]

theorem tokE_open (pos : Nat) (r : Str) : tokE pos (40 :: r) = .inl ⟨4, [40], 0, pos⟩ := by
 cases r with
 | nil => simp (decide := true) [tokE, signL]
 | cons d r => 
   have : sign2 [40, d] = false := by simp (decide := true) [sign2]
   simp (decide := true) [tokE, signL, this]
theorem tokE_shut (pos : Nat) (r : Str) : tokE pos (41 :: r) = .inl ⟨4, [41], 0, pos⟩ := by
 cases r with
 | nil => simp (decide := true) [tokE, signL]
 | cons d r => 
   have : sign2 [41, d] = false := by simp (decide := true) [sign2]
   simp (decide := true) [tokE, signL, this]
theorem tokE_minus (pos : Nat) (r : Str) : tokE pos (45 :: r) = .inl ⟨4, [45], 0, pos⟩ := by
 cases r with
 | nil => simp (decide := true) [tokE, signL]
 | cons d r => 
   have : sign2 [45, d] = false := by simp (decide := true) [sign2]
   simp (decide := true) [tokE, signL, this]
theorem tokE_not (pos : Nat) {r : Str} (hr : Okd r) : tokE pos (33 :: r) = .inl ⟨4, [33], 0, pos⟩ := by
 cases r with
 | nil => exact hr.elim
 | cons d r => 
   have := sign2_okd (c := 33) hr
   simp (decide := true) [tokE, signL, this]

theorem nameT_run {b : Str} (hb : NoGo b) : ∀ s : Str, nameT s = true → runL (s ++ b) = s.length
 | [], _ => by
   cases b with
   | nil => rfl
   | cons c r => simp only [NoGo] at hb; simp [runL, hb.1, hb.2]
 | c :: s, h => by
   simp only [nameT] at h
   split at h
   · cases h
   · rename_i hc
     have : (isL c || isD c) = true := by cases h1 : isL c <;> cases h2 : isD c <;> simp [h1, h2] at hc ⊢
     simp only [List.cons_append, runL, this, ↓reduceIte, List.length_cons, nameT_run hb s h]

theorem tokE_nm {t : Str} (ht : isName t = true) (pos : Nat) {r : Str} (hr : NoGo r) : tokE pos (t ++ r) = .inl ⟨1, t, 0, pos⟩ ∧ ∃ c s, t = c :: s ∧ isL c = true := by
 cases t with
 | nil => cases ht
 | cons c s =>
   have hlen := isName_len ht
   simp only [isName] at ht
   split at ht
   · cases ht
   · rename_i hc
     simp only [Bool.or_eq_true, not_or, Bool.not_eq_true', Bool.not_eq_false] at hc
     split at ht
     · rename_i hn
       have hw : isWord (c :: s) = false := by simpa using ht
       have hrun : runL (c :: (s ++ r)) = (c :: s).length := by simp only [runL, hc.2, Bool.true_or, ↓reduceIte, nameT_run hr s hn, List.length_cons]
       have htk : (c :: (s ++ r)).take (c :: s).length = c :: s := by rw [← List.cons_append]; exact List.take_left' rfl
       refine ⟨?_, c, s, rfl, hc.2⟩
       rw [List.cons_append]
       simp only [tokE, hc.2, ↓reduceIte, hrun, htk, hw, Bool.false_eq_true]
       rw [if_neg (by omega)]
     · cases ht

end Go.Abs

/-! Pe1 -/

namespace Go.Abs

def Rd.mv (r : Rd) (k : Nat) : Rd := { r with i := r.i + k }
theorem mv_mv (r : Rd) (a b : Nat) : (r.mv a).mv b = r.mv (a + b) := by simp [Rd.mv, Nat.add_assoc]

structure At (r : Rd) (l : List Tok) : Prop where
 d : r.l.drop r.i = l
 c : r.code = 0
 s : r.l.length < 1000000000

theorem At.app {r : Rd} {a b : List Tok} (h : At r (a ++ b)) : At (r.mv a.length) b := by
 refine ⟨?_, h.c, h.s⟩
 have := h.d
 show r.l.drop (r.i + a.length) = b
 rw [← List.drop_drop, this, List.drop_left]
theorem At.one {r : Rd} {t : Tok} {m : List Tok} (h : At r (t :: m)) : At (r.mv 1) m := At.app (a := [t]) h
theorem At.get {r : Rd} {t : Tok} {m : List Tok} (h : At r (t :: m)) : r.l[r.i]? = some t := (drop_get h.d).1
theorem At.good {r : Rd} {l : List Tok} (h : At r l) : r.good = true := by simp [h.c]
theorem At.lt {r : Rd} {t : Tok} {m : List Tok} (h : At r (t :: m)) : r.i < 1000000000 := by
 have := (List.getElem?_eq_some_iff.1 h.get).1
 have := h.s
 omega
theorem At.getO {r : Rd} {t : Tok} {m : List Tok} (h : At r (t :: m)) : Go.Abs.getO r.l r.i = some t := by
 unfold Go.Abs.getO
 rw [if_pos (by have := h.lt; omega), h.get]

def Kd (t : Tok) : Prop := 0 ≤ t.kind ∧ t.kind ≤ 4
theorem Kd.of {t : Tok} {k : Int} (h : t.kind = k) (h0 : (decide (0 ≤ k) && decide (k ≤ 4)) = true := by decide) : Kd t := by
 simp only [Bool.and_eq_true, decide_eq_true_eq] at h0
 exact ⟨by omega, by omega⟩
theorem At.peek {r : Rd} {t : Tok} {m : List Tok} (h : At r (t :: m)) (hk : Kd t) : r.peek = some t := by
 unfold Rd.peek
 rw [h.getO, Option.bind_some, if_pos]
 simp only [Bool.and_eq_true, decide_eq_true_eq]
 exact hk
theorem At.is {r : Rd} {t : Tok} {m : List Tok} (h : At r (t :: m)) (hk : Kd t) (s : Str) : r.is s = some ((t.kind == 3 || t.kind == 4) && t.text == s) := by
 unfold Rd.is
 rw [h.peek hk]; rfl
theorem At.take_yes {r : Rd} {t : Tok} {m : List Tok} (h : At r (t :: m)) {s : Str} (hk : t.kind = 3 ∨ t.kind = 4) (ht : t.text = s) : r.take s = some (true, r.mv 1) := by
 unfold Rd.take
 rw [h.good, h.is (by rcases hk with h | h <;> exact Kd.of h)]
 have : ((t.kind == 3 || t.kind == 4) && t.text == s) = true := by rcases hk with h | h <;> simp [h, ht]
 rw [this]; rfl
theorem At.take_no {r : Rd} {t : Tok} {m : List Tok} (h : At r (t :: m)) {s : Str} (hk : Kd t) (ht : (t.kind ≠ 3 ∧ t.kind ≠ 4) ∨ t.text ≠ s) : r.take s = some (false, r) := by
 unfold Rd.take
 rw [h.good, h.is hk]
 have : ((t.kind == 3 || t.kind == 4) && t.text == s) = false := by
   rcases ht with ⟨h1, h2⟩ | h
   · simp [h1, h2]
   · simp [h]
 rw [this]; rfl
theorem At.want {r : Rd} {t : Tok} {m : List Tok} (h : At r (t :: m)) {s : Str} (hk : t.kind = 3 ∨ t.kind = 4) (ht : t.text = s) : r.want s = some (r.mv 1) := by
 unfold Rd.want
 rw [h.take_yes hk ht]; rfl
theorem At.name {r : Rd} {t : Tok} {m : List Tok} (h : At r (t :: m)) (hk : t.kind = 1) : r.name true = some (t.text, r.mv 1) := by
 unfold Rd.name
 rw [h.peek (Kd.of hk), h.good]
 have : (t.kind != 1) = false := by simp [hk]
 simp only [Option.bind_some, this, Bool.not_true, Bool.or_self, Bool.false_eq_true, ↓reduceIte]
 rfl

def Halt (c : Int) (m : List Tok) : Prop := ∃ t m', m = t :: m' ∧ Kd t ∧ ((opOf t).1 = 0 ∨ (opOf t).2 ≤ c)

theorem twoL_halt {n : Nat} {k c : Int} {x : Ex} {r : Rd} {m : List Tok} (h : At r m) (hm : Halt c m) (hc : c < k) (hn : 0 < n) : Rd.twoL n k x r = some (x, r) := by
 obtain ⟨t, m', rfl, hk, hop⟩ := hm
 cases n with
 | zero => omega
 | succ n =>
   simp only [Rd.twoL]
   rw [if_pos h.good, h.peek hk, Option.bind_some, if_pos]
   rcases hop with h | h
   · simp [h]
   · simp; omega

def OneAs (x : Ex) (l : List Tok) : Prop := ∀ (r : Rd) (lr : List Tok) (n : Nat), At r (l ++ lr) → 3 * l.length ≤ n + 1 → Rd.one n r = some (x, r.mv l.length)
def TwoAs (c : Int) (x : Ex) (l : List Tok) : Prop := ∀ (r : Rd) (lr : List Tok) (n : Nat) (k : Int), At r (l ++ lr) → Halt c lr → k ≤ c → 3 * l.length ≤ n → ∃ n', n ≤ n' + 3 * l.length ∧ Rd.two n k r = Rd.twoL n' k x (r.mv l.length)

theorem OneAs.two {x : Ex} {l : List Tok} (h : OneAs x l) (hl : 0 < l.length) (c : Int) : TwoAs c x l := by
 intro r lr n k hA _ _ hn
 cases n with
 | zero => omega
 | succ n =>
   refine ⟨n, by omega, ?_⟩
   simp only [Rd.two]
   rw [h r lr n hA (by omega)]
   rfl

theorem one_num {t : Tok} (hk : t.kind = 2) : OneAs ⟨1, t.n, [], []⟩ [t] := by
 intro r lr n hA hn
 cases n with
 | zero => simp at hn
 | succ n =>
   simp only [List.cons_append, List.nil_append] at hA
   simp only [Rd.one]
   rw [hA.peek (Kd.of hk), hA.good]
   have k2 : (t.kind == 2) = true := by simp [hk]
   simp only [Option.bind_some, k2, Bool.not_true, Bool.false_eq_true, ↓reduceIte]
   rfl
theorem one_name {t : Tok} (hk : t.kind = 1) : OneAs ⟨2, 0, t.text, []⟩ [t] := by
 intro r lr n hA hn
 cases n with
 | zero => simp at hn
 | succ n =>
   simp only [List.cons_append, List.nil_append] at hA
   simp only [Rd.one]
   rw [hA.peek (Kd.of hk), hA.good]
   have k2 : (t.kind == 2) = false := by simp [hk]
   have k1 : (t.kind == 1) = true := by simp [hk]
   simp only [Option.bind_some, k2, k1, Bool.not_true, Bool.false_eq_true, ↓reduceIte]
   rfl
theorem one_neg {y : Ex} {l : List Tok} {t : Tok} (hk : t.kind = 4) (ht : t.text = [45]) (hy : OneAs y l) : OneAs ⟨3, 0, [], [y]⟩ (t :: l) := by
 intro r lr n hA hn
 simp only [List.length_cons] at hn
 cases n with
 | zero => omega
 | succ n =>
   simp only [List.cons_append] at hA
   simp only [Rd.one]
   have k2 : (t.kind == 2) = false := by simp [hk]
   have k1 : (t.kind == 1) = false := by simp [hk]
   rw [hA.peek (Kd.of hk), hA.good]
   simp only [Option.bind_some, k2, k1, Bool.not_true, Bool.false_eq_true, ↓reduceIte]
   rw [hA.take_no (Kd.of hk) (.inr (by rw [ht]; decide))]
   simp only [Option.bind_some, Bool.false_eq_true, ↓reduceIte]
   rw [hA.take_yes (.inr hk) ht]
   simp only [Option.bind_some, ↓reduceIte]
   rw [hy _ lr n hA.one (by omega)]
   simp only [Option.bind_some, mv_mv, List.length_cons, Nat.add_comm]
theorem one_not {y : Ex} {l : List Tok} {t : Tok} (hk : t.kind = 4) (ht : t.text = [33]) (hy : OneAs y l) : OneAs ⟨4, 0, [], [y]⟩ (t :: l) := by
 intro r lr n hA hn
 simp only [List.length_cons] at hn
 cases n with
 | zero => omega
 | succ n =>
   simp only [List.cons_append] at hA
   simp only [Rd.one]
   have k2 : (t.kind == 2) = false := by simp [hk]
   have k1 : (t.kind == 1) = false := by simp [hk]
   rw [hA.peek (Kd.of hk), hA.good]
   simp only [Option.bind_some, k2, k1, Bool.not_true, Bool.false_eq_true, ↓reduceIte]
   rw [hA.take_no (Kd.of hk) (.inr (by rw [ht]; decide))]
   simp only [Option.bind_some, Bool.false_eq_true, ↓reduceIte]
   rw [hA.take_no (Kd.of hk) (.inr (by rw [ht]; decide))]
   simp only [Option.bind_some, Bool.false_eq_true, ↓reduceIte]
   rw [hA.take_yes (.inr hk) ht]
   simp only [Option.bind_some, ↓reduceIte]
   rw [hy _ lr n hA.one (by omega)]
   simp only [Option.bind_some, mv_mv, List.length_cons, Nat.add_comm]

theorem halt_sign {t : Tok} {m : List Tok} (hk : t.kind = 4) {s : Str} (ht : t.text = s) (hs : (s == [41] || s == [59] || s == [44] || s == [123] || s == [125]) = true) (c : Int) : Halt c (t :: m) := by
 refine ⟨t, m, rfl, Kd.of hk, .inl ?_⟩
 simp only [Bool.or_eq_true, beq_iff_eq] at hs
 rcases hs with (((rfl | rfl) | rfl) | rfl) | rfl <;> simp (decide := true) [opOf, hk, ht]
theorem one_shut {c : Int} {x : Ex} {l : List Tok} {p q : Tok} (hx : TwoAs c x l) (hc : 1 ≤ c) (hp : p.kind = 4) (hpt : p.text = [40]) (hq : q.kind = 4) (hqt : q.text = [41]) : OneAs x (p :: (l ++ [q])) := by
 intro r lr n hA hn
 simp only [List.length_cons, List.length_append, List.length_nil] at hn
 cases n with
 | zero => omega
 | succ n =>
   simp only [List.cons_append, List.append_assoc, List.nil_append] at hA
   simp only [Rd.one]
   have k2 : (p.kind == 2) = false := by simp [hp]
   have k1 : (p.kind == 1) = false := by simp [hp]
   rw [hA.peek (Kd.of hp), hA.good]
   simp only [Option.bind_some, k2, k1, Bool.not_true, Bool.false_eq_true, ↓reduceIte]
   rw [hA.take_yes (.inr hp) hpt]
   simp only [Option.bind_some, ↓reduceIte]
   obtain ⟨n', h1, h2⟩ := hx _ (q :: lr) n 1 hA.one (halt_sign hq hqt rfl _) hc (by omega)
   rw [h2, twoL_halt hA.one.app (halt_sign hq hqt rfl 0) (by omega) (by omega)]
   simp only [Option.bind_some]
   rw [hA.one.app.want (.inr hq) hqt]
   simp only [Option.bind_some, mv_mv, List.length_cons, List.length_append, List.length_nil]
   congr 3
   omega

theorem two_two {op : Int} (hop : (decide (5 ≤ op) && decide (op ≤ 17)) = true) {a b : Ex} {la lb : List Tok} {o : Tok} (ha : TwoAs (bindB op) a la) (hk : o.kind = 4) (ht : o.text = signR op) (hb : TwoAs (bindB op + 1) b lb) {c : Int} (hc : c ≤ bindB op) :
   TwoAs c ⟨op, 0, [], [a, b]⟩ (la ++ o :: lb) := by
 intro r lr n k hA hh hkc hn
 have hB := bindB_pos hop
 have ho : opOf o = (op, bindB op) := by rw [binds_op o hk, ht, hB.2.2]; rfl
 simp only [List.length_append, List.length_cons] at hn ⊢
 simp only [List.append_assoc, List.cons_append] at hA
 obtain ⟨n1, h1, h2⟩ := ha r (o :: (lb ++ lr)) n k hA ⟨o, _, rfl, Kd.of hk, .inr (by rw [ho]; exact Int.le_refl _)⟩ (by omega) (by omega)
 rw [h2]
 cases n1 with
 | zero => omega
 | succ n1 =>
   refine ⟨n1, by omega, ?_⟩
   have hA1 := hA.app
   have o0 : (op == 0) = false := by
     simp only [Bool.and_eq_true, decide_eq_true_eq] at hop
     exact beq_eq_false_iff_ne.2 (by omega)
   have hcn : (decide (bindB op < k) || op == 0) = false := by simp [o0]; omega
   rw [Rd.twoL, if_pos hA1.good, hA1.peek (Kd.of hk), Option.bind_some, ho, if_neg (by rw [hcn]; simp)]
   have hA2 : At ({ r.mv la.length with i := (r.mv la.length).i + 1 } : Rd) (lb ++ lr) := hA1.one
   have hh' : Halt (bindB op) lr := by
     obtain ⟨t, m', e, h1, h2⟩ := hh
     exact ⟨t, m', e, h1, h2.imp_right fun h => by omega⟩
   have hh'' : Halt (bindB op + 1) lr := by
     obtain ⟨t, m', e, h1, h2⟩ := hh
     exact ⟨t, m', e, h1, h2.imp_right fun h => by omega⟩
   obtain ⟨n3, h3, h4⟩ := hb _ lr n1 (bindB op + 1) hA2 hh'' (Int.le_refl _) (by omega)
   rw [h4, twoL_halt hA2.app hh' (by omega) (by omega), Option.bind_some]
   have : (Rd.mv { r.mv la.length with i := (r.mv la.length).i + 1 } lb.length) = r.mv (la.length + (lb.length + 1)) := by simp [Rd.mv]; omega
   rw [this]

end Go.Abs

/-! Pe2 -/

namespace Go.Abs

def exN (least : Int) : Ex → Nat
 | ⟨op, _, _, kids⟩ => match kids with
   | [] => 1
   | [a] => 1 + exN 7 a
   | a :: b :: _ => exN (bindB op) a + 1 + exN (bindB op + 1) b + (if bindB op < least then 2 else 0)
theorem exN_le {x : Ex} (h : FormI x) : ∀ least, 0 < exN least x ∧ exN least x ≤ 3 * x.nodes := by
 induction h with
 | num n => intro least; simp [exN, Ex.nodes, Ex.nodess]
 | name n => intro least; simp [exN, Ex.nodes, Ex.nodess]
 | neg y hy ih => intro least; have := ih 7; simp only [exN, Ex.nodes, Ex.nodess]; omega
 | no y hy ih => intro least; have := ih 7; simp only [exN, Ex.nodes, Ex.nodess]; omega
 | two op a b ho ha hb iha ihb =>
   intro least
   have := iha (bindB op); have := ihb (bindB op + 1)
   simp only [exN, Ex.nodes, Ex.nodess]
   split <;> omega

def LxS (s : Str) (pos : Nat) (l : List Tok) : Prop := ∀ r lr, NoGo r → Lx (pos + s.length) r lr → Lx pos (s ++ r) (l ++ lr)

theorem prE_first {x : Ex} (h : FormI x) : ∀ least, ∃ c s, prE least x = c :: s ∧ (isL c = true ∨ isD c = true ∨ c = 40 ∨ c = 45 ∨ c = 33) := by
 induction h with
 | num n h0 h1 =>
   intro least
   obtain ⟨c, s, e, hd⟩ : ∃ c s, digF 20 n.toNat = c :: s ∧ isD c = true := by
     cases h : digF 20 n.toNat with
     | nil =>
       exfalso
       rw [show (20 : Nat) = 19 + 1 from rfl, digF] at h
       split at h <;> simp at h
     | cons c s => exact ⟨c, s, rfl, digF_dig 20 n.toNat c (by rw [h]; simp)⟩
   exact ⟨c, s, by rw [pr_num]; exact e, .inr (.inl hd)⟩
 | name t ht =>
   intro least
   obtain ⟨_, c, s, e, hc⟩ := tokE_nm ht 0 (r := []) trivial
   exact ⟨c, s, by rw [pr_name]; exact e, .inl hc⟩
 | neg y hy => intro least; exact ⟨45, _, by rw [pr_neg]; rfl, by simp⟩
 | no y hy => intro least; exact ⟨33, _, by rw [pr_no]; rfl, by simp⟩
 | two op a b ho ha hb iha ihb =>
   intro least
   rw [pr_two]
   split
   · exact ⟨40, _, rfl, by simp⟩
   · obtain ⟨c, s, e, h⟩ := iha (bindB op)
     exact ⟨c, s ++ ([32] ++ signR op ++ [32] ++ prE (bindB op + 1) b), by unfold prT; rw [e]; simp, h⟩
theorem prE_okd {x : Ex} (h : FormI x) (least : Int) (r : Str) : Okd (prE least x ++ r) := by
 obtain ⟨c, s, e, h⟩ := prE_first h least
 rw [e]
 rcases h with h | h | h | h | h
 · exact okd_of (.inl h)
 · exact okd_of (.inr (.inl h))
 · exact okd_of (.inr (.inr h))
 · subst h; exact ⟨by decide, by decide, by decide⟩
 · subst h; exact ⟨by decide, by decide, by decide⟩

theorem LxS.shut {s : Str} {pos : Nat} {l : List Tok} (h : LxS s (pos + 1) l) : LxS ([40] ++ s ++ [41]) pos (⟨4, [40], 0, (pos : Nat)⟩ :: (l ++ [⟨4, [41], 0, ((pos + 1 + s.length : Nat) : Int)⟩])) := by
 intro r lr hr hl
 simp only [List.cons_append, List.append_assoc, List.nil_append]
 refine .tok' (tokE_open _ _) ?_
 refine h (41 :: r) _ ⟨by decide, by decide⟩ ?_
 refine .tok' (tokE_shut _ _) ?_
 have : pos + 1 + s.length + 1 = pos + ([40] ++ s ++ [41]).length := by simp; omega
 simpa [this] using hl

theorem LxS.sign {s t : Str} {pos : Nat} {l m : List Tok} {op : Int} (ho : (decide (5 ≤ op) && decide (op ≤ 17)) = true) (h : LxS s pos l) (k : LxS t (pos + s.length + 1 + (signR op).length + 1) m) :
   LxS (s ++ [32] ++ signR op ++ [32] ++ t) pos (l ++ ⟨4, signR op, 0, ((pos + s.length + 1 : Nat) : Int)⟩ :: m) := by
 intro r lr hr hl
 simp only [List.cons_append, List.append_assoc, List.nil_append]
 refine h _ _ ⟨by decide, by decide⟩ ?_
 refine .blank _ _ _ _ (by decide) ?_
 refine .tok' (tokE_sign' ho _ ⟨by decide, by decide, by decide⟩) ?_
 dsimp only
 rw [List.drop_left]
 refine .blank _ _ _ _ (by decide) ?_
 refine k r lr hr ?_
 have : pos + s.length + 1 + (signR op).length + 1 + t.length = pos + (s ++ [32] ++ signR op ++ [32] ++ t).length := by simp; omega
 rw [this]; exact hl

def NoCall (l : List Tok) : Prop := (∃ t l', l = t :: l' ∧ (t.kind = 2 ∨ (t.kind = 4 ∧ (t.text = [40] ∨ t.text = [45] ∨ t.text = [33])))) ∨ (∃ t, l = [t] ∧ t.kind = 1) ∨ ∃ t u l', l = t :: u :: l' ∧ t.kind = 1 ∧ (decide (5 ≤ (opOf u).1) && decide ((opOf u).1 ≤ 17)) = true
theorem NoCall.sign {la lb : List Tok} {o : Tok} (h : NoCall la) {op : Int} (hop : (decide (5 ≤ op) && decide (op ≤ 17)) = true) (hk : o.kind = 4) (ho : o.text = signR op) : NoCall (la ++ o :: lb) := by
 rcases h with ⟨t, l', rfl, h⟩ | ⟨t, rfl, h⟩ | ⟨t, u, l', rfl, h⟩
 · exact .inl ⟨t, _, rfl, h⟩
 · refine .inr (.inr ⟨t, o, lb, rfl, h, ?_⟩)
   have hB := bindB_pos hop
   have : opOf o = (op, bindB op) := by rw [binds_op o hk, ho, hB.2.2]; rfl
   rw [this]; exact hop
 · exact .inr (.inr ⟨t, u, _, rfl, h⟩)

theorem pr_as {x : Ex} (h : FormI x) : ∀ least : Int, ∀ pos : Nat, ∃ l, l.length = exN least x ∧ LxS (prE least x) pos l ∧ TwoAs least x l ∧ (least = 7 → OneAs x l) ∧ NoCall l := by
 induction h with
 | num n h0 h1 =>
   intro least pos
   have e := Int.toNat_of_nonneg h0
   have h1' : OneAs ⟨1, n, [], []⟩ [⟨2, digF 20 n.toNat, n.toNat, (pos : Nat)⟩] := by
     have := one_num (t := ⟨2, digF 20 n.toNat, n.toNat, (pos : Nat)⟩) rfl
     dsimp only at this
     rw [e] at this
     simpa [e] using this
   refine ⟨[⟨2, digF 20 n.toNat, n.toNat, (pos : Nat)⟩], by simp [exN], fun r lr hr hl => ?_, h1'.two (by simp) _, fun _ => h1', .inl ⟨_, _, rfl, .inl rfl⟩⟩
   rw [pr_num] at hl ⊢
   refine .tok' (tokE_num (by omega) pos hr) ?_
   simpa using hl
 | name t ht =>
   intro least pos
   have h1' : OneAs ⟨2, 0, t, []⟩ [⟨1, t, 0, (pos : Nat)⟩] := one_name (t := ⟨1, t, 0, (pos : Nat)⟩) rfl
   refine ⟨[⟨1, t, 0, (pos : Nat)⟩], by simp [exN], fun r lr hr hl => ?_, h1'.two (by simp) _, fun _ => h1', .inr (.inl ⟨_, rfl, rfl⟩)⟩
   rw [pr_name] at hl ⊢
   refine .tok' (tokE_nm ht pos hr).1 ?_
   simpa using hl
 | neg y hy ih =>
   intro least pos
   obtain ⟨l, g1, g2, g3, g4, _⟩ := ih 7 (pos + 1)
   have h1' := one_neg (t := ⟨4, [45], 0, (pos : Nat)⟩) rfl rfl (g4 rfl)
   refine ⟨⟨4, [45], 0, (pos : Nat)⟩ :: l, by simp only [exN, List.length_cons]; omega, fun r lr hr hl => ?_, h1'.two (by simp) _, fun _ => h1', .inl ⟨_, _, rfl, .inr ⟨rfl, .inr (.inl rfl)⟩⟩⟩
   rw [pr_neg] at hl ⊢
   simp only [List.cons_append, List.nil_append, List.length_cons] at hl ⊢
   refine .tok' (tokE_minus _ _) ?_
   refine g2 r lr hr ?_
   have : pos + 1 + (prE 7 y).length = pos + ((prE 7 y).length + 1) := by omega
   rw [this]; exact hl
 | no y hy ih =>
   intro least pos
   obtain ⟨l, g1, g2, g3, g4, _⟩ := ih 7 (pos + 1)
   have h1' := one_not (t := ⟨4, [33], 0, (pos : Nat)⟩) rfl rfl (g4 rfl)
   refine ⟨⟨4, [33], 0, (pos : Nat)⟩ :: l, by simp only [exN, List.length_cons]; omega, fun r lr hr hl => ?_, h1'.two (by simp) _, fun _ => h1', .inl ⟨_, _, rfl, .inr ⟨rfl, .inr (.inr rfl)⟩⟩⟩
   rw [pr_no] at hl ⊢
   simp only [List.cons_append, List.nil_append, List.length_cons] at hl ⊢
   refine .tok' (tokE_not _ (prE_okd hy 7 r)) ?_
   refine g2 r lr hr ?_
   have : pos + 1 + (prE 7 y).length = pos + ((prE 7 y).length + 1) := by omega
   rw [this]; exact hl
 | two op a b ho ha hb iha ihb =>
   have hB := bindB_pos ho
   have key : ∀ pos : Nat, ∃ l, l.length = exN (bindB op) a + 1 + exN (bindB op + 1) b ∧ LxS (prT op a b) pos l ∧ (∀ c, c ≤ bindB op → TwoAs c ⟨op, 0, [], [a, b]⟩ l) ∧ NoCall l := by
     intro pos
     obtain ⟨l, g1, g2, g3, g4, g5⟩ := iha (bindB op) pos
     obtain ⟨m, k1, k2, k3, k4⟩ := ihb (bindB op + 1) (pos + (prE (bindB op) a).length + 1 + (signR op).length + 1)
     exact ⟨_, by simp only [List.length_append, List.length_cons]; omega, LxS.sign ho g2 k2, fun c hc => two_two ho g3 rfl rfl k3 hc, g5.sign ho rfl rfl⟩
   intro least pos
   rw [pr_two]
   simp only [exN]
   by_cases hl : bindB op < least
   · rw [if_pos hl, if_pos hl]
     obtain ⟨l, g1, g2, g3, _⟩ := key (pos + 1)
     have h1' := one_shut (p := ⟨4, [40], 0, (pos : Nat)⟩) (q := ⟨4, [41], 0, ((pos + 1 + (prT op a b).length : Nat) : Int)⟩) (g3 1 hB.1) (by omega) rfl rfl rfl rfl
     exact ⟨_, by simp only [List.length_append, List.length_cons, List.length_nil]; omega, g2.shut, h1'.two (by simp) _, fun _ => h1', .inl ⟨_, _, rfl, .inr ⟨rfl, .inl rfl⟩⟩⟩
   · rw [if_neg hl, if_neg hl]
     obtain ⟨l, g1, g2, g3, g4⟩ := key pos
     exact ⟨l, by omega, g2, g3 _ (by omega), fun h => by omega, g4⟩

theorem pr_01 {x : Ex} (h : FormI x) : prE 0 x = prE 1 x ∧ exN 0 x = exN 1 x := by
 cases h with
 | num n => rw [pr_num, pr_num]; exact ⟨rfl, rfl⟩
 | name n => rw [pr_name, pr_name]; exact ⟨rfl, rfl⟩
 | neg n => rw [pr_neg, pr_neg]; exact ⟨rfl, rfl⟩
 | no n => rw [pr_no, pr_no]; exact ⟨rfl, rfl⟩
 | two op a b ho =>
   have := bindB_pos ho
   rw [pr_two, pr_two, if_neg (by omega), if_neg (by omega)]
   refine ⟨rfl, ?_⟩
   simp only [exN]
   rw [if_neg (by omega), if_neg (by omega)]

def Ends (m : List Tok) : Prop := ∃ t m', m = t :: m' ∧ Kd t ∧ (opOf t).1 = 0
theorem Ends.halt {m : List Tok} (h : Ends m) (c : Int) : Halt c m := by
 obtain ⟨t, m', h1, h2, h3⟩ := h
 exact ⟨t, m', h1, h2, .inl h3⟩

def WholeAs (x : Ex) (l : List Tok) : Prop := ∀ (r : Rd) (lr : List Tok) (n : Nat), At r (l ++ lr) → Ends lr → 3 * l.length < n → Rd.whole n r = some (x, r.mv l.length)

theorem whole_as {x : Ex} {l : List Tok} {c : Int} (h : TwoAs c x l) (hc : 1 ≤ c) (hk : ∀ t ∈ l, Kd t) (hl : 0 < l.length) (hd : x.depth ≤ 20) (hs : x.size < 1000000000) : WholeAs x l := by
 intro r lr n hA he hn
 obtain ⟨n', h1, h2⟩ := h r lr n 1 hA (he.halt _) hc (by omega)
 unfold Rd.whole
 obtain ⟨t, l', rfl⟩ : ∃ t l', l = t :: l' := by
   cases l with
   | nil => simp at hl
   | cons t l' => exact ⟨t, l', rfl⟩
 have hA' : At r (t :: (l' ++ lr)) := hA
 rw [hA'.peek (hk t (by simp)), Option.bind_some, h2, twoL_halt hA.app (he.halt 0) (by omega) (by omega), Option.bind_some]
 dsimp only
 rw [if_pos hA.app.good]
 unfold depthO
 rw [if_pos (by omega), Option.bind_some, if_neg (by simp only [decide_eq_true_eq]; omega)]

theorem Lx.kd {pos : Nat} {s : Str} {l : List Tok} (h : Lx pos s l) : ∀ t ∈ l, Kd t := by
 induction h with
 | nil => intro t h; cases h
 | blank _ _ _ _ _ _ ih => exact ih
 | rem _ _ _ _ _ _ _ ih => exact ih
 | tok pos c r t l _ _ ht _ ih =>
   intro u hu
   rcases List.mem_cons.1 hu with rfl | hu
   · have := tokE_ok ht; unfold TokOk at this; exact ⟨by omega, by omega⟩
   · exact ih u hu

theorem pr_whole {x : Ex} (h : FormI x) (hd : x.depth ≤ 20) (hs : x.size < 1000000000) (pos : Nat) : ∃ l, l.length = exN 0 x ∧ LxS (prE 0 x) pos l ∧ WholeAs x l ∧ NoCall l := by
 obtain ⟨e1, e2⟩ := pr_01 h
 obtain ⟨l, g1, g2, g3, _, g5⟩ := pr_as h 1 pos
 refine ⟨l, by rw [e2]; exact g1, by rw [e1]; exact g2, whole_as g3 (by omega) ?_ (by have := (exN_le h 1).1; omega) hd hs, g5⟩
 have : Lx pos (prE 1 x ++ []) (l ++ []) := g2 [] [] trivial (.nil _)
 simpa using this.kd

end Go.Abs

/-! Bld -/

namespace Go.Abs

set_option maxRecDepth 8000
open Go.Proofs

def tWriter : TypeId := 66
theorem writer_lies : liesAt Tryz.prog Tryz.prog.depth tWriter (2 / Tryz.prog.cellsOf tWriter) 0 64 1 = true := by kernel_rfl

def bobj (o t : Nat) (l : Str) : List D := [.selfp tWriter o, .slice (.tok t true) 1 (encBy l)]
def bst (l : Str) : St := ⟨[bobj 0 0 l], [some l.length]⟩

theorem encBy_app (a b : Str) : encBy (a ++ b) = encBy a ++ encBy b := by simp [encBy]
theorem encBy_len (a : Str) : (encBy a).length = a.length := by simp [encBy]
theorem okrBy (n m : Nat) (l : Str) : D.okr n m (encBy l) = true := by
 simp [encBy, okr_eq, oks_eq, D.ok]
theorem renrBy (os ts : List Nat) (l : Str) : D.renr os ts (encBy l) = encBy l := renr_ok00 _ _ _ (okrBy 0 0 l)
theorem fgrBy (n m : Nat) (l : Str) : D.fgr n m (encBy l) = encBy l := fgr_ok n m _ (okrBy 0 0 l)

theorem appB_by {l m : Str} {t : Nat} {y : Bool} {g : Tag} {s : St} (h1 : l.length + m.length ≤ 549755813888) (h2 : s.toks[t]? = some (some l.length)) :
   appB (.slice (.tok t y) 1 (encBy l)) (.slice g 1 (encBy m)) s = some (.slice (.tok t y) 1 (encBy (l ++ m)), ⟨s.objs, s.toks.set t (some (l ++ m).length)⟩) := by
 have h3 : ((encBy l).length + (encBy m).length) * 2 ≤ maxStr := by simp only [encBy_len, maxStr]; omega
 cases m with
 | nil =>
   have : s.toks.set t (some l.length) = s.toks := by
     apply List.ext_getElem?
     intro i
     rw [List.getElem?_set]
     split
     · rename_i hi; subst hi; rw [h2, if_pos (List.getElem?_eq_some_iff.1 h2).1]
     · rfl
   simp only [encBy_len] at h3
   simp [appB, encBy, this]
   simpa [encBy] using h3
 | cons c m =>
   have e : encBy (c :: m) = [.int .u8 c.toNat] :: encBy m := rfl
   rw [e] at h3
   simp only [appB, e]
   rw [if_pos ⟨.inr trivial, .inr trivial, h3⟩]
   have h4 : s.toks[t]? = some (some (encBy l).length) := by rw [encBy_len]; exact h2
   simp only [h4, and_self, ↓reduceIte, encBy_app, e, List.length_append, List.length_cons, encBy_len]

theorem appB_str {l m : Str} {t : Nat} {y : Bool} {g : Tag} {s : St} (h1 : l.length + m.length ≤ 549755813888) (h2 : s.toks[t]? = some (some l.length)) :
   appB (.slice (.tok t y) 1 (encBy l)) (.slice g 1 (m.map fun c => [.int .u8 c.toNat])) s = some (.slice (.tok t y) 1 (encBy (l ++ m)), ⟨s.objs, s.toks.set t (some (l ++ m).length)⟩) := appB_by h1 h2
theorem appB_one {l : Str} {c : UInt8} {t : Nat} {y : Bool} {g : Tag} {s : St} (h1 : l.length + 1 ≤ 549755813888) (h2 : s.toks[t]? = some (some l.length)) :
   appB (.slice (.tok t y) 1 (encBy l)) (.slice g 1 [[.int .u8 c.toNat]]) s = some (.slice (.tok t y) 1 (encBy (l ++ [c])), ⟨s.objs, s.toks.set t (some (l ++ [c]).length)⟩) := appB_by (m := [c]) h1 h2
@[go_sem] theorem fgs_bobj {n m o t : Nat} {l : Str} (ho : o < n) (ht : t < m) : D.fgs n m (bobj o t l) = bobj o t l := by
 simp [bobj, D.fgs, D.fg, Tag.fg, ho, ht, fgrBy]
attribute [go_sem] fgrBy
theorem Fun.bld {P : Program} {f : Nat} {args : List D} {l l' : Str} {d : D} (h : Fun P f (.ptr 0 0 :: args) (bst l) d (bst l')) (ha : D.oks 0 0 args = true) (hd : D.ok 0 0 d = true)
   {s : St} {o t : Nat} (ho : s.objs[o]? = some (bobj o t l)) (ht : s.toks[t]? = some (some l.length)) : Fun P f (.ptr o 0 :: args) s d ⟨s.objs.set o (bobj o t l'), s.toks.set t (some l'.length)⟩ := by
 refine ACalls.frame [o] [t] h (by simp) (by simp) (by simpa using (List.getElem?_eq_some_iff.1 ho).1) (by simpa using (List.getElem?_eq_some_iff.1 ht).1) rfl (fun i o' ds e1 e2 => ?_) rfl (fun i t' e1 => ?_)
   (by simp [D.rens, D.ren, rens_ok00 _ _ _ ha]) (by simp [D.oks, D.ok, oks_mono (Nat.zero_le 1) (Nat.zero_le 1) _ ha]) ?_
 · cases i with
   | zero =>
     simp [bst] at e1 e2; subst e1; subst e2
     exact ⟨by simp [bobj, D.rens, D.ren, Tag.ren, renrBy, ho], by simp [bobj, D.oks, D.ok, Tag.ok, okrBy]⟩
   | succ i => simp at e1
 · cases i with
   | zero => simp at e1; subst e1; simp [bst, ht]
   | succ i => simp at e1
 · rintro _ _ ⟨rfl, rfl⟩
   refine ⟨by simp [D.back, ren_ok00 _ _ _ hd], ?_⟩
   simp [St.back, plug, bst, allNums, D.rens, D.ren, Tag.ren, renrBy, bobj]

theorem WriteString_0 (l m : Str) (h : l.length + m.length ≤ 549755813888) : Fun Tryz.prog n_strings_Builder_WriteString [.ptr 0 0, .str m] (bst l) (.tuple [.int .i64 m.length, .val .nilIface]) (bst (l ++ m)) := by
 have hc := copyCheck_s (T := tWriter) (s := bst l) (o := 0) (r := [.slice (.tok 0 true) 1 (encBy l)]) rfl rfl writer_lies
 have ha := appB_str (l := l) (m := m) (t := 0) (y := true) (g := .shared) (s := bst l) h rfl
 simp only [bst, bobj] at hc ha
 unfold bst bobj
 refine Fun.go has_strings_Builder_WriteString rfl fun B Q hB hQ => ?_
 have ⟨hH, hJ, hY, hZ⟩ := H4_
 repeat' (first
 | simp only [go_sem, hH, hJ, hY, hZ, ha]
 | (with_reducible refine CU (hc) ?_)
 | (with_reducible first | refine kT_ fun hc => ?_ | refine kF_ fun hc => ?_ | refine kS_ (fun hc => ?_) fun hc => ?_) <;> (try simp only [hc, bs, ↓reduceIte] at h) <;> try simp only [hc]
 | (with_reducible refine lA_ hQ ?_; (try cases h); simp only [resL, oneD, sI_, eL_, go_sem, hH, hJ, hY, hZ, ha]; try exact lE_)
 | (cases h; done))

theorem WriteByte_0 (l : Str) (c : UInt8) (h : l.length + 1 ≤ 549755813888) : Fun Tryz.prog n_strings_Builder_WriteByte [.ptr 0 0, .int .u8 c.toNat] (bst l) (.val .nilIface) (bst (l ++ [c])) := by
 have hc := copyCheck_s (T := tWriter) (s := bst l) (o := 0) (r := [.slice (.tok 0 true) 1 (encBy l)]) rfl rfl writer_lies
 have ha := appB_one (l := l) (c := c) (t := 0) (y := true) (g := .full) (s := bst l) h rfl
 simp only [bst, bobj] at hc ha
 unfold bst bobj
 refine Fun.go has_strings_Builder_WriteByte rfl fun B Q hB hQ => ?_
 have ⟨hH, hJ, hY, hZ⟩ := H4_
 repeat' (first
 | simp only [go_sem, hH, hJ, hY, hZ, ha]
 | (with_reducible refine CU (hc) ?_)
 | (with_reducible first | refine kT_ fun hc => ?_ | refine kF_ fun hc => ?_ | refine kS_ (fun hc => ?_) fun hc => ?_) <;> (try simp only [hc, bs, ↓reduceIte] at h) <;> try simp only [hc]
 | (with_reducible refine lA_ hQ ?_; (try cases h); simp only [resL, oneD, sI_, eL_, go_sem, hH, hJ, hY, hZ, ha]; try exact lE_)
 | (cases h; done))

theorem WriteString_s {l : Str} {k : Nat} (m : Str) (hk : k = l.length) (h : k + m.length ≤ 549755813888) {s : St} {o t : Nat} (ho : s.objs[o]? = some (bobj o t l)) (ht : s.toks[t]? = some (some k)) :
   Fun Tryz.prog n_strings_Builder_WriteString [.ptr o 0, .str m] s (.tuple [.int .i64 m.length, .val .nilIface]) ⟨s.objs.set o (bobj o t (l ++ m)), s.toks.set t (some (k + m.length))⟩ := by
 subst hk
 have := (WriteString_0 l m h).bld rfl rfl ho ht
 rw [List.length_append] at this
 exact this
theorem WriteByte_s {l : Str} {k : Nat} (c : UInt8) (hk : k = l.length) (h : k + 1 ≤ 549755813888) {s : St} {o t : Nat} (ho : s.objs[o]? = some (bobj o t l)) (ht : s.toks[t]? = some (some k)) :
   Fun Tryz.prog n_strings_Builder_WriteByte [.ptr o 0, .int .u8 c.toNat] s (.val .nilIface) ⟨s.objs.set o (bobj o t (l ++ [c])), s.toks.set t (some (k + 1))⟩ := by
 subst hk
 have := (WriteByte_0 l c h).bld rfl rfl ho ht
 rw [List.length_append] at this
 exact this

def lineS (n : Nat) (m : Str) : Str := List.replicate n 32 ++ m ++ [10]
theorem lineS_len (n : Nat) (m : Str) : (lineS n m).length = n + m.length + 1 := by simp [lineS]; omega

theorem line_0 (m : Str) (n : Nat) (l : Str) (h : l.length + n + m.length + 1 ≤ 549755813888) : Fun Tryz.prog n_print_writer_line [.ptr 0 0, .int .i64 n, .str m] (bst l) (.tuple []) (bst (l ++ lineS n m)) := by
 have z0 : decide ((0 : Int) > 0) = false := rfl
 unfold bst
 refine Fun.go has_print_writer_line rfl fun B Q hB hQ => ?_
 have ⟨hH, hJ, hY, hZ⟩ := H4_
 repeat' (first
 | simp only [go_sem, hH, hJ, hY, hZ]
 | (with_reducible first | refine kT_ fun hc => ?_ | refine kF_ fun hc => ?_ | refine kS_ (fun hc => ?_) fun hc => ?_) <;> (try simp only [hc, bs, ↓reduceIte] at h) <;> try simp only [hc]
 | (with_reducible refine lA_ hQ ?_; exact lY_)
 | (cases h; done))
 refine rL_ 1 1 (SemL.ind (ι := Nat × Str × Nat) (fun i => i.2.1 ++ lineS i.1 m = l ++ lineS n m ∧ i.2.2 = i.2.1.length ∧ i.2.2 + i.1 + m.length + 1 ≤ 549755813888) (fun i => i.1)
   (fun i => [(0, .ptr 0 0), (1, .int .i64 (i.1 : Int)), (2, .str m)]) (fun i => ⟨[bobj 0 0 i.2.1], [some i.2.2]⟩) ?_ (n, l, l.length) ⟨rfl, rfl, h⟩)
 rintro ⟨k, acc, j⟩ ⟨h1, h2, h3⟩ IH
 dsimp only at h1 h2 h3
 cases k with
 | zero =>
   have e1 := fun (s : St) a b => WriteString_s (l := acc) m h2 (by omega) (s := s) (o := 0) (t := 0) a b
   have e2 := fun (s : St) a b => WriteByte_s (l := acc ++ m) (k := j + m.length) 10 (by simp; omega) (by omega) (s := s) (o := 0) (t := 0) a b
   simp only [show ((UInt8.toNat 10 : Nat) : Int) = 10 from rfl] at e2
   have e : acc ++ m ++ [10] = l ++ lineS n m := by rw [← h1]; simp [lineS]
   have e' : j + m.length + 1 = (l ++ lineS n m).length := by rw [← e]; simp; omega
   rw [← e', ← e] at hQ
   repeat' (first
 | simp only [go_sem, hH, hJ, hY, hZ, z0]
 | (with_reducible refine CU (e1 _ rfl rfl) ?_)
 | (with_reducible refine CU (e2 _ rfl rfl) ?_)
 | (with_reducible first | refine kT_ fun hc => ?_ | refine kF_ fun hc => ?_ | refine kS_ (fun hc => ?_) fun hc => ?_) <;> (try simp only [hc, bs, ↓reduceIte] at h) <;> try simp only [hc]
 | (with_reducible refine lA_ hQ ?_; (try cases h); simp only [resL, oneD, sI_, eL_, go_sem, hH, hJ, hY, hZ, z0]; try exact lE_)
 | (cases h; done))
 | succ k =>
   have hH : decide (((k + 1 : Nat) : Int) > 0) = true := by simp
   have e2 := fun (s : St) a b => WriteByte_s (l := acc) 32 h2 (by omega) (s := s) (o := 0) (t := 0) a b
   simp only [show ((UInt8.toNat 32 : Nat) : Int) = 32 from rfl] at e2
   have hw : IntKind.wrap .i64 (((k + 1 : Nat) : Int) - 1) = (k : Int) := by rw [wrap_ok] <;> omega
   repeat' (first
 | simp only [go_sem, hH, hJ, hY, hZ, hw]
 | (with_reducible refine CU (e2 _ rfl rfl) ?_)
 | (with_reducible first | refine kT_ fun hc => ?_ | refine kF_ fun hc => ?_ | refine kS_ (fun hc => ?_) fun hc => ?_) <;> (try simp only [hc, bs, ↓reduceIte] at h) <;> try simp only [hc]
 | (with_reducible refine lA_ hQ ?_; (try cases h); simp only [resL, oneD, sI_, eL_, go_sem, hH, hJ, hY, hZ, hw]; try exact lE_)
 | (cases h; done))
   refine rL_ 1 1 (IH (k, acc ++ [32], j + 1) ⟨by rw [← h1]; simp [lineS, List.replicate_succ], by simp [h2], by dsimp only; omega⟩ (Nat.lt_succ_self _))

end Go.Abs
