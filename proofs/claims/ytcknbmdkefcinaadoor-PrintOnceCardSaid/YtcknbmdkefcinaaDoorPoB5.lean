/-
  What is proved here: the statement PrintOnceCardSaid: whatever the text, the law, called, gives true, and of what was there nothing turns.
  No conditions.
-/
import Derived.Test.YtcknbmdkefcinaaDoorPoB4
import Derived.RowKit3
import Derived.WalkKit
import Derived.ProofKit
import Derived.OpenShut
import Derived.ShutString
import Derived.ChangeMaps5
import Derived.ChangeStays
import Derived.KernelRfl
import Derived.Test.YtcknbmdkefcinaaDoorRows
import Derived.Lib.LaidTab
import Derived.Lib.LaidIn
import Derived.LaidSub
import Derived.Test.YtcknbmdkefcinaaDoorCards
import Derived.Test.YtcknbmdkefcinaaDoorTie
import Derived.SevenTiedAt

set_option linter.unusedSimpArgs false
set_option linter.unusedVariables false

/-! Ps6 -/

namespace Go.Abs

def parN (a : Pm) : Nat := if a.ref then 2 else 1
theorem gname_len (a : Str) (l : List Tok) (h : GName a l) : l.length = 1 := by obtain ⟨k, rfl, _⟩ := h; rfl
theorem gparam_len (a : Pm) (l : List Tok) (h : GParam a l) : l.length = parN a := by
 unfold GParam at h
 unfold parN
 split at h
 · rename_i hr; rw [if_pos hr]; obtain ⟨w, k, rfl, _⟩ := h; rfl
 · rename_i hr; rw [if_neg hr]; exact gname_len _ _ h
theorem names_lx {l : List Str} (hm : mayNames l = true) (h0 : l ≠ []) (pos : Nat) : ∃ t, LxS (Lib.join l [44, 32]) pos t ∧ SepG GName l t := by
 have := LxS.join id GName l pos h0 fun a ha pos => ⟨[tNm a pos], LxS.nm (mayNames_mem hm ha) pos, ⟨_, rfl, rfl, rfl⟩⟩
 simpa using this
theorem params_lx {l : List Pm} (hm : Pm.mays l = true) (h0 : l ≠ []) (pos : Nat) : ∃ t, LxS (Lib.join (l.map paramS) [44, 32]) pos t ∧ SepG GParam l t := by
 refine LxS.join paramS GParam l pos h0 fun a ha pos => ?_
 have hn := pmays_mem hm ha
 unfold paramS GParam
 by_cases hr : a.ref = true
 · simp only [hr, ↓reduceIte]
   have : LxF [114, 101, 102, 32] pos [tWd [114, 101, 102] pos] := LxS.then (s := [114, 101, 102]) (c := 32) (t := []) (LxS.wd pos) (LxF.blank (by decide) (LxF.nil _))
   exact ⟨_, LxS.behind this (LxS.nm hn _), ⟨_, _, rfl, rfl, rfl, rfl, rfl⟩⟩
 · simp only [hr, Bool.false_eq_true, ↓reduceIte, List.nil_append]
   exact ⟨[tNm a.name pos], LxS.nm hn pos, ⟨_, rfl, rfl, rfl⟩⟩

theorem sep_first {α : Type} {G : α → List Tok → Prop} {K : List Tok → Prop} (hG : ∀ a l m, G a l → K (l ++ m)) {xs : List α} {l : List Tok} (h : SepG G xs l) : ∀ m, K (l ++ m) := by
 cases h with
 | one x l hx => exact fun m => hG x l m hx
 | cons x l c hc xs m hx k => intro m'; rw [List.append_assoc]; exact hG x l _ hx

/-! ### Variables -/

def NamesT (w : Str) (l : List Str) (T : List Tok) : Prop := (l = [] ∧ T = []) ∨ ∃ (t q : Tok) (m : List Tok), T = t :: (m ++ [q]) ∧ t.kind = 3 ∧ t.text = w ∧ SepG GName l m ∧ q.kind = 4 ∧ q.text = [59]
def namesN (l : List Str) : Nat := if l.length = 0 then 0 else sepN (fun _ => 1) l + 2
theorem NamesT.len {w : Str} {l : List Str} {T : List Tok} (h : NamesT w l T) (h0 : ∀ m, ¬ SepG GName [] m) : T.length = namesN l := by
 rcases h with ⟨rfl, rfl⟩ | ⟨t, q, m, rfl, _, _, hs, _⟩
 · rfl
 · have : l.length ≠ 0 := by
     intro hl
     have : l = [] := List.eq_nil_of_length_eq_zero hl
     subst this
     exact h0 m hs
   unfold namesN
   rw [if_neg this]
   simp only [List.length_cons, List.length_append, List.length_nil, sep_len gname_len hs]
theorem sep_ne {α : Type} {G : α → List Tok → Prop} (m : List Tok) : ¬ SepG G [] m := by intro h; cases h

theorem sep_xs {α : Type} {G : α → List Tok → Prop} (hG : ∀ a l, G a l → 0 < l.length) {xs : List α} {l : List Tok} (h : SepG G xs l) : xs.length ≤ l.length := by
 induction h with
 | one x l hx => have := hG x l hx; simp only [List.length_cons, List.length_nil]; omega
 | cons x l c hc xs m hx k ih => simp only [List.length_cons, List.length_append]; omega

theorem vars_as {l : List Str} {T : List Tok} (h : NamesT [118, 97, 114] l T) (h16 : l.length ≤ 16) : ∀ (r : Rd) (lr : List Tok) (m n : Nat), At r (T ++ lr) → NoW [118, 97, 114] lr → T.length < m → 1 < n → Rd.vars m n [] r = some (l, r.mv T.length) := by
 intro r lr m n hA hN hm hn
 obtain ⟨n, rfl⟩ : ∃ n', n = n' + 2 := ⟨n - 2, by omega⟩
 obtain ⟨t, lr', rfl, hk, hne⟩ := hN
 rcases h with ⟨rfl, rfl⟩ | ⟨w, q, M, rfl, w1, w2, hs, q1, q2⟩
 · have hA : At r (t :: lr') := hA
   rw [Rd.vars, hA.take_no hk hne, Option.bind_some]
   rfl
 · have hA : At r (w :: (M ++ q :: (t :: lr'))) := by simpa using hA
   simp only [List.length_cons, List.length_append, List.length_nil] at hm
   have hlen := sep_xs (fun a l h => by rw [gname_len a l h]; omega) hs
   rw [Rd.vars, hA.take_yes (.inl w1) w2, Option.bind_some]
   simp only [↓reduceIte]
   rw [names_as hs _ q (t :: lr') [] m 16 hA.one q1 q2 (by simp; omega) (by omega) (by omega), Option.bind_some]
   dsimp only
   have hA2 : At ((r.mv 1).mv (M.length + 1)) (t :: lr') := by
     have := hA.one.app.one
     simpa only [mv_mv, Nat.add_assoc] using this
   rw [Rd.vars, hA2.take_no hk hne, Option.bind_some]
   simp only [Bool.false_eq_true, ↓reduceIte, List.nil_append, mv_mv, List.length_cons, List.length_append, List.length_nil]
   congr 3
   omega
theorem globals_as {l : List Str} {T : List Tok} (h : NamesT [103, 108, 111, 98, 97, 108] l T) (h16 : l.length ≤ 16) : ∀ (r : Rd) (lr : List Tok) (m n : Nat), At r (T ++ lr) → NoW [103, 108, 111, 98, 97, 108] lr → T.length < m → 1 < n → Rd.globals m n [] r = some (l, r.mv T.length) := by
 intro r lr m n hA hN hm hn
 obtain ⟨n, rfl⟩ : ∃ n', n = n' + 2 := ⟨n - 2, by omega⟩
 obtain ⟨t, lr', rfl, hk, hne⟩ := hN
 rcases h with ⟨rfl, rfl⟩ | ⟨w, q, M, rfl, w1, w2, hs, q1, q2⟩
 · have hA : At r (t :: lr') := hA
   rw [Rd.globals, hA.take_no hk hne, Option.bind_some]
   rfl
 · have hA : At r (w :: (M ++ q :: (t :: lr'))) := by simpa using hA
   simp only [List.length_cons, List.length_append, List.length_nil] at hm
   have hlen := sep_xs (fun a l h => by rw [gname_len a l h]; omega) hs
   rw [Rd.globals, hA.take_yes (.inl w1) w2, Option.bind_some]
   simp only [↓reduceIte]
   rw [names_as hs _ q (t :: lr') [] m 16 hA.one q1 q2 (by simp; omega) (by omega) (by omega), Option.bind_some]
   dsimp only
   have hA2 : At ((r.mv 1).mv (M.length + 1)) (t :: lr') := by
     have := hA.one.app.one
     simpa only [mv_mv, Nat.add_assoc] using this
   rw [Rd.globals, hA2.take_no hk hne, Option.bind_some]
   simp only [Bool.false_eq_true, ↓reduceIte, List.nil_append, mv_mv, List.length_cons, List.length_append, List.length_nil]
   congr 3
   omega

/-! ### Procedures -/

def ProcAs (n0 n1 : Nat) (f : Pc) (l : List Tok) : Prop := ∀ (r : Rd) (lr : List Tok) (m : Nat), At r (l ++ lr) → r.n = n0 → 3 * l.length + 10 < m → Rd.proc m r = some (⟨f.name, f.params, f.vars, Sm.zs f.body, f.fin⟩, { r.mv l.length with n := n1 })
def procN (f : Pc) : Nat := 6 + sepN parN f.params + namesN f.vars + rowsN f.body + 2 * f.fin.length

theorem gparam_first {a : Pm} {l m : List Tok} (h : GParam a l) : NoW [41] (l ++ m) := by
 unfold GParam at h
 split at h
 · obtain ⟨w, k, rfl, w1, w2, _⟩ := h
   exact ⟨w, _, rfl, Kd.of w1, .inr (by rw [w2]; decide)⟩
 · obtain ⟨k, rfl, k1, _⟩ := h
   exact ⟨k, _, rfl, kd1 k1, .inl (by omega)⟩

theorem proc_read {n0 n1 : Nat} {f : Pc} {t p q b c : Tok} {P V L F : List Tok} (ht : t.kind = 1) (ht2 : t.text = f.name) (hp : p.kind = 4) (hp2 : p.text = [40]) (hP : (f.params = [] ∧ P = []) ∨ SepG GParam f.params P) (h8 : f.params.length ≤ 8) (hq : q.kind = 4) (hq2 : q.text = [41]) (hb : b.kind = 4) (hb2 : b.text = [123])
   (hV : NamesT [118, 97, 114] f.vars V) (h16 : f.vars.length ≤ 16) (hL : RowsAs 1 n0 n1 f.body L) (hLb : RowBeg L) (hF : LabT f.fin F) (hc : c.kind = 4) (hc2 : c.text = [125]) (hl : f.body.length ≤ 1000000) (hfl : f.fin.length ≤ 1000000) : ProcAs n0 n1 f (t :: p :: (P ++ q :: b :: (V ++ (L ++ (F ++ [c]))))) := by
 intro r lr m hA hn hm
 simp only [List.length_cons, List.length_append, List.length_nil] at hm
 have hA : At r (t :: p :: (P ++ q :: b :: (V ++ (L ++ (F ++ c :: lr))))) := by simpa using hA
 have hA2 := hA.one.one
 have body : ∀ r1 : Rd, At r1 (V ++ (L ++ (F ++ c :: lr))) → r1.n = n0 → Rd.procB m f.name f.params r1 = some (⟨f.name, f.params, f.vars, Sm.zs f.body, f.fin⟩, { r1.mv (V.length + L.length + F.length + 1) with n := n1 }) := by
   intro r1 hA1 hn1
   unfold Rd.procB
   have hno : NoW [118, 97, 114] (L ++ (F ++ c :: lr)) := hLb _ (.inr rfl) _ (hF.els _ (.inr rfl) _ ⟨c, lr, rfl, kd4 hc, .inr (by rw [hc2]; decide)⟩)
   rw [vars_as hV h16 r1 _ m m hA1 hno (by omega) (by omega), Option.bind_some]
   dsimp only
   obtain ⟨m', rfl⟩ : ∃ m', m = m' + 1 := ⟨m - 1, by omega⟩
   rw [Rd.rows, hL f.fin F c true _ lr (m' + 1) m' [] hF hc hc2 (.inl rfl) hA1.app (by simpa [Rd.mv] using hn1) (by omega) (by omega) (by simpa using hl) hfl, Option.bind_some]
   simp only [List.nil_append, Rd.mv]
   congr 3
   omega
 unfold Rd.proc
 rw [hA.name ht, Option.bind_some]
 dsimp only
 rw [hA.one.want (.inr hp) hp2, Option.bind_some, ht2]
 rcases hP with ⟨hp0, rfl⟩ | hP
 · have hA2 : At ((r.mv 1).mv 1) (q :: b :: (V ++ (L ++ (F ++ c :: lr)))) := hA2
   unfold Rd.other
   rw [if_pos hA2.good, hA2.is (kd4 hq), Option.bind_some, Option.bind_some]
   have b0 : ((q.kind == 3 || q.kind == 4) && q.text == [41]) = true := by simp [hq, hq2]
   rw [b0]
   simp only [Bool.not_true, Bool.false_eq_true, ↓reduceIte]
   rw [hA2.want (.inr hq) hq2, Option.bind_some, hA2.one.want (.inr hb) hb2, Option.bind_some]
   have := body _ hA2.one.one (by simpa [Rd.mv] using hn)
   rw [hp0] at this ⊢
   rw [this]
   simp only [Rd.mv, List.length_cons, List.length_append, List.length_nil]
   congr 3
   omega
 · obtain ⟨t', l', e, hk, hne⟩ := sep_first (K := NoW [41]) (fun a l m h => gparam_first h) hP (q :: b :: (V ++ (L ++ (F ++ c :: lr))))
   have hA2' : At ((r.mv 1).mv 1) (t' :: l') := by rw [← e]; exact hA2
   have hpl := sep_xs (fun a l h => by rw [gparam_len a l h]; unfold parN; split <;> omega) hP
   unfold Rd.other
   rw [if_pos hA2.good, hA2'.is hk, Option.bind_some, Option.bind_some]
   have b0 : ((t'.kind == 3 || t'.kind == 4) && t'.text == [41]) = false := by
     rcases hne with ⟨h1, h2⟩ | h
     · simp [h1, h2]
     · simp [h]
   rw [b0]
   simp only [Bool.not_false, ↓reduceIte]
   rw [params_as hP _ q _ [] m hA2 hq hq2 (by simpa using h8) (by omega), Option.bind_some]
   dsimp only
   rw [hA2.app.want (.inr hq) hq2, Option.bind_some, hA2.app.one.want (.inr hb) hb2, Option.bind_some, List.nil_append]
   rw [body _ hA2.app.one.one (by simpa [Rd.mv] using hn)]
   simp only [Rd.mv, List.length_cons, List.length_append, List.length_nil]
   congr 3
   omega

theorem names_line {w : Str} (hw : (isWord w && w.all isL && !w.isEmpty && decide (w.length ≤ 8)) = true) {l : List Str} (hm : mayNames l = true) (n pos : Nat) : ∃ T, LxF (if l.length = 0 then [] else lineS n (w ++ [32] ++ Lib.join l [44, 32] ++ [59])) pos T ∧ NamesT w l T := by
 by_cases h0 : l.length = 0
 · rw [if_pos h0]
   exact ⟨[], LxF.nil _, .inl ⟨List.eq_nil_of_length_eq_zero h0, rfl⟩⟩
 · rw [if_neg h0]
   have hne : l ≠ [] := fun h => h0 (by rw [h]; rfl)
   obtain ⟨T, g1, g2⟩ := names_lx hm hne (pos + n + w.length + 1)
   have e : lineS n (w ++ [32] ++ Lib.join l [44, 32] ++ [59]) = List.replicate n 32 ++ (w ++ 32 :: (Lib.join l [44, 32] ++ 59 :: [10])) := by simp [lineS]
   rw [e]
   refine ⟨_, LxF.blanks n (LxS.then (LxS.wd (pos + n) hw) (LxF.blank (by decide) (LxS.then g1 (LxF.end _)))), .inr ⟨tWd w (pos + n), tSg 59 (pos + n + w.length + 1 + (Lib.join l [44, 32]).length), T, by simp, rfl, rfl, g2, rfl, rfl⟩⟩

theorem proc_as {f : Pc} {n0 : Nat} (hn : isName f.name = true) (hv : mayNames f.vars = true) (hfn : mayNames f.fin = true) (hp : Pm.mays f.params = true) (h8 : f.params.length ≤ 8) (h16 : f.vars.length ≤ 16) (hm : (Sm.mayL 1 n0 f.body).1 = true) (hr : Sm.rngs f.body) (hs : f.size < 1000000) (pos : Nat) :
   ∃ T, LxF (procS f) pos T ∧ ∃ t l, T = t :: l ∧ t.kind = 3 ∧ t.text = [112, 114, 111, 99] ∧ l.length + 1 = procN f ∧ ProcAs n0 (Sm.mayL 1 n0 f.body).2 f l := by
 have hfz : f.params.length + f.vars.length + f.fin.length + Sm.sizes f.body + 1 ≤ f.size := by unfold Pc.size; omega
 have hbl := Sm.sizes_len f.body
 have key : ∀ P : Nat, ∃ l, LxS (Lib.join (f.params.map paramS) [44, 32]) P l ∧ ((f.params = [] ∧ l = []) ∨ SepG GParam f.params l) ∧ l.length = sepN parN f.params := by
   intro P
   by_cases h0 : f.params = []
   · rw [h0]
     refine ⟨[], ?_, .inl ⟨rfl, rfl⟩, rfl⟩
     simp only [List.map_nil]
     have : Lib.join [] [44, 32] = [] := by simp [Lib.join]
     rw [this]
     exact (LxF.nil _).s
   · obtain ⟨l, h1, h2⟩ := params_lx hp h0 P
     exact ⟨l, h1, .inr h2, sep_len gparam_len h2⟩
 obtain ⟨P, a1, a2, a3⟩ := key (pos + 4 + 1 + f.name.length + 1)
 obtain ⟨V, v1, v2⟩ := names_line (w := [118, 97, 114]) (by decide) hv 1 (pos + 4 + 1 + f.name.length + 1 + (Lib.join (f.params.map paramS) [44, 32]).length + 1 + 1 + 1 + 1)
 obtain ⟨L, k1, k2, k3, k4⟩ := rows_as f.body 1 1 n0 hm hr (.inr (by omega)) (by omega) (by omega) (pos + 4 + 1 + f.name.length + 1 + (Lib.join (f.params.map paramS) [44, 32]).length + 1 + 1 + 1 + 1 + (if f.vars.length = 0 then [] else lineS 1 ([118, 97, 114] ++ [32] ++ Lib.join f.vars [44, 32] ++ [59])).length)
 obtain ⟨F, f1, f2⟩ := lab_lx hfn (pos + 4 + 1 + f.name.length + 1 + (Lib.join (f.params.map paramS) [44, 32]).length + 1 + 1 + 1 + 1 + (if f.vars.length = 0 then [] else lineS 1 ([118, 97, 114] ++ [32] ++ Lib.join f.vars [44, 32] ++ [59])).length + (rowsS 1 f.body).length)
 have e : procS f = [112, 114, 111, 99] ++ 32 :: (f.name ++ 40 :: (Lib.join (f.params.map paramS) [44, 32] ++ 41 :: (32 :: (123 :: (10 :: ((if f.vars.length = 0 then [] else lineS 1 ([118, 97, 114] ++ [32] ++ Lib.join f.vars [44, 32] ++ [59])) ++ (rowsS 1 f.body ++ (marksS f.fin ++ (125 :: [10]))))))))) := by
   unfold procS
   split <;> simp [lineS]
 rw [e]
 refine ⟨_, LxS.then (LxS.wd pos) (LxF.blank (by decide) (LxS.then (LxS.nm hn _) (LxF.sg (LxS.then a1 (LxF.sg (LxF.blank (by decide) (LxF.sg (LxF.blank (by decide) (LxF.app v1 (LxF.app k1 (LxF.app f1 (LxF.sg (LxF.blank (by decide) (LxF.nil _)))))))))))))), _, _, List.singleton_append, rfl, rfl, ?_, ?_⟩
 · have := v2.len (fun m => sep_ne m)
   have := f2.len
   simp only [List.nil_append, List.length_cons, List.length_append, List.length_nil, procN]; omega
 · have := proc_read (f := f) (t := tNm f.name (pos + 4 + 1)) rfl rfl (p := tSg 40 (pos + 4 + 1 + f.name.length)) rfl rfl a2 h8 (q := tSg 41 (pos + 4 + 1 + f.name.length + 1 + (Lib.join (f.params.map paramS) [44, 32]).length)) rfl rfl
     (b := tSg 123 (pos + 4 + 1 + f.name.length + 1 + (Lib.join (f.params.map paramS) [44, 32]).length + 1 + 1)) rfl rfl v2 h16 k4 k3 f2
     (c := tSg 125 (pos + 4 + 1 + f.name.length + 1 + (Lib.join (f.params.map paramS) [44, 32]).length + 1 + 1 + 1 + 1 + (if f.vars.length = 0 then [] else lineS 1 ([118, 97, 114] ++ [32] ++ Lib.join f.vars [44, 32] ++ [59])).length + (rowsS 1 f.body).length + (marksS f.fin).length)) rfl rfl (by omega) (by omega)
   simpa using this

end Go.Abs

/-! Ps7 -/

namespace Go.Abs

def Pc.z (f : Pc) : Pc := ⟨f.name, f.params, f.vars, Sm.zs f.body, f.fin⟩
def Pg.z (p : Pg) : Pg := ⟨p.globals, p.procs.map Pc.z⟩

mutual
theorem z_num : ∀ (s : Sm) (nest : Int) (n : Nat), (Sm.mayR nest n s).1 = true → Sm.num true n s.z = (s, (Sm.mayR nest n s).2)
 | ⟨id, kind, labels, name, proc, x, has, args, thn, els⟩, nest, n, hm => by
   obtain ⟨_, hid, _, h2, h3, h4⟩ := mayR_true hm
   have t2 := (mayG_true h2).2
   have t3 := (mayG_true h3).2
   rw [t2] at h2 h3 h4 t3
   rw [t3] at h3 h4
   dsimp only at hid h2 h3 h4
   simp only [Sm.z, Sm.num, zs_nums thn _ _ h2, zs_nums els _ _ h3, ↓reduceIte]
   rw [h4, ← hid]
theorem zs_nums : ∀ (l : List Sm) (nest : Int) (n : Nat), (Sm.mayL nest n l).1 = true → Sm.nums true n (Sm.zs l) = (l, (Sm.mayL nest n l).2)
 | [], nest, n, _ => by simp only [Sm.zs, Sm.nums, Sm.mayL]
 | s :: l, nest, n, hm => by
   obtain ⟨m1, m2, m3⟩ := mayL_cons hm
   simp only [Sm.zs, Sm.nums, z_num s nest n m1, zs_nums l nest _ m2, m3]
end

def ProcsAs (n0 : Nat) (l : List Pc) (L : List Tok) : Prop := ∀ (r : Rd) (e : Tok) (m n : Nat) (out : List Pc), At r (L ++ [e]) → e.kind = 0 → r.n = n0 → out.length + l.length ≤ 16 → 3 * L.length + 10 < m → l.length < n →
 ∃ n1, Rd.procs m n out r = some (out ++ l.map Pc.z, { r.mv L.length with n := n1 })
def procsN : List Pc → Nat
 | [] => 0
 | f :: l => procN f + procsN l

theorem procs_as : ∀ (l : List Pc) (n0 : Nat), Pc.mayL n0 l = true → (∀ f ∈ l, Sm.rngs f.body) → (∀ f ∈ l, f.size < 1000000) → ∀ pos, ∃ L, LxF (procsS l) pos L ∧ L.length = procsN l ∧ ProcsAs n0 l L ∧ (Pc.nums n0 (l.map Pc.z) = l) ∧ (∀ e : Tok, e.kind = 0 → NoW [103, 108, 111, 98, 97, 108] (L ++ [e]))
 | [], n0, _, _, _, pos => by
   refine ⟨[], by simp only [procsS]; exact LxF.nil _, rfl, ?_, by simp [Pc.nums], fun e he => ⟨e, [], rfl, Kd.of he, .inl (by omega)⟩⟩
   intro r e m n out hA he hn ho hm hl
   refine ⟨r.n, ?_⟩
   cases n with
   | zero => simp at hl
   | succ n =>
     have hA : At r [e] := hA
     have k3 : (e.kind == 3) = false := by simp [he]
     have k4 : (e.kind == 4) = false := by simp [he]
     rw [Rd.procs]
     unfold Rd.isProc Rd.notEnd
     rw [if_pos hA.good, hA.is (Kd.of he), Option.bind_some, k3, k4]
     simp only [Bool.or_self, Bool.false_and, Bool.false_eq_true, ↓reduceIte]
     rw [if_pos hA.good, hA.peek (Kd.of he), Option.bind_some, Option.bind_some, he]
     simp [Rd.mv]
 | f :: l, n0, h, hr, hs, pos => by
   simp only [Pc.mayL] at h
   split at h
   · cases h
   rename_i c1
   split at h
   · cases h
   rename_i c2
   split at h
   · cases h
   rename_i c3
   simp only [Bool.or_eq_true, Bool.not_eq_true', not_or, Bool.not_eq_false, decide_eq_true_eq] at c1 c2 c3
   have hg := (mayG_true c3).2
   rw [hg] at c3 h
   obtain ⟨T, g1, t, L1, rfl, g2, g3, g4, g5⟩ := proc_as (f := f) (n0 := n0) c1.1.1.2 c1.1.2 c1.2 c2 (by omega) (by omega) c3 (hr f (List.mem_cons_self ..)) (hs f (List.mem_cons_self ..)) pos
   obtain ⟨L2, k1, k2, k3, k4, k5⟩ := procs_as l _ h (fun g m => hr g (List.mem_cons_of_mem _ m)) (fun g m => hs g (List.mem_cons_of_mem _ m)) (pos + (procS f).length)
   refine ⟨(t :: L1) ++ L2, ?_, ?_, ?_, ?_, fun e he => ⟨t, _, rfl, Kd.of g2, .inr (by rw [g3]; decide)⟩⟩
   · simp only [procsS]; exact LxF.app g1 k1
   · simp only [procsN, List.length_append, List.length_cons, k2]; omega
   · intro r e m n out hA he hn ho hm hl
     simp only [List.length_append, List.length_cons] at ho hm hl
     cases n with
     | zero => omega
     | succ n =>
       have hA : At r (t :: (L1 ++ (L2 ++ [e]))) := by simpa using hA
       rw [Rd.procs]
       unfold Rd.isProc
       rw [if_pos hA.good, hA.is (Kd.of g2), Option.bind_some]
       have b0 : ((t.kind == 3 || t.kind == 4) && t.text == [112, 114, 111, 99]) = true := by simp [g2, g3]
       rw [if_pos b0, if_neg (by simp only [beq_iff_eq]; omega)]
       have e1 := g5 (r.mv 1) (L2 ++ [e]) m hA.one (by simpa [Rd.mv] using hn) (by omega)
       have e1' : Rd.proc m { r with i := r.i + 1 } = _ := e1
       rw [e1', Option.bind_some]
       dsimp only
       rw [push_ok (by omega) (by omega), Option.bind_some]
       obtain ⟨n1, e2⟩ := k3 ({ (r.mv 1).mv L1.length with n := (Sm.mayL 1 n0 f.body).2 } : Rd) e m n (out ++ [⟨f.name, f.params, f.vars, Sm.zs f.body, f.fin⟩]) (hA.one.app.n _) he rfl (by simp only [List.length_append, List.length_cons, List.length_nil]; omega) (by omega) (by omega)
       refine ⟨n1, ?_⟩
       rw [e2]
       simp only [List.map_cons, List.append_assoc, List.cons_append, List.nil_append, Pc.z, Rd.mv, List.length_append, List.length_cons]
       congr 3
       omega
   · simp only [List.map_cons, Pc.nums]
     have e1 := zs_nums f.body 1 n0 c3
     have e2 : (Pc.z f).body = Sm.zs f.body := rfl
     rw [e2, e1, k4]
     rfl

def Pg.toks (p : Pg) : Nat := namesN p.globals + procsN p.procs

theorem text_as {p : Pg} (h : p.may = true) (hr : p.rng) (hs : p.size < 1000000) : ∃ L, Lx 0 (textS p) L ∧ L.length = p.toks ∧ p.z.number = p ∧
   ∀ (r : Rd) (e : Tok) (m : Nat), At r (L ++ [e]) → e.kind = 0 → r.n = 0 → 3 * L.length + 30 < m → ∃ n1, Rd.program m r = some (p.z, { r.mv L.length with n := n1 }) := by
 rw [← mayP_eq] at h
 unfold Pg.mayP at h
 split at h
 · cases h
 rename_i c
 simp only [Bool.or_eq_true, Bool.not_eq_true', not_or, Bool.not_eq_false, decide_eq_true_eq] at c
 have hsz : ∀ f ∈ p.procs, f.size < 1000000 := fun f m => by have := Pc.sizes_mem m; simp only [Pg.size] at hs; omega
 obtain ⟨T, t1, t2⟩ := names_line (w := [103, 108, 111, 98, 97, 108]) (by decide) c.2 0 0
 obtain ⟨L, k1, k2, k3, k4, k5⟩ := procs_as p.procs 0 h hr hsz (0 + (if p.globals.length = 0 then [] else lineS 0 ([103, 108, 111, 98, 97, 108] ++ [32] ++ Lib.join p.globals [44, 32] ++ [59])).length)
 have e : textS p = (if p.globals.length = 0 then [] else lineS 0 ([103, 108, 111, 98, 97, 108] ++ [32] ++ Lib.join p.globals [44, 32] ++ [59])) ++ procsS p.procs := rfl
 refine ⟨T ++ L, ?_, ?_, ?_, ?_⟩
 · rw [e]
   have := LxF.app t1 k1 [] [] (.nil _)
   simpa using this
 · rw [List.length_append, t2.len (fun m => sep_ne m), k2]; rfl
 · unfold Pg.number Pg.z
   dsimp only
   rw [k4]
 · intro r e m hA he hn hm
   simp only [List.length_append] at hm
   have hA : At r (T ++ (L ++ [e])) := by simpa using hA
   have hlp : p.procs.length ≤ 16 := by omega
   unfold Rd.program
   rw [globals_as t2 (by omega) r _ m m hA (k5 e he) (by omega) (by omega), Option.bind_some]
   dsimp only
   obtain ⟨n1, e2⟩ := k3 (r.mv T.length) e m m [] hA.app he (by simpa [Rd.mv] using hn) (by simpa using hlp) (by omega) (by omega)
   refine ⟨n1, ?_⟩
   rw [e2, Option.bind_some]
   simp only [List.nil_append, Pg.z, Rd.mv, List.length_append]
   congr 3
   omega

theorem text_parse {p : Pg} (hp : p.may = true) (hpr : p.rng) (hps : p.size < 1000000) (hl : (textS p).length ≤ 100000) (ht : p.toks ≤ 2000) : parseM fuelM (textS p) = some (p, 0, 0) := by
 obtain ⟨L, a1, a2, a3, a4⟩ := text_as hp hpr hps
 have hlex := lexAll_Lx a1 hl (by omega)
 have hA : At (rd0 (L ++ [tEnd (textS p).length])) (L ++ [tEnd (textS p).length]) := ⟨rfl, rfl, by simp [rd0]; omega⟩
 obtain ⟨n1, e1⟩ := a4 _ (tEnd (textS p).length) fuelM hA rfl rfl (by unfold fuelM; omega)
 unfold parseM
 rw [hlex]
 simp only [bne_self_eq_false, Bool.false_eq_true, ↓reduceIte]
 rw [e1, Option.bind_some]
 dsimp only
 rw [if_neg (by simp [Rd.mv, rd0])]
 have hz : p.z.size = p.size := by rw [← a3, Pg.number_size, a3]
 unfold Pg.numberO
 rw [if_pos (by omega), a3]
 rfl

end Go.Abs

/-! Cost2 -/

namespace Go.Abs

def TNs (l : List Tok) : Prop := ∀ t ∈ l, t.n ≤ 9223372036854775807

theorem CK.with {α : Type} {r : Rd} {o : Option (α × Rd)} {Q : α → Nat → Prop} {P : α → Prop} (h : CK r o Q) (k : GK r o P) : CK r o fun a j => P a ∧ Q a j :=
 fun p hp => ⟨(h p hp).1, fun g => ⟨((h p hp).2 g).1, ((k p hp).2 g).2, ((h p hp).2 g).2⟩⟩
theorem CK.mono {α : Type} {r : Rd} {o : Option (α × Rd)} {Q R : α → Nat → Prop} (h : CK r o Q) (k : ∀ a j, r.good = true → Q a j → R a j) : CK r o R := fun p hp => ⟨(h p hp).1, fun g => ⟨((h p hp).2 g).1, k _ _ ((h p hp).2 g).1 ((h p hp).2 g).2⟩⟩

theorem tn_peek {r : Rd} (hT : TNs r.l) {t : Tok} (h : r.peek = some t) : t.n ≤ 9223372036854775807 := hT t (List.mem_of_getElem? (peek_get h).2.1)
theorem rng_0 {n : Int} (h : n ≤ 9223372036854775807) (k : Int) (s : Str) : Ex.rng ⟨k, n, s, []⟩ := ⟨h, trivial⟩
theorem rng_1 {k : Int} {x : Ex} (h : x.rng) : Ex.rng ⟨k, 0, [], [x]⟩ := ⟨by omega, h, trivial⟩
theorem rng_2 {k : Int} {x y : Ex} (h : x.rng) (h2 : y.rng) : Ex.rng ⟨k, 0, [], [x, y]⟩ := ⟨by omega, h, h2, trivial⟩

theorem expr_rg : ∀ n : Nat, (∀ r : Rd, TNs r.l → GK r (Rd.one n r) fun x => x.rng) ∧ (∀ (r : Rd) (k : Int), TNs r.l → GK r (Rd.two n k r) fun x => x.rng) ∧
   (∀ (r : Rd) (k : Int) (x : Ex), TNs r.l → (r.good = true → x.rng) → GK r (Rd.twoL n k x r) fun x => x.rng) := by
 intro n
 induction n with
 | zero => exact ⟨fun r _ => by simp only [Rd.one]; exact GK.non, fun r k _ => by simp only [Rd.two]; exact GK.non, fun r k x _ _ => by simp only [Rd.twoL]; exact GK.non⟩
 | succ n ih =>
   obtain ⟨ih1, ih2, ih3⟩ := ih
   refine ⟨fun r hT => ?_, fun r k hT => ?_, fun r k x hT hx => ?_⟩
   · simp only [Rd.one]
     refine GK.ask fun t ht => GK.ite (fun hg => GK.ret fun g => by rw [g] at hg; cases hg) fun _ => GK.ite (fun hk => GK.on _ fun _ => rng_0 (tn_peek hT ht) _ _) fun _ =>
       GK.ite (fun hk => GK.on _ fun _ => rng_0 (by omega) _ _) fun _ => ?_
     refine (take_gk r _).bind fun b q e g => GK.ite (fun _ => ?_) fun _ => ?_
     · refine (ih2 q 1 (e ▸ hT)).bind fun x s e2 g2 => ?_
       exact (want_gk s _).bind fun u e3 g3 => GK.ret fun gu => (g2 (g3 gu)).2
     refine (take_gk q _).bind fun b q2 e2 g2 => GK.ite (fun _ => ?_) fun _ => ?_
     · exact (ih1 q2 (by rw [e2, e]; exact hT)).bind fun x s e3 g3 => GK.ret fun gs => rng_1 (g3 gs).2
     refine (take_gk q2 _).bind fun b q3 e3 g3 => GK.ite (fun _ => ?_) fun _ => bad_gk (by decide) _ _
     exact (ih1 q3 (by rw [e3, e2, e]; exact hT)).bind fun x s e4 g4 => GK.ret fun gs => rng_1 (g4 gs).2
   · simp only [Rd.two]
     exact (ih1 r hT).bind fun x s e g => ih3 s k x (e ▸ hT) fun gs => (g gs).2
   · simp only [Rd.twoL]
     refine GK.ite (fun _ => GK.ask fun t ht => GK.ite (fun _ => GK.ret hx) fun hop => ?_) fun _ => GK.ret hx
     refine GK.from (s := { r with i := r.i + 1 }) ?_ rfl rfl
     exact GK.bind (f := fun y => Rd.twoL n k ⟨(opOf t).1, 0, [], [x, y.1]⟩ y.2) (ih2 _ _ hT) fun y s e g => ih3 s k _ (by rw [e]; exact hT) fun gs => rng_2 (hx (g gs).1) (g gs).2

theorem sum_ones : ∀ l : List Tok, (l.map (wt 1 1)).sum = l.length
 | [] => rfl
 | t :: l => by
   have e : wt 1 1 t = 1 := by unfold wt; split <;> rfl
   simp only [List.map_cons, List.sum_cons, List.length_cons, e, sum_ones l]; omega
theorem pre_ones (l : List Tok) (i : Nat) : pre 1 1 l i = min i l.length := by
 unfold pre
 rw [sum_ones, List.length_take]
theorem exN_W (x : Ex) : ∀ k, exN k x = exW 1 1 k x := by
 have key : ∀ n : Nat, ∀ x : Ex, x.size ≤ n → ∀ k, exN k x = exW 1 1 k x := by
   intro n
   induction n with
   | zero => intro x h; cases x; simp only [Ex.size] at h; omega
   | succ n ih =>
     rintro ⟨op, m, name, kids⟩ h k
     simp only [Ex.size] at h
     match kids with
     | [] => simp [exN, exW]
     | [a] =>
       simp only [Ex.sizes] at h
       simp only [exN, exW]
       rw [ih a (by omega)]
     | a :: b :: l =>
       simp only [Ex.sizes] at h
       simp only [exN, exW]
       rw [ih a (by omega), ih b (by omega)]
 exact key _ x (Nat.le_refl _)

theorem whole_ck {n : Nat} {r : Rd} (hT : TNs r.l) : CK r (Rd.whole n r) fun x j => x.rng ∧ exN 0 x + r.i ≤ j := by
 unfold Rd.whole
 refine CK.ask fun t ht => (((expr_ck 1 1 (by omega) n).2.1 r 1 (by omega)).with ((expr_rg n).2.1 r 1 hT)).bind fun x s e g => CK.ite (fun hg => ?_) fun hg => CK.ret fun gs => absurd gs hg
 have hi := (List.getElem?_eq_some_iff.1 (peek_get ht).2.1).1
 refine CK.ask fun d hd => CK.ite (fun _ => ?_) fun hd2 => CK.ret fun gs => ?_
 · intro p hp
   cases hp
   exact ⟨rfl, fun h => by cases h⟩
 · obtain ⟨_, h1, h2, _⟩ := g gs
   rw [pre_ones, pre_ones] at h2
   have := exW_mono (wa := 1) (wp := 1) (show (0 : Int) ≤ 1 by omega) x
   rw [exN_W]
   exact ⟨h1, by dsimp only; omega⟩

theorem name_ck {r : Rd} (room : Bool) : CK r (r.name room) fun _ j => j = r.i + 1 := by
 unfold Rd.name
 exact CK.ask fun t ht => CK.ite (fun _ => bad_ck (by decide) _ _) fun _ => CK.ite (fun _ => bad_ck (by decide) _ _) fun _ => CK.on _ fun _ => rfl

/-! ### Names -/

theorem names_ck {most : Int} : ∀ (n : Nat) (l : List Str) (r : Rd), CK r (Rd.names n l most r) fun l' j => 2 * l'.length + r.i ≤ j + 2 * l.length := by
 intro n
 induction n with
 | zero => intro l r; simp only [Rd.names]; exact CK.non
 | succ n ih =>
   intro l r
   simp only [Rd.names]
   refine CK.ite (fun _ => (name_ck _).bind fun s q e g => CK.ask fun l2 hl2 => ?_) fun hg => CK.ret fun g => absurd g hg
   have e2 := (push_some hl2).2
   refine (take_ck q _).bind fun b q2 e3 g3 => CK.ite (fun hb => want_ck q2 _ fun u e4 g4 => CK.ret fun gu => ?_) fun hb => ?_
   · obtain ⟨g5, ⟨t, _, _, _, h5⟩⟩ := g4 gu
     obtain ⟨g6, _, h6⟩ := g3 g5
     have h7 := (g g6).2
     have h6 := h6 (by simpa using hb)
     rw [e2, List.length_append, List.length_singleton]
     omega
   · refine (ih l2 q2).mono fun l' j gq2 h => ?_
     obtain ⟨g6, h6, _⟩ := g3 gq2
     obtain ⟨t, _, _, _, h6⟩ := h6 (by simpa using hb)
     have h7 := (g g6).2
     rw [e2, List.length_append, List.length_singleton] at h
     omega

def namesV (k : Nat) : Nat := if k = 0 then 0 else 2 * k + 1
theorem namesV_b (k : Nat) : namesV k ≤ 2 * k + 1 ∧ 2 * k ≤ namesV k := by unfold namesV; split <;> omega
theorem namesN_V (l : List Str) : namesN l ≤ namesV l.length := by
 unfold namesN namesV
 have key : ∀ l : List Str, l ≠ [] → sepN (fun _ => 1) l + 1 = 2 * l.length := by
   intro l
   induction l with
   | nil => intro h; exact absurd rfl h
   | cons a l ih =>
     intro _
     cases l with
     | nil => simp [sepN]
     | cons b l =>
       have := ih (by simp)
       simp only [sepN, List.length_cons] at this ⊢
       omega
 split
 · simp
 · rename_i h
   have := key l (fun e => h (by rw [e]; rfl))
   omega

theorem vars_ck {m : Nat} : ∀ (n : Nat) (l : List Str) (r : Rd), CK r (Rd.vars m n l r) fun l' j => namesV l'.length + r.i ≤ j + namesV l.length := by
 intro n
 induction n with
 | zero => intro l r; simp only [Rd.vars]; exact CK.non
 | succ n ih =>
   intro l r
   simp only [Rd.vars]
   refine (take_ck r _).bind fun b q e g => CK.ite (fun hb => ?_) fun hb => CK.ret fun gq => ?_
   · refine (names_ck _ _ _).bind fun l2 q2 e2 g2 => (ih _ _).mono fun l' j gq2 h => ?_
     obtain ⟨g3, h3⟩ := g2 gq2
     obtain ⟨_, h4, _⟩ := g g3
     obtain ⟨t, _, _, _, h4⟩ := h4 hb
     dsimp only at h h3 ⊢
     have := namesV_b l2.length
     have := namesV_b l.length
     omega
   · have := (g gq).2.2 (by simpa using hb)
     omega
theorem globals_ck {m : Nat} : ∀ (n : Nat) (l : List Str) (r : Rd), CK r (Rd.globals m n l r) fun l' j => namesV l'.length + r.i ≤ j + namesV l.length := by
 intro n
 induction n with
 | zero => intro l r; simp only [Rd.globals]; exact CK.non
 | succ n ih =>
   intro l r
   simp only [Rd.globals]
   refine (take_ck r _).bind fun b q e g => CK.ite (fun hb => ?_) fun hb => CK.ret fun gq => ?_
   · refine (names_ck _ _ _).bind fun l2 q2 e2 g2 => (ih _ _).mono fun l' j gq2 h => ?_
     obtain ⟨g3, h3⟩ := g2 gq2
     obtain ⟨_, h4, _⟩ := g g3
     obtain ⟨t, _, _, _, h4⟩ := h4 hb
     dsimp only at h h3 ⊢
     have := namesV_b l2.length
     have := namesV_b l.length
     omega
   · have := (g gq).2.2 (by simpa using hb)
     omega

theorem labels_ck : ∀ (n : Nat) (l : List Str) (r : Rd), CK r (Rd.labels n l r) fun l' j => 2 * l'.length + r.i = j + 2 * l.length := by
 intro n
 induction n with
 | zero => intro l r; simp only [Rd.labels]; exact CK.non
 | succ n ih =>
   intro l r
   simp only [Rd.labels]
   refine CK.ask fun b hb => CK.ite (fun hbt => ?_) fun _ => CK.ret fun _ => Nat.add_comm _ _
   refine CK.ask fun t ht => CK.ask fun l2 hl2 => ?_
   refine CK.from (s := { r with i := r.i + 2 }) ?_ rfl rfl
   refine (ih _ _).mono fun l' j _ h => ?_
   rw [(push_some hl2).2, List.length_append, List.length_singleton] at h
   dsimp only at h
   omega

/-! ### Lists with commas -/

def eachN {α : Type} (f : α → Nat) : List α → Nat
 | [] => 0
 | a :: l => f a + 1 + eachN f l
theorem eachN_app {α : Type} (f : α → Nat) (x : α) : ∀ l : List α, eachN f (l ++ [x]) = eachN f l + f x + 1
 | [] => by simp [eachN]
 | a :: l => by simp only [List.cons_append, eachN, eachN_app f x l]; omega
theorem sepN_each {α : Type} (f : α → Nat) : ∀ {l : List α}, l ≠ [] → sepN f l + 1 = eachN f l
 | [], h => absurd rfl h
 | [a], _ => by simp [sepN, eachN]
 | a :: b :: l, _ => by
   have := sepN_each f (l := b :: l) (by simp)
   simp only [sepN, eachN] at this ⊢
   omega

theorem mem_app {α : Type} {P : α → Prop} {l : List α} {a : α} (h : ∀ b ∈ l, P b) (ha : P a) : ∀ b ∈ l ++ [a], P b := by
 intro b hb
 rcases List.mem_append.1 hb with h1 | h1
 · exact h b h1
 · simp at h1; subst h1; exact ha

theorem callL_ck {m : Nat} : ∀ (n : Nat) (l : List Ar) (r : Rd), TNs r.l → (r.good = true → ∀ a ∈ l, a.x.rng) → CK r (Rd.callL m n l r) fun l' j => (∀ a ∈ l', a.x.rng) ∧ sepN argN l' + r.i ≤ j + eachN argN l := by
 intro n
 induction n with
 | zero => intro l r _ _; simp only [Rd.callL]; exact CK.non
 | succ n ih =>
   intro l r hT hl
   simp only [Rd.callL]
   have more : ∀ (a : Ar) (k : Nat) (l2 : List Ar) (q3 : Rd) (c : Bool), TNs q3.l → l2 = l ++ [a] → (q3.good = true → r.good = true ∧ a.x.rng ∧ argN a + r.i ≤ k ∧ (c = true → q3.i = k + 1) ∧ (c = false → q3.i = k)) → CK q3 (if (!c) = true then some (l2, q3) else Rd.callL m n l2 q3) fun l' j => (∀ a ∈ l', a.x.rng) ∧ sepN argN l' + r.i ≤ j + eachN argN l := by
     intro a k l2 q3 c hT3 el hq
     subst el
     refine CK.ite (fun hc => CK.ret fun g3 => ?_) fun hc => (ih _ q3 hT3 fun g3 => mem_app (hl (hq g3).1) (hq g3).2.1).mono fun l' j g3 h => ⟨h.1, ?_⟩
     · obtain ⟨g0, ha, hk, _, h2⟩ := hq g3
       have h2 := h2 (by simpa using hc)
       have := sepN_each argN (l := l ++ [a]) (by simp)
       rw [eachN_app] at this
       exact ⟨mem_app (hl g0) ha, by omega⟩
     · obtain ⟨g0, ha, hk, h2, _⟩ := hq g3
       have h2 := h2 (by simpa using hc)
       have := h.2
       rw [eachN_app] at this
       omega
   refine CK.ite (fun _ => (take_ck r _).bind fun b q e g => CK.ite (fun hb => ?_) fun hb => ?_) fun hg => CK.ret fun g => absurd g hg
   · refine (name_ck _).bind fun s q2 e2 g2 => CK.ask fun l2 hl2 => (take_ck q2 _).bind fun c q3 e3 g3 => ?_
     refine more ⟨true, s, ex0⟩ q2.i l2 q3 c (by rw [e3, e2, e]; exact hT) (push_some hl2).2 fun gq => ?_
     obtain ⟨g4, h4, h5⟩ := g3 gq
     obtain ⟨g6, h6⟩ := g2 g4
     obtain ⟨g7, h7, _⟩ := g g6
     obtain ⟨_, _, _, _, h7⟩ := h7 hb
     refine ⟨g7, rng_0 (by omega) _ _, ?_, fun hc => ?_, h5⟩
     · simp only [argN, ↓reduceIte]; omega
     · obtain ⟨_, _, _, _, h⟩ := h4 hc; exact h
   · refine (whole_ck (by rw [e]; exact hT)).bind fun s q2 e2 g2 => CK.ask fun l2 hl2 => (take_ck q2 _).bind fun c q3 e3 g3 => ?_
     refine more ⟨false, [], s⟩ q2.i l2 q3 c (by rw [e3, e2, e]; exact hT) (push_some hl2).2 fun gq => ?_
     obtain ⟨g4, h4, h5⟩ := g3 gq
     obtain ⟨g6, h6, h8⟩ := g2 g4
     obtain ⟨g7, _, h7⟩ := g g6
     have h7 := h7 (by simpa using hb)
     refine ⟨g7, h6, ?_, fun hc => ?_, h5⟩
     · simp only [argN, Bool.false_eq_true, ↓reduceIte]; omega
     · obtain ⟨_, _, _, _, h⟩ := h4 hc; exact h

theorem params_ck : ∀ (n : Nat) (l : List Pm) (r : Rd), CK r (Rd.params n l r) fun l' j => sepN parN l' + r.i ≤ j + eachN parN l := by
 intro n
 induction n with
 | zero => intro l r; simp only [Rd.params]; exact CK.non
 | succ n ih =>
   intro l r
   simp only [Rd.params]
   refine CK.ite (fun _ => (take_ck r _).bind fun b q e g => (name_ck _).bind fun s q2 e2 g2 => CK.ask fun l2 hl2 => (take_ck q2 _).bind fun c q3 e3 g3 => ?_) fun hg => CK.ret fun g => absurd g hg
   have el := (push_some hl2).2
   subst el
   have hp : q3.good = true → parN ⟨s, b⟩ + r.i ≤ q2.i := fun gq => by
     obtain ⟨g4, _⟩ := g3 gq
     obtain ⟨g6, h6⟩ := g2 g4
     obtain ⟨g7, h7, h8⟩ := g g6
     unfold parN
     cases b with
     | true =>
       obtain ⟨_, _, _, _, h7⟩ := h7 rfl
       simp only [↓reduceIte]; omega
     | false =>
       have h8 := h8 rfl
       simp only [Bool.false_eq_true, ↓reduceIte]; omega
   refine CK.ite (fun hc => CK.ret fun gq => ?_) fun hc => (ih _ q3).mono fun l' j gq h => ?_
   · have h1 := hp gq
     have h2 := (g3 gq).2.2 (by simpa using hc)
     have := sepN_each parN (l := l ++ [⟨s, b⟩]) (by simp)
     rw [eachN_app] at this
     dsimp only at h1 h2 this ⊢
     omega
   · have h1 := hp gq
     obtain ⟨_, _, _, _, h2⟩ := (g3 gq).2.1 (by simpa using hc)
     rw [eachN_app] at h
     dsimp only at h1 h2 h ⊢
     omega

/-! ### Statements -/

theorem bodyN_eq (s : Sm) : bodyN s = if s.kind = 6 then exN 0 s.x + 5 + rowsN s.thn else if s.kind = 5 then exN 0 s.x + 5 + rowsN s.thn + (if s.els.length = 0 then 0 else rowsN s.els + 3) else plainN s.kind s.name s.x s.has s.args := by
 cases s; simp only [bodyN]
theorem rowsN_app (s : Sm) : ∀ l : List Sm, rowsN (l ++ [s]) = rowsN l + (2 * s.labels.length + bodyN s)
 | [] => by simp [rowsN]
 | t :: l => by simp only [List.cons_append, rowsN, rowsN_app s l]; omega
theorem rngs_app {s : Sm} (h : s.rng) : ∀ {l : List Sm}, Sm.rngs l → Sm.rngs (l ++ [s])
 | [], _ => ⟨h, trivial⟩
 | t :: l, hl => ⟨hl.1, rngs_app h hl.2⟩
theorem ex0_rng : ex0.rng := rng_0 (by omega) _ _

theorem sg_i {l : List Tok} {i j : Nat} {s : Str} (h : Sg l i s j) : j = i + 1 := by obtain ⟨_, _, _, _, h⟩ := h; exact h

theorem call_ck {m : Nat} {name proc : Str} {r : Rd} (hT : TNs r.l) : CK r (Rd.call m name proc r) fun s j => s.rng ∧ bodyN s + r.i ≤ j + 1 + (if name = [] then 0 else 2) := by
 unfold Rd.call
 refine want_ck r _ fun q e g => CK.ask fun b _ => CK.ite (fun _ => ?_) fun _ => ?_
 · refine (callL_ck _ _ q (e ▸ hT) fun _ => by simp).bind fun a s e2 g2 => want_ck s _ fun u e3 g3 => want_ck u _ fun v e4 g4 => CK.ret fun gv => ?_
   obtain ⟨g5, h5⟩ := g4 gv
   obtain ⟨g6, h6⟩ := g3 g5
   obtain ⟨g7, h7, h8⟩ := g2 g6
   obtain ⟨g9, h9⟩ := g g7
   have h5 := sg_i h5
   have h6 := sg_i h6
   have h9 := sg_i h9
   simp only [eachN] at h8
   refine ⟨(Sm.rng_eq _).2 ⟨ex0_rng, h7, trivial, trivial⟩, ?_⟩
   rw [bodyN_eq]
   simp only [plainN]
   simp
   omega
 · refine want_ck q _ fun u e3 g3 => want_ck u _ fun v e4 g4 => CK.ret fun gv => ?_
   obtain ⟨g5, h5⟩ := g4 gv
   obtain ⟨g6, h6⟩ := g3 g5
   obtain ⟨g9, h9⟩ := g g6
   have h5 := sg_i h5
   have h6 := sg_i h6
   have h9 := sg_i h9
   refine ⟨(Sm.rng_eq _).2 ⟨ex0_rng, by simp, trivial, trivial⟩, ?_⟩
   rw [bodyN_eq]
   simp only [plainN, sepN]
   simp
   omega

theorem named_ck {m : Nat} {r : Rd} (hT : TNs r.l) : CK r (Rd.named m r) fun s j => s.rng ∧ bodyN s + r.i ≤ j := by
 unfold Rd.named
 refine (name_ck _).bind fun a q e g => CK.ask fun b _ => CK.ite (fun _ => ?_) fun _ => ?_
 · refine (call_ck (by rw [e]; exact hT)).mono fun s j gq h => ⟨h.1, ?_⟩
   have := (g gq).2
   have := h.2
   simp only [↓reduceIte] at this
   omega
 refine want_ck q _ fun u e2 g2 => CK.ask fun b _ => CK.ite (fun _ => ?_) fun _ => ?_
 · refine (name_ck _).bind fun c s e3 g3 => (call_ck (by rw [e3, e2, e]; exact hT)).mono fun s j gs h => ⟨h.1, ?_⟩
   obtain ⟨g4, h4⟩ := g3 gs
   obtain ⟨g5, h5⟩ := g2 g4
   have h6 := (g g5).2
   have h5 := sg_i h5
   have := h.2
   split at this <;> omega
 · refine (whole_ck (by rw [e2, e]; exact hT)).bind fun c s e3 g3 => want_ck s _ fun v e4 g4 => CK.ret fun gv => ?_
   obtain ⟨g5, h5⟩ := g4 gv
   obtain ⟨g6, h6, h7⟩ := g3 g5
   obtain ⟨g8, h8⟩ := g2 g6
   have h9 := (g g8).2
   have h5 := sg_i h5
   have h8 := sg_i h8
   refine ⟨(Sm.rng_eq _).2 ⟨h6, by simp, trivial, trivial⟩, ?_⟩
   rw [bodyN_eq]
   simp [plainN]
   omega

theorem plain_ck {m : Nat} {word : Str} (hw : simpW word = true) {r : Rd} (hT : TNs r.l) : CK r (Rd.plain m word r) fun s j => s.rng ∧ bodyN s + r.i ≤ j + 2 := by
 unfold Rd.plain
 have bare : ∀ {k : Int} {nm : Str}, Sm.rng ⟨0, k, [], nm, [], ex0, false, [], [], []⟩ := fun {k nm} => (Sm.rng_eq _).2 ⟨ex0_rng, by simp, trivial, trivial⟩
 refine CK.ite (fun _ => CK.ret fun _ => ⟨bare, by rw [bodyN_eq]; simp [plainN]; omega⟩) fun h1 => CK.ite (fun _ => CK.ret fun _ => ⟨bare, by rw [bodyN_eq]; simp [plainN]; omega⟩) fun h2 => CK.ite (fun _ => ?_) fun h3 => ?_
 · refine CK.ask fun b _ => CK.ite (fun _ => ?_) fun _ => CK.ret fun _ => ⟨bare, by rw [bodyN_eq]; simp [plainN]; omega⟩
   refine (whole_ck hT).bind fun a s e g => CK.ret fun gs => ?_
   obtain ⟨_, h, h4⟩ := g gs
   exact ⟨(Sm.rng_eq _).2 ⟨h, by simp, trivial, trivial⟩, by rw [bodyN_eq]; simp [plainN]; omega⟩
 have nm : ∀ {k : Int} (hk : k = 2 ∨ k = 10), CK r ((r.name true).bind fun x => some (⟨0, k, [], x.1, [], ex0, false, [], [], []⟩, x.2)) fun s j => s.rng ∧ bodyN s + r.i ≤ j + 2 := by
   intro k hk
   refine (name_ck _).bind fun a s e g => CK.ret fun gs => ⟨bare, ?_⟩
   have := (g gs).2
   rw [bodyN_eq]
   rcases hk with rfl | rfl <;> (simp [plainN]; omega)
 refine CK.ite (fun _ => nm (.inr rfl)) fun h4 => CK.ite (fun _ => nm (.inl rfl)) fun h5 => CK.ite (fun _ => ?_) fun h6 => ?_
 · refine (whole_ck hT).bind fun a s e g => CK.ret fun gs => ?_
   obtain ⟨_, h, h4⟩ := g gs
   exact ⟨(Sm.rng_eq _).2 ⟨h, by simp, trivial, trivial⟩, by rw [bodyN_eq]; simp [plainN]; omega⟩
 · exfalso
   simp only [simpW, Bool.or_eq_true] at hw
   rcases hw with ((((hw | hw) | hw) | hw) | hw) | hw
   · exact h1 hw
   · exact h2 hw
   · exact h3 hw
   · exact h4 hw
   · exact h5 hw
   · exact h6 hw

theorem head_ck {m : Nat} {r : Rd} (hT : TNs r.l) : CK r (Rd.head m r) fun x j => x.rng ∧ exN 0 x + 2 + r.i ≤ j := by
 unfold Rd.head
 refine want_ck r _ fun q e g => (whole_ck (by rw [e]; exact hT)).bind fun x s e2 g2 => want_ck s _ fun u e3 g3 => CK.ret fun gu => ?_
 obtain ⟨g4, h4⟩ := g3 gu
 obtain ⟨g5, h5, h6⟩ := g2 g4
 obtain ⟨g7, h7⟩ := g g5
 have h4 := sg_i h4
 have h7 := sg_i h7
 exact ⟨h5, by dsimp only; omega⟩

end Go.Abs

/-! Cost3 -/

namespace Go.Abs

theorem stmts_ck {m : Nat} : ∀ n : Nat,
   (∀ (nest : Int) (body : Bool) (r : Rd), TNs r.l → CK r (Rd.rows m n nest body r) fun p j => Sm.rngs p.1 ∧ rowsN p.1 + 2 * p.2.length + 1 + r.i ≤ j) ∧
   (∀ (nest : Int) (body : Bool) (out : List Sm) (r : Rd), TNs r.l → (r.good = true → Sm.rngs out) → CK r (Rd.rowsL m n nest body out r) fun p j => Sm.rngs p.1 ∧ rowsN p.1 + 2 * p.2.length + 1 + r.i ≤ j + rowsN out) ∧
   (∀ (nest : Int) (r : Rd), TNs r.l → CK r (Rd.stmt m n nest r) fun s j => s.rng ∧ bodyN s + r.i ≤ j) ∧
   (∀ (nest : Int) (r : Rd), TNs r.l → CK r (Rd.block m n nest r) fun l j => Sm.rngs l ∧ rowsN l + 2 + r.i ≤ j) ∧
   (∀ (nest : Int) (r : Rd), TNs r.l → CK r (Rd.choice m n nest r) fun s j => s.rng ∧ bodyN s + r.i ≤ j + 1) := by
 intro n
 induction n with
 | zero =>
   refine ⟨fun _ _ r _ => ?_, fun _ _ _ r _ _ => ?_, fun _ r _ => ?_, fun _ r _ => ?_, fun _ r _ => ?_⟩
   · simp only [Rd.rows]; exact CK.non
   · simp only [Rd.rowsL]; exact CK.non
   · simp only [Rd.stmt]; exact CK.non
   · simp only [Rd.block]; exact CK.non
   · simp only [Rd.choice]; exact CK.non
 | succ n ih =>
   obtain ⟨i1, i2, i3, i4, i5⟩ := ih
   refine ⟨fun nest body r hT => ?_, fun nest body out r hT ho => ?_, fun nest r hT => ?_, fun nest r hT => ?_, fun nest r hT => ?_⟩
   · simp only [Rd.rows]
     exact (i2 nest body [] r hT fun _ => trivial).mono fun p j _ h => ⟨h.1, by have := h.2; simp only [rowsN] at this; omega⟩
   · simp only [Rd.rowsL]
     refine CK.ite (fun _ => ?_) fun hg => CK.ret fun g => absurd g hg
     refine (labels_ck m [] r).bind fun ls q e g => CK.ask fun b _ => CK.ite (fun _ => CK.on _ fun gq => ?_) fun _ => ?_
     · obtain ⟨g1, h1⟩ := g gq
       simp only [List.length_nil] at h1
       exact ⟨ho g1, by dsimp only; omega⟩
     refine (i3 nest q (by rw [e]; exact hT)).bind fun s u e2 g2 => CK.ask fun o2 h2 => (i2 _ _ _ u (by rw [e2, e]; exact hT) fun gu => ?_).mono fun p j gu h => ⟨h.1, ?_⟩
     · obtain ⟨g3, h3, _⟩ := g2 gu
       rw [(push_some h2).2]
       exact rngs_app (by cases s; exact h3) (ho (g g3).1)
     · obtain ⟨g3, _, h3⟩ := g2 gu
       have h1 := (g g3).2
       have h := h.2
       rw [(push_some h2).2, rowsN_app] at h
       have e3 : bodyN { s with labels := ls } = bodyN s := by rw [bodyN_eq, bodyN_eq]
       rw [e3] at h
       simp only [List.length_nil] at h1
       dsimp only at h
       omega
   · simp only [Rd.stmt]
     refine CK.ask fun b hb => CK.ite (fun _ => bad_ck (by decide) _ _) fun hbt => CK.ask fun k hk => ?_
     refine CK.from (s := { r with n := k }) ?_ rfl rfl
     refine CK.ite (fun _ => bad_ck (by decide) _ _) fun hl => ?_
     refine CK.ask fun t ht => CK.ite (fun _ => named_ck (r := { r with n := k }) hT) fun hk1 => ?_
     refine CK.from (s := { r with n := k, i := r.i + 1 }) ?_ rfl rfl
     refine CK.ite (fun _ => (i5 nest { r with n := k, i := r.i + 1 } hT).mono fun s j _ h => ⟨h.1, by have := h.2; dsimp only at this; omega⟩) fun hif => CK.ite (fun _ => ?_) fun hwh => ?_
     · refine CK.bind (head_ck (r := { r with n := k, i := r.i + 1 }) hT) fun x s e g => ?_
       refine CK.bind (i4 nest s (by rw [e]; exact hT)) fun bl u e2 g2 => CK.ret fun gu => ?_
       obtain ⟨g3, h3, h4⟩ := g2 gu
       obtain ⟨_, h5, h6⟩ := g g3
       refine ⟨(Sm.rng_eq _).2 ⟨h5, by simp, h3, trivial⟩, ?_⟩
       rw [bodyN_eq]
       dsimp only at h6 ⊢
       rw [if_pos rfl]
       omega
     · have hw : simpW t.text = true := by
         have ht' : r.peek = some t := ht
         unfold Rd.begins at hb
         rw [ht', Option.bind_some] at hb
         have e1 : (t.kind == 1) = false := by simpa using hk1
         have e2 : (t.text == [105, 102]) = false := by simpa using hif
         have e3 : (t.text == [119, 104, 105, 108, 101]) = false := by simpa using hwh
         have hbt' : b = true := by simpa using hbt
         rw [hbt'] at hb
         simp only [e1, e2, e3, Bool.false_eq_true, ↓reduceIte, Bool.false_or, Option.some.injEq] at hb
         split at hb
         · cases hb
         · simpa only [simpW] using hb
       refine CK.bind (plain_ck (r := { r with n := k, i := r.i + 1 }) hw hT) fun s q e g => ?_
       refine want_ck q _ fun u e2 g2 => CK.ret fun gu => ?_
       obtain ⟨g3, h3⟩ := g2 gu
       obtain ⟨_, h4, h5⟩ := g g3
       have h3 := sg_i h3
       dsimp only at h5
       exact ⟨h4, by dsimp only; omega⟩
   · simp only [Rd.block]
     refine want_ck r _ fun q e g => CK.ask fun k hk => ?_
     refine (i1 _ false q (by rw [e]; exact hT)).bind fun p u e2 g2 => CK.ret fun gu => ?_
     obtain ⟨g3, h3, h4⟩ := g2 gu
     have h5 := sg_i (g g3).2
     exact ⟨h3, by dsimp only; omega⟩
   · simp only [Rd.choice]
     refine (head_ck hT).bind fun x q e g => (i4 nest q (by rw [e]; exact hT)).bind fun th s e2 g2 => (take_ck s _).bind fun c u e3 g3 => CK.ite (fun hc => ?_) fun hc => CK.ret fun gu => ?_
     · refine (i4 nest u (by rw [e3, e2, e]; exact hT)).bind fun el v e4 g4 => CK.ret fun gv => ?_
       obtain ⟨g5, h5, h5'⟩ := g4 gv
       obtain ⟨g6, h6, _⟩ := g3 g5
       have h6 := sg_i (h6 hc)
       obtain ⟨g7, h7, h8⟩ := g2 g6
       obtain ⟨_, h9, h10⟩ := g g7
       refine ⟨(Sm.rng_eq _).2 ⟨h9, by simp, h7, h5⟩, ?_⟩
       rw [bodyN_eq]
       dsimp only
       rw [if_neg (by decide), if_pos rfl]
       split <;> omega
     · obtain ⟨g6, _, h6⟩ := g3 gu
       have h6 := h6 (by simpa using hc)
       obtain ⟨g7, h7, h8⟩ := g2 g6
       obtain ⟨_, h9, h10⟩ := g g7
       refine ⟨(Sm.rng_eq _).2 ⟨h9, by simp, h7, trivial⟩, ?_⟩
       rw [bodyN_eq]
       dsimp only
       rw [if_neg (by decide), if_pos rfl]
       simp only [List.length_nil, ↓reduceIte]
       omega

/-! ### Procedures, programs -/

theorem procB_ck {m : Nat} {name : Str} {ps : List Pm} {r : Rd} (hT : TNs r.l) : CK r (Rd.procB m name ps r) fun f j => Sm.rngs f.body ∧ procN f + r.i ≤ j + 5 + sepN parN ps := by
 unfold Rd.procB
 refine (vars_ck m [] r).bind fun v q e g => ((stmts_ck m).1 1 true q (by rw [e]; exact hT)).bind fun b s e2 g2 => CK.ret fun gs => ?_
 obtain ⟨g3, h3, h4⟩ := g2 gs
 obtain ⟨g5, h5⟩ := g g3
 have := namesN_V v
 have e0 : namesV ([] : List Str).length = 0 := rfl
 rw [e0] at h5
 refine ⟨h3, ?_⟩
 simp only [procN]
 omega

theorem proc_ck {m : Nat} {r : Rd} (hT : TNs r.l) : CK r (Rd.proc m r) fun f j => Sm.rngs f.body ∧ procN f + r.i ≤ j + 1 := by
 unfold Rd.proc
 refine (name_ck _).bind fun x q e g => want_ck q _ fun u e2 g2 => CK.ask fun b _ => CK.ite (fun _ => ?_) fun _ => ?_
 · refine (params_ck _ _ u).bind fun ps s e3 g3 => want_ck s _ fun v e4 g4 => want_ck v _ fun w e5 g5 => (procB_ck (by rw [e5, e4, e3, e2, e]; exact hT)).mono fun f j gw h => ⟨h.1, ?_⟩
   obtain ⟨g6, h6⟩ := g5 gw
   obtain ⟨g7, h7⟩ := g4 g6
   obtain ⟨g8, h8⟩ := g3 g7
   obtain ⟨g9, h9⟩ := g2 g8
   have h10 := (g g9).2
   have h6 := sg_i h6
   have h7 := sg_i h7
   have h9 := sg_i h9
   have := h.2
   dsimp only at h8 this
   simp only [eachN] at h8
   omega
 · refine want_ck u _ fun v e4 g4 => want_ck v _ fun w e5 g5 => (procB_ck (by rw [e5, e4, e2, e]; exact hT)).mono fun f j gw h => ⟨h.1, ?_⟩
   obtain ⟨g6, h6⟩ := g5 gw
   obtain ⟨g7, h7⟩ := g4 g6
   obtain ⟨g9, h9⟩ := g2 g7
   have h10 := (g g9).2
   have h6 := sg_i h6
   have h7 := sg_i h7
   have h9 := sg_i h9
   have := h.2
   simp only [sepN] at this
   omega

theorem procsN_app (f : Pc) : ∀ l : List Pc, procsN (l ++ [f]) = procsN l + procN f
 | [] => by simp [procsN]
 | g :: l => by simp only [List.cons_append, procsN, procsN_app f l]; omega

theorem procs_ck {m : Nat} : ∀ (n : Nat) (l : List Pc) (r : Rd), TNs r.l → (r.good = true → ∀ f ∈ l, Sm.rngs f.body) → CK r (Rd.procs m n l r) fun l' j => (∀ f ∈ l', Sm.rngs f.body) ∧ procsN l' + r.i ≤ j + procsN l ∧ j < r.l.length := by
 intro n
 induction n with
 | zero => intro l r _ _; simp only [Rd.procs]; exact CK.non
 | succ n ih =>
   intro l r hT h
   simp only [Rd.procs]
   refine CK.ask fun b hb => CK.ite (fun hbt => CK.ite (fun _ => bad_ck (by decide) _ _) fun _ => ?_) fun _ => CK.ask fun c hc => CK.ite (fun _ => bad_ck (by decide) _ _) fun hcf => CK.ret fun g => ?_
   · refine CK.from (s := { r with i := r.i + 1 }) ?_ rfl rfl
     refine CK.bind (f := fun x => (push 113 l x.1).bind fun l => Rd.procs m n l x.2) (proc_ck (r := { r with i := r.i + 1 }) hT) fun f q e g => CK.ask fun l2 h2 => ?_
     have e2 := (push_some h2).2
     subst e2
     have e : q.l = r.l := e
     have := ih (l ++ [f]) q (by rw [e]; exact hT) fun gq => mem_app (h (g gq).1) (g gq).2.1
     refine this.mono fun l' j gq k => ⟨k.1, ?_, by rw [← e]; exact k.2.2⟩
     have h3 := (g gq).2.2
     have k2 := k.2.1
     rw [procsN_app] at k2
     dsimp only at h3
     omega
   · refine ⟨h g, by omega, ?_⟩
     unfold Rd.notEnd at hc
     rw [if_pos g, Option.bind_eq_some_iff] at hc
     obtain ⟨t, ht, _⟩ := hc
     exact (List.getElem?_eq_some_iff.1 (peek_get ht).2.1).1

theorem program_ck {m : Nat} {r : Rd} (hT : TNs r.l) : CK r (Rd.program m r) fun p j => p.rng ∧ p.toks + r.i ≤ j ∧ j < r.l.length := by
 unfold Rd.program
 refine (globals_ck m [] r).bind fun v q e g => (procs_ck m [] q (by rw [e]; exact hT) fun _ => by simp).bind fun l s e2 g2 => CK.ret fun gs => ?_
 obtain ⟨g3, h3, h4, h5⟩ := g2 gs
 obtain ⟨g6, h6⟩ := g g3
 have := namesN_V v
 have e0 : namesV ([] : List Str).length = 0 := rfl
 rw [e0] at h6
 simp only [procsN] at h4
 refine ⟨h3, ?_, by rw [← e]; exact h5⟩
 simp only [Pg.toks]
 omega

mutual
theorem num_N (b : Bool) : ∀ (n : Nat) (s : Sm), bodyN (Sm.num b n s).1 = bodyN s ∧ (Sm.num b n s).1.labels = s.labels ∧ (s.rng → (Sm.num b n s).1.rng)
 | n, ⟨id, kind, labels, name, proc, x, has, args, thn, els⟩ => by
   obtain ⟨h1, h2, h3⟩ := nums_N b (n + 1) thn
   obtain ⟨k1, k2, k3⟩ := nums_N b (Sm.nums b (n + 1) thn).2 els
   refine ⟨?_, rfl, fun h => ?_⟩
   · simp only [Sm.num, bodyN, h1, k1, k2]
   · simp only [Sm.num, Sm.rng] at h ⊢
     exact ⟨h.1, h.2.1, h3 h.2.2.1, k3 h.2.2.2⟩
theorem nums_N (b : Bool) : ∀ (n : Nat) (l : List Sm), rowsN (Sm.nums b n l).1 = rowsN l ∧ (Sm.nums b n l).1.length = l.length ∧ (Sm.rngs l → Sm.rngs (Sm.nums b n l).1)
 | n, [] => ⟨rfl, rfl, fun _ => trivial⟩
 | n, s :: l => by
   obtain ⟨h1, h2, h3⟩ := num_N b n s
   obtain ⟨k1, k2, k3⟩ := nums_N b (Sm.num b n s).2 l
   refine ⟨?_, ?_, fun h => ?_⟩
   · simp only [Sm.nums, rowsN, h1, h2, k1]
   · simp only [Sm.nums, List.length_cons, k2]
   · simp only [Sm.nums]; exact ⟨h3 h.1, k3 h.2⟩
end
theorem pnums_N : ∀ (n : Nat) (l : List Pc), procsN (Pc.nums n l) = procsN l ∧ ((∀ f ∈ l, Sm.rngs f.body) → ∀ f ∈ Pc.nums n l, Sm.rngs f.body)
 | n, [] => ⟨rfl, fun h => h⟩
 | n, f :: l => by
   obtain ⟨h1, _, h3⟩ := nums_N true n f.body
   obtain ⟨k1, k2⟩ := pnums_N (Sm.nums true n f.body).2 l
   refine ⟨?_, fun h g hg => ?_⟩
   · simp only [Pc.nums, procsN, procN, h1, k1]
   · simp only [Pc.nums, List.mem_cons] at hg
     rcases hg with rfl | hg
     · exact h3 (h f (List.mem_cons_self ..))
     · exact k2 (fun g m => h g (List.mem_cons_of_mem _ m)) g hg
theorem number_N (p : Pg) : p.number.toks = p.toks ∧ (p.rng → p.number.rng) := by
 obtain ⟨h1, h2⟩ := pnums_N 0 p.procs
 exact ⟨by simp only [Pg.number, Pg.toks, h1], h2⟩

/-! ### Numbers -/

theorem worth_mx : ∀ (s : Str) (a n : Int), worth a s = some n → a ≤ 9223372036854775807 → n ≤ 9223372036854775807
 | [], a, n, h, ha => by simp only [worth] at h; cases h; exact ha
 | c :: r, a, n, h, ha => by
   simp only [worth] at h
   split at h
   · cases h
   · rename_i hc
     exact worth_mx r _ n h (by omega)

theorem tokE_n {pos : Nat} {s : Str} {t : Tok} (h : tokE pos s = .inl t) : t.n ≤ 9223372036854775807 := by
 cases s with
 | nil => simp only [tokE] at h; cases h
 | cons c r =>
   simp only [tokE] at h
   cases hL : isL c
   · simp only [hL, Bool.false_eq_true, ↓reduceIte] at h
     cases hD : isD c
     · simp only [hD, Bool.false_eq_true, ↓reduceIte] at h
       split at h
       · cases h
       · cases h; simp
     · simp only [hD, ↓reduceIte] at h
       split at h
       · cases h
       · split at h
         · rename_i n hw
           cases h
           exact worth_mx _ _ _ hw (by omega)
         · cases h
   · simp only [hL, ↓reduceIte] at h
     split at h
     · cases h
     · cases h
       simp
theorem Lx.tn {pos : Nat} {s : Str} {l : List Tok} (h : Lx pos s l) : TNs l := by
 induction h with
 | nil => intro t ht; simp at ht
 | blank pos c r l h k ih => exact ih
 | rem pos c r l h h2 k ih => exact ih
 | tok pos c r t l h h2 ht k ih =>
   intro u hu
   rcases List.mem_cons.1 hu with rfl | hu
   · exact tokE_n ht
   · exact ih u hu

theorem parse_small {m : Nat} {text : Str} {p : Pg} {fat : Int} (h : parseM m text = some (p, 0, fat)) (h0 : (lexAll text).2.1 = 0) : p.rng ∧ p.toks ≤ 2000 := by
 obtain ⟨l, hl, hlen, hl2, e⟩ := Lx_lexAll h0
 unfold parseM at h
 rw [e] at h
 have hn0 : ((0 : Int) != 0) = false := rfl
 simp only [hn0, Bool.false_eq_true, ↓reduceIte] at h
 rw [Option.bind_eq_some_iff] at h
 obtain ⟨P, hP, h⟩ := h
 split at h
 · rename_i hc
   have := (Prod.mk.inj (Prod.mk.inj (Option.some.inj h)).2).1
   rw [this] at hc
   simp at hc
 · rename_i hc
   rw [Option.bind_eq_some_iff] at h
   obtain ⟨q, h3, h⟩ := h
   unfold Pg.numberO at h3
   split at h3
   · cases h3
     cases h
     have hT : TNs (rd0 (l ++ [tEnd text.length])).l := mem_app (P := fun t : Tok => t.n ≤ 9223372036854775807) hl.tn (by simp [tEnd])
     obtain ⟨_, k⟩ := program_ck hT P hP
     obtain ⟨_, k1, k2, k3⟩ := k (by simpa [Rd.good] using hc)
     obtain ⟨n1, n2⟩ := number_N P.1
     have k3 : P.2.i < (l ++ [tEnd text.length]).length := k3
     rw [List.length_append, List.length_singleton] at k3
     exact ⟨n2 k1, by omega⟩
   · cases h3
theorem parse_lexed {m : Nat} {text : Str} {p : Pg} {fat : Int} (h : parseM m text = some (p, 0, fat)) : (lexAll text).2.1 = 0 := by
 unfold parseM at h
 split at h
 · rename_i hc
   have := (Prod.mk.inj (Option.some.inj h)).2
   rw [this] at hc
   simp at hc
 · rename_i hc
   simpa using hc

end Go.Abs

/-! PLen -/

namespace Go.Abs

theorem prE_short {x : Ex} (h : FormI x) : ∀ least, (prE least x).length ≤ 20 * exN least x := by
 induction h with
 | num n => intro least; rw [pr_num]; simp only [exN]; have := digF_len 20 n.toNat; omega
 | name t h => intro least; rw [pr_name]; simp only [exN]; have := isName_len h; omega
 | neg y _ ih => intro least; rw [pr_neg]; have := ih 7; simp only [exN, List.length_append, List.length_cons, List.length_nil]; omega
 | no y _ ih => intro least; rw [pr_no]; have := ih 7; simp only [exN, List.length_append, List.length_cons, List.length_nil]; omega
 | two op a b ho _ _ iha ihb =>
   intro least; rw [pr_two]
   have := signR_len' ho; have := iha (bindB op); have := ihb (bindB op + 1)
   simp only [exN]
   split <;> simp only [prT, List.length_append, List.length_cons, List.length_nil] <;> omega

theorem joinN_len {α : Type} (f : α → Str) (w : α → Nat) (sep : Str) (hs : sep.length ≤ 2) : ∀ {l : List α}, (∀ a ∈ l, (f a).length ≤ 20 * w a) → (Lib.join (l.map f) sep).length ≤ 20 * sepN w l
 | [], _ => by simp [Lib.join]
 | [a], h => by
   have := h a (by simp)
   simpa [Lib.join, List.intercalate, sepN] using this
 | a :: b :: l, h => by
   have h1 := h a (by simp)
   have h2 := joinN_len f w sep hs (l := b :: l) (fun c m => h c (List.mem_cons_of_mem _ m))
   have e : Lib.join ((a :: b :: l).map f) sep = f a ++ (sep ++ Lib.join ((b :: l).map f) sep) := by simp only [Lib.join, List.map_cons, List.intercalate_cons_cons, List.append_assoc]
   rw [e]
   simp only [sepN, List.length_append]
   omega

theorem plain_short {s : Sm} (h : s.PrO) (hone : s.one = true) (k5 : s.kind ≠ 5) (k6 : s.kind ≠ 6) : (plainS s.kind s.name s.proc s.x s.has s.args).length + 1 ≤ 20 * plainN s.kind s.name s.x s.has s.args := by
 have hf := one_facts hone
 obtain ⟨hx, _, hname, hproc, hargs, hkind, _⟩ := h
 have hE : s.hasX = true → (prE 0 s.x).length ≤ 20 * exN 0 s.x := fun h => prE_short (hx h) 0
 unfold plainS plainN
 split
 · rename_i k
   have := hE (by simp [Sm.hasX, k])
   simp only [List.length_append, List.length_cons, List.length_nil]; omega
 split
 · simp only [List.length_append, List.length_cons, List.length_nil]; omega
 split
 · rename_i k
   have := hE (by simp [Sm.hasX, k])
   simp only [List.length_append, List.length_cons, List.length_nil]; omega
 split
 · simp only [List.length_cons, List.length_nil]; omega
 split
 · simp only [List.length_cons, List.length_nil]; omega
 split
 · simp only [List.length_append, List.length_cons, List.length_nil]; omega
 split
 · rename_i k
   split
   · rename_i kh
     have := hE (by simp [Sm.hasX, k, kh])
     simp only [List.length_append, List.length_cons, List.length_nil]; omega
   · simp only [List.length_cons, List.length_nil]; omega
 · have hj := joinN_len argS argN [44, 32] (by decide) (l := s.args) (fun a ha => by
     obtain ⟨h1, h2⟩ := hargs a ha
     unfold argS argN
     split
     · simp only [List.length_append, List.length_cons, List.length_nil]; omega
     · rename_i hr
       exact prE_short (h2 (by simpa using hr)) 0)
   unfold callS
   split <;> simp only [List.length_append, List.length_cons, List.length_nil] <;> omega

mutual
theorem row_short : ∀ (s : Sm) (inn : Nat) (nest : Int) (n0 : Nat), s.PrR inn → (Sm.mayR nest n0 s).1 = true → (rowS inn s).length ≤ 35 * (2 * s.labels.length + bodyN s)
 | ⟨id, kind, labels, name, proc, x, has, args, thn, els⟩, inn, nest, n0, h, hm => by
   obtain ⟨ho, hi, ht, he⟩ := (PrR_eq _ _).1 h
   obtain ⟨_, _, hone, mt, me, _⟩ := mayR_true hm
   have tt := (mayG_true mt).2
   have te := (mayG_true me).2
   rw [tt] at mt te me
   rw [te] at me
   dsimp only at ht he mt me
   have h1 := rows_short thn (inn + 1) _ _ ht mt
   have h2 := rows_short els (inn + 1) _ _ he me
   have h3 := marksS_len ho.lab
   dsimp only at h3
   have hE : (kind = 5 ∨ kind = 6) → (prE 0 x).length ≤ 20 * exN 0 x := fun k => prE_short (ho.x (by rcases k with k | k <;> simp [Sm.hasX, k])) 0
   simp only [rowS, bodyN]
   split
   · rename_i k
     have h5 := hE (.inr k)
     simp only [List.length_append, List.length_cons, List.length_nil, lineS_len]; omega
   rename_i k6
   split
   · rename_i k
     have h5 := hE (.inl k)
     split <;> simp only [List.length_append, List.length_cons, List.length_nil, lineS_len] <;> omega
   · rename_i k5
     have h4 := plain_short ho hone k5 k6
     dsimp only at h4
     simp only [List.length_append, List.length_cons, List.length_nil, lineS_len]; omega
theorem rows_short : ∀ (l : List Sm) (inn : Nat) (nest : Int) (n0 : Nat), Sm.PrRs inn l → (Sm.mayL nest n0 l).1 = true → (rowsS inn l).length ≤ 35 * rowsN l
 | [], _, _, _, _, _ => by simp [rowsS]
 | s :: l, inn, nest, n0, h, hm => by
   obtain ⟨m1, m2, _⟩ := mayL_cons hm
   simp only [Sm.PrRs] at h
   have h1 := row_short s inn nest n0 h.1 m1
   have h2 := rows_short l inn nest _ h.2 m2
   simp only [rowsS, rowsN, List.length_append]; omega
end

theorem names_short {l : List Str} (h : ∀ t ∈ l, t.length ≤ 8) (n : Nat) (hn : n ≤ 1) (w : Str) (hw : w.length ≤ 6) : (if l.length = 0 then ([] : Str) else lineS n (w ++ [32] ++ Lib.join l [44, 32] ++ [59])).length ≤ 35 * namesN l := by
 unfold namesN
 by_cases h0 : l.length = 0
 · rw [if_pos h0, if_pos h0]; simp
 · rw [if_neg h0, if_neg h0]
   have hj := joinN_len id (fun _ => 1) [44, 32] (by decide) (l := l) (fun a ha => by have := h a ha; simp only [id]; omega)
   rw [List.map_id] at hj
   simp only [List.length_append, List.length_cons, List.length_nil, lineS_len]; omega

theorem proc_short {f : Pc} (h : f.PrP) {nest : Int} {n0 : Nat} (hm : (Sm.mayL nest n0 f.body).1 = true) : (procS f).length ≤ 35 * procN f := by
 have h1 := joinN_len paramS parN [44, 32] (by decide) (l := f.params) (fun a ha => by
   have := h.params a ha
   unfold paramS parN
   split <;> simp only [List.length_append, List.length_cons, List.length_nil] <;> omega)
 have h2 := names_short h.vars 1 (by omega) [118, 97, 114] (by decide)
 have h3 := marksS_len h.fin
 have h4 := rows_short f.body 1 nest n0 h.body hm
 have h5 := h.name
 have e : procS f = lineS 0 ([112, 114, 111, 99, 32] ++ f.name ++ [40] ++ Lib.join (f.params.map paramS) [44, 32] ++ [41, 32, 123]) ++ (if f.vars.length = 0 then ([] : Str) else lineS 1 ([118, 97, 114] ++ [32] ++ Lib.join f.vars [44, 32] ++ [59])) ++ rowsS 1 f.body ++ lineS 0 (marksS f.fin ++ [125]) := rfl
 rw [e]
 unfold procN
 simp only [List.length_append, List.length_cons, List.length_nil, lineS_len] at h2 ⊢
 omega

theorem text_short {p : Pg} (h : p.may = true) (hr : p.rng) : (textS p).length ≤ 35 * p.toks := by
 have hG := may_PrG h hr
 rw [← mayP_eq] at h
 unfold Pg.mayP at h
 split at h
 · cases h
 have h1 := names_short hG.globals 0 (by omega) [103, 108, 111, 98, 97, 108] (by decide)
 have h2 : ∀ (l : List Pc) (n0 : Nat), Pc.mayL n0 l = true → (∀ f ∈ l, f.PrP) → (procsS l).length ≤ 35 * procsN l := by
   intro l
   induction l with
   | nil => intro _ _ _; simp [procsS]
   | cons f l ih =>
     intro n0 h hP
     simp only [Pc.mayL] at h
     split at h
     · cases h
     split at h
     · cases h
     split at h
     · cases h
     rename_i c3
     have c3 : (Sm.mayG 1 n0 f.body).1 = true := by simpa using c3
     have c4 := c3
     rw [(mayG_true c3).2] at c4
     have a1 := proc_short (hP f (List.mem_cons_self ..)) c4
     have a2 := ih _ h fun g m => hP g (List.mem_cons_of_mem _ m)
     simp only [procsS, procsN, List.length_append]; omega
 have h3 := h2 p.procs 0 h hG.procs
 have e : textS p = (if p.globals.length = 0 then ([] : Str) else lineS 0 ([103, 108, 111, 98, 97, 108] ++ [32] ++ Lib.join p.globals [44, 32] ++ [59])) ++ procsS p.procs := rfl
 rw [e, List.length_append]
 unfold Pg.toks
 omega

end Go.Abs

/-! Fits1 -/

namespace Go.Abs

set_option maxRecDepth 8000
open Go.Proofs

def weighTs : List Str → Int → Int
 | [], n => n
 | t :: l, n => if n ≤ 20000 then weighTs l (weighT t n) else n
def weighAs : List Ar → Int → Int
 | [], n => n
 | a :: l, n => if n ≤ 20000 then weighAs l (weighT a.name (weighE a.x n)) else n
def weighMs : List Pm → Int → Int
 | [], n => n
 | a :: l, n => if n ≤ 20000 then weighMs l (weighT a.name n) else n
mutual
def weighS : Sm → Int → Int
 | ⟨_, _, labels, name, proc, x, _, args, thn, els⟩, n => weighSs els (weighSs thn (weighAs args (weighT proc (weighT name (weighTs labels (weighE x n))))))
def weighSs : List Sm → Int → Int
 | [], n => n
 | s :: l, n => if n ≤ 20000 then weighSs l (weighS s n) else n
end
def weighF (f : Pc) (n : Int) : Int := weighSs f.body (weighMs f.params (weighTs f.fin (weighTs f.vars (weighT f.name n))))
def weighFs : List Pc → Int → Int
 | [], n => n
 | f :: l, n => if n ≤ 20000 then weighFs l (weighF f n) else n
def Pg.weigh (p : Pg) : Int := weighFs p.procs (weighTs p.globals 0)


/-! ### The walk -/

end Go.Abs

/-! Fits2 -/

namespace Go.Abs

set_option maxRecDepth 8000
open Go.Proofs

end Go.Abs

/-! Some -/

namespace Go.Abs

set_option maxRecDepth 8000
open Go.Proofs

theorem some_may : some0.may = true := by decide +kernel
theorem some_text : textS some0 = source := by decide +kernel
theorem some_rng : some0.rng := by
 intro f hf
 simp only [some0, List.mem_cons, List.not_mem_nil, or_false] at hf
 rcases hf with rfl | rfl <;> simp [Sm.rngs, Sm.rng, Ex.rng, Ex.rngs, exNum, exName, exTwo, ex0]

def prB : Pc := ⟨[112], [⟨[120], false⟩, ⟨[121], true⟩], [], [
   ⟨5, 1, [], [121], [], exTwo 8 (exName [121]) (exName [120]), false, [], [], []⟩,
   ⟨6, 5, [], [], [], exTwo 12 (exName [121]) (exNum 9), false, [], [⟨7, 10, [], [101], [], ex0, false, [], [], []⟩], []⟩,
   ⟨8, 9, [], [], [], exName [121], true, [], [], []⟩], [[101]]⟩
def stB : Sm := ⟨6, 5, [], [], [], exTwo 12 (exName [121]) (exNum 9), false, [], [⟨7, 10, [], [101], [], ex0, false, [], [], []⟩], []⟩
theorem some_prB : some0.procs[1]? = some prB := rfl
theorem some_stB : prB.body[1]? = some stB := rfl

theorem printed5_s (s : St) : Fun Tryd.prog n_law5_printed [] s (.bool true) s := by
 refine Fun.pure ?_ rfl rfl s
 have hsz : some0.size ≤ 1000000 := by decide +kernel
 have h1 := pText_s (may_FineP some_may (by omega)) (fun _ => may_PrG some_may some_rng) hsz
 rw [if_pos some_may, some_text] at h1
 have h2 := pExpr_s (x := stB.x) (by simp [stB, Ex.rng, Ex.rngs, exNum, exName, exTwo]) (by decide) (by simp [stB, Ex.texts, Ex.textss, exNum, exName, exTwo]) (by decide)
 have e : printE stB.x = [121, 32, 62, 32, 57] := by decide +kernel
 rw [e] at h2
 have b1 : (source == source) = true := beq_self_eq_true _
 have b2 : (([121, 32, 62, 32, 57] : Str) == [121, 32, 62, 32, 57]) = true := rfl
 have e1 := some_prB
 have e2 := some_stB
 have hS := fun s => Some_s s
 generalize some0 = P at *
 generalize prB = F at *
 generalize stB = T at *
 unfold S0
 refine Fun.go has_law5_printed rfl fun B Q hB hQ => ?_
 have ⟨hC, hH, hJ, hM⟩ := H4_
 repeat' (first
 | simp only [go_sem, hC, hH, hJ, hM, Int.toNat_one, e1, e2, b1, b2]
 | (with_reducible refine CU (hS _) ?_)
 | (with_reducible refine CU (h1 _) ?_)
 | (with_reducible refine CU (h2 _) ?_)
 | (with_reducible refine CU (Source_s _) ?_)
 | (with_reducible first | refine kT_ fun hc => ?_ | refine kF_ fun hc => ?_ | refine kS_ (fun hc => ?_) fun hc => ?_) <;> (try simp only [hc, bs, ↓reduceIte] at h) <;> try simp only [hc]
 | (with_reducible refine lA_ hQ ?_; (try cases h); simp only [resL, oneD, sI_, eL_, go_sem, hC, hH, hJ, hM, Int.toNat_one, e1, e2, b1, b2]; try exact lE_)
 | (cases h; done))

end Go.Abs

/-! LawPr1 -/

namespace Go.Abs

set_option maxRecDepth 8000
open Go.Proofs

end Go.Abs

/-! BeqEq -/

namespace Go.Abs

end Go.Abs

/-! LawPr3 -/

namespace Go.Abs

set_option maxRecDepth 8000
open Go.Proofs

end Go.Abs

/-! RefLex2 -/

namespace Go.Abs
open Go.Proofs

def valD : Int → Str → Int
 | n, [] => n
 | n, c :: r => valD (n * 10 + ((c.toNat : Int) - 48)) r

def tok0 : Tok := ⟨0, [], 0, 0⟩
def tokR (x : Tok ⊕ Int) : Tok × Int :=
 match x with
 | .inl t => (t, 0)
 | .inr e => (tok0, e)

end Go.Abs

/-! RefLex3 -/

namespace Go.Abs
open Go.Proofs

end Go.Abs

/-! Ref4 -/

namespace Go.Abs

set_option maxRecDepth 8000
open Go.Proofs

def cutM (s : Str) : Str := s.take (min s.length 100100)

theorem Cut_s (text : Str) (s : St) : Fun Tryd.prog n_ref3_Cut [.str text] s (.str (cutM text)) s := by
 refine Fun.pure ?_ rfl rfl s
 have e : (if (100100 : Int) < (text.length : Int) then (100100 : Int) else (text.length : Int)) = ((min text.length 100100 : Nat) : Int) := by split <;> omega
 have e1 : (0 : Int) ≤ ((min text.length 100100 : Nat) : Int) ∧ ((min text.length 100100 : Nat) : Int) ≤ (text.length : Int) := by omega
 unfold S0
 refine Fun.go has_ref3_Cut rfl fun B Q hB hQ => ?_
 have ⟨hC, hH, hJ, hM⟩ := H4_
 repeat' (first
 | simp only [go_sem, hC, hH, hJ, hM, e, e1, cutM, Bool.false_eq_true]
 | (with_reducible first | refine kT_ fun hc => ?_ | refine kF_ fun hc => ?_ | refine kS_ (fun hc => ?_) fun hc => ?_) <;> (try simp only [hc, bs, ↓reduceIte] at h) <;> try simp only [hc]
 | (with_reducible refine lA_ hQ ?_; (try cases h); simp only [resL, oneD, sI_, eL_, go_sem, hC, hH, hJ, hM, e, e1, cutM, Bool.false_eq_true]; try exact lE_)
 | (cases h; done))

theorem cutM_len (text : Str) : (cutM text).length < 4611686018427387904 := by
 simp only [cutM, List.length_take]; omega

end Go.Abs

/-! LawPr6 -/

namespace Go.Abs

set_option maxRecDepth 8000
open Go.Proofs

theorem printOnce_s (text : Str) (s : St) : Fun Tryd.prog n_law5_PrintOnce [.str text] s (.bool true) s := by
 refine Fun.pure ?_ rfl rfl s
 obtain ⟨⟨p, c, f⟩, h, hsz⟩ := parseM_t (cutM text)
 have h1 := fun s => Parse_s h (cutM_len text) s
 have h0 := fun s => printed5_s s
 dsimp only at hsz
 unfold S0
 cases z : c == 0 with
 | false =>
   clear h
   have z1 : (c != 0) = true := by simpa using z
   refine Fun.go has_law5_PrintOnce rfl fun B Q hB hQ => ?_
   have ⟨hC, hH, hJ, hM⟩ := H4_
   repeat' (first
 | simp only [go_sem, hC, hH, hJ, hM, z, z1, encF]
 | (with_reducible refine CU (h0 _) ?_)
 | (with_reducible refine CU (Cut_s _ _) ?_)
 | (with_reducible refine CU (h1 _) ?_)
 | (with_reducible first | refine kT_ fun hc => ?_ | refine kF_ fun hc => ?_ | refine kS_ (fun hc => ?_) fun hc => ?_) <;> (try simp only [hc, bs, ↓reduceIte] at h) <;> try simp only [hc]
 | (with_reducible refine lA_ hQ ?_; (try cases h); simp only [resL, oneD, sI_, eL_, go_sem, hC, hH, hJ, hM, z, z1, encF]; try exact lE_)
 | (cases h; replace h := hr; clear hr; (try simp only [bs, ↓reduceIte] at h))
 | (cases h; done))
 | true =>
   have hc : c = 0 := by simpa using z
   subst hc
   have hx := parse_lexed h
   obtain ⟨hr, ht⟩ := parse_small h hx
   have hm := (parse_tells h hx).2 rfl
   have hl := text_short hm hr
   have h2 := text_parse hm hr (by omega) (by omega) ht
   have h3 := fun s => pText_s (may_FineP hm (by omega)) (fun h => may_PrG hm hr) (by omega) s
   rw [if_pos hm] at h3
   have h4 := fun s => Parse_s h2 (by omega) s
   have he := fun s => Eq_s (a := p) (b := p) (by omega) s
   rw [Pg.beq_refl] at he
   have e1 : (textS p == textS p) = true := by simp
   clear h h2
   have z1 : ((0 : Int) != 0) = false := rfl
   have z2 : ((0 : Int) == 0) = true := rfl
   generalize textS p = T at *
   refine Fun.go has_law5_PrintOnce rfl fun B Q hB hQ => ?_
   have ⟨hC, hH, hJ, hM⟩ := H4_
   repeat' (first
 | simp only [go_sem, hC, hH, hJ, hM, z1, z2, encF, e1]
 | (with_reducible refine CU (h0 _) ?_)
 | (with_reducible refine CU (Cut_s _ _) ?_)
 | (with_reducible refine CU (h1 _) ?_)
 | (with_reducible refine CU (h3 _) ?_)
 | (with_reducible refine CU (h4 _) ?_)
 | (with_reducible refine CU (he _) ?_)
 | (with_reducible first | refine kT_ fun hc => ?_ | refine kF_ fun hc => ?_ | refine kS_ (fun hc => ?_) fun hc => ?_) <;> (try simp only [hc, bs, ↓reduceIte] at h) <;> try simp only [hc]
 | (with_reducible refine lA_ hQ ?_; (try cases h); simp only [resL, oneD, sI_, eL_, go_sem, hC, hH, hJ, hM, z1, z2, encF, e1]; try exact lE_)
 | (cases h; replace h := hr; clear hr; (try simp only [bs, ↓reduceIte] at h))
 | (cases h; done))

end Go.Abs

/-! Glue2 -/

namespace Go.Abs

def M0 : Map := ⟨fun _ _ => none, fun _ => (0, none), fun _ => none⟩

def Kept (w w' : World) : Prop := w.keptBut w' (fun _ => False) ∧ ∀ a : Addr, a.block < w.heap.size → w'.frozen? a = w.frozen? a

theorem Kept.frame {w w' : World} (h : Kept w w') (may : MemPlace → Prop) : w.keptBut w' may := World.keptBut_mono (fun _ f => f.elim) h.1

theorem Ext.toKept {M M' : Map} {s' : St} {w w' : World} (e : Ext M S0 w M' s' w') : Kept w w' := by
 have hh : ∀ b, b < w.heap.size → w'.heap[b]? = w.heap[b]? := fun b hb =>
   e.kept b hb (fun o ho => by simp [S0] at ho) (fun t c z hl => by obtain ⟨n, hn⟩ := hl; simp [S0] at hn)
 refine ⟨⟨e.os, e.output, fun i hi => ?_⟩, fun a ha => ?_⟩
 · rw [hh i hi]
   exact (World.keptBut_refl w (fun _ => False)).2.2 i hi
 · simp only [World.frozen?, hh _ ha]

theorem rel0 (G : Nat → Nat → Option Value) (w : World) (h : ∀ b o v, G b o = some v → w.cell? ⟨b, o, none⟩ = some v ∧ v.oneCell' = true) : Rel ⟨G, fun _ => (0, none), fun _ => none⟩ S0 w :=
 ⟨h, fun o ds e => by simp [S0] at e, fun o ho => by simp [S0] at ho, fun o o' ho => by simp [S0] at ho, fun t n e => by simp [S0] at e,
   fun t b c z o hl => by obtain ⟨n, hn⟩ := hl; simp [S0] at hn, fun t t' b c z c' z' hl => by obtain ⟨n, hn⟩ := hl; simp [S0] at hn⟩

def LaidW (w : World) : Prop := ∀ g cs, tabs g = some cs → ∃ T fr, w.heap[g]? = some (.cells cs T fr)
theorem laid0 (G : Nat → Nat → Option Value) {w : World} (h : LaidW w) : Laid ⟨G, fun _ => (0, none), fun _ => none⟩ S0 w :=
 fun g cs hg => ⟨h g cs hg, fun o ho => by simp [S0] at ho, fun t c z hl => by obtain ⟨n, hn⟩ := hl; simp [S0] at hn⟩

theorem law_calls {P : Program} {f : FuncId} {args : List D} {vargs : Array Value} {w : World} {G : Nat → Nat → Option Value} (h : ACalls P f args S0 fun d _ => d = .bool true)
   (hG : ∀ b o v, G b o = some v → w.cell? ⟨b, o, none⟩ = some v ∧ v.oneCell' = true) (hl : vargs.size = args.length)
   (ha : ∀ (i : Nat) (d : D) (v : Value), args[i]? = some d → vargs[i]? = some v → RD ⟨G, fun _ => (0, none), fun _ => none⟩ S0 d v) (hlaid : LaidW w) :
   Calls P f vargs w fun e w' => e = .returned (.bool true) ∧ Kept w w' := by
 refine (h _ w vargs (rel0 G w hG) (laid0 G hlaid) hl ha).mono fun e w' hw => ?_
 obtain ⟨M', d, v, s', rfl, rfl, he, _, hv⟩ := hw
 rw [hv.bool_inv]
 exact ⟨rfl, he.toKept⟩

section
variable {P : Program} {H : Type} {enc : TypeId × Value → H}

theorem post_of_kept {f : Func} {s : ChangeSpec} {apart fresh handsOn again : Bool} {W W' : World} {args : Array Value} {v : Value} {ds gs : List (DataW H)} {before pa pv : List MemPlace}
   (hW : DataW.Whole enc P f.params.toList s.vars apart W args.toList ds gs before)
   (hres : ∀ (b : Nat) (sp : Nat → Bool) (hd : Bool), DataW.TrodAll enc P W' b sp hd f.resultTypes.toList (v.resultList f.resultTypes.size) (s.fn H (ds ++ gs)).results [])
   (hargs : ∀ sp : Nat → Bool, (∀ p ∈ before, sp p.block = true) → DataW.TrodAll enc P W' 0 sp true f.params.toList args.toList (s.fn H (ds ++ gs)).args pa)
   (hvars : ∀ sp : Nat → Bool, (∀ p ∈ before, sp p.block = true) → DataW.TrodVars enc P W' sp s.vars (s.fn H (ds ++ gs)).vars pv)
   (hps : before = pa ++ pv) (hk : Kept W W')
   (hok : ∀ (j : Nat) (t : TypeId) (r : Value), f.resultTypes[j]? = some t → (v.resultList f.resultTypes.size)[j]? = some r → Value.okWide P W' .any 0 t r) :
   s.post enc P f apart fresh handsOn again W args v W' := by
 have hC : ∀ p ∈ before, p.block < W.heap.size := fun p hp => hW.lt p hp
 have hold : ∀ p ∈ before, (fun b => decide (b < W.heap.size)) p.block = true := fun p hp => by simpa using hC p hp
 refine ⟨ds, gs, before, [], pa, pv, hW, hres _ _ _, hargs _ hold, hvars _ hold, World.keptBut_mono (fun p hp => ⟨hp, ?_⟩) (hk.frame (· ∈ before)), fun _ => ?_⟩
 · rw [hps, List.mem_append] at hp
   exact Or.inr hp
 · obtain ⟨_, _, _, _, _, hz, hn⟩ := hW
   refine ⟨hok, _, _, ([] ++ pa) ++ pv, ⟨[] ++ pa, pv, ChangeShapes.trodAll_append (hargs _ (fun _ _ => rfl)) (hres _ _ _), hvars _ (fun _ _ => rfl), rfl, ?_, ?_⟩, ?_⟩
   · intro b off hp
     have hp' : MemPlace.cell b off ∈ before := by rw [hps]; simpa using hp
     rw [hk.2 _ (hC _ hp')]
     exact hz b off hp'
   · intro ha
     have := hn ha
     rw [hps] at this
     simpa using this
   · intro p hp _
     rw [hps]
     simpa using hp
end
end Go.Abs

/-! Join -/

namespace Go.Abs
open Go.RowKit Go.ChangeShapes Go.WideShapes

def memG (w : World) (b o : Nat) : Option Value :=
 match w.cell? ⟨b, o, none⟩ with
 | some v => if v.oneCell' = true then some v else none
 | none => none
theorem memG_ok {w : World} (b o : Nat) (v : Value) (h : memG w b o = some v) : w.cell? ⟨b, o, none⟩ = some v ∧ v.oneCell' = true := by
 unfold memG at h
 split at h
 · split at h
   · cases h; exact ⟨‹_›, ‹_›⟩
   · cases h
 · cases h
def memM (w : World) : Map := ⟨memG w, fun _ => (0, none), fun _ => none⟩

theorem Kept.sameAt {w w' : World} (h : Kept w w') {p : MemPlace} (hp : p.block < w.heap.size) : w.sameAt w' p := by
 have hk := h.1.2.2 p.block hp
 cases p with
 | cell b off =>
   simp only [MemPlace.block] at hk hp
   simp only [World.sameAt, World.cell?]
   split at hk
   · rename_i c t fr c' t' fr' e e'
     rw [e, e']
     simp only [hk.2.2.2 off (fun f => f)]
   · rename_i es clock es' clock' e e'
     rw [e, e']
   · rw [hk]
 | map b =>
   simp only [MemPlace.block] at hk hp
   simp only [World.sameAt]
   split at hk
   · rename_i c t fr c' t' fr' e e'
     rw [e, e']
     obtain ⟨rfl, rfl, hs, hc⟩ := hk
     have : c' = c := by
       apply Array.ext_getElem?
       intro i
       exact hc i (fun f => f)
     rw [this]
   · rename_i es clock es' clock' e e'
     rcases hk with f | ⟨rfl, rfl⟩
     · exact f.elim
     · rw [e, e']
   · exact hk

section
variable {P : Program} {H : Type} {enc : TypeId × Value → H} {T : TypeId → Prop}

theorem args_again (K : Kids P T) (hz : ∀ {t e : TypeId}, T t → P.underlying t = some (.slice e) → 0 < P.cellsOf e) {W W' : World} (hk : Kept W W') {sp : Nat → Bool} :
   ∀ {ts : List TypeId} {vs : List Value} {ds : List (DataW H)} {ps : List MemPlace}, (∀ t ∈ ts, T t) → (∀ p ∈ ps, p.block < W.heap.size) → (∀ p ∈ ps, sp p.block = true) →
     DataW.TrodAll enc P W 0 (fun _ => true) true ts vs ds ps → DataW.TrodAll enc P W' 0 sp true ts vs ds ps
 | [], [], [], _, _, _, _, h => h
 | t :: ts, v :: vs, d :: ds, ps, hT, hC, hs, ⟨p, q, ⟨n, h1⟩, h2, e⟩ => by
   subst e
   refine ⟨p, q, ⟨n, DataW.trod_stays K hz (fun f => by cases f) (hT t (List.mem_cons_self ..)) h1 (fun x hx => hk.sameAt (hC x (List.mem_append_left _ hx))) (fun x hx => hs x (List.mem_append_left _ hx))⟩, ?_, rfl⟩
   exact args_again K hz hk (fun t ht => hT t (List.mem_cons_of_mem _ ht)) (fun x hx => hC x (List.mem_append_right _ hx)) (fun x hx => hs x (List.mem_append_right _ hx)) h2
 | [], [], _ :: _, _, _, _, _, h => h.elim
 | [], _ :: _, _, _, _, _, _, h => h.elim
 | _ :: _, [], _, _, _, _, _, h => h.elim
 | _ :: _, _ :: _, [], _, _, _, _, h => h.elim

theorem law_post (K : Kids P T) (hz : ∀ {t e : TypeId}, T t → P.underlying t = some (.slice e) → 0 < P.cellsOf e) {f : Func} {s : ChangeSpec} {apart fresh handsOn again : Bool} {tb : TypeId} {W W' : World} {args : Array Value} {ds gs : List (DataW H)} {before : List MemPlace}
   (hT : ∀ t ∈ f.params.toList, T t) (hb : P.underlying tb = some .bool) (hr : f.resultTypes = #[tb]) (hvars : s.vars = []) (hW : DataW.Whole enc P f.params.toList s.vars apart W args.toList ds gs before)
   (hfn : s.fn H (ds ++ gs) = { results := [.lit (.bool true)], args := ds }) (hk : Kept W W') : s.post enc P f apart fresh handsOn again W args (.bool true) W' := by
 have hW' := hW
 have hC : ∀ p ∈ before, p.block < W.heap.size := fun p hp => hW.lt p hp
 obtain ⟨p, q, hA, hV, rfl, hfz, hnd⟩ := hW
 rw [hvars] at hV
 obtain ⟨rfl, rfl⟩ := trodVars_none hV
 simp only [List.append_nil] at hC hfn
 refine post_of_kept (pa := p) (pv := []) hW' (fun b sp hd => ?_) (fun sp hsp => ?_) (fun sp hsp => ?_) rfl hk (ok_one hr rfl (okWide_bool_mk hb _))
 · rw [List.append_nil, hfn, hr]
   exact trodAll_cons_mk (shut_bool hb _) trodAll_mk0
 · rw [List.append_nil, hfn]
   simp only [List.append_nil] at hsp
   exact args_again K hz hk hT hC hsp hA
 · rw [List.append_nil, hfn, hvars]
   rfl

theorem law_run {f : FuncId} {args : List D} {vargs : Array Value} {w : World} (h : ACalls P f args S0 fun d _ => d = .bool true) (hl : vargs.size = args.length)
   (ha : ∀ (i : Nat) (d : D) (v : Value), args[i]? = some d → vargs[i]? = some v → RD (memM w) S0 d v) (hlaid : LaidW w) : Calls P f vargs w fun e w' => e = .returned (.bool true) ∧ Kept w w' :=
 law_calls (G := memG w) h memG_ok hl ha hlaid
end

end Go.Abs

/-! Join2 -/

namespace Go.Abs
open Go.RowKit Go.ChangeShapes Go.WideShapes

end Go.Abs

/-! Join3 -/

namespace Go.Abs
open Go.RowKit Go.ChangeShapes Go.WideShapes

def Rowed (W : World) (ds : List D) (cs : List Value) : Prop := ds.length = cs.length ∧ (∀ (i : Nat) (d : D) (v : Value), ds[i]? = some d → cs[i]? = some v → RD (memM W) S0 d v) ∧ ∀ v ∈ cs, v.oneCell' = true

section
variable {H : Type} {enc : TypeId × Value → H} {P : Program} {W : World} {sp : Nat → Bool}

def structOf (P : Program) (t : TypeId) : List (TypeId × Nat) :=
 match P.underlying t with
 | some (.struct fs) => fs.toList.map fun f => (f.type, f.offset)
 | _ => []

end

end Go.Abs

/-! Join4 -/

namespace Go.Abs
open Go.Proofs Go.RowKit Go.ChangeShapes Go.WideShapes

section
variable {H : Type} {enc : TypeId × Value → H} {W : World} {sp : Nat → Bool}

end

end Go.Abs

/-! Laid5 -/

namespace Go.Proofs.YtcknbmdkefcinaaDoor
open Go.ChangeShapes Go.WideShapes Go.ChangeAt Go.RowKit Go.Abs

theorem own : ownKnob Tryd.prog.godebug = none := by kernel_rfl
theorem kids : Kids Tryd.prog (· < Tryd.prog.types.size) := kids_rows (by kernel_rfl) (by kernel_rfl)
theorem full : ∀ {t e : TypeId}, t < Tryd.prog.types.size → Tryd.prog.underlying t = some (.slice e) → 0 < Tryd.prog.cellsOf e := fun {t e} => slices_full_of Tryd.prog (by kernel_rfl) t e

def laid3 : List (String × DataW Unit) := [("math/bits.deBruijn32tab", Rows.laid_math_bits_deBruijn32tab), ("math/bits.deBruijn64tab", Rows.laid_math_bits_deBruijn64tab), ("internal/strconv.uint64pow10", Rows.laid_internal_strconv_uint64pow10)]

theorem laid_pow : (Rows.laid_internal_strconv_uint64pow10 : DataW Unit) = Lib.tabData .u64 Lib.pow10Tab := by kernel_rfl

theorem laidW_of {W : World} (h : laidMetH Tryd.prog laid3 W) : LaidW W := by
 have h1 : laidMet Tryd.prog [("internal/strconv.uint64pow10", Lib.tabData .u64 Lib.pow10Tab)] W := by
   have := (laidMetH_iff.1 h).1.filter fun x => x.1 == "internal/strconv.uint64pow10"
   rw [← laid_pow]
   exact this
 have ht : Lib.TabIs Tryd.prog W "internal/strconv.uint64pow10" .u64 Lib.pow10Tab :=
   Lib.tabIs_of_head (g := gPow) (t := 159) (e := 135) (n := 20) (by kernel_rfl) (by kernel_rfl) (by kernel_rfl) (by kernel_rfl) (by kernel_rfl) (by kernel_rfl) h1
 have hg : Tryd.prog.globalNamed "internal/strconv.uint64pow10" = some gPow := by kernel_rfl
 unfold Lib.TabIs World.var? at ht
 rw [hg] at ht
 simp only [Option.bind_some] at ht
 intro g cs hcs
 unfold tabs at hcs
 split at hcs
 · rename_i hgg
   subst hgg
   cases hcs
   split at ht
   · rename_i cs' T fr e
     cases ht
     exact ⟨T, fr, e⟩
   · cases ht
 · cases hcs

def tabCells : DataW Unit → Array Value
 | .agg l => (l.map fun | .lit (.int k n) => Value.int k n | _ => .int .i64 0).toArray
 | _ => #[]
noncomputable def laidWorld (os : Os) : World :=
 let w0 := World.holding Tryd.prog os ⟨#[], #[], []⟩
 let lay := fun (h : Array Obj) (g : Nat) (d : DataW Unit) => h.modify g fun
     | .cells _ t frozen => .cells (tabCells d) t frozen
     | o => o
 { w0 with heap := lay (lay (lay w0.heap 1 Rows.laid_internal_strconv_uint64pow10) 2 Rows.laid_math_bits_deBruijn32tab) 3 Rows.laid_math_bits_deBruijn64tab }
theorem laid_met (os : Os) (args : Array Value) : laidMetH Tryd.prog laid3 ((laidWorld os).forCall (fun _ _ => 0) ⟨#[], args, []⟩).memory :=
 laidMetH_iff.2 ⟨(LaidIn.of_run [2, 3, 1] 8 (by kernel_rfl) (by kernel_rfl) (by kernel_rfl) (by kernel_rfl)).met, fun x hx => by
   have : laid3.filter (fun x => x.2.handleName?.isSome) = [] := by kernel_rfl
   rw [this] at hx; cases hx⟩

end Go.Proofs.YtcknbmdkefcinaaDoor

/-! PrintOnce -/

namespace Go.Proofs.YtcknbmdkefcinaaDoor.printOnce
open Go.ChangeShapes Go.WideShapes Go.ChangeAt Go.RowKit Go.Abs

theorem walk (w : World) (hL : LaidW w) (s : ByteArray) : Calls Tryd.prog 9 #[.string s] w fun e w' => e = .returned (.bool true) ∧ Kept w w' := by
 refine law_run (args := [.str s.data.toList]) ((printOnce_s s.data.toList S0).mono fun _ _ h => h.1) rfl ?_ hL
 intro i d v h1 h2
 match i, h1, h2 with
 | 0, h1, h2 => simp at h1 h2; subst h1 h2; exact RD.str _

set_option maxRecDepth 100000 in
theorem lifted (os : Os) (started : os.Started) (H : Type) (enc : TypeId × Value → H) :
   ReturnsInHanded {} Tryd.checked os 9 .any (fun w args => (Rows.printOnceSpec.pre enc Tryd.prog Tryd.f9 Rows.printOnceRow.domain false w args ∧ laidMetH Tryd.prog laid3 w) ∧ sizedMet enc Tryd.prog Tryd.f9 (OpenSpec.ofChange Rows.printOnceSpec) false w args)
     (Rows.printOnceSpec.post enc Tryd.prog Tryd.f9 false true false false) := by
 refine returnsInHanded_of_change_and (C := Tryd.checked) (X := fun w _ => laidMetH Tryd.prog laid3 w) (fun _ _ _ hh h => h.of_heap hh) own started (by kernel_rfl) Tryd.func9
   (ChangeSpec.witness_at (enc := enc) (C := Tryd.checked) (os := os) (X := fun w _ => laidMetH Tryd.prog laid3 w) false (laidWorld os) #[.string ⟨#[]⟩] 8 rfl (by kernel_rfl) (by kernel_rfl) (by kernel_rfl) (by kernel_rfl) (by kernel_rfl) (laid_met os _)) ?_
 intro W base args ds gs before hval0 hW hcnd _ hL _
 have hval : ∀ (j : Nat) t v, Tryd.f9.params[j]? = some t → args[j]? = some v → Value.okWide Tryd.prog W .any base t v := hval0
 have hW' := hW
 obtain ⟨p, q, hA0, hV, rfl, hfz, hnd⟩ := hW
 have hA : DataW.TrodAll enc Tryd.prog W 0 (fun _ => true) true Tryd.f9.params.toList args.toList ds p := hA0
 rw [Tryd.params9] at hA hval
 obtain ⟨v0, d0, rfl, rfl, hd0⟩ := trodAll_one hA
 obtain ⟨rfl, rfl⟩ := trodVars_none hV
 obtain ⟨s, rfl, rfl, rfl, _⟩ := Go.ChangeMaps.open_string Tryd.underlying9 (hval 0 _ _ rfl rfl) hd0
 refine (walk W (laidW_of hL) s).mono fun e W' ⟨he, hg⟩ => ?_
 subst he
 exact ⟨_, rfl, law_post kids full (by rw [Tryd.params9]; decide) Tryd.underlying4 (by kernel_rfl) rfl hW' rfl hg⟩

theorem over : Rows.PrintOnceSaid :=
 OpenClaim.holds_of_wide 9 Tryd.f9 rfl rfl rfl rfl rfl rfl rfl ⟨rfl, rfl, rfl, rfl, rfl⟩ rfl rfl rfl rfl rfl (by kernel_rfl) Tryd.func9 (by kernel_rfl)
   (of_decide_eq_true (by kernel_rfl)) (by unfold Func.isWrapper; first | (rw [if_pos (by decide +kernel)]; kernel_rfl) | (rw [if_neg (by decide +kernel)]; exact ⟨rfl, rfl⟩))
   (fun os started H enc _ => lifted os started H enc)

theorem proved : Rows.PrintOnceCardSaid :=
 Claim7.holds_tied_plain_at .later [] [.data, .data, .data] true (true, "c4602d4ef5bdffa21f560167e243406d26df7374ad6c9b92d056c6ba37991ec5") false
   over (fun _ h => by cases h) (by kernel_rfl) (fun _ h => by cases h) printOnce_row_tie rfl ⟨rfl, rfl⟩ (by kernel_rfl) rfl
   (fun f fn hf hfn => by
     obtain rfl : f = 9 := Option.some.inj ((show Tryd.prog.funcNamed "whittler/whittlerlaw5.PrintOnce" = some 9 by kernel_rfl).symm.trans hf) |>.symm
     obtain rfl : fn = Tryd.f9 := (Option.some.inj (Tryd.func9.symm.trans hfn)).symm
     exact ⟨by kernel_rfl, fun j t ht => by
       rw [Tryd.params9] at ht
       have h3 : t = 9 := by
         rcases j with _ | j
         · simpa using ht.symm
         · simp at ht
       subst h3
       exact (show Tryd.prog.wantsStandIn 9 = false by kernel_rfl)⟩)
   (by kernel_rfl)
#print axioms proved
end Go.Proofs.YtcknbmdkefcinaaDoor.printOnce
