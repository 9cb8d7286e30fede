/-
  What is proved here: part 4 of the road to the claim (Prs4, Prs5, Prs6, Lex3, MirParse, Prs7, Room1, Al4, Full1, Fits1, MirEq, RefEq, RefEq2, LawTo1, LawAl2, SwP, Ck1, MirRun, HandP, CkT, SelA, Lend, Sym, WpA, RunTot, RunFu, RunOk, MirMapS, RightP, RunLo, RunNm, RunMc, RunI, Ev1, Ev2, Cp1, RunC0, RunC1, RunC2, RunC3, RunC4, RunC5, RunC6, RunC7, RunSt, RunSz).
  No conditions.
-/
import Derived.Test.YtpjadlleefgcpabGreatRnN3
import Derived.KernelRfl

set_option linter.unusedSimpArgs false
set_option linter.unusedVariables false
namespace Go.Abs
set_option maxRecDepth 8000
open Go.Proofs
theorem Xl {r:Rd} {b:Bool} (h:r.Kz=some b) {s:St} {o:Nat} (ho:s.ah[o]? = some (cJ r)) :
 az Tryz.prog ni [.ptr o 0] s (.bool b) ⟨s.ah.set o (cJ r),s.aw⟩:=by
 refine az.kN ?_ rfl (fJ r) (fJ r) rfl ho
 unfold Rd.Kz at h
 refine az.go wu rfl fun B Q hB hQ=>?_
 have⟨hC,hE,hM,hY⟩:=bC
 repeat' (first
 |simp only[go_sem,hC,hE,hM,hY]
 |(rw[Option.bind_eq_some_iff]at h;obtain⟨_,h1,h⟩:=h;first|(with_reducible refine CU (pk h1 (by with_unfolding_all rfl)) ?_))
 |(with_reducible first|refine aX fun hc=>?_|refine aY fun hc=>?_|refine aZ (fun hc=>?_) fun hc=>?_)<;>(try simp only[hc,bs,↓reduceIte]at h)<;>try simp only[hc]
 |(with_reducible refine aB hQ ?_;exact ep))
theorem ae7 {m:Nat} {name proc:aF} {r:Rd} {p:Sm×Rd} (h:Rd.call m name proc r=some p) {s:St} {o:Nat} (ho:s.ah[o]? = some (cJ r)) :
 az Tryz.prog lK [.ptr o 0, .str name, .str proc] s (.agg (a8 p.1)) ⟨s.ah.set o (cJ p.2),s.aw⟩:=by
 refine az.kN ?_ rfl (fJ r) (fJ p.2) (by simp[D.ok,mY]) ho
 unfold Rd.call Rd.other at h
 refine az.go yF rfl fun B Q hB hQ=>?_
 have⟨hC,hE,hM,hY⟩:=bC
 repeat' (first
 |simp only[go_sem,hC,hE,hM,hY]
 |(rw[Option.bind_eq_some_iff]at h;obtain⟨_,h1,h⟩:=h;first|(with_reducible refine CU (qn h1 (by with_unfolding_all rfl)) ?_)|(with_reducible refine CU (BL h1 (by with_unfolding_all rfl)) ?_))
 |(with_reducible refine CU (kV (by with_unfolding_all rfl)) ?_)
 |(with_reducible first|refine aX fun hc=>?_|refine aY fun hc=>?_|refine aZ (fun hc=>?_) fun hc=>?_)<;>(try simp only[hc,bs,↓reduceIte]at h)<;>try simp only[hc]
 |(with_reducible refine aB hQ ?_;exact ep)
 |(cases h;replace h:=hr;clear hr;(try simp only[bs,↓reduceIte]at h))
 |(cases h;done))
 rw[Option.bind_eq_some_iff]at h
 obtain⟨q,h,hr⟩:=h
 refine bd.pZ 2 10 6 rfl rfl ?_
 simp only[go_sem,hC,hE,hM,hY]
 refine dQ 3 1 (bd.ind (ι:=Nat×List Ar×Rd×Nat) (fun i=>Rd.Cu m i.1 i.2.1 i.2.2.1=some q∧i.2.2.2=i.2.1.length) (fun i=>i.1)
  (fun i=> [(0, .ptr 0 0),(6, .ptr 1 0),(7, .ptr 2 0)]) (fun i=>⟨[cJ i.2.2.1,a8 Hn,[.int .i64 0, .int .i64 4, .slice .shared 1 [], .str name, .str proc, .int .i64 0, .int .i64 0, .str [], .slice .shared 4 [], .bool false, .slice (.tok 0) 6 (i.2.1.map eC), .slice .shared 13 [], .slice .shared 13 []]],[some i.2.2.2]⟩) ?_ (m,[],_,0) ⟨h,rfl⟩)
 rintro⟨n,l,r,k⟩ ⟨h,hk⟩ IH
 dsimp only at hk;subst hk
 cases n with
 |zero=>simp only[Rd.Cu]at h;cases h
 |succ n=>
  simp only[Rd.Cu]at h
  repeat' (first
 |simp only[go_sem,hC,hE,hM,hY]
 |(rw[Option.bind_eq_some_iff]at h;obtain⟨_,h1,h⟩:=h;first|(with_reducible refine CU (tK h1 (by with_unfolding_all rfl)) ?_)|(obtain⟨hM,pM⟩:=pb h1;subst pM;simp only[go_sem,hC,hE,hM,hY])|(with_reducible refine CU (yN h1 (by with_unfolding_all rfl)) ?_)|(with_reducible refine CU (Cx h1 (by with_unfolding_all rfl)) ?_)|(with_reducible refine CU (qn h1 (by with_unfolding_all rfl)) ?_))
 |(with_reducible refine CU (kV (by with_unfolding_all rfl)) ?_)
 |(with_reducible first|refine aX fun hc=>?_|refine aY fun hc=>?_|refine aZ (fun hc=>?_) fun hc=>?_)<;>(try simp only[hc,bs,↓reduceIte]at h)<;>try simp only[hc]
 |(with_reducible refine aB hQ ?_;exact ep)
 |(cases h;replace h:=hr;clear hr;(try simp only[bs,↓reduceIte]at h))
 |(cases h;done))
  ·refine dQ 3 1 (IH (n,_,_,l.length+1) ⟨h,by simp⟩ (Nat.lt_succ_self _))
  ·refine dQ 3 1 (IH (n,_,_,l.length+1) ⟨h,by simp⟩ (Nat.lt_succ_self _))
theorem Xm {m:Nat} {r:Rd} {p:Sm×Rd} (h:Rd.named m r=some p) {s:St} {o:Nat} (ho:s.ah[o]? = some (cJ r)) :
 az Tryz.prog nT [.ptr o 0] s (.agg (a8 p.1)) ⟨s.ah.set o (cJ p.2),s.aw⟩:=by
 refine az.kN ?_ rfl (fJ r) (fJ p.2) (by simp[D.ok,mY]) ho
 unfold Rd.named Rd.ahead at h
 refine az.go xI rfl fun B Q hB hQ=>?_
 have⟨hC,hE,hM,hY⟩:=bC
 repeat' (first
 |simp only[go_sem,hC,hE,hM,hY]
 |(rw[Option.bind_eq_some_iff]at h;obtain⟨_,h1,h⟩:=h;first|(with_reducible refine CU (yN h1 (by with_unfolding_all rfl)) ?_)|(with_reducible refine CU (qn h1 (by with_unfolding_all rfl)) ?_)|(with_reducible refine CU (BL h1 (by with_unfolding_all rfl)) ?_)|(with_reducible refine CU (pk h1 (by with_unfolding_all rfl)) ?_;have hC:=sG h1)|(obtain⟨Q5,hE⟩:=Bx h1;simp only[go_sem,hE,hC,hE,hM,hY])|(with_reducible refine CU (Cx h1 (by with_unfolding_all rfl)) ?_))
 |(with_reducible refine CU (kV (by with_unfolding_all rfl)) ?_)
 |(with_reducible refine CU (ae7 h (by with_unfolding_all rfl)) ?_)
 |(with_reducible first|refine aX fun hc=>?_|refine aY fun hc=>?_|refine aZ (fun hc=>?_) fun hc=>?_)<;>(try simp only[hc,bs,↓reduceIte]at h)<;>try simp only[hc]
 |(with_reducible refine aB hQ ?_;exact ep))
theorem abg {m:Nat} {word:aF} {r:Rd} {p:Sm×Rd} (h:Rd.plain m word r=some p) {s:St} {o:Nat} (ho:s.ah[o]? = some (cJ r)) :
 az Tryz.prog nU [.ptr o 0, .str word] s (.agg (a8 p.1)) ⟨s.ah.set o (cJ p.2),s.aw⟩:=by
 refine az.kN ?_ rfl (fJ r) (fJ p.2) (by simp[D.ok,mY]) ho
 unfold Rd.plain at h
 refine az.go xK rfl fun B Q hB hQ=>?_
 have⟨hC,hE,hM,hY⟩:=bC
 repeat' (first
 |simp only[go_sem,hC,hE,hM,hY]
 |(rw[Option.bind_eq_some_iff]at h;obtain⟨_,h1,h⟩:=h;first|(with_reducible refine CU (yN h1 (by with_unfolding_all rfl)) ?_)|(with_reducible refine CU (BL h1 (by with_unfolding_all rfl)) ?_)|(with_reducible refine CU (Cx h1 (by with_unfolding_all rfl)) ?_))
 |(with_reducible first|refine aX fun hc=>?_|refine aY fun hc=>?_|refine aZ (fun hc=>?_) fun hc=>?_)<;>(try simp only[hc,bs,↓reduceIte]at h)<;>try simp only[hc]
 |(with_reducible refine aB hQ ?_;exact ep))
theorem Uh {m:Nat} {r:Rd} {p:Ex×Rd} (h:Rd.head m r=some p) {s:St} {o:Nat} (ho:s.ah[o]? = some (cJ r)) :
 az Tryz.prog lJ [.ptr o 0] s (.agg (bI p.1)) ⟨s.ah.set o (cJ p.2),s.aw⟩:=by
 refine az.kN ?_ rfl (fJ r) (fJ p.2) (by simp[D.ok,gT]) ho
 unfold Rd.head at h
 refine az.go yE rfl fun B Q hB hQ=>?_
 have⟨hC,hE,hM,hY⟩:=bC
 repeat' (first
 |simp only[go_sem,hC,hE,hM,hY]
 |(rw[Option.bind_eq_some_iff]at h;obtain⟨_,h1,h⟩:=h;first|(with_reducible refine CU (qn h1 (by with_unfolding_all rfl)) ?_)|(with_reducible refine CU (Cx h1 (by with_unfolding_all rfl)) ?_))
 |(with_reducible first|refine aX fun hc=>?_|refine aY fun hc=>?_|refine aZ (fun hc=>?_) fun hc=>?_)<;>(try simp only[hc,bs,↓reduceIte]at h)<;>try simp only[hc]
 |(with_reducible refine aB hQ ?_;exact ep))
set_option maxRecDepth 8000
open Go.Proofs
abbrev Lz (m n:Nat):Prop:=∀ {nest:Int} {body:Bool} {r:Rd} {p:(List Sm×List aF)×Rd},Rd.rows m n nest body r=some p→∀ {s:St} {o:Nat},s.ah[o]? = some (cJ r)→
 az Tryz.prog gI [.ptr o 0, .int .i64 nest, .bool body] s (.tuple [.slice .shared 13 (p.1.1.map a8), .slice .shared 1 (p.1.2.map encStr)]) ⟨s.ah.set o (cJ p.2),s.aw⟩
abbrev B9 (m n:Nat):Prop:=∀ {nest:Int} {r:Rd} {p:Sm×Rd},Rd.stmt m n nest r=some p→∀ {s:St} {o:Nat},s.ah[o]? = some (cJ r)→
 az Tryz.prog oz [.ptr o 0, .int .i64 nest] s (.agg (a8 p.1)) ⟨s.ah.set o (cJ p.2),s.aw⟩
abbrev CI (m n:Nat):Prop:=∀ {nest:Int} {r:Rd} {p:List Sm×Rd},Rd.block m n nest r=some p→∀ {s:St} {o:Nat},s.ah[o]? = some (cJ r)→
 az Tryz.prog jE [.ptr o 0, .int .i64 nest] s (.slice .shared 13 (p.1.map a8)) ⟨s.ah.set o (cJ p.2),s.aw⟩
abbrev Eg (m n:Nat):Prop:=∀ {nest:Int} {r:Rd} {p:Sm×Rd},Rd.choice m n nest r=some p→∀ {s:St} {o:Nat},s.ah[o]? = some (cJ r)→
 az Tryz.prog nj [.ptr o 0, .int .i64 nest] s (.agg (a8 p.1)) ⟨s.ah.set o (cJ p.2),s.aw⟩
theorem MS {m n:Nat} (GK:CI m n):Eg m (n+1):=by
 intro nest r p h s o ho
 refine az.kN ?_ rfl (fJ r) (fJ p.2) (by simp[D.ok,mY]) ho
 unfold Rd.choice at h
 refine az.go wv rfl fun B Q hB hQ=>?_
 have⟨hC,hE,hM,hY⟩:=bC
 repeat' (first
 |simp only[go_sem,hC,hE,hM,hY]
 |(rw[Option.bind_eq_some_iff]at h;obtain⟨_,h1,h⟩:=h;first|(with_reducible refine CU (Uh h1 (by with_unfolding_all rfl)) ?_)|(with_reducible refine CU (GK h1 (by with_unfolding_all rfl)) ?_)|(with_reducible refine CU (tK h1 (by with_unfolding_all rfl)) ?_))
 |(with_reducible first|refine aX fun hc=>?_|refine aY fun hc=>?_|refine aZ (fun hc=>?_) fun hc=>?_)<;>(try simp only[hc,bs,↓reduceIte]at h)<;>try simp only[hc]
 |(with_reducible refine aB hQ ?_;exact ep))
theorem Q8 {m n:Nat} (LA:Lz m n):CI m (n+1):=by
 intro nest r p h s o ho
 refine az.kN ?_ rfl (fJ r) (fJ p.2) (by simp[D.ok,oK,Tag.ok]) ho
 unfold Rd.block at h
 refine az.go xJ rfl fun B Q hB hQ=>?_
 have⟨hC,hE,hM,hY⟩:=bC
 repeat' (first
 |simp only[go_sem,hC,hE,hM,hY]
 |(rw[Option.bind_eq_some_iff]at h;obtain⟨_,h1,h⟩:=h;first|(with_reducible refine CU (qn h1 (by with_unfolding_all rfl)) ?_)|(obtain⟨hY,hik⟩:=Tj h1;subst hik;simp only[go_sem,hY,hC,hE,hM,hY])|(with_reducible refine CU (LA h1 (by with_unfolding_all rfl)) ?_))
 |(with_reducible first|refine aX fun hc=>?_|refine aY fun hc=>?_|refine aZ (fun hc=>?_) fun hc=>?_)<;>(try simp only[hc,bs,↓reduceIte]at h)<;>try simp only[hc]
 |(with_reducible refine aB hQ ?_;exact ep))
theorem Ui {m n:Nat} (GK:CI m n) (Xn:Eg m n):B9 m (n+1):=by
 intro nest r p h s o ho
 refine az.kN ?_ rfl (fJ r) (fJ p.2) (by simp[D.ok,mY]) ho
 unfold Rd.stmt at h
 refine az.go yD rfl fun B Q hB hQ=>?_
 have⟨hC,hE,hM,hY⟩:=bC
 repeat' (first
 |simp only[go_sem,hC,hE,hM,hY]
 |(rw[Option.bind_eq_some_iff]at h;obtain⟨_,h1,h⟩:=h;first|(with_reducible refine CU (Xl h1 (by with_unfolding_all rfl)) ?_)|(obtain⟨hY,hik⟩:=Wp h1;subst hik;simp only[go_sem,hY,hC,hE,hM,hY])|(with_reducible refine CU (pk h1 (by with_unfolding_all rfl)) ?_;have hC:=sG h1)|(with_reducible refine CU (Uh h1 (by with_unfolding_all rfl)) ?_)|(with_reducible refine CU (GK h1 (by with_unfolding_all rfl)) ?_)|(with_reducible refine CU (abg h1 (by with_unfolding_all rfl)) ?_)|(with_reducible refine CU (qn h1 (by with_unfolding_all rfl)) ?_)|(with_reducible refine CU (E7 h1 (by with_unfolding_all rfl)) ?_))
 |(with_reducible refine CU (Xn h (by with_unfolding_all rfl)) ?_)
 |(with_reducible refine CU (Xm h (by with_unfolding_all rfl)) ?_)
 |(with_reducible first|refine aX fun hc=>?_|refine aY fun hc=>?_|refine aZ (fun hc=>?_) fun hc=>?_)<;>(try simp only[hc,bs,↓reduceIte]at h)<;>try simp only[hc]
 |(with_reducible refine aB hQ ?_;exact ep))
theorem Uj {m n:Nat} (yX : ∀ j<n,B9 m j) {nest:Int} {r:Rd} {p:(List Sm×List aF)×Rd} (h:Rd.rows m (n+1) nest true r=some p) :
 az Tryz.prog gI [.ptr 0 0, .int .i64 nest, .bool true] ⟨[cJ r],[]⟩ (.tuple [.slice .shared 13 (p.1.1.map a8), .slice .shared 1 (p.1.2.map encStr)]) ⟨[cJ p.2],[]⟩:=by
 unfold Rd.rows at h
 refine az.go q5 rfl fun B Q hB hQ=>?_
 have⟨hC,hE,hM,hY⟩:=bC
 repeat' (first
 |simp only[go_sem,hC,hE,hM,hY]
 |(with_reducible first|refine aX fun hc=>?_|refine aY fun hc=>?_|refine aZ (fun hc=>?_) fun hc=>?_)<;>(try simp only[hc,bs,↓reduceIte]at h)<;>try simp only[hc]
 |(with_reducible refine aB hQ ?_;exact bg))
 refine bd.pY 8 13 rfl ?_
 simp only[go_sem,hC,hE,hM,hY]
 refine dQ 1 1 (bd.ind (ι:=Nat×List Sm×Rd×Nat) (fun i=>Rd.wK m i.1 nest true i.2.1 i.2.2.1=some p∧i.2.2.2=i.2.1.length∧i.1≤n) (fun i=>i.1)
  (fun i=> [(0, .ptr 0 0),(1, .int .i64 nest),(2, .bool true),(8, .slice (.tok 0) 13 (i.2.1.map a8))]) (fun i=>⟨[cJ i.2.2.1],[some i.2.2.2]⟩) ?_ (n,[],r,0) ⟨h,rfl,Nat.le_refl _⟩)
 rintro⟨j,l,r,k⟩ ⟨h,hk,hj⟩ IH
 dsimp only at hk hj;subst hk
 cases j with
 |zero=>simp only[Rd.wK]at h;cases h
 |succ j=>
  have LB:=@yX j (by omega)
  simp only[Rd.wK]at h
  repeat' (first
 |simp only[go_sem,hC,hE,hM,hY,dR]
 |(rw[Option.bind_eq_some_iff]at h;obtain⟨_,h1,h⟩:=h;first|(with_reducible refine CU (Ly h1 (by with_unfolding_all rfl)) ?_)|(with_reducible refine CU (BL h1 (by with_unfolding_all rfl)) ?_;have hC:=is_lt h1)|(obtain⟨hM,pM⟩:=pb h1;subst pM;simp only[go_sem,hC,hE,hM,hY])|(with_reducible refine CU (LB h1 (by with_unfolding_all rfl)) ?_))
 |(with_reducible refine CU (kV (by with_unfolding_all rfl)) ?_)
 |(with_reducible first|refine aX fun hc=>?_|refine aY fun hc=>?_|refine aZ (fun hc=>?_) fun hc=>?_)<;>(try simp only[hc,bs,↓reduceIte]at h)<;>try simp only[hc]
 | (with_reducible refine aB hQ ?_;(try cases h);simp only [aQ,aR,bn,bo,go_sem,hC,hE,hM,hY,dR];try exact bR))
  ·refine eM 1 1 ?_ ?_ (IH (j,_,_,l.length+1) ⟨h,by simp,by dsimp only;omega⟩ (Nat.lt_succ_self _))
   ·(simp only[go_sem,hC,hE,hM,hY,dR];try exact cb)
   ·(simp only[go_sem,hC,hE,hM,hY,dR];try exact cb)
theorem Q9 {m n:Nat} (yX : ∀ j<n,B9 m j) {nest:Int} {r:Rd} {p:(List Sm×List aF)×Rd} (h:Rd.rows m (n+1) nest false r=some p) :
 az Tryz.prog gI [.ptr 0 0, .int .i64 nest, .bool false] ⟨[cJ r],[]⟩ (.tuple [.slice .shared 13 (p.1.1.map a8), .slice .shared 1 (p.1.2.map encStr)]) ⟨[cJ p.2],[]⟩:=by
 unfold Rd.rows at h
 refine az.go q5 rfl fun B Q hB hQ=>?_
 have⟨hC,hE,hM,hY⟩:=bC
 repeat' (first
 |simp only[go_sem,hC,hE,hM,hY]
 |(with_reducible first|refine aX fun hc=>?_|refine aY fun hc=>?_|refine aZ (fun hc=>?_) fun hc=>?_)<;>(try simp only[hc,bs,↓reduceIte]at h)<;>try simp only[hc]
 |(with_reducible refine aB hQ ?_;exact bg))
 refine bd.pY 8 13 rfl ?_
 simp only[go_sem,hC,hE,hM,hY]
 refine dQ 1 1 (bd.ind (ι:=Nat×List Sm×Rd×Nat) (fun i=>Rd.wK m i.1 nest false i.2.1 i.2.2.1=some p∧i.2.2.2=i.2.1.length∧i.1≤n) (fun i=>i.1)
  (fun i=> [(0, .ptr 0 0),(1, .int .i64 nest),(2, .bool false),(8, .slice (.tok 0) 13 (i.2.1.map a8))]) (fun i=>⟨[cJ i.2.2.1],[some i.2.2.2]⟩) ?_ (n,[],r,0) ⟨h,rfl,Nat.le_refl _⟩)
 rintro⟨j,l,r,k⟩ ⟨h,hk,hj⟩ IH
 dsimp only at hk hj;subst hk
 cases j with
 |zero=>simp only[Rd.wK]at h;cases h
 |succ j=>
  have LB:=@yX j (by omega)
  simp only[Rd.wK]at h
  repeat' (first
 |simp only[go_sem,hC,hE,hM,hY,dR]
 |(rw[Option.bind_eq_some_iff]at h;obtain⟨_,h1,h⟩:=h;first|(with_reducible refine CU (Ly h1 (by with_unfolding_all rfl)) ?_)|(with_reducible refine CU (BL h1 (by with_unfolding_all rfl)) ?_;have hC:=is_lt h1)|(obtain⟨hM,pM⟩:=pb h1;subst pM;simp only[go_sem,hC,hE,hM,hY])|(with_reducible refine CU (LB h1 (by with_unfolding_all rfl)) ?_))
 |(with_reducible refine CU (kV (by with_unfolding_all rfl)) ?_)
 |(with_reducible first|refine aX fun hc=>?_|refine aY fun hc=>?_|refine aZ (fun hc=>?_) fun hc=>?_)<;>(try simp only[hc,bs,↓reduceIte]at h)<;>try simp only[hc]
 | (with_reducible refine aB hQ ?_;(try cases h);simp only [aQ,aR,bn,bo,go_sem,hC,hE,hM,hY,dR];try exact bR))
  ·refine eM 1 1 ?_ ?_ (IH (j,_,_,l.length+1) ⟨h,by simp,by dsimp only;omega⟩ (Nat.lt_succ_self _))
   ·(simp only[go_sem,hC,hE,hM,hY,dR];try exact cb)
   ·(simp only[go_sem,hC,hE,hM,hY,dR];try exact cb)
  ·refine eM 1 1 ?_ ?_ (IH (j,_,_,l.length+1) ⟨h,by simp,by dsimp only;omega⟩ (Nat.lt_succ_self _))
   ·(simp only[go_sem,hC,hE,hM,hY,dR];try exact cb)
   ·(simp only[go_sem,hC,hE,hM,hY,dR];try exact cb)
theorem Uk {m n:Nat} (yX : ∀ j<n,B9 m j):Lz m (n+1):=by
 intro nest body r p h s o ho
 refine az.kN ?_ rfl (fJ r) (fJ p.2) (by simp[D.ok,D.bH,oK,eB,Tag.ok]) ho
 cases body
 ·exact Q9 yX h
 ·exact Uj yX h
theorem ae9 (m:Nat) : ∀ n,∀ k<n,Lz m k∧B9 m k∧CI m k∧Eg m k:=by
 intro n
 induction n with
 |zero=>intro k h;exact absurd h (Nat.not_lt_zero _)
 | succ n ih=>
  intro k hk
  cases k with
  |zero=>
   refine⟨?_, ?_, ?_, ?_⟩
   ·intro nest body r p h;simp only[Rd.rows]at h;cases h
   ·intro nest r p h;simp only[Rd.stmt]at h;cases h
   ·intro nest r p h;simp only[Rd.block]at h;cases h
   ·intro nest r p h;simp only[Rd.choice]at h;cases h
  |succ k=>
   obtain⟨h1,h2,h3,h4⟩:=ih k (by omega)
   exact⟨Uk fun j hj=>(ih j (by omega)).2.1,Ui h3 h4,Q8 h1,MS h3⟩
theorem LA {m n:Nat} {nest:Int} {body:Bool} {r:Rd} {p:(List Sm×List aF)×Rd} (h:Rd.rows m n nest body r=some p) {s:St} {o:Nat} (ho:s.ah[o]? = some (cJ r)) :
 az Tryz.prog gI [.ptr o 0, .int .i64 nest, .bool body] s (.tuple [.slice .shared 13 (p.1.1.map a8), .slice .shared 1 (p.1.2.map encStr)]) ⟨s.ah.set o (cJ p.2),s.aw⟩:=
 (ae9 m (n+1) n (Nat.lt_succ_self _)).1 h ho
set_option maxRecDepth 8000
open Go.Proofs
theorem xe {m:Nat} {B:e7} {Q:Exit→Tm→St→Prop} {row:List D} {name:aF} {p:Pc×Rd} (hB:B.s = ⟨[row],[]⟩) (hQ:iz 1 0 [(2,some (true,5))] (.agg (cH p.1)) ⟨[cJ p.2],[]⟩=Q)
 (ps:List Pm) (r:Rd) (h:Rd.IJ m name ps r=some p) :
 bd Tryz.prog B 56 ad0 (iD 2 (kK (gD Tryz.prog B 56 ad1 Q) Q)) [(0, .ptr 0 0),(2, .ptr 1 0),(3, .ptr 2 0)]
  ⟨[cJ r,[.str [], .slice .full 0 [], .slice .full 0 [], .slice .full 0 [], .slice .full 0 []],[.str name, .slice .shared 2 (ps.map gN), .slice .full 0 [], .slice .full 0 [], .slice .full 0 []]],[]⟩:=by
 have⟨hC,hE,hM,hY⟩:=bC
 unfold Rd.IJ at h
 rw[Option.bind_eq_some_iff]at h
 obtain⟨q,h,hr⟩:=h
 refine bd.pZ 2 2 1 rfl rfl ?_
 simp only[go_sem,hC,hE,hM,hY]
 refine dQ 3 1 (bd.ind (ι:=Nat×List aF×Rd×Nat) (fun i=>Rd.vars m i.1 i.2.1 i.2.2.1=some q∧i.2.2.2=i.2.1.length) (fun i=>i.1)
  (fun i=> [(0, .ptr 0 0),(2, .ptr 1 0),(3, .ptr 2 0)]) (fun i=>⟨[cJ i.2.2.1,[.str [], .slice .full 0 [], .slice .full 0 [], .slice .full 0 [], .slice .full 0 []],[.str name, .slice .shared 2 (ps.map gN), .slice (.tok 0) 1 (i.2.1.map encStr), .slice .full 0 [], .slice .full 0 []]],[some i.2.2.2]⟩) ?_ (m,[],r,0) ⟨h,rfl⟩)
 rintro⟨n,l,r,k⟩ ⟨h,hk⟩ IH
 dsimp only at hk;subst hk
 cases n with
 |zero=>simp only[Rd.vars]at h;cases h
 |succ n=>
  simp only[Rd.vars]at h
  repeat' (first
 |simp only[go_sem,hC,hE,hM,hY]
 |(rw[Option.bind_eq_some_iff]at h;obtain⟨_,h1,h⟩:=h;first|(with_reducible refine CU (tK h1 (by with_unfolding_all rfl)) ?_)|(with_reducible refine CU (NB h1 (by with_unfolding_all rfl) (by with_unfolding_all rfl)) ?_)|(with_reducible refine CU (LA h1 (by with_unfolding_all rfl)) ?_))
 |(with_reducible first|refine aX fun hc=>?_|refine aY fun hc=>?_|refine aZ (fun hc=>?_) fun hc=>?_)<;>(try simp only[hc,bs,↓reduceIte]at h)<;>try simp only[hc]
 |(with_reducible refine aB hQ ?_;exact ep)
 |(cases h;replace h:=hr;clear hr;(try simp only[bs,↓reduceIte]at h))
 |(cases h;done))
  refine dQ 3 1 (IH (n,_,_,_) ⟨h,rfl⟩ (Nat.lt_succ_self _))
theorem afa {m:Nat} {r:Rd} {p:Pc×Rd} (h:Rd.proc m r=some p) {s:St} {o:Nat} (ho:s.ah[o]? = some (cJ r)) :
 az Tryz.prog oy [.ptr o 0] s (.agg (cH p.1)) ⟨s.ah.set o (cJ p.2),s.aw⟩:=by
 refine az.kN ?_ rfl (fJ r) (fJ p.2) (by simp[D.ok,xr]) ho
 unfold Rd.proc Rd.other at h
 refine az.go yx rfl fun B Q hB hQ=>?_
 have⟨hC,hE,hM,hY⟩:=bC
 repeat' (first
 |simp only[go_sem,hC,hE,hM,hY]
 |(rw[Option.bind_eq_some_iff]at h;obtain⟨_,h1,h⟩:=h;first|(with_reducible refine CU (qn h1 (by with_unfolding_all rfl)) ?_)|(with_reducible refine CU (BL h1 (by with_unfolding_all rfl)) ?_)|(with_reducible refine CU (yN h1 (by with_unfolding_all rfl)) ?_))
 |(with_reducible refine CU (kV (by with_unfolding_all rfl)) ?_)
 |(with_reducible first|refine aX fun hc=>?_|refine aY fun hc=>?_|refine aZ (fun hc=>?_) fun hc=>?_)<;>(try simp only[hc,bs,↓reduceIte]at h)<;>try simp only[hc]
 |(with_reducible refine aB hQ ?_;exact bg))
 ·refine dQ 3 0 (xe hB hQ [] _ h)
 ·rename_i nm _ _ _ _ _
  rw[Option.bind_eq_some_iff]at h
  obtain⟨q,h,hr⟩:=h
  refine bd.pZ 2 1 2 rfl rfl ?_
  simp only[go_sem,hC,hE,hM,hY]
  refine dQ 3 1 (bd.ind (ι:=Nat×List Pm×Rd×Nat) (fun i=>Rd.params i.1 i.2.1 i.2.2.1=some q∧i.2.2.2=i.2.1.length) (fun i=>i.1)
   (fun i=> [(0, .ptr 0 0),(2, .ptr 1 0),(3, .ptr 2 0)]) (fun i=>⟨[cJ i.2.2.1,[.str [], .slice .full 0 [], .slice .full 0 [], .slice .full 0 [], .slice .full 0 []],[.str nm.1, .slice (.tok 0) 2 (i.2.1.map gN), .slice .full 0 [], .slice .full 0 [], .slice .full 0 []]],[some i.2.2.2]⟩) ?_ (m,[],_,0) ⟨h,rfl⟩)
  rintro⟨n,l,r,k⟩ ⟨h,hk⟩ IH
  dsimp only at hk;subst hk
  cases n with
  |zero=>simp only[Rd.params]at h;cases h
  |succ n=>
   simp only[Rd.params]at h
   repeat' (first
 |simp only[go_sem,hC,hE,hM,hY]
 |(rw[Option.bind_eq_some_iff]at h;obtain⟨_,h1,h⟩:=h;first|(with_reducible refine CU (tK h1 (by with_unfolding_all rfl)) ?_)|(with_reducible refine CU (yN h1 (by with_unfolding_all rfl)) ?_)|(obtain⟨hM,pM⟩:=pb h1;subst pM;simp only[go_sem,hC,hE,hM,hY])|(with_reducible refine CU (qn h1 (by with_unfolding_all rfl)) ?_))
 |(with_reducible refine CU (kV (by with_unfolding_all rfl)) ?_)
 |(with_reducible first|refine aX fun hc=>?_|refine aY fun hc=>?_|refine aZ (fun hc=>?_) fun hc=>?_)<;>(try simp only[hc,bs,↓reduceIte]at h)<;>try simp only[hc]
 |(with_reducible refine aB hQ ?_;exact ep)
 |(cases h;replace h:=hr;clear hr;(try simp only[bs,↓reduceIte]at h))
 | (cases h;done))
   ·refine dQ 3 1 (IH (n,_,_,l.length+1) ⟨h,by simp⟩ (Nat.lt_succ_self _))
   ·refine dQ 3 0 (xe hB hQ _ _ h)
   ·refine dQ 3 0 (xe hB hQ _ _ h)
 ·refine dQ 3 0 (xe hB hQ [] _ h)
theorem LC {m:Nat} {B:e7} {Q:Exit→Tm→St→Prop} {row:List D} {g:List aF} {p:Pg×Rd} (hB:B.s = ⟨[row],[]⟩) (hQ:iz 1 0 [(2,some (true,2))] (.agg (cR p.1)) ⟨[cJ p.2],[]⟩=Q)
 (r:Rd) {k:Nat} (h:((Rd.procs m k [] r).bind fun q=>some (⟨g,q.1⟩,q.2))=some p) :
 bd Tryz.prog B 49 adU (iD 2 (kK (gD Tryz.prog B 49 adV Q) Q)) [(0, .ptr 0 0),(2, .ptr 1 0),(3, .ptr 2 0)]
  ⟨[cJ r,[.slice .full 0 [], .slice .full 0 []],[.slice .shared 1 (g.map encStr), .slice .full 0 []]],[]⟩:=by
 have⟨hC,hE,hM,hY⟩:=bC
 rw[Option.bind_eq_some_iff]at h
 obtain⟨q,h,hr⟩:=h
 cases hr
 refine bd.pZ 2 1 5 rfl rfl ?_
 simp only[go_sem,hC,hE,hM,hY]
 refine dQ 3 1 (bd.ind (ι:=Nat×List Pc×Rd×Nat) (fun i=>Rd.procs m i.1 i.2.1 i.2.2.1=some q∧i.2.2.2=i.2.1.length) (fun i=>i.1)
  (fun i=> [(0, .ptr 0 0),(2, .ptr 1 0),(3, .ptr 2 0)]) (fun i=>⟨[cJ i.2.2.1,[.slice .full 0 [], .slice .full 0 []],[.slice .shared 1 (g.map encStr), .slice (.tok 0) 5 (i.2.1.map cH)]],[some i.2.2.2]⟩) ?_ (k,[],r,0) ⟨h,rfl⟩)
 rintro⟨n,l,r,k⟩ ⟨h,hk⟩ IH
 dsimp only at hk;subst hk
 cases n with
 |zero=>simp only[Rd.procs]at h;cases h
 |succ n=>
  simp only[Rd.procs,Rd.Tl,Rd.KA]at h
  repeat' (first
 |simp only[go_sem,hC,hE,hM,hY]
 |(rw[Option.bind_eq_some_iff]at h;obtain⟨_,h1,h⟩:=h;first|(with_reducible refine CU (BL h1 (by with_unfolding_all rfl)) ?_;have hC:=is_lt h1)|(with_reducible refine CU (E7 h1 (by with_unfolding_all rfl)) ?_)|(with_reducible refine CU (afa h1 (by with_unfolding_all rfl)) ?_)|(obtain⟨hM,pM⟩:=pb h1;subst pM;simp only[go_sem,hC,hE,hM,hY])|(with_reducible refine CU (pk h1 (by with_unfolding_all rfl)) ?_))
 |(with_reducible refine CU (kV (by with_unfolding_all rfl)) ?_)
 |(with_reducible first|refine aX fun hc=>?_|refine aY fun hc=>?_|refine aZ (fun hc=>?_) fun hc=>?_)<;>(try simp only[hc,bs,↓reduceIte]at h)<;>try simp only[hc]
 |(with_reducible refine aB hQ ?_;exact ep))
  ·refine dQ 3 1 (IH (n,_,_,l.length+1) ⟨h,by simp⟩ (Nat.lt_succ_self _))
set_option maxRecDepth 8000
open Go.Proofs
theorem Xo {c:UInt8} {r:aF} (h:pS c=true):0<rX (c::r):=by simp[rX,h]
theorem Ra {text:aF} (hl:text.length≤100000) {B:e7} {Q:Exit→Tm→St→Prop} {p:List fX×Int×Int} (hB:B.s=S0)
 (hQ:iz 0 0 [(2,none),(3,some (true,2))] (.tuple [.slice .shared 4 (p.1.map eN), .agg (p9 p.2)]) ⟨[],[]⟩=Q)
 {n pos:Nat} {out:List fX} (ho:out.length≤2000) (hp:pos≤text.length) (IH:s8 text B Q p (n+1))
 {c:UInt8} {r:aF} (h1:text.drop pos=c::r) (hb:AE c=false) (hc:((c.toNat:Int)==35)=false) (hL:rW c=false) (hD:pS c=true) (hn:(c::r).length<n+1) (h:nV (n+1) pos (c::r) out=p) :
 gD Tryz.prog B 152 vP (jZ Tryz.prog B 152 qN Q) (oP text out pos) (pI out):=by
 have hM:0<1:=Nat.zero_lt_one
 have hY:0<1:=Nat.zero_lt_one
 have hE:=(drop_cons h1).1
 have g4:=(drop_cons h1).2.2.2
 have hC:pos<4611686018427387904:=by omega
 have eH:decide ((pos:Int)≥(text.length:Int))=false:=by simp;omega
 have fL:(out.length+1)*41≤bu:=by simp only[bu];omega
 have cm:=KW (c::r)
 have rn:=Xo (r:=r) hD
 have tL:(c::r).length=text.length - pos:=by rw[← h1,List.length_drop]
 have DQ:=KX (c::r)
 simp only[nV,hb,Bool.false_eq_true,↓reduceIte,hc,QN,hL,hD]at h
 simp only[AE,Bool.or_eq_false_iff]at hb
 generalize hK:rX (c::r)=k at h cm rn DQ
 have hlen:((c::r).take k).length=k:=by rw[List.length_take];omega
 have qd:=fun s=>Ww DQ (by rw[hlen];omega) s
 simp only[hlen]at h
 have gb:((c::r).take k)[0]? = some c:=by rw[List.getElem?_take_of_lt rn];rfl
 have e2:(0:Int)≤(pos:Int)∧(pos:Int)≤((pos+k:Nat):Int)∧((pos+k:Nat):Int)≤(text.length:Int):=by omega
 have e3:(text.take (pos+k)).drop pos=(c::r).take k:=by rw[zM,h1]
 have fin:text.drop (pos+k)=(c::r).drop k:=by rw[← h1,List.drop_drop]
 have u2:((c::r).drop k).length<n:=by rw[List.length_drop];omega
 have jU:pos+k≤text.length:=by omega
 repeat' (first
 |simp only[go_sem,hC,hE,hM,hY,eH,hb.1.1.1,hb.1.1.2,hb.1.2,hb.2,hc,hL,hD]
 |(with_reducible refine CU (iG _ _) ?_)
 |(with_reducible refine CU (km _ _) ?_)
 |(with_reducible refine ct (l:=3) (by with_unfolding_all rfl) ?_)
 |(with_reducible refine aB hQ ?_;exact bg))
 refine dQ 2 1 (bd.ind (ι:=aF×Nat) (fun i=>text.drop i.2=i.1∧i.2+rX i.1=pos+k) (fun i=>i.1.length)
  (fun i=>oP text out i.2) (fun i=>⟨[[.int .i64 0, .int .i64 0],[.int .i64 0, .str [], .int .i64 0, .int .i64 (pos:Int)]],[some out.length]⟩) ?_ (c::r,pos) ⟨h1,by dsimp only;omega⟩)
 rintro⟨rest,j⟩ ⟨j1,j2⟩ IHl
 dsimp only at j1 j2
 have step : ∀ d qw,rest=d::qw→pS d=true→gD Tryz.prog B 152 Wt (kK (bd Tryz.prog B 152 Wt
  (iD 3 (kK (gD Tryz.prog B 152 Wu (jZ Tryz.prog B 152 qN Q)) (jZ Tryz.prog B 152 qN Q))))
  (iD 3 (kK (gD Tryz.prog B 152 Wu (jZ Tryz.prog B 152 qN Q)) (jZ Tryz.prog B 152 qN Q))))
  (oP text out j) ⟨[[.int .i64 0, .int .i64 0],[.int .i64 0, .str [], .int .i64 0, .int .i64 (pos:Int)]],[some out.length]⟩:=by
  rintro d qw rfl hd
  obtain⟨hE,g2,eH,g5⟩:=drop_cons j1
  have hC:j<4611686018427387904:=by omega
  simp only[rX,hd,↓reduceIte]at j2
  repeat' (first
 |simp only[go_sem,hC,hE,hM,hY,eH,hd]
 |(with_reducible refine CU (km _ _) ?_)
 |(with_reducible first|refine aX fun hc=>?_|refine aY fun hc=>?_|refine aZ (fun hc=>?_) fun hc=>?_)<;>(try simp only[hc,bs,↓reduceIte]at h)<;>try simp only[hc]
 |(with_reducible refine aB hQ ?_;(try cases h);simp only[aQ,aR,bn,bo,go_sem,hC,hE,hM,hY,eH,hd];try exact bR))
  refine dQ 2 1 (IHl (qw,j+1) ⟨g2,by dsimp only;omega⟩ (Nat.lt_succ_self _))
 cases rest with
 | nil=>
  have eH:=drop_nil j1
  simp only[rX,Nat.add_zero]at j2
  subst j2
  by_cases hz:k > 1∧(c.toNat:Int)=48
  ·have z1:decide ((k:Int) > 1)=true:=by simp;omega
   have z2:((c.toNat:Int)==48)=true:=by simp[hz.2]
   rw[if_pos hz]at h
   dsimp only at h
   repeat' (first
 |simp only[go_sem,hC,hE,hM,hY,eH,e2,e3,hlen,gb,z1,z2]
 |(with_reducible refine ct (l:=4) (by with_unfolding_all rfl) ?_)
 |(with_reducible refine ct (l:=5) (by with_unfolding_all rfl) ?_)
 |(with_reducible first|refine aX fun hc=>?_|refine aY fun hc=>?_|refine aZ (fun hc=>?_) fun hc=>?_)<;>(try simp only[hc,bs,↓reduceIte]at h)<;>try simp only[hc]
 | (with_reducible refine aB hQ ?_;(try cases h);simp only [aQ,aR,bn,bo,go_sem,hC,hE,hM,hY,eH,e2,e3,hlen,gb,z1,z2];try exact bR))
  ·have Fx:decide ((k:Int) > 1)=false∨(decide ((k:Int) > 1)=true∧((c.toNat:Int)==48)=false):=by
    by_cases h1:k > 1
    ·right;exact⟨by simp;omega,by simp;intro h2;exact hz ⟨h1,h2⟩⟩
    ·left;simp;omega
   rw[if_neg hz]at h
   cases hw:bW 0 ((c::r).take k)with
   |none=>
    have LD:po ((c::r).take k)=(0,false):=by simp only[po,hw]
    simp only[LD]at qd
    simp only[hw]at h
    rcases Fx with z1|⟨z1,z2⟩
    ·repeat' (first
 |simp only[go_sem,hC,hE,hM,hY,eH,e2,e3,hlen,gb,z1]
 |(with_reducible refine CU (qd _) ?_)
 |(with_reducible refine ct (l:=4) (by with_unfolding_all rfl) ?_)
 |(with_reducible refine ct (l:=5) (by with_unfolding_all rfl) ?_)
 |(with_reducible first|refine aX fun hc=>?_|refine aY fun hc=>?_|refine aZ (fun hc=>?_) fun hc=>?_)<;>(try simp only[hc,bs,↓reduceIte]at h)<;>try simp only[hc]
 | (with_reducible refine aB hQ ?_;(try cases h);simp only [aQ,aR,bn,bo,go_sem,hC,hE,hM,hY,eH,e2,e3,hlen,gb,z1];try exact bR))
    ·repeat' (first
 |simp only[go_sem,hC,hE,hM,hY,eH,e2,e3,hlen,gb,z1,z2]
 |(with_reducible refine CU (qd _) ?_)
 |(with_reducible refine ct (l:=4) (by with_unfolding_all rfl) ?_)
 |(with_reducible refine ct (l:=5) (by with_unfolding_all rfl) ?_)
 |(with_reducible first|refine aX fun hc=>?_|refine aY fun hc=>?_|refine aZ (fun hc=>?_) fun hc=>?_)<;>(try simp only[hc,bs,↓reduceIte]at h)<;>try simp only[hc]
 | (with_reducible refine aB hQ ?_;(try cases h);simp only [aQ,aR,bn,bo,go_sem,hC,hE,hM,hY,eH,e2,e3,hlen,gb,z1,z2];try exact bR))
   | some v=>
    have LD:po ((c::r).take k)=(v,true):=by simp only[po,hw]
    simp only[LD]at qd
    simp only[hw,hlen]at h
    by_cases sg:out.length=2000
    ·have kJ:((out.length:Int)==2000)=true:=by simp [sg]
     simp only[sg,↓reduceIte]at h
     rcases Fx with z1|⟨z1,z2⟩
     ·repeat' (first
 |simp only[go_sem,hC,hE,hM,hY,eH,e2,e3,hlen,gb,z1,kJ]
 |(with_reducible refine CU (qd _) ?_)
 |(with_reducible refine ct (l:=4) (by with_unfolding_all rfl) ?_)
 |(with_reducible refine ct (l:=5) (by with_unfolding_all rfl) ?_)
 |(with_reducible first|refine aX fun hc=>?_|refine aY fun hc=>?_|refine aZ (fun hc=>?_) fun hc=>?_)<;>(try simp only[hc,bs,↓reduceIte]at h)<;>try simp only[hc]
 |(with_reducible refine aB hQ ?_;(try cases h);simp only[aQ,aR,bn,bo,go_sem,hC,hE,hM,hY,eH,e2,e3,hlen,gb,z1,kJ];try exact bR))
     ·repeat' (first
 |simp only[go_sem,hC,hE,hM,hY,eH,e2,e3,hlen,gb,z1,z2,kJ]
 |(with_reducible refine CU (qd _) ?_)
 |(with_reducible refine ct (l:=4) (by with_unfolding_all rfl) ?_)
 |(with_reducible refine ct (l:=5) (by with_unfolding_all rfl) ?_)
 |(with_reducible first|refine aX fun hc=>?_|refine aY fun hc=>?_|refine aZ (fun hc=>?_) fun hc=>?_)<;>(try simp only[hc,bs,↓reduceIte]at h)<;>try simp only[hc]
 | (with_reducible refine aB hQ ?_;(try cases h);simp only [aQ,aR,bn,bo,go_sem,hC,hE,hM,hY,eH,e2,e3,hlen,gb,z1,z2,kJ];try exact bR))
    ·have kJ:((out.length:Int)==2000)=false:=by simp;omega
     have Dt : ∀ t:fX,(out++ [t]).length≤2000:=by intro t;simp;omega
     simp only[sg,↓reduceIte]at h
     rcases Fx with z1|⟨z1,z2⟩
     ·repeat' (first
 |simp only[go_sem,hC,hE,hM,hY,eH,e2,e3,hlen,gb,z1,kJ,fL]
 |(with_reducible refine CU (qd _) ?_)
 |(with_reducible refine ct (l:=4) (by with_unfolding_all rfl) ?_)
 |(with_reducible refine ct (l:=5) (by with_unfolding_all rfl) ?_)
 |(refine IH.to hB fin h u2 (Dt _) jU (Nat.lt_succ_self _) ?_ ?_ ?_<;>((try simp only[go_sem,hC,hE,hM,hY]);repeat' (first|exact Ok.out|with_reducible refine eL ?_ ?_|omega|(simp;done)));done)
 |(with_reducible first|refine aX fun hc=>?_|refine aY fun hc=>?_|refine aZ (fun hc=>?_) fun hc=>?_)<;>(try simp only[hc,bs,↓reduceIte]at h)<;>try simp only[hc]
 |(with_reducible refine aB hQ ?_;(try cases h);simp only[aQ,aR,bn,bo,go_sem,hC,hE,hM,hY,eH,e2,e3,hlen,gb,z1,kJ,fL];try exact bR))
     ·repeat' (first
 |simp only[go_sem,hC,hE,hM,hY,eH,e2,e3,hlen,gb,z1,z2,kJ,fL]
 |(with_reducible refine CU (qd _) ?_)
 |(with_reducible refine ct (l:=4) (by with_unfolding_all rfl) ?_)
 |(with_reducible refine ct (l:=5) (by with_unfolding_all rfl) ?_)
 |(refine IH.to hB fin h u2 (Dt _) jU (Nat.lt_succ_self _) ?_ ?_ ?_<;>((try simp only[go_sem,hC,hE,hM,hY]);repeat' (first|exact Ok.out|with_reducible refine eL ?_ ?_|omega|(simp;done)));done)
 |(with_reducible first|refine aX fun hc=>?_|refine aY fun hc=>?_|refine aZ (fun hc=>?_) fun hc=>?_)<;>(try simp only[hc,bs,↓reduceIte]at h)<;>try simp only[hc]
 |(with_reducible refine aB hQ ?_;(try cases h);simp only[aQ,aR,bn,bo,go_sem,hC,hE,hM,hY,eH,e2,e3,hlen,gb,z1,z2,kJ,fL];try exact bR))
 | cons d rest=>
  obtain⟨hE,g2,eH,g5⟩:=drop_cons j1
  have hC:j<4611686018427387904:=by omega
  cases hd:pS d
  ·simp only [rX,hd,Bool.false_eq_true, ↓reduceIte,Nat.add_zero]at j2
   subst j2
   by_cases hz:k > 1∧(c.toNat:Int)=48
   ·have z1:decide ((k:Int) > 1)=true:=by simp;omega
    have z2:((c.toNat:Int)==48)=true:=by simp[hz.2]
    rw[if_pos hz]at h
    dsimp only at h
    repeat' (first
 |simp only[go_sem,hC,hE,hM,hY,eH,hd,e2,e3,hlen,gb,z1,z2]
 |(with_reducible refine CU (km _ _) ?_)
 |(with_reducible refine ct (l:=4) (by with_unfolding_all rfl) ?_)
 |(with_reducible refine ct (l:=5) (by with_unfolding_all rfl) ?_)
 |(with_reducible first|refine aX fun hc=>?_|refine aY fun hc=>?_|refine aZ (fun hc=>?_) fun hc=>?_)<;>(try simp only[hc,bs,↓reduceIte]at h)<;>try simp only[hc]
 | (with_reducible refine aB hQ ?_;(try cases h);simp only [aQ,aR,bn,bo,go_sem,hC,hE,hM,hY,eH,hd,e2,e3,hlen,gb,z1,z2];try exact bR))
   ·have Fx:decide ((k:Int) > 1)=false∨(decide ((k:Int) > 1)=true∧((c.toNat:Int)==48)=false):=by
     by_cases h1:k > 1
     ·right;exact⟨by simp;omega,by simp;intro h2;exact hz ⟨h1,h2⟩⟩
     ·left;simp;omega
    rw[if_neg hz]at h
    cases hw:bW 0 ((c::r).take k)with
    |none=>
     have LD:po ((c::r).take k)=(0,false):=by simp only[po,hw]
     simp only[LD]at qd
     simp only[hw]at h
     rcases Fx with z1|⟨z1,z2⟩
     ·repeat' (first
 |simp only[go_sem,hC,hE,hM,hY,eH,hd,e2,e3,hlen,gb,z1]
 |(with_reducible refine CU (km _ _) ?_)
 |(with_reducible refine CU (qd _) ?_)
 |(with_reducible refine ct (l:=4) (by with_unfolding_all rfl) ?_)
 |(with_reducible refine ct (l:=5) (by with_unfolding_all rfl) ?_)
 |(with_reducible first|refine aX fun hc=>?_|refine aY fun hc=>?_|refine aZ (fun hc=>?_) fun hc=>?_)<;>(try simp only[hc,bs,↓reduceIte]at h)<;>try simp only[hc]
 |(with_reducible refine aB hQ ?_;(try cases h);simp only[aQ,aR,bn,bo,go_sem,hC,hE,hM,hY,eH,hd,e2,e3,hlen,gb,z1];try exact bR))
     ·repeat' (first
 |simp only[go_sem,hC,hE,hM,hY,eH,hd,e2,e3,hlen,gb,z1,z2]
 |(with_reducible refine CU (km _ _) ?_)
 |(with_reducible refine CU (qd _) ?_)
 |(with_reducible refine ct (l:=4) (by with_unfolding_all rfl) ?_)
 |(with_reducible refine ct (l:=5) (by with_unfolding_all rfl) ?_)
 |(with_reducible first|refine aX fun hc=>?_|refine aY fun hc=>?_|refine aZ (fun hc=>?_) fun hc=>?_)<;>(try simp only[hc,bs,↓reduceIte]at h)<;>try simp only[hc]
 | (with_reducible refine aB hQ ?_;(try cases h);simp only [aQ,aR,bn,bo,go_sem,hC,hE,hM,hY,eH,hd,e2,e3,hlen,gb,z1,z2];try exact bR))
    | some v=>
     have LD:po ((c::r).take k)=(v,true):=by simp only[po,hw]
     simp only[LD]at qd
     simp only[hw,hlen]at h
     by_cases sg:out.length=2000
     ·have kJ:((out.length:Int)==2000)=true:=by simp [sg]
      simp only[sg,↓reduceIte]at h
      rcases Fx with z1|⟨z1,z2⟩
      ·repeat' (first
 |simp only[go_sem,hC,hE,hM,hY,eH,hd,e2,e3,hlen,gb,z1,kJ]
 |(with_reducible refine CU (km _ _) ?_)
 |(with_reducible refine CU (qd _) ?_)
 |(with_reducible refine ct (l:=4) (by with_unfolding_all rfl) ?_)
 |(with_reducible refine ct (l:=5) (by with_unfolding_all rfl) ?_)
 |(with_reducible first|refine aX fun hc=>?_|refine aY fun hc=>?_|refine aZ (fun hc=>?_) fun hc=>?_)<;>(try simp only[hc,bs,↓reduceIte]at h)<;>try simp only[hc]
 |(with_reducible refine aB hQ ?_;(try cases h);simp only[aQ,aR,bn,bo,go_sem,hC,hE,hM,hY,eH,hd,e2,e3,hlen,gb,z1,kJ];try exact bR))
      ·repeat' (first
 |simp only[go_sem,hC,hE,hM,hY,eH,hd,e2,e3,hlen,gb,z1,z2,kJ]
 |(with_reducible refine CU (km _ _) ?_)
 |(with_reducible refine CU (qd _) ?_)
 |(with_reducible refine ct (l:=4) (by with_unfolding_all rfl) ?_)
 |(with_reducible refine ct (l:=5) (by with_unfolding_all rfl) ?_)
 |(with_reducible first|refine aX fun hc=>?_|refine aY fun hc=>?_|refine aZ (fun hc=>?_) fun hc=>?_)<;>(try simp only[hc,bs,↓reduceIte]at h)<;>try simp only[hc]
 |(with_reducible refine aB hQ ?_;(try cases h);simp only[aQ,aR,bn,bo,go_sem,hC,hE,hM,hY,eH,hd,e2,e3,hlen,gb,z1,z2,kJ];try exact bR))
     ·have kJ:((out.length:Int)==2000)=false:=by simp;omega
      have Dt : ∀ t:fX,(out++ [t]).length≤2000:=by intro t;simp;omega
      simp only[sg,↓reduceIte]at h
      rcases Fx with z1|⟨z1,z2⟩
      ·repeat' (first
 |simp only[go_sem,hC,hE,hM,hY,eH,hd,e2,e3,hlen,gb,z1,kJ,fL]
 |(with_reducible refine CU (km _ _) ?_)
 |(with_reducible refine CU (qd _) ?_)
 |(with_reducible refine ct (l:=4) (by with_unfolding_all rfl) ?_)
 |(with_reducible refine ct (l:=5) (by with_unfolding_all rfl) ?_)
 |(refine IH.to hB fin h u2 (Dt _) jU (Nat.lt_succ_self _) ?_ ?_ ?_<;>((try simp only[go_sem,hC,hE,hM,hY]);repeat' (first|exact Ok.out|with_reducible refine eL ?_ ?_|omega|(simp;done)));done)
 |(with_reducible first|refine aX fun hc=>?_|refine aY fun hc=>?_|refine aZ (fun hc=>?_) fun hc=>?_)<;>(try simp only[hc,bs,↓reduceIte]at h)<;>try simp only[hc]
 |(with_reducible refine aB hQ ?_;(try cases h);simp only[aQ,aR,bn,bo,go_sem,hC,hE,hM,hY,eH,hd,e2,e3,hlen,gb,z1,kJ,fL];try exact bR))
      ·repeat' (first
 |simp only[go_sem,hC,hE,hM,hY,eH,hd,e2,e3,hlen,gb,z1,z2,kJ,fL]
 |(with_reducible refine CU (km _ _) ?_)
 |(with_reducible refine CU (qd _) ?_)
 |(with_reducible refine ct (l:=4) (by with_unfolding_all rfl) ?_)
 |(with_reducible refine ct (l:=5) (by with_unfolding_all rfl) ?_)
 |(refine IH.to hB fin h u2 (Dt _) jU (Nat.lt_succ_self _) ?_ ?_ ?_<;>((try simp only[go_sem,hC,hE,hM,hY]);repeat' (first|exact Ok.out|with_reducible refine eL ?_ ?_|omega|(simp;done)));done)
 |(with_reducible refine aB hQ ?_;exact bg))
  ·exact step d rest rfl hd
theorem NC {text:aF} (hl:text.length≤100000) {B:e7} {Q:Exit→Tm→St→Prop} {p:List fX×Int×Int} (hB:B.s=S0)
 (hQ:iz 0 0 [(2,none),(3,some (true,2))] (.tuple [.slice .shared 4 (p.1.map eN), .agg (p9 p.2)]) ⟨[],[]⟩=Q)
 {n pos:Nat} {out:List fX} (ho:out.length≤2000) (hp:pos≤text.length) (IH:s8 text B Q p (n+1)) {rest:aF} (h1:text.drop pos=rest) (h:nV (n+1) pos rest out=p) (hn:rest.length<n+1) :
 gD Tryz.prog B 152 vP (jZ Tryz.prog B 152 qN Q) (oP text out pos) (pI out):=by
 cases rest with
 |nil=>exact lex_nil hl hB hQ ho hp IH h1 h
 | cons c r=>
  cases hb:AE c
  ·cases hc:((c.toNat:Int)==35)
   ·cases hL:rW c
    ·cases hD:pS c
     ·exact Wy hl hB hQ ho hp IH h1 hb hc hL hD hn h
     ·exact Ra hl hB hQ ho hp IH h1 hb hc hL hD hn h
    ·exact Wz hl hB hQ ho hp IH h1 hb hc hL hn h
   ·exact QO hl hB hQ ho hp IH h1 hb hc hn h
  ·exact Ts hl hB hQ ho hp IH h1 hb hn h
theorem afb {text:aF} (hl:text.length≤100000) {B:e7} {Q:Exit→Tm→St→Prop} {p:List fX×Int×Int} (hB:B.s=S0)
 (hQ:iz 0 0 [(2,none),(3,some (true,2))] (.tuple [.slice .shared 4 (p.1.map eN), .agg (p9 p.2)]) ⟨[],[]⟩=Q) : ∀ N,s8 text B Q p N:=by
 intro N
 induction N with
 |zero=>intro n pos rest out _ _ _ _ _ h;exact absurd h (Nat.not_lt_zero _)
 | succ N ih=>
  intro n pos rest out h1 h h2 h3 h4 h5
  cases n with
  |zero=>omega
  |succ n=>
   refine iZ.kv ?_
   show gD Tryz.prog B 152 vP (jZ Tryz.prog B 152 qN Q) (oP text out pos) (pI out)
   exact NC hl hB hQ h3 h4 (fun n' pos' qw cQ a b c d e f=>ih n' pos' qw cQ a b c d e (by omega)) h1 h h2
theorem aia (text:aF) (hl:text.length<4611686018427387904) (s:St) :
 az Tryz.prog By [.str text] s (.tuple [.slice .shared 4 ((pj text).1.map eN), .agg (p9 (pj text).2)]) s:=by
 refine az.pure ?_ rfl (by simp[D.ok,D.bH,Ku,Tag.ok,p9]) s
 generalize h:pj text=p
 unfold pj at h
 unfold S0
 refine az.go MI rfl fun B Q hB hQ=>?_
 have⟨hC,hE,hM,hY⟩:=bC
 repeat' (first
 |simp only[go_sem,hC,hE,hM,hY]
 |(with_reducible first|refine aX fun hc=>?_|refine aY fun hc=>?_|refine aZ (fun hc=>?_) fun hc=>?_)<;>(try simp only[hc,bs,↓reduceIte]at h)<;>try simp only[hc]
 |(with_reducible refine aB hQ ?_;exact ep))
 refine iZ.once (Sem.iN ?_)
 simp only[go_sem,hC,hE,hM,hY]
 refine Sem.iN ?_
 simp only[go_sem,hC,hE,hM,hY]
 refine Sem.iN ?_
 simp only[go_sem,hC,hE,hM,hY]
 refine Sem.iN ?_
 by_cases hz:text.length > 100000
 ·have od:decide ((text.length:Int) > 100000)=true:=by simp;omega
  rw[if_pos hz]at h
  repeat' (first
 |simp only[go_sem,hC,hE,hM,hY,od]
 |(with_reducible first|refine aX fun hc=>?_|refine aY fun hc=>?_|refine aZ (fun hc=>?_) fun hc=>?_)<;>(try simp only[hc,bs,↓reduceIte]at h)<;>try simp only[hc]
 |(with_reducible refine aB hQ ?_;(try cases h);simp only[aQ,aR,bn,bo,go_sem,hC,hE,hM,hY,od];try exact bR))
 ·have od:decide ((text.length:Int) > 100000)=false:=by simp;omega
  rw[if_neg hz]at h
  have mD:text.length≤100000:=by omega
  have hQ':iz 0 0 [(2,none),(3,some (true,2))] (.tuple [.slice .shared 4 (p.1.map eN), .agg (p9 p.2)]) ⟨[],[]⟩=Q:=hQ
  repeat' (first
 |simp only[go_sem,hC,hE,hM,hY,od]
 |(with_reducible refine aB hQ ?_;exact bg))
  refine Sem.iN ?_
  simp only[go_sem,hC,hE,hM,hY]
  refine Sem.pY 4 4 rfl ?_
  simp only[go_sem,hC,hE,hM,hY]
  refine Sem.re _ _ 2 1 (by rw[hB];exact mH rfl) (by rw[hB];exact mH rfl) ?_ ?_ (gE (NC mD hB hQ' (out:= []) (pos:=0) (by simp) (Nat.zero_le _) (afb mD hB hQ' _) rfl h (by simp)))
  ·(simp only[go_sem,hC,hE,hM,hY];repeat' (first|exact Ok.out|with_reducible refine eL ?_ ?_))
  ·(simp only[go_sem,hC,hE,hM,hY];repeat' (first|exact Ok.out|with_reducible refine eL ?_ ?_))
def Zz (l:List fX):Rd:=⟨l,0,0,0,0⟩
def Fy (m:Nat) (text:aF):Option (Pg×Int×Int):=
 if(pj text).2.1 != 0 then some (Yw,(pj text).2)
 else(Rd.program m (Zz (pj text).1)).bind fun p=>if p.2.code != 0 then some (Yw,p.2.code,p.2.Kw)else(p.1.Ge).bind fun q=>some (q,0,0)
def az8 (m:Nat) (text:aF):Option (Ex×Int×Int):=
 if(pj text).2.1 != 0 then some (qg,(pj text).2)
 else(Rd.whole m (Zz (pj text).1)).bind fun x=>x.2.KA.bind fun b=>
  if b then(x.2.bad 3).bind fun r=>if !r.good then some (qg,r.code,r.Kw)else some (x.1,0,0)
  else if !x.2.good then some (qg,x.2.code,x.2.Kw)else some (x.1,0,0)
set_option maxRecDepth 8000
open Go.Proofs
theorem Ul {m:Nat} {r:Rd} {p:Pg×Rd} (h:Rd.program m r=some p) {s:St} {o:Nat} (ho:s.ah[o]? = some (cJ r)) :
 az Tryz.prog mw [.ptr o 0] s (.agg (cR p.1)) ⟨s.ah.set o (cJ p.2),s.aw⟩:=by
 refine az.kN ?_ rfl (fJ r) (fJ p.2) (by simp[D.ok,jX]) ho
 unfold Rd.program at h
 refine az.go vQ rfl fun B Q hB hQ=>?_
 have⟨hC,hE,hM,hY⟩:=bC
 repeat' (first
 |simp only[go_sem,hC,hE,hM,hY]
 |(with_reducible refine aB hQ ?_;exact bg))
 rw[Option.bind_eq_some_iff]at h
 obtain⟨q,h,hr⟩:=h
 refine bd.pZ 2 0 1 rfl rfl ?_
 simp only[go_sem,hC,hE,hM,hY]
 refine dQ 3 1 (bd.ind (ι:=Nat×List aF×Rd×Nat) (fun i=>Rd.globals m i.1 i.2.1 i.2.2.1=some q∧i.2.2.2=i.2.1.length) (fun i=>i.1)
  (fun i=> [(0, .ptr 0 0),(2, .ptr 1 0),(3, .ptr 2 0)]) (fun i=>⟨[cJ i.2.2.1,[.slice .full 0 [], .slice .full 0 []],[.slice (.tok 0) 1 (i.2.1.map encStr), .slice .full 0 []]],[some i.2.2.2]⟩) ?_ (m,[],r,0) ⟨h,rfl⟩)
 rintro⟨n,l,r,k⟩ ⟨h,hk⟩ IH
 dsimp only at hk;subst hk
 cases n with
 |zero=>simp only[Rd.globals]at h;cases h
 |succ n=>
  simp only[Rd.globals]at h
  repeat' (first
 |simp only[go_sem,hC,hE,hM,hY]
 |(rw[Option.bind_eq_some_iff]at h;obtain⟨_,h1,h⟩:=h;first|(with_reducible refine CU (tK h1 (by with_unfolding_all rfl)) ?_)|(with_reducible refine CU (NB h1 (by with_unfolding_all rfl) (by with_unfolding_all rfl)) ?_))
 |(with_reducible first|refine aX fun hc=>?_|refine aY fun hc=>?_|refine aZ (fun hc=>?_) fun hc=>?_)<;>(try simp only[hc,bs,↓reduceIte]at h)<;>try simp only[hc]
 |(with_reducible refine aB hQ ?_;exact ep)
 |(cases h;replace h:=hr;clear hr;(try simp only[bs,↓reduceIte]at h))
 |(cases h;done))
  ·refine dQ 3 1 (IH (n,_,_,_) ⟨h,rfl⟩ (Nat.lt_succ_self _))
  ·refine dQ 3 0 (LC hB hQ _ h)
theorem abh {m:Nat} {text:aF} {p:Pg×Int×Int} (h:Fy m text=some p) (hl:text.length<4611686018427387904) (s:St) :
 az Tryz.prog ug [.str text] s (.tuple [.agg (cR p.1), .agg (p9 p.2)]) s:=by
 refine az.pure ?_ rfl (by simp[D.ok,D.bH,jX,p9]) s
 unfold Fy at h
 have afc:=aia text hl
 generalize pj text=t at h afc
 unfold S0
 refine az.go EX rfl fun B Q hB hQ=>?_
 have⟨hC,hE,hM,hY⟩:=bC
 repeat' (first
 |simp only[go_sem,hC,hE,hM,hY,Zz]
 |(rw[Option.bind_eq_some_iff]at h;obtain⟨_,h1,h⟩:=h;first|(with_reducible refine CU (Ul h1 (by with_unfolding_all rfl)) ?_)|(with_reducible refine CU (W3 h1 _) ?_))
 |(with_reducible refine CU (afc _) ?_)
 |(with_reducible first|refine aX fun hc=>?_|refine aY fun hc=>?_|refine aZ (fun hc=>?_) fun hc=>?_)<;>(try simp only[hc,bs,↓reduceIte]at h)<;>try simp only[hc]
 |(with_reducible refine aB hQ ?_;(try cases h);simp only[aQ,aR,bn,bo,go_sem,hC,hE,hM,hY,Zz];try exact bR))
set_option maxRecDepth 8000
open Go.Proofs
def xQ (n k:Int):Int:=if Int.tmod n k<0 then Int.tmod n k+k else Int.tmod n k
theorem abi (n:Int) {k:Int} (hk:1≤k):0≤xQ n k∧xQ n k<k:=by
 unfold xQ
 have h1:=Int.tmod_lt_of_pos n (by omega:0<k)
 have h2:=Int.lt_tmod_of_pos n (by omega:0<k)
 split<;>omega
theorem aib (n:Int) {k:Int} (hk:1≤k) (cm:k<1000000) (s:St):az Tryz.prog zv [.int .i64 n, .int .i64 k] s (.int .i64 (xQ n k)) s:=by
 refine az.pure ?_ rfl rfl s
 have h1:=Int.tmod_lt_of_pos n (by omega:0<k)
 have h2:=Int.lt_tmod_of_pos n (by omega:0<k)
 have c1:decide (k<1)=false:=by simp;omega
 have w1:IntKind.wrap .i64 (Int.tmod n k)=Int.tmod n k:=dN (by omega) (by omega)
 have w2:IntKind.wrap .i64 (Int.tmod n k+k)=Int.tmod n k+k:=dN (by omega) (by omega)
 have k0:(k=0)=False:=by simp;omega
 unfold S0
 by_cases hm:Int.tmod n k<0
 ·have c2:decide (Int.tmod n k<0)=true:=by simp;omega
  rw[show xQ n k=Int.tmod n k+k from if_pos hm]
  refine az.go BH rfl fun B Q hB hQ=>?_
  have⟨hC,hE,hM,hY⟩:=bC
  repeat' (first
 |simp only[go_sem,hC,hE,hM,hY,c1,c2,w1,w2,k0]
 |(with_reducible refine aB hQ ?_;exact bg))
 ·have c2:decide (Int.tmod n k<0)=false:=by simp;omega
  rw[show xQ n k=Int.tmod n k from if_neg hm]
  refine az.go BH rfl fun B Q hB hQ=>?_
  have⟨hC,hE,hM,hY⟩:=bC
  repeat' (first
 |simp only[go_sem,hC,hE,hM,hY,c1,c2,w1,w2,k0]
 |(with_reducible refine aB hQ ?_;exact bg))
def aic (t:aF):Nat→aF
 | 0=> []
 |n+1=>aic t n++t
def two (i:Nat):aF:= [UInt8.ofNat (48+i / 10),UInt8.ofNat (48+i % 10)]
def afd (ahead:aF):Nat→aF
 | 0=> []
 |n+1=>(if n=0 then afd ahead n else afd ahead n++ [44])++(ahead++ [97]++two n)
def afe:Nat→aF
 | 0=> []
 |n+1=>afe n++([112,114,111,99,32,112]++two n++ [40,41,123,125])
set_option maxRecDepth 8000
open Go.Proofs
def Xp (k:Int):List It→List Int
 | []=> []
 |i::l=>if k==0 ||i.s.kind==k then i.s.id::Xp k l else Xp k l
def az9 (l:List Int) (n:Int):Int:=match l[(xQ n l.length).toNat]? with|some x=>x|none=>0
def ZA (id:Int):List It→Option It
 | []=>none
 |i::l=>if i.s.id==id then some i else ZA id l
def ZB (id:Int):List Pc→Option (It×aF)
 | []=>none
 |f::l=>match ZA id f.flat with|some i=>some (i,f.name)|none=>ZB id l
def it0:It:=⟨Hn,0,0,false⟩
def as3 (r:Option (It×aF)):D:=match r with
 |some (i,nm)=> .tuple [.agg (j8 i), .str nm, .bool true]
 |none=> .tuple [.agg (j8 it0), .str [], .bool false]
def Pg.aAa (p:Pg) (id:Int):Sm:=match ZB id p.procs with|some (i,_)=>i.s|none=>Hn
set_option maxRecDepth 8000
open Go.Proofs
def v8 (t:aF) (n:Int):Int:=if n > 20000 then 20001 else if(t.length:Int)≥20000 - n then 20001 else n+1+t.length
mutual
def LF:Ex→Int→Int
 |⟨_,_,name,kids⟩,n=>ND kids (v8 name n)
def ND:List Ex→Int→Int
 | [],n=>n
 |x::l,n=>if n≤20000 then ND l (LF x n)else n
end
set_option maxRecDepth 8000
open Go.Proofs
def yY:List aF→Int→Int
 | [],n=>n
 |t::l,n=>if n≤20000 then yY l (v8 t n)else n
def NF:List Ar→Int→Int
 | [],n=>n
 |a::l,n=>if n≤20000 then NF l (v8 a.name (LF a.x n))else n
def NG:List Pm→Int→Int
 | [],n=>n
 |a::l,n=>if n≤20000 then NG l (v8 a.name n)else n
mutual
def aff:Sm→Int→Int
 |⟨_,_,labels,name,proc,x,_,args,bm,bc⟩,n=>CJ bc (CJ bm (NF args (v8 proc (v8 name (yY labels (LF x n))))))
def CJ:List Sm→Int→Int
 | [],n=>n
 |s::l,n=>if n≤20000 then CJ l (aff s n)else n
end
def afg (f:Pc) (n:Int):Int:=CJ f.body (NG f.params (yY f.fin (yY f.vars (v8 f.name n))))
def NH:List Pc→Int→Int
 | [],n=>n
 |f::l,n=>if n≤20000 then NH l (afg f n)else n
def Pg.aAb (p:Pg):Int:=NH p.procs (yY p.globals 0)
def afh:List aF→List aF→Bool
 | [],_=>true
 |_::_,[]=>true
 |x::l,y::l'=>if !(x==y)then false else afh l l'
def ZC (l l':List aF):Bool:=if(l.length:Int) != (l'.length:Int)then false else afh l l'
def Ar.p7:List Ar→List Ar→Bool
 | [],_=>true
 |_::_,[]=>true
 |a::l,b::l'=>if !(a.ref==b.ref) || !(a.name==b.name) || !(Ex.beq a.x b.x)then false else Ar.p7 l l'
mutual
def Sm.beq:Sm→Sm→Bool
 |⟨id,kind,labels,name,proc,x,has,args,bm,bc⟩,⟨id',aid,abj,Qk,u9,x',as4,EJ,afi,afj⟩=>
  if id != id' ||kind != aid || !(name==Qk) || !(proc==u9) || !(has==as4) || !(ZC labels abj) || !(Ex.beq x x') ||(args.length:Int) != (EJ.length:Int)then false
  else if !(Ar.p7 args EJ)then false
  else if(if(bm.length:Int) != (afi.length:Int)then false else Sm.p7 bm afi)then(if(bc.length:Int) != (afj.length:Int)then false else Sm.p7 bc afj)else false
def Sm.p7:List Sm→List Sm→Bool
 | [],_=>true
 |_::_,[]=>true
 |s::l,t::l'=>if !(Sm.beq s t)then false else Sm.p7 l l'
end
def Sm.afk (l l':List Sm):Bool:=if(l.length:Int) != (l'.length:Int)then false else Sm.p7 l l'
def Pm.p7:List Pm→List Pm→Bool
 | [],_=>true
 |_::_,[]=>true
 |a::l,b::l'=>if !((a.name==b.name) && (a.ref==b.ref))then false else Pm.p7 l l'
def Pc.p7:List Pc→List Pc→Bool
 | [],_=>true
 |_::_,[]=>true
 |f::l,g::l'=>
  if !(f.name==g.name) ||(f.params.length:Int) != (g.params.length:Int) || !(ZC f.vars g.vars) || !(ZC f.fin g.fin) || !(Sm.afk f.body g.body)then false
  else if !(Pm.p7 f.params g.params)then false else Pc.p7 l l'
def Pg.beq (p q:Pg):Bool:=if !(ZC p.globals q.globals) ||(p.procs.length:Int) != (q.procs.length:Int)then false else Pc.p7 p.procs q.procs
set_option maxRecDepth 8000
open Go.Proofs
abbrev atr (N:Nat):Prop:=∀ s t:Sm,s.size<N→∀ st:St,az Tryz.prog KB [.agg (a8 s), .agg (a8 t)] st (.bool (Sm.beq s t)) st
abbrev aAc (N:Nat):Prop:=∀ l l':List Sm,Sm.br l<N→∀ st:St,az Tryz.prog Gf [.slice .shared 13 (l.map a8), .slice .shared 13 (l'.map a8)] st (.bool (Sm.afk l l')) st
set_option maxRecDepth 8000
open Go.Proofs
def CK (n:Int):Ex:=⟨1,n,[],[]⟩
def sa (s:aF):Ex:=⟨2,0,s,[]⟩
def Fz (op:Int) (a b:Ex):Ex:=⟨op,0,[],[a,b]⟩
theorem aie (n:Int) (s:St):az Tryz.prog rJ [.int .i64 n] s (.agg (bI (CK n))) s:=by
 refine az.pure ?_ rfl (by simp[D.ok,gT]) s
 unfold S0
 refine az.go KK rfl fun B Q hB hQ=>?_
 have⟨hC,hE,hM,hY⟩:=bC
 repeat' (first
 |simp only[go_sem,hC,hE,hM,hY,CK]
 |(with_reducible first|refine aX fun hc=>?_|refine aY fun hc=>?_|refine aZ (fun hc=>?_) fun hc=>?_)<;>(try simp only[hc,bs,↓reduceIte]at h)<;>try simp only[hc]
 |(with_reducible refine aB hQ ?_;simp only[aQ,aR,bn,bo,go_sem,hC,hE,hM,hY,CK];try exact bR))
theorem Rb (t:aF) (s:St):az Tryz.prog lg [.str t] s (.agg (bI (sa t))) s:=by
 refine az.pure ?_ rfl (by simp[D.ok,gT]) s
 unfold S0
 refine az.go Ij rfl fun B Q hB hQ=>?_
 have⟨hC,hE,hM,hY⟩:=bC
 repeat' (first
 |simp only[go_sem,hC,hE,hM,hY,sa]
 |(with_reducible first|refine aX fun hc=>?_|refine aY fun hc=>?_|refine aZ (fun hc=>?_) fun hc=>?_)<;>(try simp only[hc,bs,↓reduceIte]at h)<;>try simp only[hc]
 |(with_reducible refine aB hQ ?_;simp only[aQ,aR,bn,bo,go_sem,hC,hE,hM,hY,sa];try exact bR))
theorem Um (op:Int) (a b:Ex) (s:St):az Tryz.prog uV [.int .i64 op, .agg (bI a), .agg (bI b)] s (.agg (bI (Fz op a b))) s:=by
 refine az.pure ?_ (by simp[D.bH,D.ok,gT]) (by simp[D.ok,gT]) s
 unfold S0
 refine az.go KM rfl fun B Q hB hQ=>?_
 have⟨hC,hE,hM,hY⟩:=bC
 repeat' (first
 |simp only[go_sem,hC,hE,hM,hY,Fz]
 |(with_reducible first|refine aX fun hc=>?_|refine aY fun hc=>?_|refine aZ (fun hc=>?_) fun hc=>?_)<;>(try simp only[hc,bs,↓reduceIte]at h)<;>try simp only[hc]
 |(with_reducible refine aB hQ ?_;simp only[aQ,aR,bn,bo,go_sem,hC,hE,hM,hY,Fz];try exact bR))
def source:aF:= [103,108,111,98,97,108,32,103,59,10,112,114,111,99,32,109,97,105,110,40,41,32,123,10,32,118,97,114,32,118,59,10,32,118,32,61,32,50,59,10,32,103,32,61,32,112,40,51,44,32,114,101,102,32,118,41,59,10,32,112,114,105,110,116,32,118,59,10,32,112,114,105,110,116,32,103,59,10,125,10,112,114,111,99,32,112,40,120,44,32,114,101,102,32,121,41,32,123,10,32,121,32,61,32,121,32,43,32,120,59,10,32,105,102,32,40,121,32,62,32,57,41,32,123,10,32,32,103,111,116,111,32,101,59,10,32,125,10,32,114,101,116,117,114,110,32,121,59,10,101,58,32,125,10]
def sb:Pg:=⟨[[103]],[
 ⟨[109,97,105,110],[],[[118]],[
  ⟨1,1,[],[118],[],CK 2,false,[],[],[]⟩,
  ⟨2,4,[],[103],[112],qg,false,[⟨false,[],CK 3⟩,⟨true,[118],qg⟩],[],[]⟩,
  ⟨3,3,[],[],[],sa [118],false,[],[],[]⟩,
  ⟨4,3,[],[],[],sa [103],false,[],[],[]⟩],[]⟩,
 ⟨[112],[⟨[120],false⟩,⟨[121],true⟩],[],[
  ⟨5,1,[],[121],[],Fz 8 (sa [121]) (sa [120]),false,[],[],[]⟩,
  ⟨6,5,[],[],[],Fz 12 (sa [121]) (CK 9),false,[],[⟨7,10,[],[101],[],qg,false,[],[],[]⟩],[]⟩,
  ⟨8,9,[],[],[],sa [121],true,[],[],[]⟩],[[101]]⟩]⟩
theorem afl (s:St):az Tryz.prog xw [] s (.agg (cR sb)) s:=by
 refine az.pure ?_ rfl (by simp[D.ok,jX]) s
 unfold S0
 refine az.go Ig rfl fun B Q hB hQ=>?_
 have⟨hC,hE,hM,hY⟩:=bC
 repeat' (first
 |simp only[go_sem,hC,hE,hM,hY,sb]
 |(with_reducible refine CU (aie _ _) ?_)
 |(with_reducible refine CU (Rb _ _) ?_)
 |(with_reducible refine CU (Um _ _ _ _) ?_)
 |(with_reducible refine aB hQ ?_;simp only[aQ,aR,bn,bo,go_sem,hC,hE,hM,hY];repeat' (first|exact Ok.out|with_reducible refine eL ?_ ?_|(simp;done))))
 repeat' (first|exact Ok.out|with_reducible refine Wk.agg ?_|with_reducible refine Wk.rows ?_|with_reducible refine Wk.slice ?_|with_reducible refine gx.cons ?_ ?_|with_reducible refine ju.cons ?_ ?_)
open Go.Proofs
def Pg.azF (p:Pg) (n:Int):aF:=match p.procs[(xQ n p.procs.length).toNat]? with|some f=>f.name|none=> []
open Go.Proofs
theorem Xq {p:Pg} (h:(p.arity.1==0)=true) (h2:(p.alias.1==0)=true) : ∀ v∈p.pre,(v.kind==4)=true→v.yW p=true:=by
 unfold Pg.alias at h2
 rw[if_pos h]at h2
 intro v hv hk
 have : ∀ l:List Sm,((qq 8 (Lw p l)).1==0)=true→∀ v∈l,(v.kind==4)=true→v.yW p=true:=by
  intro l
  induction l with
  |nil=>intro _ v m;cases m
  | cons a l ih=>
   intro h v m hk
   simp only[Lw]at h
   split at h
   ·cases h
   ·rename_i c
    rcases List.mem_cons.1 m with rfl|m
    ·simpa[hk]using c
    ·exact ih h v m hk
 exact this _ h2 v hv hk
section
variable {a b:aF}
end
section
variable {a b:aF} (ha:isName a=true) (hb:isName b=true)
include ha hb
end
def Pg.check (p:Pg):Int×Int:=if p.scope.1==0 then(if p.arity.1==0 then(if p.jump.1==0 then p.alias else p.jump)else p.arity)else p.scope
end Go.Abs
namespace Go.Abs
set_option maxRecDepth 8000
open Go.Proofs
def Pc.as5:List Pc→Nat
 | []=>0
 |f::l=>Sm.ja f.body+Pc.as5 l
theorem Xr {p:Pg} (h:p.may=false):p.scope=(1,0):=by unfold Pg.scope;rw[h];rfl
theorem Un {p:Pg} (h:p.iX) (s:St):az Tryz.prog sZ [.agg (cR p)] s (.agg [.int .i64 p.check.1, .int .i64 p.check.2]) s:=by
 refine az.pure ?_ (by simp[D.bH,D.ok,jX]) rfl s
 have h1:=fun s=>K1 h.QX s
 rw[CD]at h1
 have h2:=fun s=>vW h s
 have h3:=fun s=>Lg h s
 have h4:=fun s=>Xi h s
 have h5:=fun s=>Ug h s
 obtain⟨R,hR⟩ : ∃ R,p.check=R:=⟨_,rfl⟩
 rw[hR]
 unfold Pg.check at hR
 unfold S0
 rcases Bool.eq_false_or_eq_true p.may with b0|b0
 case inr=>
  have e:((1:Int)==0)=false:=rfl
  rw[Xr b0]at hR
  simp only[e,Bool.false_eq_true,if_false]at hR
  subst hR
  refine az.go oc rfl fun B Q hB hQ=>?_
  have⟨hC,hE,hM,hY⟩:=bC
  repeat' (first
 |simp only[go_sem,hC,hE,hM,hY,b0,Bool.not_false]
 |(with_reducible refine CU (h1 _) ?_)
 |(with_reducible refine aB hQ ?_;exact bg))
 rcases Bool.eq_false_or_eq_true (p.scope.1==0)with b1|b1
 case inr=>
  simp only[b1,Bool.false_eq_true,if_false]at hR
  subst hR
  refine az.go oc rfl fun B Q hB hQ=>?_
  have⟨hC,hE,hM,hY⟩:=bC
  repeat' (first
 |simp only[go_sem,hC,hE,hM,hY,b0,b1,Bool.not_true]
 |(with_reducible refine CU (h1 _) ?_)
 |(with_reducible refine CU (h2 _) ?_)
 |(with_reducible refine aB hQ ?_;exact bg))
 simp only[b1,if_true]at hR
 rcases Bool.eq_false_or_eq_true (p.arity.1==0)with b2|b2
 case inr=>
  simp only[b2,Bool.false_eq_true,if_false]at hR
  subst hR
  refine az.go oc rfl fun B Q hB hQ=>?_
  have⟨hC,hE,hM,hY⟩:=bC
  repeat' (first
 |simp only[go_sem,hC,hE,hM,hY,b0,b1,b2,Bool.not_true]
 |(with_reducible refine CU (h1 _) ?_)
 |(with_reducible refine CU (h2 _) ?_)
 |(with_reducible refine CU (h3 _) ?_)
 |(with_reducible refine aB hQ ?_;exact bg))
 simp only[b2,if_true]at hR
 rcases Bool.eq_false_or_eq_true (p.jump.1==0)with b3|b3
 case inr=>
  simp only[b3,Bool.false_eq_true,if_false]at hR
  subst hR
  refine az.go oc rfl fun B Q hB hQ=>?_
  have⟨hC,hE,hM,hY⟩:=bC
  repeat' (first
 |simp only[go_sem,hC,hE,hM,hY,b0,b1,b2,b3,Bool.not_true]
 |(with_reducible refine CU (h1 _) ?_)
 |(with_reducible refine CU (h2 _) ?_)
 |(with_reducible refine CU (h3 _) ?_)
 |(with_reducible refine CU (h4 _) ?_)
 |(with_reducible refine aB hQ ?_;exact bg))
 simp only[b3,if_true]at hR
 subst hR
 refine az.go oc rfl fun B Q hB hQ=>?_
 have⟨hC,hE,hM,hY⟩:=bC
 repeat' (first
 |simp only[go_sem,hC,hE,hM,hY,b0,b1,b2,b3,Bool.not_true]
 |(with_reducible refine CU (h1 _) ?_)
 |(with_reducible refine CU (h2 _) ?_)
 |(with_reducible refine CU (h3 _) ?_)
 |(with_reducible refine CU (h4 _) ?_)
 |(with_reducible refine CU (h5 _) ?_)
 |(with_reducible refine aB hQ ?_;exact bg))
theorem afm {p:Pg} (h:p.iX) (s:St):az Tryz.prog xv [.agg (cR p)] s (.bool (p.check.1==0)) s:=by
 refine az.pure ?_ (by simp[D.bH,D.ok,jX]) rfl s
 have h1:=fun s=>Un h s
 unfold S0
 refine az.go Ie rfl fun B Q hB hQ=>?_
 have⟨hC,hE,hM,hY⟩:=bC
 repeat' (first
 |simp only[go_sem,hC,hE,hM,hY]
 |(with_reducible refine CU (h1 _) ?_)
 |(with_reducible refine aB hQ ?_;exact bg))
def FA (x:Int):Int:=IntKind.wrap .i64 x
def uz (b:Bool):Int:=if b then 1 else 0
def Rc (op a:Int):Int×Bool:=if op==3 then(FA (0 - a),true)else if op==4 then(uz (a==0),true)else(0,false)
def Re (op a b:Int):Int×Bool:=
 if b==0 then(0,false)
 else if b == -1 then if op==7 then(0,true)else if a == -9223372036854775808 then(a,true)else(FA (0 - a),true)
 else if op==7 then(a.tmod b,true)else(FA (a.tdiv b),true)
def Rf (op a b:Int):Int×Bool:=
 if op==10 then(uz (decide (a<b)),true)else if op==11 then(uz (decide (a≤b)),true)else if op==12 then(uz (decide (a > b)),true)
 else if op==13 then(uz (decide (a≥b)),true)else if op==14 then(uz (a==b),true)else if op==15 then(uz (!(a==b)),true)else(0,false)
def Rg (op a b:Int):Int×Bool:=
 if op==8 then(FA (a+b),true)else if op==9 then(FA (a - b),true)else if op==5 then(FA (a*b),true)
 else if op==6 ||op==7 then Re op a b
 else if op==16 then(uz (!(a==0) && !(b==0)),true)else if op==17 then(uz (!(a==0) || !(b==0)),true)
 else Rf op a b
def Rh (name:aF) (names:List aF) (dg:List Int):Int:=if jg name 0 names≥0 then dg.getD (jg name 0 names).toNat 0 else 0
def Jo (op:Int):List (Int×Bool)→Int×Bool
 | []=>(0,false)
 | [a]=>if a.2 then Rc op a.1 else(0,false)
 |a::b::_=>if !a.2 then(0,false)else if op==16 && a.1==0 then(0,true)else if op==17 && !(a.1==0)then(1,true)else if !b.2 then(0,false)else Rg op a.1 b.1
mutual
def Ex.val (names:List aF) (dg:List Int):Ex→Int×Bool
 |⟨op,n,name,kids⟩=>if op==1 then(n,true)else if op==2 then(Rh name names dg,true)else Jo op (Ex.Ri names dg kids)
def Ex.Ri (names:List aF) (dg:List Int):List Ex→List (Int×Bool)
 | []=> []
 |x::l=>x.val names dg::Ex.Ri names dg l
end
def Ex.bW (x:Ex) (names:List aF) (dg:List Int):Int×Bool:=if x.may then x.val names dg else(0,false)
structure Fr where
 proc:Int
 names:List aF
 vars:List Nat
 call:Int
structure Mc where
 st:List Fr
 mem:List Int
 fin:Int
 steps:Int
 reads:Int
 out:List Int
 trace:List (Int×List Int)
def Mc.event (W:List Int) (m:Mc) (id:Int) (dg:List Int):Mc:=if W.contains id then {m with trace:=m.trace++ [(id,dg)]}else m
def Mc.top (m:Mc):Fr:=m.st.headD ⟨0,[],[],0⟩
def Mc.dg (m:Mc):List Int:=m.top.vars.map fun c=>m.mem.getD c 0
def Mc.cell (m:Mc) (name:aF):Nat:=m.top.vars.getD (jg name 0 m.top.names).toNat 0
def Mc.set (m:Mc) (name:aF) (v:Int):Mc:= {m with mem:=m.mem.set (m.cell name) v}
def Mc.bW (m:Mc) (x:Ex):(Int×Bool)×Mc:=
 let r:=x.bW m.top.names m.dg
 (r,if r.2 then m else {m with fin:=4})
def Mc.open (p:Pg) (m:Mc) (i:Int) (params:List Nat) (call:Int):Int×Mc:=
 match p.procs[i.toNat]? with
 |none=>(-1,m)
 |some f=>(gn f.body (-1),{m with st:=⟨i,p.globals++f.own,List.range p.globals.length++params++(List.range f.vars.length).map (m.mem.length + ·),call⟩::m.st,mem:=m.mem++List.replicate f.vars.length 0})
def gf (L:List Im) (id:Int):Im:=L.getD (id - 1).toNat ⟨Hn,0,0,0,0⟩
def Mc.close (L:List Im) (m:Mc) (xR:Int):Int×Mc:=
 let call:=m.top.call
 let m:= {m with st:=m.st.tail}
 if call==0 then(-1,{m with fin:=1})
 else
  let it:=gf L call
  (it.next,if it.s.name == []then m else m.set it.s.name xR)
def Mc.jn (W:List Int) (m:Mc) (s:Sm):Int×Mc:=
 if s.has then
  let r:=m.bW s.x
  (r.1.1,if r.1.2 then r.2.event W s.id [r.1.1]else r.2)
 else(0,m.event W s.id [])
def Mc.args:List Ar→Mc→List Nat→Option (List Nat)×Mc
 | [],m,out=>(some out,m)
 | a::l,m,out=>
  if a.ref then Mc.args l m (out++ [m.cell a.name])
  else
   let r:=m.bW a.x
   if r.1.2 then Mc.args l {r.2 with mem:=r.2.mem++ [r.1.1]} (out++ [r.2.mem.length])else(none,r.2)
def Mc.call (p:Pg) (W:List Int) (m:Mc) (s:Sm):Int×Mc:=
 match Mc.args s.args m []with
 |(none,m)=>(-1,m)
 |(some l,m)=>if m.st.length > 100 then(-1,{m with fin:=5})else(m.event W s.id []).open p (p.at s.proc) l s.id
def firstM (l:List Sm) (other:Int):Int:=gn l other
def Mc.do (p:Pg) (L:List Im) (tape W:List Int) (m:Mc) (it:Im):Int×Mc:=
 let s:=it.s
 if s.kind==7 then((gf L it.loop).next,m.event W s.id [])
 else if s.kind==8 then(it.loop,m.event W s.id [])
 else if s.kind==10 then((match p.procs[it.proc.toNat]? with|some f=>(k9 f.fin s.name (Sm.dm f.body)).1|none=>0),m.event W s.id [])
 else if s.kind==2 then
  match tape[m.reads.toNat]? with
  |none=>(-1,{m with fin:=3})
  |some n=>(it.next,(({m with reads:=m.reads+1} : Mc).set s.name n).event W s.id [n])
 else
  let r:=m.bW s.x
  if r.1.2 then
   let m:=r.2.event W s.id [r.1.1]
   let n:=r.1.1
   if s.kind==1 then(it.next,m.set s.name n)
   else if s.kind==3 then(it.next,{m with out:=m.out++ [n]})
   else if s.kind==5 then(if n==0 then firstM s.bc it.next else firstM s.bm it.next,m)
   else if s.kind==6 then(if n==0 then it.next else firstM s.bm s.id,m)
   else(it.next,m)
  else(-1,r.2)
def Mc.back (L:List Im) (m:Mc) (xR:Int):Option Int×Mc:=
 let r:=m.close L xR
 (if r.2.fin==0 then some r.1 else none,r.2)
def Mc.next (p:Pg) (L:List Im) (tape W:List Int) (fuel:Int) (at_:Int) (m:Mc):Option Int×Mc:=
 if at_ == -1 then m.back L 0
 else if m.steps==fuel then(none,{m with fin:=2})
 else
  let m:= {m with steps:=m.steps+1}
  let it:=gf L at_
  if it.s.kind==4 then
   let r:=m.call p W it.s
   (if r.2.fin==0 then some r.1 else none,r.2)
  else if it.s.kind==9 then
   let r:=m.jn W it.s
   if r.2.fin==0 then r.2.back L r.1 else(none,r.2)
  else
   let r:=m.do p L tape W it
   (if r.2.fin==0 then some r.1 else none,r.2)
def Mc.go (p:Pg) (L:List Im) (tape W:List Int) (fuel:Int):Nat→Int→Mc→Option Mc
 | 0,_,_=>none
 |N+1,at_,m=>
  match m.next p L tape W fuel at_ with
  |(none,m)=>some m
  |(some a,m)=>Mc.go p L tape W fuel N a m
def pz (p:Pg):Mc:=⟨[],List.replicate p.globals.length 0,0,0,0,[],[]⟩
def runM (p:Pg) (tape W:List Int) (fuel:Int):Option Mc:=
 let r:=(pz p).open p (p.at l7) [] 0
 Mc.go p p.bh.L tape W fuel (2*fuel.toNat+3) r.1 r.2
set_option maxRecDepth 100000
def aAd:aF:= [112,114,111,99,32,109,97,105,110,40,41,32,123,32,118,97,114,32,118,59,32,114,101,97,100,32,118,59,32,112,40,118,41,59,32,125,32,112,114,111,99,32,112,40,120,41,32,123,32,105,102,32,40,120,32,62,32,48,41,32,123,32,112,40,120,32,45,32,49,41,59,32,125,32,125]
def aif:Pg:=⟨[],[⟨[109,97,105,110],[],[[118]],[⟨1,2,[],[118],[],⟨0,0,[],[]⟩,false,[],[],[]⟩,⟨2,4,[],[],[112],⟨0,0,[],[]⟩,false,[⟨false,[],⟨2,0,[118],[]⟩⟩],[],[]⟩],[]⟩,⟨[112],[⟨[120],false⟩],[],[⟨3,5,[],[],[],⟨12,0,[],[⟨2,0,[120],[]⟩,⟨1,0,[],[]⟩]⟩,false,[],[⟨4,4,[],[],[112],⟨0,0,[],[]⟩,false,[⟨false,[],⟨9,0,[],[⟨2,0,[120],[]⟩,⟨1,1,[],[]⟩]⟩⟩],[],[]⟩],[]⟩],[]⟩]⟩
def afn:aF:= [103,108,111,98,97,108,32,115,59,32,112,114,111,99,32,109,97,105,110,40,41,32,123,32,118,97,114,32,105,44,32,110,59,32,114,101,97,100,32,110,59,32,97,103,97,105,110,58,32,105,32,61,32,105,32,43,32,49,59,32,105,102,32,40,105,32,62,32,110,41,32,123,32,103,111,116,111,32,111,117,116,59,32,125,32,115,32,61,32,105,32,42,32,105,59,32,105,102,32,40,115,32,37,32,50,32,61,61,32,48,41,32,123,32,103,111,116,111,32,97,103,97,105,110,59,32,125,32,116,101,108,108,40,41,59,32,103,111,116,111,32,97,103,97,105,110,59,32,111,117,116,58,32,125,32,112,114,111,99,32,116,101,108,108,40,41,32,123,32,112,114,105,110,116,32,115,59,32,125]
def GM:Pg:=⟨[[115]],[⟨[109,97,105,110],[],[[105],[110]],[⟨1,2,[],[110],[],⟨0,0,[],[]⟩,false,[],[],[]⟩,⟨2,1,[[97,103,97,105,110]],[105],[],⟨8,0,[],[⟨2,0,[105],[]⟩,⟨1,1,[],[]⟩]⟩,false,[],[],[]⟩,⟨3,5,[],[],[],⟨12,0,[],[⟨2,0,[105],[]⟩,⟨2,0,[110],[]⟩]⟩,false,[],[⟨4,10,[],[111,117,116],[],⟨0,0,[],[]⟩,false,[],[],[]⟩],[]⟩,⟨5,1,[],[115],[],⟨5,0,[],[⟨2,0,[105],[]⟩,⟨2,0,[105],[]⟩]⟩,false,[],[],[]⟩,⟨6,5,[],[],[],⟨14,0,[],[⟨7,0,[],[⟨2,0,[115],[]⟩,⟨1,2,[],[]⟩]⟩,⟨1,0,[],[]⟩]⟩,false,[],[⟨7,10,[],[97,103,97,105,110],[],⟨0,0,[],[]⟩,false,[],[],[]⟩],[]⟩,⟨8,4,[],[],[116,101,108,108],⟨0,0,[],[]⟩,false,[],[],[]⟩,⟨9,10,[],[97,103,97,105,110],[],⟨0,0,[],[]⟩,false,[],[],[]⟩],[[111,117,116]]⟩,⟨[116,101,108,108],[],[],[⟨10,3,[],[],[],⟨2,0,[115],[]⟩,false,[],[],[]⟩],[]⟩]⟩
def aAe:aF:= [112,114,111,99,32,109,97,105,110,40,41,32,123,32,118,97,114,32,105,59,32,119,104,105,108,101,32,40,105,32,60,32,53,41,32,123,32,105,32,61,32,105,32,43,32,49,59,32,105,102,32,40,105,32,61,61,32,50,41,32,123,32,99,111,110,116,105,110,117,101,59,32,125,32,105,102,32,40,105,32,61,61,32,52,41,32,123,32,98,114,101,97,107,59,32,125,32,112,114,105,110,116,32,105,59,32,125,32,112,114,105,110,116,32,49,48,48,32,47,32,40,105,32,45,32,52,41,59,32,125]
def aAf:Pg:=⟨[],[⟨[109,97,105,110],[],[[105]],[⟨1,6,[],[],[],⟨10,0,[],[⟨2,0,[105],[]⟩,⟨1,5,[],[]⟩]⟩,false,[],[⟨2,1,[],[105],[],⟨8,0,[],[⟨2,0,[105],[]⟩,⟨1,1,[],[]⟩]⟩,false,[],[],[]⟩,⟨3,5,[],[],[],⟨14,0,[],[⟨2,0,[105],[]⟩,⟨1,2,[],[]⟩]⟩,false,[],[⟨4,8,[],[],[],⟨0,0,[],[]⟩,false,[],[],[]⟩],[]⟩,⟨5,5,[],[],[],⟨14,0,[],[⟨2,0,[105],[]⟩,⟨1,4,[],[]⟩]⟩,false,[],[⟨6,7,[],[],[],⟨0,0,[],[]⟩,false,[],[],[]⟩],[]⟩,⟨7,3,[],[],[],⟨2,0,[105],[]⟩,false,[],[],[]⟩],[]⟩,⟨8,3,[],[],[],⟨6,0,[],[⟨1,100,[],[]⟩,⟨9,0,[],[⟨2,0,[105],[]⟩,⟨1,4,[],[]⟩]⟩]⟩,false,[],[],[]⟩],[]⟩]⟩
def aAg:aF:= [112,114,111,99,32,109,97,105,110,40,41,32,123,32,118,97,114,32,110,44,32,114,59,32,114,101,97,100,32,110,59,32,114,32,61,32,102,97,99,116,40,110,41,59,32,112,114,105,110,116,32,114,59,32,125,32,112,114,111,99,32,102,97,99,116,40,110,41,32,123,32,118,97,114,32,114,59,32,105,102,32,40,110,32,60,32,50,41,32,123,32,114,101,116,117,114,110,32,49,59,32,125,32,114,32,61,32,102,97,99,116,40,110,32,45,32,49,41,59,32,114,101,116,117,114,110,32,110,32,42,32,114,59,32,125]
def aAh:Pg:=⟨[],[⟨[109,97,105,110],[],[[110],[114]],[⟨1,2,[],[110],[],⟨0,0,[],[]⟩,false,[],[],[]⟩,⟨2,4,[],[114],[102,97,99,116],⟨0,0,[],[]⟩,false,[⟨false,[],⟨2,0,[110],[]⟩⟩],[],[]⟩,⟨3,3,[],[],[],⟨2,0,[114],[]⟩,false,[],[],[]⟩],[]⟩,⟨[102,97,99,116],[⟨[110],false⟩],[[114]],[⟨4,5,[],[],[],⟨10,0,[],[⟨2,0,[110],[]⟩,⟨1,2,[],[]⟩]⟩,false,[],[⟨5,9,[],[],[],⟨1,1,[],[]⟩,true,[],[],[]⟩],[]⟩,⟨6,4,[],[114],[102,97,99,116],⟨0,0,[],[]⟩,false,[⟨false,[],⟨9,0,[],[⟨2,0,[110],[]⟩,⟨1,1,[],[]⟩]⟩⟩],[],[]⟩,⟨7,9,[],[],[],⟨5,0,[],[⟨2,0,[110],[]⟩,⟨2,0,[114],[]⟩]⟩,true,[],[],[]⟩],[]⟩]⟩
def aAi:aF:= [112,114,111,99,32,109,97,105,110,40,41,32,123,32,103,111,116,111,32,105,110,59,32,119,104,105,108,101,32,40,49,41,32,123,32,112,114,105,110,116,32,49,59,32,105,110,58,32,112,114,105,110,116,32,50,59,32,114,101,116,117,114,110,59,32,125,32,125]
def aAj:Pg:=⟨[],[⟨[109,97,105,110],[],[],[⟨1,10,[],[105,110],[],⟨0,0,[],[]⟩,false,[],[],[]⟩,⟨2,6,[],[],[],⟨1,1,[],[]⟩,false,[],[⟨3,3,[],[],[],⟨1,1,[],[]⟩,false,[],[],[]⟩,⟨4,3,[[105,110]],[],[],⟨1,2,[],[]⟩,false,[],[],[]⟩,⟨5,9,[],[],[],⟨0,0,[],[]⟩,false,[],[],[]⟩],[]⟩],[]⟩]⟩
def aAk:aF:= [112,114,111,99,32,109,97,105,110,40,41,32,123,32,118,97,114,32,120,59,32,114,101,97,100,32,120,59,32,112,114,105,110,116,32,120,59,32,114,101,97,100,32,120,59,32,112,114,105,110,116,32,120,59,32,125]
def aAl:Pg:=⟨[],[⟨[109,97,105,110],[],[[120]],[⟨1,2,[],[120],[],⟨0,0,[],[]⟩,false,[],[],[]⟩,⟨2,3,[],[],[],⟨2,0,[120],[]⟩,false,[],[],[]⟩,⟨3,2,[],[120],[],⟨0,0,[],[]⟩,false,[],[],[]⟩,⟨4,3,[],[],[],⟨2,0,[120],[]⟩,false,[],[],[]⟩],[]⟩]⟩
def azG (n:Nat):Bool:=match runM aif [(n:Int)] [] 1000 with
 |some m=>m.fin==(if n<100 then 1 else 5) && (m.steps==(if n<100 then 3+2*(n:Int)else 202) && (m.reads==1 && (m.out == [] && m.trace.isEmpty)))
 |none=>false
def oH:Nat→List Int×Int
 | 0=>([],4)
 |n+1=>if((n+1:Nat):Int).tmod 2==1 then((oH n).1++ [((n+1:Nat):Int)*((n+1:Nat):Int)],(oH n).2+5+2)else((oH n).1,(oH n).2+5)
def Rj (n:Nat):Bool:=match runM GM [(n:Int)] [] 1000 with
 |some m=>m.fin==1 && (m.steps==(oH n).2 && (m.reads==1 && (m.out==(oH n).1 && m.trace.isEmpty)))
 |none=>false
theorem abk:(List.range 40).all Rj=true:=by kernel_rfl
theorem Xs (n:Nat) (h:n<40):Rj n=true:=List.all_eq_true.1 abk n (List.mem_range.2 h)
def aAm (p:Pg) (T W:List Int) (fuel fin steps reads:Int) (out:List Int) (tr:Nat):Bool:=match runM p T W fuel with
 |some m=>m.fin==fin && (m.steps==steps && (m.reads==reads && (m.out==out && m.trace.length==tr)))
 |none=>false
end Go.Abs
namespace Go.Abs
set_option maxRecDepth 8000
open Go.Proofs
theorem Xt {T:aF} {p:Pg} {n:Nat} (h:Fy n T=some (p,0,0)) (hb:p.may=true) (hc:p.check=(0,0)) (hp:p.size<100000) (hl:T.length<4611686018427387904) (s:St) :
 az Tryz.prog rG [.str T] s (.tuple [.agg (cR p), .agg [.int .i64 0, .int .i64 0]]) s:=by
 refine az.pure ?_ rfl (by simp[D.bH,D.ok,jX]) s
 have h1:=fun s=>abh h hl s
 have ho:p.iX:=⟨BY hb (by omega),by omega⟩
 have h2:=fun s=>Un ho s
 rw[hc]at h2
 have e1:((0:Int) != 0)=false:=rfl
 unfold S0
 refine az.go Gi rfl fun B Q hB hQ=>?_
 have⟨hC,hE,hM,hY⟩:=bC
 repeat' (first
 |simp only[go_sem,hC,hE,hM,hY,e1,p9]
 |(with_reducible refine CU (h1 _) ?_)
 |(with_reducible refine CU (h2 _) ?_)
 |(with_reducible first|refine aX fun hc=>?_|refine aY fun hc=>?_|refine aZ (fun hc=>?_) fun hc=>?_)<;>(try simp only[hc,bs,↓reduceIte]at h)<;>try simp only[hc]
 |(with_reducible refine aB hQ ?_;(try cases h);simp only[aQ,aR,bn,bo,go_sem,hC,hE,hM,hY,e1,p9];try exact bR)
 |(cases h;done))
def DA (os ts:List Nat) (tm:Tm):Tm→Prop
 | []=>True
 |(k,d)::r=>tm.get k=d.db os ts∧d.ok os.length ts.length=true∧DA os ts tm r
theorem DA.get {os ts:List Nat} {tm:Tm} : ∀ {bE:Tm},DA os ts tm bE→∀ k,bE.get k = .junk∨(tm.get k=(bE.get k).db os ts∧(bE.get k).ok os.length ts.length=true)
 | [],_,k=> .inl rfl
 |(q,d)::r,⟨h1,h2,h3⟩,k=>by
  simp only[Tm.get]
  split
  ·rename_i e;subst e;exact .inr ⟨h1,h2⟩
  ·exact h3.get k
section
variable {P:Program} {B:e7} {nt:Nat}
theorem Holds.sel {tm:Tm} {s:St} {act:Act} {w:World} (os:List Nat) (fN:List (List D)) (bE:Tm) (uE:os.Nodup) (jT : ∀ o∈os,o<s.ah.length) (hn:B.s.ah.length≤os.length)
 (hold : ∀ i,i<B.s.ah.length→os[i]? = some i) (dr : ∀ (i o:Nat),os[i]? = some o→B.s.ah.length≤i→B.s.ah.length≤o) (ho:fN.length=os.length)
 (xl : ∀ (i o:Nat) (ds:List D),os[i]? = some o→fN[i]? = some ds→s.ah[o]? = some (D.eT os (List.range s.aw.length) ds)∧D.bH os.length s.aw.length ds=true)
 (Uo:DA os (List.range s.aw.length) tm bE) (h:Holds B nt tm s act w):Holds B nt bE ⟨fN,s.aw⟩ act w:=by
 obtain⟨M,e,r,hr,h1,h2⟩:=h
 have x9:(List.range s.aw.length).length=s.aw.length:=List.length_range
 have rg : ∀ (i t:Nat),(List.range s.aw.length)[i]? = some t→i=t:=fun i t h=>by
  rw[List.getElem?_eq_some_iff]at h
  obtain⟨h3,h4⟩:=h
  simpa using h4
 have r0:Rel (gL M os (List.range s.aw.length)) ⟨fN,s.aw⟩ w:=r.sub uE List.nodup_range jT ho (fun i o ds e1 e2=>by rw[x9];exact xl i o ds e1 e2) x9.symm (fun i t h=>by rw[rg i t h])
 have loc : ∀ (i:Nat) o,os[i]? = some o→(gL M os (List.range s.aw.length)).loc i=M.loc o:=fun i o h=>by simp only[gL,ve h]
 have be : ∀ t,t<s.aw.length→(gL M os (List.range s.aw.length)).be t=M.be t:=fun t h=>by
  have:(List.range s.aw.length)[t]? = some t:=List.getElem?_range h
  simp only[gL,ve this]
 refine⟨gL M os (List.range s.aw.length),⟨⟨e.le.G,by rw[ho];exact hn,fun o h=>?_,e.le.t,fun t n' h e'=>?_⟩,e.kept,fun o h3 h4=>?_,fun t b c z hl hb=>?_,e.sm,e.size,e.os,e.tape,e.output⟩,r0,fun k=>?_,h1,h2⟩
 ·rw[loc o o (hold o h)];exact e.le.loc o h
 ·obtain⟨n,g1,g2,g3⟩:=e.le.tk t n' h e'
  exact⟨n,g1,g2,fun eq=>by rw[be t (Nat.lt_of_lt_of_le h e.le.t)];exact g3 eq⟩
 ·simp only at h4
  rw[ho]at h4
  obtain⟨q,hq⟩ : ∃ q,os[o]? = some q:=⟨_,List.getElem?_eq_getElem h4⟩
  have mR:(gL M os (List.range s.aw.length)).mu o=M.mu q:=congrArg Prod.fst (loc o q hq)
  rw[mR]at h3 ⊢
  refine e.tX q ?_ (jT q (List.mem_of_getElem? hq))
  by_cases h5:B.s.ah.length≤o
  ·exact .inl (dr o q hq h5)
  ·have:=hold o (by omega)
   rw[hq]at this
   cases this
   rcases h3 with h3|h3
   ·exact(h5 h3).elim
   ·exact .inr h3
 ·obtain⟨n,mU⟩:=hl
  have hC:=(List.getElem?_eq_some_iff.1 mU).1
  rw[be t hC]at hb
  exact e.qF t b c z ⟨n,mU⟩ hb
 ·rcases Uo.get k with h3 | ⟨h3,h4⟩
  ·rw[h3];exact .junk _
  ·exact RD.Cq (M:=M) (M0:=gL M os (List.range s.aw.length)) (s:=s) (s0:=⟨fN,s.aw⟩) rfl loc ho (fun i t h=>by
    have:=rg i t h;subst this;exact be i (by have:=(List.getElem?_eq_some_iff.1 h).1;rwa [x9]at this)) (fun i t h=>by rw[rg i t h]) x9.symm (h3 ▸ hr k) _ rfl h4
theorem bd.sel {a:AC} {Q:Exit→Tm→St→Prop} {tm:Tm} {s:St} (os:List Nat) (fN:List (List D)) (bE:Tm) (uE:os.Nodup) (jT : ∀ o∈os,o<s.ah.length) (hn:B.s.ah.length≤os.length)
 (hold : ∀ i,i<B.s.ah.length→os[i]? = some i) (dr : ∀ (i o:Nat),os[i]? = some o→B.s.ah.length≤i→B.s.ah.length≤o) (ho:fN.length=os.length)
 (xl : ∀ (i o:Nat) (ds:List D),os[i]? = some o→fN[i]? = some ds→s.ah[o]? = some (D.eT os (List.range s.aw.length) ds)∧D.bH os.length s.aw.length ds=true)
 (Uo:DA os (List.range s.aw.length) tm bE) (h:bd P B nt a Q bE ⟨fN,s.aw⟩):bd P B nt a Q tm s:=
 fun c hc act w hh=>h c hc act w (hh.sel os fN bE uE jT hn hold dr ho xl Uo)
mutual
def D.fK (o g:Nat) (rows:List (List D)):D→D
 | .eF z o' g' len=>if o'=o∧g'=g∧len=rows.length then .slice .shared z rows else .eF z o' g' len
 | .dL row off=> .dL (D.jM o g rows row) off
 | .slice t z rs=> .slice t z (D.sc o g rows rs)
 | .agg cs=> .agg (D.jM o g rows cs)
 | .tuple ds=> .tuple (D.jM o g rows ds)
 | .gi f cs=> .gi f (D.jM o g rows cs)
 | .ptr o off=> .ptr o off
 | .junk=> .junk
 | .int k x=> .int k x
 | .bool b=> .bool b
 | .str l=> .str l
 | .ek=> .ek
 | .val v=> .val v
 | .fm T o=> .fm T o
 | .fS o=> .fS o
 | .fp o g off=> .fp o g off
 | .eD z=> .eD z
def D.jM (o g:Nat) (rows:List (List D)):List D→List D
 | []=> []
 |d::r=>D.fK o g rows d::D.jM o g rows r
def D.sc (o g:Nat) (rows:List (List D)):List (List D)→List (List D)
 | []=> []
 |d::r=>D.jM o g rows d::D.sc o g rows r
end
theorem oj (o g:Nat) (rows:List (List D)) : ∀ l,D.jM o g rows l=l.map (D.fK o g rows)
 | []=>by simp[D.jM]
 |d::r=>by simp[D.jM,oj o g rows r]
theorem NK (o g:Nat) (rows:List (List D)) : ∀ l,D.sc o g rows l=l.map (D.jM o g rows)
 | []=>by simp[D.sc]
 |d::r=>by simp[D.sc,NK o g rows r]
theorem RD.fK {M:Map} {s:St} {o g:Nat} {rows:List (List D)} {b cap z:Nat} {A:Nat→Option (Nat×Nat)} (hm:M.ob o = .arr z A) (ha:A g=some (b,cap))
 (hs : ∀ row∈rows,row.length=z) (h1 : ∀ (i:Nat) (row:List D) (j:Nat) (d:D),rows[i]? = some row→row[j]? = some d→∃ u,M.G b (0+(i*z+j))=some u)
 (h2 : ∀ (i:Nat) (row:List D) (j:Nat) (d:D) (u:Value),rows[i]? = some row→row[j]? = some d→M.G b (0+(i*z+j))=some u→RD M s d u)
 {d:D} {v:Value} (h:RD M s d v):RD M s (d.fK o g rows) v:=by
 induction h with
 | eF z' o' g' len b' qI A' ho Aj wD hl=>
  simp only[D.fK]
  split
  ·rename_i hc
   obtain⟨rfl,rfl,rfl⟩:=hc
   rw[hm]at Aj
   cases Aj
   rw[ha]at wD
   cases wD
   exact .slice .shared z rows b 0 cap hl hs h1 h2 trivial
  ·exact .eF z' o' g' len b' qI A' ho Aj wD hl
 |fp z' o' g' off b' qI A' ho Aj wD=>simp only[D.fK];exact .fp z' o' g' off b' qI A' ho Aj wD
 |eD z a=>simp only[D.fK];exact .eD z a
 |junk v=>simp only[D.fK];exact .junk v
 |int k x=>simp only[D.fK];exact .int k x
 |bool b=>simp only[D.fK];exact .bool b
 |str l=>simp only[D.fK];exact .str l
 |ek=>simp only[D.fK];exact .ek
 |val v hv=>simp only[D.fK];exact .val v hv
 |fm T o v h ht hv=>simp only[D.fK];exact .fm T o v h ht hv
 |fS o h hm=>simp only[D.fK];exact .fS o h hm
 |ptr o off h hm=>simp only[D.fK];exact .ptr o off h hm
 |gi f ds vs hl _ ih=>
  simp only[D.fK,oj]
  refine .gi f _ vs (by simpa using hl) (fun i d v e1 e2=>?_)
  simp only[List.getElem?_map,Option.map_eq_some_iff]at e1
  obtain⟨d',e1,rfl⟩:=e1
  exact ih i d' v e1 e2
 | dL row off b k h1 h2 ih=>
  simp only[D.fK,oj]
  refine .dL _ off b k (fun i d e=>?_) (fun i d u e eu=>?_)
  ·simp only [List.getElem?_map,Option.map_eq_some_iff]at e
   obtain⟨d',e,rfl⟩:=e
   exact h1 i d' e
  ·simp only [List.getElem?_map,Option.map_eq_some_iff]at e
   obtain⟨d',e,rfl⟩:=e
   exact ih i d' u e eu
 |jo t z cap hc ht=>simp only[D.fK,D.sc];exact .jo _ z cap hc ht
 |mg z a cap=>simp only[D.fK,D.sc];exact .mg z a cap
 | slice t z rs b k cap hl hs h1 h2 ht ih=>
  simp only[D.fK,NK]
  have hlen:(rs.map (D.jM o g rows)).length=rs.length:=by simp
  have key:=RD.slice (M:=M) (s:=s) t z (rs.map (D.jM o g rows)) b k cap (by rw[hlen];exact hl) (fun row hr=>by
   obtain⟨jt,h',rfl⟩:=List.mem_map.1 hr
   rw[oj,List.length_map];exact hs jt h')
   (fun i row j d e1 e2=>by
    simp only[List.getElem?_map,Option.map_eq_some_iff]at e1
    obtain⟨jt,e1,rfl⟩:=e1
    rw[oj]at e2
    simp only[List.getElem?_map,Option.map_eq_some_iff]at e2
    obtain⟨d',e2,rfl⟩:=e2
    exact h1 i jt j d' e1 e2)
   (fun i row j d u e1 e2 eu=>by
    simp only[List.getElem?_map,Option.map_eq_some_iff]at e1
    obtain⟨jt,e1,rfl⟩:=e1
    rw[oj]at e2
    simp only[List.getElem?_map,Option.map_eq_some_iff]at e2
    obtain⟨d',e2,rfl⟩:=e2
    exact ih i jt j d' u e1 e2 eu)
   (by rw[hlen];exact ht)
  rw[hlen]at key
  exact key
 |agg cells vs hl h1 _ ih=>
  simp only[D.fK,oj]
  refine .agg _ vs (by simpa using hl) h1 (fun i d v e1 e2=>?_)
  simp only[List.getElem?_map,Option.map_eq_some_iff]at e1
  obtain⟨d',e1,rfl⟩:=e1
  exact ih i d' v e1 e2
 |tuple ds vs hl _ ih=>
  simp only[D.fK,oj]
  refine .tuple _ vs (by simpa using hl) (fun i d v e1 e2=>?_)
  simp only[List.getElem?_map,Option.map_eq_some_iff]at e1
  obtain⟨d',e1,rfl⟩:=e1
  exact ih i d' v e1 e2
def fzR (o g:Nat) (rows:List (List D)) (n m:Nat) (ds:List D):List D:=D.gw n m (D.jM o g rows ds)
def ZD (o g:Nat) (rows:List (List D)) (m:Nat) (tm:Tm):Tm→Prop
 | []=>True
 |(k,d)::r=>Wk (((tm.get k).fK o g rows).fg o m) d∧ZD o g rows m tm r
end
end Go.Abs
namespace Go.Abs
mutual
def D.flat:D→Bool
 | .int _ _=>true
 | .bool _=>true
 | .str _=>true
 | .tuple ds=>D.FB ds
 |_=>false
def D.FB:List D→Bool
 | []=>true
 |d::r=>d.flat && D.FB r
end
theorem HX : ∀ {l:List D},D.FB l=true→∀ {i:Nat} {d:D},l[i]? = some d→d.flat=true
 | [],_,i,d,e=>by simp at e
 |a::l,h,i,d,e=>by
  simp only[D.FB,Bool.and_eq_true]at h
  cases i with
  |zero=>simp at e;subst e;exact h.1
  |succ i=>exact HX h.2 (by simpa using e)
theorem RD.flat {M M':Map} {s s':St} {d:D} {v:Value} (h:RD M s d v):d.flat=true→RD M' s' d v:=by
 induction h with
 |int k n=>exact fun _=> .int k n
 |bool b=>exact fun _=> .bool b
 |str l=>exact fun _=> .str l
 |tuple ds vs hl _ ih=>exact fun hf=> .tuple ds vs hl fun i d v e1 e2=>ih i d v e1 e2 (HX (by simpa only[D.flat]using hf) e1)
 |_=>intro hf;simp only[D.flat,Bool.false_eq_true]at hf
theorem NL {n m:Nat} : ∀ {l:List D},D.bH n m l=true→∀ {i:Nat} {d:D},l[i]? = some d→d.ok n m=true
 | [],_,i,d,e=>by simp at e
 |a::l,h,i,d,e=>by
  simp only[D.bH,Bool.and_eq_true]at h
  cases i with
  |zero=>simp at e;subst e;exact h.1
  |succ i=>exact NL h.2 (by simpa using e)
theorem Rel.Dk {M:Map} {s:St} {w w':World} (r:Rel M s w) (Dk : ∀ k,k<w.heap.size→w'.heap[k]? = w.heap[k]?) (hs:w.heap.size≤w'.heap.size) (h1:w'.os=w.os) (h2:w'.tape=w.tape) (h3:w'.output=w.output) :
 Rel M s w'∧Ext M s w M s w':=by
 refine⟨⟨fun p o v e=>?_,fun o ds e=>?_,r.jV,r.inj,fun t n e=>?_,r.fc,r.fU⟩,⟨Le.refl M s,fun k hk _ _=>Dk k hk,fun o h h'=>by rcases h with h|h;omega;exact(h rfl).elim,fun t b c z h e=> .inl ⟨h,c,z,e⟩,fun _ _ h=>(h rfl).elim,hs,h1,h2,h3⟩⟩
 ·obtain⟨h1,h2⟩:=r.comm p o v e
  refine⟨?_,h2⟩
  rw[← h1]
  simp only[World.cell?,Dk _ (r.A8 e)]
 ·obtain⟨vs,T,h1,h2⟩:=r.obj o ds e
  exact⟨vs,T,h1.keep (Dk _ h1.lt),h2⟩
 ·rcases r.tok t n e with h | ⟨p,cap,z,vs,T,h1,h2,h3⟩
  ·exact .inl h
  ·exact .inr ⟨p,cap,z,vs,T,h1,by rw[Dk _ (ko h2)];exact h2,h3⟩
theorem az.as6 {P:Program} {f:FuncId} {args:List D} {d:D} {s:St} {o g z:Nat} {rows:List (List D)} {k:Nat} (hk:args[k]? = some (.eF z o g rows.length)) {more:List D}
 (ey:s.ah[o]? = some (.int .i64 (g:Int)::(rows.flatten++more))) (hs : ∀ row∈rows,row.length=z) (h:az P f (D.jM o g rows args) S0 d S0) (ha:D.bH 0 0 (D.jM o g rows args)=true)
 (hd:d.flat=true):az P f args s d s:=by
 intro M w fI r hl eg zr
 have hC:=(List.getElem?_eq_some_iff.1 hk).1
 obtain⟨b0,aAH,A,_,_,hm,_⟩:=(zr k _ _ hk (Array.getElem?_eq_getElem (by omega))).yc
 have ie:nL s o g=some (rows.flatten++more):=by unfold nL;rw[ey];simp
 obtain⟨us,T,cap,hh,yf,Dg,aAI,hle,hZ,jy⟩:=r.JN hm ie
 have Gx:o<s.ah.length:=(List.getElem?_eq_some_iff.1 ey).1
 have hGo : ∀ q,M.G (M.mu o) q=none:=r.jV o Gx
 let M':Map:= {M with G:=fun b q=>if b=M.mu o then us[q]? else M.G b q}
 have qf : ∀ b,b≠M.mu o→∀ q,M'.G b q=M.G b q:=fun b hb q=>if_neg hb
 have le:Le M s M' s:=⟨fun b q v hq=>by
  by_cases hb:b=M.mu o
  ·subst hb;rw[hGo]at hq;cases hq
  ·rw[qf b hb];exact hq,Nat.le_refl _,fun _ _=> .refl _,Nat.le_refl _,fun t n' _ e=>⟨n',e,Nat.le_refl _,fun _=>rfl⟩⟩
 have kI : ∀ (i:Nat) (row:List D) (j:Nat) (d:D),rows[i]? = some row→row[j]? = some d→(rows.flatten++more)[i*z+j]? = some d:=by
  have gen : ∀ (rows:List (List D)),(∀ row∈rows,row.length=z)→∀ (i:Nat) (row:List D) (j:Nat) (d:D),rows[i]? = some row→row[j]? = some d→rows.flatten[i*z+j]? = some d:=by
   intro rows
   induction rows with
   |nil=>intro _ i row j d e1;simp at e1
   | cons a rows ih=>
    intro hs i row j d e1 e2
    have Av:=hs a (List.mem_cons_self ..)
    rw[List.flatten_cons]
    cases i with
    |zero=>
     simp at e1;subst e1
     rw[Nat.zero_mul,Nat.zero_add,List.getElem?_append_left (List.getElem?_eq_some_iff.1 e2).1];exact e2
    |succ i=>
     rw[List.getElem?_append_right (by rw[Nat.add_mul];omega),Av,show(i+1)*z+j - z=i*z+j by rw[Nat.add_mul];omega]
     exact ih (fun q hq=>hs q (List.mem_cons_of_mem _ hq)) i row j d (by simpa using e1) e2
  intro i row j d e1 e2
  have:=gen rows hs i row j d e1 e2
  rw[List.getElem?_append_left (List.getElem?_eq_some_iff.1 this).1];exact this
 have g1 : ∀ (i:Nat) (row:List D) (j:Nat) (d:D),rows[i]? = some row→row[j]? = some d→∃ u,M'.G (M.mu o) (0+(i*z+j))=some u:=fun i row j d e1 e2=>by
  have hC:=(List.getElem?_eq_some_iff.1 (kI i row j d e1 e2)).1
  refine⟨us[i*z+j]'(by omega), ?_⟩
  show(if M.mu o=M.mu o then us[0+(i*z+j)]? else _)=_
  rw[if_pos rfl,Nat.zero_add]
  exact Array.getElem?_eq_getElem _
 have g2 : ∀ (i:Nat) (row:List D) (j:Nat) (d:D) (u:Value),rows[i]? = some row→row[j]? = some d→M'.G (M.mu o) (0+(i*z+j))=some u→RD M' s d u:=fun i row j d u e1 e2 eu=>by
  have E5:(if M.mu o=M.mu o then us[0+(i*z+j)]? else M.G (M.mu o) (0+(i*z+j)))=some u:=eu
  rw[if_pos rfl,Nat.zero_add]at E5
  exact(jy _ d u (kI i row j d e1 e2) E5).mono le
 have r0:Rel M' S0 w:=⟨fun b q v hq=>by
  have mC:(if b=M.mu o then us[q]? else M.G b q)=some v:=hq
  by_cases hb:b=M.mu o
  ·rw [if_pos hb]at mC
   rw[hb,ji hh]
   exact⟨mC,hZ v (Array.mem_of_getElem? mC)⟩
  ·rw [if_neg hb]at mC
   exact r.comm b q v mC,fun o ds e=>by simp[S0]at e,fun o h=>by simp[S0]at h,fun o _ h=>by simp[S0]at h,fun t n e=>by simp[S0]at e,
  fun t b c z o hl _ ho=>by simp[S0]at ho,fun t t' b c z c' z' hl=>by obtain⟨n,hn⟩:=hl;simp[S0]at hn⟩
 have l0:Laid M' S0 w:=fun q cs hq=>⟨(hl q cs hq).1,fun o ho=>by simp[S0]at ho,fun t c z ht=>by obtain⟨n,hn⟩:=ht;simp[S0]at hn⟩
 have a0 : ∀ (i:Nat) (d:D) (v:Value),(D.jM o g rows args)[i]? = some d→fI[i]? = some v→RD M' S0 d v:=fun i d0 v e1 e2=>by
  have pQ:=NL ha e1
  rw[oj,List.getElem?_map,Option.map_eq_some_iff]at e1
  obtain⟨d1,e1,rfl⟩:=e1
  have wT:=((zr i d1 v e1 e2).mono le).fK (M:=M') hm yf hs g1 g2
  exact RD.Cq (M:=M') (M0:=M') (s:=s) (s0:=S0) (os:= []) (ts:= []) rfl (by simp) rfl (by simp) (by simp) rfl wT _ (qK _ _ _ pQ) pQ
 refine(h M' w fI r0 l0 (by rw[eg,oj,List.length_map]) a0).mono fun e w' ⟨M2,d2,v,s2,h1,⟨h2,h3⟩,hx,_,h4⟩=>?_
 subst h2 h3
 have Dk : ∀ k,k<w.heap.size→w'.heap[k]? = w.heap[k]? :=fun k hk=>hx.kept k hk (fun o ho=>by simp[S0]at ho) (fun t c z ht=>by obtain⟨n,hn⟩:=ht;simp[S0]at hn)
 obtain⟨r',e'⟩:=r.Dk Dk hx.size hx.os hx.tape hx.output
 exact⟨M,d2,v,s,h1,⟨rfl,rfl⟩,e',r',h4.flat hd⟩
section
variable {P:Program} {B:e7} {nt:Nat}
theorem bP.uM {f:FuncId} {res:List (Nat×Option (Bool×Nat))} {body:AC} {args:List D} {s:St} {R:D→St→Prop} (h0:Has P f nt res body) (hl:Nat.ble args.length nt=true)
 (h : ∀ (B:e7) (Q:Exit→Tm→St→Prop),B.s=s→Vh res R=Q→gD P B nt body Q (mM 0 args) s):bP P f args s R:=by
 obtain⟨fn,hf,hc⟩:=h0
 refine bP.IF (bP.Sl (Q:=R) hf hc (Nat.le_of_ble_eq_true hl) fun B hB=>gE (h B _ hB rfl)) fun d s1 h=>⟨d,s1,Wk.refl _,gx.refl _,rfl,h⟩
theorem gS {res:List (Nat×Option (Bool×Nat))} {R:D→St→Prop} {tm:Tm} {s:St} {e:Exit} {Q:Exit→Tm→St→Prop} (hQ:Vh res R=Q) (h : ∃ l,aQ res tm s=some l∧R (aR l) s) (he:e = .ret∨e = .normal:=by first|exact .inl rfl|exact .inr rfl):Q e tm s:=by
 subst hQ
 rcases he with rfl|rfl<;>exact h
def upD (R:D→St→Prop) (d:D) (s:St):Prop:=∃ d' s',Wk d d'∧gx s.ah s'.ah∧s.aw=s'.aw∧R d' s'
theorem bP.up {f:FuncId} {args:List D} {s:St} {R:D→St→Prop} (h:bP P f args s (upD R)):bP P f args s R:=
 bP.IF h fun d s1 ⟨d',s',h1,h2,h3,h4⟩=>⟨d',s',h1,h2,h3,h4⟩
def wa (tm:Tm):Tm→Prop
 | []=>True
 |(k,d)::r=>Wk (tm.get k) d∧wa tm r
theorem wa.get {tm:Tm} : ∀ {bE:Tm},wa tm bE→∀ t,Wk (tm.get t) (bE.get t)
 | [],_,t=>Wk.junk _
 |(k,d)::r,h,t=>by
  simp only[Tm.get]
  split
  ·rename_i hk;subst hk;exact h.1
  ·exact wa.get h.2 t
theorem afp (tm:Tm):wa tm [] = True:=nd rfl
theorem afq (tm:Tm) (k:Nat) (d:D) (r:Tm):wa tm ((k,d)::r)=(Wk (tm.get k) d∧wa tm r):=nd rfl
attribute [go_sem] afp afq
theorem Holds.pU {tm bE:Tm} {s:St} {act:Act} {w:World} (ht:wa tm bE) (h:Holds B nt tm s act w):Holds B nt bE s act w:=by
 obtain⟨M,e,r,hr,h1,h2⟩:=h
 exact⟨M,e,r,fun k=>ht.get k _ _ _ (hr k),h1,h2⟩
theorem bd.pU {a:AC} {Q:Exit→Tm→St→Prop} {tm bE:Tm} {s:St} (ht:wa tm bE) (h:bd P B nt a Q bE s):bd P B nt a Q tm s:=fun c hc act w hh=>h c hc act w (hh.pU ht)
theorem iZ.pU {a r:AC} {Q:Exit→Tm→St→Prop} {tm bE:Tm} {s:St} (ht:wa tm bE) (h:iZ P B nt a r Q bE s):iZ P B nt a r Q tm s:=fun c rest hc hr act w hh=>h c rest hc hr act w (hh.pU ht)
theorem Sem.pU {a:AC} {Q:Exit→Tm→St→Prop} {tm bE:Tm} {s:St} (ht:wa tm bE) (h:Sem P B nt a Q bE s):Sem P B nt a Q tm s:=fun c hc act w hh=>h c hc act w (hh.pU ht)
end
theorem gd {s:St} {o:Nat} {r:List D} (h:s.ah[o]? = some r):o<s.ah.length:=(List.getElem?_eq_some_iff.1 h).1
theorem NM {s:St} {a b:Nat} {r r':List D} (h:s.ah[a]? = some r) (h':s.ah[b]? = some r') (hn:r≠r'):a≠b:=fun e=>by subst e;rw[h]at h';cases h';exact hn rfl
end Go.Abs
namespace Go.Abs
section
variable (s:St) (o g off len k z size bytes:Nat) (kk:IntKind)
theorem aih:nL s o g=match s.ah[o]? with|some (.int .i64 n::cells)=>if n=(g:Int)then some cells else none|_=>none:=nd rfl
theorem afr (agg:Bool):ze (.fp o g off) agg size s=match nL s o g with|some cells=>(match part cells off agg size with|some d=>some (d,s)|none=>none)|none=>none:=nd rfl
theorem abl (r:List D):A5 (.fp o g off) (some r) size s=match nL s o g with
 |some cells=>if r.length=size∧off+size≤cells.length then some (.tuple [],⟨s.ah.set o (.int .i64 g::iC cells off r),s.aw⟩)else none
 |none=>none:=nd rfl
theorem aii:N3 (.fp o g off)=some (.fp o g off):=nd rfl
theorem abm:Ew (.fp o g k) off=some (.fp o g (k+off)):=nd rfl
theorem abn:xZ (.eF z o g len) (.int kk (k:Int)) size=if k<len then(if z=size then some (.fp o g (k*z))else none)else none:=by
 simp only[xZ]
 by_cases h1:k<len<;>by_cases h2:z=size<;>simp[h1,h2]
theorem aij:FW (.eF z o g len)=some (.int .i64 len):=nd rfl
theorem afs:FW (.eD z)=some (.int .i64 0):=nd rfl
theorem LG {z bytes:Nat} (t:Tag) (r:List D) (s:St) (hm:bytes+1≤bu):A6 z bytes (.eD z) (.slice t z [r]) s=some (.eF z s.ah.length 0 1,⟨s.ah++ [.int .i64 ((0:Nat):Int)::r],s.aw⟩):=by
 simp[A6,hm]
theorem aik (n m:Nat):D.fg n m (.eF z o g len)=if o<n then .eF z o g len else .junk:=nd (by simp only[D.fg])
theorem ail (n m:Nat):D.fg n m (.fp o g off)=if o<n then .fp o g off else .junk:=nd (by simp only[D.fg])
theorem aim (n m:Nat):D.fg n m (.eD z) = .eD z:=nd (by simp only[D.fg])
theorem aft:(D.eF z o g len).row=some [.eF z o g len]:=nd rfl
theorem afu:(D.fp o g off).row=some [.fp o g off]:=nd rfl
theorem afv:(D.eD z).row=some [.eD z]:=nd rfl
end
attribute [go_sem] aih afr abl aii abm abn aij afs aik ail aim aft afu afv
theorem Wk.eD (z z':Nat):Wk (.slice .full z []) (.eD z'):=fun M s v h=>by
 cases h with
 |jo _ _ cap hc ht=>subst hc;exact .eD z' none
 |slice _ _ _ b k cap hl hs h1 h2 ht=>
  have:cap=0:=ht
  subst this
  exact .eD z' _
instance (z z':Nat):Ok (Wk (.slice .full z []) (.eD z')):=⟨Wk.eD z z'⟩
instance {a a' b b':List D} [Ok (ju a a')] [Ok (ju b b')] : Ok (ju (a++b) (a'++b')):=⟨ju.append Ok.out Ok.out⟩
theorem ain (n m:Nat) (a b:List D):D.gw n m (a++b)=D.gw n m a++D.gw n m b:=nd (by simp only[mV,List.map_append])
attribute [go_sem] ain
def Ca (os:List Nat) (m:Nat) (ah:List (List D)):List Nat→List (List D)→Prop
 | [],[]=>True
 |o::l,ds::r=>ah[o]? = some (D.eT os (List.range m) ds)∧D.bH os.length m ds=true∧Ca os m ah l r
 |_,_=>False
theorem Ca.get {os:List Nat} {m:Nat} {ah:List (List D)} : ∀ {l:List Nat} {r:List (List D)},Ca os m ah l r→r.length=l.length∧∀ (i o:Nat) (ds:List D),l[i]? = some o→r[i]? = some ds→ah[o]? = some (D.eT os (List.range m) ds)∧D.bH os.length m ds=true
 | [],[],_=>⟨rfl,fun i o ds h=>by simp at h⟩
 |o::l,ds::r,⟨h1,h2,h3⟩=>by
  obtain⟨g1,g2⟩:=h3.get
  refine⟨by simp[g1],fun i o' qS e1 e2=>?_⟩
  cases i with
  |zero=>simp at e1 e2;subst e1 e2;exact⟨h1,h2⟩
  |succ i=>exact g2 i o' qS (by simpa using e1) (by simpa using e2)
 | [],_::_,h=>h.elim
 |_::_,[],h=>h.elim
section
variable {P:Program} {B:e7} {nt:Nat} {a:AC} {Q:Exit→Tm→St→Prop} {tm:Tm} {s:St}
theorem bd.as7 (hB:B.s = ⟨[],[]⟩) (os:List Nat) (fN:List (List D)) (bE:Tm) (uE:os.Nodup) (jT : ∀ o∈os,o<s.ah.length) (xl:Ca os s.aw.length s.ah os fN) (Uo:DA os (List.range s.aw.length) tm bE)
 (h:bd P B nt a Q bE ⟨fN,s.aw⟩):bd P B nt a Q tm s:=
 bd.sel os fN bE uE jT (by rw[hB];exact Nat.zero_le _) (fun i h=>by rw[hB]at h;exact absurd h (Nat.not_lt_zero _)) (fun i o _ _=>by rw[hB];exact Nat.zero_le _) xl.get.1 xl.get.2 Uo h
end
section
variable (os ts:List Nat) (n m:Nat)
theorem aio (o off:Nat):D.db os ts (.ptr o off)=match os[o]? with|some o'=> .ptr o' off|none=> .junk:=nd (by simp only[D.db]<;>rfl)
theorem aip (z o g len:Nat):D.db os ts (.eF z o g len)=match os[o]? with|some o'=> .eF z o' g len|none=> .junk:=nd (by simp only[D.db]<;>rfl)
theorem abo (g:Tag) (z:Nat) (rows:List (List D)):D.db os ts (.slice g z rows) = .slice (g.db ts) z (D.nQ os ts rows):=nd (by simp only[D.db])
theorem aiq (l:List D):D.db os ts (.agg l) = .agg (D.eT os ts l):=nd (by simp only[D.db])
theorem afw:D.db os ts .junk = .junk:=nd (by simp only[D.db])
theorem air (k:IntKind) (x:Int):D.db os ts (.int k x) = .int k x:=nd (by simp only[D.db])
theorem afx (b:Bool):D.db os ts (.bool b) = .bool b:=nd (by simp only[D.db])
theorem ais (l:List UInt8):D.db os ts (.str l) = .str l:=nd (by simp only[D.db])
theorem afy:D.db os ts .ek = .ek:=nd (by simp only[D.db])
theorem afz (z:Nat):D.db os ts (.eD z) = .eD z:=nd (by simp only[D.db])
theorem abp:D.eT os ts [] = []:=nd (by simp only[D.eT])
theorem abq (d:D) (l:List D):D.eT os ts (d::l)=D.db os ts d::D.eT os ts l:=nd (by simp only[D.eT])
theorem Xu:Tag.db ts .shared = .shared:=nd rfl
theorem afA:Tag.db ts .full = .full:=nd rfl
theorem abr (o off:Nat):D.ok n m (.ptr o off)=decide (o<n):=nd (by simp only[D.ok])
theorem abt (z o g len:Nat):D.ok n m (.eF z o g len)=decide (o<n):=nd (by simp only[D.ok])
theorem Uq (g:Tag) (z:Nat) (rows:List (List D)):D.ok n m (.slice g z rows)=(g.ok m && D.gW n m rows):=nd (by simp only[D.ok])
theorem abu (l:List D):D.ok n m (.agg l)=D.bH n m l:=nd (by simp only[D.ok])
theorem Xv:D.ok n m .junk=true:=nd (by simp only[D.ok])
theorem abv (k:IntKind) (x:Int):D.ok n m (.int k x)=true:=nd (by simp only[D.ok])
theorem Xw (b:Bool):D.ok n m (.bool b)=true:=nd (by simp only[D.ok])
theorem abw (l:List UInt8):D.ok n m (.str l)=true:=nd (by simp only[D.ok])
theorem Xx:D.ok n m .ek=true:=nd (by simp only[D.ok])
theorem Xy (z:Nat):D.ok n m (.eD z)=true:=nd (by simp only[D.ok])
theorem afB:D.bH n m [] = true:=nd (by simp only[D.bH])
theorem afC (d:D) (l:List D):D.bH n m (d::l)=(D.ok n m d && D.bH n m l):=nd (by simp only[D.bH])
theorem Rk:Tag.ok m .shared=true:=nd rfl
theorem Xz:Tag.ok m .full=true:=nd rfl
theorem abx (os:List Nat) (m:Nat) (ah:List (List D)):Ca os m ah [] [] = True:=nd rfl
theorem aby (os:List Nat) (m:Nat) (ah:List (List D)) (o:Nat) (l:List Nat) (ds:List D) (r:List (List D)):Ca os m ah (o::l) (ds::r)=(ah[o]? = some (D.eT os (List.range m) ds)∧D.bH os.length m ds=true∧Ca os m ah l r):=nd rfl
theorem afD (tm:Tm):DA os ts tm [] = True:=nd rfl
theorem afE (tm:Tm) (k:Nat) (d:D) (r:Tm):DA os ts tm ((k,d)::r)=(tm.get k=d.db os ts∧d.ok os.length ts.length=true∧DA os ts tm r):=nd rfl
theorem LH (rows:List (List D)) (h:D.gW 0 0 rows=true):D.nQ os ts rows=rows:=ig os ts rows h
theorem FC (row:List D) (h:D.bH 0 0 row=true):D.eT os ts row=row:=e8 os ts row h
theorem Rm (rows:List (List D)) (h:D.gW 0 0 rows=true):D.gW n m rows=true:=lD (Nat.zero_le n) (Nat.zero_le m) rows h
theorem Jp (row:List D) (h:D.bH 0 0 row=true):D.bH n m row=true:=gF (Nat.zero_le n) (Nat.zero_le m) row h
theorem NN (p:Pg):D.eT os ts (cR p)=cR p:=FC _ _ _ (jX p)
theorem abz (p:Sm):D.eT os ts (a8 p)=a8 p:=FC _ _ _ (mY p)
theorem XA (l:List Pc):D.nQ os ts (l.map cH)=l.map cH:=LH _ _ _ (wJ l)
theorem XB (l:List Sm):D.nQ os ts (l.map a8)=l.map a8:=LH _ _ _ (oK l)
theorem Ur (l:List aF):D.nQ os ts (l.map encStr)=l.map encStr:=LH _ _ _ (eB l)
theorem abA (p:Pc):D.eT os ts (cH p)=cH p:=FC _ _ _ (xr p)
theorem afF (p:Pc):D.bH n m (cH p)=true:=Jp _ _ _ (xr p)
theorem Us (p:Pg):D.bH n m (cR p)=true:=Jp _ _ _ (jX p)
theorem afG (p:Sm):D.bH n m (a8 p)=true:=Jp _ _ _ (mY p)
theorem abB (l:List Pc):D.gW n m (l.map cH)=true:=Rm _ _ _ (wJ l)
theorem abC (l:List Sm):D.gW n m (l.map a8)=true:=Rm _ _ _ (oK l)
theorem XC (l:List aF):D.gW n m (l.map encStr)=true:=Rm _ _ _ (eB l)
theorem Rn : ∀ l:List Pc,D.bH 0 0 ((l.map cH).flatten)=true:=fun l=>by
 have h:=wJ l
 rw[EI,List.all_eq_true]at h
 rw[ym,List.all_eq_true]
 intro d hd
 obtain⟨r,hr,hd⟩:=List.mem_flatten.1 hd
 have:=h r hr
 rw[ym,List.all_eq_true]at this
 exact this d hd
theorem XD (l:List Pc):D.eT os ts ((l.map cH).flatten)=(l.map cH).flatten:=FC _ _ _ (Rn l)
theorem abD (l:List Pc):D.bH n m ((l.map cH).flatten)=true:=Jp _ _ _ (Rn l)
theorem abE (l:List Pc):D.gw n m ((l.map cH).flatten)=(l.map cH).flatten:=ij _ _ _ (Rn l)
end
attribute [go_sem] abA afF aio aip abo aiq afw air afx ais afy afz abp abq Xu afA abr abt Uq abu Xv abv Xw abw Xx Xy afB afC Rk Xz abx aby afD afE NN abz XA XB Ur Us afG abB abC XC XD abD abE
mutual
theorem LI (o g:Nat) (rows:List (List D)) : ∀ d,D.ok 0 0 d=true→D.fK o g rows d=d
 | .junk,_=>by simp[D.fK]
 | .int k n,_=>by simp[D.fK]
 | .bool b,_=>by simp[D.fK]
 | .str l,_=>by simp[D.fK]
 | .ek,_=>by simp[D.fK]
 | .val v,_=>by simp[D.fK]
 | .eD z,_=>by simp[D.fK]
 | .fm T o,h=>by simp[D.ok]at h
 | .fS o,h=>by simp[D.ok]at h
 | .eF z o g len,h=>by simp[D.ok]at h
 | .fp o g off,h=>by simp[D.ok]at h
 | .ptr o f,h=>by simp[D.ok]at h
 | .gi f cs,h=>by
  simp only[D.ok]at h
  simp only[D.fK,sK o g rows cs h]
 | .dL r f,h=>by
  simp only[D.ok]at h
  simp only[D.fK,sK o g rows r h]
 | .slice t z rs,h=>by
  simp only[D.ok,Bool.and_eq_true]at h
  simp only[D.fK,yZ o g rows rs h.2]
 | .agg cs,h=>by
  simp only[D.ok]at h
  simp only[D.fK,sK o g rows cs h]
 | .tuple cs,h=>by
  simp only[D.ok]at h
  simp only[D.fK,sK o g rows cs h]
theorem sK (o g:Nat) (rows:List (List D)) : ∀ l,D.bH 0 0 l=true→D.jM o g rows l=l
 | [],_=>by simp[D.jM]
 |d::r,h=>by
  simp only[D.bH,Bool.and_eq_true]at h
  simp only[D.jM,LI o g rows d h.1,sK o g rows r h.2]
theorem yZ (o g:Nat) (rows:List (List D)) : ∀ l,D.gW 0 0 l=true→D.sc o g rows l=l
 | [],_=>by simp[D.sc]
 |d::r,h=>by
  simp only[D.gW,Bool.and_eq_true]at h
  simp only[D.sc,sK o g rows d h.1,yZ o g rows r h.2]
end
section
variable (o g:Nat) (rows:List (List D)) (n m:Nat)
theorem ait (q off:Nat):D.fK o g rows (.ptr q off) = .ptr q off:=nd (by simp only[D.fK])
theorem afH (q h off:Nat):D.fK o g rows (.fp q h off) = .fp q h off:=nd (by simp only[D.fK])
theorem aiu (z o' g' len:Nat):D.fK o g rows (.eF z o' g' len)=if o'=o∧g'=g∧len=rows.length then .slice .shared z rows else .eF z o' g' len:=nd (by simp only[D.fK])
theorem abF (t:Tag) (z:Nat) (rs:List (List D)):D.fK o g rows (.slice t z rs) = .slice t z (D.sc o g rows rs):=nd (by simp only[D.fK])
theorem aiv (l:List D):D.fK o g rows (.agg l) = .agg (D.jM o g rows l):=nd (by simp only[D.fK])
theorem afI:D.fK o g rows .junk = .junk:=nd (by simp only[D.fK])
theorem aiw (k:IntKind) (x:Int):D.fK o g rows (.int k x) = .int k x:=nd (by simp only[D.fK])
theorem afJ (b:Bool):D.fK o g rows (.bool b) = .bool b:=nd (by simp only[D.fK])
theorem aix (l:List UInt8):D.fK o g rows (.str l) = .str l:=nd (by simp only[D.fK])
theorem abG:D.jM o g rows [] = []:=nd (by simp only[D.jM])
theorem abH (d:D) (l:List D):D.jM o g rows (d::l)=D.fK o g rows d::D.jM o g rows l:=nd (by simp only[D.jM])
theorem as8 (p:Pg):D.jM o g rows (cR p)=cR p:=sK _ _ _ _ (jX p)
theorem aiy (l:List Pc):D.sc o g rows (l.map cH)=l.map cH:=yZ _ _ _ _ (wJ l)
theorem aiz (l:List Sm):D.sc o g rows (l.map a8)=l.map a8:=yZ _ _ _ _ (oK l)
theorem afK (l:List aF):D.sc o g rows (l.map encStr)=l.map encStr:=yZ _ _ _ _ (eB l)
theorem aiA (ds:List D):fzR o g rows n m ds=D.gw n m (D.jM o g rows ds):=nd rfl
theorem afL (tm:Tm):ZD o g rows m tm [] = True:=nd rfl
theorem afM (tm:Tm) (k:Nat) (d:D) (r:Tm):ZD o g rows m tm ((k,d)::r)=(Wk (((tm.get k).fK o g rows).fg o m) d∧ZD o g rows m tm r):=nd rfl
end
attribute [go_sem] ait afH aiu abF aiv afI aiw afJ aix abG abH as8 aiy aiz afK aiA afL afM
end Go.Abs
namespace Go.Abs
theorem fG (W:List Int) (m:Mc) (id:Int) (dg:List Int):(m.event W id dg).st=m.st∧(m.event W id dg).mem=m.mem∧(m.event W id dg).fin=m.fin∧(m.event W id dg).steps=m.steps∧(m.event W id dg).reads=m.reads∧(m.event W id dg).out=m.out:=by
 unfold Mc.event;split<;>exact⟨rfl,rfl,rfl,rfl,rfl,rfl⟩
theorem jN (m:Mc) (x:Ex):(m.bW x).2.st=m.st∧(m.bW x).2.mem=m.mem∧(m.bW x).2.steps=m.steps∧(m.bW x).2.reads=m.reads∧(m.bW x).2.out=m.out∧(m.bW x).2.trace=m.trace:=by
 unfold Mc.bW;dsimp only;split<;>exact⟨rfl,rfl,rfl,rfl,rfl,rfl⟩
theorem y0 : ∀ (l:List Ar) (m:Mc) (out:List Nat),(Mc.args l m out).2.st=m.st∧(Mc.args l m out).2.steps=m.steps
 | [],m,out=>⟨rfl,rfl⟩
 | a::l,m,out=>by
  simp only[Mc.args]
  split
  ·exact y0 l m _
  ·have h:=jN m a.x
   split
   ·have:=y0 l {(m.bW a.x).2 with mem:=(m.bW a.x).2.mem++ [(m.bW a.x).1.1]} (out++ [(m.bW a.x).2.mem.length])
    exact⟨this.1.trans h.1,this.2.trans h.2.2.1⟩
   ·exact⟨h.1,h.2.2.1⟩
theorem CM (p:Pg) (m:Mc) (i:Int) (l:List Nat) (c:Int):(m.open p i l c).2.st.length≤m.st.length+1∧(m.open p i l c).2.steps=m.steps:=by
 unfold Mc.open;split
 ·exact⟨Nat.le_succ _,rfl⟩
 ·exact⟨Nat.le_refl _,rfl⟩
theorem abI (p:Pg) (W:List Int) (m:Mc) (s:Sm):(m.call p W s).2.st.length≤m.st.length+1∧(m.call p W s).2.steps=m.steps:=by
 have h:=y0 s.args m []
 unfold Mc.call
 generalize Mc.args s.args m [] = r at *
 obtain⟨o,m1⟩:=r
 dsimp only at h
 cases o with
 |none=>dsimp only;rw[h.1,h.2];exact⟨Nat.le_succ _,rfl⟩
 | some l=>
  dsimp only
  split
  ·dsimp only;rw[h.1,h.2];exact⟨Nat.le_succ _,rfl⟩
  ·have h2:=CM p (m1.event W s.id []) (p.at s.proc) l s.id
   rw[(fG ..).1,(fG ..).2.2.2.1,h.1,h.2]at h2
   exact h2
theorem LJ (W:List Int) (m:Mc) (s:Sm):(m.jn W s).2.st=m.st∧(m.jn W s).2.steps=m.steps:=by
 have h:=jN m s.x
 unfold Mc.jn
 dsimp only
 split
 ·split
  ·exact⟨(fG ..).1.trans h.1,(fG ..).2.2.2.1.trans h.2.2.1⟩
  ·exact⟨h.1,h.2.2.1⟩
 ·exact⟨(fG ..).1,(fG ..).2.2.2.1⟩
theorem ZE (p:Pg) (L:List Im) (tape W:List Int) (m:Mc) (it:Im):(m.do p L tape W it).2.st=m.st∧(m.do p L tape W it).2.steps=m.steps:=by
 have h:=jN m it.s.x
 have e:=fun(m:Mc) id dg=>(⟨(fG W m id dg).1,(fG W m id dg).2.2.2.1⟩:(m.event W id dg).st=m.st∧(m.event W id dg).steps=m.steps)
 unfold Mc.do
 dsimp only
 repeat' split
 all_goals first
  |exact e ..
  |exact⟨rfl,rfl⟩
  |exact⟨(e ..).1.trans h.1,(e ..).2.trans h.2.2.1⟩
  |exact⟨h.1,h.2.2.1⟩
theorem XE (L:List Im) (m:Mc) (g:Int):(m.close L g).2.st=m.st.tail∧(m.close L g).2.steps=m.steps∧(m.st = []→(m.close L g).2.fin=1):=by
 unfold Mc.close
 dsimp only
 split
 ·exact⟨rfl,rfl,fun _=>rfl⟩
 ·rename_i hc
  refine⟨by split<;>rfl,by split<;>rfl,fun e=>absurd ?_ hc⟩
  simp[Mc.top,e]
theorem back_eq {L:List Im} {m:Mc} {g:Int} {a:Int} {m':Mc} (h:m.back L g=(some a,m')):m'.st.length<m.st.length∧m'.steps=m.steps:=by
 obtain⟨h1,h2,h3⟩:=XE L m g
 unfold Mc.back at h
 dsimp only at h
 split at h
 ·rename_i hf
  simp only[Prod.mk.injEq]at h
  rw[← h.2]
  refine⟨?_,h2⟩
  rw[h1,List.length_tail]
  cases e:m.st with
  |nil=>rw[h3 e]at hf;cases hf
  |cons x l=>simp
 ·simp at h
theorem abJ {p:Pg} {L:List Im} {tape W:List Int} {fuel a a':Int} {m m':Mc} (hs:m.steps≤fuel) (h:m.next p L tape W fuel a=(some a',m')) :
 m'.steps≤fuel∧2*(fuel - m'.steps)+m'.st.length<2*(fuel - m.steps)+m.st.length:=by
 unfold Mc.next at h
 split at h
 ·have:=back_eq h;omega
 split at h
 ·simp at h
 rename_i fi
 have hC:m.steps<fuel:=by(have:m.steps≠fuel:=by simpa using fi);omega
 dsimp only at h
 split at h
 ·have h1:=abI p W {m with steps:=m.steps+1} (gf L a).s
  simp only[Prod.mk.injEq]at h
  rw[← h.2]
  dsimp only at h1
  omega
 split at h
 ·have h1:=LJ W {m with steps:=m.steps+1} (gf L a).s
  dsimp only at h1
  split at h
  ·have h2:=back_eq h
   rw[h1.1,h1.2]at h2
   omega
  ·simp at h
 ·have h1:=ZE p L tape W {m with steps:=m.steps+1} (gf L a)
  simp only[Prod.mk.injEq]at h
  rw[← h.2,h1.1,h1.2]
  dsimp only
  omega
theorem NO (p:Pg) (L:List Im) (tape W:List Int) (fuel:Int) : ∀ (N:Nat) (a:Int) (m:Mc),m.steps≤fuel→2*(fuel - m.steps)+m.st.length<N→∃ m',Mc.go p L tape W fuel N a m=some m'
 | 0,_,_,_,h=>by omega
 | N+1,a,m,hs,h=>by
  simp only[Mc.go]
  cases e:m.next p L tape W fuel a with
  | mk o m1=>
   cases o with
   |none=>exact⟨m1,rfl⟩
   |some a1=>
    have:=abJ hs e
    exact NO p L tape W fuel N a1 m1 this.1 (by omega)
theorem Ut (p:Pg) (tape W:List Int) {fuel:Int} (h:0≤fuel) : ∃ m,runM p tape W fuel=some m:=by
 unfold runM
 have h1:=CM p (pz p) (p.at l7) [] 0
 have e1:(pz p).st.length=0:=rfl
 have e2:(pz p).steps=0:=rfl
 rw[e1,e2]at h1
 exact NO p _ tape W fuel _ _ _ (by rw[h1.2];exact h) (by rw[h1.2];omega)
structure Grow (m m':Mc):Prop where
 trace : ∃ t,m'.trace=m.trace++t
 out : ∃ t,m'.out=m.out++t
 reads:m.reads≤m'.reads
 steps:m.steps≤m'.steps
def Cb (L:List Im) (a:Int):Prop:=a = -1∨(1≤a∧a≤(L.length:Int))
theorem z7 {L:List Im} {a:Int} (h:Cb L a) (hn:a≠ -1):gf L a∈L:=by
 rcases h with h|⟨h1,h2⟩
 ·exact absurd h hn
 ·unfold gf
  rw[List.getD_eq_getElem?_getD,List.getElem?_eq_getElem (show(a - 1).toNat<L.length by omega)]
  exact List.getElem_mem _
structure LOk (p:Pg) (L:List Im):Prop where
 id : ∀ x∈L,1≤x.s.id∧x.s.id≤(L.length:Int)
 next : ∀ x∈L,Cb L x.next
 loop : ∀ x∈L,x.s.kind=7∨x.s.kind=8→1≤x.loop∧x.loop≤(L.length:Int)
 Ro : ∀ x∈L,x.s.kind=10→∃ f,p.procs[x.proc.toNat]? = some f∧Cb L (k9 f.fin x.s.name (Sm.dm f.body)).1
 bm : ∀ x∈L,Cb L (gn x.s.bm (-1))
 bc : ∀ x∈L,Cb L (gn x.s.bc (-1))
 pH : ∀ f∈p.procs,Cb L (gn f.body (-1))
def afN (L:List Im) (m:Mc):Prop:=∀ fr∈m.st,fr.call=0∨(1≤fr.call∧fr.call≤(L.length:Int))
def Told (L:List Im) (r:Option Int×Mc):Prop:=
 match r.1 with
 |some a=>Cb L a∧afN L r.2∧r.2.fin=0∧(r.2.trace.length:Int)=r.2.steps
 |none=>((r.2.fin=1∨r.2.fin=2)∧(r.2.trace.length:Int)=r.2.steps)∨((r.2.fin=3∨r.2.fin=4∨r.2.fin=5)∧(r.2.trace.length:Int)+1=r.2.steps)
theorem Uu (m:Mc) (x:Ex) (h:m.fin=0):((m.bW x).1.2=true→(m.bW x).2.fin=0)∧((m.bW x).1.2=false→(m.bW x).2.fin=4):=by
 unfold Mc.bW
 dsimp only
 constructor
 ·intro e;rw[if_pos e];exact h
 ·intro e;rw[e];rfl
theorem Eh : ∀ (l:List Ar) (m:Mc) (out:List Nat),m.fin=0→(Mc.args l m out).2.trace=m.trace∧(match (Mc.args l m out).1 with|some _=>(Mc.args l m out).2.fin=0|none=>(Mc.args l m out).2.fin=4)
 | [],m,out,h=>⟨rfl,h⟩
 | a::l,m,out,h=>by
  have hw:=Uu m a.x h
  have he:=jN m a.x
  simp only[Mc.args]
  by_cases c:a.ref=true
  ·rw[if_pos c];exact Eh l m _ h
  ·rw [if_neg c]
   by_cases c2:(m.bW a.x).1.2=true
   ·rw [if_pos c2]
    obtain⟨h1,h2⟩:=Eh l {(m.bW a.x).2 with mem:=(m.bW a.x).2.mem++ [(m.bW a.x).1.1]} (out++ [(m.bW a.x).2.mem.length]) (hw.1 c2)
    exact⟨h1.trans he.2.2.2.2.2,h2⟩
   ·rw [if_neg c2]
    exact⟨he.2.2.2.2.2,hw.2 (by simpa using c2)⟩
def aAJ (L:List Im) (r:Int×Mc):Prop:=
 (r.2.fin=0∧Cb L r.1∧afN L r.2∧(r.2.trace.length:Int)=r.2.steps)∨((r.2.fin=3∨r.2.fin=4∨r.2.fin=5)∧(r.2.trace.length:Int)+1=r.2.steps)
def aAK (m:Mc):Prop:=((m.fin=1∨m.fin=2)∧(m.trace.length:Int)=m.steps)∨((m.fin=3∨m.fin=4∨m.fin=5)∧(m.trace.length:Int)+1=m.steps)
mutual
def Sm.GN (g:Sm→Sm):Sm→Sm
 |⟨id,kind,labels,name,proc,x,has,args,bm,bc⟩=> {g ⟨id,kind,labels,name,proc,x,has,args,bm,bc⟩with bm:=Sm.Jq g bm,bc:=Sm.Jq g bc}
def Sm.Jq (g:Sm→Sm):List Sm→List Sm
 | []=> []
 |s::l=>s.GN g::Sm.Jq g l
end
def It.GN (g:Sm→Sm) (i:It):It:= {i with s:=i.s.GN g}
def Pc.GN (g:Sm→Sm) (f:Pc):Pc:= {f with body:=Sm.Jq g f.body}
def Pg.GN (g:Sm→Sm) (p:Pg):Pg:= {p with procs:=p.procs.map (Pc.GN g)}
def aAL (t:Sm) (v:Sm):Sm:=if v.id==t.id then t else v
theorem FD {zZ fin:List aF} : ∀ {l:List (Sm×Int)} {seen:List aF},td zZ fin seen l=none↔qp seen (iB (l.map Prod.fst)++fin)=false∧∀ q∈l,qE zZ q.1 q.2=true
 | [],seen=>by
  simp only[td,List.map_nil,iB,List.nil_append,List.not_mem_nil,false_imp_iff,implies_true,and_true]
  rw[B7]
  cases qp seen fin<;>simp
 | (v,lp)::l,seen=>by
  simp only[td,List.map_cons,iB,List.append_assoc]
  rw[B7,Nx v.labels]
  cases h:qp seen v.labels
  ·simp only [Bool.false_eq_true,if_false,if_true,Bool.false_or]
   cases h2:qE zZ v lp
   ·simp only [Bool.false_eq_true,if_false,reduceCtorEq,false_iff,not_and]
    intro _ h3
    have:=h3 (v,lp) (List.mem_cons_self ..)
    rw[h2]at this;cases this
   ·simp only [if_true,FD (l:=l),List.mem_cons]
    constructor
    ·rintro⟨h3,h4⟩
     refine⟨h3,fun q hq=>?_⟩
     rcases hq with rfl|hq
     ·exact h2
     ·exact h4 q hq
    ·rintro⟨h3,h4⟩
     exact⟨h3,fun q hq=>h4 q (.inr hq)⟩
  ·simp
theorem FE : ∀ {l:List Pc},tf l=none↔∀ f∈l,fD f.labels=false∧∀ q∈f.xb,qE f.labels q.1 q.2=true
 | []=>by simp[tf]
 | f::l=>by
  have e:td f.labels f.fin [] f.xb=none↔fD f.labels=false∧∀ q∈f.xb,qE f.labels q.1 q.2=true:=by
   rw[FD,aa6];rfl
  simp only[tf,List.mem_cons]
  split
  ·rename_i id h
   simp only[reduceCtorEq,false_iff]
   intro h3
   rw[e.2 (h3 f (.inl rfl))]at h
   cases h
  ·rename_i h
   rw[FE (l:=l)]
   constructor
   ·intro h3 g hg
    rcases hg with rfl|hg
    ·exact e.1 h
    ·exact h3 g hg
   ·exact fun h3 g hg=>h3 g (.inr hg)
structure Pg.Right (p:Pg):Prop where
 may:p.may=true
 tg:fD p.globals=false
 tp:fD p.pn=false
 main:p.tS=false
 own : ∀ f∈p.procs,fD (p.globals++f.own)=false
 known : ∀ f∈p.procs,∀ v∈Sm.dm f.body,v.known p f p.pn=true
 zZ : ∀ f∈p.procs,fD f.labels=false
 leads : ∀ f∈p.procs,∀ q∈f.xb,qE f.labels q.1 q.2=true
 fits : ∀ v∈p.pre,(v.kind==4)=true→v.qD p=true
 single : ∀ v∈p.pre,(v.kind==4)=true→v.yW p=true
theorem XF {p:Pg} (h:(p.check.1==0)=true):p.Right:=by
 unfold Pg.check at h
 by_cases h1:(p.scope.1==0)=true
 ·rw [if_pos h1]at h
  by_cases h2:(p.arity.1==0)=true
  ·rw [if_pos h2]at h
   by_cases h3:(p.jump.1==0)=true
   ·rw [if_pos h3]at h
    obtain⟨k1,k2,k3,k4⟩:=Eb h1
    have hj:tf p.procs=none:=by
     unfold Pg.jump at h3
     rw[if_pos h1]at h3
     cases e:tf p.procs with
     |none=>rfl
     |some id=>rw[e]at h3;cases h3
    rw[FE]at hj
    exact⟨B0 h1,k1,k2,k3,fun f hf=>(k4 f hf).1,fun f hf=>(k4 f hf).2,fun f hf=>(hj f hf).1,fun f hf=>(hj f hf).2,(Lu h2).2,Xq h2 h⟩
   ·rw[if_neg h3]at h;exact absurd h h3
  ·rw[if_neg h2]at h;exact absurd h h2
 ·rw[if_neg h1]at h;exact absurd h h1
def AtR (R:Int→Prop) (a:Int):Prop:=a = -1∨R a
theorem CN {R:Int→Prop} {l:List Sm} {o:Int} (h : ∀ v∈Sm.dm l,R v.id) (ho:AtR R o):AtR R (gn l o):=by
 cases l with
 |nil=>exact ho
 |cons s l=>exact .inr (h s (by rw[Sm.dm,Sm.qo];exact List.mem_append_left _ (List.mem_cons_self ..)))
mutual
theorem afO {R:Int→Prop} (proc up next loop:Int) : ∀ s:Sm,(∀ v∈s.pre,R v.id)→AtR R next→(loop=0∨R loop)→
 ∀ x∈s.vY proc up next loop,x.proc=proc∧AtR R x.next∧(x.loop=0∨R x.loop)∧AtR R (gn x.s.bm (-1))∧AtR R (gn x.s.bc (-1))∧x.s∈s.pre
 | ⟨id,kind,labels,name,pc,x,has,args,bm,bc⟩,h,hn,hl,y,m=>by
  have uS:=h _ (by rw[Sm.qo];exact List.mem_cons_self ..)
  have h1 : ∀ v∈Sm.dm bm,R v.id:=fun v m=>h v (by rw[Sm.qo];exact List.mem_cons_of_mem _ (List.mem_append_left _ m))
  have h2 : ∀ v∈Sm.dm bc,R v.id:=fun v m=>h v (by rw[Sm.qo];exact List.mem_cons_of_mem _ (List.mem_append_right _ m))
  have mU:AtR R (if kind==6 then id else next):=by split;exact .inr uS;exact hn
  have mD:(if kind==6 then id else loop)=0∨R (if kind==6 then id else loop):=by split;exact .inr uS;exact hl
  rw[Sm.qo]
  simp only[Sm.vY,List.mem_cons,List.mem_append]at m
  rcases m with rfl|m|m
  ·exact⟨rfl,hn,hl,CN h1 (.inl rfl),CN h2 (.inl rfl),List.mem_cons_self ..⟩
  ·obtain⟨g1,g2,g3,g4,g5,g6⟩:=y5 proc id _ _ bm h1 mU mD y m
   exact⟨g1,g2,g3,g4,g5,List.mem_cons_of_mem _ (List.mem_append_left _ g6)⟩
  ·obtain⟨g1,g2,g3,g4,g5,g6⟩:=y5 proc id _ _ bc h2 mU mD y m
   exact⟨g1,g2,g3,g4,g5,List.mem_cons_of_mem _ (List.mem_append_right _ g6)⟩
theorem y5 {R:Int→Prop} (proc up next loop:Int) : ∀ l:List Sm,(∀ v∈Sm.dm l,R v.id)→AtR R next→(loop=0∨R loop)→
 ∀ x∈Sm.jY proc up next loop l,x.proc=proc∧AtR R x.next∧(x.loop=0∨R x.loop)∧AtR R (gn x.s.bm (-1))∧AtR R (gn x.s.bc (-1))∧x.s∈Sm.dm l
 | [],_,_,_,x,m=>by simp[Sm.jY]at m
 | s::l,h,hn,hl,x,m=>by
  simp only[Sm.dm,List.mem_append]at h
  simp only[Sm.jY,List.mem_append]at m
  simp only[Sm.dm,List.mem_append]
  rcases m with m|m
  ·obtain⟨g1,g2,g3,g4,g5,g6⟩:=afO proc up _ loop s (fun v m=>h v (.inl m)) (CN (fun v m=>h v (.inr m)) hn) hl x m
   exact⟨g1,g2,g3,g4,g5, .inl g6⟩
  ·obtain⟨g1,g2,g3,g4,g5,g6⟩:=y5 proc up next loop l (fun v m=>h v (.inr m)) hn hl x m
   exact⟨g1,g2,g3,g4,g5, .inr g6⟩
end
theorem LK {x:Im} : ∀ (l:List Pc) (k:Nat),x∈qc k l→∃ i f,l[i]? = some f∧x∈Sm.jY ((k+i:Nat):Int) 0 (-1) 0 f.body
 | [],_,h=>by simp[qc]at h
 | f::l,k,h=>by
  simp only[qc,List.mem_append]at h
  rcases h with h|h
  ·exact⟨0,f,rfl,h⟩
  ·obtain⟨i,g,h1,h2⟩:=LK l (k+1) h
   exact⟨i+1,g,by simpa using h1,by rw[show k+(i+1)=k+1+i by omega];exact h2⟩
theorem LL {x:Im} : ∀ (l:List Pc) (k:Nat) {i:Nat} {f:Pc},l[i]? = some f→x∈Sm.jY ((k+i:Nat):Int) 0 (-1) 0 f.body→x∈qc k l
 |f::l,k,0,g,h,m=>by simp at h;subst h;exact List.mem_append_left _ m
 |f::l,k,i+1,g,h,m=>List.mem_append_right _ (LL l (k+1) (i:=i) (by simpa using h) (by rw[show k+1+i=k+(i+1) by omega];exact m))
theorem Uv : ∀ (l:List Pc) (k:Nat),(qc k l).map Im.s=(l.map fun f=>Sm.dm f.body).flatten
 | [],_=>rfl
 |f::l,k=>by simp only[qc,List.map_append,r8,Uv l,List.map_cons,List.flatten_cons]
theorem NP {R:Int→Prop} {fin:List aF} {Tv:aF} : ∀ {l:List Sm},(∀ v∈l,R v.id)→(k9 fin Tv l).2=true→AtR R (k9 fin Tv l).1
 | [],_,h=>by
  simp only[k9]at h ⊢
  split at h
  ·rename_i c;rw[if_pos c];exact .inl rfl
  ·cases h
 | v::l,hv,h=>by
  simp only[k9]at h ⊢
  split
  ·exact .inr (hv v (List.mem_cons_self ..))
  ·rename_i c
   rw[if_neg c]at h
   exact NP (fun w m=>hv w (List.mem_cons_of_mem _ m)) h
def Hm (L:List Im) (k:Int) (a:Int):Prop:=1≤a∧a≤(L.length:Int)∧(gf L a).proc=k
structure Cc (p:Pg) (L:List Im) (x:Im) (f:Pc):Prop where
 self:gf L x.s.id=x∧1≤x.s.id∧x.s.id≤(L.length:Int)
 proc:p.procs[x.proc.toNat]? = some f∧0≤x.proc
 mem:x.s∈Sm.dm f.body
 next:AtR (Hm L x.proc) x.next
 loop:x.s.kind=7∨x.s.kind=8→Hm L x.proc x.loop
 bm:AtR (Hm L x.proc) (gn x.s.bm (-1))
 bc:AtR (Hm L x.proc) (gn x.s.bc (-1))
 Ro:x.s.kind=10→AtR (Hm L x.proc) (k9 f.fin x.s.name (Sm.dm f.body)).1
structure POk (p:Pg) (L:List Im):Prop where
 im : ∀ x∈L,∃ f,Cc p L x f
 head : ∀ (i:Nat) (f:Pc),p.procs[i]? = some f→AtR (Hm L i) (gn f.body (-1))
theorem q7 {p:Pg} (h:p.Right):POk p p.bh.L:=by
 have hL:=T8 h.may
 have hs:p.bh.L.map Im.s=p.pre:=by rw[hL,Uv];rfl
 have hlen:p.bh.L.length=p.pre.length:=by rw[← hs,List.length_map]
 have self : ∀ x∈p.bh.L,gf p.bh.L x.s.id=x∧1≤x.s.id∧x.s.id≤(p.bh.L.length:Int):=fun x m=>by
  obtain⟨i,hi⟩:=List.getElem?_of_mem m
  have h1:=Lc h.may (i:=i) (v:=x.s) (by rw[← hs,List.getElem?_map,hi];rfl)
  have h2:=(List.getElem?_eq_some_iff.1 hi).1
  refine⟨?_,by omega,by omega⟩
  unfold gf
  rw[h1,show(((i+1:Nat):Int) - 1).toNat=i by omega,List.getD_eq_getElem?_getD,hi];rfl
 have there : ∀ (i:Nat) (f:Pc),p.procs[i]? = some f→∀ v∈Sm.dm f.body,Hm p.bh.L i v.id:=fun i f hf v m=>by
  rw[← r8 (i:Int) 0 (-1) 0 f.body]at m
  obtain⟨x,hx,rfl⟩:=List.mem_map.1 m
  have hxL:x∈p.bh.L:=by rw[hL];exact LL p.procs 0 hf (by simpa using hx)
  obtain⟨g1,g2,g3⟩:=self x hxL
  exact⟨g2,g3,by rw[g1];exact(y5 (R:=fun _=>True) _ 0 (-1) 0 f.body (fun _ _=>trivial) (.inl rfl) (.inl rfl) x hx).1⟩
 refine⟨fun x m=>?_,fun i f hf=>CN (there i f hf) (.inl rfl)⟩
 have m':=m
 rw[hL]at m'
 obtain⟨i,f,h1,h2⟩:=LK p.procs 0 m'
 have hf:=List.mem_of_getElem? h1
 rw[Nat.zero_add]at h2
 obtain⟨g1,g2,g3,g4,g5,g6⟩:=y5 (R:=Hm p.bh.L i) _ 0 (-1) 0 f.body (there i f h1) (.inl rfl) (.inl rfl) x h2
 have hl:=h.leads f hf (x.s,x.loop) (by rw[← Lo (i:Int) f];exact List.mem_map.2 ⟨x,h2,rfl⟩)
 refine⟨f,self x m,⟨by rw[g1];simpa using h1,by rw[g1];exact Int.natCast_nonneg _⟩,g6,by rw[g1];exact g2,fun hk=>?_,by rw[g1];exact g4,by rw[g1];exact g5,fun hk=>?_⟩
 ·rw [g1]
  refine g3.resolve_left fun e=>?_
  unfold qE at hl
  rw[if_pos (by rcases hk with hk|hk<;>simp[hk]),e]at hl
  cases hl
 ·rw [g1]
  refine NP (there i f h1) ?_
  unfold qE at hl
  rw[if_neg (by simp[hk]),if_pos (by simp[hk])]at hl
  rw[B8];exact hl
theorem LM {vars globals:List aF} {n:aF} : ∀ {l:List Pm},wZ vars globals n l≠0→n∈l.map (·.name)∨n∈vars∨n∈globals
 | [],h=>by
  simp only[wZ]at h
  split at h
  ·rename_i e;exact .inr (.inl ((jh _ _).1 e))
  ·split at h
   ·rename_i e;exact .inr (.inr ((jh _ _).1 e))
   ·exact absurd rfl h
 | a::l,h=>by
  simp only[wZ]at h
  split at h
  ·rename_i e;exact .inl (by simp only[List.map_cons,List.mem_cons];exact .inl (by simpa using Eq.symm (by simpa using e)))
  ·rcases LM h with h | h
   ·exact .inl (List.mem_cons_of_mem _ h)
   ·exact .inr h
theorem XG {p:Pg} {f:Pc} {v:Sm} (h:v.known p f p.pn=true) {n:aF} (m:n∈v.said):n∈p.globals++f.own:=by
 simp only[Sm.known,Bool.and_eq_true,Bool.not_eq_true']at h
 have h1:f.lz p n≠0:=fun e=>by
  have:v.said.any (fun n=>f.lz p n==0)=true:=List.any_eq_true.2 ⟨n,m,by simp[e]⟩
  rw[h.1]at this;cases this
 simp only[List.mem_append,Pc.own,Pc.tQ]
 rcases LM h1 with h2|h2|h2
 ·exact .inr (.inl h2)
 ·exact .inr (.inr h2)
 ·exact .inl h2
theorem va {n:aF} : ∀ {l:List Ar} {out:List aF},n∈out∨(∃ a∈l,a.ref=true∧a.name=n)→n∈Ar.said out l
 | [],out,h=>by rcases h with h|⟨a,m,_⟩;exact h;cases m
 | b::l,out,h=>by
  simp only[Ar.said]
  refine va ?_
  rcases h with h|⟨a,m,h1,h2⟩
  ·left;split<;>simp[h]
  ·rcases List.mem_cons.1 m with rfl | m
   ·left;rw[if_pos h1];simp[h2]
   ·exact .inr ⟨a,m,h1,h2⟩
theorem LN {x:aF} : ∀ {l:List aF} {k:Nat},x∈l→∃ j:Nat,jg x (k:Int) l=((k+j:Nat):Int)∧j<l.length
 | s::l,k,m=>by
  by_cases e:x=s
  ·subst e;exact⟨0,by simp[jg],by simp⟩
  ·have e':(x==s)=false:=by simp [e]
   obtain⟨j,h1,h2⟩:=LN (l:=l) (k:=k+1) ((List.mem_cons.1 m).resolve_left e)
   refine⟨j+1, ?_,by simp;omega⟩
   simp only[jg,e',Bool.false_eq_true,if_false]
   rw[show(k:Int)+1=((k+1:Nat):Int) by omega,h1];congr 1;omega
theorem Jr {name:aF} {f:Pc} : ∀ {l:List Pc} {k:Nat},iT name l=some f→∃ j:Nat,k7 (fun f:Pc=>f.name==name) (k:Int) l=((k+j:Nat):Int)∧l[j]? = some f
 | g::l,k,h=>by
  simp only[iT]at h
  by_cases e:(g.name==name)=true
  ·rw [if_pos e]at h;cases h
   exact⟨0,by simp only[k7,e,if_true,Nat.add_zero],rfl⟩
  ·have e':(g.name==name)=false:=by simpa using e
   rw[if_neg e]at h
   obtain⟨j,h1,h2⟩:=Jr (l:=l) (k:=k+1) h
   refine⟨j+1, ?_,by simpa using h2⟩
   simp only[k7,e',Bool.false_eq_true,if_false]
   rw[show(k:Int)+1=((k+1:Nat):Int) by omega,h1];congr 1;omega
def Ei (p:Pg) (n:Nat) (fr:Fr):Prop:=∃ f,p.procs[fr.proc.toNat]? = some f∧0≤fr.proc∧fr.names=p.globals++f.own∧fr.vars.length=fr.names.length∧∀ c∈fr.vars,c<n
def CO (L:List Im):List Fr→Prop
 | []=>False
 | [fr]=>fr.call=0
 |fr::uN::l=>(Hm L uN.proc fr.call∧(gf L fr.call).s.kind=4)∧CO L (uN::l)
structure pA (p:Pg) (L:List Im) (a:Int) (m:Mc):Prop where
 st:CO L m.st
 fr : ∀ fr∈m.st,Ei p m.mem.length fr
 at_:AtR (Hm L m.top.proc) a
 ux:p.globals.length≤m.mem.length
theorem Ei.mono {p:Pg} {n n':Nat} {fr:Fr} (h:Ei p n fr) (hn:n≤n'):Ei p n' fr:=by
 obtain⟨f,h1,h2,h3,h4,h5⟩:=h
 exact⟨f,h1,h2,h3,h4,fun c m=>Nat.lt_of_lt_of_le (h5 c m) hn⟩
theorem CO.ne {L:List Im} {l:List Fr} (h:CO L l) : ∃ fr r,l=fr::r:=by
 cases l with
 |nil=>exact h.elim
 |cons fr r=>exact⟨fr,r,rfl⟩
theorem Mc.abK {L:List Im} {m:Mc} (h:CO L m.st):m.top∈m.st:=by
 obtain⟨fr,r,e⟩:=h.ne
 simp[Mc.top,e]
theorem pA.of {p:Pg} {L:List Im} {a a':Int} {m m':Mc} (h:pA p L a m) (h1:m'.st=m.st) (h2:m.mem.length≤m'.mem.length) (h3:AtR (Hm L m.top.proc) a'):pA p L a' m':=by
 have ht:m'.top=m.top:=by unfold Mc.top;rw[h1]
 exact⟨by rw[h1];exact h.st,fun fr hf=>(h.fr fr (by rw[← h1];exact hf)).mono h2,by rw[ht];exact h3,Nat.le_trans h.ux h2⟩
section
variable {p:Pg} {L:List Im} {m:Mc}
theorem abL {n:aF} {k:Nat} (h:Ei p k m.top) (hn:n∈m.top.names):m.cell n<k∧∃ j:Nat,jg n 0 m.top.names=(j:Int)∧m.top.vars[j]? = some (m.cell n):=by
 obtain⟨f,h1,h2,h3,h4,h5⟩:=h
 obtain⟨j,e1,e2⟩:=LN (k:=0) hn
 have e3:jg n 0 m.top.names=(j:Int):=by simpa using e1
 have e4:m.top.vars[j]? = some (m.cell n):=by
  unfold Mc.cell
  rw[e3,Int.toNat_natCast,List.getD_eq_getElem?_getD,List.getElem?_eq_getElem (by omega)];rfl
 exact⟨h5 _ (List.mem_of_getElem? e4),j,e3,e4⟩
theorem GO {k:Nat} (hk:p.globals.length≤k) : ∀ (l:List Ar) (m:Mc) (out:List Nat),Ei p m.mem.length m.top→(∀ a∈l,a.ref=true→a.name∈m.top.names)→(∀ c∈out,c<m.mem.length)→
 m.mem.length≤(Mc.args l m out).2.mem.length∧∀ o,(Mc.args l m out).1=some o→o.length=out.length+l.length∧∀ c∈o,c<(Mc.args l m out).2.mem.length
 | [],m,out,h,_,ho=>⟨Nat.le_refl _,fun o e=>by cases e;exact⟨rfl,ho⟩⟩
 | a::l,m,out,h,hn,ho=>by
  simp only[Mc.args]
  by_cases c:a.ref=true
  ·rw [if_pos c]
   obtain⟨g1,g2⟩:=GO hk l m (out++ [m.cell a.name]) h (fun b mb=>hn b (List.mem_cons_of_mem _ mb)) fun x mx=>by
    rcases List.mem_append.1 mx with mx|mx
    ·exact ho x mx
    ·rw[List.mem_singleton.1 mx];exact(abL h (hn a (List.mem_cons_self ..) c)).1
   exact⟨g1,fun o e=>⟨by rw[(g2 o e).1];simp;omega,(g2 o e).2⟩⟩
  ·rw [if_neg c]
   have he:=jN m a.x
   by_cases c2:(m.bW a.x).1.2=true
   ·rw [if_pos c2]
    have ht:({(m.bW a.x).2 with mem:=(m.bW a.x).2.mem++ [(m.bW a.x).1.1]} : Mc).top=m.top:=by unfold Mc.top;rw[he.1]
    have hl:(m.bW a.x).2.mem.length=m.mem.length:=by rw[he.2.1]
    obtain⟨g1,g2⟩:=GO hk l {(m.bW a.x).2 with mem:=(m.bW a.x).2.mem++ [(m.bW a.x).1.1]} (out++ [(m.bW a.x).2.mem.length]) (by rw[ht];exact h.mono (by simp[hl])) (by rw[ht];exact fun b mb=>hn b (List.mem_cons_of_mem _ mb)) fun x mx=>by
     rcases List.mem_append.1 mx with mx|mx
     ·have:=ho x mx;simp[hl];omega
     ·rw[List.mem_singleton.1 mx];simp
    exact⟨Nat.le_trans (by simp[hl]) g1,fun o e=>⟨by rw[(g2 o e).1];simp;omega,(g2 o e).2⟩⟩
   ·rw [if_neg c2]
    exact⟨by rw[he.2.1];exact Nat.le_refl _,fun o e=>by cases e⟩
theorem NQ (hP:POk p L) {i:Nat} {f:Pc} (hf:p.procs[i]? = some f) {l:List Nat} {call:Int} (hl:l.length=f.params.length) (hc : ∀ c∈l,c<m.mem.length) (hg:p.globals.length≤m.mem.length)
 (Aw : ∀ fr∈m.st,Ei p m.mem.length fr) (jR:(m.st = []∧call=0)∨(CO L m.st∧Hm L m.top.proc call∧(gf L call).s.kind=4)):pA p L (m.open p (i:Int) l call).1 (m.open p (i:Int) l call).2:=by
 unfold Mc.open
 rw[Int.toNat_natCast,hf]
 dsimp only
 refine⟨?_,fun fr h=>?_,by exact hP.head i f hf,by simp;omega⟩
 ·rcases jR with ⟨h1,h2⟩ | ⟨h1,h2⟩
  ·rw[h1];exact h2
  ·obtain⟨fr,r,e⟩:=h1.ne
   dsimp only
   rw[e]at h1 ⊢
   have:m.top=fr:=by simp[Mc.top,e]
   rw[this]at h2
   exact⟨h2,h1⟩
 ·rcases List.mem_cons.1 h with rfl | h
  ·refine⟨f,by rw [Int.toNat_natCast];exact hf,Int.natCast_nonneg _,rfl,by simp [Pc.own,Pc.tQ,hl],fun c m=> ?_⟩
   simp only[List.mem_append,List.mem_range,List.mem_map]at m
   simp only[List.length_append,List.length_replicate]
   rcases m with (m|m)|⟨x,m,rfl⟩
   ·omega
   ·have:=hc c m;omega
   ·omega
  ·exact(Aw fr h).mono (by simp)
theorem abM (hP:POk p L) {a:Int} (h:pA p L a m) {g:Int} {a':Int} {m':Mc} (e:m.back L g=(some a',m')):pA p L a' m':=by
 have hs:=h.st
 unfold Mc.back Mc.close at e
 dsimp only at e
 obtain⟨fr,r,es⟩:=hs.ne
 have ht:m.top=fr:=by simp[Mc.top,es]
 by_cases c:(m.top.call==0)=true
 ·rw[if_pos c]at e;cases e
 ·rw [if_neg c]at e
  rw[es]at hs
  cases r with
  |nil=>rw[ht]at c;exact absurd (beq_iff_eq.2 (show fr.call=0 from hs)) c
  | cons uN r=>
   obtain⟨⟨h1,_⟩,h2⟩:=hs
   have iM:gf L m.top.call∈L:=z7 (.inr (by rw[ht];exact⟨h1.1,h1.2.1⟩)) (by have:=h1.1;rw[ht];omega)
   obtain⟨f,o⟩:=hP.im _ iM
   have ho:=o.next
   rw[show(gf L m.top.call).proc=uN.proc by rw[ht];exact h1.2.2]at ho
   rw[ht]at ho
   split at e<;>(dsimp only at e;split at e)<;>first|(cases e;done)|skip
   all_goals
    cases e
    refine⟨by simp only[Mc.set,es,List.tail_cons];exact h2,fun q hq=>?_,by simp only[Mc.set,Mc.top,es,List.tail_cons,List.headD_cons];exact ho,by simp only[Mc.set,List.length_set];exact h.ux⟩
    simp only[Mc.set,List.length_set]at hq ⊢
    exact h.fr q (by rw[es]at hq ⊢;exact List.mem_cons_of_mem _ hq)
end
theorem z8 {p:Pg} (hR:p.Right) {x:Im} {f:Pc} (h:Cc p p.bh.L x f) {n:aF} (m:n∈x.s.said):n∈p.globals++f.own:=
 XG (hR.known f (List.mem_of_getElem? h.proc.1) x.s h.mem) m
theorem abN {p:Pg} (hR:p.Right) {x:Im} {f:Pc} (h:Cc p p.bh.L x f) (hk:x.s.kind=4) : ∃ (j:Nat) (q:Pc),p.at x.s.proc=(j:Int)∧p.procs[j]? = some q∧x.s.args.length=q.params.length:=by
 have qb:x.s∈p.pre:=by
  simp only[Pg.pre,List.mem_flatten,List.mem_map];exact⟨_,⟨f,List.mem_of_getElem? h.proc.1,rfl⟩,h.mem⟩
 have hf:=hR.fits x.s qb (by simp[hk])
 unfold Sm.qD at hf
 simp only[Bool.and_eq_true]at hf
 cases e:p.find x.s.proc with
 |none=>rw[e]at hf;cases hf.2
 |some q=>
  rw[e]at hf
  obtain⟨j,h1,h2⟩:=Jr (k:=0) e
  refine⟨j,q,by simpa[Pg.at]using h1,h2, ?_⟩
  have:=hf.2
  simp only[CH]at this
  split at this
  ·rename_i h3;have:=(beq_iff_eq.1 h3);omega
  ·cases this
theorem abO {p:Pg} (hR:p.Right) {m:Mc} {W:List Int} {x:Im} {f:Pc} {a a':Int} {m':Mc} (h:pA p p.bh.L a m) (hx:Cc p p.bh.L x f) (hk:x.s.kind=4) (hp:x.proc=m.top.proc) (LO:(m.call p W x.s).2.fin=0)
 (e:m.call p W x.s=(a',m')) (h0:m.fin=0):pA p p.bh.L a' m':=by
 have hP:=q7 hR
 have Aa:=h.fr _ (Mc.abK h.st)
 obtain⟨f',t1,t2,t3,t4,t5⟩:=Aa
 have ef:f'=f:=by have:=hx.proc.1;rw[hp,t1]at this;exact Option.some.inj this
 subst ef
 have afR : ∀ b∈x.s.args,b.ref=true→b.name∈m.top.names:=fun b mb hb=>by
  rw[t3];exact z8 hR hx (va (.inr ⟨b,mb,hb,rfl⟩))
 obtain⟨j,q,c1,c2,c3⟩:=abN hR hx hk
 have g1:=GO h.ux x.s.args m [] ⟨f',t1,t2,t3,t4,t5⟩ afR (by simp)
 have g2:=y0 x.s.args m []
 have g3:=Eh x.s.args m [] h0
 unfold Mc.call at e LO
 generalize Mc.args x.s.args m [] = r at *
 obtain⟨o,m1⟩:=r
 cases o with
 |none=>
  dsimp only at LO g3
  rw[g3.2]at LO;cases LO
 | some l=>
  dsimp only at e LO g1 g2 g3
  by_cases c:m1.st.length > 100
  ·rw[if_pos c]at LO;cases LO
  ·rw [if_neg c]at e
   have he:=fG W m1 x.s.id []
   have ht:(m1.event W x.s.id []).top=m.top:=by unfold Mc.top;rw[he.1,g2.1]
   have:=NQ (m:=m1.event W x.s.id []) hP c2 (l:=l) (call:=x.s.id) (by rw[(g1.2 l rfl).1,c3];simp) (by rw[he.2.1];exact(g1.2 l rfl).2) (by rw[he.2.1];exact Nat.le_trans h.ux g1.1)
    (by rw[he.1,he.2.1,g2.1];exact fun fr Aw=>(h.fr fr Aw).mono g1.1) (.inr ⟨by rw[he.1,g2.1];exact h.st,by rw[ht];exact⟨hx.self.2.1,hx.self.2.2,by rw[hx.self.1];exact hp⟩,by rw[hx.self.1];exact hk⟩)
   rw[← c1,e]at this
   exact this
theorem aiC {p:Pg} (hR:p.Right) {m:Mc} {T W:List Int} {x:Im} {f:Pc} {a:Int} (h:pA p p.bh.L a m) (hx:Cc p p.bh.L x f) (hp:x.proc=m.top.proc) :
 ((m.do p p.bh.L T W x).2.fin=0→pA p p.bh.L (m.do p p.bh.L T W x).1 (m.do p p.bh.L T W x).2):=by
 intro h0
 have ev : ∀ (m1:Mc) (id:Int) (dg:List Int),(m1.event W id dg).st=m1.st∧(m1.event W id dg).mem=m1.mem:=fun m1 id dg=>⟨(fG W m1 id dg).1,(fG W m1 id dg).2.1⟩
 have key : ∀ (m1:Mc) (b:Int),m1.st=m.st→m1.mem.length=m.mem.length→AtR (Hm p.bh.L x.proc) b→pA p p.bh.L b m1:=fun m1 b h1 h2 h3=>h.of h1 (Nat.le_of_eq h2.symm) (by rw[← hp];exact h3)
 have hw:=jN m x.s.x
 unfold Mc.do at h0 ⊢
 dsimp only at h0 ⊢
 by_cases c7:(x.s.kind==7)=true
 ·rw [if_pos c7]
  have hk:x.s.kind=7:=by simpa using c7
  have hl:=hx.loop (.inl hk)
  have iM:=z7 (L:=p.bh.L) (a:=x.loop) (.inr ⟨hl.1,hl.2.1⟩) (by have:=hl.1;omega)
  obtain⟨g,o⟩:=(q7 hR).im _ iM
  refine key _ _ (ev _ _ _).1 (by rw[(ev _ _ _).2]) ?_
  have:=o.next
  rw[hl.2.2]at this;exact this
 rw[if_neg c7]at h0 ⊢
 by_cases c8:(x.s.kind==8)=true
 ·rw [if_pos c8]
  exact key _ _ (ev _ _ _).1 (by rw[(ev _ _ _).2]) (.inr (hx.loop (.inr (by simpa using c8))))
 rw[if_neg c8]at h0 ⊢
 by_cases c10:(x.s.kind==10)=true
 ·rw [if_pos c10]
  refine key _ _ (ev _ _ _).1 (by rw[(ev _ _ _).2]) ?_
  have:=hx.Ro (by simpa using c10)
  rw[hx.proc.1];exact this
 rw[if_neg c10]at h0 ⊢
 by_cases c2:(x.s.kind==2)=true
 ·rw [if_pos c2]at h0 ⊢
  split at h0
  ·cases h0
  ·rename_i n e
   exact key _ _ (ev _ _ _).1 (by rw[(ev _ _ _).2];simp[Mc.set]) hx.next
 rw[if_neg c2]at h0 ⊢
 by_cases cw:(m.bW x.s.x).1.2=true
 ·rw [if_pos cw]at h0 ⊢
  have e1:((m.bW x.s.x).2.event W x.s.id [(m.bW x.s.x).1.1]).st=m.st:=(ev _ _ _).1.trans hw.1
  have e2:((m.bW x.s.x).2.event W x.s.id [(m.bW x.s.x).1.1]).mem.length=m.mem.length:=by rw[(ev _ _ _).2,hw.2.1]
  have fo : ∀ (l:List Sm) (b:Int),AtR (Hm p.bh.L x.proc) (gn l (-1))→AtR (Hm p.bh.L x.proc) b→AtR (Hm p.bh.L x.proc) (firstM l b):=fun l b h1 h2=>by
   cases l with
   |nil=>exact h2
   |cons s l=>exact h1
  split
  ·exact key _ _ e1 (by simp only[Mc.set,List.length_set];exact e2) hx.next
  split
  ·exact key _ _ e1 e2 hx.next
  split
  ·refine key _ _ e1 e2 ?_
   split
   ·exact fo _ _ hx.bc hx.next
   ·exact fo _ _ hx.bm hx.next
  split
  ·refine key _ _ e1 e2 ?_
   split
   ·exact hx.next
   ·exact fo _ _ hx.bm (.inr ⟨hx.self.2.1,hx.self.2.2,by rw[hx.self.1]⟩)
  ·exact key _ _ e1 e2 hx.next
 ·rw [if_neg cw]at h0
  have:(m.bW x.s.x).2.fin=4:=by unfold Mc.bW;dsimp only;rw[if_neg (show ¬ (x.s.x.bW m.top.names m.dg).2=true from cw)]
  rw[this]at h0;cases h0
end Go.Abs
namespace Go.Abs
structure Lay where
 κ:List Nat
 φ:List Nat
 sd:D
 vd:D
def D.arr:D→List Nat
 | .eF _ o _ _=> [o]
 |_=> []
def Lay.own (y:Lay):List Nat:=0::(y.κ++(y.sd.arr++y.vd.arr))
def fh (o:Nat):List D:= [.ptr o 0]
def pB (κ:List Nat) (f:Fr):List D:= [.int .i64 f.proc, .slice .shared 1 (f.names.map encStr), .slice .shared 1 (f.vars.map fun c=>fh (κ.getD c 0)), .int .i64 f.call]
def gC (e:Int×List Int):List D:= [.int .i64 e.1, .slice .shared 1 (e.2.map cO)]
abbrev fu (p:Pg) (T W:List Int) (y:Lay) (m:Mc):List D:=
 [.dL (fw p) 0, .slice .shared 1 ((y.κ.take p.globals.length).map fh), .slice .shared 1 (T.map cO), .slice .shared 1 (W.map cO),y.sd,y.vd,
  .int .i64 m.fin, .int .i64 m.steps, .int .i64 m.reads, .slice (.tok 0) 1 (m.out.map cO), .slice (.tok 1) 2 (m.trace.map gC)]
def qQ (n:Int):D:= .int .i64 n
def xS (o:Nat):D:= .ptr o 0
def jO (s:St) (d:D) (cs:List D):Prop:=(d = .eD 1∧cs = [])∨∃ o g more,d = .eF 1 o g cs.length∧s.ah[o]? = some (.int .i64 ((g:Nat):Int)::(cs++more))
structure Inv (p:Pg) (T W:List Int) (y:Lay) (m:Mc) (loc:List (Nat×List D)) (s:St):Prop where
 jP:s.ah[0]? = some (fu p T W y m)
 t0:s.aw[0]? = some (some m.out.length)
 t1:s.aw[1]? = some (some m.trace.length)
 len:y.κ.length=m.mem.length
 cell : ∀ (i c:Nat) (v:Int),y.κ[i]? = some c→m.mem[i]? = some v→s.ah[c]? = some [.int .i64 v]
 sL:y.φ.length=m.st.length
 frame : ∀ (i o:Nat) (fr:Fr),y.φ[i]? = some o→m.st[i]? = some fr→s.ah[o]? = some (pB y.κ fr)∧o∉y.own∧∀ c∈fr.vars,c<m.mem.length
 stack:jO s y.sd (y.φ.reverse.map xS)
 dg : ∃ l:List Int,jO s y.vd (l.map qQ)
 own:y.own.Nodup
 loc : ∀ q∈loc,s.ah[q.1]? = some q.2∧q.1∉y.own
theorem jO.lt {s:St} {d:D} {cs:List D} (h:jO s d cs) : ∀ o∈d.arr,o<s.ah.length:=by
 rcases h with ⟨rfl,_⟩|⟨o,g,more,rfl,h⟩
 ·intro o m;simp[D.arr]at m
 ·intro o' m
  have:o'=o:=by simpa[D.arr]using m
  subst this;exact gd h
theorem jO.keep {s s':St} {d:D} {cs:List D} (h:jO s d cs) (k : ∀ o∈d.arr,s'.ah[o]? = s.ah[o]?):jO s' d cs:=by
 rcases h with h|⟨o,g,more,rfl,h⟩
 ·exact .inl h
 ·exact .inr ⟨o,g,more,rfl,by rw[k o (by simp[D.arr])];exact h⟩
theorem HY {κ e:List Nat} {fr:Fr} (h : ∀ c∈fr.vars,c<κ.length):pB (κ++e) fr=pB κ fr:=by
 unfold pB
 rw[List.map_congr_left (g:=fun c=>fh (κ.getD c 0)) fun c m=>by rw[List.getD_eq_getElem?_getD,List.getD_eq_getElem?_getD,List.getElem?_append_left (h c m)]]
section
variable {p:Pg} {T W:List Int} {y:Lay} {m:Mc} {loc:List (Nat×List D)} {s:St}
theorem Inv.tU (h:Inv p T W y m loc s) : ∀ o∈y.own,o<s.ah.length:=by
 intro o mo
 simp only[Lay.own,List.mem_cons,List.mem_append]at mo
 rcases mo with rfl|mo|mo|mo
 ·exact gd h.jP
 ·obtain⟨i,hi⟩:=List.getElem?_of_mem mo
  have hC:=(List.getElem?_eq_some_iff.1 hi).1
  exact gd (h.cell i o _ hi (List.getElem?_eq_getElem (by rw[← h.len];exact hC)))
 ·exact h.stack.lt o mo
 ·obtain⟨l,hl⟩:=h.dg
  exact hl.lt o mo
theorem Inv.uO (h:Inv p T W y m loc s):0<s.ah.length:=gd h.jP
theorem Inv.sub (h:Inv p T W y m loc s) {afT:List (Nat×List D)} (hl : ∀ q∈afT,q∈loc):Inv p T W y m afT s:= {h with loc:=fun q m=>h.loc q (hl q m)}
theorem Inv.keep (h:Inv p T W y m loc s) {s':St} (k : ∀ (o:Nat) (r:List D),s.ah[o]? = some r→s'.ah[o]? = some r) (k0:s'.aw[0]? = s.aw[0]?) (k1:s'.aw[1]? = s.aw[1]?):Inv p T W y m loc s':=by
 have ka : ∀ {d:D} {cs:List D},jO s d cs→jO s' d cs:=fun ha=>ha.keep fun o mo=>by
  rw[List.getElem?_eq_getElem (ha.lt o mo)];exact k o _ (List.getElem?_eq_getElem _)
 obtain⟨l,hl⟩:=h.dg
 exact⟨k _ _ h.jP,by rw[k0];exact h.t0,by rw[k1];exact h.t1,h.len,fun i c v h1 h2=>k _ _ (h.cell i c v h1 h2),h.sL,fun i o fr h1 h2=>⟨k _ _ (h.frame i o fr h1 h2).1,(h.frame i o fr h1 h2).2⟩,
  ka h.stack,⟨l,ka hl⟩,h.own,fun q m=>⟨k _ _ (h.loc q m).1,(h.loc q m).2⟩⟩
theorem Inv.new (h:Inv p T W y m loc s) (row:List D):Inv p T W y m ((s.ah.length,row)::loc) ⟨s.ah++ [row],s.aw⟩:=by
 have h':=h.keep (s':=⟨s.ah++ [row],s.aw⟩) (fun o r e=>by rw[List.getElem?_append_left (gd e)];exact e) rfl rfl
 refine {h' with loc:=fun q mq=>?_}
 rcases List.mem_cons.1 mq with rfl|mq
 ·exact⟨by simp,fun mo=>Nat.lt_irrefl _ (h.tU _ mo)⟩
 ·exact h'.loc q mq
theorem Inv.aw (h:Inv p T W y m loc s) (ts:List (Option Nat)):Inv p T W y m loc ⟨s.ah,s.aw++ts⟩:=
 h.keep (fun _ _ e=>e) (List.getElem?_append_left (List.getElem?_eq_some_iff.1 h.t0).1) (List.getElem?_append_left (List.getElem?_eq_some_iff.1 h.t1).1)
theorem Inv.N8 (h:Inv p T W y m loc s) {o:Nat} (ho:o∈y.own) (row:List D) {q:Nat} {r:List D} (hq:s.ah[q]? = some r) (hn:q≠o):(s.ah.set o row)[q]? = some r:=by
 rw[List.getElem?_set_ne (Ne.symm hn)];exact hq
theorem Inv.wb (h:Inv p T W y m loc s) {o:Nat} (ho:o∈y.κ++(y.sd.arr++y.vd.arr)):o≠0:=fun e=>by
 have:=h.own
 rw[Lay.own,List.nodup_cons]at this
 exact this.1 (e ▸ ho)
theorem Inv.ud (h:Inv p T W y m loc s) {m':Mc} (h1:m'.st=m.st) (h2:m'.mem=m.mem) {ts:List (Option Nat)} (k0:ts[0]? = some (some m'.out.length)) (k1:ts[1]? = some (some m'.trace.length)) :
 Inv p T W y m' loc ⟨s.ah.set 0 (fu p T W y m'),ts⟩:=by
 have ne : ∀ {q:Nat} {r:List D},s.ah[q]? = some r→q≠0→(s.ah.set 0 (fu p T W y m'))[q]? = some r:=fun e hn=>h.N8 (by simp[Lay.own]) _ e hn
 have nf : ∀ {q:Nat},q∉y.own→q≠0:=fun hq e=>hq (by rw[e];simp[Lay.own])
 have ka : ∀ {d:D} {cs:List D},(∀ o∈d.arr,o∈y.κ++(y.sd.arr++y.vd.arr))→jO s d cs→jO ⟨s.ah.set 0 (fu p T W y m'),ts⟩ d cs:=fun hd ha=>ha.keep fun o mo=>by
  show(s.ah.set 0 _)[o]? = _
  rw[List.getElem?_set_ne (Ne.symm (h.wb (hd o mo)))]
 obtain⟨l,hl⟩:=h.dg
 refine⟨by simp[h.uO],k0,k1,by rw[h2];exact h.len,fun i c v e1 e2=>ne (h.cell i c v e1 (by rw[← h2];exact e2)) (h.wb (List.mem_append_left _ (List.mem_of_getElem? e1))),by rw[h1];exact h.sL,fun i o fr e1 e2=>?_,
  ka (fun o m=>by simp[m]) h.stack,⟨l,ka (fun o m=>by simp[m]) hl⟩,h.own,fun q mq=>⟨ne (h.loc q mq).1 (nf (h.loc q mq).2),(h.loc q mq).2⟩⟩
 rw[h1]at e2
 obtain⟨g1,g2,g3⟩:=h.frame i o fr e1 e2
 exact⟨ne g1 (nf g2),g2,by rw[h2];exact g3⟩
theorem Inv.XH (h:Inv p T W y m loc s) {i c:Nat} (hc:y.κ[i]? = some c) (v:Int):Inv p T W y {m with mem:=m.mem.set i v} loc ⟨s.ah.set c [.int .i64 v],s.aw⟩:=by
 have iM:c∈y.κ:=List.mem_of_getElem? hc
 have nF:c<s.ah.length:=h.tU c (by simp[Lay.own,iM])
 have AB:=h.own
 rw[Lay.own,List.nodup_cons,List.nodup_append]at AB
 have hκ : ∀ i',y.κ[i']? = some c→i'=i:=fun i' e=>(List.getElem?_inj (List.getElem?_eq_some_iff.1 e).1 AB.2.1).1 (e.trans hc.symm)
 have ne : ∀ {q:Nat} {r:List D},s.ah[q]? = some r→q≠c→(s.ah.set c [.int .i64 v])[q]? = some r:=fun e hn=>h.N8 (o:=c) (by simp[Lay.own,iM]) _ e hn
 have nf : ∀ {q:Nat},q∉y.own→q≠c:=fun hq e=>hq (by rw[e];simp[Lay.own,iM])
 have ka : ∀ {d:D} {cs:List D},(∀ o∈d.arr,o∈y.sd.arr++y.vd.arr)→jO s d cs→jO ⟨s.ah.set c [.int .i64 v],s.aw⟩ d cs:=fun hd ha=>ha.keep fun o mo=>by
  show(s.ah.set c _)[o]? = _
  rw[List.getElem?_set_ne (fun e=>AB.2.2.2 c iM o (hd o mo) e)]
 obtain⟨l,hl⟩:=h.dg
 refine⟨ne h.jP (fun e=>h.wb (List.mem_append_left _ iM) e.symm),h.t0,h.t1,by rw[h.len,List.length_set],fun i' c' v' e1 e2=>?_,h.sL,fun i' o fr e1 e2=>?_,
  ka (fun o m=>by simp[m]) h.stack,⟨l,ka (fun o m=>by simp[m]) hl⟩,h.own,fun q mq=>⟨ne (h.loc q mq).1 (nf (h.loc q mq).2),(h.loc q mq).2⟩⟩
 ·show(s.ah.set c _)[c']? = _
  simp only[List.getElem?_set]at e2
  by_cases e:i=i'
  ·subst e
   rw[hc]at e1;cases e1
   rw[if_pos rfl]at e2
   split at e2
   ·cases e2;simp[nF]
   ·cases e2
  ·rw [if_neg e]at e2
   have:c'≠c:=fun ec=>e (hκ i' (by rw[e1,ec])).symm
   exact ne (h.cell i' c' v' e1 e2) this
 ·obtain⟨g1,g2,g3⟩:=h.frame i' o fr e1 e2
  exact⟨ne g1 (nf g2),g2,by simpa using g3⟩
theorem Inv.atb (h:Inv p T W y m loc s) (v:Int) (hg:p.globals.length≤m.mem.length):Inv p T W {y with κ:=y.κ++ [s.ah.length]} {m with mem:=m.mem++ [v]} loc ⟨s.ah++ [[.int .i64 v]],s.aw⟩:=by
 have h':=h.keep (s':=⟨s.ah++ [[.int .i64 v]],s.aw⟩) (fun o r e=>by rw[List.getElem?_append_left (gd e)];exact e) rfl rfl
 have nR:s.ah.length∉y.own:=fun mo=>Nat.lt_irrefl _ (h.tU _ mo)
 have AB:=h.own
 have ho : ∀ o,o∈Lay.own {y with κ:=y.κ++ [s.ah.length]}→o∈y.own∨o=s.ah.length:=fun o mo=>by
  simp only[Lay.own,List.mem_cons,List.mem_append]at mo ⊢
  rcases mo with rfl|(mo|rfl|mo)|mo|mo
  ·exact .inl (.inl rfl)
  ·exact .inl (.inr (.inl mo))
  ·exact .inr rfl
  ·cases mo
  ·exact .inl (.inr (.inr (.inl mo)))
  ·exact .inl (.inr (.inr (.inr mo)))
 refine⟨by rw[h'.jP];simp only[fu];rw[List.take_append_of_le_length (by rw[h.len];exact hg)],h'.t0,h'.t1,by simp[h.len],fun i c v' e1 e2=>?_,h'.sL,fun i o fr e1 e2=>?_,h'.stack,h'.dg, ?_,fun q mq=>⟨(h'.loc q mq).1,fun mo=>?_⟩⟩
 ·rcases Nat.lt_or_ge i y.κ.length with hi | hi
  ·rw [List.getElem?_append_left hi]at e1
   rw[List.getElem?_append_left (by rw[← h.len];exact hi)]at e2
   exact h'.cell i c v' e1 e2
  ·have ic:i=y.κ.length:=by
    have:=(List.getElem?_eq_some_iff.1 e1).1
    simp at this;omega
   subst ic
   rw[List.getElem?_append_right (Nat.le_refl _)]at e1
   rw[List.getElem?_append_right (by rw[h.len];exact Nat.le_refl _)]at e2
   simp at e1;subst e1
   simp[h.len]at e2;subst e2
   simp
 ·obtain⟨g1,g2,g3⟩:=h'.frame i o fr e1 e2
  refine⟨by rw[HY (by rw[h.len];exact g3)];exact g1,fun mo=>?_,fun c mc=>by simp only[List.length_append];have:=g3 c mc;omega⟩
  rcases ho o mo with mo|rfl
  ·exact g2 mo
  ·exact absurd (gd (h.frame i _ fr e1 e2).1) (Nat.lt_irrefl _)
 ·have:(Lay.own {y with κ:=y.κ++ [s.ah.length]}).Perm (s.ah.length::y.own):=by
   simp only[Lay.own,List.append_assoc,List.singleton_append]
   exact(List.Perm.cons _ List.perm_middle).trans (List.Perm.swap _ _ _)
  rw[this.nodup_iff,List.nodup_cons]
  exact⟨nR,AB⟩
 ·rcases ho _ mo with mo | e
  ·exact(h'.loc q mq).2 mo
  ·exact absurd (gd (h.loc q mq).1) (by rw[e];exact Nat.lt_irrefl _)
theorem Inv.Rp (h:Inv p T W y m loc s) {vd:D} {s1:St} (k : ∀ (o:Nat) (r:List D),s.ah[o]? = some r→o∉y.vd.arr→s1.ah[o]? = some r) (hv : ∃ l:List Int,jO s1 vd (l.map qQ)) (hn:vd.arr=y.vd.arr∨vd.arr = []∨vd.arr = [s.ah.length]) (ht:s1.aw=s.aw) :
 Inv p T W {y with vd:=vd} m loc ⟨s1.ah.set 0 (fu p T W {y with vd:=vd} m),s1.aw⟩:=by
 have AB:=h.own
 have afU:=AB
 rw[Lay.own,List.nodup_cons,List.nodup_append,List.nodup_append]at afU
 obtain⟨n0,nκ,⟨ns,nv,ZF⟩,LP⟩:=afU
 have v0 : ∀ o∈y.vd.arr,o≠0:=fun o mo=>h.wb (by simp[mo])
 have qU:0<s1.ah.length:=gd (k 0 _ h.jP fun mo=>v0 0 mo rfl)
 have g : ∀ {o:Nat} {r:List D},s.ah[o]? = some r→o∉y.vd.arr→o≠0→(s1.ah.set 0 (fu p T W {y with vd:=vd} m))[o]? = some r:=fun e hv hn=>by
  rw[List.getElem?_set_ne (Ne.symm hn)];exact k _ _ e hv
 have LQ : ∀ o,o∈Lay.own {y with vd:=vd}→o∈y.own∨o=s.ah.length:=fun o mo=>by
  simp only[Lay.own,List.mem_cons,List.mem_append]at mo ⊢
  rcases mo with rfl|mo|mo|mo
  ·exact .inl (.inl rfl)
  ·exact .inl (.inr (.inl mo))
  ·exact .inl (.inr (.inr (.inl mo)))
  ·rcases hn with e | e | e
   ·rw[e]at mo;exact .inl (.inr (.inr (.inr mo)))
   ·rw[e]at mo;cases mo
   ·rw[e]at mo;exact .inr (List.mem_singleton.1 mo)
 have nk : ∀ o∈y.κ,o∉y.vd.arr:=fun o mo mv=>LP o mo o (List.mem_append_right _ mv) rfl
 have nsd : ∀ o∈y.sd.arr,o∉y.vd.arr:=fun o mo mv=>ZF o mo o mv rfl
 have ZG : ∀ {o:Nat},o∉y.own→o∉y.vd.arr∧o≠0:=fun ho=>⟨fun mv=>ho (by simp[Lay.own,mv]),fun e=>ho (by rw[e];simp[Lay.own])⟩
 obtain⟨l,hl⟩:=hv
 refine⟨by simp[qU],by rw[ht];exact h.t0,by rw[ht];exact h.t1,h.len,fun i c v e1 e2=>g (h.cell i c v e1 e2) (nk c (List.mem_of_getElem? e1)) (h.wb (by simp[List.mem_of_getElem? e1])),h.sL,fun i o fr e1 e2=>?_, ?_,⟨l, ?_⟩, ?_,fun q mq=>?_⟩
 ·obtain⟨f1,f2,f3⟩:=h.frame i o fr e1 e2
  refine⟨g f1 (ZG f2).1 (ZG f2).2,fun mo=>?_,f3⟩
  rcases LQ o mo with mo|e
  ·exact f2 mo
  ·exact absurd (gd f1) (by rw[e];exact Nat.lt_irrefl _)
 ·refine h.stack.keep fun o mo=> ?_
  rw[List.getElem?_eq_getElem (h.stack.lt o mo)]
  exact g (List.getElem?_eq_getElem _) (nsd o mo) (h.wb (by simp[mo]))
 ·refine hl.keep fun o mo=> ?_
  have:o≠0:=by
   rcases hn with e|e|e
   ·rw[e]at mo;exact v0 o mo
   ·rw[e]at mo;cases mo
   ·rw[e]at mo;rw[List.mem_singleton.1 mo];have:=h.uO;omega
  show(s1.ah.set 0 _)[o]? = _
  rw[List.getElem?_set_ne (Ne.symm this)]
 ·rcases hn with e | e | e
  ·simp only[Lay.own,e];exact AB
  ·simp only [Lay.own,e,List.append_nil]
   rw[List.nodup_cons,List.nodup_append]
   exact⟨fun m=>n0 (by rcases List.mem_append.1 m with m|m<;>simp[m]),nκ,ns,fun a ma b mb=>LP a ma b (List.mem_append_left _ mb)⟩
  ·simp only [Lay.own,e]
   have dr : ∀ o∈y.own,o≠s.ah.length:=fun o mo e=>by have:=h.tU o mo;omega
   rw[List.nodup_cons,List.nodup_append,List.nodup_append]
   refine⟨fun m=>?_,nκ,⟨ns,by simp,fun a ma b mb=>?_⟩,fun a ma b mb=>?_⟩
   ·rcases List.mem_append.1 m with m | m
    ·exact n0 (by simp[m])
    ·rcases List.mem_append.1 m with m | m
     ·exact n0 (by simp[m])
     ·have:=List.mem_singleton.1 m;have:=h.uO;omega
   ·rw[List.mem_singleton.1 mb];exact dr a (by simp[Lay.own,ma])
   ·rcases List.mem_append.1 mb with mb | mb
    ·exact LP a ma b (List.mem_append_left _ mb)
    ·rw[List.mem_singleton.1 mb];exact dr a (by simp[Lay.own,ma])
 ·obtain⟨f1,f2⟩:=h.loc q mq
  refine⟨g f1 (ZG f2).1 (ZG f2).2,fun mo=>?_⟩
  rcases LQ q.1 mo with mo|e
  ·exact f2 mo
  ·exact absurd (gd f1) (by rw[e];exact Nat.lt_irrefl _)
end
end Go.Abs
namespace Go.Abs
set_option maxRecDepth 8000
open Go.Proofs
theorem Rq (b:Bool) (s:St):az Tryz.prog jB [.bool b] s (.int .i64 (uz b)) s:=by
 refine az.pure ?_ rfl rfl s
 generalize h:uz b=R
 simp only[uz]at h
 unfold S0
 refine az.go KQ rfl fun B Q hB hQ=>?_
 have⟨hC,hE,hM,hY⟩:=bC
 repeat' (first
 |simp only[go_sem,hC,hE,hM,hY]
 |(with_reducible first|refine aX fun hc=>?_|refine aY fun hc=>?_|refine aZ (fun hc=>?_) fun hc=>?_)<;>(try simp only[hc,bs,↓reduceIte]at h)<;>try simp only[hc]
 |(with_reducible refine aB hQ ?_;exact ep)
 |(cases h;done))
theorem abP (a:Int) (s:St):az Tryz.prog rK [.int .i64 a] s (.bool (!(a==0))) s:=by
 refine az.pure ?_ rfl rfl s
 have e:(a != 0) = !(a==0):=rfl
 unfold S0
 refine az.go Gk rfl fun B Q hB hQ=>?_
 have⟨hC,hE,hM,hY⟩:=bC
 repeat' (first
 |simp only[go_sem,hC,hE,hM,hY,e]
 |(with_reducible first|refine aX fun hc=>?_|refine aY fun hc=>?_|refine aZ (fun hc=>?_) fun hc=>?_)<;>(try simp only[hc,bs,↓reduceIte]at h)<;>try simp only[hc]
 |(with_reducible refine aB hQ ?_;(try cases h);simp only[aQ,aR,bn,bo,go_sem,hC,hE,hM,hY,e];try exact bR)
 |(cases h;done))
abbrev Ab (r:Int×Bool):D:= .tuple [.int .i64 r.1, .bool r.2]
theorem aiE (op a:Int) (s:St):az Tryz.prog zw [.int .i64 op, .int .i64 a] s (Ab (Rc op a)) s:=by
 refine az.pure ?_ rfl rfl s
 generalize h:Rc op a=R
 simp only[Rc,FA]at h
 unfold S0
 refine az.go KN rfl fun B Q hB hQ=>?_
 have⟨hC,hE,hM,hY⟩:=bC
 repeat' (first
 |simp only[go_sem,hC,hE,hM,hY]
 |(with_reducible refine CU (Rq _ _) ?_)
 |(with_reducible first|refine aX fun hc=>?_|refine aY fun hc=>?_|refine aZ (fun hc=>?_) fun hc=>?_)<;>(try simp only[hc,bs,↓reduceIte]at h)<;>try simp only[hc]
 |(with_reducible refine aB hQ ?_;exact ep)
 |(cases h;done))
theorem XI (op a b:Int) (s:St):az Tryz.prog uj [.int .i64 op, .int .i64 a, .int .i64 b] s (Ab (Re op a b)) s:=by
 refine az.pure ?_ rfl rfl s
 generalize h:Re op a b=R
 simp only[Re,FA]at h
 unfold S0
 rcases Bool.eq_false_or_eq_true (b==0)with b0|b0
 ·refine az.go wQ rfl fun B Q hB hQ=> ?_
  have⟨hC,hE,hM,hY⟩:=bC
  repeat' (first
 |simp only[go_sem,hC,hE,hM,hY]
 |(with_reducible first|refine aX fun hc=>?_|refine aY fun hc=>?_|refine aZ (fun hc=>?_) fun hc=>?_)<;>(try simp only[hc,bs,↓reduceIte]at h)<;>try simp only[hc]
 |(with_reducible refine aB hQ ?_;exact ep)
 |(cases h;done))
 ·have hb:b≠0:=by simpa using b0
  refine az.go wQ rfl fun B Q hB hQ=>?_
  have⟨hC,hE,hM,hY⟩:=bC
  repeat' (first
 |simp only[go_sem,hC,hE,hM,hY,hb]
 |(with_reducible first|refine aX fun hc=>?_|refine aY fun hc=>?_|refine aZ (fun hc=>?_) fun hc=>?_)<;>(try simp only[hc,bs,↓reduceIte]at h)<;>try simp only[hc]
 |(with_reducible refine aB hQ ?_;(try cases h);simp only[aQ,aR,bn,bo,go_sem,hC,hE,hM,hY,hb];try exact bR)
 |(cases h;done))
theorem Ux (op a b:Int) (s:St):az Tryz.prog sB [.int .i64 op, .int .i64 a, .int .i64 b] s (Ab (Rf op a b)) s:=by
 refine az.pure ?_ rfl rfl s
 have e:(a != b) = !(a==b):=rfl
 generalize h:Rf op a b=R
 simp only[Rf]at h
 unfold S0
 refine az.go D4 rfl fun B Q hB hQ=>?_
 have⟨hC,hE,hM,hY⟩:=bC
 repeat' (first
 |simp only[go_sem,hC,hE,hM,hY,e]
 |(with_reducible refine CU (Rq _ _) ?_)
 |(with_reducible first|refine aX fun hc=>?_|refine aY fun hc=>?_|refine aZ (fun hc=>?_) fun hc=>?_)<;>(try simp only[hc,bs,↓reduceIte]at h)<;>try simp only[hc]
 |(with_reducible refine aB hQ ?_;(try cases h);simp only[aQ,aR,bn,bo,go_sem,hC,hE,hM,hY,e];try exact bR)
 |(cases h;done))
theorem aiF (op a b:Int) (s:St):az Tryz.prog zz [.int .i64 op, .int .i64 a, .int .i64 b] s (Ab (Rg op a b)) s:=by
 refine az.pure ?_ rfl rfl s
 have e1:(a != 0) = !(a==0):=rfl
 have e2:(b != 0) = !(b==0):=rfl
 generalize h:Rg op a b=R
 simp only[Rg,FA]at h
 unfold S0
 refine az.go KO rfl fun B Q hB hQ=>?_
 have⟨hC,hE,hM,hY⟩:=bC
 repeat' (first
 |simp only[go_sem,hC,hE,hM,hY,e1,e2]
 |(with_reducible refine CU (Rq _ _) ?_)
 |(with_reducible refine CU (XI _ _ _ _) ?_)
 |(with_reducible refine CU (Ux _ _ _ _) ?_)
 |(with_reducible first|refine aX fun hc=>?_|refine aY fun hc=>?_|refine aZ (fun hc=>?_) fun hc=>?_)<;>(try simp only[hc,bs,↓reduceIte]at h)<;>try simp only[hc]
 |(with_reducible refine aB hQ ?_;(try cases h);simp only[aQ,aR,bn,bo,go_sem,hC,hE,hM,hY,e1,e2];try exact bR)
 |(cases h;done))
def wc (x:Int) (k:Int):List Int→Int
 | []=> -1
 |s::l=>if x==s then k else wc x (k+1) l
theorem NR (x:Int) : ∀ (l:List Int) (k:Int),0≤k→(wc x k l≥0↔l.contains x=true)
 | [],k,h=>by simp[wc]
 | s::l,k,h=>by
  by_cases e:x=s
  ·simp[wc,e];omega
  ·have e':(x==s)=false:=by simp [e]
   simp only[wc,e',Bool.false_eq_true,if_false,List.contains_cons,Bool.false_or]
   exact NR x l (k+1) (by omega)
theorem XJ {l:List Int} (hl:l.length<4611686018427387904) (x:Int) (s:St):az Tryz.prog ph [.slice .shared 1 (l.map cO), .int .i64 x] s (.int .i64 (wc x 0 l)) s:=by
 refine az.pure ?_ (by simp[D.bH,D.ok,Tag.ok,kG]) rfl s
 generalize h:wc x 0 l=p
 unfold S0
 refine az.go zI rfl fun B Q hB hQ=>?_
 have⟨hC,hE,hM,hY⟩:=bC
 repeat' (first
 |simp only[go_sem,hC,hE,hM,hY]
 |(with_reducible first|refine aX fun hc=>?_|refine aY fun hc=>?_|refine aZ (fun hc=>?_) fun hc=>?_)<;>(try simp only[hc,bs,↓reduceIte]at h)<;>try simp only[hc]
 |(with_reducible refine aB hQ ?_;exact ep)
 |(cases h;done))
 refine dQ 0 0 (bd.ind (ι:=List Int×Nat) (fun i=>l.drop i.2=i.1∧wc x (i.2:Int) i.1=p) (fun i=>i.1.length)
  (fun i=> [(0, .slice .shared 1 (l.map cO)),(1, .int .i64 x),(7, .int .i64 (l.length:Int)),(8, .int .i64 (i.2:Int))]) (fun i=>⟨[],[]⟩) ?_ (l,0) ⟨rfl,h⟩)
 rintro⟨rest,k⟩ ⟨h1,h⟩ IH
 dsimp only at h1 h
 cases rest with
 |nil=>
  have hC:=drop_nil h1
  simp only[wc]at h
  repeat' (first
 |simp only[go_sem,hC,hE,hM,hY]
 |(with_reducible first|refine aX fun hc=>?_|refine aY fun hc=>?_|refine aZ (fun hc=>?_) fun hc=>?_)<;>(try simp only[hc,bs,↓reduceIte]at h)<;>try simp only[hc]
 |(with_reducible refine aB hQ ?_;exact ep)
 |(cases h;done))
 |cons a rest=>
  obtain⟨hE,g2,hC,g4⟩:=drop_cons h1
  have cm:k<4611686018427387904:=by omega
  simp only[wc]at h
  repeat' (first
 |simp only[go_sem,hC,hE,hM,hY]
 |(with_reducible first|refine aX fun hc=>?_|refine aY fun hc=>?_|refine aZ (fun hc=>?_) fun hc=>?_)<;>(try simp only[hc,bs,↓reduceIte]at h)<;>try simp only[hc]
 |(with_reducible refine aB hQ ?_;exact ep)
 |(cases h;done))
  refine eM 0 0 ?_ ?_ (IH (rest,k+1) ⟨g2,h⟩ (Nat.lt_succ_self _))
  ·(simp only[go_sem,hC,hE,hM,hY,aL cm];try exact cb)
  ·(simp only[go_sem,hC,hE,hM,hY,aL cm];try exact cb)
theorem MT {l:List Int} (hl:l.length<4611686018427387904) (x:Int) (s:St):az Tryz.prog ng [.slice .shared 1 (l.map cO), .int .i64 x] s (.bool (l.contains x)) s:=by
 refine az.pure ?_ (by simp[D.bH,D.ok,Tag.ok,kG]) rfl s
 have hi:=fun s=>XJ hl x s
 have e:decide (wc x 0 l≥0)=l.contains x:=by
  have:=NR x l 0 (Int.le_refl 0)
  cases h:l.contains x<;>simp_all
 unfold S0
 refine az.go wo rfl fun B Q hB hQ=>?_
 have⟨hC,hE,hM,hY⟩:=bC
 repeat' (first
 |simp only[go_sem,hC,hE,hM,hY,e]
 |(with_reducible refine CU (hi _) ?_)
 |(with_reducible first|refine aX fun hc=>?_|refine aY fun hc=>?_|refine aZ (fun hc=>?_) fun hc=>?_)<;>(try simp only[hc,bs,↓reduceIte]at h)<;>try simp only[hc]
 |(with_reducible refine aB hQ ?_;(try cases h);simp only[aQ,aR,bn,bo,go_sem,hC,hE,hM,hY,e];try exact bR)
 |(cases h;done))
theorem mS (names:List aF) (dg:List Int) (op n:Int) (name:aF) (kids:List Ex):Ex.val names dg ⟨op,n,name,kids⟩=if op==1 then(n,true)else if op==2 then(Rh name names dg,true)else Jo op (kids.map (Ex.val names dg)):=by
 have e : ∀ l:List Ex,Ex.Ri names dg l=l.map (Ex.val names dg):=fun l=>by
  induction l with
  |nil=>rfl
  |cons x l ih=>simp only[Ex.Ri,List.map_cons,ih]
 simp only[Ex.val,e]
theorem afV {names:List aF} {dg:List Int} (hn:names.length<4611686018427387904) (hv:dg.length<4611686018427387904) : ∀ (n:Nat) (x:Ex),x.dp (n:Int)=true→
 az Tryz.prog lf [.agg (bI x), .slice .shared 1 (names.map encStr), .slice .shared 1 (dg.map cO)] S0 (Ab (x.val names dg)) S0:=by
 intro n
 induction n with
 |zero=>rintro⟨op,v,name,kids⟩ h;rw[K6]at h;omega
 | succ n ih=>
  rintro⟨op,v,name,kids⟩ h
  rw[K6]at h
  obtain⟨_,hk,h⟩:=h
  have Ld:=fun s=>Cz hn name s
  generalize hR:Ex.val names dg ⟨op,v,name,kids⟩=R
  rw[mS]at hR
  unfold S0
  by_cases o1:op=1
  ·subst o1
   simp only[beq_self_eq_true,if_true]at hR
   rw[← hR]
   show az Tryz.prog lf _ _ (.tuple [.int .i64 v, .bool true]) _
   refine az.go oi rfl fun B Q hB hQ=>?_
   have⟨hC,hE,hM,hY⟩:=bC
   repeat' (first
 |simp only[go_sem,hC,hE,hM,hY,beq_self_eq_true]
 |(with_reducible first|refine aX fun hc=>?_|refine aY fun hc=>?_|refine aZ (fun hc=>?_) fun hc=>?_)<;>(try simp only[hc,bs,↓reduceIte]at h)<;>try simp only[hc]
 |(with_reducible refine aB hQ ?_;(try cases h);simp only[aQ,aR,bn,bo,go_sem,hC,hE,hM,hY,beq_self_eq_true];try exact bR)
 | (cases h;done))
  rw[if_neg o1]at h
  have b1:(op==1)=false:=by simp[o1]
  by_cases o2:op=2
  ·subst o2
   simp only[b1,Bool.false_eq_true,if_false,beq_self_eq_true,if_true,Rh]at hR
   by_cases hi:jg name 0 names≥0
   ·obtain⟨j,hj⟩:=Int.eq_ofNat_of_zero_le hi
    rw[if_pos hi]at hR
    have b2:decide (jg name 0 names≥0)=true:=by simpa using hi
    rw[hj]at b2 hR
    rw[hj]at Ld
    rcases Nat.lt_or_ge j dg.length with hl|hl
    ·have b3:decide ((j:Int)<(dg.length:Int))=true:=by simp [hl]
     have hg:dg[j]? = some (dg.getD j 0):=by rw[List.getD_eq_getElem?_getD,List.getElem?_eq_getElem hl];rfl
     rw[Int.toNat_natCast]at hR
     rw[← hR]
     show az Tryz.prog lf _ _ (.tuple [.int .i64 (dg.getD j 0), .bool true]) _
     refine az.go oi rfl fun B Q hB hQ=>?_
     have⟨hC,hE,hM,hY⟩:=bC
     repeat' (first
 |simp only[go_sem,hC,hE,hM,hY,b1,b2,b3,hg,beq_self_eq_true,decide_true]
 |(with_reducible refine CU (Ld _) ?_)
 |(with_reducible first|refine aX fun hc=>?_|refine aY fun hc=>?_|refine aZ (fun hc=>?_) fun hc=>?_)<;>(try simp only[hc,bs,↓reduceIte]at h)<;>try simp only[hc]
 |(with_reducible refine aB hQ ?_;(try cases h);simp only[aQ,aR,bn,bo,go_sem,hC,hE,hM,hY,b1,b2,b3,hg,beq_self_eq_true,decide_true];try exact bR)
 | (cases h;done))
    ·have b3:decide ((j:Int)<(dg.length:Int))=false:=by simp;omega
     rw[Int.toNat_natCast,List.getD_eq_getElem?_getD,List.getElem?_eq_none hl,Option.getD_none]at hR
     rw[← hR]
     show az Tryz.prog lf _ _ (.tuple [.int .i64 0, .bool true]) _
     refine az.go oi rfl fun B Q hB hQ=>?_
     have⟨hC,hE,hM,hY⟩:=bC
     repeat' (first
 |simp only[go_sem,hC,hE,hM,hY,b1,b2,b3,beq_self_eq_true,decide_true]
 |(with_reducible refine CU (Ld _) ?_)
 |(with_reducible first|refine aX fun hc=>?_|refine aY fun hc=>?_|refine aZ (fun hc=>?_) fun hc=>?_)<;>(try simp only[hc,bs,↓reduceIte]at h)<;>try simp only[hc]
 |(with_reducible refine aB hQ ?_;(try cases h);simp only[aQ,aR,bn,bo,go_sem,hC,hE,hM,hY,b1,b2,b3,beq_self_eq_true,decide_true];try exact bR)
 | (cases h;done))
   ·rw [if_neg hi]at hR
    have b2:decide (jg name 0 names≥0)=false:=by simpa using hi
    rw[← hR]
    show az Tryz.prog lf _ _ (.tuple [.int .i64 0, .bool true]) _
    refine az.go oi rfl fun B Q hB hQ=>?_
    have⟨hC,hE,hM,hY⟩:=bC
    repeat' (first
 |simp only[go_sem,hC,hE,hM,hY,b1,b2,beq_self_eq_true]
 |(with_reducible refine CU (Ld _) ?_)
 |(with_reducible first|refine aX fun hc=>?_|refine aY fun hc=>?_|refine aZ (fun hc=>?_) fun hc=>?_)<;>(try simp only[hc,bs,↓reduceIte]at h)<;>try simp only[hc]
 |(with_reducible refine aB hQ ?_;(try cases h);simp only[aQ,aR,bn,bo,go_sem,hC,hE,hM,hY,b1,b2,beq_self_eq_true];try exact bR)
 | (cases h;done))
  rw[if_neg o2]at h
  have b2:(op==2)=false:=by simp[o2]
  simp only[b1,b2,Bool.false_eq_true,if_false]at hR
  have hd:=h.2.2
  rw[show((n+1:Nat):Int) - 1=(n:Int) by omega]at hd
  have ihs : ∀ {y:Ex},y∈kids→∀ s,az Tryz.prog lf [.agg (bI y), .slice .shared 1 (names.map encStr), .slice .shared 1 (dg.map cO)] s (Ab (y.val names dg)) s:=fun {y} hy s=>by
   have:y.dp (n:Int)=true:=by
    have key : ∀ l:List Ex,Ex.BP (n:Int) l=true→y∈l→y.dp (n:Int)=true:=fun l=>by
     induction l with
     |nil=>intro _ m;cases m
     | cons z l Tk=>
      intro hz m
      simp only[Ex.BP]at hz
      split at hz
      ·cases hz
      ·rename_i Fx
       rcases List.mem_cons.1 m with rfl|m
       ·simpa using Fx
       ·exact Tk hz m
    exact key kids hd hy
   exact az.pure (ih y this) (by simp[D.bH,D.ok,Tag.ok,gT,eB,kG]) rfl s
  clear h Ld
  have n1:((1:Nat):Int)=1:=rfl
  have e1:((1:Int)==1)=true:=rfl
  have e2:((2:Int)==1)=false:=rfl
  rename _=R=>h
  cases kids with
  |nil=>simp[lG]at hk;omega
  | cons a kids=>
   have c1:=fun s=>ihs (y:=a) (by simp) s
   cases kids with
   |nil=>
    simp only[List.map_cons,List.map_nil,Jo]at h
    refine az.go oi rfl fun B Q hB hQ=>?_
    have⟨hC,hE,hM,hY⟩:=bC
    repeat' (first
 |simp only[go_sem,hC,hE,hM,hY,b1,b2,e1]
 |(with_reducible refine CU (c1 _) ?_)
 |(with_reducible refine CU (aiE _ _ _) ?_)
 |(with_reducible first|refine aX fun hc=>?_|refine aY fun hc=>?_|refine aZ (fun hc=>?_) fun hc=>?_)<;>(try simp only[hc,bs,↓reduceIte]at h)<;>try simp only[hc]
 |(with_reducible refine aB hQ ?_;(try cases h);simp only[aQ,aR,bn,bo,go_sem,hC,hE,hM,hY,b1,b2,e1];try exact bR)
 | (cases h;done))
   | cons b kids=>
    cases kids with
    |nil=>
     have c2:=fun s=>ihs (y:=b) (by simp) s
     have e3 : [bI a,bI b][Int.toNat 1]? = some (bI b):=rfl
     simp only[List.map_cons,List.map_nil,Jo]at h
     refine az.go oi rfl fun B Q hB hQ=>?_
     have⟨hC,hE,hM,hY⟩:=bC
     repeat' (first
 |simp only[go_sem,hC,hE,hM,hY,b1,b2,e2,e3]
 |(with_reducible refine CU (c1 _) ?_)
 |(with_reducible refine CU (c2 _) ?_)
 |(with_reducible refine CU (abP _ _) ?_)
 |(with_reducible refine CU (aiF _ _ _ _) ?_)
 |(with_reducible first|refine aX fun hc=>?_|refine aY fun hc=>?_|refine aZ (fun hc=>?_) fun hc=>?_)<;>(try simp only[hc,bs,↓reduceIte]at h)<;>try simp only[hc]
 |(with_reducible refine aB hQ ?_;(try cases h);simp only[aQ,aR,bn,bo,go_sem,hC,hE,hM,hY,b1,b2,e2,e3];try exact bR)
 | (cases h;done))
    |cons c kids=>simp[lG]at hk;omega
theorem XK {x:Ex} {names:List aF} {dg:List Int} (hx:x.size<4611686018427387904) (ht:x.texts) (hn:names.length<4611686018427387904) (hv:dg.length<4611686018427387904) (s:St) :
 az Tryz.prog wL [.agg (bI x), .slice .shared 1 (names.map encStr), .slice .shared 1 (dg.map cO)] s (Ab (x.bW names dg)) s:=by
 refine az.pure ?_ (by simp[D.bH,D.ok,Tag.ok,gT,eB,kG]) rfl s
 have hm:=fun s=>zP hx ht s
 rw[Fi]at hm
 generalize h:x.bW names dg=R
 simp only[Ex.bW]at h
 unfold S0
 rcases Bool.eq_false_or_eq_true x.may with b|b
 ·rw [if_pos b]at h
  have c1:=fun s=>az.pure (afV hn hv 20 x (by rw[show((20:Nat):Int)=20 from rfl,Fi];exact b)) (by simp[D.bH,D.ok,Tag.ok,gT,eB,kG]) rfl s
  rw[h]at c1
  refine az.go Ds rfl fun B Q hB hQ=>?_
  have⟨hC,hE,hM,hY⟩:=bC
  repeat' (first
 |simp only[go_sem,hC,hE,hM,hY,b]
 |(with_reducible refine CU (hm _) ?_)
 |(with_reducible refine CU (c1 _) ?_)
 |(with_reducible first|refine aX fun hc=>?_|refine aY fun hc=>?_|refine aZ (fun hc=>?_) fun hc=>?_)<;>(try simp only[hc,bs,↓reduceIte]at h)<;>try simp only[hc]
 |(with_reducible refine aB hQ ?_;(try cases h);simp only[aQ,aR,bn,bo,go_sem,hC,hE,hM,hY,b];try exact bR)
 |(cases h;done))
 ·rw [if_neg (by simp [b])]at h
  refine az.go Ds rfl fun B Q hB hQ=>?_
  have⟨hC,hE,hM,hY⟩:=bC
  repeat' (first
 |simp only[go_sem,hC,hE,hM,hY,b]
 |(with_reducible refine CU (hm _) ?_)
 |(with_reducible first|refine aX fun hc=>?_|refine aY fun hc=>?_|refine aZ (fun hc=>?_) fun hc=>?_)<;>(try simp only[hc,bs,↓reduceIte]at h)<;>try simp only[hc]
 |(with_reducible refine aB hQ ?_;(try cases h);simp only[aQ,aR,bn,bo,go_sem,hC,hE,hM,hY,b];try exact bR)
 |(cases h;done))
theorem Ac {size bytes:Nat} {rows:List (List D)} (h:rows≠ []) (hl:rows.length*(bytes+1)≤bu) {z:Nat} {g:Tag} (o:List (List D)) (T:List (Option Nat)) :
 gp size bytes (.slice .full z []) (.slice g size rows) ⟨o,T⟩=some (.slice (.tok T.length) size rows,⟨o,T++ [some rows.length]⟩):=by
 cases rows with
 |nil=>exact absurd rfl h
 |cons x r=>simp only[List.length_cons]at hl;simp[gp,hl]
theorem Ad {size bytes z z':Nat} {g:Tag} (o:List (List D)) (T:List (Option Nat)) :
 gp size bytes (.slice .full z []) (.slice g z' []) ⟨o,T⟩=some (.slice .full z [],⟨o,T⟩):=by simp[gp,bu]
def Sm.bare (v:Sm):Sm:= {v with bm:= [],bc:= []}
theorem az.aiG {P:Program} {f:FuncId} {args:List D} {z k:Nat} {rows:List (List D)} (h:az P f args S0 (.slice (.tok 0) z rows) ⟨[],[some k]⟩) (ha:D.bH 0 0 args=true) (hr:D.gW 0 0 rows=true) (s:St) :
 az P f args s (.slice (.tok s.aw.length) z rows) ⟨s.ah,s.aw++ [some k]⟩:=by
 refine bP.frame [] [] h List.nodup_nil List.nodup_nil (by simp) (by simp) rfl (by simp) rfl (by simp) (by rw[e8 _ _ _ ha]) ha ?_
 rintro _ _ ⟨rfl,rfl⟩
 refine⟨by simp[D.back,D.db,Tag.db,kj,ig _ _ _ hr], ?_⟩
 simp[St.back,kB]
theorem Rr (g:Tag) (z:Nat) (s:St):az Tryz.prog fe [.slice g z []] s (.slice .full 1 []) s:=by
 refine bP.ou (.cons (Wk.nil _ _ 1) .nil) (az.pure ?_ rfl rfl s)
 unfold S0
 refine az.go lP rfl fun B Q hB hQ=>?_
 have⟨hC,hE,hM,hY⟩:=bC
 repeat' (first
 |simp only[go_sem,hC,hE,hM,hY]
 |(with_reducible first|refine aX fun hc=>?_|refine aY fun hc=>?_|refine aZ (fun hc=>?_) fun hc=>?_)<;>(try simp only[hc,bs,↓reduceIte]at h)<;>try simp only[hc]
 |(with_reducible refine aB hQ ?_;exact ep)
 |(cases h;done))
 refine DR (fun _=>?_) ?_
 ·repeat' (first
 |simp only[go_sem,hC,hE,hM,hY,gp,true_or,Nat.zero_le]
 |(with_reducible first|refine aX fun hc=>?_|refine aY fun hc=>?_|refine aZ (fun hc=>?_) fun hc=>?_)<;>(try simp only[hc,bs,↓reduceIte]at h)<;>try simp only[hc]
 |(with_reducible refine aB hQ ?_;(try cases h);simp only[aQ,aR,bn,bo,go_sem,hC,hE,hM,hY,gp,true_or,Nat.zero_le];try exact bR)
 |(cases h;done))
 ·repeat' (first
 |simp only[go_sem,hC,hE,hM,hY,gp,true_or,Nat.zero_le]
 |(with_reducible first|refine aX fun hc=>?_|refine aY fun hc=>?_|refine aZ (fun hc=>?_) fun hc=>?_)<;>(try simp only[hc,bs,↓reduceIte]at h)<;>try simp only[hc]
 |(with_reducible refine aB hQ ?_;(try cases h);simp only[aQ,aR,bn,bo,go_sem,hC,hE,hM,hY,gp,true_or,Nat.zero_le];try exact bR)
 |(cases h;done))
theorem Rs {l:List aF} (hl:l.length<1073741824) (h0:l≠ []) (s:St):az Tryz.prog fe [.slice .shared 1 (l.map encStr)] s (.slice (.tok s.aw.length) 1 (l.map encStr)) ⟨s.ah,s.aw++ [some l.length]⟩:=by
 refine az.aiG ?_ (by simp[D.bH,D.ok,Tag.ok,eB]) (eB l) s
 unfold S0
 refine az.goK 0 1 (Nat.zero_le _) (Nat.zero_le _) lP rfl fun B Q hB hQ=>?_
 have⟨hC,hE,hM,hY⟩:=bC
 have ha:=fun o T=>Ac (size:=1) (bytes:=16) (rows:=l.map encStr) (by simpa using h0) (by simp only[List.length_map];unfold bu;omega) (z:=1) (g:= .shared) o T
 cases l with
 |nil=>exact absurd rfl h0
 |cons x l=>
  simp only[List.map_cons,encStr]at ha
  repeat' (first
 |simp only[go_sem,hC,hE,hM,hY,ha]
 |(with_reducible first|refine aX fun hc=>?_|refine aY fun hc=>?_|refine aZ (fun hc=>?_) fun hc=>?_)<;>(try simp only[hc,bs,↓reduceIte]at h)<;>try simp only[hc]
 |(with_reducible refine aB hQ ?_;(try cases h);simp only[aQ,aR,bn,bo,go_sem,hC,hE,hM,hY,ha];try exact bR)
 |(cases h;done))
theorem NS {a b:List aF} {n:Nat} (hn:n=a.length) (h:a.length+b.length≤1000000000) {g:Tag} {t:Nat} {s:St} (ht:s.aw[t]? = some (some n)) :
 gp 1 16 (.slice (.tok t) 1 (a.map encStr)) (.slice g 1 (b.map encStr)) s=some (.slice (.tok t) 1 ((a++b).map encStr),⟨s.ah,s.aw.set t (some (a++b).length)⟩):=by
 subst hn
 rw[o9 (size:=1) (bytes:=16) (by simp only[List.length_map];unfold bu;omega) (by simpa using ht)]
 simp
theorem afW {p:Pg} (h:p.iX) (hb:p.may=true) {name:aF} {f:Pc} (hf:p.find name=some f) (s:St):az Tryz.prog vz [.agg (cR p), .str name] s (.slice .shared 1 ((p.globals++f.own).map encStr)) s:=by
 refine az.pure ?_ (by simp[D.bH,D.ok,jX]) (by simp only[D.ok,Tag.ok,eB];rfl) s
 have hm:=fun s=>K1 h.QX s
 simp only[CD,hb]at hm
 obtain⟨sh,r7,rZ⟩:=h.procs
 simp only[Pg.find]at hf
 unfold S0
 refine az.go Gh rfl fun B Q hB hQ=>?_
 have⟨hC,hE,hM,hY⟩:=bC
 repeat' (first
 |simp only[go_sem,hC,hE,hM,hY]
 |(with_reducible refine CU (hm _) ?_)
 |(with_reducible first|refine aX fun hc=>?_|refine aY fun hc=>?_|refine aZ (fun hc=>?_) fun hc=>?_)<;>(try simp only[hc,bs,↓reduceIte]at h)<;>try simp only[hc]
 |(with_reducible refine aB hQ ?_;exact ep)
 |(cases h;done))
 refine dQ 1 0 (bd.ind (ι:=List Pc×Nat) (fun i=>p.procs.drop i.2=i.1∧iT name i.1=some f) (fun i=>i.1.length)
  (fun i=> [(1, .str name),(2, .ptr 0 0),(11, .slice .shared 5 (p.procs.map cH)),(12, .int .i64 (p.procs.length:Int)),(13, .int .i64 (i.2:Int))]) (fun i=>⟨[cR p],[]⟩) ?_ (p.procs,0) ⟨rfl,hf⟩)
 rintro⟨rest,k⟩ ⟨h1,h2⟩ IH
 dsimp only at h1 h2
 cases rest with
 |nil=>cases h2
 | cons a rest=>
  obtain⟨hE,g2,hC,g4⟩:=drop_cons h1
  have cm:k<4611686018427387904:=by omega
  have vX:=h.small (List.mem_of_getElem? hE)
  simp only[iT]at h2
  rcases Bool.eq_false_or_eq_true (a.name==name)with b1|b1
  ·simp only [b1,if_true]at h2
   cases h2
   have ho:=fun s=>Zp (f:=f) vX.par vX.vars s
   have jT:f.own.length<2000000:=by have:=vX.par;have:=vX.vars;simp[Pc.own,Pc.tQ];omega
   cases e:p.globals with
   | nil=>
    simp only[List.nil_append]at *
    have c1:=fun g z s=>Rr g z s
    cases e2:f.own with
    |nil=>
     rw[e2]at ho hQ
     have ha:=fun o T=>Ad (size:=1) (bytes:=16) (z:=1) (z':=1) (g:= .shared) o T
     repeat' (first
 |simp only[go_sem,hC,hE,hM,hY,b1,ha,e]
 |(with_reducible refine CU (c1 _ _ _) ?_)
 |(with_reducible refine CU (ho _) ?_)
 |(with_reducible first|refine aX fun hc=>?_|refine aY fun hc=>?_|refine aZ (fun hc=>?_) fun hc=>?_)<;>(try simp only[hc,bs,↓reduceIte]at h)<;>try simp only[hc]
 |(with_reducible refine aB hQ ?_;(try cases h);simp only[aQ,aR,bn,bo,go_sem,hC,hE,hM,hY,b1,ha,e];try exact bR)
 | (cases h;done))
    |cons x l=>
     have ha:=fun o T=>Ac (size:=1) (bytes:=16) (rows:=f.own.map encStr) (by simp[e2]) (by simp only[List.length_map];unfold bu;omega) (z:=1) (g:= .shared) o T
     repeat' (first
 |simp only[go_sem,hC,hE,hM,hY,b1,ha,e]
 |(with_reducible refine CU (c1 _ _ _) ?_)
 |(with_reducible refine CU (ho _) ?_)
 |(with_reducible first|refine aX fun hc=>?_|refine aY fun hc=>?_|refine aZ (fun hc=>?_) fun hc=>?_)<;>(try simp only[hc,bs,↓reduceIte]at h)<;>try simp only[hc]
 |(with_reducible refine aB hQ ?_;(try cases h);simp only[aQ,aR,bn,bo,go_sem,hC,hE,hM,hY,b1,ha,e];try exact bR)
 | (cases h;done))
   |cons x l=>
    have c1:=fun s=>Rs (l:=p.globals) (by omega) (by simp[e]) s
    have ha:=fun {s:St} {t:Nat} (ht:s.aw[t]? = some (some p.globals.length))=>NS (a:=p.globals) (b:=f.own) (g:= .shared) rfl (by omega) ht
    have wD:=fun o=>NS (a:=p.globals) (b:=f.own) (g:= .shared) (t:=0) (s:=⟨o,[some p.globals.length]⟩) rfl (by omega) rfl
    repeat' (first
 |simp only[go_sem,hC,hE,hM,hY,b1,wD]
 |(with_reducible refine CU (c1 _) ?_)
 |(with_reducible refine CU (ho _) ?_)
 |(with_reducible first|refine aX fun hc=>?_|refine aY fun hc=>?_|refine aZ (fun hc=>?_) fun hc=>?_)<;>(try simp only[hc,bs,↓reduceIte]at h)<;>try simp only[hc]
 |(with_reducible refine aB hQ ?_;(try cases h);simp only[aQ,aR,bn,bo,go_sem,hC,hE,hM,hY,b1,wD];try exact bR)
 | (cases h;done))
  ·simp only [b1,Bool.false_eq_true,if_false]at h2
   repeat' (first
 |simp only[go_sem,hC,hE,hM,hY,b1]
 |(with_reducible first|refine aX fun hc=>?_|refine aY fun hc=>?_|refine aZ (fun hc=>?_) fun hc=>?_)<;>(try simp only[hc,bs,↓reduceIte]at h)<;>try simp only[hc]
 |(with_reducible refine aB hQ ?_;(try cases h);simp only[aQ,aR,bn,bo,go_sem,hC,hE,hM,hY,b1];try exact bR)
 | (cases h;done))
   refine eM 1 0 ?_ ?_ (IH (rest,k+1) ⟨g2,h2⟩ (Nat.lt_succ_self _))
   ·(simp only[go_sem,hC,hE,hM,hY,aL cm];try exact cb)
   ·(simp only[go_sem,hC,hE,hM,hY,aL cm];try exact cb)
theorem MU {p:Pg} (hb:p.may=true) {i:Nat} {f:Pc} (hf:p.procs[i]? = some f) : ∃ a b:Int,p.bh.lo[i]? = some a∧p.bh.hi[i]? = some b∧(if decide (a<b)=true then a else -1)=gn f.body (-1):=by
 obtain⟨a,b,e,h1,h2,h3,h4⟩:=(nH p).2 i f hf
 refine⟨_,_,h1,h2, ?_⟩
 cases Co:f.body with
 |nil=>
  rw[Co]at h3
  have:b = []:=by simpa[Sm.dm]using h3
  subst this
  simp[gn]
 | cons s l=>
  rw[Co,Sm.dm,Sm.qo]at h3
  cases b with
  |nil=>simp at h3
  | cons x b=>
   simp only[List.map_cons,List.cons_append,List.cons.injEq]at h3
   have hx:p.pre[a.length]? = some s:=by
    rw[← (nH p).1,h4]
    simp[h3.1]
   have:=Lc hb hx
   rw[if_pos (by simp;omega)]
   simp only[gn]
   rw[this];omega
theorem abQ {p:Pg} (hb:p.may=true) {i:Nat} {f:Pc} (hf:p.procs[i]? = some f) (s:St):az Tryz.prog pe [.dL (fw p) 0, .int .i64 (i:Int)] s (.int .i64 (gn f.body (-1))) s:=by
 refine az.pure ?_ (by simp[D.bH,D.ok,uw]) rfl s
 obtain⟨a,b,h1,h2,h⟩:=MU hb hf
 generalize gn f.body (-1)=R at h
 unfold S0
 rw[nW]
 refine az.go zL rfl fun B Q hB hQ=>?_
 have⟨hC,hE,hM,hY⟩:=bC
 repeat' (first
 |simp only[go_sem,hC,hE,hM,hY,h1,h2]
 |(with_reducible first|refine aX fun hc=>?_|refine aY fun hc=>?_|refine aZ (fun hc=>?_) fun hc=>?_)<;>(try simp only[hc,bs,↓reduceIte]at h)<;>try simp only[hc]
 |(with_reducible refine aB hQ ?_;(try cases h);simp only[aQ,aR,bn,bo,go_sem,hC,hE,hM,hY,h1,h2];try exact bR)
 |(cases h;done))
section
variable {p:Pg} {T W:List Int} {y:Lay} {m:Mc} {loc:List (Nat×List D)} {s:St}
theorem jO.row {s:St} {d:D} {cs:List D} (h:jO s d cs) (hn:cs≠ []) : ∃ o g more,d = .eF 1 o g cs.length∧s.ah[o]? = some (.int .i64 ((g:Nat):Int)::(cs++more)):=by
 rcases h with ⟨_,h⟩|h
 ·exact absurd h hn
 ·exact h
theorem Inv.XL (h:Inv p T W y m loc s) {fr:Fr} {r:List Fr} (jR:m.st=fr::r) : ∃ so g cells o,y.sd = .eF 1 so g (r.length+1)∧s.ah[so]? = some (.int .i64 ((g:Nat):Int)::cells)∧cells[r.length]? = some (.ptr o 0)∧s.ah[o]? = some (pB y.κ fr)∧y.φ[0]? = some o:=by
 have jk:=h.sL
 rw[jR]at jk
 cases hφ:y.φ with
 |nil=>rw[hφ]at jk;simp at jk
 | cons o φ=>
  rw[hφ]at jk
  simp only[List.length_cons]at jk
  obtain⟨so,g,more,h1,h2⟩:=h.stack.row (by simp[hφ])
  refine⟨so,g,_,o, ?_,h2, ?_,(h.frame 0 o fr (by rw[hφ];rfl) (by rw[jR];rfl)).1,rfl⟩
  ·rw[h1];simp[hφ];omega
  ·rw [hφ,List.reverse_cons,List.map_append,List.append_assoc,List.getElem?_append_right (by simp;omega)]
   simp[xS,show r.length - φ.length=0 by omega]
theorem Rt (h:Inv p T W y m loc s) {fr:Fr} {r:List Fr} (jR:m.st=fr::r) (hs:r.length<1000000) : ∃ o,y.φ[0]? = some o∧s.ah[o]? = some (pB y.κ fr)∧az Tryz.prog kU [.ptr 0 0] s (.ptr o 0) s:=by
 obtain⟨so,g,cells,o,h1,h2,h3,h4,h5⟩:=h.XL jR
 refine⟨o,h5,h4, ?_⟩
 have hm:=h.jP
 rw[fu,h1]at hm
 have hw:IntKind.wrap .i64 (((r.length+1:Nat):Int) - 1)=((r.length:Nat):Int):=by rw[show((r.length+1:Nat):Int) - 1=(r.length:Int) by omega];exact dN (by omega) (by omega)
 have hl:(r.length<r.length+1)=True:=by simp
 refine bP.uM AR rfl fun B Q hB hQ=>?_
 have⟨hC,hE,hM,hY⟩:=bC
 repeat' (first
 |simp only[go_sem,hC,hE,hM,hY,hm,hw,h2,h3,hl,Nat.mul_one]
 |(with_reducible first|refine aX fun hc=>?_|refine aY fun hc=>?_|refine aZ (fun hc=>?_) fun hc=>?_)<;>(try simp only[hc,bs,↓reduceIte]at h)<;>try simp only[hc]
 |(with_reducible refine aB hQ ?_;(try cases h);simp only[aQ,aR,bn,bo,go_sem,hC,hE,hM,hY,hm,hw,h2,h3,hl,Nat.mul_one];try exact bR)
 |(cases h;done))
 (refine gS hQ ?_;simp only[aQ,aR,bn,bo,go_sem])
theorem CP (h:Inv p T W y m loc s) {fr:Fr} {r:List Fr} (jR:m.st=fr::r) (hs:r.length<1000000) (hn:fr.names.length<1000000) {name:aF} {j c:Nat} (hj:jg name 0 fr.names=(j:Int)) (hc:fr.vars[j]? = some c) :
 az Tryz.prog iL [.ptr 0 0, .str name] s (.ptr (y.κ.getD c 0) 0) s:=by
 obtain⟨o,_,h1,c1⟩:=Rt h jR hs
 have c2:=fun s=>Cz (l:=fr.names) (by omega) name s
 rw[hj]at c2
 rw[pB]at h1
 refine bP.uM yH rfl fun B Q hB hQ=>?_
 have⟨hC,hE,hM,hY⟩:=bC
 repeat' (first
 |simp only[go_sem,hC,hE,hM,hY,h1,hc,fh,Option.map_some]
 |(with_reducible refine CU (c1) ?_)
 |(with_reducible refine CU (c2 _) ?_)
 |(with_reducible first|refine aX fun hc=>?_|refine aY fun hc=>?_|refine aZ (fun hc=>?_) fun hc=>?_)<;>(try simp only[hc,bs,↓reduceIte]at h)<;>try simp only[hc]
 |(with_reducible refine aB hQ ?_;(try cases h);simp only[aQ,aR,bn,bo,go_sem,hC,hE,hM,hY,h1,hc,fh,Option.map_some];try exact bR)
 |(cases h;done))
 (refine gS hQ ?_;simp only[aQ,aR,bn,bo,go_sem])
abbrev Rl (p:Pg) (T W:List Int) (d:D) (m':Mc) (X:Lay→Prop) (loc:List (Nat×List D)):D→St→Prop:=fun d' s'=>d'=d∧∃ y',X y'∧Inv p T W y' m' loc s'
theorem NT (h:Inv p T W y m loc s) (hW:W.length<1000000) (ht:m.trace.length<2000000) (id:Int) (dg:List Int) :
 bP Tryz.prog eE [.ptr 0 0, .int .i64 id, .slice .shared 1 (dg.map cO)] s (Rl p T W (.tuple []) (m.event W id dg) (· = y) loc):=by
 have hm:=h.jP
 rw[fu]at hm
 have hl:=h.uO
 have c1:=fun s=>MT (l:=W) (by omega) id s
 have eS:gp 2 32 (.slice (.tok 1) 2 (m.trace.map gC)) (.slice .full 2 [[.int .i64 id, .slice .shared 1 (dg.map cO)]]) s=some (.slice (.tok 1) 2 ((m.trace++ [(id,dg)]).map gC),⟨s.ah,s.aw.set 1 (some (m.trace.length+1))⟩):=by
  rw[o9 (size:=2) (bytes:=32) (by simp only[List.length_map,List.length_singleton];unfold bu;omega) (by simpa using h.t1)]
  simp[gC]
 refine bP.uM yJ rfl fun B Q hB hQ=>?_
 have⟨hC,hE,hM,hY⟩:=bC
 cases hb:W.contains id
 ·repeat' (first
 |simp only[go_sem,hC,hE,hM,hY,hm,hb]
 |(with_reducible refine CU (c1 _) ?_)
 |(with_reducible first|refine aX fun hc=>?_|refine aY fun hc=>?_|refine aZ (fun hc=>?_) fun hc=>?_)<;>(try simp only[hc,bs,↓reduceIte]at h)<;>try simp only[hc]
 |(with_reducible refine aB hQ ?_;(try cases h);simp only[aQ,aR,bn,bo,go_sem,hC,hE,hM,hY,hm,hb];try exact bR)
 |(cases h;done))
  (refine gS hQ ?_;simp only[aQ,aR,bn,bo,go_sem])
  refine⟨rfl,y,rfl, ?_⟩
  unfold Mc.event
  rw[hb]
  exact h
 ·repeat' (first
 |simp only[go_sem,hC,hE,hM,hY,hm,hb,eS,hl]
 |(with_reducible refine CU (c1 _) ?_)
 |(with_reducible first|refine aX fun hc=>?_|refine aY fun hc=>?_|refine aZ (fun hc=>?_) fun hc=>?_)<;>(try simp only[hc,bs,↓reduceIte]at h)<;>try simp only[hc]
 |(with_reducible refine aB hQ ?_;(try cases h);simp only[aQ,aR,bn,bo,go_sem,hC,hE,hM,hY,hm,hb,eS,hl];try exact bR)
 | (cases h;done))
  (refine gS hQ ?_;simp only[aQ,aR,bn,bo,go_sem])
  refine⟨rfl,y,rfl, ?_⟩
  have:=h.ud (m':=m.event W id dg) (ts:=s.aw.set 1 (some (m.trace.length+1))) (fG W m id dg).1 (fG W m id dg).2.1 (by rw[(fG W m id dg).2.2.2.2.2,List.getElem?_set_ne (by omega)];exact h.t0) (by
   unfold Mc.event
   rw[hb]
   simp[(List.getElem?_eq_some_iff.1 h.t1).1])
  unfold Mc.event at this ⊢
  rw[hb,if_pos rfl]at this ⊢
  simp only[fu,List.map_append,List.map_cons,List.map_nil]at this
  exact this
theorem NU (l:List Sm) (hl:l.length<4611686018427387904) (o:Int) (s:St):az Tryz.prog qi [.slice .shared 13 (l.map a8), .int .i64 o] s (.int .i64 (firstM l o)) s:=by
 refine az.pure ?_ (by simp[D.bH,D.ok,Tag.ok,oK]) rfl s
 unfold S0
 cases l with
 |nil=>
  have e:decide ((0:Int) > 0)=false:=rfl
  simp only[firstM,gn,List.map_nil]
  refine az.go AA rfl fun B Q hB hQ=>?_
  have⟨hC,hE,hM,hY⟩:=bC
  repeat' (first
 |simp only[go_sem,hC,hE,hM,hY,e]
 |(with_reducible first|refine aX fun hc=>?_|refine aY fun hc=>?_|refine aZ (fun hc=>?_) fun hc=>?_)<;>(try simp only[hc,bs,↓reduceIte]at h)<;>try simp only[hc]
 |(with_reducible refine aB hQ ?_;(try cases h);simp only[aQ,aR,bn,bo,go_sem,hC,hE,hM,hY,e];try exact bR)
 |(cases h;done))
 |cons a l=>
  have e:decide (((l.length+1:Nat):Int) > 0)=true:=by simp
  simp only[firstM,gn,List.map_cons]
  refine az.go AA rfl fun B Q hB hQ=>?_
  have⟨hC,hE,hM,hY⟩:=bC
  repeat' (first
 |simp only[go_sem,hC,hE,hM,hY,e]
 |(with_reducible first|refine aX fun hc=>?_|refine aY fun hc=>?_|refine aZ (fun hc=>?_) fun hc=>?_)<;>(try simp only[hc,bs,↓reduceIte]at h)<;>try simp only[hc]
 |(with_reducible refine aB hQ ?_;(try cases h);simp only[aQ,aR,bn,bo,go_sem,hC,hE,hM,hY,e];try exact bR)
 |(cases h;done))
end
end Go.Abs
namespace Go.Abs
set_option maxRecDepth 8000
open Go.Proofs
section
variable {p:Pg} {T W:List Int} {y:Lay} {m:Mc} {loc:List (Nat×List D)} {s:St}
theorem LR {s:St} {o g z bytes:Nat} {t:Tag} {cs more r:List D} {len:Nat} (hs:s.ah[o]? = some (.int .i64 (g:Int)::(cs++more))) (hl:cs.length=len*z) (hm:(len+1)*(bytes+1)≤bu) :
 A6 z bytes (.eF z o g len) (.slice t z [r]) s=some (.eF z o (g+1) (len+1),⟨s.ah.set o (.int .i64 ((g+1:Nat):Int)::(cs++r)),s.aw⟩):=by
 have ha:nL s o g=some (cs++more):=by unfold nL;rw[hs];simp
 simp only[A6,ha,List.length_singleton,hm,or_true,and_self,if_true,List.flatten_cons,List.flatten_nil,List.append_nil]
 rw[if_pos (by simp;omega), ← hl,List.take_append_of_le_length (Nat.le_refl _),List.take_length]
theorem Wk.aiH (z z':Nat):Wk (.eD z) (.slice .shared z' []):=fun M s v h=>by
 cases h with
 |eD _ a=>cases a with
  |none=>exact .jo _ _ _ rfl trivial
  |some a=>exact .mg _ _ _
theorem az.aiI {P:Program} {f:FuncId} {a b:D} {d:D} {s:St} {v:D} {l:List Int} (hv:jO s v (l.map qQ)) (h : ∀ s,az P f [a,b, .slice .shared 1 (l.map cO)] s d s) (ha:D.ok 0 0 a=true) (hb:D.ok 0 0 b=true) (hd:d.flat=true) :
 az P f [a,b,v] s d s:=by
 rcases hv with ⟨rfl,e⟩|⟨o,g,more,rfl,e⟩
 ·have:l = []:=by simpa using e
  subst this
  exact bP.ou (.cons (Wk.refl _) (.cons (Wk.refl _) (.cons (Wk.aiH 1 1) .nil))) (h s)
 ·have ey : ∀ l:List Int,(l.map cO).flatten=l.map qQ:=fun l=>by
   induction l with
   |nil=>rfl
   |cons x l ih=>simp only[List.map_cons,List.flatten_cons,ih];rfl
  have hlen:(l.map qQ).length=(l.map cO).length:=by simp
  rw[hlen]
  have e0:D.jM o g (l.map cO) [a,b, .eF 1 o g (l.map cO).length] = [a,b, .slice .shared 1 (l.map cO)]:=by
   simp only[D.jM,LI _ _ _ a ha,LI _ _ _ b hb,D.fK,and_self,if_true]
  refine az.as6 (k:=2) (rows:=l.map cO) rfl (by rw[ey];exact e) (by intro r hr;obtain⟨x,_,rfl⟩:=List.mem_map.1 hr;rfl) ?_ ?_ hd
  ·rw[e0];exact h S0
  ·rw[e0];simp[D.bH,D.ok,Tag.ok,ha,hb,kG]
structure mN (m:Mc) (fr:Fr) (r:List Fr):Prop where
 st:m.st=fr::r
 len:r.length<1000000
 names:fr.names.length<1000000
 vars:fr.vars.length<1000000
theorem mN.top {fr:Fr} {r:List Fr} (h:mN m fr r):m.top=fr:=by simp[Mc.top,h.st]
theorem Uz {fr:Fr} {k c:Nat} {rest:List Nat} (h:fr.vars.drop k=c::rest) (m:Mc):(fr.vars.take (k+1)).map (fun c=>m.mem.getD c 0)=(fr.vars.take k).map (fun c=>m.mem.getD c 0)++ [m.mem.getD c 0]:=by
 have:=(drop_cons h).1
 rw[List.take_add_one,this]
 simp
theorem Ej (h:Inv p T W y m loc s) {fr:Fr} {r:List Fr} (ht:mN m fr r) {x:Ex} (hx:x.size<1000000) (htx:x.texts) :
 bP Tryz.prog kb [.ptr 0 0, .agg (bI x)] s (fun d s'=>Rl p T W (Ab (m.bW x).1) (m.bW x).2 (fun y'=>y' = {y with vd:=y'.vd}) loc d s'∧s'.aw=s.aw):=by
 have h1:=h.new (bI x)
 generalize ZH:(s.ah.length,bI x)::loc=XM at h1
 obtain⟨o,ho,UA,c1⟩:=Rt h1 ht.st ht.len
 have hm:=h1.jP
 rw[fu]at hm
 have hl:=h1.uO
 simp only at hm hl
 rw[pB]at UA
 have hvl:=ht.vars
 have Sb:=ht.names
 refine bP.uM yI rfl fun B Q hB hQ=>?_
 have⟨hC,hE,hM,hY⟩:=bC
 -- the rounds
 have loop : ∀ (n k:Nat) (rest:List Nat) (vd:D) (s2:St),s2.aw=s.aw→rest.length=n→fr.vars.drop k=rest→Inv p T W {y with vd:=vd} m XM s2→jO s2 vd (((fr.vars.take k).map fun c=>m.mem.getD c 0).map qQ)→
  bd Tryz.prog B 64 adS (iD 0 (kK (gD Tryz.prog B 64 adT Q) Q)) [(0, .ptr 0 0),(3, .ptr s.ah.length 0),(6, .ptr o 0),(24, .slice .shared 1 (fr.vars.map fun c=>fh (y.κ.getD c 0))),(25, .int .i64 (fr.vars.length:Int)),(26, .int .i64 (k:Int))] s2:=by
  intro n
  induction n with
  | zero=>
   intro k rest vd s2 vw Bf hd h2 ha
   have:rest = []:=List.eq_nil_of_length_eq_zero Bf
   subst this
   have hC:=drop_nil hd
   have hk:fr.vars.take k=fr.vars:=List.take_of_length_le (List.drop_eq_nil_iff.1 hd)
   rw[hk]at ha
   have ZI:(fr.vars.map fun c=>m.mem.getD c 0)=m.dg:=by unfold Mc.dg;rw[ht.top]
   rw[ZI]at ha
   have jK:=h2.jP
   rw[fu]at jK
   have lb:=h2.uO
   have HZ:=(h2.frame 0 o fr ho (by rw[ht.st];rfl)).1
   rw[pB]at HZ
   have tV:=(h2.loc (s.ah.length,bI x) (by rw[← ZH];exact List.mem_cons_self ..)).1
   simp only at jK HZ tV
   have c2:az Tryz.prog wL [.agg (bI x), .slice .shared 1 (fr.names.map encStr),vd] s2 (Ab (x.bW fr.names m.dg)) s2:=
    az.aiI ha (fun s=>XK (by omega) htx (by omega) (by rw[← ZI,List.length_map];omega) s) (by simp[D.ok,gT]) (by simp[D.ok,Tag.ok,eB]) (by simp[D.flat,D.FB])
   have hw:(m.bW x).1=x.bW fr.names m.dg:=by unfold Mc.bW;rw[ht.top]
   generalize hr:x.bW fr.names m.dg=q at *
   have tM:(m.bW x).2=if q.2 then m else {m with fin:=4}:=by unfold Mc.bW;rw[ht.top,hr]
   obtain⟨q1,q2⟩:=q
   have v7:Inv p T W {y with vd:=vd} {m with fin:=4} XM ⟨s2.ah.set 0 (fu p T W {y with vd:=vd} {m with fin:=4}),s2.aw⟩:=h2.ud (m':= {m with fin:=4}) rfl rfl h2.t0 h2.t1
   rw[fu]at v7
   have nC : ∀ q∈loc,q∈XM:=fun q mq=>by rw[← ZH];exact List.mem_cons_of_mem _ mq
   refine bd.kv ?_
   cases q2
   ·repeat' (first
 |simp only[go_sem,hC,hE,hM,hY,jK,lb,HZ,tV]
 |(with_reducible refine CU (c2) ?_)
 |(with_reducible first|refine aX fun hc=>?_|refine aY fun hc=>?_|refine aZ (fun hc=>?_) fun hc=>?_)<;>(try simp only[hc,bs,↓reduceIte]at h)<;>try simp only[hc]
 |(with_reducible refine aB hQ ?_;(try cases h);simp only[aQ,aR,bn,bo,go_sem,hC,hE,hM,hY,jK,lb,HZ,tV];try exact bR)
 |(cases h;replace h:=hr;clear hr;(try simp only[bs,↓reduceIte]at h))
 | (cases h;done))
    (refine gS hQ ?_;simp only[aQ,aR,bn,bo,go_sem])
    refine⟨⟨by rw[hw],{y with vd:=vd},rfl, ?_⟩,vw⟩
    rw[tM]
    exact v7.sub nC
   ·repeat' (first
 |simp only[go_sem,hC,hE,hM,hY,jK,lb,HZ,tV]
 |(with_reducible refine CU (c2) ?_)
 |(with_reducible first|refine aX fun hc=>?_|refine aY fun hc=>?_|refine aZ (fun hc=>?_) fun hc=>?_)<;>(try simp only[hc,bs,↓reduceIte]at h)<;>try simp only[hc]
 |(with_reducible refine aB hQ ?_;(try cases h);simp only[aQ,aR,bn,bo,go_sem,hC,hE,hM,hY,jK,lb,HZ,tV];try exact bR)
 |(cases h;replace h:=hr;clear hr;(try simp only[bs,↓reduceIte]at h))
 | (cases h;done))
    (refine gS hQ ?_;simp only[aQ,aR,bn,bo,go_sem])
    refine⟨⟨by rw[hw],{y with vd:=vd},rfl, ?_⟩,vw⟩
    rw[tM]
    exact h2.sub nC
  | succ n ih=>
   intro k rest vd s2 vw Bf hd h2 ha
   cases rest with
   |nil=>cases Bf
   | cons c rest=>
    obtain⟨hE,g2,hC,g4⟩:=drop_cons hd
    have cm:k<4611686018427387904:=by omega
    have UB:c<m.mem.length:=(h2.frame 0 o fr ho (by rw[ht.st];rfl)).2.2 c (List.mem_of_getElem? hE)
    have hκ:y.κ[c]? = some (y.κ.getD c 0):=by
     rw[List.getD_eq_getElem?_getD,List.getElem?_eq_getElem (by have:=h2.len;simp only at this;omega)];rfl
    have kI:=h2.cell c _ _ hκ (by rw[List.getElem?_eq_getElem UB])
    have rA:m.mem[c] = m.mem.getD c 0:=by rw[List.getD_eq_getElem?_getD,List.getElem?_eq_getElem UB];rfl
    rw[rA]at kI
    generalize aiJ:m.mem.getD c 0=v at kI
    have jK:=h2.jP
    rw[fu]at jK
    have lb:=h2.uO
    simp only at jK
    have hlen:k<1000000:=by have:=ht.vars;omega
    have hvt:((fr.vars.take (k+1)).map fun c=>m.mem.getD c 0).map qQ=((fr.vars.take k).map fun c=>m.mem.getD c 0).map qQ++ [.int .i64 v]:=by
     rw[Uz hd m,aiJ,List.map_append];rfl
    rcases ha with ⟨rfl,e⟩|⟨vo,g,more,rfl,e⟩
    ·have eS:=LG (z:=1) (bytes:=8) .full [.int .i64 v] s2 (by unfold bu;omega)
     have h3:=h2.Rp (vd:= .eF 1 s2.ah.length 0 1) (s1:=⟨s2.ah++ [[.int .i64 ((0:Nat):Int), .int .i64 v]],s2.aw⟩) (fun o r e _=>by rw[List.getElem?_append_left (gd e)];exact e)
      ⟨[v], .inr ⟨_,0,[],rfl,by simp[qQ]⟩⟩ (.inr (.inr rfl)) rfl
     rw[fu]at h3
     simp only at h3
     refine bd.kv ?_
     have hA : ∀ e:List (List D),(s2.ah++e)[0]? = s2.ah[0]? :=fun e=>List.getElem?_append_left lb
     repeat' (first
 |simp only[go_sem,hC,hE,hM,hY,jK,lb,kI,hE,fh,eS,Option.map_some,hA]
 |(with_reducible first|refine aX fun hc=>?_|refine aY fun hc=>?_|refine aZ (fun hc=>?_) fun hc=>?_)<;>(try simp only[hc,bs,↓reduceIte]at h)<;>try simp only[hc]
 |(with_reducible refine aB hQ ?_;(try cases h);simp only[aQ,aR,bn,bo,go_sem,hC,hE,hM,hY,jK,lb,kI,hE,fh,eS,Option.map_some,hA];try exact bR)
 |(cases h;replace h:=hr;clear hr;(try simp only[bs,↓reduceIte]at h))
 | (cases h;done))
     refine bd.pU ?_ (ih (k+1) rest _ _ vw (by simpa using Bf) g2 h3 ?_)
     ·simp only [go_sem,aL cm,fh]
      repeat' (first|exact Ok.out|with_reducible refine eL ?_ ?_)
     ·rw [hvt,e]
      refine .inr ⟨_,0,[],rfl, ?_⟩
      show((s2.ah++ [_]).set 0 _)[s2.ah.length]? = _
      rw[List.getElem?_set_ne (by omega)]
      simp
    ·have nF:(((fr.vars.take k).map fun c=>m.mem.getD c 0).map qQ).length=k:=by simp;omega
     have eS:=LR (t:= .full) (bytes:=8) (r:= [.int .i64 v]) e (len:=k) (z:=1) (by rw[nF,Nat.mul_one]) (by unfold bu;omega)
     rw[nF]at jK h2
     have ZJ:0≠vo:=fun e'=>(h2.wb (o:=vo) (by simp[D.arr])) e'.symm
     have dr:jO ⟨s2.ah.set vo (.int .i64 ((g+1:Nat):Int)::(((fr.vars.take k).map fun c=>m.mem.getD c 0).map qQ++ [.int .i64 v])),s2.aw⟩ (.eF 1 vo (g+1) (k+1)) (((fr.vars.take k).map fun c=>m.mem.getD c 0).map qQ++ [.int .i64 v]):=
      .inr ⟨vo,g+1,[],by simp;omega,by simp[gd e]⟩
     have h3:=h2.Rp (vd:= .eF 1 vo (g+1) (k+1)) (s1:=⟨s2.ah.set vo (.int .i64 ((g+1:Nat):Int)::(((fr.vars.take k).map fun c=>m.mem.getD c 0).map qQ++ [.int .i64 v])),s2.aw⟩) (fun o r e hn=>by rw[List.getElem?_set_ne (fun e'=>hn (by rw[← e'];simp[D.arr]))];exact e)
      ⟨(fr.vars.take (k+1)).map fun c=>m.mem.getD c 0,by rw[hvt];exact dr⟩ (.inl rfl) rfl
     rw[fu]at h3
     simp only at h3
     refine bd.kv ?_
     have hA : ∀ e:List D,(s2.ah.set vo e)[0]? = s2.ah[0]? :=fun e=>List.getElem?_set_ne (Ne.symm ZJ)
     repeat' (first
 |simp only[go_sem,hC,hE,hM,hY,jK,lb,kI,hE,fh,eS,Option.map_some,hA]
 |(with_reducible first|refine aX fun hc=>?_|refine aY fun hc=>?_|refine aZ (fun hc=>?_) fun hc=>?_)<;>(try simp only[hc,bs,↓reduceIte]at h)<;>try simp only[hc]
 |(with_reducible refine aB hQ ?_;(try cases h);simp only[aQ,aR,bn,bo,go_sem,hC,hE,hM,hY,jK,lb,kI,hE,fh,eS,Option.map_some,hA];try exact bR)
 |(cases h;replace h:=hr;clear hr;(try simp only[bs,↓reduceIte]at h))
 |(cases h;done))
     refine bd.pU ?_ (ih (k+1) rest _ _ vw (by simpa using Bf) g2 h3 ?_)
     ·simp only [go_sem,aL cm,fh]
      repeat' (first|exact Ok.out|with_reducible refine eL ?_ ?_)
     ·rw [hvt]
      exact dr.keep fun o mo=>by
       have:o=vo:=by simpa[D.arr]using mo
       subst this
       show(List.set _ 0 _)[o]? = _
       rw[List.getElem?_set_ne ZJ]
 -- the values' slice is emptied
 obtain⟨l,hv⟩:=h1.dg
 have h0:((s.ah++ [bI x])[0]?).isSome=true:=by rw[hm];rfl
 rcases hv with ⟨e,_⟩|⟨vo,g,more,e,e2⟩
 ·rw [e]at hm
  have uA:xh (.eD 1) none (some (.int .i64 0))=some (.eD 1):=by simp[xh,tj,tn]
  have h3:=h1.Rp (vd:= .eD 1) (s1:=⟨s.ah++ [bI x],s.aw⟩) (fun _ _ e _=>e) ⟨[], .inl ⟨rfl,rfl⟩⟩ (.inl (by rw[e])) rfl
  have Cd:=(h3.frame 0 o fr ho (by rw[ht.st];rfl)).1
  rw[fu]at h3 Cd
  rw[pB]at Cd
  simp only at h3 Cd
  repeat' (first
 |simp only[go_sem,hC,hE,hM,hY,hm,hl,UA,uA,Cd]
 |(with_reducible refine CU (c1) ?_)
 |(with_reducible first|refine aX fun hc=>?_|refine aY fun hc=>?_|refine aZ (fun hc=>?_) fun hc=>?_)<;>(try simp only[hc,bs,↓reduceIte]at h)<;>try simp only[hc]
 |(with_reducible refine aB hQ ?_;(try cases h);simp only[aQ,aR,bn,bo,go_sem,hC,hE,hM,hY,hm,hl,UA,uA,Cd];try exact bR)
 |(cases h;replace h:=hr;clear hr;(try simp only[bs,↓reduceIte]at h))
 |(cases h;done))
  refine bd.pU ?_ (loop _ 0 fr.vars _ _ rfl rfl rfl h3 (.inl ⟨rfl,rfl⟩))
  simp only[go_sem,fh]
  repeat' (first|exact Ok.out|with_reducible refine eL ?_ ?_)
 ·rw [List.length_map]at e
  rw[e]at hm
  have ZJ:0≠vo:=fun e'=>(h1.wb (o:=vo) (by rw[e];simp[D.arr])) e'.symm
  have uA:xh (.eF 1 vo g l.length) none (some (.int .i64 0))=some (.eF 1 vo g 0):=by simp[xh,tj,tn]
  have h3:=h1.Rp (vd:= .eF 1 vo g 0) (s1:=⟨s.ah++ [bI x],s.aw⟩) (fun _ _ e _=>e) ⟨[], .inr ⟨vo,g,l.map qQ++more,rfl,e2⟩⟩ (.inl (by rw[e];rfl)) rfl
  have Cd:=(h3.frame 0 o fr ho (by rw[ht.st];rfl)).1
  rw[fu]at h3 Cd
  rw[pB]at Cd
  simp only at h3 Cd
  repeat' (first
 |simp only[go_sem,hC,hE,hM,hY,hm,hl,UA,uA,Cd]
 |(with_reducible refine CU (c1) ?_)
 |(with_reducible first|refine aX fun hc=>?_|refine aY fun hc=>?_|refine aZ (fun hc=>?_) fun hc=>?_)<;>(try simp only[hc,bs,↓reduceIte]at h)<;>try simp only[hc]
 |(with_reducible refine aB hQ ?_;(try cases h);simp only[aQ,aR,bn,bo,go_sem,hC,hE,hM,hY,hm,hl,UA,uA,Cd];try exact bR)
 |(cases h;replace h:=hr;clear hr;(try simp only[bs,↓reduceIte]at h))
 | (cases h;done))
  refine bd.pU ?_ (loop _ 0 fr.vars _ _ rfl rfl rfl h3 (.inr ⟨vo,g,l.map qQ++more,rfl, ?_⟩))
  ·simp only [go_sem,fh]
   repeat' (first|exact Ok.out|with_reducible refine eL ?_ ?_)
  ·show(List.set _ 0 _)[vo]? = _
   rw[List.getElem?_set_ne ZJ];exact e2
end
end Go.Abs
namespace Go.Abs
set_option maxRecDepth 8000
open Go.Proofs
section
variable {p:Pg} {T W:List Int} {y:Lay} {m:Mc} {loc:List (Nat×List D)} {s:St}
theorem DL:Wk (.slice .full 0 []) (.slice .shared 1 (([] : List Int).map cO)):=Wk.nil _ _ _
theorem we (h:Inv p T W y m loc s) (hW:W.length<1000000) (ht:m.trace.length<2000000) (id:Int) :
 bP Tryz.prog eE [.ptr 0 0, .int .i64 id, .slice .full 0 []] s (Rl p T W (.tuple []) (m.event W id []) (· = y) loc):=
 bP.ou (.cons (Wk.refl _) (.cons (Wk.refl _) (.cons DL .nil))) (NT h hW ht id [])
theorem Ek (h:Inv p T W y m loc s) (hW:W.length<1000000) (ht:m.trace.length<2000000) (id n:Int) :
 bP Tryz.prog eE [.ptr 0 0, .int .i64 id, .slice .full 1 [[.int .i64 n]]] s (Rl p T W (.tuple []) (m.event W id [n]) (· = y) loc):=
 bP.ou (.cons (Wk.refl _) (.cons (Wk.refl _) (.cons (Wk.shared _ _ _) .nil))) (NT h hW ht id [n])
theorem abR (h:Inv p T W y m loc s) {fr:Fr} {r:List Fr} (ht:mN m fr r) {v:Sm} (hv:v.nw) (hW:W.length<1000000) (htr:m.trace.length<2000000) :
 bP Tryz.prog ow [.ptr 0 0, .agg (a8 v)] s (Rl p T W (.int .i64 (m.jn W v).1) (m.jn W v).2 (fun y'=>y' = {y with vd:=y'.vd}) loc):=by
 have h1:=h.new (a8 v)
 have hx:(s.ah++ [a8 v])[s.ah.length]? = some (a8 v):=by simp
 have nC : ∀ q∈loc,q∈(s.ah.length,a8 v)::loc:=fun q mq=>List.mem_cons_of_mem _ mq
 refine bP.uM yr rfl fun B Q hB hQ=>?_
 have⟨hC,hE,hM,hY⟩:=bC
 rcases Bool.eq_false_or_eq_true v.has with b|b
 ·have c1:=Ej h1 ht (x:=v.x) (by have:=hv.2.2;omega) hv.1
  repeat' (first
 |simp only[go_sem,hC,hE,hM,hY,hx,b]
 |(with_reducible first|refine aX fun hc=>?_|refine aY fun hc=>?_|refine aZ (fun hc=>?_) fun hc=>?_)<;>(try simp only[hc,bs,↓reduceIte]at h)<;>try simp only[hc]
 |(with_reducible refine aB hQ ?_;(try cases h);simp only[aQ,aR,bn,bo,go_sem,hC,hE,hM,hY,hx,b];try exact bR)
 | (cases h;done))
  refine CR c1 fun d s2 h2=>?_
  obtain⟨⟨rfl,y2,wg,h2⟩,_⟩:=h2
  have tV:=(h2.loc (s.ah.length,a8 v) (List.mem_cons_self ..)).1
  have hw:=jN m v.x
  simp only at tV
  rcases Bool.eq_false_or_eq_true (m.bW v.x).1.2 with b2|b2
  ·have c2:=Ek h2 hW (by rw [hw.2.2.2.2.2];exact htr) v.id (m.bW v.x).1.1
   repeat' (first
 |simp only[go_sem,hC,hE,hM,hY,tV,b2]
 |(with_reducible first|refine aX fun hc=>?_|refine aY fun hc=>?_|refine aZ (fun hc=>?_) fun hc=>?_)<;>(try simp only[hc,bs,↓reduceIte]at h)<;>try simp only[hc]
 |(with_reducible refine aB hQ ?_;(try cases h);simp only[aQ,aR,bn,bo,go_sem,hC,hE,hM,hY,tV,b2];try exact bR)
 | (cases h;done))
   refine CR c2 fun d s3 h3=>?_
   obtain⟨rfl,y3,rfl,h3⟩:=h3
   repeat' (first
 |simp only[go_sem,hC,hE,hM,hY]
 |(with_reducible first|refine aX fun hc=>?_|refine aY fun hc=>?_|refine aZ (fun hc=>?_) fun hc=>?_)<;>(try simp only[hc,bs,↓reduceIte]at h)<;>try simp only[hc]
 |(with_reducible refine aB hQ ?_;exact ep)
 | (cases h;done))
   (refine gS hQ ?_;simp only[aQ,aR,bn,bo,go_sem])
   refine⟨by simp only[Mc.jn,b,if_true],y3,wg, ?_⟩
   simp only[Mc.jn,b,b2,if_true]
   exact h3.sub nC
  ·repeat' (first
 |simp only[go_sem,hC,hE,hM,hY,tV,b2]
 |(with_reducible first|refine aX fun hc=>?_|refine aY fun hc=>?_|refine aZ (fun hc=>?_) fun hc=>?_)<;>(try simp only[hc,bs,↓reduceIte]at h)<;>try simp only[hc]
 |(with_reducible refine aB hQ ?_;(try cases h);simp only[aQ,aR,bn,bo,go_sem,hC,hE,hM,hY,tV,b2];try exact bR)
 | (cases h;done))
   (refine gS hQ ?_;simp only[aQ,aR,bn,bo,go_sem])
   refine⟨by simp only[Mc.jn,b,if_true],y2,wg, ?_⟩
   simp only[Mc.jn,b,b2,if_true,Bool.false_eq_true,if_false]
   exact h2.sub nC
 ·have c1:=we h1 hW htr v.id
  repeat' (first
 |simp only[go_sem,hC,hE,hM,hY,hx,b]
 |(with_reducible first|refine aX fun hc=>?_|refine aY fun hc=>?_|refine aZ (fun hc=>?_) fun hc=>?_)<;>(try simp only[hc,bs,↓reduceIte]at h)<;>try simp only[hc]
 |(with_reducible refine aB hQ ?_;(try cases h);simp only[aQ,aR,bn,bo,go_sem,hC,hE,hM,hY,hx,b];try exact bR)
 |(cases h;done))
  refine CR c1 fun d s2 h2=>?_
  obtain⟨rfl,y2,rfl,h2⟩:=h2
  repeat' (first
 |simp only[go_sem,hC,hE,hM,hY]
 |(with_reducible first|refine aX fun hc=>?_|refine aY fun hc=>?_|refine aZ (fun hc=>?_) fun hc=>?_)<;>(try simp only[hc,bs,↓reduceIte]at h)<;>try simp only[hc]
 |(with_reducible refine aB hQ ?_;exact ep)
 |(cases h;done))
  (refine gS hQ ?_;simp only[aQ,aR,bn,bo,go_sem])
  refine⟨by simp only[Mc.jn,b,Bool.false_eq_true,if_false],y2,rfl, ?_⟩
  simp only[Mc.jn,b,Bool.false_eq_true,if_false]
  exact h2.sub nC
end
end Go.Abs
namespace Go.Abs
set_option maxRecDepth 8000
open Go.Proofs
section
variable {p:Pg} {T W:List Int} {y:Lay} {m:Mc} {loc:List (Nat×List D)} {s:St}
theorem gx.setAt : ∀ {l:List (List D)} {i:Nat} {r r':List D},l[i]? = some r→ju r r'→gx l (l.set i r')
 |a::l,0,r,r',h,w=>by simp at h;subst h;exact .cons w (gx.refl l)
 |a::l,i+1,r,r',h,w=> .cons (ju.refl a) (gx.setAt (l:=l) (by simpa using h) w)
def Lay.push (y:Lay) (n K:Nat) (sd:D):Lay:= {y with κ:=y.κ++(List.range K).map (n+2 + ·),φ:=(n+1)::y.φ,sd:=sd}
theorem XN {κ:List Nat} {n K j:Nat} (hj:j<K):(κ++(List.range K).map (n+2 + ·)).getD (κ.length+j) 0=n+2+j:=by
 rw[List.getD_eq_getElem?_getD,List.getElem?_append_right (by omega),show κ.length+j - κ.length=j by omega]
 simp[hj]
theorem El {κ e:List Nat} {c:Nat} (hc:c<κ.length):(κ++e).getD c 0=κ.getD c 0:=by
 rw[List.getD_eq_getElem?_getD,List.getD_eq_getElem?_getD,List.getElem?_append_left hc]
theorem Ru {κ:List Nat} {n:Nat} (h:n≤κ.length):(List.range n).map (fun c=>κ.getD c 0)=κ.take n:=by
 apply List.ext_getElem?
 intro i
 simp only[List.getElem?_map]
 by_cases hi:i<n
 ·rw [List.getElem?_range hi,List.getElem?_take_of_lt hi,List.getElem?_eq_getElem (show i<κ.length by omega)]
  simp[List.getD_eq_getElem?_getD,List.getElem?_eq_getElem (show i<κ.length by omega)]
 ·rw[List.getElem?_eq_none (by simp;omega),List.getElem?_eq_none (by simp;omega)];rfl
theorem Inv.push (h:Inv p T W y m loc s) {K:Nat} {sd:D} {fr:Fr} {s':St} (hg:p.globals.length≤m.mem.length) (hfv : ∀ c∈fr.vars,c<m.mem.length+K)
 (k : ∀ (o:Nat) (r:List D),s.ah[o]? = some r→o≠0→o∉y.sd.arr→s'.ah[o]? = some r)
 (k0:s'.ah[0]? = some (fu p T W (y.push s.ah.length K sd) m)) (kc : ∀ j,j<K→s'.ah[s.ah.length+2+j]? = some [.int .i64 0])
 (kf:s'.ah[s.ah.length+1]? = some (pB (y.push s.ah.length K sd).κ fr)) (ks:jO s' sd ((y.push s.ah.length K sd).φ.reverse.map xS)) (sj:sd.arr=y.sd.arr∨sd.arr = [s.ah.length+2+K])
 (t0:s'.aw[0]? = s.aw[0]?) (t1:s'.aw[1]? = s.aw[1]?) :
 Inv p T W (y.push s.ah.length K sd) {m with st:=fr::m.st,mem:=m.mem++List.replicate K 0} loc s':=by
 have AB:=h.own
 rw[Lay.own,List.nodup_cons,List.nodup_append,List.nodup_append]at AB
 obtain⟨n0,nκ,⟨ns,nv,ZF⟩,LP⟩:=AB
 have lt:=h.tU
 have ltκ : ∀ c∈y.κ,c<s.ah.length:=fun c mc=>lt c (by simp[Lay.own,mc])
 have lts : ∀ c∈y.sd.arr,c<s.ah.length:=fun c mc=>lt c (by simp[Lay.own,mc])
 have ltv : ∀ c∈y.vd.arr,c<s.ah.length:=fun c mc=>lt c (by simp[Lay.own,mc])
 have uO:=h.uO
 have LQ : ∀ o,o∈(y.push s.ah.length K sd).own→o∈y.own∨(s.ah.length+2≤o∧o≤s.ah.length+2+K):=fun o mo=>by
  simp only[Lay.own,Lay.push,List.mem_cons,List.mem_append,List.mem_map,List.mem_range]at mo ⊢
  rcases mo with rfl|(mo|⟨j,hj,rfl⟩)|mo|mo
  ·exact .inl (.inl rfl)
  ·exact .inl (.inr (.inl mo))
  ·exact .inr ⟨by omega,by omega⟩
  ·rcases sj with e | e
   ·rw[e]at mo;exact .inl (.inr (.inr (.inl mo)))
   ·rw[e]at mo;have:=List.mem_singleton.1 mo;exact .inr ⟨by omega,by omega⟩
  ·exact .inl (.inr (.inr (.inr mo)))
 have g : ∀ {o:Nat} {r:List D},s.ah[o]? = some r→o∉y.own→s'.ah[o]? = some r∧o∉(y.push s.ah.length K sd).own:=fun {o r} e hn=>by
  refine⟨k o r e (fun e0=>hn (by rw[e0];simp[Lay.own])) (fun ms=>hn (by simp[Lay.own,ms])),fun mo=>?_⟩
  rcases LQ o mo with mo|mo
  ·exact hn mo
  ·have:=gd e;omega
 have hlen:=h.len
 refine⟨k0,by rw[t0];exact h.t0,by rw[t1];exact h.t1,by simp[Lay.push,hlen],fun i c v e1 e2=>?_,by simp[Lay.push,h.sL],fun i o NV e1 e2=>?_,ks, ?_, ?_,fun q mq=>g (h.loc q mq).1 (h.loc q mq).2⟩
 ·simp only [Lay.push]at e1
  dsimp only at e2
  rcases Nat.lt_or_ge i y.κ.length with hi|hi
  ·rw [List.getElem?_append_left hi]at e1
   rw[List.getElem?_append_left (by omega)]at e2
   have hc:=List.mem_of_getElem? e1
   exact k c _ (h.cell i c v e1 e2) (h.wb (by simp[hc])) (fun ms=>LP c hc c (List.mem_append_left _ ms) rfl)
  ·rw [List.getElem?_append_right hi]at e1
   rw[List.getElem?_append_right (by omega)]at e2
   have hC:=(List.getElem?_eq_some_iff.1 e1).1
   simp only[List.length_map,List.length_range]at hC
   rw[List.getElem?_map,List.getElem?_range hC]at e1
   rw[List.getElem?_replicate_of_lt (by omega)]at e2
   simp only[Option.map_some,Option.some.injEq]at e1 e2
   subst e1 e2
   exact kc _ hC
 ·cases i with
  |zero=>
   simp only[Lay.push,List.getElem?_cons_zero,Option.some.injEq]at e1 e2
   subst e1 e2
   refine⟨kf,fun mo=>?_,fun c mc=>by simp only[List.length_append,List.length_replicate];exact hfv c mc⟩
   rcases LQ _ mo with mo|mo
   ·have:=lt _ mo;omega
   ·omega
  |succ i=>
   simp only[Lay.push,List.getElem?_cons_succ]at e1 e2
   obtain⟨f1,f2,f3⟩:=h.frame i o NV e1 e2
   obtain⟨f4,f5⟩:=g f1 f2
   exact⟨by simp only[Lay.push];rw[HY (by rw[hlen];exact f3)];exact f4,f5,fun c mc=>by have:=f3 c mc;simp only[List.length_append];omega⟩
 ·obtain⟨l,hl⟩:=h.dg
  refine⟨l,hl.keep fun o mo=>?_⟩
  rw[List.getElem?_eq_getElem (ltv o mo)]
  exact k o _ (List.getElem?_eq_getElem _) (h.wb (by simp[mo])) (fun ms=>ZF o ms o mo rfl)
 ·have UC:((List.range K).map (s.ah.length+2 + ·)).Nodup:=by
   rw[List.nodup_iff_pairwise_ne,List.pairwise_map]
   exact List.Pairwise.imp (fun h=>by omega) (List.nodup_iff_pairwise_ne.1 List.nodup_range)
  have F4 : ∀ o∈(List.range K).map (s.ah.length+2 + ·),s.ah.length+2≤o∧o<s.ah.length+2+K:=fun o mo=>by
   obtain⟨j,hj,rfl⟩:=List.mem_map.1 mo
   have:=List.mem_range.1 hj;exact⟨by omega,by omega⟩
  have Rv : ∀ o∈sd.arr,(o∈y.sd.arr)∨o=s.ah.length+2+K:=fun o mo=>by
   rcases sj with e|e
   ·rw[e]at mo;exact .inl mo
   ·rw[e]at mo;exact .inr (List.mem_singleton.1 mo)
  simp only[Lay.own,Lay.push]
  rw[List.nodup_cons,List.nodup_append,List.nodup_append,List.nodup_append]
  refine⟨fun mo=>?_,⟨nκ,UC,fun a ma b mb e=>?_⟩,⟨?_,nv,fun a ma b mb e=>?_⟩,fun a ma b mb e=>?_⟩
  ·simp only [List.mem_append]at mo
   rcases mo with (mo|mo)|mo|mo
   ·exact n0 (by simp[mo])
   ·have:=F4 _ mo;omega
   ·rcases Rv _ mo with mo | mo
    ·exact n0 (by simp[mo])
    ·omega
   ·exact n0 (by simp[mo])
  ·have:=ltκ a ma;have:=F4 b mb;omega
  ·rcases sj with e | e <;> rw [e]
   ·exact ns
   ·simp
  ·rcases Rv a ma with ma | ma
   ·exact ZF a ma b mb e
   ·have:=ltv b mb;omega
  ·rcases List.mem_append.1 ma with ma | ma
   ·rcases List.mem_append.1 mb with mb | mb
    ·rcases Rv b mb with mb | mb
     ·exact LP a ma b (List.mem_append_left _ mb) e
     ·have:=ltκ a ma;omega
    ·exact LP a ma b (List.mem_append_right _ mb) e
   ·have:=F4 a ma
    rcases List.mem_append.1 mb with mb|mb
    ·rcases Rv b mb with mb | mb
     ·have:=lts b mb;omega
     ·omega
    ·have:=ltv b mb;omega
theorem abS {gl ps:List (List D)} {bytes:Nat} (hb:(gl.length+ps.length)*(bytes+1)≤bu) (ts:List (Option Nat)) : ∃ (g1 g2:Tag) (z1 z2:Nat) (t1 t2:List (Option Nat)),(∀ os,gp 1 bytes (.slice .full 0 []) (.slice .shared 1 gl) ⟨os,ts⟩=some (.slice g1 z1 gl,⟨os,t1⟩))∧
 (∀ os,gp 1 bytes (.slice g1 z1 gl) (.slice .shared 1 ps) ⟨os,t1⟩=some (.slice g2 z2 (gl++ps),⟨os,t2⟩))∧
 ((g2 = .full∧t2=ts∧gl++ps = [])∨(g2 = .tok ts.length∧z2=1∧t2=ts++ [some (gl++ps).length])):=by
 have h1:gl.length*(bytes+1)≤bu:=Nat.le_trans (Nat.mul_le_mul_right _ (Nat.le_add_right _ _)) hb
 have h2:ps.length*(bytes+1)≤bu:=Nat.le_trans (Nat.mul_le_mul_right _ (Nat.le_add_left _ _)) hb
 cases gl with
 |nil=>
  cases ps with
  |nil=>exact⟨.full, .full,0,0,ts,ts,fun os=>Ad os ts,fun os=>Ad os ts, .inl ⟨rfl,rfl,rfl⟩⟩
  |cons a ps=>exact⟨.full, .tok ts.length,0,1,ts,_,fun os=>Ad os ts,fun os=>Ac (by simp) h2 os ts, .inr ⟨rfl,rfl,rfl⟩⟩
 |cons a gl=>
  refine⟨.tok ts.length, .tok ts.length,1,1,ts++ [some (a::gl).length],ts++ [some (a::gl++ps).length],fun os=>Ac (by simp) h1 os ts,fun os=>?_, .inr ⟨rfl,rfl,rfl⟩⟩
  rw[o9 (size:=1) hb (by simp)]
  simp;omega
theorem NW (h:Inv p T W y m loc s) (hp:p.iX) (hb:p.may=true) {i:Nat} {f:Pc} (hf:p.procs[i]? = some f) (aiK:p.find f.name=some f) (jR:m.st.length<1000000) {l:List Nat} (hl : ∀ c∈l,c<m.mem.length) (HH:l.length<1000000)
 (hg:p.globals.length≤m.mem.length) (call:Int) :
 ∃ y' s',az Tryz.prog jl [.ptr 0 0, .int .i64 (i:Int), .slice .shared 1 (l.map fun c=>fh (y.κ.getD c 0)), .int .i64 call] s (.int .i64 (m.open p (i:Int) l call).1) s'∧Inv p T W y' (m.open p (i:Int) l call).2 loc s':=by
 have hm:=h.jP
 rw[fu]at hm
 have qU:=h.uO
 obtain⟨sh,r7,rZ⟩:=hp.procs
 have vX:=hp.small (List.mem_of_getElem? hf)
 have cV:=fun s=>afW hp hb aiK s
 have cF:=fun s=>abQ hb hf s
 have hi:i<p.procs.length:=(List.getElem?_eq_some_iff.1 hf).1
 obtain⟨g1,g2,z1,z2,t1,t2,a1,a2,a3⟩:=abS (gl:=(y.κ.take p.globals.length).map fh) (ps:=l.map fun c=>fh (y.κ.getD c 0)) (bytes:=8) (by simp only[List.length_map,List.length_take];unfold bu;omega) s.aw
 have hA : ∀ e:List (List D),(s.ah++e)[0]? = s.ah[0]? :=fun e=>List.getElem?_append_left qU
 have n0 : ∀ e1 e2:List (List D),(s.ah++e1++e2)[0]? = s.ah[0]? :=fun e1 e2=>by rw[List.append_assoc];exact hA _
 have n1 : ∀ a b:List D,(s.ah++ [a]++ [b])[s.ah.length+1]? = some b:=fun a b=>by simp
 have n2 : ∀ a b:List D,(s.ah++ [a]++ [b])[s.ah.length]? = some a:=fun a b=>by simp
 have n3 : ∀ a b c:List D,(s.ah++ [a]++ [b]).set (s.ah.length+1) c=s.ah++ [a]++ [c]:=fun a b c=>by simp[List.append_assoc,List.set_append_right]
 have n4 : ∀ a:List D,(s.ah++ [a])[s.ah.length]? = some a:=fun a=>by simp
 have n5 : ∀ a b:List D,(s.ah++ [a]).set s.ah.length b=s.ah++ [b]:=fun a b=>by simp
 have hpc:cH f = [.str f.name, .slice .shared 2 (f.params.map gN), .slice .shared 1 (f.vars.map encStr), .slice .shared 13 (f.body.map a8), .slice .shared 1 (f.fin.map encStr)]:=rfl
 generalize hn:s.ah.length=n at *
 have M4:(m.open p (i:Int) l call).1=gn f.body (-1)∧(m.open p (i:Int) l call).2 = {m with st:=⟨(i:Int),p.globals++f.own,List.range p.globals.length++l++(List.range f.vars.length).map (m.mem.length + ·),call⟩::m.st,mem:=m.mem++List.replicate f.vars.length 0}:=by
  unfold Mc.open
  rw[Int.toNat_natCast,hf]
  exact⟨rfl,rfl⟩
 rw[M4.1,M4.2]
 generalize kq:(y.κ.take p.globals.length).map fh++l.map (fun c=>fh (y.κ.getD c 0))=ku at *
 have hgr:ku.length<2000000:=by rw[← kq];simp only[List.length_append,List.length_map,List.length_take];omega
 have hvl:=vX.vars
 -- the states of the rounds
 let fr:Nat→List D:=fun k=> [.int .i64 (i:Int), .slice .shared 1 ((p.globals++f.own).map encStr), .slice (.tok s.aw.length) 1 (ku++(List.range k).map (fun j=>fh (n+2+j))), .int .i64 call]
 obtain⟨O,hO⟩ : ∃ O:Nat→List (List D),∀ k,O k=s.ah++ [cH f]++ [fr k]++List.replicate k [.int .i64 0]:=⟨_,fun _=>rfl⟩
 have oL : ∀ k,(O k).length=n+2+k:=fun k=>by rw[hO];simp[hn];omega
 have XP : ∀ k o,o<n→(O k)[o]? = s.ah[o]? :=fun k o ho=>by rw[hO,List.append_assoc,List.append_assoc,List.getElem?_append_left (by omega)]
 have oF : ∀ k,(O k)[n+1]? = some (fr k):=fun k=>by rw[hO,List.getElem?_append_left (by simp[hn])];simp[hn]
 have oC : ∀ k j,j<k→(O k)[n+2+j]? = some [.int .i64 0]:=fun k j hj=>by
  rw[hO,List.getElem?_append_right (by simp only[List.length_append,List.length_singleton,hn];omega)]
  simp only[List.length_append,List.length_singleton,hn]
  rw[show n+2+j - (n+1+1)=j by omega,List.getElem?_replicate_of_lt hj]
 have oF' : ∀ k e,(O k++e)[n+1]? = some (fr k):=fun k e=>by rw[List.getElem?_append_left (by rw[oL];omega)];exact oF k
 have o0 : ∀ k,(O k)[0]? = s.ah[0]? :=fun k=>XP k 0 qU
 have o0' : ∀ k e,(O k++e)[0]? = s.ah[0]? :=fun k e=>by rw[List.getElem?_append_left (by rw[oL];omega)];exact o0 k
 have oS : ∀ k,(O k++ [[D.int .i64 0]]).set (n+1) (fr (k+1))=O (k+1):=fun k=>by
  rw[hO,hO,List.replicate_succ']
  simp only[List.append_assoc]
  rw[List.set_append_right _ _ (by omega),hn,show n+1 - n=1 by omega]
  rfl
 have Af:(List.range p.globals.length++l++(List.range f.vars.length).map (m.mem.length + ·)).map (fun c=>fh ((y.push n f.vars.length .ek).κ.getD c 0))=ku++(List.range f.vars.length).map (fun j=>fh (n+2+j)):=by
  simp only[List.map_append,List.map_map,Lay.push, ← kq]
  congr 1
  ·congr 1
   ·rw [← Ru (by rw [h.len];exact hg),List.map_map]
    exact List.map_congr_left fun c mc=>by simp only[Function.comp];rw[El (by rw[h.len];have:=List.mem_range.1 mc;omega)]
   ·exact List.map_congr_left fun c mc=>by rw[El (by rw[h.len];exact hl c mc)]
  ·exact List.map_congr_left fun j mj=>by simp only[Function.comp];rw[← h.len,XN (List.mem_range.1 mj)]
 have ate:ju (fr f.vars.length) (pB (y.push n f.vars.length .ek).κ ⟨(i:Int),p.globals++f.own,List.range p.globals.length++l++(List.range f.vars.length).map (m.mem.length + ·),call⟩):=by
  unfold pB
  dsimp only
  rw[Af]
  exact .cons (Wk.refl _) (.cons (Wk.refl _) (.cons (Wk.shared _ _ _) (.cons (Wk.refl _) .nil)))
 -- the stack
 generalize hK:f.vars.length=K at *
 obtain⟨sd,O',e1,e3,e4,e5,e6⟩ : ∃ (sd:D) (O':List (List D)),(∀ tm:Tm,tm.get 70=y.sd→tm.get 72 = .slice .full 1 [[.ptr (n+1) 0]]→aO (.app 1 8 (.s 70) (.s 72)) tm ⟨O K,s.aw++ [some (ku.length+K)]⟩=some (sd,⟨O',s.aw++ [some (ku.length+K)]⟩))∧
  (∀ (o:Nat) (r:List D),(O K)[o]? = some r→o∉y.sd.arr→O'[o]? = some r)∧jO ⟨O',s.aw⟩ sd (((n+1)::y.φ).reverse.map xS)∧(sd.arr=y.sd.arr∨sd.arr = [n+2+K])∧sd.row=some [sd]:=by
  rcases h.stack with ⟨e,e2⟩|⟨so,g,more,e,e2⟩
  ·have hφ:y.φ = []:=by simpa using e2
   refine⟨.eF 1 (n+2+K) 0 1,O K++ [[.int .i64 ((0:Nat):Int), .ptr (n+1) 0]],fun tm h1 h2=>?_,fun o r e _=>by rw[List.getElem?_append_left (gd (s:=⟨O K,[]⟩) e)];exact e, .inr ⟨n+2+K,0,[],by simp[hφ], ?_⟩, .inr rfl,rfl⟩
   ·simp only [aO,X.ev,h1,h2,e]
    rw[LG _ _ _ (by unfold bu;omega)]
    simp only[oL]
   ·rw [hφ]
    show(O K++ [_])[n+2+K]? = _
    rw[← oL K]
    simp[xS]
  ·have atf:so<n:=by have:=gd e2;omega
   have hlen:(y.φ.reverse.map xS).length=m.st.length:=by simp[h.sL]
   have e2':(O K)[so]? = some (.int .i64 ((g:Nat):Int)::(y.φ.reverse.map xS++more)):=by rw[XP K so atf];exact e2
   rw[hlen]at e
   refine⟨.eF 1 so (g+1) (m.st.length+1),(O K).set so (.int .i64 ((g+1:Nat):Int)::(y.φ.reverse.map xS++ [.ptr (n+1) 0])),fun tm h1 h2=>?_,fun o r e hn=>?_, .inr ⟨so,g+1,[],by simp[h.sL], ?_⟩, .inl (by rw[e];rfl),rfl⟩
   ·simp only [aO,X.ev,h1,h2,e]
    rw[LR (s:=⟨O K,_⟩) e2' (by rw[hlen,Nat.mul_one]) (by unfold bu;omega)]
   ·rw[List.getElem?_set_ne (fun e'=>hn (by rw[‹y.sd=_›, ← e'];simp[D.arr]))];exact e
   ·simp[oL,show so<n+2+K by omega,xS]
 have o'0:O'[0]? = s.ah[0]? :=by
  rw[hm]
  exact e3 0 _ (by rw[o0];exact hm) (fun mo=>(h.wb (by simp[mo])) rfl)
 have ZK:0<O'.length:=gd (s:=⟨O',[]⟩) (o'0.trans hm)
 have o'f:O'[n+1]? = some (fr K):=e3 _ _ (oF K) (fun mo=>by have:=h.tU (n+1) (by simp[Lay.own,mo]);omega)
 let row:=fu p T W (y.push n K sd) {m with st:=⟨(i:Int),p.globals++f.own,List.range p.globals.length++l++(List.range K).map (m.mem.length + ·),call⟩::m.st,mem:=m.mem++List.replicate K 0}
 refine⟨y.push n K sd,⟨(O'.set 0 row).set (n+1) (pB (y.push n K sd).κ ⟨(i:Int),p.globals++f.own,List.range p.globals.length++l++(List.range K).map (m.mem.length + ·),call⟩),s.aw++ [some (ku.length+K)]⟩, ?_, ?_⟩
 case refine_2=>
  subst hn
  have gO : ∀ (o:Nat) (r:List D),O'[o]? = some r→o≠0→o≠s.ah.length+1→((O'.set 0 row).set (s.ah.length+1) (pB (y.push s.ah.length K sd).κ ⟨(i:Int),p.globals++f.own,List.range p.globals.length++l++(List.range K).map (m.mem.length + ·),call⟩))[o]? = some r:=fun o r e h1 h2=>by
   rw[List.getElem?_set_ne (Ne.symm h2),List.getElem?_set_ne (Ne.symm h1)];exact e
  refine h.push (K:=K) (sd:=sd) hg (fun c mc=>?_) (fun o r e h1 h2=>?_) ?_ (fun j hj=>?_) ?_ (e4.keep fun o mo=>?_) e5 ?_ ?_
  ·simp only [List.mem_append,List.mem_range,List.mem_map]at mc
   rcases mc with (mc|mc)|⟨x,mc,rfl⟩
   ·omega
   ·have:=hl c mc;omega
   ·omega
  ·have:=gd e
   exact gO o r (e3 o r (by rw[XP K o this];exact e) h2) h1 (by omega)
  ·rw [List.getElem?_set_ne (by omega)]
   simp[ZK,row]
  ·refine gO _ _ (e3 _ _ (oC K j hj) fun mo=> ?_) (by omega) (by omega)
   have:=h.tU _ (show s.ah.length+2+j∈y.own by simp[Lay.own,mo]);omega
  ·have:=gd (s:=⟨O',[]⟩) o'f
   rw[List.getElem?_set_self (by rw[List.length_set];exact this)]
  ·have:o≠0∧o≠s.ah.length+1:=by
    rcases e5 with e|e
    ·rw [e]at mo
     have h1:=h.tU o (by simp[Lay.own,mo])
     exact⟨h.wb (by simp[mo]),by omega⟩
    ·rw [e]at mo
     have:=List.mem_singleton.1 mo
     exact⟨by omega,by omega⟩
   show(List.set _ _ _)[o]? = _
   rw[List.getElem?_set_ne (Ne.symm this.2),List.getElem?_set_ne (Ne.symm this.1)]
  ·exact List.getElem?_append_left (List.getElem?_eq_some_iff.1 h.t0).1
  ·exact List.getElem?_append_left (List.getElem?_eq_some_iff.1 h.t1).1
 refine bP.up ?_
 refine bP.uM zF rfl fun B Q hB hQ=>?_
 have⟨hC,hE,hM,hY⟩:=bC
 have loop : ∀ d k:Nat,k+d=K→bd Tryz.prog B 82 QEH (iD 0 (kK (gD Tryz.prog B 82 QEO Q) Q))
  [(0, .ptr 0 0),(1, .int .i64 (i:Int)),(10, .ptr (n+1) 0),(52, .int .i64 (K:Int)),(53, .int .i64 (k:Int))] ⟨O k,s.aw++ [some (ku.length+k)]⟩:=by
  intro d
  induction d with
  |zero=>
   intro k hk
   have uB:k=K:=by omega
   subst uB
   have hC:decide ((k:Int)<(k:Int))=false:=by simp
   have jK:=o'0.trans hm
   have HZ:=o'f
   have vl : ∀ r,(O'.set 0 r)[0]? = some r:=fun r=>List.getElem?_set_self ZK
   refine bd.kv ?_
   repeat' (first
 |simp only[go_sem,hC,hE,hM,hY,hm,o0,e1,e6,jK,ZK,vl]
 |(with_reducible refine CU (cF _) ?_)
 |(with_reducible first|refine aX fun hc=>?_|refine aY fun hc=>?_|refine aZ (fun hc=>?_) fun hc=>?_)<;>(try simp only[hc,bs,↓reduceIte]at h)<;>try simp only[hc]
 |(with_reducible refine aB hQ ?_;(try cases h);simp only[aQ,aR,bn,bo,go_sem,hC,hE,hM,hY,hm,o0,e1,e6,jK,ZK,vl];try exact bR)
 | (cases h;done))
   (refine gS hQ ?_;simp only[aQ,aR,bn,bo,go_sem])
   have ey:row = [.dL (fw p) 0, .slice .shared 1 ((y.κ.take p.globals.length).map fh), .slice .shared 1 (T.map cO), .slice .shared 1 (W.map cO),sd,y.vd,
    .int .i64 m.fin, .int .i64 m.steps, .int .i64 m.reads, .slice (.tok 0) 1 (m.out.map cO), .slice (.tok 1) 2 (m.trace.map gC)]:=by
    simp only[row,fu,Lay.push]
    rw[List.take_append_of_le_length (by rw[h.len];exact hg)]
   refine⟨_,⟨(O'.set 0 row).set (n+1) _,_⟩,Wk.refl _, ?_,rfl,rfl,rfl⟩
   rw[ey]
   exact gx.setAt (by rw[List.getElem?_set_ne (by omega)];exact HZ) ate
  | succ d ih=>
   intro k hk
   have hC:decide ((k:Int)<(K:Int))=true:=by simp;omega
   have cm:k<4611686018427387904:=by omega
   have hfk:=oF k
   have XQ:=oF' k [[.int .i64 0]]
   have eS:gp 1 8 (.slice (.tok s.aw.length) 1 (ku++(List.range k).map (fun j=>fh (n+2+j)))) (.slice .full 1 [[.ptr (n+2+k) 0]]) ⟨O k++ [[.int .i64 0]],s.aw++ [some (ku.length+k)]⟩ =
    some (.slice (.tok s.aw.length) 1 (ku++(List.range (k+1)).map (fun j=>fh (n+2+j))),⟨O k++ [[.int .i64 0]],s.aw++ [some (ku.length+(k+1))]⟩):=by
    rw[o9 (size:=1) (by simp only[List.length_append,List.length_map,List.length_range,List.length_singleton];unfold bu;omega) (by simp)]
    simp[List.range_succ,fh,Nat.add_assoc]
   have oSk:=oS k
   simp only[fr,List.map_append,List.range_succ,List.map_cons,List.map_nil]at hfk XQ oSk
   refine bd.kv ?_
   repeat' (first
 |simp only[go_sem,hC,hE,hM,hY,hfk,XQ,oL,eS,oSk]
 |(with_reducible first|refine aX fun hc=>?_|refine aY fun hc=>?_|refine aZ (fun hc=>?_) fun hc=>?_)<;>(try simp only[hc,bs,↓reduceIte]at h)<;>try simp only[hc]
 |(with_reducible refine aB hQ ?_;(try cases h);simp only[aQ,aR,bn,bo,go_sem,hC,hE,hM,hY,hfk,XQ,oL,eS,oSk];try exact bR)
 | (cases h;done))
   refine bd.pU ?_ (ih (k+1) (by omega))
   simp only[go_sem,aL cm]
   repeat' (first|exact Ok.out|with_reducible refine eL ?_ ?_)
 have l0:=loop K 0 (by omega)
 have hO0:O 0=s.ah++ [cH f]++ [fr 0]:=by rw[hO];simp
 rw[hO0]at l0
 repeat' (first
 |simp only[go_sem,hC,hE,hM,hY,hm,hA,n0,n1,n2,n3,n4,n5,hf,a1,a2,nW, ← Fa,hn]
 |(with_reducible refine CU (cV _) ?_)
 |(with_reducible first|refine aX fun hc=>?_|refine aY fun hc=>?_|refine aZ (fun hc=>?_) fun hc=>?_)<;>(try simp only[hc,bs,↓reduceIte]at h)<;>try simp only[hc]
 |(with_reducible refine aB hQ ?_;(try cases h);simp only[aQ,aR,bn,bo,go_sem,hC,hE,hM,hY,hm,hA,n0,n1,n2,n3,n4,n5,hf,a1,a2,nW, ← Fa,hn];try exact bR)
 |(cases h;done))
 simp only[fr,List.range_zero,List.map_nil,List.append_nil,List.map_append]at l0
 rcases a3 with ⟨rfl,rfl,rfl⟩|⟨rfl,rfl,rfl⟩
 ·refine bd.pZ (n+1) 2 1 (n1 _ _) rfl ?_
  simp only[n3,List.set_cons_succ,List.set_cons_zero]
  refine bd.pU ?_ l0
  simp only[go_sem,hK]
  repeat' (first|exact Ok.out|with_reducible refine eL ?_ ?_)
 ·refine bd.pU ?_ l0
  simp only[go_sem,hK]
  repeat' (first|exact Ok.out|with_reducible refine eL ?_ ?_)
end
end Go.Abs
namespace Go.Abs
set_option maxRecDepth 8000
open Go.Proofs
section
variable {p:Pg} {T W:List Int} {y:Lay} {m:Mc} {loc:List (Nat×List D)} {s:St}
def wh (fr:Fr) (name:aF) (c:Nat):Prop:=∃ j:Nat,jg name 0 fr.names=(j:Int)∧fr.vars[j]? = some c
theorem wh.cell {fr:Fr} {name:aF} {c:Nat} (h:wh fr name c) (ht:m.top=fr):m.cell name=c:=by
 obtain⟨j,h1,h2⟩:=h
 unfold Mc.cell
 rw[ht,h1,Int.toNat_natCast,List.getD_eq_getElem?_getD,h2];rfl
theorem Inv.pop (h:Inv p T W y m loc s) {fr:Fr} {r:List Fr} (jR:m.st=fr::r) {so g:Nat} (sj:y.sd = .eF 1 so g (r.length+1)) :
 Inv p T W {y with φ:=y.φ.tail,sd:= .eF 1 so g r.length} {m with st:=r} loc ⟨s.ah.set 0 (fu p T W {y with φ:=y.φ.tail,sd:= .eF 1 so g r.length} {m with st:=r}),s.aw⟩:=by
 have ie:(D.eF 1 so g r.length).arr=y.sd.arr:=by rw[sj];rfl
 have Rw:Lay.own {y with φ:=y.φ.tail,sd:= .eF 1 so g r.length} = y.own:=by simp only[Lay.own,ie]
 have jk:=h.sL
 rw[jR]at jk
 have ne : ∀ {q:Nat} {r':List D},s.ah[q]? = some r'→q≠0→(s.ah.set 0 (fu p T W {y with φ:=y.φ.tail,sd:= .eF 1 so g r.length} {m with st:=r}))[q]? = some r':=fun e hn=>by
  rw[List.getElem?_set_ne (Ne.symm hn)];exact e
 have nf : ∀ {q:Nat},q∉y.own→q≠0:=fun hq e=>hq (by rw[e];simp[Lay.own])
 obtain⟨l,hl⟩:=h.dg
 refine⟨by simp[h.uO],h.t0,h.t1,h.len,fun i c v e1 e2=>ne (h.cell i c v e1 e2) (h.wb (by simp[List.mem_of_getElem? e1])),by simp[jk],fun i o NV e1 e2=>?_, ?_,⟨l,hl.keep fun o mo=>?_⟩,by rw[Rw];exact h.own,fun q mq=>?_⟩
 ·obtain⟨f1,f2,f3⟩:=h.frame (i+1) o NV (by simpa [List.getElem?_tail]using e1) (by rw [jR];simpa using e2)
  exact⟨ne f1 (nf f2),by rw[Rw];exact f2,f3⟩
 ·cases hφ:y.φ with
  |nil=>rw[hφ]at jk;simp at jk
  | cons o φ=>
   rw[hφ]at jk
   rcases h.stack with ⟨e,_⟩|⟨so',g',more,e,e2⟩
   ·rw[e]at sj;cases sj
   ·have e':=e
    rw[sj,D.eF.injEq]at e'
    obtain⟨_,rfl,rfl,_⟩:=e'
    refine .inr ⟨so,g,[.ptr o 0]++more,by simp at jk ⊢;omega,ne ?_ (h.wb (by rw[sj];simp[D.arr]))⟩
    rw[e2,hφ]
    simp[xS]
 ·show(s.ah.set 0 _)[o]? = _
  rw[List.getElem?_set_ne (Ne.symm (h.wb (by simp[mo])))]
 ·obtain⟨f1,f2⟩:=h.loc q mq
  exact⟨ne f1 (nf f2),by rw[Rw];exact f2⟩
theorem LU {L:List Im} {c:Nat} {it:Im} (h:L[c]? = some it) {a:Int} (ha:a=(c:Int)+1):gf L a=it:=by
 unfold gf
 rw[ha,show((c:Int)+1 - 1).toNat=c by omega,List.getD_eq_getElem?_getD,h];rfl
theorem abT (h:Inv p T W y m loc s) {fr:Fr} {r:List Fr} (ht:mN m fr r) (hL:p.bh.L.length<1000000)
 (hc:fr.call=0∨∃ (c:Nat) (it:Im) (uN:Fr) (r2:List Fr),fr.call=(c:Int)+1∧p.bh.L[c]? = some it∧mN {m with st:=r} uN r2∧(it.s.name≠ []→∃ k,wh uN it.s.name k)) (xR:Int) :
 bP Tryz.prog ox [.ptr 0 0, .int .i64 xR] s (Rl p T W (.int .i64 (m.close p.bh.L xR).1) (m.close p.bh.L xR).2 (fun y'=>∃ sd,y' = {y with φ:=y.φ.tail,sd:=sd}) loc):=by
 obtain⟨so,g,cells,o,h1,h2,h3,h4,h5⟩:=h.XL ht.st
 obtain⟨o',_,FG,c1⟩:=Rt h ht.st ht.len
 have ho:o'=o:=by rw[h5]at *;cases ‹some o=some o'›;rfl
 subst ho
 have hm:=h.jP
 rw[fu,h1]at hm
 have hl:=h.uO
 have hp:=h.pop ht.st h1
 have hpf:=hp.jP
 have hlen:=ht.len
 have hw:IntKind.wrap .i64 (((r.length+1:Nat):Int) - 1)=((r.length:Nat):Int):=by rw[show((r.length+1:Nat):Int) - 1=(r.length:Int) by omega];exact dN (by omega) (by omega)
 have uA:xh (.eF 1 so g (r.length+1)) none (some (.int .i64 (r.length:Int)))=some (.eF 1 so g r.length):=by simp[xh,tj,tn];omega
 have vl : ∀ r,(s.ah.set 0 r)[0]? = some r:=fun r=>List.getElem?_set_self hl
 rw[pB]at FG
 have nF:m.close p.bh.L xR=if fr.call==0 then(-1,{{m with st:=r}with fin:=1})else((gf p.bh.L fr.call).next,if(gf p.bh.L fr.call).s.name == []then {m with st:=r}else({m with st:=r} : Mc).set (gf p.bh.L fr.call).s.name xR):=by
  unfold Mc.close
  rw[ht.top,ht.st];rfl
 rw[nF]
 rcases hc with hc|⟨c,it,uN,r2,hc,pT,tO,hn⟩
 ·rw [hc]at FG
  have e0:((0:Int)==0)=true:=rfl
  have h5:=hp.ud (m':= {{m with st:=r}with fin:=1}) rfl rfl hp.t0 hp.t1
  rw[fu]at h5
  simp only[List.set_set]at h5
  rw[hc,if_pos e0]
  refine bP.uM qZ rfl fun B Q hB hQ=>?_
  have⟨hC,hE,hM,hY⟩:=bC
  repeat' (first
 |simp only[go_sem,hC,hE,hM,hY,hm,hl,hw,uA,vl,FG,e0,List.set_set]
 |(with_reducible refine CU (c1) ?_)
 |(with_reducible first|refine aX fun hc=>?_|refine aY fun hc=>?_|refine aZ (fun hc=>?_) fun hc=>?_)<;>(try simp only[hc,bs,↓reduceIte]at h)<;>try simp only[hc]
 |(with_reducible refine aB hQ ?_;(try cases h);simp only[aQ,aR,bn,bo,go_sem,hC,hE,hM,hY,hm,hl,hw,uA,vl,FG,e0,List.set_set];try exact bR)
 |(cases h;done))
  (refine gS hQ ?_;simp only[aQ,aR,bn,bo,go_sem])
  exact⟨rfl,_,⟨_,rfl⟩,h5⟩
 ·rw [hc]at FG
  have Ce:IntKind.wrap .i64 ((c:Int)+1 - 1)=(c:Int):=by
   have:=(List.getElem?_eq_some_iff.1 pT).1
   rw[show(c:Int)+1 - 1=(c:Int) by omega];exact dN (by omega) (by omega)
  have e0:((c:Int)+1==0)=false:=by simp;omega
  have atg:=LU pT hc
  have hz : ∀ (z:List D) (e:List D),(s.ah.set 0 e++ [z]).set s.ah.length (dK it)=s.ah.set 0 e++ [dK it]:=fun z e=>by simp
  have hg : ∀ z e:List D,(s.ah.set 0 e++ [z])[s.ah.length]? = some z:=fun z e=>by simp
  have cS:(fw p)[2]? = some (.slice .shared 17 (p.bh.L.map dK)):=rfl
  have HH : ∀ e:List D,(s.ah.set 0 e).length=s.ah.length:=fun e=>List.length_set
  have dr:=hp.new (dK it)
  rw[fu]at dr
  simp only[HH]at dr
  have Fo:dK it = [.int .i64 it.s.id, .int .i64 it.s.kind, .slice .shared 1 (it.s.labels.map encStr), .str it.s.name, .str it.s.proc, .int .i64 it.s.x.op, .int .i64 it.s.x.n, .str it.s.x.name, .slice .shared 4 (it.s.x.kids.map bI), .bool it.s.has, .slice .shared 6 (it.s.args.map eC), .slice .shared 13 (it.s.bm.map a8), .slice .shared 13 (it.s.bc.map a8), .int .i64 it.proc, .int .i64 it.up, .int .i64 it.next, .int .i64 it.loop]:=rfl
  have c3:(dK it)[3]? = some (.str it.s.name):=rfl
  rw[hc,if_neg (by rw[e0];simp),show gf p.bh.L ((c:Int)+1)=it from hc ▸ atg]
  refine bP.uM qZ rfl fun B Q hB hQ=>?_
  have⟨hC,hE,hM,hY⟩:=bC
  rcases Bool.eq_false_or_eq_true (it.s.name == [])with b|b
  ·repeat' (first
 |simp only[go_sem,hC,hE,hM,hY,hm,hl,hw,uA,vl,FG,e0,Ce,pT,hz,hg,HH,c3,b,cS]
 |(with_reducible refine CU (c1) ?_)
 |(with_reducible first|refine aX fun hc=>?_|refine aY fun hc=>?_|refine aZ (fun hc=>?_) fun hc=>?_)<;>(try simp only[hc,bs,↓reduceIte]at h)<;>try simp only[hc]
 |(with_reducible refine aB hQ ?_;(try cases h);simp only[aQ,aR,bn,bo,go_sem,hC,hE,hM,hY,hm,hl,hw,uA,vl,FG,e0,Ce,pT,hz,hg,HH,c3,b,cS];try exact bR)
 | (cases h;done))
   (refine gS hQ ?_;simp only[aQ,aR,bn,bo,go_sem])
   refine⟨rfl,{y with φ:=y.φ.tail,sd:= .eF 1 so g r.length},⟨_,rfl⟩, ?_⟩
   simp only[b,if_true]
   exact dr.sub fun q mq=>List.mem_cons_of_mem _ mq
  ·obtain⟨k,hk⟩:=hn (by intro e;rw [e]at b;cases b)
   have LV:=hk.cell tO.top
   obtain⟨j,hj,y6⟩:=hk
   have c2:=CP dr tO.st tO.len tO.names hj y6
   have hkm:k<m.mem.length:=by
    have hlp:=hp.sL
    rw[tO.st]at hlp
    cases hφ:y.φ.tail with
    |nil=>simp[hφ]at hlp
    |cons o2 φ2=>exact(hp.frame 0 o2 uN (by simp[hφ]) (by rw[tO.st];rfl)).2.2 k (List.mem_of_getElem? y6)
   have hκ:y.κ[k]? = some (y.κ.getD k 0):=by
    rw[List.getD_eq_getElem?_getD,List.getElem?_eq_getElem (by have:=h.len;omega)];rfl
   have kI:=dr.cell k _ _ hκ (List.getElem?_eq_getElem hkm)
   have v7:=dr.XH hκ xR
   have jq:=(v7.loc (s.ah.length,dK it) (List.mem_cons_self ..)).1
   simp only at kI v7 jq c2
   have hb:(it.s.name != [])=true:=by simp[bne,b]
   repeat' (first
 |simp only[go_sem,hC,hE,hM,hY,hm,hl,hw,uA,vl,FG,e0,Ce,pT,hz,hg,HH,c3,b,cS,kI,jq]
 |(with_reducible refine CU (c1) ?_)
 |(with_reducible refine CU (c2) ?_)
 |(with_reducible first|refine aX fun hc=>?_|refine aY fun hc=>?_|refine aZ (fun hc=>?_) fun hc=>?_)<;>(try simp only[hc,bs,↓reduceIte]at h)<;>try simp only[hc]
 |(with_reducible refine aB hQ ?_;(try cases h);simp only[aQ,aR,bn,bo,go_sem,hC,hE,hM,hY,hm,hl,hw,uA,vl,FG,e0,Ce,pT,hz,hg,HH,c3,b,cS,kI,jq];try exact bR)
 | (cases h;done))
   (refine gS hQ ?_;simp only[aQ,aR,bn,bo,go_sem])
   refine⟨rfl,{y with φ:=y.φ.tail,sd:= .eF 1 so g r.length},⟨_,rfl⟩, ?_⟩
   simp only[b,Bool.false_eq_true,if_false,Mc.set,LV]
   exact v7.sub fun q mq=>List.mem_cons_of_mem _ mq
end
end Go.Abs
namespace Go.Abs
set_option maxRecDepth 8000
open Go.Proofs
section
variable {p:Pg} {T W:List Int} {y:Lay} {m:Mc} {loc:List (Nat×List D)} {s:St}
structure af1 (p:Pg) (fr:Fr) (it:Im):Prop where
 said:it.s.nw
 brk:it.s.kind=7→∃ (c:Nat) (it2:Im),it.loop=(c:Int)+1∧p.bh.L[c]? = some it2
 Ro:it.s.kind=10→∃ (i:Nat) (f:Pc),it.proc=(i:Int)∧p.procs[i]? = some f
 name:it.s.kind=1∨it.s.kind=2→∃ k,wh fr it.s.name k
 bm:it.s.bm.length<1000000
 bc:it.s.bc.length<1000000
structure Js (p:Pg) (T W:List Int) (m:Mc):Prop where
 W:W.length<1000000
 T:T.length<1000000
 trace:m.trace.length<2000000
 out:m.out.length<2000000
 L:p.bh.L.length<1000000
 P:Pc.br p.procs<1000000000
 reads:0≤m.reads∧m.reads<2000000
theorem cell_of (h:Inv p T W y m loc s) {fr:Fr} {r:List Fr} (jR:m.st=fr::r) {c j:Nat} (hc:fr.vars[j]? = some c):y.κ[c]? = some (y.κ.getD c 0)∧∃ v,m.mem[c]? = some v∧s.ah[y.κ.getD c 0]? = some [.int .i64 v]:=by
 have jk:=h.sL
 rw[jR]at jk
 cases hφ:y.φ with
 |nil=>simp[hφ]at jk
 | cons o φ=>
  have UB:=(h.frame 0 o fr (by simp[hφ]) (by rw[jR];rfl)).2.2 c (List.mem_of_getElem? hc)
  have hκ:y.κ[c]? = some (y.κ.getD c 0):=by
   rw[List.getD_eq_getElem?_getD,List.getElem?_eq_getElem (by have:=h.len;omega)];rfl
  exact⟨hκ,_,List.getElem?_eq_getElem UB,h.cell c _ _ hκ (List.getElem?_eq_getElem UB)⟩
theorem ath (hp:p.iX) (XR:p.may=true) (h:Inv p T W y m loc s) {fr:Fr} {r:List Fr} (ht:mN m fr r) (hz:Js p T W m) {it:Im} (hd:af1 p fr it) :
 bP Tryz.prog qM [.ptr 0 0, .agg (dK it)] s (Rl p T W (.int .i64 (m.do p p.bh.L T W it).1) (m.do p p.bh.L T W it).2 (fun y'=>∃ vd,y' = {y with vd:=vd}) loc):=by
 have h1:=(h.new (dK it)).new (a8 it.s)
 simp only[List.length_append,List.length_singleton]at h1
 have z0 : ∀ z:List D,(s.ah++ [z])[s.ah.length]? = some z:=fun z=>by simp
 have z1 : ∀ z:List D,(s.ah++ [dK it]++ [z]).set (s.ah.length+1) (a8 it.s)=s.ah++ [dK it]++ [a8 it.s]:=fun z=>by simp[List.append_assoc,List.set_append_right]
 have z2 : ∀ a z:List D,(s.ah++ [a]++ [z])[s.ah.length+1]? = some z:=fun a z=>by simp
 have z3 : ∀ a z:List D,(s.ah++ [a]++ [z])[s.ah.length]? = some a:=fun a z=>by simp
 have z4:=h1.jP
 rw[fu]at z4
 have vT:=h1.uO
 simp only at z4 vT
 have cS:(fw p)[2]? = some (.slice .shared 17 (p.bh.L.map dK)):=rfl
 have nC : ∀ q∈loc,q∈(s.ah.length+1,a8 it.s)::(s.ah.length,dK it)::loc:=fun q mq=>List.mem_cons_of_mem _ (List.mem_cons_of_mem _ mq)
 generalize hn:s.ah.length=n at *
 have jq : ∀ {y2:Lay} {m2:Mc} {s2:St},Inv p T W y2 m2 ((n+1,a8 it.s)::(n,dK it)::loc) s2→s2.ah[n]? = some (dK it)∧s2.ah[n+1]? = some (a8 it.s)∧0<s2.ah.length:=fun h2=>
  ⟨(h2.loc (n,dK it) (by simp)).1,(h2.loc (n+1,a8 it.s) (by simp)).1,h2.uO⟩
 rcases Bool.eq_false_or_eq_true (it.s.kind==7)with b7|b7
 ·have c1:=we h1 hz.W hz.trace it.s.id
  obtain⟨c,it2,e1,e2⟩:=hd.brk (by simpa using b7)
  have hw:IntKind.wrap .i64 ((c:Int)+1 - 1)=(c:Int):=by
   have:=(List.getElem?_eq_some_iff.1 e2).1
   have:=hz.L
   rw[show(c:Int)+1 - 1=(c:Int) by omega];exact dN (by omega) (by omega)
  have y7:m.do p p.bh.L T W it=(it2.next,m.event W it.s.id []):=by
   unfold Mc.do
   dsimp only
   rw[if_pos b7,LU e2 e1]
  rw[y7]
  refine bP.uM il rfl fun B Q hB hQ=>?_
  have⟨hC,hE,hM,hY⟩:=bC
  repeat' (first
 |simp only[go_sem,hC,hE,hM,hY,z0,z1,z2,z3,hn,b7]
 |(with_reducible first|refine aX fun hc=>?_|refine aY fun hc=>?_|refine aZ (fun hc=>?_) fun hc=>?_)<;>(try simp only[hc,bs,↓reduceIte]at h)<;>try simp only[hc]
 |(with_reducible refine aB hQ ?_;(try cases h);simp only[aQ,aR,bn,bo,go_sem,hC,hE,hM,hY,z0,z1,z2,z3,hn,b7];try exact bR)
 |(cases h;done))
  refine CR c1 fun d s2 h2=>?_
  obtain⟨rfl,y2,rfl,h2⟩:=h2
  obtain⟨x1,x2,x3⟩:=jq h2
  have jK:=h2.jP
  rw[fu]at jK
  repeat' (first
 |simp only[go_sem,hC,hE,hM,hY,x1,x2,jK,cS,e1,hw,e2]
 |(with_reducible first|refine aX fun hc=>?_|refine aY fun hc=>?_|refine aZ (fun hc=>?_) fun hc=>?_)<;>(try simp only[hc,bs,↓reduceIte]at h)<;>try simp only[hc]
 |(with_reducible refine aB hQ ?_;(try cases h);simp only[aQ,aR,bn,bo,go_sem,hC,hE,hM,hY,x1,x2,jK,cS,e1,hw,e2];try exact bR)
 |(cases h;done))
  (refine gS hQ ?_;simp only[aQ,aR,bn,bo,go_sem])
  exact⟨rfl,_,⟨_,rfl⟩,h2.sub nC⟩
 rcases Bool.eq_false_or_eq_true (it.s.kind==8)with b8|b8
 ·have c1:=we h1 hz.W hz.trace it.s.id
  have y7:m.do p p.bh.L T W it=(it.loop,m.event W it.s.id []):=by
   unfold Mc.do
   dsimp only
   rw[if_neg (by simp[b7]),if_pos b8]
  rw[y7]
  refine bP.uM il rfl fun B Q hB hQ=>?_
  have⟨hC,hE,hM,hY⟩:=bC
  repeat' (first
 |simp only[go_sem,hC,hE,hM,hY,z0,z1,z2,z3,hn,b7,b8]
 |(with_reducible first|refine aX fun hc=>?_|refine aY fun hc=>?_|refine aZ (fun hc=>?_) fun hc=>?_)<;>(try simp only[hc,bs,↓reduceIte]at h)<;>try simp only[hc]
 |(with_reducible refine aB hQ ?_;(try cases h);simp only[aQ,aR,bn,bo,go_sem,hC,hE,hM,hY,z0,z1,z2,z3,hn,b7,b8];try exact bR)
 |(cases h;done))
  refine CR c1 fun d s2 h2=>?_
  obtain⟨rfl,y2,rfl,h2⟩:=h2
  obtain⟨x1,x2,x3⟩:=jq h2
  repeat' (first
 |simp only[go_sem,hC,hE,hM,hY,x1,x2]
 |(with_reducible first|refine aX fun hc=>?_|refine aY fun hc=>?_|refine aZ (fun hc=>?_) fun hc=>?_)<;>(try simp only[hc,bs,↓reduceIte]at h)<;>try simp only[hc]
 |(with_reducible refine aB hQ ?_;(try cases h);simp only[aQ,aR,bn,bo,go_sem,hC,hE,hM,hY,x1,x2];try exact bR)
 |(cases h;done))
  (refine gS hQ ?_;simp only[aQ,aR,bn,bo,go_sem])
  exact⟨rfl,_,⟨_,rfl⟩,h2.sub nC⟩
 rcases Bool.eq_false_or_eq_true (it.s.kind==10)with tW|tW
 ·have c1:=we h1 hz.W hz.trace it.s.id
  obtain⟨i,f,e1,e2⟩:=hd.Ro (by simpa using tW)
  have cA:=fun s=>ae0 hp XR e2 it.s.name s
  have y7:m.do p p.bh.L T W it=((k9 f.fin it.s.name (Sm.dm f.body)).1,m.event W it.s.id []):=by
   unfold Mc.do
   dsimp only
   rw[if_neg (by simp[b7]),if_neg (by simp[b8]),if_pos tW,e1,Int.toNat_natCast,e2]
  rw[y7]
  refine bP.uM il rfl fun B Q hB hQ=>?_
  have⟨hC,hE,hM,hY⟩:=bC
  repeat' (first
 |simp only[go_sem,hC,hE,hM,hY,z0,z1,z2,z3,hn,b7,b8,tW]
 |(with_reducible first|refine aX fun hc=>?_|refine aY fun hc=>?_|refine aZ (fun hc=>?_) fun hc=>?_)<;>(try simp only[hc,bs,↓reduceIte]at h)<;>try simp only[hc]
 |(with_reducible refine aB hQ ?_;(try cases h);simp only[aQ,aR,bn,bo,go_sem,hC,hE,hM,hY,z0,z1,z2,z3,hn,b7,b8,tW];try exact bR)
 |(cases h;done))
  refine CR c1 fun d s2 h2=>?_
  obtain⟨rfl,y2,rfl,h2⟩:=h2
  obtain⟨x1,x2,x3⟩:=jq h2
  have jK:=h2.jP
  rw[fu]at jK
  repeat' (first
 |simp only[go_sem,hC,hE,hM,hY,x1,x2,jK,e1]
 |(with_reducible refine CU (cA _) ?_)
 |(with_reducible first|refine aX fun hc=>?_|refine aY fun hc=>?_|refine aZ (fun hc=>?_) fun hc=>?_)<;>(try simp only[hc,bs,↓reduceIte]at h)<;>try simp only[hc]
 |(with_reducible refine aB hQ ?_;(try cases h);simp only[aQ,aR,bn,bo,go_sem,hC,hE,hM,hY,x1,x2,jK,e1];try exact bR)
 |(cases h;done))
  (refine gS hQ ?_;simp only[aQ,aR,bn,bo,go_sem])
  exact⟨rfl,_,⟨_,rfl⟩,h2.sub nC⟩
 rcases Bool.eq_false_or_eq_true (it.s.kind==2)with b2|b2
 ·obtain⟨k,hk⟩:=hd.name (.inr (by simpa using b2))
  have jy:=hz.reads
  have hTl:=hz.T
  have R6:=jy.1
  have aAV : ∀ r,((s.ah++ [dK it]++ [a8 it.s]).set 0 r)[0]? = some r:=fun r=>List.getElem?_set_self vT
  cases e:T[m.reads.toNat]? with
  | none=>
   have eH:decide (m.reads≥(T.length:Int))=true:=by have:=List.getElem?_eq_none_iff.1 e;simp;omega
   have y7:m.do p p.bh.L T W it=(-1,{m with fin:=3}):=by
    unfold Mc.do
    dsimp only
    rw[if_neg (by simp[b7]),if_neg (by simp[b8]),if_neg (by simp[tW]),if_pos b2,e]
   rw[y7]
   have h2:=h1.ud (m':= {m with fin:=3}) rfl rfl h1.t0 h1.t1
   rw[fu]at h2
   simp only at h2
   refine bP.uM il rfl fun B Q hB hQ=>?_
   have⟨hC,hE,hM,hY⟩:=bC
   repeat' (first
 |simp only[go_sem,hC,hE,hM,hY,z0,z1,z2,z3,z4,hn,b7,b8,tW,b2,eH,vT]
 |(with_reducible first|refine aX fun hc=>?_|refine aY fun hc=>?_|refine aZ (fun hc=>?_) fun hc=>?_)<;>(try simp only[hc,bs,↓reduceIte]at h)<;>try simp only[hc]
 |(with_reducible refine aB hQ ?_;(try cases h);simp only[aQ,aR,bn,bo,go_sem,hC,hE,hM,hY,z0,z1,z2,z3,z4,hn,b7,b8,tW,b2,eH,vT];try exact bR)
 | (cases h;done))
   (refine gS hQ ?_;simp only[aQ,aR,bn,bo,go_sem])
   exact⟨rfl,_,⟨_,rfl⟩,h2.sub nC⟩
  | some v=>
   have eH:decide (m.reads≥(T.length:Int))=false:=by have:=(List.getElem?_eq_some_iff.1 e).1;simp;omega
   have FI:IntKind.wrap .i64 (m.reads+1)=m.reads+1:=dN (by omega) (by omega)
   have LV:=hk.cell ht.top
   obtain⟨j,hj,y6⟩:=hk
   have y7:m.do p p.bh.L T W it=(it.next,(({m with reads:=m.reads+1,mem:=m.mem.set k v} : Mc).event W it.s.id [v])):=by
    unfold Mc.do
    dsimp only
    rw[if_neg (by simp[b7]),if_neg (by simp[b8]),if_neg (by simp[tW]),if_pos b2,e]
    have:({m with reads:=m.reads+1} : Mc).cell it.s.name=k:=LV
    simp only[Mc.set,this]
   rw[y7]
   have h2:=h1.ud (m':= {m with reads:=m.reads+1}) rfl rfl h1.t0 h1.t1
   have tO:mN ({m with reads:=m.reads+1} : Mc) fr r:=⟨ht.st,ht.len,ht.names,ht.vars⟩
   have c2:=CP h2 tO.st tO.len tO.names hj y6
   obtain⟨hκ,v0,g1,g2⟩:=cell_of h2 tO.st y6
   have h3:=h2.XH hκ v
   have c3:=Ek h3 hz.W hz.trace it.s.id v
   obtain⟨x1,x2,x3⟩:=jq h3
   obtain⟨x4,x5,x6⟩:=jq h2
   rw[fu]at c2 g2 c3 x1 x2 x4 x5
   simp only at c2 g2 c3 x1 x2 x4 x5
   refine bP.uM il rfl fun B Q hB hQ=>?_
   have⟨hC,hE,hM,hY⟩:=bC
   repeat' (first
 |simp only[go_sem,hC,hE,hM,hY,z0,z1,z2,z3,z4,hn,b7,b8,tW,b2,eH,vT,e,FI,R6,x1,x2,x4,x5,g2]
 |(with_reducible refine CU (c2) ?_)
 |(with_reducible first|refine aX fun hc=>?_|refine aY fun hc=>?_|refine aZ (fun hc=>?_) fun hc=>?_)<;>(try simp only[hc,bs,↓reduceIte]at h)<;>try simp only[hc]
 |(with_reducible refine aB hQ ?_;(try cases h);simp only[aQ,aR,bn,bo,go_sem,hC,hE,hM,hY,z0,z1,z2,z3,z4,hn,b7,b8,tW,b2,eH,vT,e,FI,R6,x1,x2,x4,x5,g2];try exact bR)
 | (cases h;done))
   refine CR c3 fun d s2 h4=>?_
   obtain⟨rfl,y2,rfl,h4⟩:=h4
   obtain⟨x1,x2,x3⟩:=jq h4
   repeat' (first
 |simp only[go_sem,hC,hE,hM,hY,x1,x2]
 |(with_reducible first|refine aX fun hc=>?_|refine aY fun hc=>?_|refine aZ (fun hc=>?_) fun hc=>?_)<;>(try simp only[hc,bs,↓reduceIte]at h)<;>try simp only[hc]
 |(with_reducible refine aB hQ ?_;(try cases h);simp only[aQ,aR,bn,bo,go_sem,hC,hE,hM,hY,x1,x2];try exact bR)
 | (cases h;done))
   (refine gS hQ ?_;simp only[aQ,aR,bn,bo,go_sem])
   exact⟨rfl,_,⟨_,rfl⟩,h4.sub nC⟩
 -- an expression is reckoned
 have hx:it.s.x.size<1000000:=by have:=hd.said.2.2;omega
 have c1:=Ej h1 ht hx hd.said.1
 rcases Bool.eq_false_or_eq_true (m.bW it.s.x).1.2 with bw|bw
 case inr=>
  have y7:m.do p p.bh.L T W it=(-1,(m.bW it.s.x).2):=by
   unfold Mc.do
   dsimp only
   rw[if_neg (by simp[b7]),if_neg (by simp[b8]),if_neg (by simp[tW]),if_neg (by simp[b2]),if_neg (by simp[bw])]
  rw[y7]
  refine bP.uM il rfl fun B Q hB hQ=>?_
  have⟨hC,hE,hM,hY⟩:=bC
  repeat' (first
 |simp only[go_sem,hC,hE,hM,hY,z0,z1,z2,z3,hn,b7,b8,tW,b2]
 |(with_reducible first|refine aX fun hc=>?_|refine aY fun hc=>?_|refine aZ (fun hc=>?_) fun hc=>?_)<;>(try simp only[hc,bs,↓reduceIte]at h)<;>try simp only[hc]
 |(with_reducible refine aB hQ ?_;(try cases h);simp only[aQ,aR,bn,bo,go_sem,hC,hE,hM,hY,z0,z1,z2,z3,hn,b7,b8,tW,b2];try exact bR)
 |(cases h;done))
  refine CR c1 fun d s2 h2=>?_
  obtain⟨⟨rfl,y2,wg,h2⟩,_⟩:=h2
  repeat' (first
 |simp only[go_sem,hC,hE,hM,hY,bw]
 |(with_reducible first|refine aX fun hc=>?_|refine aY fun hc=>?_|refine aZ (fun hc=>?_) fun hc=>?_)<;>(try simp only[hc,bs,↓reduceIte]at h)<;>try simp only[hc]
 |(with_reducible refine aB hQ ?_;(try cases h);simp only[aQ,aR,bn,bo,go_sem,hC,hE,hM,hY,bw];try exact bR)
 |(cases h;done))
  (refine gS hQ ?_;simp only[aQ,aR,bn,bo,go_sem])
  exact⟨rfl,y2,⟨_,wg⟩,h2.sub nC⟩
 have UE:(m.bW it.s.x).2=m:=by
  unfold Mc.bW
  dsimp only
  rw[if_pos (show(it.s.x.bW m.top.names m.dg).2=true from bw)]
 have y7:m.do p p.bh.L T W it=(let m1:=m.event W it.s.id [(m.bW it.s.x).1.1];let n:=(m.bW it.s.x).1.1
  if it.s.kind==1 then(it.next,m1.set it.s.name n)else if it.s.kind==3 then(it.next,{m1 with out:=m1.out++ [n]})
  else if it.s.kind==5 then(if n==0 then firstM it.s.bc it.next else firstM it.s.bm it.next,m1)else if it.s.kind==6 then(if n==0 then it.next else firstM it.s.bm it.s.id,m1)else(it.next,m1)):=by
  unfold Mc.do
  dsimp only
  rw[if_neg (by simp[b7]),if_neg (by simp[b8]),if_neg (by simp[tW]),if_neg (by simp[b2]),if_pos bw,UE]
 rw[y7]
 rw[UE]at c1
 generalize hR:(m.bW it.s.x).1=R at *
 obtain⟨v,ok⟩:=R
 subst bw
 dsimp only
 have he:=fG W m it.s.id [v]
 have UF:mN (m.event W it.s.id [v]) fr r:=⟨by rw[he.1];exact ht.st,ht.len,ht.names,ht.vars⟩
 have nb:(v != 0) = !(v==0):=rfl
 have fT:=fun o s=>NU it.s.bm (by have:=hd.bm;omega) o s
 have fE:=fun o s=>NU it.s.bc (by have:=hd.bc;omega) o s
 refine bP.uM il rfl fun B Q hB hQ=>?_
 have⟨hC,hE,hM,hY⟩:=bC
 repeat' (first
 |simp only[go_sem,hC,hE,hM,hY,z0,z1,z2,z3,hn,b7,b8,tW,b2]
 |(with_reducible first|refine aX fun hc=>?_|refine aY fun hc=>?_|refine aZ (fun hc=>?_) fun hc=>?_)<;>(try simp only[hc,bs,↓reduceIte]at h)<;>try simp only[hc]
 |(with_reducible refine aB hQ ?_;(try cases h);simp only[aQ,aR,bn,bo,go_sem,hC,hE,hM,hY,z0,z1,z2,z3,hn,b7,b8,tW,b2];try exact bR)
 |(cases h;done))
 refine CR c1 fun d s2 h2=>?_
 obtain⟨⟨rfl,y2,wg,h2⟩,_⟩:=h2
 obtain⟨x1,x2,x3⟩:=jq h2
 have c2:=Ek h2 hz.W hz.trace it.s.id v
 repeat' (first
 |simp only[go_sem,hC,hE,hM,hY,x1,x2]
 |(with_reducible first|refine aX fun hc=>?_|refine aY fun hc=>?_|refine aZ (fun hc=>?_) fun hc=>?_)<;>(try simp only[hc,bs,↓reduceIte]at h)<;>try simp only[hc]
 |(with_reducible refine aB hQ ?_;(try cases h);simp only[aQ,aR,bn,bo,go_sem,hC,hE,hM,hY,x1,x2];try exact bR)
 |(cases h;done))
 refine CR c2 fun d s3 h3=>?_
 obtain⟨rfl,y3,rfl,h3⟩:=h3
 obtain⟨x1,x2,x3⟩:=jq h3
 have oe:=h3.jP
 rw[fu]at oe
 rcases Bool.eq_false_or_eq_true (it.s.kind==1)with b1|b1
 ·obtain⟨k,hk⟩:=hd.name (.inl (by simpa using b1))
  have LV:=hk.cell UF.top
  obtain⟨j,hj,y6⟩:=hk
  have c3:=CP h3 UF.st UF.len UF.names hj y6
  obtain⟨hκ,v0,g1,g2⟩:=cell_of h3 UF.st y6
  have h4:=h3.XH hκ v
  obtain⟨x4,x5,x6⟩:=jq h4
  simp only at x4 x5
  repeat' (first
 |simp only[go_sem,hC,hE,hM,hY,x1,x2,b1,g2,x4,x5]
 |(with_reducible refine CU (c3) ?_)
 |(with_reducible first|refine aX fun hc=>?_|refine aY fun hc=>?_|refine aZ (fun hc=>?_) fun hc=>?_)<;>(try simp only[hc,bs,↓reduceIte]at h)<;>try simp only[hc]
 |(with_reducible refine aB hQ ?_;(try cases h);simp only[aQ,aR,bn,bo,go_sem,hC,hE,hM,hY,x1,x2,b1,g2,x4,x5];try exact bR)
 |(cases h;done))
  (refine gS hQ ?_;simp only[aQ,aR,bn,bo,go_sem])
  rw[if_pos b1]
  refine⟨rfl,y3,⟨_,wg⟩, ?_⟩
  simp only[Mc.set,LV]
  exact h4.sub nC
 rw[if_neg (by simp[b1])]at hQ
 rcases Bool.eq_false_or_eq_true (it.s.kind==3)with b3|b3
 ·rw [if_pos b3]at hQ
  have eS:gp 1 8 (.slice (.tok 0) 1 ((m.event W it.s.id [v]).out.map cO)) (.slice .full 1 [[.int .i64 v]]) s3=some (.slice (.tok 0) 1 (((m.event W it.s.id [v]).out++ [v]).map cO),⟨s3.ah,s3.aw.set 0 (some ((m.event W it.s.id [v]).out.length+1))⟩):=by
   rw[o9 (size:=1) (by simp only[List.length_map,List.length_singleton,he.2.2.2.2.2];have:=hz.out;unfold bu;omega) (by simpa using h3.t0)]
   simp[cO]
  have h4:=h3.ud (m':= {m.event W it.s.id [v]with out:=(m.event W it.s.id [v]).out++ [v]}) (ts:=s3.aw.set 0 (some ((m.event W it.s.id [v]).out.length+1))) rfl rfl (by simp[(List.getElem?_eq_some_iff.1 h3.t0).1]) (by rw[List.getElem?_set_ne (by omega)];exact h3.t1)
  obtain⟨x4,x5,x6⟩:=jq h4
  rw[fu]at h4 x4 x5
  simp only[List.map_append,List.map_cons,List.map_nil,cO]at h4 x4 x5 eS
  repeat' (first
 |simp only[go_sem,hC,hE,hM,hY,x1,x2,b1,b3,oe,eS,x3,x4,x5]
 |(with_reducible first|refine aX fun hc=>?_|refine aY fun hc=>?_|refine aZ (fun hc=>?_) fun hc=>?_)<;>(try simp only[hc,bs,↓reduceIte]at h)<;>try simp only[hc]
 |(with_reducible refine aB hQ ?_;(try cases h);simp only[aQ,aR,bn,bo,go_sem,hC,hE,hM,hY,x1,x2,b1,b3,oe,eS,x3,x4,x5];try exact bR)
 |(cases h;done))
  (refine gS hQ ?_;simp only[aQ,aR,bn,bo,go_sem])
  exact⟨rfl,y3,⟨_,wg⟩,h4.sub nC⟩
 rw[if_neg (by simp[b3])]at hQ
 rcases Bool.eq_false_or_eq_true (it.s.kind==5)with b5|b5
 ·rw [if_pos b5]at hQ
  rcases Bool.eq_false_or_eq_true (v==0)with bv|bv
  ·rw [if_pos bv]at hQ
   repeat' (first
 |simp only[go_sem,hC,hE,hM,hY,x1,x2,b1,b3,b5,nb,bv]
 |(with_reducible refine CU (fT _ _) ?_)
 |(with_reducible refine CU (fE _ _) ?_)
 |(with_reducible first|refine aX fun hc=>?_|refine aY fun hc=>?_|refine aZ (fun hc=>?_) fun hc=>?_)<;>(try simp only[hc,bs,↓reduceIte]at h)<;>try simp only[hc]
 |(with_reducible refine aB hQ ?_;(try cases h);simp only[aQ,aR,bn,bo,go_sem,hC,hE,hM,hY,x1,x2,b1,b3,b5,nb,bv];try exact bR)
 | (cases h;done))
   (refine gS hQ ?_;simp only[aQ,aR,bn,bo,go_sem])
   exact⟨rfl,y3,⟨_,wg⟩,h3.sub nC⟩
  ·rw [if_neg (by simp [bv])]at hQ
   repeat' (first
 |simp only[go_sem,hC,hE,hM,hY,x1,x2,b1,b3,b5,nb,bv]
 |(with_reducible refine CU (fT _ _) ?_)
 |(with_reducible refine CU (fE _ _) ?_)
 |(with_reducible first|refine aX fun hc=>?_|refine aY fun hc=>?_|refine aZ (fun hc=>?_) fun hc=>?_)<;>(try simp only[hc,bs,↓reduceIte]at h)<;>try simp only[hc]
 |(with_reducible refine aB hQ ?_;(try cases h);simp only[aQ,aR,bn,bo,go_sem,hC,hE,hM,hY,x1,x2,b1,b3,b5,nb,bv];try exact bR)
 | (cases h;done))
   (refine gS hQ ?_;simp only[aQ,aR,bn,bo,go_sem])
   exact⟨rfl,y3,⟨_,wg⟩,h3.sub nC⟩
 rw[if_neg (by simp[b5])]at hQ
 rcases Bool.eq_false_or_eq_true (it.s.kind==6)with b6|b6
 ·rw [if_pos b6]at hQ
  rcases Bool.eq_false_or_eq_true (v==0)with bv|bv
  ·rw [if_pos bv]at hQ
   repeat' (first
 |simp only[go_sem,hC,hE,hM,hY,x1,x2,b1,b3,b5,b6,nb,bv]
 |(with_reducible refine CU (fT _ _) ?_)
 |(with_reducible refine CU (fE _ _) ?_)
 |(with_reducible first|refine aX fun hc=>?_|refine aY fun hc=>?_|refine aZ (fun hc=>?_) fun hc=>?_)<;>(try simp only[hc,bs,↓reduceIte]at h)<;>try simp only[hc]
 |(with_reducible refine aB hQ ?_;(try cases h);simp only[aQ,aR,bn,bo,go_sem,hC,hE,hM,hY,x1,x2,b1,b3,b5,b6,nb,bv];try exact bR)
 | (cases h;done))
   (refine gS hQ ?_;simp only[aQ,aR,bn,bo,go_sem])
   exact⟨rfl,y3,⟨_,wg⟩,h3.sub nC⟩
  ·rw [if_neg (by simp [bv])]at hQ
   repeat' (first
 |simp only[go_sem,hC,hE,hM,hY,x1,x2,b1,b3,b5,b6,nb,bv]
 |(with_reducible refine CU (fT _ _) ?_)
 |(with_reducible refine CU (fE _ _) ?_)
 |(with_reducible first|refine aX fun hc=>?_|refine aY fun hc=>?_|refine aZ (fun hc=>?_) fun hc=>?_)<;>(try simp only[hc,bs,↓reduceIte]at h)<;>try simp only[hc]
 |(with_reducible refine aB hQ ?_;(try cases h);simp only[aQ,aR,bn,bo,go_sem,hC,hE,hM,hY,x1,x2,b1,b3,b5,b6,nb,bv];try exact bR)
 | (cases h;done))
   (refine gS hQ ?_;simp only[aQ,aR,bn,bo,go_sem])
   exact⟨rfl,y3,⟨_,wg⟩,h3.sub nC⟩
 rw[if_neg (by simp[b6])]at hQ
 repeat' (first
 |simp only[go_sem,hC,hE,hM,hY,x1,x2,b1,b3,b5,b6]
 |(with_reducible first|refine aX fun hc=>?_|refine aY fun hc=>?_|refine aZ (fun hc=>?_) fun hc=>?_)<;>(try simp only[hc,bs,↓reduceIte]at h)<;>try simp only[hc]
 |(with_reducible refine aB hQ ?_;(try cases h);simp only[aQ,aR,bn,bo,go_sem,hC,hE,hM,hY,x1,x2,b1,b3,b5,b6];try exact bR)
 |(cases h;done))
 (refine gS hQ ?_;simp only[aQ,aR,bn,bo,go_sem])
 exact⟨rfl,y3,⟨_,wg⟩,h3.sub nC⟩
end
end Go.Abs
namespace Go.Abs
set_option maxRecDepth 8000
open Go.Proofs
section
variable {p:Pg} {T W:List Int} {y:Lay} {m:Mc} {loc:List (Nat×List D)} {s:St}
theorem Em : ∀ (l:List Ar) (m:Mc) (out:List Nat),(Mc.args l m out).2.out=m.out∧(Mc.args l m out).2.trace=m.trace
 | [],m,out=>⟨rfl,rfl⟩
 | a::l,m,out=>by
  have hw:=jN m a.x
  simp only[Mc.args]
  by_cases c:a.ref=true
  ·rw[if_pos c];exact Em l m _
  ·rw [if_neg c]
   by_cases c2:(m.bW a.x).1.2=true
   ·rw [if_pos c2]
    obtain⟨h1,h2⟩:=Em l {(m.bW a.x).2 with mem:=(m.bW a.x).2.mem++ [(m.bW a.x).1.1]} (out++ [(m.bW a.x).2.mem.length])
    exact⟨h1.trans hw.2.2.2.2.1,h2.trans hw.2.2.2.2.2⟩
   ·rw[if_neg c2];exact⟨hw.2.2.2.2.1,hw.2.2.2.2.2⟩
structure UG (p:Pg) (fr:Fr) (v:Sm):Prop where
 said:v.nw
 args : ∀ a∈v.args,a.x.texts∧a.x.size<1000000∧(a.ref=true→∃ k,wh fr a.name k)
 proc : ∃ (j:Nat) (q:Pc),p.at v.proc=(j:Int)∧p.procs[j]? = some q∧p.find q.name=some q
theorem UH (hp:p.iX) (XR:p.may=true) (h:Inv p T W y m loc s) {fr:Fr} {r:List Fr} (ht:mN m fr r) (hz:Js p T W m) (hg:p.globals.length≤m.mem.length) {v:Sm} (hd:UG p fr v) :
 bP Tryz.prog pd [.ptr 0 0, .agg (a8 v)] s (Rl p T W (.int .i64 (m.call p W v).1) (m.call p W v).2 (fun _=>True) loc):=by
 have h1:=h.new (a8 v)
 have JQ:2≤s.aw.length:=by have:=(List.getElem?_eq_some_iff.1 h.t1).1;omega
 generalize hn:s.ah.length=n at h1
 generalize M8:s.aw.length=tk at JQ
 have Av:v.args.length<1000000:=by have:=hd.said.2.2;have:=Ar.ei v.args;omega
 have aAW:=ht.st
 refine bP.uM zG rfl fun B Q hB hQ=>?_
 have⟨hC,hE,hM,hY⟩:=bC
 have loop : ∀ (rest:List Ar) (k:Nat) (m1:Mc) (out:List Nat) (y1:Lay) (s1:St),v.args.drop k=rest→Mc.args v.args m [] = Mc.args rest m1 out→m1.st=m.st→m1.trace=m.trace∧m1.out=m.out→m.mem.length≤m1.mem.length→out.length=k∧k≤v.args.length→(∀ c∈out,c<m1.mem.length)→
  Inv p T W y1 m1 ((n,a8 v)::loc) s1→s1.aw[tk]? = some (some out.length)→
  bd Tryz.prog B 67 QFQ (iD 0 (kK (gD Tryz.prog B 67 QG5 Q) Q))
   [(0, .ptr 0 0),(3, .ptr n 0),(5, .slice (.tok tk) 1 (out.map fun c=>fh (y1.κ.getD c 0))),(12, .slice .shared 6 (v.args.map eC)),(13, .int .i64 (v.args.length:Int)),(14, .int .i64 (k:Int))] s1:=by
  intro rest
  induction rest with
  | nil=>
   intro k m1 out y1 s1 Nt ny Ak Bh vT rn pP h2 XS
   have hC:=drop_nil Nt
   have BS:mN m1 fr r:=⟨by rw[Ak];exact ht.st,ht.len,ht.names,ht.vars⟩
   obtain⟨so,g,cells,o,e1,e2,e3,e4,e5⟩:=h2.XL BS.st
   have jK:=h2.jP
   rw[fu,e1]at jK
   have tV:=(h2.loc (n,a8 v) (by simp)).1
   have lb:=h2.uO
   have Hd:m.call p W v=if m1.st.length > 100 then(-1,{m1 with fin:=5})else(m1.event W v.id []).open p (p.at v.proc) out v.id:=by
    unfold Mc.call
    rw[ny]
    rfl
   have hlen:m1.st.length=r.length+1:=by rw[BS.st];rfl
   rw[Hd,hlen]at hQ
   simp only at tV
   refine bd.kv ?_
   by_cases WM:r.length+1 > 100
   ·have FJ:decide (((r.length+1:Nat):Int) > 100)=true:=by simp;omega
    rw[if_pos WM]at hQ
    have h3:=h2.ud (m':= {m1 with fin:=5}) rfl rfl h2.t0 h2.t1
    rw[fu,e1]at h3
    simp only at h3
    repeat' (first
 |simp only[go_sem,hC,hE,hM,hY,jK,tV,FJ,lb]
 |(with_reducible first|refine aX fun hc=>?_|refine aY fun hc=>?_|refine aZ (fun hc=>?_) fun hc=>?_)<;>(try simp only[hc,bs,↓reduceIte]at h)<;>try simp only[hc]
 |(with_reducible refine aB hQ ?_;(try cases h);simp only[aQ,aR,bn,bo,go_sem,hC,hE,hM,hY,jK,tV,FJ,lb];try exact bR)
 | (cases h;done))
    (refine gS hQ ?_;simp only[aQ,aR,bn,bo,go_sem])
    exact⟨rfl,y1,trivial,h3.sub fun q mq=>List.mem_cons_of_mem _ mq⟩
   ·have FJ:decide (((r.length+1:Nat):Int) > 100)=false:=by simp;omega
    rw[if_neg WM]at hQ
    have c1:=we h2 hz.W (by rw[Bh.1];exact hz.trace) v.id
    repeat' (first
 |simp only[go_sem,hC,hE,hM,hY,jK,tV,FJ,lb]
 |(with_reducible first|refine aX fun hc=>?_|refine aY fun hc=>?_|refine aZ (fun hc=>?_) fun hc=>?_)<;>(try simp only[hc,bs,↓reduceIte]at h)<;>try simp only[hc]
 |(with_reducible refine aB hQ ?_;(try cases h);simp only[aQ,aR,bn,bo,go_sem,hC,hE,hM,hY,jK,tV,FJ,lb];try exact bR)
 | (cases h;done))
    refine CR c1 fun d s3 h3=>?_
    obtain⟨rfl,y3,rfl,h3⟩:=h3
    have he:=fG W m1 v.id []
    obtain⟨j,q,j1,j2,j3⟩:=hd.proc
    obtain⟨y4,s4,hF,h4⟩:=NW h3 hp XR j2 j3 (by rw[he.1,hlen];have:=ht.len;omega) (l:=out) (by rw[he.2.1];exact pP) (by omega) (by rw[he.2.1];omega) v.id
    have hF':=fun g:Tag=>bP.ou (.cons (Wk.refl _) (.cons (Wk.refl _) (.cons (Wk.shared g 1 _) (ju.refl _)))) hF
    have hF2:az Tryz.prog jl [.ptr 0 0, .int .i64 (j:Int), .slice (.tok tk) 1 (out.map fun c=>fh (y3.κ.getD c 0)), .int .i64 v.id] s3 _ s4:=hF' _
    have cP:=fun s=>Fb (p:=p) (by have:=hp.procs.1;omega) v.proc s
    have oe:=h3.jP
    rw[fu]at oe
    have hx3:=(h3.loc (n,a8 v) (by simp)).1
    simp only at hx3
    rw[j1]at hQ cP
    repeat' (first
 |simp only[go_sem,hC,hE,hM,hY,oe,hx3]
 |(with_reducible refine CU (cP _) ?_)
 |(with_reducible refine CU (hF2) ?_)
 |(with_reducible first|refine aX fun hc=>?_|refine aY fun hc=>?_|refine aZ (fun hc=>?_) fun hc=>?_)<;>(try simp only[hc,bs,↓reduceIte]at h)<;>try simp only[hc]
 |(with_reducible refine aB hQ ?_;(try cases h);simp only[aQ,aR,bn,bo,go_sem,hC,hE,hM,hY,oe,hx3];try exact bR)
 | (cases h;done))
    (refine gS hQ ?_;simp only[aQ,aR,bn,bo,go_sem])
    exact⟨rfl,y4,trivial,h4.sub fun q mq=>List.mem_cons_of_mem _ mq⟩
  | cons a rest ih=>
   intro k m1 out y1 s1 Nt ny Ak Bh vT rn pP h2 XS
   obtain⟨hE,g2,hC,g4⟩:=drop_cons Nt
   have cm:k<4611686018427387904:=by omega
   obtain⟨a1,a2,a3⟩:=hd.args a (List.mem_of_getElem? hE)
   have BS:mN m1 fr r:=⟨by rw[Ak];exact ht.st,ht.len,ht.names,ht.vars⟩
   have h3:=h2.new (eC a)
   have zq : ∀ z:List D,(s1.ah++ [z]).set s1.ah.length (eC a)=s1.ah++ [eC a]:=fun z=>by simp
   have zg : ∀ z:List D,(s1.ah++ [z])[s1.ah.length]? = some z:=fun z=>by simp
   have eS : ∀ (x:Nat) (os:List (List D)),gp 1 8 (.slice (.tok tk) 1 (out.map fun c=>fh (y1.κ.getD c 0))) (.slice .full 1 [[.ptr x 0]]) ⟨os,s1.aw⟩=some (.slice (.tok tk) 1 ((out.map fun c=>fh (y1.κ.getD c 0))++ [fh x]),⟨os,s1.aw.set tk (some (out.length+1))⟩):=fun x os=>by
    rw[o9 (size:=1) (by simp only[List.length_map,List.length_singleton];unfold bu;omega) (by simpa using XS)]
    simp[fh]
   have En : ∀ k':Nat,(s1.aw.set tk (some k'))[0]? = s1.aw[0]? ∧(s1.aw.set tk (some k'))[1]? = s1.aw[1]? ∧(s1.aw.set tk (some k'))[tk]? = some (some k'):=fun k'=>
    ⟨List.getElem?_set_ne (by omega),List.getElem?_set_ne (by omega),by simp[(List.getElem?_eq_some_iff.1 XS).1]⟩
   refine bd.kv ?_
   rcases Bool.eq_false_or_eq_true a.ref with b|b
   ·obtain⟨c,hc⟩:=a3 b
    have LV:=hc.cell BS.top
    obtain⟨j,hj,y6⟩:=hc
    have c1:=CP h3 BS.st BS.len BS.names hj y6
    obtain⟨hκ,v0,gm,_⟩:=cell_of h2 BS.st y6
    have Ao:=(List.getElem?_eq_some_iff.1 gm).1
    repeat' (first
 |simp only[go_sem,hC,hE,hM,hY,hE,zq,zg,b,eS]
 |(with_reducible refine CU (c1) ?_)
 |(with_reducible first|refine aX fun hc=>?_|refine aY fun hc=>?_|refine aZ (fun hc=>?_) fun hc=>?_)<;>(try simp only[hc,bs,↓reduceIte]at h)<;>try simp only[hc]
 |(with_reducible refine aB hQ ?_;(try cases h);simp only[aQ,aR,bn,bo,go_sem,hC,hE,hM,hY,hE,zq,zg,b,eS];try exact bR)
 | (cases h;done))
    have:=ih (k+1) m1 (out++ [c]) y1 ⟨s1.ah++ [eC a],s1.aw.set tk (some (out.length+1))⟩ g2 (by rw[ny];simp only[Mc.args,b,if_true,LV]) Ak Bh vT ⟨by simp[rn.1],g4⟩ (fun x mx=>by
     rcases List.mem_append.1 mx with mx|mx
     ·exact pP x mx
     ·rw[List.mem_singleton.1 mx];exact Ao) ((h3.sub fun q mq=>List.mem_cons_of_mem _ mq).keep (fun _ _ e=>e) (En _).1 (En _).2.1) (by simpa using (En _).2.2)
    refine bd.pU ?_ this
    simp only[go_sem,aL cm,List.map_append,List.map_cons,List.map_nil]
    repeat' (first|exact Ok.out|with_reducible refine eL ?_ ?_)
   ·have c1:=Ej h3 BS a2 a1
    repeat' (first
 |simp only[go_sem,hC,hE,hM,hY,hE,zq,zg,b]
 |(with_reducible first|refine aX fun hc=>?_|refine aY fun hc=>?_|refine aZ (fun hc=>?_) fun hc=>?_)<;>(try simp only[hc,bs,↓reduceIte]at h)<;>try simp only[hc]
 |(with_reducible refine aB hQ ?_;(try cases h);simp only[aQ,aR,bn,bo,go_sem,hC,hE,hM,hY,hE,zq,zg,b];try exact bR)
 | (cases h;done))
    refine CR c1 fun d s2 h4=>?_
    obtain⟨⟨rfl,y2,wg,h4⟩,vw⟩:=h4
    have hw:=jN m1 a.x
    simp only at vw
    rcases Bool.eq_false_or_eq_true (m1.bW a.x).1.2 with bw|bw
    ·have UE:(m1.bW a.x).2=m1:=by
      unfold Mc.bW
      dsimp only
      rw[if_pos (show(a.x.bW m1.top.names m1.dg).2=true from bw)]
     rw[UE]at h4
     have yq : ∀ z:List D,(s2.ah++ [z]).set s2.ah.length [.int .i64 (m1.bW a.x).1.1] = s2.ah++ [[.int .i64 (m1.bW a.x).1.1]]:=fun z=>by simp
     have yg : ∀ z:List D,(s2.ah++ [z])[s2.ah.length]? = some z:=fun z=>by simp
     rw[← vw]at eS En
     have h5:=h4.atb (m1.bW a.x).1.1 (by omega)
     have hyκ:y2.κ=y1.κ:=by rw[wg]
     have aiO:y1.κ.length=m1.mem.length:=h2.len
     repeat' (first
 |simp only[go_sem,hC,hE,hM,hY,bw,yq,yg,eS]
 |(with_reducible first|refine aX fun hc=>?_|refine aY fun hc=>?_|refine aZ (fun hc=>?_) fun hc=>?_)<;>(try simp only[hc,bs,↓reduceIte]at h)<;>try simp only[hc]
 |(with_reducible refine aB hQ ?_;(try cases h);simp only[aQ,aR,bn,bo,go_sem,hC,hE,hM,hY,bw,yq,yg,eS];try exact bR)
 | (cases h;done))
     have:=ih (k+1) {m1 with mem:=m1.mem++ [(m1.bW a.x).1.1]} (out++ [m1.mem.length]) {y2 with κ:=y2.κ++ [s2.ah.length]} ⟨s2.ah++ [[.int .i64 (m1.bW a.x).1.1]],s2.aw.set tk (some (out.length+1))⟩ g2
      (by rw [ny];simp only [Mc.args,b,Bool.false_eq_true,if_false,bw,if_true,UE]) Ak Bh (by simp;omega) ⟨by simp [rn.1],g4⟩ (fun x mx=>by
       simp only[List.length_append,List.length_singleton]
       rcases List.mem_append.1 mx with mx|mx
       ·have:=pP x mx;omega
       ·rw[List.mem_singleton.1 mx];omega) ((h5.sub fun q mq=>List.mem_cons_of_mem _ mq).keep (fun _ _ e=>e) (En _).1 (En _).2.1) (by simpa using (En _).2.2)
     refine bd.pU ?_ this
     have atj:(out.map fun c=>fh ((y2.κ++ [s2.ah.length]).getD c 0))=out.map fun c=>fh (y1.κ.getD c 0):=List.map_congr_left fun c mc=>by rw[hyκ,El (by have:=pP c mc;omega)]
     have dr:(y2.κ++ [s2.ah.length]).getD m1.mem.length 0=s2.ah.length:=by rw[hyκ, ← aiO];simp[List.getD_eq_getElem?_getD]
     simp only[go_sem,aL cm,List.map_append,List.map_cons,List.map_nil,atj,dr]
     repeat' (first|exact Ok.out|with_reducible refine eL ?_ ?_)
    ·repeat' (first
 |simp only[go_sem,hC,hE,hM,hY,bw]
 |(with_reducible first|refine aX fun hc=>?_|refine aY fun hc=>?_|refine aZ (fun hc=>?_) fun hc=>?_)<;>(try simp only[hc,bs,↓reduceIte]at h)<;>try simp only[hc]
 |(with_reducible refine aB hQ ?_;(try cases h);simp only[aQ,aR,bn,bo,go_sem,hC,hE,hM,hY,bw];try exact bR)
 |(cases h;done))
     (refine gS hQ ?_;simp only[aQ,aR,bn,bo,go_sem])
     have Hd:m.call p W v=(-1,(m1.bW a.x).2):=by
      unfold Mc.call
      rw[ny]
      simp only[Mc.args,b,Bool.false_eq_true,if_false,bw]
     rw[Hd]
     exact⟨rfl,y2,trivial,h4.sub fun q mq=>List.mem_cons_of_mem _ (List.mem_cons_of_mem _ mq)⟩
 have hz0:(s.ah++ [a8 v])[n]? = some (a8 v):=by simp[← hn]
 have l0:=loop v.args 0 m [] y ⟨s.ah++ [a8 v],s.aw++ [some 0]⟩ rfl rfl rfl ⟨rfl,rfl⟩ (Nat.le_refl _) ⟨rfl,Nat.zero_le _⟩ (by simp) (h1.aw _) (by simp[← M8])
 repeat' (first
 |simp only[go_sem,hC,hE,hM,hY,hz0,hn]
 |(with_reducible first|refine aX fun hc=>?_|refine aY fun hc=>?_|refine aZ (fun hc=>?_) fun hc=>?_)<;>(try simp only[hc,bs,↓reduceIte]at h)<;>try simp only[hc]
 |(with_reducible refine aB hQ ?_;(try cases h);simp only[aQ,aR,bn,bo,go_sem,hC,hE,hM,hY,hz0,hn];try exact bR)
 |(cases h;done))
 refine bd.pY 5 1 rfl ?_
 simp only[go_sem,hC,hE,hM,hY]
 refine bd.pU ?_ l0
 simp only[go_sem,M8,List.map_nil]
 repeat' (first|exact Ok.out|with_reducible refine eL ?_ ?_)
end
end Go.Abs
namespace Go.Abs
theorem XT {v:Sm} (h:v.one=true) (hk:v.kind=1∨v.kind=2):v.name≠ []:=by
 intro e
 have hn:v.hasName=true:=by unfold Sm.hasName;rcases hk with hk|hk<;>simp[hk]
 unfold Sm.one at h
 split at h
 ·cases h
 ·rw [e,hn]at h
  simp[isName]at h
theorem H0 {v:Sm} (hk:v.kind≠10) (hn:v.name≠ []):v.name∈v.said:=by
 unfold Sm.said Sm.s9
 refine va (.inl ?_)
 rw[if_pos (by simp[hk,hn])]
 simp
theorem Ah {name:aF} {f:Pc} : ∀ {l:List Pc},iT name l=some f→f.name=name
 |g::l,h=>by
  simp only[iT]at h
  split at h
  ·rename_i e;cases h;simpa using e
  ·exact Ah h
mutual
theorem af7 : ∀ s:Sm,∀ v∈s.pre,v.size≤s.size
 | ⟨id,kind,labels,name,proc,x,has,args,bm,bc⟩,v,m=>by
  rw[Sm.qo]at m
  rcases List.mem_cons.1 m with rfl|m
  ·exact Nat.le_refl _
  ·simp only [Sm.size]
   rcases List.mem_append.1 m with m|m
   ·have:=CQ bm v m;omega
   ·have:=CQ bc v m;omega
theorem CQ : ∀ l:List Sm,∀ v∈Sm.dm l,v.size≤Sm.br l
 | [],v,m=>by simp[Sm.dm]at m
 |s::l,v,m=>by
  simp only[Sm.dm,List.mem_append]at m
  simp only[Sm.br]
  rcases m with m|m
  ·have:=af7 s v m;omega
  ·have:=CQ l v m;omega
end
theorem GX : ∀ l:List Sm,l.length≤Sm.br l
 | []=>Nat.le_refl _
 |s::l=>by
  have:=GX l
  have h1:1≤s.size:=by cases s;simp only[Sm.size];omega
  simp only[Sm.br,List.length_cons];omega
section
variable {p:Pg} {m:Mc} {a:Int}
theorem LW (hO:p.iX) (h:pA p p.bh.L a m) (hl:m.st.length≤1000) : ∃ fr r f,mN m fr r∧p.procs[fr.proc.toNat]? = some f∧fr.names=p.globals++f.own∧fr.vars.length=fr.names.length∧m.top=fr:=by
 obtain⟨fr,r,e⟩:=h.st.ne
 have ht:m.top=fr:=by simp[Mc.top,e]
 obtain⟨f,h1,h2,h3,h4,h5⟩:=h.fr fr (by rw[e];exact List.mem_cons_self ..)
 have hf:=List.mem_of_getElem? h1
 have s1:=Pc.dd hf
 have s2:=hO.sz
 simp only[Pg.size]at s2
 have hn:fr.names.length<1000000:=by
  rw[h3]
  have s3:=hO.small hf
  simp only[Pc.size]at s1
  simp only[List.length_append,Pc.own,Pc.tQ,List.length_map]
  have:=s3.par;have:=s3.vars
  omega
 rw[e]at hl
 exact⟨fr,r,f,⟨e,by simp at hl;omega,hn,by omega⟩,h1,h3,h4,ht⟩
theorem GY {fr:Fr} (hv:fr.vars.length=fr.names.length) {n:aF} (hn:n∈fr.names) : ∃ k,wh fr n k:=by
 obtain⟨j,h1,h2⟩:=LN (k:=0) hn
 exact⟨_,j,by simpa using h1,List.getElem?_eq_getElem (by omega)⟩
theorem abU {fr:Fr} (h:pA p p.bh.L a m) (ht:m.top=fr) (hR:p.Right) (ha:a≠ -1) {f:Pc} (hf:p.procs[fr.proc.toNat]? = some f):Cc p p.bh.L (gf p.bh.L a) f∧(gf p.bh.L a).proc=fr.proc∧gf p.bh.L a∈p.bh.L∧
 ∃ c:Nat,a=(c:Int)+1∧p.bh.L[c]? = some (gf p.bh.L a):=by
 have hm:=h.at_.resolve_left ha
 have iM:=z7 (L:=p.bh.L) (.inr ⟨hm.1,hm.2.1⟩) ha
 obtain⟨f',o⟩:=(q7 hR).im _ iM
 have hp:(gf p.bh.L a).proc=fr.proc:=by rw[← ht];exact hm.2.2
 have:f'=f:=by have:=o.proc.1;rw[hp,hf]at this;exact(Option.some.inj this).symm
 subst this
 have h1:=hm.1
 have h2:=hm.2.1
 refine⟨o,hp,iM,(a - 1).toNat,by omega, ?_⟩
 unfold gf
 rw[List.getD_eq_getElem?_getD,List.getElem?_eq_getElem (show(a - 1).toNat<p.bh.L.length by omega)];rfl
theorem NY (hO:p.iX) (hR:p.Right) {x:Im} {f:Pc} {fr:Fr} (hx:Cc p p.bh.L x f) (hn:fr.names=p.globals++f.own) (hv:fr.vars.length=fr.names.length):af1 p fr x:=by
 have hf:=List.mem_of_getElem? hx.proc.1
 have qb:x.s∈p.pre:=by
  simp only[Pg.pre,List.mem_flatten,List.mem_map];exact⟨_,⟨f,hf,rfl⟩,hx.mem⟩
 have eg:=CQ f.body x.s hx.mem
 have s1:=Pc.dd hf
 have s2:=hO.sz
 simp only[Pg.size]at s2
 simp only[Pc.size]at s1
 have hs:Sm.br x.s.bm+Sm.br x.s.bc≤x.s.size:=by
  cases x with
  |mk s _ _ _ _=>cases s;simp only[Sm.size];omega
 refine⟨hO.said hf _ hx.mem,fun hk=>?_,fun hk=>?_,fun hk=>?_, ?_, ?_⟩
 ·have hl:=hx.loop (.inl hk)
  have h1:=hl.1
  have h2:=hl.2.1
  exact⟨(x.loop - 1).toNat,_,by omega,List.getElem?_eq_getElem (by omega)⟩
 ·obtain⟨i,hi⟩:=Int.eq_ofNat_of_zero_le hx.proc.2
  exact⟨i,f,hi,by have:=hx.proc.1;rwa [hi,Int.toNat_natCast]at this⟩
 ·refine GY hv ?_
  rw[hn]
  exact z8 hR hx (H0 (by rcases hk with hk|hk<;>omega) (XT (abe hR.may _ qb) hk))
 ·have:=GX x.s.bm;omega
 ·have:=GX x.s.bc;omega
theorem UI (hO:p.iX) (hR:p.Right) {x:Im} {f:Pc} {fr:Fr} (hx:Cc p p.bh.L x f) (hk:x.s.kind=4) (hn:fr.names=p.globals++f.own) (hv:fr.vars.length=fr.names.length):UG p fr x.s:=by
 have hf:=List.mem_of_getElem? hx.proc.1
 have sj:=hO.said hf _ hx.mem
 have qb:x.s∈p.pre:=by
  simp only[Pg.pre,List.mem_flatten,List.mem_map];exact⟨_,⟨f,hf,rfl⟩,hx.mem⟩
 refine⟨sj,fun b mb=>⟨sj.2.1 b mb, ?_,fun hr=>?_⟩, ?_⟩
 ·have:=sj.2.2
  have key : ∀ l:List Ar,b∈l→b.x.size≤Ar.br l:=fun l=>by
   induction l with
   |nil=>intro m;cases m
   |cons c l ih=>
    intro m
    simp only[Ar.br]
    rcases List.mem_cons.1 m with rfl|m
    ·omega
    ·have:=ih m;omega
  have:=key _ mb
  omega
 ·refine GY hv ?_
  rw[hn]
  exact z8 hR hx (va (.inr ⟨b,mb,hr,rfl⟩))
 ·have jr:=hR.fits _ qb (by simp [hk])
  obtain⟨q,hq⟩:=HW jr
  obtain⟨j,h1,h2⟩:=Jr (k:=0) hq
  exact⟨j,q,by simpa[Pg.at]using h1,h2,by rw[Ah hq];exact hq⟩
theorem Ry (hO:p.iX) (hR:p.Right) (h:pA p p.bh.L a m) (hl:m.st.length≤1000) {fr:Fr} {r:List Fr} (ht:mN m fr r) :
 fr.call=0∨∃ (c:Nat) (it:Im) (uN:Fr) (r2:List Fr),fr.call=(c:Int)+1∧p.bh.L[c]? = some it∧mN {m with st:=r} uN r2∧(it.s.name≠ []→∃ k,wh uN it.s.name k):=by
 have hs:=h.st
 have jR:=ht.st
 rw[jR]at hs
 cases r with
 |nil=>exact .inl hs
 | cons uN r2=>
  obtain⟨⟨h1,HS⟩,h2⟩:=hs
  have e1:=h1.1
  have e2:=h1.2.1
  refine .inr ⟨(fr.call - 1).toNat,gf p.bh.L fr.call,uN,r2,by omega, ?_, ?_,fun hn=>?_⟩
  ·unfold gf
   rw[List.getD_eq_getElem?_getD,List.getElem?_eq_getElem (show(fr.call - 1).toNat<p.bh.L.length by omega)];rfl
  ·have h3:pA p p.bh.L (-1) {m with st:=uN::r2}:=⟨h2,fun q hq=>h.fr q (by rw [jR];exact List.mem_cons_of_mem _ hq), .inl rfl,h.ux⟩
   obtain⟨NV,r',f',t,_⟩:=LW hO h3 (by rw[jR]at hl;simp at hl ⊢;omega)
   have:=t.st
   cases this
   exact t
  ·obtain⟨f,g1,g2,g3,g4,g5⟩:=h.fr uN (by rw [jR];simp)
   have iM:gf p.bh.L fr.call∈p.bh.L:=z7 (.inr ⟨e1,e2⟩) (by omega)
   obtain⟨f',o⟩:=(q7 hR).im _ iM
   have:f'=f:=by have:=o.proc.1;rw[h1.2.2,g1]at this;exact(Option.some.inj this).symm
   subst this
   refine GY g4 ?_
   rw[g3]
   exact z8 hR o (H0 (by omega) hn)
end
end Go.Abs
namespace Go.Abs
structure xU (m:Mc):Prop where
 steps:0≤m.steps
 trace:(m.trace.length:Int)≤m.steps
 out:(m.out.length:Int)≤m.steps
 reads:0≤m.reads∧m.reads≤m.steps
 st:m.st.length≤101
structure Cg (m m':Mc):Prop where
 trace:m'.trace.length≤m.trace.length+1
 out:m'.out.length≤m.out.length+1
 reads:m'.reads=m.reads∨m'.reads=m.reads+1
 steps:m'.steps=m.steps
theorem UJ (W:List Int) (m:Mc) (id:Int) (dg:List Int):(m.event W id dg).trace.length≤m.trace.length+1:=by
 unfold Mc.event
 split<;>simp
theorem me (W:List Int) (m:Mc) (id:Int) (dg:List Int):Cg m (m.event W id dg):=by
 have h:=fG W m id dg
 exact⟨UJ W m id dg,by rw[h.2.2.2.2.2];omega, .inl h.2.2.2.2.1,h.2.2.2.1⟩
theorem FK (m:Mc) (x:Ex):Cg m (m.bW x).2:=by
 have h:=jN m x
 exact⟨by rw[h.2.2.2.2.2];omega,by rw[h.2.2.2.2.1];omega, .inl h.2.2.2.1,h.2.2.1⟩
theorem H2 (p:Pg) (m:Mc) (i:Int) (l:List Nat) (c:Int):(m.open p i l c).2.trace=m.trace∧(m.open p i l c).2.out=m.out∧(m.open p i l c).2.reads=m.reads∧(m.open p i l c).2.steps=m.steps:=by
 unfold Mc.open
 split<;>exact⟨rfl,rfl,rfl,rfl⟩
theorem Ch : ∀ (l:List Ar) (m:Mc) (out:List Nat),(Mc.args l m out).2.reads=m.reads∧(Mc.args l m out).2.steps=m.steps
 | [],m,out=>⟨rfl,rfl⟩
 | a::l,m,out=>by
  have hw:=jN m a.x
  simp only[Mc.args]
  by_cases c:a.ref=true
  ·rw[if_pos c];exact Ch l m _
  ·rw [if_neg c]
   by_cases c2:(m.bW a.x).1.2=true
   ·rw [if_pos c2]
    obtain⟨h1,h2⟩:=Ch l {(m.bW a.x).2 with mem:=(m.bW a.x).2.mem++ [(m.bW a.x).1.1]} (out++ [(m.bW a.x).2.mem.length])
    exact⟨h1.trans hw.2.2.2.1,h2.trans hw.2.2.1⟩
   ·rw[if_neg c2];exact⟨hw.2.2.2.1,hw.2.2.1⟩
theorem UK (p:Pg) (W:List Int) (m:Mc) (v:Sm):Cg m (m.call p W v).2∧((m.call p W v).2.st.length≤m.st.length∨(m.call p W v).2.st.length≤101):=by
 have h1:=Em v.args m []
 have h2:=Ch v.args m []
 have h3:=(y0 v.args m []).1
 unfold Mc.call
 generalize Mc.args v.args m [] = r at *
 obtain⟨o,m1⟩:=r
 dsimp only at h1 h2 h3
 cases o with
 |none=>exact⟨⟨by simp[h1.2],by simp[h1.1], .inl h2.1,h2.2⟩, .inl (by simp[h3])⟩
 | some l=>
  dsimp only
  by_cases c:m1.st.length > 100
  ·rw[if_pos c];exact⟨⟨by simp[h1.2],by simp[h1.1], .inl h2.1,h2.2⟩, .inl (by simp[h3])⟩
  ·rw [if_neg c]
   have e1:=me W m1 v.id []
   have e2:=H2 p (m1.event W v.id []) (p.at v.proc) l v.id
   have e3:=(CM p (m1.event W v.id []) (p.at v.proc) l v.id).1
   have e4:=(fG W m1 v.id []).1
   refine⟨⟨by rw[e2.1, ← h1.2];exact e1.trace,by rw[e2.2.1, ← h1.1];exact e1.out, ?_,by rw[e2.2.2.2,e1.steps,h2.2]⟩, .inr (by rw[e4]at e3;omega)⟩
   rw[e2.2.2.1, ← h2.1];exact e1.reads
theorem Rz (W:List Int) (m:Mc) (v:Sm):Cg m (m.jn W v).2:=by
 have hw:=jN m v.x
 unfold Mc.jn
 split
 ·dsimp only
  split
  ·have e:=me W (m.bW v.x).2 v.id [(m.bW v.x).1.1]
   exact⟨by rw[← hw.2.2.2.2.2];exact e.trace,by rw[← hw.2.2.2.2.1];exact e.out,by rw[← hw.2.2.2.1];exact e.reads,e.steps.trans hw.2.2.1⟩
  ·exact FK m v.x
 ·exact me W m v.id []
theorem abV (p:Pg) (L:List Im) (T W:List Int) (m:Mc) (it:Im):Cg m (m.do p L T W it).2:=by
 have hw:=jN m it.s.x
 unfold Mc.do
 dsimp only
 split
 ·exact me W m _ _
 split
 ·exact me W m _ _
 split
 ·exact me W m _ _
 split
 ·split
  ·exact⟨by simp,by simp, .inl rfl,rfl⟩
  ·rename_i n _
   have e:=me W (({m with reads:=m.reads+1} : Mc).set it.s.name n) it.s.id [n]
   have e2:=(fG W (({m with reads:=m.reads+1} : Mc).set it.s.name n) it.s.id [n])
   exact⟨e.trace,e.out, .inr e2.2.2.2.2.1,e2.2.2.2.1⟩
 split
 ·have e:=me W (m.bW it.s.x).2 it.s.id [(m.bW it.s.x).1.1]
  have e2:=fG W (m.bW it.s.x).2 it.s.id [(m.bW it.s.x).1.1]
  have k:Cg m ((m.bW it.s.x).2.event W it.s.id [(m.bW it.s.x).1.1]):=⟨by rw[← hw.2.2.2.2.2];exact e.trace,by rw[← hw.2.2.2.2.1];exact e.out,by rw[← hw.2.2.2.1];exact e.reads,e.steps.trans hw.2.2.1⟩
  split
  ·exact⟨k.trace,k.out,k.reads,k.steps⟩
  split
  ·exact⟨k.trace,by simp[e2.2.2.2.2.2,hw.2.2.2.2.1],k.reads,k.steps⟩
  split
  ·exact k
  split
  ·exact k
  ·exact k
 ·exact FK m it.s.x
theorem FL (L:List Im) (m:Mc) (g:Int):(m.close L g).2.trace=m.trace∧(m.close L g).2.out=m.out∧(m.close L g).2.reads=m.reads∧(m.close L g).2.steps=m.steps∧(m.close L g).2.st=m.st.tail:=by
 unfold Mc.close
 dsimp only
 split
 ·exact⟨rfl,rfl,rfl,rfl,rfl⟩
 ·split<;>exact⟨rfl,rfl,rfl,rfl,rfl⟩
theorem xU.less {m m1:Mc} (h:xU m) (k:Cg {m with steps:=m.steps+1} m1) (hs:m1.st.length≤101):xU m1:=by
 have h1:=h.steps;have h2:=h.trace;have h3:=h.out;have h4:=h.reads
 have k1:=k.trace;have k2:=k.out;have k3:=k.reads;have k4:=k.steps
 dsimp only at k1 k2 k3 k4
 exact⟨by omega,by omega,by omega,by omega,hs⟩
theorem xU.close {L:List Im} {m:Mc} (h:xU m) (g:Int):xU (m.close L g).2:=by
 obtain⟨h1,h2,h3,h4,h5⟩:=FL L m g
 exact⟨by rw[h4];exact h.steps,by rw[h1,h4];exact h.trace,by rw[h2,h4];exact h.out,by rw[h3,h4];exact h.reads,by rw[h5];have:=h.st;simp;omega⟩
theorem xU.run {p:Pg} {T W:List Int} {m:Mc} (h:xU m) (hs:m.steps≤1000000) (hO:p.iX) (hW:W.length<1000000) (hT:T.length<1000000):Js p T W m:=by
 obtain⟨sh,r7,rZ⟩:=hO.procs
 have:=pw p
 have h2:=h.trace;have h3:=h.out;have h4:=h.reads
 exact⟨hW,hT,by omega,by omega,by omega,by omega,by omega⟩
end Go.Abs
