/-
  What is proved here: part 4 of the road to the claim (Prs4, Prs5, Prs6, Lex3, MirParse, Prs7, Room1, Al4, Full1, Fits1, MirEq, RefEq, RefEq2, LawTo1, LawAl2, SwP, Ck1, MirRun, HandP, CkT, SelA, Lend, Sym, WpA, RunTot, RunFu, RunOk, MirMapS, RightP, RunLo, RunNm, RunMc, RunI, Ev1, Ev2, Cp1, RunC0, RunC1, RunC2, RunC3, RunC4, RunC5, RunC6, RunC7, RunSt, RunSz).
  No conditions.
-/
import Derived.Test.YtpjadlleefgcpabGreatRnO3
import Derived.KernelRfl

set_option linter.unusedSimpArgs false
set_option linter.unusedVariables false
namespace Go.Abs
set_option maxRecDepth 8000
open Go.Proofs
theorem Xs {r:Rd} {b:Bool} (h:r.Ky=some b) {s:St} {o:Nat} (ho:s.ah[o]? = some (cL r)) :
 az Tryz.prog nw [.ptr o 0] s (.bool b) ⟨s.ah.set o (cL r),s.aw⟩:=by
 refine az.kR ?_ rfl (fM r) (fM r) rfl ho
 unfold Rd.Ky at h
 refine az.go wx rfl fun B Q hB hQ=>?_
 have⟨hC,hE,hM,hY⟩:=bE
 repeat' (first
 |simp only[go_sem,hC,hE,hM,hY]
 |(rw[Option.bind_eq_some_iff]at h;obtain⟨_,h1,h⟩:=h;first|(with_reducible refine CU (pz h1 (by with_unfolding_all rfl)) ?_))
 |(with_reducible first|refine aX fun hc=>?_|refine aY fun hc=>?_|refine aZ (fun hc=>?_) fun hc=>?_)<;>(try simp only[hc,bs,↓reduceIte]at h)<;>try simp only[hc]
 |(with_reducible refine aB hQ ?_;exact eA))
theorem afd {m:Nat} {name proc:aF} {r:Rd} {p:Sm×Rd} (h:Rd.call m name proc r=some p) {s:St} {o:Nat} (ho:s.ah[o]? = some (cL r)) :
 az Tryz.prog lO [.ptr o 0, .str name, .str proc] s (.agg (bb p.1)) ⟨s.ah.set o (cL p.2),s.aw⟩:=by
 refine az.kR ?_ rfl (fM r) (fM p.2) (by simp[D.ok,nj]) ho
 unfold Rd.call Rd.other at h
 refine az.go yE rfl fun B Q hB hQ=>?_
 have⟨hC,hE,hM,hY⟩:=bE
 repeat' (first
 |simp only[go_sem,hC,hE,hM,hY]
 |(rw[Option.bind_eq_some_iff]at h;obtain⟨_,h1,h⟩:=h;first|(with_reducible refine CU (qp h1 (by with_unfolding_all rfl)) ?_)|(with_reducible refine CU (BL h1 (by with_unfolding_all rfl)) ?_))
 |(with_reducible refine CU (kY (by with_unfolding_all rfl)) ?_)
 |(with_reducible first|refine aX fun hc=>?_|refine aY fun hc=>?_|refine aZ (fun hc=>?_) fun hc=>?_)<;>(try simp only[hc,bs,↓reduceIte]at h)<;>try simp only[hc]
 |(with_reducible refine aB hQ ?_;exact eA)
 |(cases h;replace h:=hr;clear hr;(try simp only[bs,↓reduceIte]at h))
 |(cases h;done))
 rw[Option.bind_eq_some_iff]at h
 obtain⟨q,h,hr⟩:=h
 refine bg.qM 2 10 6 rfl rfl ?_
 simp only[go_sem,hC,hE,hM,hY]
 refine dS 3 1 (bg.ind (ι:=Nat×List Ar×Rd×Nat) (fun i=>Rd.Cu m i.1 i.2.1 i.2.2.1=some q∧i.2.2.2=i.2.1.length) (fun i=>i.1)
  (fun i=> [(0, .ptr 0 0),(6, .ptr 1 0),(7, .ptr 2 0)]) (fun i=>⟨[cL i.2.2.1,bb Hw,[.int .i64 0, .int .i64 4, .slice .shared 1 [], .str name, .str proc, .int .i64 0, .int .i64 0, .str [], .slice .shared 4 [], .bool false, .slice (.tok 0) 6 (i.2.1.map eG), .slice .shared 13 [], .slice .shared 13 []]],[some i.2.2.2]⟩) ?_ (m,[],_,0) ⟨h,rfl⟩)
 rintro⟨n,l,r,k⟩ ⟨h,hk⟩ IH
 dsimp only at hk;subst hk
 cases n with
 |zero=>simp only[Rd.Cu]at h;cases h
 |succ n=>
  simp only[Rd.Cu]at h
  repeat' (first
 |simp only[go_sem,hC,hE,hM,hY]
 |(rw[Option.bind_eq_some_iff]at h;obtain⟨_,h1,h⟩:=h;first|(with_reducible refine CU (tH h1 (by with_unfolding_all rfl)) ?_)|(obtain⟨hM,pR⟩:=pg h1;subst pR;simp only[go_sem,hC,hE,hM,hY])|(with_reducible refine CU (yM h1 (by with_unfolding_all rfl)) ?_)|(with_reducible refine CU (Cy h1 (by with_unfolding_all rfl)) ?_)|(with_reducible refine CU (qp h1 (by with_unfolding_all rfl)) ?_))
 |(with_reducible refine CU (kY (by with_unfolding_all rfl)) ?_)
 |(with_reducible first|refine aX fun hc=>?_|refine aY fun hc=>?_|refine aZ (fun hc=>?_) fun hc=>?_)<;>(try simp only[hc,bs,↓reduceIte]at h)<;>try simp only[hc]
 |(with_reducible refine aB hQ ?_;exact eA)
 |(cases h;replace h:=hr;clear hr;(try simp only[bs,↓reduceIte]at h))
 |(cases h;done))
  ·refine dS 3 1 (IH (n,_,_,l.length+1) ⟨h,by simp⟩ (Nat.lt_succ_self _))
  ·refine dS 3 1 (IH (n,_,_,l.length+1) ⟨h,by simp⟩ (Nat.lt_succ_self _))
theorem Xt {m:Nat} {r:Rd} {p:Sm×Rd} (h:Rd.named m r=some p) {s:St} {o:Nat} (ho:s.ah[o]? = some (cL r)) :
 az Tryz.prog nZ [.ptr o 0] s (.agg (bb p.1)) ⟨s.ah.set o (cL p.2),s.aw⟩:=by
 refine az.kR ?_ rfl (fM r) (fM p.2) (by simp[D.ok,nj]) ho
 unfold Rd.named Rd.ahead at h
 refine az.go xI rfl fun B Q hB hQ=>?_
 have⟨hC,hE,hM,hY⟩:=bE
 repeat' (first
 |simp only[go_sem,hC,hE,hM,hY]
 |(rw[Option.bind_eq_some_iff]at h;obtain⟨_,h1,h⟩:=h;first|(with_reducible refine CU (yM h1 (by with_unfolding_all rfl)) ?_)|(with_reducible refine CU (qp h1 (by with_unfolding_all rfl)) ?_)|(with_reducible refine CU (BL h1 (by with_unfolding_all rfl)) ?_)|(with_reducible refine CU (pz h1 (by with_unfolding_all rfl)) ?_;have hC:=sD h1)|(obtain⟨Q8,hE⟩:=Bu h1;simp only[go_sem,hE,hC,hE,hM,hY])|(with_reducible refine CU (Cy h1 (by with_unfolding_all rfl)) ?_))
 |(with_reducible refine CU (kY (by with_unfolding_all rfl)) ?_)
 |(with_reducible refine CU (afd h (by with_unfolding_all rfl)) ?_)
 |(with_reducible first|refine aX fun hc=>?_|refine aY fun hc=>?_|refine aZ (fun hc=>?_) fun hc=>?_)<;>(try simp only[hc,bs,↓reduceIte]at h)<;>try simp only[hc]
 |(with_reducible refine aB hQ ?_;exact eA))
theorem abr {m:Nat} {word:aF} {r:Rd} {p:Sm×Rd} (h:Rd.plain m word r=some p) {s:St} {o:Nat} (ho:s.ah[o]? = some (cL r)) :
 az Tryz.prog n6 [.ptr o 0, .str word] s (.agg (bb p.1)) ⟨s.ah.set o (cL p.2),s.aw⟩:=by
 refine az.kR ?_ rfl (fM r) (fM p.2) (by simp[D.ok,nj]) ho
 unfold Rd.plain at h
 refine az.go xK rfl fun B Q hB hQ=>?_
 have⟨hC,hE,hM,hY⟩:=bE
 repeat' (first
 |simp only[go_sem,hC,hE,hM,hY]
 |(rw[Option.bind_eq_some_iff]at h;obtain⟨_,h1,h⟩:=h;first|(with_reducible refine CU (yM h1 (by with_unfolding_all rfl)) ?_)|(with_reducible refine CU (BL h1 (by with_unfolding_all rfl)) ?_)|(with_reducible refine CU (Cy h1 (by with_unfolding_all rfl)) ?_))
 |(with_reducible first|refine aX fun hc=>?_|refine aY fun hc=>?_|refine aZ (fun hc=>?_) fun hc=>?_)<;>(try simp only[hc,bs,↓reduceIte]at h)<;>try simp only[hc]
 |(with_reducible refine aB hQ ?_;exact eA))
theorem Ui {m:Nat} {r:Rd} {p:Ex×Rd} (h:Rd.head m r=some p) {s:St} {o:Nat} (ho:s.ah[o]? = some (cL r)) :
 az Tryz.prog lN [.ptr o 0] s (.agg (bJ p.1)) ⟨s.ah.set o (cL p.2),s.aw⟩:=by
 refine az.kR ?_ rfl (fM r) (fM p.2) (by simp[D.ok,gW]) ho
 unfold Rd.head at h
 refine az.go yD rfl fun B Q hB hQ=>?_
 have⟨hC,hE,hM,hY⟩:=bE
 repeat' (first
 |simp only[go_sem,hC,hE,hM,hY]
 |(rw[Option.bind_eq_some_iff]at h;obtain⟨_,h1,h⟩:=h;first|(with_reducible refine CU (qp h1 (by with_unfolding_all rfl)) ?_)|(with_reducible refine CU (Cy h1 (by with_unfolding_all rfl)) ?_))
 |(with_reducible first|refine aX fun hc=>?_|refine aY fun hc=>?_|refine aZ (fun hc=>?_) fun hc=>?_)<;>(try simp only[hc,bs,↓reduceIte]at h)<;>try simp only[hc]
 |(with_reducible refine aB hQ ?_;exact eA))
set_option maxRecDepth 8000
open Go.Proofs
abbrev Lz (m n:Nat):Prop:=∀ {nest:Int} {body:Bool} {r:Rd} {p:(List Sm×List aF)×Rd},Rd.rows m n nest body r=some p→∀ {s:St} {o:Nat},s.ah[o]? = some (cL r)→
 az Tryz.prog gK [.ptr o 0, .int .i64 nest, .bool body] s (.tuple [.slice .shared 13 (p.1.1.map bb), .slice .shared 1 (p.1.2.map encStr)]) ⟨s.ah.set o (cL p.2),s.aw⟩
abbrev B8 (m n:Nat):Prop:=∀ {nest:Int} {r:Rd} {p:Sm×Rd},Rd.stmt m n nest r=some p→∀ {s:St} {o:Nat},s.ah[o]? = some (cL r)→
 az Tryz.prog oK [.ptr o 0, .int .i64 nest] s (.agg (bb p.1)) ⟨s.ah.set o (cL p.2),s.aw⟩
abbrev CJ (m n:Nat):Prop:=∀ {nest:Int} {r:Rd} {p:List Sm×Rd},Rd.block m n nest r=some p→∀ {s:St} {o:Nat},s.ah[o]? = some (cL r)→
 az Tryz.prog jI [.ptr o 0, .int .i64 nest] s (.slice .shared 13 (p.1.map bb)) ⟨s.ah.set o (cL p.2),s.aw⟩
abbrev Eb (m n:Nat):Prop:=∀ {nest:Int} {r:Rd} {p:Sm×Rd},Rd.choice m n nest r=some p→∀ {s:St} {o:Nat},s.ah[o]? = some (cL r)→
 az Tryz.prog ny [.ptr o 0, .int .i64 nest] s (.agg (bb p.1)) ⟨s.ah.set o (cL p.2),s.aw⟩
theorem MT {m n:Nat} (G0:CJ m n):Eb m (n+1):=by
 intro nest r p h s o ho
 refine az.kR ?_ rfl (fM r) (fM p.2) (by simp[D.ok,nj]) ho
 unfold Rd.choice at h
 refine az.go wy rfl fun B Q hB hQ=>?_
 have⟨hC,hE,hM,hY⟩:=bE
 repeat' (first
 |simp only[go_sem,hC,hE,hM,hY]
 |(rw[Option.bind_eq_some_iff]at h;obtain⟨_,h1,h⟩:=h;first|(with_reducible refine CU (Ui h1 (by with_unfolding_all rfl)) ?_)|(with_reducible refine CU (G0 h1 (by with_unfolding_all rfl)) ?_)|(with_reducible refine CU (tH h1 (by with_unfolding_all rfl)) ?_))
 |(with_reducible first|refine aX fun hc=>?_|refine aY fun hc=>?_|refine aZ (fun hc=>?_) fun hc=>?_)<;>(try simp only[hc,bs,↓reduceIte]at h)<;>try simp only[hc]
 |(with_reducible refine aB hQ ?_;exact eA))
theorem Ra {m n:Nat} (LA:Lz m n):CJ m (n+1):=by
 intro nest r p h s o ho
 refine az.kR ?_ rfl (fM r) (fM p.2) (by simp[D.ok,oQ,Tag.ok]) ho
 unfold Rd.block at h
 refine az.go xJ rfl fun B Q hB hQ=>?_
 have⟨hC,hE,hM,hY⟩:=bE
 repeat' (first
 |simp only[go_sem,hC,hE,hM,hY]
 |(rw[Option.bind_eq_some_iff]at h;obtain⟨_,h1,h⟩:=h;first|(with_reducible refine CU (qp h1 (by with_unfolding_all rfl)) ?_)|(obtain⟨hY,hik⟩:=Tj h1;subst hik;simp only[go_sem,hY,hC,hE,hM,hY])|(with_reducible refine CU (LA h1 (by with_unfolding_all rfl)) ?_))
 |(with_reducible first|refine aX fun hc=>?_|refine aY fun hc=>?_|refine aZ (fun hc=>?_) fun hc=>?_)<;>(try simp only[hc,bs,↓reduceIte]at h)<;>try simp only[hc]
 |(with_reducible refine aB hQ ?_;exact eA))
theorem Uj {m n:Nat} (G0:CJ m n) (Xu:Eb m n):B8 m (n+1):=by
 intro nest r p h s o ho
 refine az.kR ?_ rfl (fM r) (fM p.2) (by simp[D.ok,nj]) ho
 unfold Rd.stmt at h
 refine az.go yC rfl fun B Q hB hQ=>?_
 have⟨hC,hE,hM,hY⟩:=bE
 repeat' (first
 |simp only[go_sem,hC,hE,hM,hY]
 |(rw[Option.bind_eq_some_iff]at h;obtain⟨_,h1,h⟩:=h;first|(with_reducible refine CU (Xs h1 (by with_unfolding_all rfl)) ?_)|(obtain⟨hY,hik⟩:=Wu h1;subst hik;simp only[go_sem,hY,hC,hE,hM,hY])|(with_reducible refine CU (pz h1 (by with_unfolding_all rfl)) ?_;have hC:=sD h1)|(with_reducible refine CU (Ui h1 (by with_unfolding_all rfl)) ?_)|(with_reducible refine CU (G0 h1 (by with_unfolding_all rfl)) ?_)|(with_reducible refine CU (abr h1 (by with_unfolding_all rfl)) ?_)|(with_reducible refine CU (qp h1 (by with_unfolding_all rfl)) ?_)|(with_reducible refine CU (Fi h1 (by with_unfolding_all rfl)) ?_))
 |(with_reducible refine CU (Xu h (by with_unfolding_all rfl)) ?_)
 |(with_reducible refine CU (Xt h (by with_unfolding_all rfl)) ?_)
 |(with_reducible first|refine aX fun hc=>?_|refine aY fun hc=>?_|refine aZ (fun hc=>?_) fun hc=>?_)<;>(try simp only[hc,bs,↓reduceIte]at h)<;>try simp only[hc]
 |(with_reducible refine aB hQ ?_;exact eA))
theorem Uk {m n:Nat} (yW : ∀ j<n,B8 m j) {nest:Int} {r:Rd} {p:(List Sm×List aF)×Rd} (h:Rd.rows m (n+1) nest true r=some p) :
 az Tryz.prog gK [.ptr 0 0, .int .i64 nest, .bool true] ⟨[cL r],[]⟩ (.tuple [.slice .shared 13 (p.1.1.map bb), .slice .shared 1 (p.1.2.map encStr)]) ⟨[cL p.2],[]⟩:=by
 unfold Rd.rows at h
 refine az.go q6 rfl fun B Q hB hQ=>?_
 have⟨hC,hE,hM,hY⟩:=bE
 repeat' (first
 |simp only[go_sem,hC,hE,hM,hY]
 |(with_reducible first|refine aX fun hc=>?_|refine aY fun hc=>?_|refine aZ (fun hc=>?_) fun hc=>?_)<;>(try simp only[hc,bs,↓reduceIte]at h)<;>try simp only[hc]
 |(with_reducible refine aB hQ ?_;exact bj))
 refine bg.p8 8 13 rfl ?_
 simp only[go_sem,hC,hE,hM,hY]
 refine dS 1 1 (bg.ind (ι:=Nat×List Sm×Rd×Nat) (fun i=>Rd.wM m i.1 nest true i.2.1 i.2.2.1=some p∧i.2.2.2=i.2.1.length∧i.1≤n) (fun i=>i.1)
  (fun i=> [(0, .ptr 0 0),(1, .int .i64 nest),(2, .bool true),(8, .slice (.tok 0) 13 (i.2.1.map bb))]) (fun i=>⟨[cL i.2.2.1],[some i.2.2.2]⟩) ?_ (n,[],r,0) ⟨h,rfl,Nat.le_refl _⟩)
 rintro⟨j,l,r,k⟩ ⟨h,hk,hj⟩ IH
 dsimp only at hk hj;subst hk
 cases j with
 |zero=>simp only[Rd.wM]at h;cases h
 |succ j=>
  have LB:=@yW j (by omega)
  simp only[Rd.wM]at h
  repeat' (first
 |simp only[go_sem,hC,hE,hM,hY,dT]
 |(rw[Option.bind_eq_some_iff]at h;obtain⟨_,h1,h⟩:=h;first|(with_reducible refine CU (Ly h1 (by with_unfolding_all rfl)) ?_)|(with_reducible refine CU (BL h1 (by with_unfolding_all rfl)) ?_;have hC:=is_lt h1)|(obtain⟨hM,pR⟩:=pg h1;subst pR;simp only[go_sem,hC,hE,hM,hY])|(with_reducible refine CU (LB h1 (by with_unfolding_all rfl)) ?_))
 |(with_reducible refine CU (kY (by with_unfolding_all rfl)) ?_)
 |(with_reducible first|refine aX fun hc=>?_|refine aY fun hc=>?_|refine aZ (fun hc=>?_) fun hc=>?_)<;>(try simp only[hc,bs,↓reduceIte]at h)<;>try simp only[hc]
 | (with_reducible refine aB hQ ?_;(try cases h);simp only [aR,aS,bo,bp,go_sem,hC,hE,hM,hY,dT];try exact bS))
  ·refine eV 1 1 ?_ ?_ (IH (j,_,_,l.length+1) ⟨h,by simp,by dsimp only;omega⟩ (Nat.lt_succ_self _))
   ·(simp only[go_sem,hC,hE,hM,hY,dT];try exact cu)
   ·(simp only[go_sem,hC,hE,hM,hY,dT];try exact cu)
theorem Rb {m n:Nat} (yW : ∀ j<n,B8 m j) {nest:Int} {r:Rd} {p:(List Sm×List aF)×Rd} (h:Rd.rows m (n+1) nest false r=some p) :
 az Tryz.prog gK [.ptr 0 0, .int .i64 nest, .bool false] ⟨[cL r],[]⟩ (.tuple [.slice .shared 13 (p.1.1.map bb), .slice .shared 1 (p.1.2.map encStr)]) ⟨[cL p.2],[]⟩:=by
 unfold Rd.rows at h
 refine az.go q6 rfl fun B Q hB hQ=>?_
 have⟨hC,hE,hM,hY⟩:=bE
 repeat' (first
 |simp only[go_sem,hC,hE,hM,hY]
 |(with_reducible first|refine aX fun hc=>?_|refine aY fun hc=>?_|refine aZ (fun hc=>?_) fun hc=>?_)<;>(try simp only[hc,bs,↓reduceIte]at h)<;>try simp only[hc]
 |(with_reducible refine aB hQ ?_;exact bj))
 refine bg.p8 8 13 rfl ?_
 simp only[go_sem,hC,hE,hM,hY]
 refine dS 1 1 (bg.ind (ι:=Nat×List Sm×Rd×Nat) (fun i=>Rd.wM m i.1 nest false i.2.1 i.2.2.1=some p∧i.2.2.2=i.2.1.length∧i.1≤n) (fun i=>i.1)
  (fun i=> [(0, .ptr 0 0),(1, .int .i64 nest),(2, .bool false),(8, .slice (.tok 0) 13 (i.2.1.map bb))]) (fun i=>⟨[cL i.2.2.1],[some i.2.2.2]⟩) ?_ (n,[],r,0) ⟨h,rfl,Nat.le_refl _⟩)
 rintro⟨j,l,r,k⟩ ⟨h,hk,hj⟩ IH
 dsimp only at hk hj;subst hk
 cases j with
 |zero=>simp only[Rd.wM]at h;cases h
 |succ j=>
  have LB:=@yW j (by omega)
  simp only[Rd.wM]at h
  repeat' (first
 |simp only[go_sem,hC,hE,hM,hY,dT]
 |(rw[Option.bind_eq_some_iff]at h;obtain⟨_,h1,h⟩:=h;first|(with_reducible refine CU (Ly h1 (by with_unfolding_all rfl)) ?_)|(with_reducible refine CU (BL h1 (by with_unfolding_all rfl)) ?_;have hC:=is_lt h1)|(obtain⟨hM,pR⟩:=pg h1;subst pR;simp only[go_sem,hC,hE,hM,hY])|(with_reducible refine CU (LB h1 (by with_unfolding_all rfl)) ?_))
 |(with_reducible refine CU (kY (by with_unfolding_all rfl)) ?_)
 |(with_reducible first|refine aX fun hc=>?_|refine aY fun hc=>?_|refine aZ (fun hc=>?_) fun hc=>?_)<;>(try simp only[hc,bs,↓reduceIte]at h)<;>try simp only[hc]
 | (with_reducible refine aB hQ ?_;(try cases h);simp only [aR,aS,bo,bp,go_sem,hC,hE,hM,hY,dT];try exact bS))
  ·refine eV 1 1 ?_ ?_ (IH (j,_,_,l.length+1) ⟨h,by simp,by dsimp only;omega⟩ (Nat.lt_succ_self _))
   ·(simp only[go_sem,hC,hE,hM,hY,dT];try exact cu)
   ·(simp only[go_sem,hC,hE,hM,hY,dT];try exact cu)
  ·refine eV 1 1 ?_ ?_ (IH (j,_,_,l.length+1) ⟨h,by simp,by dsimp only;omega⟩ (Nat.lt_succ_self _))
   ·(simp only[go_sem,hC,hE,hM,hY,dT];try exact cu)
   ·(simp only[go_sem,hC,hE,hM,hY,dT];try exact cu)
theorem Ul {m n:Nat} (yW : ∀ j<n,B8 m j):Lz m (n+1):=by
 intro nest body r p h s o ho
 refine az.kR ?_ rfl (fM r) (fM p.2) (by simp[D.ok,D.bI,oQ,eF,Tag.ok]) ho
 cases body
 ·exact Rb yW h
 ·exact Uk yW h
theorem aff (m:Nat) : ∀ n,∀ k<n,Lz m k∧B8 m k∧CJ m k∧Eb m k:=by
 intro n
 induction n with
 |zero=>intro k h;exact absurd h (Nat.not_lt_zero _)
 | succ n ih=>
  intro k hk
  cases k with
  |zero=>
   refine⟨?_, ?_, ?_, ?_⟩
   ·intro nest body r p h;simp only[Rd.rows]at h;cases h
   ·intro nest r p h;simp only[Rd.stmt]at h;cases h
   ·intro nest r p h;simp only[Rd.block]at h;cases h
   ·intro nest r p h;simp only[Rd.choice]at h;cases h
  |succ k=>
   obtain⟨h1,h2,h3,h4⟩:=ih k (by omega)
   exact⟨Ul fun j hj=>(ih j (by omega)).2.1,Uj h3 h4,Ra h1,MT h3⟩
theorem LA {m n:Nat} {nest:Int} {body:Bool} {r:Rd} {p:(List Sm×List aF)×Rd} (h:Rd.rows m n nest body r=some p) {s:St} {o:Nat} (ho:s.ah[o]? = some (cL r)) :
 az Tryz.prog gK [.ptr o 0, .int .i64 nest, .bool body] s (.tuple [.slice .shared 13 (p.1.1.map bb), .slice .shared 1 (p.1.2.map encStr)]) ⟨s.ah.set o (cL p.2),s.aw⟩:=
 (aff m (n+1) n (Nat.lt_succ_self _)).1 h ho
set_option maxRecDepth 8000
open Go.Proofs
theorem xh {m:Nat} {B:fa} {Q:Exit→Tm→St→Prop} {row:List D} {name:aF} {p:Pc×Rd} (hB:B.s = ⟨[row],[]⟩) (hQ:iC 1 0 [(2,some (true,5))] (.agg (cJ p.1)) ⟨[cL p.2],[]⟩=Q)
 (ps:List Pm) (r:Rd) (h:Rd.IU m name ps r=some p) :
 bg Tryz.prog B 56 ad8 (iH 2 (kO (gF Tryz.prog B 56 ad9 Q) Q)) [(0, .ptr 0 0),(2, .ptr 1 0),(3, .ptr 2 0)]
  ⟨[cL r,[.str [], .slice .full 0 [], .slice .full 0 [], .slice .full 0 [], .slice .full 0 []],[.str name, .slice .shared 2 (ps.map gR), .slice .full 0 [], .slice .full 0 [], .slice .full 0 []]],[]⟩:=by
 have⟨hC,hE,hM,hY⟩:=bE
 unfold Rd.IU at h
 rw[Option.bind_eq_some_iff]at h
 obtain⟨q,h,hr⟩:=h
 refine bg.qM 2 2 1 rfl rfl ?_
 simp only[go_sem,hC,hE,hM,hY]
 refine dS 3 1 (bg.ind (ι:=Nat×List aF×Rd×Nat) (fun i=>Rd.vars m i.1 i.2.1 i.2.2.1=some q∧i.2.2.2=i.2.1.length) (fun i=>i.1)
  (fun i=> [(0, .ptr 0 0),(2, .ptr 1 0),(3, .ptr 2 0)]) (fun i=>⟨[cL i.2.2.1,[.str [], .slice .full 0 [], .slice .full 0 [], .slice .full 0 [], .slice .full 0 []],[.str name, .slice .shared 2 (ps.map gR), .slice (.tok 0) 1 (i.2.1.map encStr), .slice .full 0 [], .slice .full 0 []]],[some i.2.2.2]⟩) ?_ (m,[],r,0) ⟨h,rfl⟩)
 rintro⟨n,l,r,k⟩ ⟨h,hk⟩ IH
 dsimp only at hk;subst hk
 cases n with
 |zero=>simp only[Rd.vars]at h;cases h
 |succ n=>
  simp only[Rd.vars]at h
  repeat' (first
 |simp only[go_sem,hC,hE,hM,hY]
 |(rw[Option.bind_eq_some_iff]at h;obtain⟨_,h1,h⟩:=h;first|(with_reducible refine CU (tH h1 (by with_unfolding_all rfl)) ?_)|(with_reducible refine CU (NF h1 (by with_unfolding_all rfl) (by with_unfolding_all rfl)) ?_)|(with_reducible refine CU (LA h1 (by with_unfolding_all rfl)) ?_))
 |(with_reducible first|refine aX fun hc=>?_|refine aY fun hc=>?_|refine aZ (fun hc=>?_) fun hc=>?_)<;>(try simp only[hc,bs,↓reduceIte]at h)<;>try simp only[hc]
 |(with_reducible refine aB hQ ?_;exact eA)
 |(cases h;replace h:=hr;clear hr;(try simp only[bs,↓reduceIte]at h))
 |(cases h;done))
  refine dS 3 1 (IH (n,_,_,_) ⟨h,rfl⟩ (Nat.lt_succ_self _))
theorem afg {m:Nat} {r:Rd} {p:Pc×Rd} (h:Rd.proc m r=some p) {s:St} {o:Nat} (ho:s.ah[o]? = some (cL r)) :
 az Tryz.prog oJ [.ptr o 0] s (.agg (cJ p.1)) ⟨s.ah.set o (cL p.2),s.aw⟩:=by
 refine az.kR ?_ rfl (fM r) (fM p.2) (by simp[D.ok,xw]) ho
 unfold Rd.proc Rd.other at h
 refine az.go yw rfl fun B Q hB hQ=>?_
 have⟨hC,hE,hM,hY⟩:=bE
 repeat' (first
 |simp only[go_sem,hC,hE,hM,hY]
 |(rw[Option.bind_eq_some_iff]at h;obtain⟨_,h1,h⟩:=h;first|(with_reducible refine CU (qp h1 (by with_unfolding_all rfl)) ?_)|(with_reducible refine CU (BL h1 (by with_unfolding_all rfl)) ?_)|(with_reducible refine CU (yM h1 (by with_unfolding_all rfl)) ?_))
 |(with_reducible refine CU (kY (by with_unfolding_all rfl)) ?_)
 |(with_reducible first|refine aX fun hc=>?_|refine aY fun hc=>?_|refine aZ (fun hc=>?_) fun hc=>?_)<;>(try simp only[hc,bs,↓reduceIte]at h)<;>try simp only[hc]
 |(with_reducible refine aB hQ ?_;exact bj))
 ·refine dS 3 0 (xh hB hQ [] _ h)
 ·rename_i nm _ _ _ _ _
  rw[Option.bind_eq_some_iff]at h
  obtain⟨q,h,hr⟩:=h
  refine bg.qM 2 1 2 rfl rfl ?_
  simp only[go_sem,hC,hE,hM,hY]
  refine dS 3 1 (bg.ind (ι:=Nat×List Pm×Rd×Nat) (fun i=>Rd.params i.1 i.2.1 i.2.2.1=some q∧i.2.2.2=i.2.1.length) (fun i=>i.1)
   (fun i=> [(0, .ptr 0 0),(2, .ptr 1 0),(3, .ptr 2 0)]) (fun i=>⟨[cL i.2.2.1,[.str [], .slice .full 0 [], .slice .full 0 [], .slice .full 0 [], .slice .full 0 []],[.str nm.1, .slice (.tok 0) 2 (i.2.1.map gR), .slice .full 0 [], .slice .full 0 [], .slice .full 0 []]],[some i.2.2.2]⟩) ?_ (m,[],_,0) ⟨h,rfl⟩)
  rintro⟨n,l,r,k⟩ ⟨h,hk⟩ IH
  dsimp only at hk;subst hk
  cases n with
  |zero=>simp only[Rd.params]at h;cases h
  |succ n=>
   simp only[Rd.params]at h
   repeat' (first
 |simp only[go_sem,hC,hE,hM,hY]
 |(rw[Option.bind_eq_some_iff]at h;obtain⟨_,h1,h⟩:=h;first|(with_reducible refine CU (tH h1 (by with_unfolding_all rfl)) ?_)|(with_reducible refine CU (yM h1 (by with_unfolding_all rfl)) ?_)|(obtain⟨hM,pR⟩:=pg h1;subst pR;simp only[go_sem,hC,hE,hM,hY])|(with_reducible refine CU (qp h1 (by with_unfolding_all rfl)) ?_))
 |(with_reducible refine CU (kY (by with_unfolding_all rfl)) ?_)
 |(with_reducible first|refine aX fun hc=>?_|refine aY fun hc=>?_|refine aZ (fun hc=>?_) fun hc=>?_)<;>(try simp only[hc,bs,↓reduceIte]at h)<;>try simp only[hc]
 |(with_reducible refine aB hQ ?_;exact eA)
 |(cases h;replace h:=hr;clear hr;(try simp only[bs,↓reduceIte]at h))
 | (cases h;done))
   ·refine dS 3 1 (IH (n,_,_,l.length+1) ⟨h,by simp⟩ (Nat.lt_succ_self _))
   ·refine dS 3 0 (xh hB hQ _ _ h)
   ·refine dS 3 0 (xh hB hQ _ _ h)
 ·refine dS 3 0 (xh hB hQ [] _ h)
theorem LC {m:Nat} {B:fa} {Q:Exit→Tm→St→Prop} {row:List D} {g:List aF} {p:Pg×Rd} (hB:B.s = ⟨[row],[]⟩) (hQ:iC 1 0 [(2,some (true,2))] (.agg (cO p.1)) ⟨[cL p.2],[]⟩=Q)
 (r:Rd) {k:Nat} (h:((Rd.procs m k [] r).bind fun q=>some (⟨g,q.1⟩,q.2))=some p) :
 bg Tryz.prog B 49 ad2 (iH 2 (kO (gF Tryz.prog B 49 ad3 Q) Q)) [(0, .ptr 0 0),(2, .ptr 1 0),(3, .ptr 2 0)]
  ⟨[cL r,[.slice .full 0 [], .slice .full 0 []],[.slice .shared 1 (g.map encStr), .slice .full 0 []]],[]⟩:=by
 have⟨hC,hE,hM,hY⟩:=bE
 rw[Option.bind_eq_some_iff]at h
 obtain⟨q,h,hr⟩:=h
 cases hr
 refine bg.qM 2 1 5 rfl rfl ?_
 simp only[go_sem,hC,hE,hM,hY]
 refine dS 3 1 (bg.ind (ι:=Nat×List Pc×Rd×Nat) (fun i=>Rd.procs m i.1 i.2.1 i.2.2.1=some q∧i.2.2.2=i.2.1.length) (fun i=>i.1)
  (fun i=> [(0, .ptr 0 0),(2, .ptr 1 0),(3, .ptr 2 0)]) (fun i=>⟨[cL i.2.2.1,[.slice .full 0 [], .slice .full 0 []],[.slice .shared 1 (g.map encStr), .slice (.tok 0) 5 (i.2.1.map cJ)]],[some i.2.2.2]⟩) ?_ (k,[],r,0) ⟨h,rfl⟩)
 rintro⟨n,l,r,k⟩ ⟨h,hk⟩ IH
 dsimp only at hk;subst hk
 cases n with
 |zero=>simp only[Rd.procs]at h;cases h
 |succ n=>
  simp only[Rd.procs,Rd.Tl,Rd.Kz]at h
  repeat' (first
 |simp only[go_sem,hC,hE,hM,hY]
 |(rw[Option.bind_eq_some_iff]at h;obtain⟨_,h1,h⟩:=h;first|(with_reducible refine CU (BL h1 (by with_unfolding_all rfl)) ?_;have hC:=is_lt h1)|(with_reducible refine CU (Fi h1 (by with_unfolding_all rfl)) ?_)|(with_reducible refine CU (afg h1 (by with_unfolding_all rfl)) ?_)|(obtain⟨hM,pR⟩:=pg h1;subst pR;simp only[go_sem,hC,hE,hM,hY])|(with_reducible refine CU (pz h1 (by with_unfolding_all rfl)) ?_))
 |(with_reducible refine CU (kY (by with_unfolding_all rfl)) ?_)
 |(with_reducible first|refine aX fun hc=>?_|refine aY fun hc=>?_|refine aZ (fun hc=>?_) fun hc=>?_)<;>(try simp only[hc,bs,↓reduceIte]at h)<;>try simp only[hc]
 |(with_reducible refine aB hQ ?_;exact eA))
  ·refine dS 3 1 (IH (n,_,_,l.length+1) ⟨h,by simp⟩ (Nat.lt_succ_self _))
set_option maxRecDepth 8000
open Go.Proofs
theorem Xv {c:UInt8} {r:aF} (h:pX c=true):0<rX (c::r):=by simp[rX,h]
theorem Rc {text:aF} (hl:text.length≤100000) {B:fa} {Q:Exit→Tm→St→Prop} {p:List ga×Int×Int} (hB:B.s=S0)
 (hQ:iC 0 0 [(2,none),(3,some (true,2))] (.tuple [.slice .shared 4 (p.1.map eQ), .agg (qb p.2)]) ⟨[],[]⟩=Q)
 {n pos:Nat} {out:List ga} (ho:out.length≤2000) (hp:pos≤text.length) (IH:s6 text B Q p (n+1))
 {c:UInt8} {r:aF} (h1:text.drop pos=c::r) (hb:AA c=false) (hc:((c.toNat:Int)==35)=false) (hL:rW c=false) (hD:pX c=true) (hn:(c::r).length<n+1) (h:oa (n+1) pos (c::r) out=p) :
 gF Tryz.prog B 152 vQ (kd Tryz.prog B 152 qQ Q) (oV text out pos) (pN out):=by
 have hM:0<1:=Nat.zero_lt_one
 have hY:0<1:=Nat.zero_lt_one
 have hE:=(drop_cons h1).1
 have g4:=(drop_cons h1).2.2.2
 have hC:pos<4611686018427387904:=by omega
 have eL:decide ((pos:Int)≥(text.length:Int))=false:=by simp;omega
 have fP:(out.length+1)*41≤bA:=by simp only[bA];omega
 have cp:=KW (c::r)
 have rn:=Xv (r:=r) hD
 have tI:(c::r).length=text.length - pos:=by rw[← h1,List.length_drop]
 have DS:=KX (c::r)
 simp only[oa,hb,Bool.false_eq_true,↓reduceIte,hc,QO,hL,hD]at h
 simp only[AA,Bool.or_eq_false_iff]at hb
 generalize hK:rX (c::r)=k at h cp rn DS
 have hlen:((c::r).take k).length=k:=by rw[List.length_take];omega
 have qf:=fun s=>WB DS (by rw[hlen];omega) s
 simp only[hlen]at h
 have gh:((c::r).take k)[0]? = some c:=by rw[List.getElem?_take_of_lt rn];rfl
 have e2:(0:Int)≤(pos:Int)∧(pos:Int)≤((pos+k:Nat):Int)∧((pos+k:Nat):Int)≤(text.length:Int):=by omega
 have e3:(text.take (pos+k)).drop pos=(c::r).take k:=by rw[zL,h1]
 have fin:text.drop (pos+k)=(c::r).drop k:=by rw[← h1,List.drop_drop]
 have u3:((c::r).drop k).length<n:=by rw[List.length_drop];omega
 have jY:pos+k≤text.length:=by omega
 repeat' (first
 |simp only[go_sem,hC,hE,hM,hY,eL,hb.1.1.1,hb.1.1.2,hb.1.2,hb.2,hc,hL,hD]
 |(with_reducible refine CU (iL _ _) ?_)
 |(with_reducible refine CU (kr _ _) ?_)
 |(with_reducible refine cv (l:=3) (by with_unfolding_all rfl) ?_)
 |(with_reducible refine aB hQ ?_;exact bj))
 refine dS 2 1 (bg.ind (ι:=aF×Nat) (fun i=>text.drop i.2=i.1∧i.2+rX i.1=pos+k) (fun i=>i.1.length)
  (fun i=>oV text out i.2) (fun i=>⟨[[.int .i64 0, .int .i64 0],[.int .i64 0, .str [], .int .i64 0, .int .i64 (pos:Int)]],[some out.length]⟩) ?_ (c::r,pos) ⟨h1,by dsimp only;omega⟩)
 rintro⟨rest,j⟩ ⟨j1,j2⟩ IHl
 dsimp only at j1 j2
 have step : ∀ d qy,rest=d::qy→pX d=true→gF Tryz.prog B 152 Wy (kO (bg Tryz.prog B 152 Wy
  (iH 3 (kO (gF Tryz.prog B 152 Wz (kd Tryz.prog B 152 qQ Q)) (kd Tryz.prog B 152 qQ Q))))
  (iH 3 (kO (gF Tryz.prog B 152 Wz (kd Tryz.prog B 152 qQ Q)) (kd Tryz.prog B 152 qQ Q))))
  (oV text out j) ⟨[[.int .i64 0, .int .i64 0],[.int .i64 0, .str [], .int .i64 0, .int .i64 (pos:Int)]],[some out.length]⟩:=by
  rintro d qy rfl hd
  obtain⟨hE,g2,eL,g5⟩:=drop_cons j1
  have hC:j<4611686018427387904:=by omega
  simp only[rX,hd,↓reduceIte]at j2
  repeat' (first
 |simp only[go_sem,hC,hE,hM,hY,eL,hd]
 |(with_reducible refine CU (kr _ _) ?_)
 |(with_reducible first|refine aX fun hc=>?_|refine aY fun hc=>?_|refine aZ (fun hc=>?_) fun hc=>?_)<;>(try simp only[hc,bs,↓reduceIte]at h)<;>try simp only[hc]
 |(with_reducible refine aB hQ ?_;(try cases h);simp only[aR,aS,bo,bp,go_sem,hC,hE,hM,hY,eL,hd];try exact bS))
  refine dS 2 1 (IHl (qy,j+1) ⟨g2,by dsimp only;omega⟩ (Nat.lt_succ_self _))
 cases rest with
 | nil=>
  have eL:=drop_nil j1
  simp only[rX,Nat.add_zero]at j2
  subst j2
  by_cases hz:k > 1∧(c.toNat:Int)=48
  ·have z1:decide ((k:Int) > 1)=true:=by simp;omega
   have z2:((c.toNat:Int)==48)=true:=by simp[hz.2]
   rw[if_pos hz]at h
   dsimp only at h
   repeat' (first
 |simp only[go_sem,hC,hE,hM,hY,eL,e2,e3,hlen,gh,z1,z2]
 |(with_reducible refine cv (l:=4) (by with_unfolding_all rfl) ?_)
 |(with_reducible refine cv (l:=5) (by with_unfolding_all rfl) ?_)
 |(with_reducible first|refine aX fun hc=>?_|refine aY fun hc=>?_|refine aZ (fun hc=>?_) fun hc=>?_)<;>(try simp only[hc,bs,↓reduceIte]at h)<;>try simp only[hc]
 | (with_reducible refine aB hQ ?_;(try cases h);simp only [aR,aS,bo,bp,go_sem,hC,hE,hM,hY,eL,e2,e3,hlen,gh,z1,z2];try exact bS))
  ·have FH:decide ((k:Int) > 1)=false∨(decide ((k:Int) > 1)=true∧((c.toNat:Int)==48)=false):=by
    by_cases h1:k > 1
    ·right;exact⟨by simp;omega,by simp;intro h2;exact hz ⟨h1,h2⟩⟩
    ·left;simp;omega
   rw[if_neg hz]at h
   cases hw:bU 0 ((c::r).take k)with
   |none=>
    have LD:pA ((c::r).take k)=(0,false):=by simp only[pA,hw]
    simp only[LD]at qf
    simp only[hw]at h
    rcases FH with z1|⟨z1,z2⟩
    ·repeat' (first
 |simp only[go_sem,hC,hE,hM,hY,eL,e2,e3,hlen,gh,z1]
 |(with_reducible refine CU (qf _) ?_)
 |(with_reducible refine cv (l:=4) (by with_unfolding_all rfl) ?_)
 |(with_reducible refine cv (l:=5) (by with_unfolding_all rfl) ?_)
 |(with_reducible first|refine aX fun hc=>?_|refine aY fun hc=>?_|refine aZ (fun hc=>?_) fun hc=>?_)<;>(try simp only[hc,bs,↓reduceIte]at h)<;>try simp only[hc]
 | (with_reducible refine aB hQ ?_;(try cases h);simp only [aR,aS,bo,bp,go_sem,hC,hE,hM,hY,eL,e2,e3,hlen,gh,z1];try exact bS))
    ·repeat' (first
 |simp only[go_sem,hC,hE,hM,hY,eL,e2,e3,hlen,gh,z1,z2]
 |(with_reducible refine CU (qf _) ?_)
 |(with_reducible refine cv (l:=4) (by with_unfolding_all rfl) ?_)
 |(with_reducible refine cv (l:=5) (by with_unfolding_all rfl) ?_)
 |(with_reducible first|refine aX fun hc=>?_|refine aY fun hc=>?_|refine aZ (fun hc=>?_) fun hc=>?_)<;>(try simp only[hc,bs,↓reduceIte]at h)<;>try simp only[hc]
 | (with_reducible refine aB hQ ?_;(try cases h);simp only [aR,aS,bo,bp,go_sem,hC,hE,hM,hY,eL,e2,e3,hlen,gh,z1,z2];try exact bS))
   | some v=>
    have LD:pA ((c::r).take k)=(v,true):=by simp only[pA,hw]
    simp only[LD]at qf
    simp only[hw,hlen]at h
    by_cases se:out.length=2000
    ·have kN:((out.length:Int)==2000)=true:=by simp [se]
     simp only[se,↓reduceIte]at h
     rcases FH with z1|⟨z1,z2⟩
     ·repeat' (first
 |simp only[go_sem,hC,hE,hM,hY,eL,e2,e3,hlen,gh,z1,kN]
 |(with_reducible refine CU (qf _) ?_)
 |(with_reducible refine cv (l:=4) (by with_unfolding_all rfl) ?_)
 |(with_reducible refine cv (l:=5) (by with_unfolding_all rfl) ?_)
 |(with_reducible first|refine aX fun hc=>?_|refine aY fun hc=>?_|refine aZ (fun hc=>?_) fun hc=>?_)<;>(try simp only[hc,bs,↓reduceIte]at h)<;>try simp only[hc]
 |(with_reducible refine aB hQ ?_;(try cases h);simp only[aR,aS,bo,bp,go_sem,hC,hE,hM,hY,eL,e2,e3,hlen,gh,z1,kN];try exact bS))
     ·repeat' (first
 |simp only[go_sem,hC,hE,hM,hY,eL,e2,e3,hlen,gh,z1,z2,kN]
 |(with_reducible refine CU (qf _) ?_)
 |(with_reducible refine cv (l:=4) (by with_unfolding_all rfl) ?_)
 |(with_reducible refine cv (l:=5) (by with_unfolding_all rfl) ?_)
 |(with_reducible first|refine aX fun hc=>?_|refine aY fun hc=>?_|refine aZ (fun hc=>?_) fun hc=>?_)<;>(try simp only[hc,bs,↓reduceIte]at h)<;>try simp only[hc]
 | (with_reducible refine aB hQ ?_;(try cases h);simp only [aR,aS,bo,bp,go_sem,hC,hE,hM,hY,eL,e2,e3,hlen,gh,z1,z2,kN];try exact bS))
    ·have kN:((out.length:Int)==2000)=false:=by simp;omega
     have Dv : ∀ t:ga,(out++ [t]).length≤2000:=by intro t;simp;omega
     simp only[se,↓reduceIte]at h
     rcases FH with z1|⟨z1,z2⟩
     ·repeat' (first
 |simp only[go_sem,hC,hE,hM,hY,eL,e2,e3,hlen,gh,z1,kN,fP]
 |(with_reducible refine CU (qf _) ?_)
 |(with_reducible refine cv (l:=4) (by with_unfolding_all rfl) ?_)
 |(with_reducible refine cv (l:=5) (by with_unfolding_all rfl) ?_)
 |(refine IH.to hB fin h u3 (Dv _) jY (Nat.lt_succ_self _) ?_ ?_ ?_<;>((try simp only[go_sem,hC,hE,hM,hY]);repeat' (first|exact Ok.out|with_reducible refine eP ?_ ?_|omega|(simp;done)));done)
 |(with_reducible first|refine aX fun hc=>?_|refine aY fun hc=>?_|refine aZ (fun hc=>?_) fun hc=>?_)<;>(try simp only[hc,bs,↓reduceIte]at h)<;>try simp only[hc]
 |(with_reducible refine aB hQ ?_;(try cases h);simp only[aR,aS,bo,bp,go_sem,hC,hE,hM,hY,eL,e2,e3,hlen,gh,z1,kN,fP];try exact bS))
     ·repeat' (first
 |simp only[go_sem,hC,hE,hM,hY,eL,e2,e3,hlen,gh,z1,z2,kN,fP]
 |(with_reducible refine CU (qf _) ?_)
 |(with_reducible refine cv (l:=4) (by with_unfolding_all rfl) ?_)
 |(with_reducible refine cv (l:=5) (by with_unfolding_all rfl) ?_)
 |(refine IH.to hB fin h u3 (Dv _) jY (Nat.lt_succ_self _) ?_ ?_ ?_<;>((try simp only[go_sem,hC,hE,hM,hY]);repeat' (first|exact Ok.out|with_reducible refine eP ?_ ?_|omega|(simp;done)));done)
 |(with_reducible first|refine aX fun hc=>?_|refine aY fun hc=>?_|refine aZ (fun hc=>?_) fun hc=>?_)<;>(try simp only[hc,bs,↓reduceIte]at h)<;>try simp only[hc]
 |(with_reducible refine aB hQ ?_;(try cases h);simp only[aR,aS,bo,bp,go_sem,hC,hE,hM,hY,eL,e2,e3,hlen,gh,z1,z2,kN,fP];try exact bS))
 | cons d rest=>
  obtain⟨hE,g2,eL,g5⟩:=drop_cons j1
  have hC:j<4611686018427387904:=by omega
  cases hd:pX d
  ·simp only [rX,hd,Bool.false_eq_true, ↓reduceIte,Nat.add_zero]at j2
   subst j2
   by_cases hz:k > 1∧(c.toNat:Int)=48
   ·have z1:decide ((k:Int) > 1)=true:=by simp;omega
    have z2:((c.toNat:Int)==48)=true:=by simp[hz.2]
    rw[if_pos hz]at h
    dsimp only at h
    repeat' (first
 |simp only[go_sem,hC,hE,hM,hY,eL,hd,e2,e3,hlen,gh,z1,z2]
 |(with_reducible refine CU (kr _ _) ?_)
 |(with_reducible refine cv (l:=4) (by with_unfolding_all rfl) ?_)
 |(with_reducible refine cv (l:=5) (by with_unfolding_all rfl) ?_)
 |(with_reducible first|refine aX fun hc=>?_|refine aY fun hc=>?_|refine aZ (fun hc=>?_) fun hc=>?_)<;>(try simp only[hc,bs,↓reduceIte]at h)<;>try simp only[hc]
 | (with_reducible refine aB hQ ?_;(try cases h);simp only [aR,aS,bo,bp,go_sem,hC,hE,hM,hY,eL,hd,e2,e3,hlen,gh,z1,z2];try exact bS))
   ·have FH:decide ((k:Int) > 1)=false∨(decide ((k:Int) > 1)=true∧((c.toNat:Int)==48)=false):=by
     by_cases h1:k > 1
     ·right;exact⟨by simp;omega,by simp;intro h2;exact hz ⟨h1,h2⟩⟩
     ·left;simp;omega
    rw[if_neg hz]at h
    cases hw:bU 0 ((c::r).take k)with
    |none=>
     have LD:pA ((c::r).take k)=(0,false):=by simp only[pA,hw]
     simp only[LD]at qf
     simp only[hw]at h
     rcases FH with z1|⟨z1,z2⟩
     ·repeat' (first
 |simp only[go_sem,hC,hE,hM,hY,eL,hd,e2,e3,hlen,gh,z1]
 |(with_reducible refine CU (kr _ _) ?_)
 |(with_reducible refine CU (qf _) ?_)
 |(with_reducible refine cv (l:=4) (by with_unfolding_all rfl) ?_)
 |(with_reducible refine cv (l:=5) (by with_unfolding_all rfl) ?_)
 |(with_reducible first|refine aX fun hc=>?_|refine aY fun hc=>?_|refine aZ (fun hc=>?_) fun hc=>?_)<;>(try simp only[hc,bs,↓reduceIte]at h)<;>try simp only[hc]
 |(with_reducible refine aB hQ ?_;(try cases h);simp only[aR,aS,bo,bp,go_sem,hC,hE,hM,hY,eL,hd,e2,e3,hlen,gh,z1];try exact bS))
     ·repeat' (first
 |simp only[go_sem,hC,hE,hM,hY,eL,hd,e2,e3,hlen,gh,z1,z2]
 |(with_reducible refine CU (kr _ _) ?_)
 |(with_reducible refine CU (qf _) ?_)
 |(with_reducible refine cv (l:=4) (by with_unfolding_all rfl) ?_)
 |(with_reducible refine cv (l:=5) (by with_unfolding_all rfl) ?_)
 |(with_reducible first|refine aX fun hc=>?_|refine aY fun hc=>?_|refine aZ (fun hc=>?_) fun hc=>?_)<;>(try simp only[hc,bs,↓reduceIte]at h)<;>try simp only[hc]
 | (with_reducible refine aB hQ ?_;(try cases h);simp only [aR,aS,bo,bp,go_sem,hC,hE,hM,hY,eL,hd,e2,e3,hlen,gh,z1,z2];try exact bS))
    | some v=>
     have LD:pA ((c::r).take k)=(v,true):=by simp only[pA,hw]
     simp only[LD]at qf
     simp only[hw,hlen]at h
     by_cases se:out.length=2000
     ·have kN:((out.length:Int)==2000)=true:=by simp [se]
      simp only[se,↓reduceIte]at h
      rcases FH with z1|⟨z1,z2⟩
      ·repeat' (first
 |simp only[go_sem,hC,hE,hM,hY,eL,hd,e2,e3,hlen,gh,z1,kN]
 |(with_reducible refine CU (kr _ _) ?_)
 |(with_reducible refine CU (qf _) ?_)
 |(with_reducible refine cv (l:=4) (by with_unfolding_all rfl) ?_)
 |(with_reducible refine cv (l:=5) (by with_unfolding_all rfl) ?_)
 |(with_reducible first|refine aX fun hc=>?_|refine aY fun hc=>?_|refine aZ (fun hc=>?_) fun hc=>?_)<;>(try simp only[hc,bs,↓reduceIte]at h)<;>try simp only[hc]
 |(with_reducible refine aB hQ ?_;(try cases h);simp only[aR,aS,bo,bp,go_sem,hC,hE,hM,hY,eL,hd,e2,e3,hlen,gh,z1,kN];try exact bS))
      ·repeat' (first
 |simp only[go_sem,hC,hE,hM,hY,eL,hd,e2,e3,hlen,gh,z1,z2,kN]
 |(with_reducible refine CU (kr _ _) ?_)
 |(with_reducible refine CU (qf _) ?_)
 |(with_reducible refine cv (l:=4) (by with_unfolding_all rfl) ?_)
 |(with_reducible refine cv (l:=5) (by with_unfolding_all rfl) ?_)
 |(with_reducible first|refine aX fun hc=>?_|refine aY fun hc=>?_|refine aZ (fun hc=>?_) fun hc=>?_)<;>(try simp only[hc,bs,↓reduceIte]at h)<;>try simp only[hc]
 |(with_reducible refine aB hQ ?_;(try cases h);simp only[aR,aS,bo,bp,go_sem,hC,hE,hM,hY,eL,hd,e2,e3,hlen,gh,z1,z2,kN];try exact bS))
     ·have kN:((out.length:Int)==2000)=false:=by simp;omega
      have Dv : ∀ t:ga,(out++ [t]).length≤2000:=by intro t;simp;omega
      simp only[se,↓reduceIte]at h
      rcases FH with z1|⟨z1,z2⟩
      ·repeat' (first
 |simp only[go_sem,hC,hE,hM,hY,eL,hd,e2,e3,hlen,gh,z1,kN,fP]
 |(with_reducible refine CU (kr _ _) ?_)
 |(with_reducible refine CU (qf _) ?_)
 |(with_reducible refine cv (l:=4) (by with_unfolding_all rfl) ?_)
 |(with_reducible refine cv (l:=5) (by with_unfolding_all rfl) ?_)
 |(refine IH.to hB fin h u3 (Dv _) jY (Nat.lt_succ_self _) ?_ ?_ ?_<;>((try simp only[go_sem,hC,hE,hM,hY]);repeat' (first|exact Ok.out|with_reducible refine eP ?_ ?_|omega|(simp;done)));done)
 |(with_reducible first|refine aX fun hc=>?_|refine aY fun hc=>?_|refine aZ (fun hc=>?_) fun hc=>?_)<;>(try simp only[hc,bs,↓reduceIte]at h)<;>try simp only[hc]
 |(with_reducible refine aB hQ ?_;(try cases h);simp only[aR,aS,bo,bp,go_sem,hC,hE,hM,hY,eL,hd,e2,e3,hlen,gh,z1,kN,fP];try exact bS))
      ·repeat' (first
 |simp only[go_sem,hC,hE,hM,hY,eL,hd,e2,e3,hlen,gh,z1,z2,kN,fP]
 |(with_reducible refine CU (kr _ _) ?_)
 |(with_reducible refine CU (qf _) ?_)
 |(with_reducible refine cv (l:=4) (by with_unfolding_all rfl) ?_)
 |(with_reducible refine cv (l:=5) (by with_unfolding_all rfl) ?_)
 |(refine IH.to hB fin h u3 (Dv _) jY (Nat.lt_succ_self _) ?_ ?_ ?_<;>((try simp only[go_sem,hC,hE,hM,hY]);repeat' (first|exact Ok.out|with_reducible refine eP ?_ ?_|omega|(simp;done)));done)
 |(with_reducible refine aB hQ ?_;exact bj))
  ·exact step d rest rfl hd
theorem NG {text:aF} (hl:text.length≤100000) {B:fa} {Q:Exit→Tm→St→Prop} {p:List ga×Int×Int} (hB:B.s=S0)
 (hQ:iC 0 0 [(2,none),(3,some (true,2))] (.tuple [.slice .shared 4 (p.1.map eQ), .agg (qb p.2)]) ⟨[],[]⟩=Q)
 {n pos:Nat} {out:List ga} (ho:out.length≤2000) (hp:pos≤text.length) (IH:s6 text B Q p (n+1)) {rest:aF} (h1:text.drop pos=rest) (h:oa (n+1) pos rest out=p) (hn:rest.length<n+1) :
 gF Tryz.prog B 152 vQ (kd Tryz.prog B 152 qQ Q) (oV text out pos) (pN out):=by
 cases rest with
 |nil=>exact lex_nil hl hB hQ ho hp IH h1 h
 | cons c r=>
  cases hb:AA c
  ·cases hc:((c.toNat:Int)==35)
   ·cases hL:rW c
    ·cases hD:pX c
     ·exact WD hl hB hQ ho hp IH h1 hb hc hL hD hn h
     ·exact Rc hl hB hQ ho hp IH h1 hb hc hL hD hn h
    ·exact WE hl hB hQ ho hp IH h1 hb hc hL hn h
   ·exact QR hl hB hQ ho hp IH h1 hb hc hn h
  ·exact Tt hl hB hQ ho hp IH h1 hb hn h
theorem afh {text:aF} (hl:text.length≤100000) {B:fa} {Q:Exit→Tm→St→Prop} {p:List ga×Int×Int} (hB:B.s=S0)
 (hQ:iC 0 0 [(2,none),(3,some (true,2))] (.tuple [.slice .shared 4 (p.1.map eQ), .agg (qb p.2)]) ⟨[],[]⟩=Q) : ∀ N,s6 text B Q p N:=by
 intro N
 induction N with
 |zero=>intro n pos rest out _ _ _ _ _ h;exact absurd h (Nat.not_lt_zero _)
 | succ N ih=>
  intro n pos rest out h1 h h2 h3 h4 h5
  cases n with
  |zero=>omega
  |succ n=>
   refine je.kB ?_
   show gF Tryz.prog B 152 vQ (kd Tryz.prog B 152 qQ Q) (oV text out pos) (pN out)
   exact NG hl hB hQ h3 h4 (fun n' pos' qy cR a b c d e f=>ih n' pos' qy cR a b c d e (by omega)) h1 h h2
theorem aie (text:aF) (hl:text.length<4611686018427387904) (s:St) :
 az Tryz.prog Bv [.str text] s (.tuple [.slice .shared 4 ((py text).1.map eQ), .agg (qb (py text).2)]) s:=by
 refine az.pure ?_ rfl (by simp[D.ok,D.bI,Kt,Tag.ok,qb]) s
 generalize h:py text=p
 unfold py at h
 unfold S0
 refine az.go MJ rfl fun B Q hB hQ=>?_
 have⟨hC,hE,hM,hY⟩:=bE
 repeat' (first
 |simp only[go_sem,hC,hE,hM,hY]
 |(with_reducible first|refine aX fun hc=>?_|refine aY fun hc=>?_|refine aZ (fun hc=>?_) fun hc=>?_)<;>(try simp only[hc,bs,↓reduceIte]at h)<;>try simp only[hc]
 |(with_reducible refine aB hQ ?_;exact eA))
 refine je.once (Sem.iS ?_)
 simp only[go_sem,hC,hE,hM,hY]
 refine Sem.iS ?_
 simp only[go_sem,hC,hE,hM,hY]
 refine Sem.iS ?_
 simp only[go_sem,hC,hE,hM,hY]
 refine Sem.iS ?_
 by_cases hz:text.length > 100000
 ·have ow:decide ((text.length:Int) > 100000)=true:=by simp;omega
  rw[if_pos hz]at h
  repeat' (first
 |simp only[go_sem,hC,hE,hM,hY,ow]
 |(with_reducible first|refine aX fun hc=>?_|refine aY fun hc=>?_|refine aZ (fun hc=>?_) fun hc=>?_)<;>(try simp only[hc,bs,↓reduceIte]at h)<;>try simp only[hc]
 |(with_reducible refine aB hQ ?_;(try cases h);simp only[aR,aS,bo,bp,go_sem,hC,hE,hM,hY,ow];try exact bS))
 ·have ow:decide ((text.length:Int) > 100000)=false:=by simp;omega
  rw[if_neg hz]at h
  have mK:text.length≤100000:=by omega
  have hQ':iC 0 0 [(2,none),(3,some (true,2))] (.tuple [.slice .shared 4 (p.1.map eQ), .agg (qb p.2)]) ⟨[],[]⟩=Q:=hQ
  repeat' (first
 |simp only[go_sem,hC,hE,hM,hY,ow]
 |(with_reducible refine aB hQ ?_;exact bj))
  refine Sem.iS ?_
  simp only[go_sem,hC,hE,hM,hY]
  refine Sem.p8 4 4 rfl ?_
  simp only[go_sem,hC,hE,hM,hY]
  refine Sem.re _ _ 2 1 (by rw[hB];exact mN rfl) (by rw[hB];exact mN rfl) ?_ ?_ (gG (NG mK hB hQ' (out:= []) (pos:=0) (by simp) (Nat.zero_le _) (afh mK hB hQ' _) rfl h (by simp)))
  ·(simp only[go_sem,hC,hE,hM,hY];repeat' (first|exact Ok.out|with_reducible refine eP ?_ ?_))
  ·(simp only[go_sem,hC,hE,hM,hY];repeat' (first|exact Ok.out|with_reducible refine eP ?_ ?_))
def ZH (l:List ga):Rd:=⟨l,0,0,0,0⟩
def FI (m:Nat) (text:aF):Option (Pg×Int×Int):=
 if(py text).2.1 != 0 then some (YG,(py text).2)
 else(Rd.program m (ZH (py text).1)).bind fun p=>if p.2.code != 0 then some (YG,p.2.code,p.2.Kv)else(p.1.Gn).bind fun q=>some (q,0,0)
def az8 (m:Nat) (text:aF):Option (Ex×Int×Int):=
 if(py text).2.1 != 0 then some (qi,(py text).2)
 else(Rd.whole m (ZH (py text).1)).bind fun x=>x.2.Kz.bind fun b=>
  if b then(x.2.bad 3).bind fun r=>if !r.good then some (qi,r.code,r.Kv)else some (x.1,0,0)
  else if !x.2.good then some (qi,x.2.code,x.2.Kv)else some (x.1,0,0)
set_option maxRecDepth 8000
open Go.Proofs
theorem Um {m:Nat} {r:Rd} {p:Pg×Rd} (h:Rd.program m r=some p) {s:St} {o:Nat} (ho:s.ah[o]? = some (cL r)) :
 az Tryz.prog mD [.ptr o 0] s (.agg (cO p.1)) ⟨s.ah.set o (cL p.2),s.aw⟩:=by
 refine az.kR ?_ rfl (fM r) (fM p.2) (by simp[D.ok,j8]) ho
 unfold Rd.program at h
 refine az.go vR rfl fun B Q hB hQ=>?_
 have⟨hC,hE,hM,hY⟩:=bE
 repeat' (first
 |simp only[go_sem,hC,hE,hM,hY]
 |(with_reducible refine aB hQ ?_;exact bj))
 rw[Option.bind_eq_some_iff]at h
 obtain⟨q,h,hr⟩:=h
 refine bg.qM 2 0 1 rfl rfl ?_
 simp only[go_sem,hC,hE,hM,hY]
 refine dS 3 1 (bg.ind (ι:=Nat×List aF×Rd×Nat) (fun i=>Rd.globals m i.1 i.2.1 i.2.2.1=some q∧i.2.2.2=i.2.1.length) (fun i=>i.1)
  (fun i=> [(0, .ptr 0 0),(2, .ptr 1 0),(3, .ptr 2 0)]) (fun i=>⟨[cL i.2.2.1,[.slice .full 0 [], .slice .full 0 []],[.slice (.tok 0) 1 (i.2.1.map encStr), .slice .full 0 []]],[some i.2.2.2]⟩) ?_ (m,[],r,0) ⟨h,rfl⟩)
 rintro⟨n,l,r,k⟩ ⟨h,hk⟩ IH
 dsimp only at hk;subst hk
 cases n with
 |zero=>simp only[Rd.globals]at h;cases h
 |succ n=>
  simp only[Rd.globals]at h
  repeat' (first
 |simp only[go_sem,hC,hE,hM,hY]
 |(rw[Option.bind_eq_some_iff]at h;obtain⟨_,h1,h⟩:=h;first|(with_reducible refine CU (tH h1 (by with_unfolding_all rfl)) ?_)|(with_reducible refine CU (NF h1 (by with_unfolding_all rfl) (by with_unfolding_all rfl)) ?_))
 |(with_reducible first|refine aX fun hc=>?_|refine aY fun hc=>?_|refine aZ (fun hc=>?_) fun hc=>?_)<;>(try simp only[hc,bs,↓reduceIte]at h)<;>try simp only[hc]
 |(with_reducible refine aB hQ ?_;exact eA)
 |(cases h;replace h:=hr;clear hr;(try simp only[bs,↓reduceIte]at h))
 |(cases h;done))
  ·refine dS 3 1 (IH (n,_,_,_) ⟨h,rfl⟩ (Nat.lt_succ_self _))
  ·refine dS 3 0 (LC hB hQ _ h)
theorem abt {m:Nat} {text:aF} {p:Pg×Int×Int} (h:FI m text=some p) (hl:text.length<4611686018427387904) (s:St) :
 az Tryz.prog uc [.str text] s (.tuple [.agg (cO p.1), .agg (qb p.2)]) s:=by
 refine az.pure ?_ rfl (by simp[D.ok,D.bI,j8,qb]) s
 unfold FI at h
 have afi:=aie text hl
 generalize py text=t at h afi
 unfold S0
 refine az.go E7 rfl fun B Q hB hQ=>?_
 have⟨hC,hE,hM,hY⟩:=bE
 repeat' (first
 |simp only[go_sem,hC,hE,hM,hY,ZH]
 |(rw[Option.bind_eq_some_iff]at h;obtain⟨_,h1,h⟩:=h;first|(with_reducible refine CU (Um h1 (by with_unfolding_all rfl)) ?_)|(with_reducible refine CU (W8 h1 _) ?_))
 |(with_reducible refine CU (afi _) ?_)
 |(with_reducible first|refine aX fun hc=>?_|refine aY fun hc=>?_|refine aZ (fun hc=>?_) fun hc=>?_)<;>(try simp only[hc,bs,↓reduceIte]at h)<;>try simp only[hc]
 |(with_reducible refine aB hQ ?_;(try cases h);simp only[aR,aS,bo,bp,go_sem,hC,hE,hM,hY,ZH];try exact bS))
set_option maxRecDepth 8000
open Go.Proofs
def afj (n k:Int):Int:=if Int.tmod n k<0 then Int.tmod n k+k else Int.tmod n k
def aif (t:aF):Nat→aF
 | 0=> []
 |n+1=>aif t n++t
def two (i:Nat):aF:= [UInt8.ofNat (48+i / 10),UInt8.ofNat (48+i % 10)]
def afk (ahead:aF):Nat→aF
 | 0=> []
 |n+1=>(if n=0 then afk ahead n else afk ahead n++ [44])++(ahead++ [97]++two n)
def afl:Nat→aF
 | 0=> []
 |n+1=>afl n++([112,114,111,99,32,112]++two n++ [40,41,123,125])
set_option maxRecDepth 8000
open Go.Proofs
def Xw (k:Int):List It→List Int
 | []=> []
 |i::l=>if k==0 ||i.s.kind==k then i.s.id::Xw k l else Xw k l
def az9 (l:List Int) (n:Int):Int:=match l[(afj n l.length).toNat]? with|some x=>x|none=>0
def ZI (id:Int):List It→Option It
 | []=>none
 |i::l=>if i.s.id==id then some i else ZI id l
def ZJ (id:Int):List Pc→Option (It×aF)
 | []=>none
 |f::l=>match ZI id f.flat with|some i=>some (i,f.name)|none=>ZJ id l
def it0:It:=⟨Hw,0,0,false⟩
def asY (r:Option (It×aF)):D:=match r with
 |some (i,nm)=> .tuple [.agg (kg i), .str nm, .bool true]
 |none=> .tuple [.agg (kg it0), .str [], .bool false]
def Pg.aAa (p:Pg) (id:Int):Sm:=match ZJ id p.procs with|some (i,_)=>i.s|none=>Hw
set_option maxRecDepth 8000
open Go.Proofs
def wa (t:aF) (n:Int):Int:=if n > 20000 then 20001 else if(t.length:Int)≥20000 - n then 20001 else n+1+t.length
mutual
def LF:Ex→Int→Int
 |⟨_,_,name,kids⟩,n=>NH kids (wa name n)
def NH:List Ex→Int→Int
 | [],n=>n
 |x::l,n=>if n≤20000 then NH l (LF x n)else n
end
set_option maxRecDepth 8000
open Go.Proofs
def yX:List aF→Int→Int
 | [],n=>n
 |t::l,n=>if n≤20000 then yX l (wa t n)else n
def NK:List Ar→Int→Int
 | [],n=>n
 |a::l,n=>if n≤20000 then NK l (wa a.name (LF a.x n))else n
def NL:List Pm→Int→Int
 | [],n=>n
 |a::l,n=>if n≤20000 then NL l (wa a.name n)else n
mutual
def afm:Sm→Int→Int
 |⟨_,_,labels,name,proc,x,_,args,bm,bd⟩,n=>CK bd (CK bm (NK args (wa proc (wa name (yX labels (LF x n))))))
def CK:List Sm→Int→Int
 | [],n=>n
 |s::l,n=>if n≤20000 then CK l (afm s n)else n
end
def afn (f:Pc) (n:Int):Int:=CK f.body (NL f.params (yX f.fin (yX f.vars (wa f.name n))))
def NM:List Pc→Int→Int
 | [],n=>n
 |f::l,n=>if n≤20000 then NM l (afn f n)else n
def Pg.aAb (p:Pg):Int:=NM p.procs (yX p.globals 0)
def afo:List aF→List aF→Bool
 | [],_=>true
 |_::_,[]=>true
 |x::l,y::l'=>if !(x==y)then false else afo l l'
def ZK (l l':List aF):Bool:=if(l.length:Int) != (l'.length:Int)then false else afo l l'
def Ar.qa:List Ar→List Ar→Bool
 | [],_=>true
 |_::_,[]=>true
 |a::l,b::l'=>if !(a.ref==b.ref) || !(a.name==b.name) || !(Ex.beq a.x b.x)then false else Ar.qa l l'
mutual
def Sm.beq:Sm→Sm→Bool
 |⟨id,kind,labels,name,proc,x,has,args,bm,bd⟩,⟨id',aih,abu,Qq,va,x',asZ,EF,afp,afq⟩=>
  if id != id' ||kind != aih || !(name==Qq) || !(proc==va) || !(has==asZ) || !(ZK labels abu) || !(Ex.beq x x') ||(args.length:Int) != (EF.length:Int)then false
  else if !(Ar.qa args EF)then false
  else if(if(bm.length:Int) != (afp.length:Int)then false else Sm.qa bm afp)then(if(bd.length:Int) != (afq.length:Int)then false else Sm.qa bd afq)else false
def Sm.qa:List Sm→List Sm→Bool
 | [],_=>true
 |_::_,[]=>true
 |s::l,t::l'=>if !(Sm.beq s t)then false else Sm.qa l l'
end
def Sm.afr (l l':List Sm):Bool:=if(l.length:Int) != (l'.length:Int)then false else Sm.qa l l'
def Pm.qa:List Pm→List Pm→Bool
 | [],_=>true
 |_::_,[]=>true
 |a::l,b::l'=>if !((a.name==b.name) && (a.ref==b.ref))then false else Pm.qa l l'
def Pc.qa:List Pc→List Pc→Bool
 | [],_=>true
 |_::_,[]=>true
 |f::l,g::l'=>
  if !(f.name==g.name) ||(f.params.length:Int) != (g.params.length:Int) || !(ZK f.vars g.vars) || !(ZK f.fin g.fin) || !(Sm.afr f.body g.body)then false
  else if !(Pm.qa f.params g.params)then false else Pc.qa l l'
def Pg.beq (p q:Pg):Bool:=if !(ZK p.globals q.globals) ||(p.procs.length:Int) != (q.procs.length:Int)then false else Pc.qa p.procs q.procs
set_option maxRecDepth 8000
open Go.Proofs
abbrev atn (N:Nat):Prop:=∀ s t:Sm,s.size<N→∀ st:St,az Tryz.prog KA [.agg (bb s), .agg (bb t)] st (.bool (Sm.beq s t)) st
abbrev aAc (N:Nat):Prop:=∀ l l':List Sm,Sm.bt l<N→∀ st:St,az Tryz.prog Gp [.slice .shared 13 (l.map bb), .slice .shared 13 (l'.map bb)] st (.bool (Sm.afr l l')) st
set_option maxRecDepth 8000
open Go.Proofs
def CM (n:Int):Ex:=⟨1,n,[],[]⟩
def r8 (s:aF):Ex:=⟨2,0,s,[]⟩
def FJ (op:Int) (a b:Ex):Ex:=⟨op,0,[],[a,b]⟩
theorem aii (n:Int) (s:St):az Tryz.prog rI [.int .i64 n] s (.agg (bJ (CM n))) s:=by
 refine az.pure ?_ rfl (by simp[D.ok,gW]) s
 unfold S0
 refine az.go KK rfl fun B Q hB hQ=>?_
 have⟨hC,hE,hM,hY⟩:=bE
 repeat' (first
 |simp only[go_sem,hC,hE,hM,hY,CM]
 |(with_reducible first|refine aX fun hc=>?_|refine aY fun hc=>?_|refine aZ (fun hc=>?_) fun hc=>?_)<;>(try simp only[hc,bs,↓reduceIte]at h)<;>try simp only[hc]
 |(with_reducible refine aB hQ ?_;simp only[aR,aS,bo,bp,go_sem,hC,hE,hM,hY,CM];try exact bS))
theorem Re (t:aF) (s:St):az Tryz.prog ll [.str t] s (.agg (bJ (r8 t))) s:=by
 refine az.pure ?_ rfl (by simp[D.ok,gW]) s
 unfold S0
 refine az.go Iw rfl fun B Q hB hQ=>?_
 have⟨hC,hE,hM,hY⟩:=bE
 repeat' (first
 |simp only[go_sem,hC,hE,hM,hY,r8]
 |(with_reducible first|refine aX fun hc=>?_|refine aY fun hc=>?_|refine aZ (fun hc=>?_) fun hc=>?_)<;>(try simp only[hc,bs,↓reduceIte]at h)<;>try simp only[hc]
 |(with_reducible refine aB hQ ?_;simp only[aR,aS,bo,bp,go_sem,hC,hE,hM,hY,r8];try exact bS))
theorem Un (op:Int) (a b:Ex) (s:St):az Tryz.prog uW [.int .i64 op, .agg (bJ a), .agg (bJ b)] s (.agg (bJ (FJ op a b))) s:=by
 refine az.pure ?_ (by simp[D.bI,D.ok,gW]) (by simp[D.ok,gW]) s
 unfold S0
 refine az.go KM rfl fun B Q hB hQ=>?_
 have⟨hC,hE,hM,hY⟩:=bE
 repeat' (first
 |simp only[go_sem,hC,hE,hM,hY,FJ]
 |(with_reducible first|refine aX fun hc=>?_|refine aY fun hc=>?_|refine aZ (fun hc=>?_) fun hc=>?_)<;>(try simp only[hc,bs,↓reduceIte]at h)<;>try simp only[hc]
 |(with_reducible refine aB hQ ?_;simp only[aR,aS,bo,bp,go_sem,hC,hE,hM,hY,FJ];try exact bS))
def source:aF:= [103,108,111,98,97,108,32,103,59,10,112,114,111,99,32,109,97,105,110,40,41,32,123,10,32,118,97,114,32,118,59,10,32,118,32,61,32,50,59,10,32,103,32,61,32,112,40,51,44,32,114,101,102,32,118,41,59,10,32,112,114,105,110,116,32,118,59,10,32,112,114,105,110,116,32,103,59,10,125,10,112,114,111,99,32,112,40,120,44,32,114,101,102,32,121,41,32,123,10,32,121,32,61,32,121,32,43,32,120,59,10,32,105,102,32,40,121,32,62,32,57,41,32,123,10,32,32,103,111,116,111,32,101,59,10,32,125,10,32,114,101,116,117,114,110,32,121,59,10,101,58,32,125,10]
def r9:Pg:=⟨[[103]],[
 ⟨[109,97,105,110],[],[[118]],[
  ⟨1,1,[],[118],[],CM 2,false,[],[],[]⟩,
  ⟨2,4,[],[103],[112],qi,false,[⟨false,[],CM 3⟩,⟨true,[118],qi⟩],[],[]⟩,
  ⟨3,3,[],[],[],r8 [118],false,[],[],[]⟩,
  ⟨4,3,[],[],[],r8 [103],false,[],[],[]⟩],[]⟩,
 ⟨[112],[⟨[120],false⟩,⟨[121],true⟩],[],[
  ⟨5,1,[],[121],[],FJ 8 (r8 [121]) (r8 [120]),false,[],[],[]⟩,
  ⟨6,5,[],[],[],FJ 12 (r8 [121]) (CM 9),false,[],[⟨7,10,[],[101],[],qi,false,[],[],[]⟩],[]⟩,
  ⟨8,9,[],[],[],r8 [121],true,[],[],[]⟩],[[101]]⟩]⟩
theorem afs (s:St):az Tryz.prog xA [] s (.agg (cO r9)) s:=by
 refine az.pure ?_ rfl (by simp[D.ok,j8]) s
 unfold S0
 refine az.go Is rfl fun B Q hB hQ=>?_
 have⟨hC,hE,hM,hY⟩:=bE
 repeat' (first
 |simp only[go_sem,hC,hE,hM,hY,r9]
 |(with_reducible refine CU (aii _ _) ?_)
 |(with_reducible refine CU (Re _ _) ?_)
 |(with_reducible refine CU (Un _ _ _ _) ?_)
 |(with_reducible refine aB hQ ?_;simp only[aR,aS,bo,bp,go_sem,hC,hE,hM,hY];repeat' (first|exact Ok.out|with_reducible refine eP ?_ ?_|(simp;done))))
 repeat' (first|exact Ok.out|with_reducible refine Wk.agg ?_|with_reducible refine Wk.rows ?_|with_reducible refine Wk.slice ?_|with_reducible refine gB.cons ?_ ?_|with_reducible refine jz.cons ?_ ?_)
open Go.Proofs
def Pg.azG (p:Pg) (n:Int):aF:=match p.procs[(afj n p.procs.length).toNat]? with|some f=>f.name|none=> []
open Go.Proofs
theorem Xx {p:Pg} (h:(p.arity.1==0)=true) (h2:(p.alias.1==0)=true) : ∀ v∈p.pre,(v.kind==4)=true→v.yV p=true:=by
 unfold Pg.alias at h2
 rw[if_pos h]at h2
 intro v hv hk
 have : ∀ l:List Sm,((qt 8 (Lw p l)).1==0)=true→∀ v∈l,(v.kind==4)=true→v.yV p=true:=by
  intro l
  induction l with
  |nil=>intro _ v m;cases m
  | cons a l ih=>
   intro h v m hk
   simp only[Lw]at h
   split at h
   ·cases h
   ·rename_i c
    rcases List.mem_cons.1 m with rfl|m
    ·simpa[hk]using c
    ·exact ih h v m hk
 exact this _ h2 v hv hk
section
variable {a b:aF}
end
section
variable {a b:aF} (ha:isName a=true) (hb:isName b=true)
include ha hb
end
def Pg.check (p:Pg):Int×Int:=if p.scope.1==0 then(if p.arity.1==0 then(if p.jump.1==0 then p.alias else p.jump)else p.arity)else p.scope
end Go.Abs
namespace Go.Abs
set_option maxRecDepth 8000
open Go.Proofs
def Pc.as0:List Pc→Nat
 | []=>0
 |f::l=>Sm.jf f.body+Pc.as0 l
theorem Xy {p:Pg} (h:p.may=false):p.scope=(1,0):=by unfold Pg.scope;rw[h];rfl
theorem Uo {p:Pg} (h:p.jc) (s:St):az Tryz.prog sX [.agg (cO p)] s (.agg [.int .i64 p.check.1, .int .i64 p.check.2]) s:=by
 refine az.pure ?_ (by simp[D.bI,D.ok,j8]) rfl s
 have h1:=fun s=>K1 h.Q1 s
 rw[CF]at h1
 have h2:=fun s=>vX h s
 have h3:=fun s=>Lg h s
 have h4:=fun s=>Xp h s
 have h5:=fun s=>Uh h s
 obtain⟨R,hR⟩ : ∃ R,p.check=R:=⟨_,rfl⟩
 rw[hR]
 unfold Pg.check at hR
 unfold S0
 rcases Bool.eq_false_or_eq_true p.may with b0|b0
 case inr=>
  have e:((1:Int)==0)=false:=rfl
  rw[Xy b0]at hR
  simp only[e,Bool.false_eq_true,if_false]at hR
  subst hR
  refine az.go ov rfl fun B Q hB hQ=>?_
  have⟨hC,hE,hM,hY⟩:=bE
  repeat' (first
 |simp only[go_sem,hC,hE,hM,hY,b0,Bool.not_false]
 |(with_reducible refine CU (h1 _) ?_)
 |(with_reducible refine aB hQ ?_;exact bj))
 rcases Bool.eq_false_or_eq_true (p.scope.1==0)with b1|b1
 case inr=>
  simp only[b1,Bool.false_eq_true,if_false]at hR
  subst hR
  refine az.go ov rfl fun B Q hB hQ=>?_
  have⟨hC,hE,hM,hY⟩:=bE
  repeat' (first
 |simp only[go_sem,hC,hE,hM,hY,b0,b1,Bool.not_true]
 |(with_reducible refine CU (h1 _) ?_)
 |(with_reducible refine CU (h2 _) ?_)
 |(with_reducible refine aB hQ ?_;exact bj))
 simp only[b1,if_true]at hR
 rcases Bool.eq_false_or_eq_true (p.arity.1==0)with b2|b2
 case inr=>
  simp only[b2,Bool.false_eq_true,if_false]at hR
  subst hR
  refine az.go ov rfl fun B Q hB hQ=>?_
  have⟨hC,hE,hM,hY⟩:=bE
  repeat' (first
 |simp only[go_sem,hC,hE,hM,hY,b0,b1,b2,Bool.not_true]
 |(with_reducible refine CU (h1 _) ?_)
 |(with_reducible refine CU (h2 _) ?_)
 |(with_reducible refine CU (h3 _) ?_)
 |(with_reducible refine aB hQ ?_;exact bj))
 simp only[b2,if_true]at hR
 rcases Bool.eq_false_or_eq_true (p.jump.1==0)with b3|b3
 case inr=>
  simp only[b3,Bool.false_eq_true,if_false]at hR
  subst hR
  refine az.go ov rfl fun B Q hB hQ=>?_
  have⟨hC,hE,hM,hY⟩:=bE
  repeat' (first
 |simp only[go_sem,hC,hE,hM,hY,b0,b1,b2,b3,Bool.not_true]
 |(with_reducible refine CU (h1 _) ?_)
 |(with_reducible refine CU (h2 _) ?_)
 |(with_reducible refine CU (h3 _) ?_)
 |(with_reducible refine CU (h4 _) ?_)
 |(with_reducible refine aB hQ ?_;exact bj))
 simp only[b3,if_true]at hR
 subst hR
 refine az.go ov rfl fun B Q hB hQ=>?_
 have⟨hC,hE,hM,hY⟩:=bE
 repeat' (first
 |simp only[go_sem,hC,hE,hM,hY,b0,b1,b2,b3,Bool.not_true]
 |(with_reducible refine CU (h1 _) ?_)
 |(with_reducible refine CU (h2 _) ?_)
 |(with_reducible refine CU (h3 _) ?_)
 |(with_reducible refine CU (h4 _) ?_)
 |(with_reducible refine CU (h5 _) ?_)
 |(with_reducible refine aB hQ ?_;exact bj))
theorem aft {p:Pg} (h:p.jc) (s:St):az Tryz.prog xy [.agg (cO p)] s (.bool (p.check.1==0)) s:=by
 refine az.pure ?_ (by simp[D.bI,D.ok,j8]) rfl s
 have h1:=fun s=>Uo h s
 unfold S0
 refine az.go Ir rfl fun B Q hB hQ=>?_
 have⟨hC,hE,hM,hY⟩:=bE
 repeat' (first
 |simp only[go_sem,hC,hE,hM,hY]
 |(with_reducible refine CU (h1 _) ?_)
 |(with_reducible refine aB hQ ?_;exact bj))
def FK (x:Int):Int:=IntKind.wrap .i64 x
def uz (b:Bool):Int:=if b then 1 else 0
def Rf (op a:Int):Int×Bool:=if op==3 then(FK (0 - a),true)else if op==4 then(uz (a==0),true)else(0,false)
def Rg (op a b:Int):Int×Bool:=
 if b==0 then(0,false)
 else if b == -1 then if op==7 then(0,true)else if a == -9223372036854775808 then(a,true)else(FK (0 - a),true)
 else if op==7 then(a.tmod b,true)else(FK (a.tdiv b),true)
def Rh (op a b:Int):Int×Bool:=
 if op==10 then(uz (decide (a<b)),true)else if op==11 then(uz (decide (a≤b)),true)else if op==12 then(uz (decide (a > b)),true)
 else if op==13 then(uz (decide (a≥b)),true)else if op==14 then(uz (a==b),true)else if op==15 then(uz (!(a==b)),true)else(0,false)
def Ri (op a b:Int):Int×Bool:=
 if op==8 then(FK (a+b),true)else if op==9 then(FK (a - b),true)else if op==5 then(FK (a*b),true)
 else if op==6 ||op==7 then Rg op a b
 else if op==16 then(uz (!(a==0) && !(b==0)),true)else if op==17 then(uz (!(a==0) || !(b==0)),true)
 else Rh op a b
def Rj (name:aF) (names:List aF) (dj:List Int):Int:=if jk name 0 names≥0 then dj.getD (jk name 0 names).toNat 0 else 0
def Jj (op:Int):List (Int×Bool)→Int×Bool
 | []=>(0,false)
 | [a]=>if a.2 then Rf op a.1 else(0,false)
 |a::b::_=>if !a.2 then(0,false)else if op==16 && a.1==0 then(0,true)else if op==17 && !(a.1==0)then(1,true)else if !b.2 then(0,false)else Ri op a.1 b.1
mutual
def Ex.val (names:List aF) (dj:List Int):Ex→Int×Bool
 |⟨op,n,name,kids⟩=>if op==1 then(n,true)else if op==2 then(Rj name names dj,true)else Jj op (Ex.Rk names dj kids)
def Ex.Rk (names:List aF) (dj:List Int):List Ex→List (Int×Bool)
 | []=> []
 |x::l=>x.val names dj::Ex.Rk names dj l
end
def Ex.bU (x:Ex) (names:List aF) (dj:List Int):Int×Bool:=if x.may then x.val names dj else(0,false)
structure Fr where
 proc:Int
 names:List aF
 vars:List Nat
 call:Int
structure Mc where
 st:List Fr
 mem:List Int
 fin:Int
 steps:Int
 reads:Int
 out:List Int
 trace:List (Int×List Int)
def Mc.event (W:List Int) (m:Mc) (id:Int) (dj:List Int):Mc:=if W.contains id then {m with trace:=m.trace++ [(id,dj)]}else m
def Mc.top (m:Mc):Fr:=m.st.headD ⟨0,[],[],0⟩
def Mc.dj (m:Mc):List Int:=m.top.vars.map fun c=>m.mem.getD c 0
def Mc.cell (m:Mc) (name:aF):Nat:=m.top.vars.getD (jk name 0 m.top.names).toNat 0
def Mc.set (m:Mc) (name:aF) (v:Int):Mc:= {m with mem:=m.mem.set (m.cell name) v}
def Mc.bU (m:Mc) (x:Ex):(Int×Bool)×Mc:=
 let r:=x.bU m.top.names m.dj
 (r,if r.2 then m else {m with fin:=4})
def Mc.open (p:Pg) (m:Mc) (i:Int) (params:List Nat) (call:Int):Int×Mc:=
 match p.procs[i.toNat]? with
 |none=>(-1,m)
 |some f=>(gv f.body (-1),{m with st:=⟨i,p.globals++f.own,List.range p.globals.length++params++(List.range f.vars.length).map (m.mem.length + ·),call⟩::m.st,mem:=m.mem++List.replicate f.vars.length 0})
def gj (L:List Im) (id:Int):Im:=L.getD (id - 1).toNat ⟨Hw,0,0,0,0⟩
def Mc.close (L:List Im) (m:Mc) (xR:Int):Int×Mc:=
 let call:=m.top.call
 let m:= {m with st:=m.st.tail}
 if call==0 then(-1,{m with fin:=1})
 else
  let it:=gj L call
  (it.next,if it.s.name == []then m else m.set it.s.name xR)
def Mc.ju (W:List Int) (m:Mc) (s:Sm):Int×Mc:=
 if s.has then
  let r:=m.bU s.x
  (r.1.1,if r.1.2 then r.2.event W s.id [r.1.1]else r.2)
 else(0,m.event W s.id [])
def Mc.args:List Ar→Mc→List Nat→Option (List Nat)×Mc
 | [],m,out=>(some out,m)
 | a::l,m,out=>
  if a.ref then Mc.args l m (out++ [m.cell a.name])
  else
   let r:=m.bU a.x
   if r.1.2 then Mc.args l {r.2 with mem:=r.2.mem++ [r.1.1]} (out++ [r.2.mem.length])else(none,r.2)
def Mc.call (p:Pg) (W:List Int) (m:Mc) (s:Sm):Int×Mc:=
 match Mc.args s.args m []with
 |(none,m)=>(-1,m)
 |(some l,m)=>if m.st.length > 100 then(-1,{m with fin:=5})else(m.event W s.id []).open p (p.at s.proc) l s.id
def firstM (l:List Sm) (other:Int):Int:=gv l other
def Mc.do (p:Pg) (L:List Im) (tape W:List Int) (m:Mc) (it:Im):Int×Mc:=
 let s:=it.s
 if s.kind==7 then((gj L it.loop).next,m.event W s.id [])
 else if s.kind==8 then(it.loop,m.event W s.id [])
 else if s.kind==10 then((match p.procs[it.proc.toNat]? with|some f=>(lf f.fin s.name (Sm.dr f.body)).1|none=>0),m.event W s.id [])
 else if s.kind==2 then
  match tape[m.reads.toNat]? with
  |none=>(-1,{m with fin:=3})
  |some n=>(it.next,(({m with reads:=m.reads+1} : Mc).set s.name n).event W s.id [n])
 else
  let r:=m.bU s.x
  if r.1.2 then
   let m:=r.2.event W s.id [r.1.1]
   let n:=r.1.1
   if s.kind==1 then(it.next,m.set s.name n)
   else if s.kind==3 then(it.next,{m with out:=m.out++ [n]})
   else if s.kind==5 then(if n==0 then firstM s.bd it.next else firstM s.bm it.next,m)
   else if s.kind==6 then(if n==0 then it.next else firstM s.bm s.id,m)
   else(it.next,m)
  else(-1,r.2)
def Mc.back (L:List Im) (m:Mc) (xR:Int):Option Int×Mc:=
 let r:=m.close L xR
 (if r.2.fin==0 then some r.1 else none,r.2)
def Mc.next (p:Pg) (L:List Im) (tape W:List Int) (fuel:Int) (at_:Int) (m:Mc):Option Int×Mc:=
 if at_ == -1 then m.back L 0
 else if m.steps==fuel then(none,{m with fin:=2})
 else
  let m:= {m with steps:=m.steps+1}
  let it:=gj L at_
  if it.s.kind==4 then
   let r:=m.call p W it.s
   (if r.2.fin==0 then some r.1 else none,r.2)
  else if it.s.kind==9 then
   let r:=m.ju W it.s
   if r.2.fin==0 then r.2.back L r.1 else(none,r.2)
  else
   let r:=m.do p L tape W it
   (if r.2.fin==0 then some r.1 else none,r.2)
def Mc.go (p:Pg) (L:List Im) (tape W:List Int) (fuel:Int):Nat→Int→Mc→Option Mc
 | 0,_,_=>none
 |N+1,at_,m=>
  match m.next p L tape W fuel at_ with
  |(none,m)=>some m
  |(some a,m)=>Mc.go p L tape W fuel N a m
def pE (p:Pg):Mc:=⟨[],List.replicate p.globals.length 0,0,0,0,[],[]⟩
def runM (p:Pg) (tape W:List Int) (fuel:Int):Option Mc:=
 let r:=(pE p).open p (p.at mg) [] 0
 Mc.go p p.bh.L tape W fuel (2*fuel.toNat+3) r.1 r.2
set_option maxRecDepth 100000
def aAd:aF:= [112,114,111,99,32,109,97,105,110,40,41,32,123,32,118,97,114,32,118,59,32,114,101,97,100,32,118,59,32,112,40,118,41,59,32,125,32,112,114,111,99,32,112,40,120,41,32,123,32,105,102,32,40,120,32,62,32,48,41,32,123,32,112,40,120,32,45,32,49,41,59,32,125,32,125]
def aij:Pg:=⟨[],[⟨[109,97,105,110],[],[[118]],[⟨1,2,[],[118],[],⟨0,0,[],[]⟩,false,[],[],[]⟩,⟨2,4,[],[],[112],⟨0,0,[],[]⟩,false,[⟨false,[],⟨2,0,[118],[]⟩⟩],[],[]⟩],[]⟩,⟨[112],[⟨[120],false⟩],[],[⟨3,5,[],[],[],⟨12,0,[],[⟨2,0,[120],[]⟩,⟨1,0,[],[]⟩]⟩,false,[],[⟨4,4,[],[],[112],⟨0,0,[],[]⟩,false,[⟨false,[],⟨9,0,[],[⟨2,0,[120],[]⟩,⟨1,1,[],[]⟩]⟩⟩],[],[]⟩],[]⟩],[]⟩]⟩
def aAy:aF:= [103,108,111,98,97,108,32,115,59,32,112,114,111,99,32,109,97,105,110,40,41,32,123,32,118,97,114,32,105,44,32,110,59,32,114,101,97,100,32,110,59,32,97,103,97,105,110,58,32,105,32,61,32,105,32,43,32,49,59,32,105,102,32,40,105,32,62,32,110,41,32,123,32,103,111,116,111,32,111,117,116,59,32,125,32,115,32,61,32,105,32,42,32,105,59,32,105,102,32,40,115,32,37,32,50,32,61,61,32,48,41,32,123,32,103,111,116,111,32,97,103,97,105,110,59,32,125,32,116,101,108,108,40,41,59,32,103,111,116,111,32,97,103,97,105,110,59,32,111,117,116,58,32,125,32,112,114,111,99,32,116,101,108,108,40,41,32,123,32,112,114,105,110,116,32,115,59,32,125]
def as1:Pg:=⟨[[115]],[⟨[109,97,105,110],[],[[105],[110]],[⟨1,2,[],[110],[],⟨0,0,[],[]⟩,false,[],[],[]⟩,⟨2,1,[[97,103,97,105,110]],[105],[],⟨8,0,[],[⟨2,0,[105],[]⟩,⟨1,1,[],[]⟩]⟩,false,[],[],[]⟩,⟨3,5,[],[],[],⟨12,0,[],[⟨2,0,[105],[]⟩,⟨2,0,[110],[]⟩]⟩,false,[],[⟨4,10,[],[111,117,116],[],⟨0,0,[],[]⟩,false,[],[],[]⟩],[]⟩,⟨5,1,[],[115],[],⟨5,0,[],[⟨2,0,[105],[]⟩,⟨2,0,[105],[]⟩]⟩,false,[],[],[]⟩,⟨6,5,[],[],[],⟨14,0,[],[⟨7,0,[],[⟨2,0,[115],[]⟩,⟨1,2,[],[]⟩]⟩,⟨1,0,[],[]⟩]⟩,false,[],[⟨7,10,[],[97,103,97,105,110],[],⟨0,0,[],[]⟩,false,[],[],[]⟩],[]⟩,⟨8,4,[],[],[116,101,108,108],⟨0,0,[],[]⟩,false,[],[],[]⟩,⟨9,10,[],[97,103,97,105,110],[],⟨0,0,[],[]⟩,false,[],[],[]⟩],[[111,117,116]]⟩,⟨[116,101,108,108],[],[],[⟨10,3,[],[],[],⟨2,0,[115],[]⟩,false,[],[],[]⟩],[]⟩]⟩
def ZL:aF:= [112,114,111,99,32,109,97,105,110,40,41,32,123,32,118,97,114,32,105,59,32,119,104,105,108,101,32,40,105,32,60,32,53,41,32,123,32,105,32,61,32,105,32,43,32,49,59,32,105,102,32,40,105,32,61,61,32,50,41,32,123,32,99,111,110,116,105,110,117,101,59,32,125,32,105,102,32,40,105,32,61,61,32,52,41,32,123,32,98,114,101,97,107,59,32,125,32,112,114,105,110,116,32,105,59,32,125,32,112,114,105,110,116,32,49,48,48,32,47,32,40,105,32,45,32,52,41,59,32,125]
def Jk:Pg:=⟨[],[⟨[109,97,105,110],[],[[105]],[⟨1,6,[],[],[],⟨10,0,[],[⟨2,0,[105],[]⟩,⟨1,5,[],[]⟩]⟩,false,[],[⟨2,1,[],[105],[],⟨8,0,[],[⟨2,0,[105],[]⟩,⟨1,1,[],[]⟩]⟩,false,[],[],[]⟩,⟨3,5,[],[],[],⟨14,0,[],[⟨2,0,[105],[]⟩,⟨1,2,[],[]⟩]⟩,false,[],[⟨4,8,[],[],[],⟨0,0,[],[]⟩,false,[],[],[]⟩],[]⟩,⟨5,5,[],[],[],⟨14,0,[],[⟨2,0,[105],[]⟩,⟨1,4,[],[]⟩]⟩,false,[],[⟨6,7,[],[],[],⟨0,0,[],[]⟩,false,[],[],[]⟩],[]⟩,⟨7,3,[],[],[],⟨2,0,[105],[]⟩,false,[],[],[]⟩],[]⟩,⟨8,3,[],[],[],⟨6,0,[],[⟨1,100,[],[]⟩,⟨9,0,[],[⟨2,0,[105],[]⟩,⟨1,4,[],[]⟩]⟩]⟩,false,[],[],[]⟩],[]⟩]⟩
def ZM:aF:= [112,114,111,99,32,109,97,105,110,40,41,32,123,32,118,97,114,32,110,44,32,114,59,32,114,101,97,100,32,110,59,32,114,32,61,32,102,97,99,116,40,110,41,59,32,112,114,105,110,116,32,114,59,32,125,32,112,114,111,99,32,102,97,99,116,40,110,41,32,123,32,118,97,114,32,114,59,32,105,102,32,40,110,32,60,32,50,41,32,123,32,114,101,116,117,114,110,32,49,59,32,125,32,114,32,61,32,102,97,99,116,40,110,32,45,32,49,41,59,32,114,101,116,117,114,110,32,110,32,42,32,114,59,32,125]
def Jl:Pg:=⟨[],[⟨[109,97,105,110],[],[[110],[114]],[⟨1,2,[],[110],[],⟨0,0,[],[]⟩,false,[],[],[]⟩,⟨2,4,[],[114],[102,97,99,116],⟨0,0,[],[]⟩,false,[⟨false,[],⟨2,0,[110],[]⟩⟩],[],[]⟩,⟨3,3,[],[],[],⟨2,0,[114],[]⟩,false,[],[],[]⟩],[]⟩,⟨[102,97,99,116],[⟨[110],false⟩],[[114]],[⟨4,5,[],[],[],⟨10,0,[],[⟨2,0,[110],[]⟩,⟨1,2,[],[]⟩]⟩,false,[],[⟨5,9,[],[],[],⟨1,1,[],[]⟩,true,[],[],[]⟩],[]⟩,⟨6,4,[],[114],[102,97,99,116],⟨0,0,[],[]⟩,false,[⟨false,[],⟨9,0,[],[⟨2,0,[110],[]⟩,⟨1,1,[],[]⟩]⟩⟩],[],[]⟩,⟨7,9,[],[],[],⟨5,0,[],[⟨2,0,[110],[]⟩,⟨2,0,[114],[]⟩]⟩,true,[],[],[]⟩],[]⟩]⟩
def ZN:aF:= [112,114,111,99,32,109,97,105,110,40,41,32,123,32,103,111,116,111,32,105,110,59,32,119,104,105,108,101,32,40,49,41,32,123,32,112,114,105,110,116,32,49,59,32,105,110,58,32,112,114,105,110,116,32,50,59,32,114,101,116,117,114,110,59,32,125,32,125]
def Jm:Pg:=⟨[],[⟨[109,97,105,110],[],[],[⟨1,10,[],[105,110],[],⟨0,0,[],[]⟩,false,[],[],[]⟩,⟨2,6,[],[],[],⟨1,1,[],[]⟩,false,[],[⟨3,3,[],[],[],⟨1,1,[],[]⟩,false,[],[],[]⟩,⟨4,3,[[105,110]],[],[],⟨1,2,[],[]⟩,false,[],[],[]⟩,⟨5,9,[],[],[],⟨0,0,[],[]⟩,false,[],[],[]⟩],[]⟩],[]⟩]⟩
def ZO:aF:= [112,114,111,99,32,109,97,105,110,40,41,32,123,32,118,97,114,32,120,59,32,114,101,97,100,32,120,59,32,112,114,105,110,116,32,120,59,32,114,101,97,100,32,120,59,32,112,114,105,110,116,32,120,59,32,125]
def Jn:Pg:=⟨[],[⟨[109,97,105,110],[],[[120]],[⟨1,2,[],[120],[],⟨0,0,[],[]⟩,false,[],[],[]⟩,⟨2,3,[],[],[],⟨2,0,[120],[]⟩,false,[],[],[]⟩,⟨3,2,[],[120],[],⟨0,0,[],[]⟩,false,[],[],[]⟩,⟨4,3,[],[],[],⟨2,0,[120],[]⟩,false,[],[],[]⟩],[]⟩]⟩
def azH (n:Nat):Bool:=match runM aij [(n:Int)] [] 1000 with
 |some m=>m.fin==(if n<100 then 1 else 5) && (m.steps==(if n<100 then 3+2*(n:Int)else 202) && (m.reads==1 && (m.out == [] && m.trace.isEmpty)))
 |none=>false
def G1:Nat→List Int×Int
 | 0=>([],4)
 |n+1=>if((n+1:Nat):Int).tmod 2==1 then((G1 n).1++ [((n+1:Nat):Int)*((n+1:Nat):Int)],(G1 n).2+5+2)else((G1 n).1,(G1 n).2+5)
def aAe (n:Nat):Bool:=match runM as1 [(n:Int)] [] 1000 with
 |some m=>m.fin==1 && (m.steps==(G1 n).2 && (m.reads==1 && (m.out==(G1 n).1 && m.trace.isEmpty)))
 |none=>false
def CN (p:Pg) (T W:List Int) (fuel fin steps reads:Int) (out:List Int) (tr:Nat):Bool:=match runM p T W fuel with
 |some m=>m.fin==fin && (m.steps==steps && (m.reads==reads && (m.out==out && m.trace.length==tr)))
 |none=>false
theorem Xz:CN Jk [] [1] 100 4 20 0 [1,3] 4=true:=by decide +kernel
theorem XA:CN Jl [21] [] 1000 1 65 1 [-4249290049419214848] 0=true:=by decide +kernel
theorem XB:CN Jm [] [2] 10 1 3 0 [2] 0=true:=by decide +kernel
theorem XC:CN Jn [-9] [] 10 3 3 1 [-9] 0=true:=by decide +kernel
end Go.Abs
namespace Go.Abs
set_option maxRecDepth 8000
open Go.Proofs
theorem XD {T:aF} {p:Pg} {n:Nat} (h:FI n T=some (p,0,0)) (hb:p.may=true) (hc:p.check=(0,0)) (hp:p.size<100000) (hl:T.length<4611686018427387904) (s:St) :
 az Tryz.prog lH [.str T] s (.tuple [.agg (cO p), .agg [.int .i64 0, .int .i64 0]]) s:=by
 refine az.pure ?_ rfl (by simp[D.bI,D.ok,j8]) s
 have h1:=fun s=>abt h hl s
 have ho:p.jc:=⟨BX hb (by omega),by omega⟩
 have h2:=fun s=>Uo ho s
 rw[hc]at h2
 have e1:((0:Int) != 0)=false:=rfl
 unfold S0
 refine az.go Gu rfl fun B Q hB hQ=>?_
 have⟨hC,hE,hM,hY⟩:=bE
 repeat' (first
 |simp only[go_sem,hC,hE,hM,hY,e1,qb]
 |(with_reducible refine CU (h1 _) ?_)
 |(with_reducible refine CU (h2 _) ?_)
 |(with_reducible first|refine aX fun hc=>?_|refine aY fun hc=>?_|refine aZ (fun hc=>?_) fun hc=>?_)<;>(try simp only[hc,bs,↓reduceIte]at h)<;>try simp only[hc]
 |(with_reducible refine aB hQ ?_;(try cases h);simp only[aR,aS,bo,bp,go_sem,hC,hE,hM,hY,e1,qb];try exact bS)
 |(cases h;done))
def DC (os ts:List Nat) (tm:Tm):Tm→Prop
 | []=>True
 |(k,d)::r=>tm.get k=d.de os ts∧d.ok os.length ts.length=true∧DC os ts tm r
theorem DC.get {os ts:List Nat} {tm:Tm} : ∀ {bF:Tm},DC os ts tm bF→∀ k,bF.get k = .junk∨(tm.get k=(bF.get k).de os ts∧(bF.get k).ok os.length ts.length=true)
 | [],_,k=> .inl rfl
 |(q,d)::r,⟨h1,h2,h3⟩,k=>by
  simp only[Tm.get]
  split
  ·rename_i e;subst e;exact .inr ⟨h1,h2⟩
  ·exact h3.get k
section
variable {P:Program} {B:fa} {nt:Nat}
theorem Holds.sel {tm:Tm} {s:St} {act:Act} {w:World} (os:List Nat) (fR:List (List D)) (bF:Tm) (uE:os.Nodup) (jX : ∀ o∈os,o<s.ah.length) (hn:B.s.ah.length≤os.length)
 (hold : ∀ i,i<B.s.ah.length→os[i]? = some i) (dv : ∀ (i o:Nat),os[i]? = some o→B.s.ah.length≤i→B.s.ah.length≤o) (ho:fR.length=os.length)
 (xo : ∀ (i o:Nat) (ds:List D),os[i]? = some o→fR[i]? = some ds→s.ah[o]? = some (D.eW os (List.range s.aw.length) ds)∧D.bI os.length s.aw.length ds=true)
 (Uq:DC os (List.range s.aw.length) tm bF) (h:Holds B nt tm s act w):Holds B nt bF ⟨fR,s.aw⟩ act w:=by
 obtain⟨M,e,r,hr,h1,h2⟩:=h
 have x8:(List.range s.aw.length).length=s.aw.length:=List.length_range
 have rg : ∀ (i t:Nat),(List.range s.aw.length)[i]? = some t→i=t:=fun i t h=>by
  rw[List.getElem?_eq_some_iff]at h
  obtain⟨h3,h4⟩:=h
  simpa using h4
 have r0:Rel (gP M os (List.range s.aw.length)) ⟨fR,s.aw⟩ w:=r.sub uE List.nodup_range jX ho (fun i o ds e1 e2=>by rw[x8];exact xo i o ds e1 e2) x8.symm (fun i t h=>by rw[rg i t h])
 have loc : ∀ (i:Nat) o,os[i]? = some o→(gP M os (List.range s.aw.length)).loc i=M.loc o:=fun i o h=>by simp only[gP,vf h]
 have be : ∀ t,t<s.aw.length→(gP M os (List.range s.aw.length)).be t=M.be t:=fun t h=>by
  have:(List.range s.aw.length)[t]? = some t:=List.getElem?_range h
  simp only[gP,vf this]
 refine⟨gP M os (List.range s.aw.length),⟨⟨e.le.G,by rw[ho];exact hn,fun o h=>?_,e.le.t,fun t n' h e'=>?_⟩,e.kept,fun o h3 h4=>?_,fun t b c z hl hb=>?_,e.sj,e.size,e.os,e.tape,e.output⟩,r0,fun k=>?_,h1,h2⟩
 ·rw[loc o o (hold o h)];exact e.le.loc o h
 ·obtain⟨n,g1,g2,g3⟩:=e.le.tk t n' h e'
  exact⟨n,g1,g2,fun eq=>by rw[be t (Nat.lt_of_lt_of_le h e.le.t)];exact g3 eq⟩
 ·simp only at h4
  rw[ho]at h4
  obtain⟨q,hq⟩ : ∃ q,os[o]? = some q:=⟨_,List.getElem?_eq_getElem h4⟩
  have mX:(gP M os (List.range s.aw.length)).mu o=M.mu q:=congrArg Prod.fst (loc o q hq)
  rw[mX]at h3 ⊢
  refine e.tU q ?_ (jX q (List.mem_of_getElem? hq))
  by_cases h5:B.s.ah.length≤o
  ·exact .inl (dv o q hq h5)
  ·have:=hold o (by omega)
   rw[hq]at this
   cases this
   rcases h3 with h3|h3
   ·exact(h5 h3).elim
   ·exact .inr h3
 ·obtain⟨n,nc⟩:=hl
  have hC:=(List.getElem?_eq_some_iff.1 nc).1
  rw[be t hC]at hb
  exact e.qG t b c z ⟨n,nc⟩ hb
 ·rcases Uq.get k with h3 | ⟨h3,h4⟩
  ·rw[h3];exact .junk _
  ·exact RD.Cq (M:=M) (M0:=gP M os (List.range s.aw.length)) (s:=s) (s0:=⟨fR,s.aw⟩) rfl loc ho (fun i t h=>by
    have:=rg i t h;subst this;exact be i (by have:=(List.getElem?_eq_some_iff.1 h).1;rwa [x8]at this)) (fun i t h=>by rw[rg i t h]) x8.symm (h3 ▸ hr k) _ rfl h4
theorem bg.sel {a:AC} {Q:Exit→Tm→St→Prop} {tm:Tm} {s:St} (os:List Nat) (fR:List (List D)) (bF:Tm) (uE:os.Nodup) (jX : ∀ o∈os,o<s.ah.length) (hn:B.s.ah.length≤os.length)
 (hold : ∀ i,i<B.s.ah.length→os[i]? = some i) (dv : ∀ (i o:Nat),os[i]? = some o→B.s.ah.length≤i→B.s.ah.length≤o) (ho:fR.length=os.length)
 (xo : ∀ (i o:Nat) (ds:List D),os[i]? = some o→fR[i]? = some ds→s.ah[o]? = some (D.eW os (List.range s.aw.length) ds)∧D.bI os.length s.aw.length ds=true)
 (Uq:DC os (List.range s.aw.length) tm bF) (h:bg P B nt a Q bF ⟨fR,s.aw⟩):bg P B nt a Q tm s:=
 fun c hc act w hh=>h c hc act w (hh.sel os fR bF uE jX hn hold dv ho xo Uq)
mutual
def D.fN (o g:Nat) (rows:List (List D)):D→D
 | .eJ z o' g' len=>if o'=o∧g'=g∧len=rows.length then .slice .shared z rows else .eJ z o' g' len
 | .dO row off=> .dO (D.jQ o g rows row) off
 | .slice t z rs=> .slice t z (D.sa o g rows rs)
 | .agg cs=> .agg (D.jQ o g rows cs)
 | .tuple ds=> .tuple (D.jQ o g rows ds)
 | .gn f cs=> .gn f (D.jQ o g rows cs)
 | .ptr o off=> .ptr o off
 | .junk=> .junk
 | .int k x=> .int k x
 | .bool b=> .bool b
 | .str l=> .str l
 | .ew=> .ew
 | .val v=> .val v
 | .fu T o=> .fu T o
 | .fW o=> .fW o
 | .fv o g off=> .fv o g off
 | .eH z=> .eH z
def D.jQ (o g:Nat) (rows:List (List D)):List D→List D
 | []=> []
 |d::r=>D.fN o g rows d::D.jQ o g rows r
def D.sa (o g:Nat) (rows:List (List D)):List (List D)→List (List D)
 | []=> []
 |d::r=>D.jQ o g rows d::D.sa o g rows r
end
theorem oB (o g:Nat) (rows:List (List D)) : ∀ l,D.jQ o g rows l=l.map (D.fN o g rows)
 | []=>by simp[D.jQ]
 |d::r=>by simp[D.jQ,oB o g rows r]
theorem NN (o g:Nat) (rows:List (List D)) : ∀ l,D.sa o g rows l=l.map (D.jQ o g rows)
 | []=>by simp[D.sa]
 |d::r=>by simp[D.sa,NN o g rows r]
theorem RD.fN {M:Map} {s:St} {o g:Nat} {rows:List (List D)} {b cap z:Nat} {A:Nat→Option (Nat×Nat)} (hm:M.ob o = .arr z A) (ha:A g=some (b,cap))
 (hs : ∀ row∈rows,row.length=z) (h1 : ∀ (i:Nat) (row:List D) (j:Nat) (d:D),rows[i]? = some row→row[j]? = some d→∃ u,M.G b (0+(i*z+j))=some u)
 (h2 : ∀ (i:Nat) (row:List D) (j:Nat) (d:D) (u:Value),rows[i]? = some row→row[j]? = some d→M.G b (0+(i*z+j))=some u→RD M s d u)
 {d:D} {v:Value} (h:RD M s d v):RD M s (d.fN o g rows) v:=by
 induction h with
 | eJ z' o' g' len b' qJ A' ho Ah wF hl=>
  simp only[D.fN]
  split
  ·rename_i hc
   obtain⟨rfl,rfl,rfl⟩:=hc
   rw[hm]at Ah
   cases Ah
   rw[ha]at wF
   cases wF
   exact .slice .shared z rows b 0 cap hl hs h1 h2 trivial
  ·exact .eJ z' o' g' len b' qJ A' ho Ah wF hl
 |fv z' o' g' off b' qJ A' ho Ah wF=>simp only[D.fN];exact .fv z' o' g' off b' qJ A' ho Ah wF
 |eH z a=>simp only[D.fN];exact .eH z a
 |junk v=>simp only[D.fN];exact .junk v
 |int k x=>simp only[D.fN];exact .int k x
 |bool b=>simp only[D.fN];exact .bool b
 |str l=>simp only[D.fN];exact .str l
 |ew=>simp only[D.fN];exact .ew
 |val v hv=>simp only[D.fN];exact .val v hv
 |fu T o v h ht hv=>simp only[D.fN];exact .fu T o v h ht hv
 |fW o h hm=>simp only[D.fN];exact .fW o h hm
 |ptr o off h hm=>simp only[D.fN];exact .ptr o off h hm
 |gn f ds vs hl _ ih=>
  simp only[D.fN,oB]
  refine .gn f _ vs (by simpa using hl) (fun i d v e1 e2=>?_)
  simp only[List.getElem?_map,Option.map_eq_some_iff]at e1
  obtain⟨d',e1,rfl⟩:=e1
  exact ih i d' v e1 e2
 | dO row off b k h1 h2 ih=>
  simp only[D.fN,oB]
  refine .dO _ off b k (fun i d e=>?_) (fun i d u e eu=>?_)
  ·simp only [List.getElem?_map,Option.map_eq_some_iff]at e
   obtain⟨d',e,rfl⟩:=e
   exact h1 i d' e
  ·simp only [List.getElem?_map,Option.map_eq_some_iff]at e
   obtain⟨d',e,rfl⟩:=e
   exact ih i d' u e eu
 |jv t z cap hc ht=>simp only[D.fN,D.sa];exact .jv _ z cap hc ht
 |mr z a cap=>simp only[D.fN,D.sa];exact .mr z a cap
 | slice t z rs b k cap hl hs h1 h2 ht ih=>
  simp only[D.fN,NN]
  have hlen:(rs.map (D.jQ o g rows)).length=rs.length:=by simp
  have key:=RD.slice (M:=M) (s:=s) t z (rs.map (D.jQ o g rows)) b k cap (by rw[hlen];exact hl) (fun row hr=>by
   obtain⟨jy,h',rfl⟩:=List.mem_map.1 hr
   rw[oB,List.length_map];exact hs jy h')
   (fun i row j d e1 e2=>by
    simp only[List.getElem?_map,Option.map_eq_some_iff]at e1
    obtain⟨jy,e1,rfl⟩:=e1
    rw[oB]at e2
    simp only[List.getElem?_map,Option.map_eq_some_iff]at e2
    obtain⟨d',e2,rfl⟩:=e2
    exact h1 i jy j d' e1 e2)
   (fun i row j d u e1 e2 eu=>by
    simp only[List.getElem?_map,Option.map_eq_some_iff]at e1
    obtain⟨jy,e1,rfl⟩:=e1
    rw[oB]at e2
    simp only[List.getElem?_map,Option.map_eq_some_iff]at e2
    obtain⟨d',e2,rfl⟩:=e2
    exact ih i jy j d' u e1 e2 eu)
   (by rw[hlen];exact ht)
  rw[hlen]at key
  exact key
 |agg cells vs hl h1 _ ih=>
  simp only[D.fN,oB]
  refine .agg _ vs (by simpa using hl) h1 (fun i d v e1 e2=>?_)
  simp only[List.getElem?_map,Option.map_eq_some_iff]at e1
  obtain⟨d',e1,rfl⟩:=e1
  exact ih i d' v e1 e2
 |tuple ds vs hl _ ih=>
  simp only[D.fN,oB]
  refine .tuple _ vs (by simpa using hl) (fun i d v e1 e2=>?_)
  simp only[List.getElem?_map,Option.map_eq_some_iff]at e1
  obtain⟨d',e1,rfl⟩:=e1
  exact ih i d' v e1 e2
def fzR (o g:Nat) (rows:List (List D)) (n m:Nat) (ds:List D):List D:=D.gA n m (D.jQ o g rows ds)
def ZP (o g:Nat) (rows:List (List D)) (m:Nat) (tm:Tm):Tm→Prop
 | []=>True
 |(k,d)::r=>Wk (((tm.get k).fN o g rows).fg o m) d∧ZP o g rows m tm r
end
end Go.Abs
namespace Go.Abs
mutual
def D.flat:D→Bool
 | .int _ _=>true
 | .bool _=>true
 | .str _=>true
 | .tuple ds=>D.FL ds
 |_=>false
def D.FL:List D→Bool
 | []=>true
 |d::r=>d.flat && D.FL r
end
theorem H7 : ∀ {l:List D},D.FL l=true→∀ {i:Nat} {d:D},l[i]? = some d→d.flat=true
 | [],_,i,d,e=>by simp at e
 |a::l,h,i,d,e=>by
  simp only[D.FL,Bool.and_eq_true]at h
  cases i with
  |zero=>simp at e;subst e;exact h.1
  |succ i=>exact H7 h.2 (by simpa using e)
theorem RD.flat {M M':Map} {s s':St} {d:D} {v:Value} (h:RD M s d v):d.flat=true→RD M' s' d v:=by
 induction h with
 |int k n=>exact fun _=> .int k n
 |bool b=>exact fun _=> .bool b
 |str l=>exact fun _=> .str l
 |tuple ds vs hl _ ih=>exact fun hf=> .tuple ds vs hl fun i d v e1 e2=>ih i d v e1 e2 (H7 (by simpa only[D.flat]using hf) e1)
 |_=>intro hf;simp only[D.flat,Bool.false_eq_true]at hf
theorem NO {n m:Nat} : ∀ {l:List D},D.bI n m l=true→∀ {i:Nat} {d:D},l[i]? = some d→d.ok n m=true
 | [],_,i,d,e=>by simp at e
 |a::l,h,i,d,e=>by
  simp only[D.bI,Bool.and_eq_true]at h
  cases i with
  |zero=>simp at e;subst e;exact h.1
  |succ i=>exact NO h.2 (by simpa using e)
theorem Rel.Dm {M:Map} {s:St} {w w':World} (r:Rel M s w) (Dm : ∀ k,k<w.heap.size→w'.heap[k]? = w.heap[k]?) (hs:w.heap.size≤w'.heap.size) (h1:w'.os=w.os) (h2:w'.tape=w.tape) (h3:w'.output=w.output) :
 Rel M s w'∧Ext M s w M s w':=by
 refine⟨⟨fun p o v e=>?_,fun o ds e=>?_,r.jZ,r.inj,fun t n e=>?_,r.fh,r.fX⟩,⟨Le.refl M s,fun k hk _ _=>Dm k hk,fun o h h'=>by rcases h with h|h;omega;exact(h rfl).elim,fun t b c z h e=> .inl ⟨h,c,z,e⟩,fun _ _ h=>(h rfl).elim,hs,h1,h2,h3⟩⟩
 ·obtain⟨h1,h2⟩:=r.comm p o v e
  refine⟨?_,h2⟩
  rw[← h1]
  simp only[World.cell?,Dm _ (r.A5 e)]
 ·obtain⟨vs,T,h1,h2⟩:=r.obj o ds e
  exact⟨vs,T,h1.keep (Dm _ h1.lt),h2⟩
 ·rcases r.tok t n e with h | ⟨p,cap,z,vs,T,h1,h2,h3⟩
  ·exact .inl h
  ·exact .inr ⟨p,cap,z,vs,T,h1,by rw[Dm _ (kv h2)];exact h2,h3⟩
theorem az.as2 {P:Program} {f:FuncId} {args:List D} {d:D} {s:St} {o g z:Nat} {rows:List (List D)} {k:Nat} (hk:args[k]? = some (.eJ z o g rows.length)) {more:List D}
 (eD:s.ah[o]? = some (.int .i64 (g:Int)::(rows.flatten++more))) (hs : ∀ row∈rows,row.length=z) (h:az P f (D.jQ o g rows args) S0 d S0) (ha:D.bI 0 0 (D.jQ o g rows args)=true)
 (hd:d.flat=true):az P f args s d s:=by
 intro M w fL r hl ej zo
 have hC:=(List.getElem?_eq_some_iff.1 hk).1
 obtain⟨b0,aAz,A,_,_,hm,_⟩:=(zo k _ _ hk (Array.getElem?_eq_getElem (by omega))).ya
 have ij:nS s o g=some (rows.flatten++more):=by unfold nS;rw[eD];simp
 obtain⟨us,T,cap,hh,ye,Dj,aAA,hle,ic,jC⟩:=r.JM hm ij
 have GO:o<s.ah.length:=(List.getElem?_eq_some_iff.1 eD).1
 have hGo : ∀ q,M.G (M.mu o) q=none:=r.jZ o GO
 let M':Map:= {M with G:=fun b q=>if b=M.mu o then us[q]? else M.G b q}
 have qh : ∀ b,b≠M.mu o→∀ q,M'.G b q=M.G b q:=fun b hb q=>if_neg hb
 have le:Le M s M' s:=⟨fun b q v hq=>by
  by_cases hb:b=M.mu o
  ·subst hb;rw[hGo]at hq;cases hq
  ·rw[qh b hb];exact hq,Nat.le_refl _,fun _ _=> .refl _,Nat.le_refl _,fun t n' _ e=>⟨n',e,Nat.le_refl _,fun _=>rfl⟩⟩
 have kM : ∀ (i:Nat) (row:List D) (j:Nat) (d:D),rows[i]? = some row→row[j]? = some d→(rows.flatten++more)[i*z+j]? = some d:=by
  have gen : ∀ (rows:List (List D)),(∀ row∈rows,row.length=z)→∀ (i:Nat) (row:List D) (j:Nat) (d:D),rows[i]? = some row→row[j]? = some d→rows.flatten[i*z+j]? = some d:=by
   intro rows
   induction rows with
   |nil=>intro _ i row j d e1;simp at e1
   | cons a rows ih=>
    intro hs i row j d e1 e2
    have As:=hs a (List.mem_cons_self ..)
    rw[List.flatten_cons]
    cases i with
    |zero=>
     simp at e1;subst e1
     rw[Nat.zero_mul,Nat.zero_add,List.getElem?_append_left (List.getElem?_eq_some_iff.1 e2).1];exact e2
    |succ i=>
     rw[List.getElem?_append_right (by rw[Nat.add_mul];omega),As,show(i+1)*z+j - z=i*z+j by rw[Nat.add_mul];omega]
     exact ih (fun q hq=>hs q (List.mem_cons_of_mem _ hq)) i row j d (by simpa using e1) e2
  intro i row j d e1 e2
  have:=gen rows hs i row j d e1 e2
  rw[List.getElem?_append_left (List.getElem?_eq_some_iff.1 this).1];exact this
 have g1 : ∀ (i:Nat) (row:List D) (j:Nat) (d:D),rows[i]? = some row→row[j]? = some d→∃ u,M'.G (M.mu o) (0+(i*z+j))=some u:=fun i row j d e1 e2=>by
  have hC:=(List.getElem?_eq_some_iff.1 (kM i row j d e1 e2)).1
  refine⟨us[i*z+j]'(by omega), ?_⟩
  show(if M.mu o=M.mu o then us[0+(i*z+j)]? else _)=_
  rw[if_pos rfl,Nat.zero_add]
  exact Array.getElem?_eq_getElem _
 have g2 : ∀ (i:Nat) (row:List D) (j:Nat) (d:D) (u:Value),rows[i]? = some row→row[j]? = some d→M'.G (M.mu o) (0+(i*z+j))=some u→RD M' s d u:=fun i row j d u e1 e2 eu=>by
  have Fg:(if M.mu o=M.mu o then us[0+(i*z+j)]? else M.G (M.mu o) (0+(i*z+j)))=some u:=eu
  rw[if_pos rfl,Nat.zero_add]at Fg
  exact(jC _ d u (kM i row j d e1 e2) Fg).mono le
 have r0:Rel M' S0 w:=⟨fun b q v hq=>by
  have mJ:(if b=M.mu o then us[q]? else M.G b q)=some v:=hq
  by_cases hb:b=M.mu o
  ·rw [if_pos hb]at mJ
   rw[hb,jm hh]
   exact⟨mJ,ic v (Array.mem_of_getElem? mJ)⟩
  ·rw [if_neg hb]at mJ
   exact r.comm b q v mJ,fun o ds e=>by simp[S0]at e,fun o h=>by simp[S0]at h,fun o _ h=>by simp[S0]at h,fun t n e=>by simp[S0]at e,
  fun t b c z o hl _ ho=>by simp[S0]at ho,fun t t' b c z c' z' hl=>by obtain⟨n,hn⟩:=hl;simp[S0]at hn⟩
 have l0:Laid M' S0 w:=fun q cs hq=>⟨(hl q cs hq).1,fun o ho=>by simp[S0]at ho,fun t c z ht=>by obtain⟨n,hn⟩:=ht;simp[S0]at hn⟩
 have a0 : ∀ (i:Nat) (d:D) (v:Value),(D.jQ o g rows args)[i]? = some d→fL[i]? = some v→RD M' S0 d v:=fun i d0 v e1 e2=>by
  have pV:=NO ha e1
  rw[oB,List.getElem?_map,Option.map_eq_some_iff]at e1
  obtain⟨d1,e1,rfl⟩:=e1
  have wW:=((zo i d1 v e1 e2).mono le).fN (M:=M') hm ye hs g1 g2
  exact RD.Cq (M:=M') (M0:=M') (s:=s) (s0:=S0) (os:= []) (ts:= []) rfl (by simp) rfl (by simp) (by simp) rfl wW _ (qL _ _ _ pV) pV
 refine(h M' w fL r0 l0 (by rw[ej,oB,List.length_map]) a0).mono fun e w' ⟨M2,d2,v,s2,h1,⟨h2,h3⟩,hx,_,h4⟩=>?_
 subst h2 h3
 have Dm : ∀ k,k<w.heap.size→w'.heap[k]? = w.heap[k]? :=fun k hk=>hx.kept k hk (fun o ho=>by simp[S0]at ho) (fun t c z ht=>by obtain⟨n,hn⟩:=ht;simp[S0]at hn)
 obtain⟨r',e'⟩:=r.Dm Dm hx.size hx.os hx.tape hx.output
 exact⟨M,d2,v,s,h1,⟨rfl,rfl⟩,e',r',h4.flat hd⟩
section
variable {P:Program} {B:fa} {nt:Nat}
theorem bL.uM {f:FuncId} {res:List (Nat×Option (Bool×Nat))} {body:AC} {args:List D} {s:St} {R:D→St→Prop} (h0:Has P f nt res body) (hl:Nat.ble args.length nt=true)
 (h : ∀ (B:fa) (Q:Exit→Tm→St→Prop),B.s=s→Vm res R=Q→gF P B nt body Q (mS 0 args) s):bL P f args s R:=by
 obtain⟨fn,hf,hc⟩:=h0
 refine bL.IQ (bL.Sl (Q:=R) hf hc (Nat.le_of_ble_eq_true hl) fun B hB=>gG (h B _ hB rfl)) fun d s1 h=>⟨d,s1,Wk.refl _,gB.refl _,rfl,h⟩
theorem gV {res:List (Nat×Option (Bool×Nat))} {R:D→St→Prop} {tm:Tm} {s:St} {e:Exit} {Q:Exit→Tm→St→Prop} (hQ:Vm res R=Q) (h : ∃ l,aR res tm s=some l∧R (aS l) s) (he:e = .ret∨e = .normal:=by first|exact .inl rfl|exact .inr rfl):Q e tm s:=by
 subst hQ
 rcases he with rfl|rfl<;>exact h
def upD (R:D→St→Prop) (d:D) (s:St):Prop:=∃ d' s',Wk d d'∧gB s.ah s'.ah∧s.aw=s'.aw∧R d' s'
theorem bL.up {f:FuncId} {args:List D} {s:St} {R:D→St→Prop} (h:bL P f args s (upD R)):bL P f args s R:=
 bL.IQ h fun d s1 ⟨d',s',h1,h2,h3,h4⟩=>⟨d',s',h1,h2,h3,h4⟩
def wb (tm:Tm):Tm→Prop
 | []=>True
 |(k,d)::r=>Wk (tm.get k) d∧wb tm r
theorem wb.get {tm:Tm} : ∀ {bF:Tm},wb tm bF→∀ t,Wk (tm.get t) (bF.get t)
 | [],_,t=>Wk.junk _
 |(k,d)::r,h,t=>by
  simp only[Tm.get]
  split
  ·rename_i hk;subst hk;exact h.1
  ·exact wb.get h.2 t
theorem afv (tm:Tm):wb tm [] = True:=nd rfl
theorem afw (tm:Tm) (k:Nat) (d:D) (r:Tm):wb tm ((k,d)::r)=(Wk (tm.get k) d∧wb tm r):=nd rfl
attribute [go_sem] afv afw
theorem Holds.pZ {tm bF:Tm} {s:St} {act:Act} {w:World} (ht:wb tm bF) (h:Holds B nt tm s act w):Holds B nt bF s act w:=by
 obtain⟨M,e,r,hr,h1,h2⟩:=h
 exact⟨M,e,r,fun k=>ht.get k _ _ _ (hr k),h1,h2⟩
theorem bg.pZ {a:AC} {Q:Exit→Tm→St→Prop} {tm bF:Tm} {s:St} (ht:wb tm bF) (h:bg P B nt a Q bF s):bg P B nt a Q tm s:=fun c hc act w hh=>h c hc act w (hh.pZ ht)
theorem je.pZ {a r:AC} {Q:Exit→Tm→St→Prop} {tm bF:Tm} {s:St} (ht:wb tm bF) (h:je P B nt a r Q bF s):je P B nt a r Q tm s:=fun c rest hc hr act w hh=>h c rest hc hr act w (hh.pZ ht)
theorem Sem.pZ {a:AC} {Q:Exit→Tm→St→Prop} {tm bF:Tm} {s:St} (ht:wb tm bF) (h:Sem P B nt a Q bF s):Sem P B nt a Q tm s:=fun c hc act w hh=>h c hc act w (hh.pZ ht)
end
theorem gi {s:St} {o:Nat} {r:List D} (h:s.ah[o]? = some r):o<s.ah.length:=(List.getElem?_eq_some_iff.1 h).1
theorem NP {s:St} {a b:Nat} {r r':List D} (h:s.ah[a]? = some r) (h':s.ah[b]? = some r') (hn:r≠r'):a≠b:=fun e=>by subst e;rw[h]at h';cases h';exact hn rfl
end Go.Abs
namespace Go.Abs
section
variable (s:St) (o g off len k z size bytes:Nat) (kk:IntKind)
theorem ail:nS s o g=match s.ah[o]? with|some (.int .i64 n::cells)=>if n=(g:Int)then some cells else none|_=>none:=nd rfl
theorem afx (agg:Bool):zb (.fv o g off) agg size s=match nS s o g with|some cells=>(match part cells off agg size with|some d=>some (d,s)|none=>none)|none=>none:=nd rfl
theorem abv (r:List D):A2 (.fv o g off) (some r) size s=match nS s o g with
 |some cells=>if r.length=size∧off+size≤cells.length then some (.tuple [],⟨s.ah.set o (.int .i64 g::iG cells off r),s.aw⟩)else none
 |none=>none:=nd rfl
theorem aim:N6 (.fv o g off)=some (.fv o g off):=nd rfl
theorem abw:Er (.fv o g k) off=some (.fv o g (k+off)):=nd rfl
theorem abx:xZ (.eJ z o g len) (.int kk (k:Int)) size=if k<len then(if z=size then some (.fv o g (k*z))else none)else none:=by
 simp only[xZ]
 by_cases h1:k<len<;>by_cases h2:z=size<;>simp[h1,h2]
theorem ain:F7 (.eJ z o g len)=some (.int .i64 len):=nd rfl
theorem afy:F7 (.eH z)=some (.int .i64 0):=nd rfl
theorem LH {z bytes:Nat} (t:Tag) (r:List D) (s:St) (hm:bytes+1≤bA):A3 z bytes (.eH z) (.slice t z [r]) s=some (.eJ z s.ah.length 0 1,⟨s.ah++ [.int .i64 ((0:Nat):Int)::r],s.aw⟩):=by
 simp[A3,hm]
theorem aio (n m:Nat):D.fg n m (.eJ z o g len)=if o<n then .eJ z o g len else .junk:=nd (by simp only[D.fg])
theorem aip (n m:Nat):D.fg n m (.fv o g off)=if o<n then .fv o g off else .junk:=nd (by simp only[D.fg])
theorem aiq (n m:Nat):D.fg n m (.eH z) = .eH z:=nd (by simp only[D.fg])
theorem afz:(D.eJ z o g len).row=some [.eJ z o g len]:=nd rfl
theorem afA:(D.fv o g off).row=some [.fv o g off]:=nd rfl
theorem afB:(D.eH z).row=some [.eH z]:=nd rfl
end
attribute [go_sem] ail afx abv aim abw abx ain afy aio aip aiq afz afA afB
theorem Wk.eH (z z':Nat):Wk (.slice .full z []) (.eH z'):=fun M s v h=>by
 cases h with
 |jv _ _ cap hc ht=>subst hc;exact .eH z' none
 |slice _ _ _ b k cap hl hs h1 h2 ht=>
  have:cap=0:=ht
  subst this
  exact .eH z' _
instance (z z':Nat):Ok (Wk (.slice .full z []) (.eH z')):=⟨Wk.eH z z'⟩
instance {a a' b b':List D} [Ok (jz a a')] [Ok (jz b b')] : Ok (jz (a++b) (a'++b')):=⟨jz.append Ok.out Ok.out⟩
theorem air (n m:Nat) (a b:List D):D.gA n m (a++b)=D.gA n m a++D.gA n m b:=nd (by simp only[ng,List.map_append])
attribute [go_sem] air
def B9 (os:List Nat) (m:Nat) (ah:List (List D)):List Nat→List (List D)→Prop
 | [],[]=>True
 |o::l,ds::r=>ah[o]? = some (D.eW os (List.range m) ds)∧D.bI os.length m ds=true∧B9 os m ah l r
 |_,_=>False
theorem B9.get {os:List Nat} {m:Nat} {ah:List (List D)} : ∀ {l:List Nat} {r:List (List D)},B9 os m ah l r→r.length=l.length∧∀ (i o:Nat) (ds:List D),l[i]? = some o→r[i]? = some ds→ah[o]? = some (D.eW os (List.range m) ds)∧D.bI os.length m ds=true
 | [],[],_=>⟨rfl,fun i o ds h=>by simp at h⟩
 |o::l,ds::r,⟨h1,h2,h3⟩=>by
  obtain⟨g1,g2⟩:=h3.get
  refine⟨by simp[g1],fun i o' tn e1 e2=>?_⟩
  cases i with
  |zero=>simp at e1 e2;subst e1 e2;exact⟨h1,h2⟩
  |succ i=>exact g2 i o' tn (by simpa using e1) (by simpa using e2)
 | [],_::_,h=>h.elim
 |_::_,[],h=>h.elim
section
variable {P:Program} {B:fa} {nt:Nat} {a:AC} {Q:Exit→Tm→St→Prop} {tm:Tm} {s:St}
theorem bg.as3 (hB:B.s = ⟨[],[]⟩) (os:List Nat) (fR:List (List D)) (bF:Tm) (uE:os.Nodup) (jX : ∀ o∈os,o<s.ah.length) (xo:B9 os s.aw.length s.ah os fR) (Uq:DC os (List.range s.aw.length) tm bF)
 (h:bg P B nt a Q bF ⟨fR,s.aw⟩):bg P B nt a Q tm s:=
 bg.sel os fR bF uE jX (by rw[hB];exact Nat.zero_le _) (fun i h=>by rw[hB]at h;exact absurd h (Nat.not_lt_zero _)) (fun i o _ _=>by rw[hB];exact Nat.zero_le _) xo.get.1 xo.get.2 Uq h
end
section
variable (os ts:List Nat) (n m:Nat)
theorem ais (o off:Nat):D.de os ts (.ptr o off)=match os[o]? with|some o'=> .ptr o' off|none=> .junk:=nd (by simp only[D.de]<;>rfl)
theorem ait (z o g len:Nat):D.de os ts (.eJ z o g len)=match os[o]? with|some o'=> .eJ z o' g len|none=> .junk:=nd (by simp only[D.de]<;>rfl)
theorem aby (g:Tag) (z:Nat) (rows:List (List D)):D.de os ts (.slice g z rows) = .slice (g.de ts) z (D.nW os ts rows):=nd (by simp only[D.de])
theorem aiu (l:List D):D.de os ts (.agg l) = .agg (D.eW os ts l):=nd (by simp only[D.de])
theorem afC:D.de os ts .junk = .junk:=nd (by simp only[D.de])
theorem aiv (k:IntKind) (x:Int):D.de os ts (.int k x) = .int k x:=nd (by simp only[D.de])
theorem afD (b:Bool):D.de os ts (.bool b) = .bool b:=nd (by simp only[D.de])
theorem aiw (l:List UInt8):D.de os ts (.str l) = .str l:=nd (by simp only[D.de])
theorem afE:D.de os ts .ew = .ew:=nd (by simp only[D.de])
theorem afF (z:Nat):D.de os ts (.eH z) = .eH z:=nd (by simp only[D.de])
theorem abz:D.eW os ts [] = []:=nd (by simp only[D.eW])
theorem abA (d:D) (l:List D):D.eW os ts (d::l)=D.de os ts d::D.eW os ts l:=nd (by simp only[D.eW])
theorem XE:Tag.de ts .shared = .shared:=nd rfl
theorem afG:Tag.de ts .full = .full:=nd rfl
theorem abB (o off:Nat):D.ok n m (.ptr o off)=decide (o<n):=nd (by simp only[D.ok])
theorem abC (z o g len:Nat):D.ok n m (.eJ z o g len)=decide (o<n):=nd (by simp only[D.ok])
theorem Ur (g:Tag) (z:Nat) (rows:List (List D)):D.ok n m (.slice g z rows)=(g.ok m && D.gY n m rows):=nd (by simp only[D.ok])
theorem abD (l:List D):D.ok n m (.agg l)=D.bI n m l:=nd (by simp only[D.ok])
theorem XF:D.ok n m .junk=true:=nd (by simp only[D.ok])
theorem abE (k:IntKind) (x:Int):D.ok n m (.int k x)=true:=nd (by simp only[D.ok])
theorem XG (b:Bool):D.ok n m (.bool b)=true:=nd (by simp only[D.ok])
theorem abF (l:List UInt8):D.ok n m (.str l)=true:=nd (by simp only[D.ok])
theorem XH:D.ok n m .ew=true:=nd (by simp only[D.ok])
theorem XI (z:Nat):D.ok n m (.eH z)=true:=nd (by simp only[D.ok])
theorem afH:D.bI n m [] = true:=nd (by simp only[D.bI])
theorem afI (d:D) (l:List D):D.bI n m (d::l)=(D.ok n m d && D.bI n m l):=nd (by simp only[D.bI])
theorem Rm:Tag.ok m .shared=true:=nd rfl
theorem XJ:Tag.ok m .full=true:=nd rfl
theorem abG (os:List Nat) (m:Nat) (ah:List (List D)):B9 os m ah [] [] = True:=nd rfl
theorem abH (os:List Nat) (m:Nat) (ah:List (List D)) (o:Nat) (l:List Nat) (ds:List D) (r:List (List D)):B9 os m ah (o::l) (ds::r)=(ah[o]? = some (D.eW os (List.range m) ds)∧D.bI os.length m ds=true∧B9 os m ah l r):=nd rfl
theorem afJ (tm:Tm):DC os ts tm [] = True:=nd rfl
theorem afK (tm:Tm) (k:Nat) (d:D) (r:Tm):DC os ts tm ((k,d)::r)=(tm.get k=d.de os ts∧d.ok os.length ts.length=true∧DC os ts tm r):=nd rfl
theorem LI (rows:List (List D)) (h:D.gY 0 0 rows=true):D.nW os ts rows=rows:=ik os ts rows h
theorem FM (row:List D) (h:D.bI 0 0 row=true):D.eW os ts row=row:=fb os ts row h
theorem Rn (rows:List (List D)) (h:D.gY 0 0 rows=true):D.gY n m rows=true:=lG (Nat.zero_le n) (Nat.zero_le m) rows h
theorem Jo (row:List D) (h:D.bI 0 0 row=true):D.bI n m row=true:=gH (Nat.zero_le n) (Nat.zero_le m) row h
theorem NQ (p:Pg):D.eW os ts (cO p)=cO p:=FM _ _ _ (j8 p)
theorem abI (p:Sm):D.eW os ts (bb p)=bb p:=FM _ _ _ (nj p)
theorem XK (l:List Pc):D.nW os ts (l.map cJ)=l.map cJ:=LI _ _ _ (wL l)
theorem XL (l:List Sm):D.nW os ts (l.map bb)=l.map bb:=LI _ _ _ (oQ l)
theorem Us (l:List aF):D.nW os ts (l.map encStr)=l.map encStr:=LI _ _ _ (eF l)
theorem abJ (p:Pc):D.eW os ts (cJ p)=cJ p:=FM _ _ _ (xw p)
theorem afL (p:Pc):D.bI n m (cJ p)=true:=Jo _ _ _ (xw p)
theorem Ut (p:Pg):D.bI n m (cO p)=true:=Jo _ _ _ (j8 p)
theorem afM (p:Sm):D.bI n m (bb p)=true:=Jo _ _ _ (nj p)
theorem abK (l:List Pc):D.gY n m (l.map cJ)=true:=Rn _ _ _ (wL l)
theorem abL (l:List Sm):D.gY n m (l.map bb)=true:=Rn _ _ _ (oQ l)
theorem XM (l:List aF):D.gY n m (l.map encStr)=true:=Rn _ _ _ (eF l)
theorem Ro : ∀ l:List Pc,D.bI 0 0 ((l.map cJ).flatten)=true:=fun l=>by
 have h:=wL l
 rw[EE,List.all_eq_true]at h
 rw[yl,List.all_eq_true]
 intro d hd
 obtain⟨r,hr,hd⟩:=List.mem_flatten.1 hd
 have:=h r hr
 rw[yl,List.all_eq_true]at this
 exact this d hd
theorem XN (l:List Pc):D.eW os ts ((l.map cJ).flatten)=(l.map cJ).flatten:=FM _ _ _ (Ro l)
theorem abM (l:List Pc):D.bI n m ((l.map cJ).flatten)=true:=Jo _ _ _ (Ro l)
theorem abN (l:List Pc):D.gA n m ((l.map cJ).flatten)=(l.map cJ).flatten:=il _ _ _ (Ro l)
end
attribute [go_sem] abJ afL ais ait aby aiu afC aiv afD aiw afE afF abz abA XE afG abB abC Ur abD XF abE XG abF XH XI afH afI Rm XJ abG abH afJ afK NQ abI XK XL Us Ut afM abK abL XM XN abM abN
mutual
theorem LJ (o g:Nat) (rows:List (List D)) : ∀ d,D.ok 0 0 d=true→D.fN o g rows d=d
 | .junk,_=>by simp[D.fN]
 | .int k n,_=>by simp[D.fN]
 | .bool b,_=>by simp[D.fN]
 | .str l,_=>by simp[D.fN]
 | .ew,_=>by simp[D.fN]
 | .val v,_=>by simp[D.fN]
 | .eH z,_=>by simp[D.fN]
 | .fu T o,h=>by simp[D.ok]at h
 | .fW o,h=>by simp[D.ok]at h
 | .eJ z o g len,h=>by simp[D.ok]at h
 | .fv o g off,h=>by simp[D.ok]at h
 | .ptr o f,h=>by simp[D.ok]at h
 | .gn f cs,h=>by
  simp only[D.ok]at h
  simp only[D.fN,sI o g rows cs h]
 | .dO r f,h=>by
  simp only[D.ok]at h
  simp only[D.fN,sI o g rows r h]
 | .slice t z rs,h=>by
  simp only[D.ok,Bool.and_eq_true]at h
  simp only[D.fN,yY o g rows rs h.2]
 | .agg cs,h=>by
  simp only[D.ok]at h
  simp only[D.fN,sI o g rows cs h]
 | .tuple cs,h=>by
  simp only[D.ok]at h
  simp only[D.fN,sI o g rows cs h]
theorem sI (o g:Nat) (rows:List (List D)) : ∀ l,D.bI 0 0 l=true→D.jQ o g rows l=l
 | [],_=>by simp[D.jQ]
 |d::r,h=>by
  simp only[D.bI,Bool.and_eq_true]at h
  simp only[D.jQ,LJ o g rows d h.1,sI o g rows r h.2]
theorem yY (o g:Nat) (rows:List (List D)) : ∀ l,D.gY 0 0 l=true→D.sa o g rows l=l
 | [],_=>by simp[D.sa]
 |d::r,h=>by
  simp only[D.gY,Bool.and_eq_true]at h
  simp only[D.sa,sI o g rows d h.1,yY o g rows r h.2]
end
section
variable (o g:Nat) (rows:List (List D)) (n m:Nat)
theorem aix (q off:Nat):D.fN o g rows (.ptr q off) = .ptr q off:=nd (by simp only[D.fN])
theorem afN (q h off:Nat):D.fN o g rows (.fv q h off) = .fv q h off:=nd (by simp only[D.fN])
theorem aiy (z o' g' len:Nat):D.fN o g rows (.eJ z o' g' len)=if o'=o∧g'=g∧len=rows.length then .slice .shared z rows else .eJ z o' g' len:=nd (by simp only[D.fN])
theorem abO (t:Tag) (z:Nat) (rs:List (List D)):D.fN o g rows (.slice t z rs) = .slice t z (D.sa o g rows rs):=nd (by simp only[D.fN])
theorem aiz (l:List D):D.fN o g rows (.agg l) = .agg (D.jQ o g rows l):=nd (by simp only[D.fN])
theorem afO:D.fN o g rows .junk = .junk:=nd (by simp only[D.fN])
theorem aiA (k:IntKind) (x:Int):D.fN o g rows (.int k x) = .int k x:=nd (by simp only[D.fN])
theorem afP (b:Bool):D.fN o g rows (.bool b) = .bool b:=nd (by simp only[D.fN])
theorem aiB (l:List UInt8):D.fN o g rows (.str l) = .str l:=nd (by simp only[D.fN])
theorem abP:D.jQ o g rows [] = []:=nd (by simp only[D.jQ])
theorem abQ (d:D) (l:List D):D.jQ o g rows (d::l)=D.fN o g rows d::D.jQ o g rows l:=nd (by simp only[D.jQ])
theorem as4 (p:Pg):D.jQ o g rows (cO p)=cO p:=sI _ _ _ _ (j8 p)
theorem aiC (l:List Pc):D.sa o g rows (l.map cJ)=l.map cJ:=yY _ _ _ _ (wL l)
theorem aiD (l:List Sm):D.sa o g rows (l.map bb)=l.map bb:=yY _ _ _ _ (oQ l)
theorem afQ (l:List aF):D.sa o g rows (l.map encStr)=l.map encStr:=yY _ _ _ _ (eF l)
theorem aiE (ds:List D):fzR o g rows n m ds=D.gA n m (D.jQ o g rows ds):=nd rfl
theorem afR (tm:Tm):ZP o g rows m tm [] = True:=nd rfl
theorem afS (tm:Tm) (k:Nat) (d:D) (r:Tm):ZP o g rows m tm ((k,d)::r)=(Wk (((tm.get k).fN o g rows).fg o m) d∧ZP o g rows m tm r):=nd rfl
end
attribute [go_sem] aix afN aiy abO aiz afO aiA afP aiB abP abQ as4 aiC aiD afQ aiE afR afS
end Go.Abs
namespace Go.Abs
theorem fJ (W:List Int) (m:Mc) (id:Int) (dj:List Int):(m.event W id dj).st=m.st∧(m.event W id dj).mem=m.mem∧(m.event W id dj).fin=m.fin∧(m.event W id dj).steps=m.steps∧(m.event W id dj).reads=m.reads∧(m.event W id dj).out=m.out:=by
 unfold Mc.event;split<;>exact⟨rfl,rfl,rfl,rfl,rfl,rfl⟩
theorem jR (m:Mc) (x:Ex):(m.bU x).2.st=m.st∧(m.bU x).2.mem=m.mem∧(m.bU x).2.steps=m.steps∧(m.bU x).2.reads=m.reads∧(m.bU x).2.out=m.out∧(m.bU x).2.trace=m.trace:=by
 unfold Mc.bU;dsimp only;split<;>exact⟨rfl,rfl,rfl,rfl,rfl,rfl⟩
theorem yZ : ∀ (l:List Ar) (m:Mc) (out:List Nat),(Mc.args l m out).2.st=m.st∧(Mc.args l m out).2.steps=m.steps
 | [],m,out=>⟨rfl,rfl⟩
 | a::l,m,out=>by
  simp only[Mc.args]
  split
  ·exact yZ l m _
  ·have h:=jR m a.x
   split
   ·have:=yZ l {(m.bU a.x).2 with mem:=(m.bU a.x).2.mem++ [(m.bU a.x).1.1]} (out++ [(m.bU a.x).2.mem.length])
    exact⟨this.1.trans h.1,this.2.trans h.2.2.1⟩
   ·exact⟨h.1,h.2.2.1⟩
theorem CO (p:Pg) (m:Mc) (i:Int) (l:List Nat) (c:Int):(m.open p i l c).2.st.length≤m.st.length+1∧(m.open p i l c).2.steps=m.steps:=by
 unfold Mc.open;split
 ·exact⟨Nat.le_succ _,rfl⟩
 ·exact⟨Nat.le_refl _,rfl⟩
theorem abR (p:Pg) (W:List Int) (m:Mc) (s:Sm):(m.call p W s).2.st.length≤m.st.length+1∧(m.call p W s).2.steps=m.steps:=by
 have h:=yZ s.args m []
 unfold Mc.call
 generalize Mc.args s.args m [] = r at *
 obtain⟨o,m1⟩:=r
 dsimp only at h
 cases o with
 |none=>dsimp only;rw[h.1,h.2];exact⟨Nat.le_succ _,rfl⟩
 | some l=>
  dsimp only
  split
  ·dsimp only;rw[h.1,h.2];exact⟨Nat.le_succ _,rfl⟩
  ·have h2:=CO p (m1.event W s.id []) (p.at s.proc) l s.id
   rw[(fJ ..).1,(fJ ..).2.2.2.1,h.1,h.2]at h2
   exact h2
theorem LK (W:List Int) (m:Mc) (s:Sm):(m.ju W s).2.st=m.st∧(m.ju W s).2.steps=m.steps:=by
 have h:=jR m s.x
 unfold Mc.ju
 dsimp only
 split
 ·split
  ·exact⟨(fJ ..).1.trans h.1,(fJ ..).2.2.2.1.trans h.2.2.1⟩
  ·exact⟨h.1,h.2.2.1⟩
 ·exact⟨(fJ ..).1,(fJ ..).2.2.2.1⟩
theorem ZQ (p:Pg) (L:List Im) (tape W:List Int) (m:Mc) (it:Im):(m.do p L tape W it).2.st=m.st∧(m.do p L tape W it).2.steps=m.steps:=by
 have h:=jR m it.s.x
 have e:=fun(m:Mc) id dj=>(⟨(fJ W m id dj).1,(fJ W m id dj).2.2.2.1⟩:(m.event W id dj).st=m.st∧(m.event W id dj).steps=m.steps)
 unfold Mc.do
 dsimp only
 repeat' split
 all_goals first
  |exact e ..
  |exact⟨rfl,rfl⟩
  |exact⟨(e ..).1.trans h.1,(e ..).2.trans h.2.2.1⟩
  |exact⟨h.1,h.2.2.1⟩
theorem XO (L:List Im) (m:Mc) (g:Int):(m.close L g).2.st=m.st.tail∧(m.close L g).2.steps=m.steps∧(m.st = []→(m.close L g).2.fin=1):=by
 unfold Mc.close
 dsimp only
 split
 ·exact⟨rfl,rfl,fun _=>rfl⟩
 ·rename_i hc
  refine⟨by split<;>rfl,by split<;>rfl,fun e=>absurd ?_ hc⟩
  simp[Mc.top,e]
theorem back_eq {L:List Im} {m:Mc} {g:Int} {a:Int} {m':Mc} (h:m.back L g=(some a,m')):m'.st.length<m.st.length∧m'.steps=m.steps:=by
 obtain⟨h1,h2,h3⟩:=XO L m g
 unfold Mc.back at h
 dsimp only at h
 split at h
 ·rename_i hf
  simp only[Prod.mk.injEq]at h
  rw[← h.2]
  refine⟨?_,h2⟩
  rw[h1,List.length_tail]
  cases e:m.st with
  |nil=>rw[h3 e]at hf;cases hf
  |cons x l=>simp
 ·simp at h
theorem abS {p:Pg} {L:List Im} {tape W:List Int} {fuel a a':Int} {m m':Mc} (hs:m.steps≤fuel) (h:m.next p L tape W fuel a=(some a',m')) :
 m'.steps≤fuel∧2*(fuel - m'.steps)+m'.st.length<2*(fuel - m.steps)+m.st.length:=by
 unfold Mc.next at h
 split at h
 ·have:=back_eq h;omega
 split at h
 ·simp at h
 rename_i fl
 have hC:m.steps<fuel:=by(have:m.steps≠fuel:=by simpa using fl);omega
 dsimp only at h
 split at h
 ·have h1:=abR p W {m with steps:=m.steps+1} (gj L a).s
  simp only[Prod.mk.injEq]at h
  rw[← h.2]
  dsimp only at h1
  omega
 split at h
 ·have h1:=LK W {m with steps:=m.steps+1} (gj L a).s
  dsimp only at h1
  split at h
  ·have h2:=back_eq h
   rw[h1.1,h1.2]at h2
   omega
  ·simp at h
 ·have h1:=ZQ p L tape W {m with steps:=m.steps+1} (gj L a)
  simp only[Prod.mk.injEq]at h
  rw[← h.2,h1.1,h1.2]
  dsimp only
  omega
theorem NR (p:Pg) (L:List Im) (tape W:List Int) (fuel:Int) : ∀ (N:Nat) (a:Int) (m:Mc),m.steps≤fuel→2*(fuel - m.steps)+m.st.length<N→∃ m',Mc.go p L tape W fuel N a m=some m'
 | 0,_,_,_,h=>by omega
 | N+1,a,m,hs,h=>by
  simp only[Mc.go]
  cases e:m.next p L tape W fuel a with
  | mk o m1=>
   cases o with
   |none=>exact⟨m1,rfl⟩
   |some a1=>
    have:=abS hs e
    exact NR p L tape W fuel N a1 m1 this.1 (by omega)
theorem Uu (p:Pg) (tape W:List Int) {fuel:Int} (h:0≤fuel) : ∃ m,runM p tape W fuel=some m:=by
 unfold runM
 have h1:=CO p (pE p) (p.at mg) [] 0
 have e1:(pE p).st.length=0:=rfl
 have e2:(pE p).steps=0:=rfl
 rw[e1,e2]at h1
 exact NR p _ tape W fuel _ _ _ (by rw[h1.2];exact h) (by rw[h1.2];omega)
structure Grow (m m':Mc):Prop where
 trace : ∃ t,m'.trace=m.trace++t
 out : ∃ t,m'.out=m.out++t
 reads:m.reads≤m'.reads
 steps:m.steps≤m'.steps
def Ca (L:List Im) (a:Int):Prop:=a = -1∨(1≤a∧a≤(L.length:Int))
theorem z6 {L:List Im} {a:Int} (h:Ca L a) (hn:a≠ -1):gj L a∈L:=by
 rcases h with h|⟨h1,h2⟩
 ·exact absurd h hn
 ·unfold gj
  rw[List.getD_eq_getElem?_getD,List.getElem?_eq_getElem (show(a - 1).toNat<L.length by omega)]
  exact List.getElem_mem _
structure LOk (p:Pg) (L:List Im):Prop where
 id : ∀ x∈L,1≤x.s.id∧x.s.id≤(L.length:Int)
 next : ∀ x∈L,Ca L x.next
 loop : ∀ x∈L,x.s.kind=7∨x.s.kind=8→1≤x.loop∧x.loop≤(L.length:Int)
 Rp : ∀ x∈L,x.s.kind=10→∃ f,p.procs[x.proc.toNat]? = some f∧Ca L (lf f.fin x.s.name (Sm.dr f.body)).1
 bm : ∀ x∈L,Ca L (gv x.s.bm (-1))
 bd : ∀ x∈L,Ca L (gv x.s.bd (-1))
 pM : ∀ f∈p.procs,Ca L (gv f.body (-1))
def afT (L:List Im) (m:Mc):Prop:=∀ fr∈m.st,fr.call=0∨(1≤fr.call∧fr.call≤(L.length:Int))
def Told (L:List Im) (r:Option Int×Mc):Prop:=
 match r.1 with
 |some a=>Ca L a∧afT L r.2∧r.2.fin=0∧(r.2.trace.length:Int)=r.2.steps
 |none=>((r.2.fin=1∨r.2.fin=2)∧(r.2.trace.length:Int)=r.2.steps)∨((r.2.fin=3∨r.2.fin=4∨r.2.fin=5)∧(r.2.trace.length:Int)+1=r.2.steps)
theorem Uv (m:Mc) (x:Ex) (h:m.fin=0):((m.bU x).1.2=true→(m.bU x).2.fin=0)∧((m.bU x).1.2=false→(m.bU x).2.fin=4):=by
 unfold Mc.bU
 dsimp only
 constructor
 ·intro e;rw[if_pos e];exact h
 ·intro e;rw[e];rfl
theorem Ec : ∀ (l:List Ar) (m:Mc) (out:List Nat),m.fin=0→(Mc.args l m out).2.trace=m.trace∧(match (Mc.args l m out).1 with|some _=>(Mc.args l m out).2.fin=0|none=>(Mc.args l m out).2.fin=4)
 | [],m,out,h=>⟨rfl,h⟩
 | a::l,m,out,h=>by
  have hw:=Uv m a.x h
  have he:=jR m a.x
  simp only[Mc.args]
  by_cases c:a.ref=true
  ·rw[if_pos c];exact Ec l m _ h
  ·rw [if_neg c]
   by_cases c2:(m.bU a.x).1.2=true
   ·rw [if_pos c2]
    obtain⟨h1,h2⟩:=Ec l {(m.bU a.x).2 with mem:=(m.bU a.x).2.mem++ [(m.bU a.x).1.1]} (out++ [(m.bU a.x).2.mem.length]) (hw.1 c2)
    exact⟨h1.trans he.2.2.2.2.2,h2⟩
   ·rw [if_neg c2]
    exact⟨he.2.2.2.2.2,hw.2 (by simpa using c2)⟩
def aAB (L:List Im) (r:Int×Mc):Prop:=
 (r.2.fin=0∧Ca L r.1∧afT L r.2∧(r.2.trace.length:Int)=r.2.steps)∨((r.2.fin=3∨r.2.fin=4∨r.2.fin=5)∧(r.2.trace.length:Int)+1=r.2.steps)
def aAC (m:Mc):Prop:=((m.fin=1∨m.fin=2)∧(m.trace.length:Int)=m.steps)∨((m.fin=3∨m.fin=4∨m.fin=5)∧(m.trace.length:Int)+1=m.steps)
mutual
def Sm.G2 (g:Sm→Sm):Sm→Sm
 |⟨id,kind,labels,name,proc,x,has,args,bm,bd⟩=> {g ⟨id,kind,labels,name,proc,x,has,args,bm,bd⟩with bm:=Sm.Jp g bm,bd:=Sm.Jp g bd}
def Sm.Jp (g:Sm→Sm):List Sm→List Sm
 | []=> []
 |s::l=>s.G2 g::Sm.Jp g l
end
def It.G2 (g:Sm→Sm) (i:It):It:= {i with s:=i.s.G2 g}
def Pc.G2 (g:Sm→Sm) (f:Pc):Pc:= {f with body:=Sm.Jp g f.body}
def Pg.G2 (g:Sm→Sm) (p:Pg):Pg:= {p with procs:=p.procs.map (Pc.G2 g)}
def aAD (t:Sm) (v:Sm):Sm:=if v.id==t.id then t else v
theorem FN {zY fin:List aF} : ∀ {l:List (Sm×Int)} {seen:List aF},ta zY fin seen l=none↔qs seen (iF (l.map Prod.fst)++fin)=false∧∀ q∈l,qF zY q.1 q.2=true
 | [],seen=>by
  simp only[ta,List.map_nil,iF,List.nil_append,List.not_mem_nil,false_imp_iff,implies_true,and_true]
  rw[B6]
  cases qs seen fin<;>simp
 | (v,lp)::l,seen=>by
  simp only[ta,List.map_cons,iF,List.append_assoc]
  rw[B6,NA v.labels]
  cases h:qs seen v.labels
  ·simp only [Bool.false_eq_true,if_false,if_true,Bool.false_or]
   cases h2:qF zY v lp
   ·simp only [Bool.false_eq_true,if_false,reduceCtorEq,false_iff,not_and]
    intro _ h3
    have:=h3 (v,lp) (List.mem_cons_self ..)
    rw[h2]at this;cases this
   ·simp only [if_true,FN (l:=l),List.mem_cons]
    constructor
    ·rintro⟨h3,h4⟩
     refine⟨h3,fun q hq=>?_⟩
     rcases hq with rfl|hq
     ·exact h2
     ·exact h4 q hq
    ·rintro⟨h3,h4⟩
     exact⟨h3,fun q hq=>h4 q (.inr hq)⟩
  ·simp
theorem FP : ∀ {l:List Pc},tc l=none↔∀ f∈l,fG f.labels=false∧∀ q∈f.xe,qF f.labels q.1 q.2=true
 | []=>by simp[tc]
 | f::l=>by
  have e:ta f.labels f.fin [] f.xe=none↔fG f.labels=false∧∀ q∈f.xe,qF f.labels q.1 q.2=true:=by
   rw[FN,abj];rfl
  simp only[tc,List.mem_cons]
  split
  ·rename_i id h
   simp only[reduceCtorEq,false_iff]
   intro h3
   rw[e.2 (h3 f (.inl rfl))]at h
   cases h
  ·rename_i h
   rw[FP (l:=l)]
   constructor
   ·intro h3 g hg
    rcases hg with rfl|hg
    ·exact e.1 h
    ·exact h3 g hg
   ·exact fun h3 g hg=>h3 g (.inr hg)
structure Pg.Right (p:Pg):Prop where
 may:p.may=true
 tg:fG p.globals=false
 tp:fG p.pn=false
 main:p.tP=false
 own : ∀ f∈p.procs,fG (p.globals++f.own)=false
 known : ∀ f∈p.procs,∀ v∈Sm.dr f.body,v.known p f p.pn=true
 zY : ∀ f∈p.procs,fG f.labels=false
 leads : ∀ f∈p.procs,∀ q∈f.xe,qF f.labels q.1 q.2=true
 fits : ∀ v∈p.pre,(v.kind==4)=true→v.qE p=true
 single : ∀ v∈p.pre,(v.kind==4)=true→v.yV p=true
theorem XP {p:Pg} (h:(p.check.1==0)=true):p.Right:=by
 unfold Pg.check at h
 by_cases h1:(p.scope.1==0)=true
 ·rw [if_pos h1]at h
  by_cases h2:(p.arity.1==0)=true
  ·rw [if_pos h2]at h
   by_cases h3:(p.jump.1==0)=true
   ·rw [if_pos h3]at h
    obtain⟨k1,k2,k3,k4⟩:=D6 h1
    have hj:tc p.procs=none:=by
     unfold Pg.jump at h3
     rw[if_pos h1]at h3
     cases e:tc p.procs with
     |none=>rfl
     |some id=>rw[e]at h3;cases h3
    rw[FP]at hj
    exact⟨BY h1,k1,k2,k3,fun f hf=>(k4 f hf).1,fun f hf=>(k4 f hf).2,fun f hf=>(hj f hf).1,fun f hf=>(hj f hf).2,(Lu h2).2,Xx h2 h⟩
   ·rw[if_neg h3]at h;exact absurd h h3
  ·rw[if_neg h2]at h;exact absurd h h2
 ·rw[if_neg h1]at h;exact absurd h h1
def AtR (R:Int→Prop) (a:Int):Prop:=a = -1∨R a
theorem CP {R:Int→Prop} {l:List Sm} {o:Int} (h : ∀ v∈Sm.dr l,R v.id) (ho:AtR R o):AtR R (gv l o):=by
 cases l with
 |nil=>exact ho
 |cons s l=>exact .inr (h s (by rw[Sm.dr,Sm.qq];exact List.mem_append_left _ (List.mem_cons_self ..)))
mutual
theorem afU {R:Int→Prop} (proc up next loop:Int) : ∀ s:Sm,(∀ v∈s.pre,R v.id)→AtR R next→(loop=0∨R loop)→
 ∀ x∈s.vZ proc up next loop,x.proc=proc∧AtR R x.next∧(x.loop=0∨R x.loop)∧AtR R (gv x.s.bm (-1))∧AtR R (gv x.s.bd (-1))∧x.s∈s.pre
 | ⟨id,kind,labels,name,pc,x,has,args,bm,bd⟩,h,hn,hl,y,m=>by
  have uS:=h _ (by rw[Sm.qq];exact List.mem_cons_self ..)
  have h1 : ∀ v∈Sm.dr bm,R v.id:=fun v m=>h v (by rw[Sm.qq];exact List.mem_cons_of_mem _ (List.mem_append_left _ m))
  have h2 : ∀ v∈Sm.dr bd,R v.id:=fun v m=>h v (by rw[Sm.qq];exact List.mem_cons_of_mem _ (List.mem_append_right _ m))
  have nc:AtR R (if kind==6 then id else next):=by split;exact .inr uS;exact hn
  have mK:(if kind==6 then id else loop)=0∨R (if kind==6 then id else loop):=by split;exact .inr uS;exact hl
  rw[Sm.qq]
  simp only[Sm.vZ,List.mem_cons,List.mem_append]at m
  rcases m with rfl|m|m
  ·exact⟨rfl,hn,hl,CP h1 (.inl rfl),CP h2 (.inl rfl),List.mem_cons_self ..⟩
  ·obtain⟨g1,g2,g3,g4,g5,g6⟩:=y0 proc id _ _ bm h1 nc mK y m
   exact⟨g1,g2,g3,g4,g5,List.mem_cons_of_mem _ (List.mem_append_left _ g6)⟩
  ·obtain⟨g1,g2,g3,g4,g5,g6⟩:=y0 proc id _ _ bd h2 nc mK y m
   exact⟨g1,g2,g3,g4,g5,List.mem_cons_of_mem _ (List.mem_append_right _ g6)⟩
theorem y0 {R:Int→Prop} (proc up next loop:Int) : ∀ l:List Sm,(∀ v∈Sm.dr l,R v.id)→AtR R next→(loop=0∨R loop)→
 ∀ x∈Sm.kb proc up next loop l,x.proc=proc∧AtR R x.next∧(x.loop=0∨R x.loop)∧AtR R (gv x.s.bm (-1))∧AtR R (gv x.s.bd (-1))∧x.s∈Sm.dr l
 | [],_,_,_,x,m=>by simp[Sm.kb]at m
 | s::l,h,hn,hl,x,m=>by
  simp only[Sm.dr,List.mem_append]at h
  simp only[Sm.kb,List.mem_append]at m
  simp only[Sm.dr,List.mem_append]
  rcases m with m|m
  ·obtain⟨g1,g2,g3,g4,g5,g6⟩:=afU proc up _ loop s (fun v m=>h v (.inl m)) (CP (fun v m=>h v (.inr m)) hn) hl x m
   exact⟨g1,g2,g3,g4,g5, .inl g6⟩
  ·obtain⟨g1,g2,g3,g4,g5,g6⟩:=y0 proc up next loop l (fun v m=>h v (.inr m)) hn hl x m
   exact⟨g1,g2,g3,g4,g5, .inr g6⟩
end
theorem LL {x:Im} : ∀ (l:List Pc) (k:Nat),x∈qe k l→∃ i f,l[i]? = some f∧x∈Sm.kb ((k+i:Nat):Int) 0 (-1) 0 f.body
 | [],_,h=>by simp[qe]at h
 | f::l,k,h=>by
  simp only[qe,List.mem_append]at h
  rcases h with h|h
  ·exact⟨0,f,rfl,h⟩
  ·obtain⟨i,g,h1,h2⟩:=LL l (k+1) h
   exact⟨i+1,g,by simpa using h1,by rw[show k+(i+1)=k+1+i by omega];exact h2⟩
theorem LM {x:Im} : ∀ (l:List Pc) (k:Nat) {i:Nat} {f:Pc},l[i]? = some f→x∈Sm.kb ((k+i:Nat):Int) 0 (-1) 0 f.body→x∈qe k l
 |f::l,k,0,g,h,m=>by simp at h;subst h;exact List.mem_append_left _ m
 |f::l,k,i+1,g,h,m=>List.mem_append_right _ (LM l (k+1) (i:=i) (by simpa using h) (by rw[show k+1+i=k+(i+1) by omega];exact m))
theorem Uw : ∀ (l:List Pc) (k:Nat),(qe k l).map Im.s=(l.map fun f=>Sm.dr f.body).flatten
 | [],_=>rfl
 |f::l,k=>by simp only[qe,List.map_append,r6,Uw l,List.map_cons,List.flatten_cons]
theorem NS {R:Int→Prop} {fin:List aF} {Tw:aF} : ∀ {l:List Sm},(∀ v∈l,R v.id)→(lf fin Tw l).2=true→AtR R (lf fin Tw l).1
 | [],_,h=>by
  simp only[lf]at h ⊢
  split at h
  ·rename_i c;rw[if_pos c];exact .inl rfl
  ·cases h
 | v::l,hv,h=>by
  simp only[lf]at h ⊢
  split
  ·exact .inr (hv v (List.mem_cons_self ..))
  ·rename_i c
   rw[if_neg c]at h
   exact NS (fun w m=>hv w (List.mem_cons_of_mem _ m)) h
def Hm (L:List Im) (k:Int) (a:Int):Prop:=1≤a∧a≤(L.length:Int)∧(gj L a).proc=k
structure Cb (p:Pg) (L:List Im) (x:Im) (f:Pc):Prop where
 self:gj L x.s.id=x∧1≤x.s.id∧x.s.id≤(L.length:Int)
 proc:p.procs[x.proc.toNat]? = some f∧0≤x.proc
 mem:x.s∈Sm.dr f.body
 next:AtR (Hm L x.proc) x.next
 loop:x.s.kind=7∨x.s.kind=8→Hm L x.proc x.loop
 bm:AtR (Hm L x.proc) (gv x.s.bm (-1))
 bd:AtR (Hm L x.proc) (gv x.s.bd (-1))
 Rp:x.s.kind=10→AtR (Hm L x.proc) (lf f.fin x.s.name (Sm.dr f.body)).1
structure POk (p:Pg) (L:List Im):Prop where
 im : ∀ x∈L,∃ f,Cb p L x f
 head : ∀ (i:Nat) (f:Pc),p.procs[i]? = some f→AtR (Hm L i) (gv f.body (-1))
theorem q8 {p:Pg} (h:p.Right):POk p p.bh.L:=by
 have hL:=T9 h.may
 have hs:p.bh.L.map Im.s=p.pre:=by rw[hL,Uw];rfl
 have hlen:p.bh.L.length=p.pre.length:=by rw[← hs,List.length_map]
 have self : ∀ x∈p.bh.L,gj p.bh.L x.s.id=x∧1≤x.s.id∧x.s.id≤(p.bh.L.length:Int):=fun x m=>by
  obtain⟨i,hi⟩:=List.getElem?_of_mem m
  have h1:=Lc h.may (i:=i) (v:=x.s) (by rw[← hs,List.getElem?_map,hi];rfl)
  have h2:=(List.getElem?_eq_some_iff.1 hi).1
  refine⟨?_,by omega,by omega⟩
  unfold gj
  rw[h1,show(((i+1:Nat):Int) - 1).toNat=i by omega,List.getD_eq_getElem?_getD,hi];rfl
 have there : ∀ (i:Nat) (f:Pc),p.procs[i]? = some f→∀ v∈Sm.dr f.body,Hm p.bh.L i v.id:=fun i f hf v m=>by
  rw[← r6 (i:Int) 0 (-1) 0 f.body]at m
  obtain⟨x,hx,rfl⟩:=List.mem_map.1 m
  have hxL:x∈p.bh.L:=by rw[hL];exact LM p.procs 0 hf (by simpa using hx)
  obtain⟨g1,g2,g3⟩:=self x hxL
  exact⟨g2,g3,by rw[g1];exact(y0 (R:=fun _=>True) _ 0 (-1) 0 f.body (fun _ _=>trivial) (.inl rfl) (.inl rfl) x hx).1⟩
 refine⟨fun x m=>?_,fun i f hf=>CP (there i f hf) (.inl rfl)⟩
 have m':=m
 rw[hL]at m'
 obtain⟨i,f,h1,h2⟩:=LL p.procs 0 m'
 have hf:=List.mem_of_getElem? h1
 rw[Nat.zero_add]at h2
 obtain⟨g1,g2,g3,g4,g5,g6⟩:=y0 (R:=Hm p.bh.L i) _ 0 (-1) 0 f.body (there i f h1) (.inl rfl) (.inl rfl) x h2
 have hl:=h.leads f hf (x.s,x.loop) (by rw[← Lo (i:Int) f];exact List.mem_map.2 ⟨x,h2,rfl⟩)
 refine⟨f,self x m,⟨by rw[g1];simpa using h1,by rw[g1];exact Int.natCast_nonneg _⟩,g6,by rw[g1];exact g2,fun hk=>?_,by rw[g1];exact g4,by rw[g1];exact g5,fun hk=>?_⟩
 ·rw [g1]
  refine g3.resolve_left fun e=>?_
  unfold qF at hl
  rw[if_pos (by rcases hk with hk|hk<;>simp[hk]),e]at hl
  cases hl
 ·rw [g1]
  refine NS (there i f h1) ?_
  unfold qF at hl
  rw[if_neg (by simp[hk]),if_pos (by simp[hk])]at hl
  rw[B7];exact hl
theorem LN {vars globals:List aF} {n:aF} : ∀ {l:List Pm},w9 vars globals n l≠0→n∈l.map (·.name)∨n∈vars∨n∈globals
 | [],h=>by
  simp only[w9]at h
  split at h
  ·rename_i e;exact .inr (.inl ((jl _ _).1 e))
  ·split at h
   ·rename_i e;exact .inr (.inr ((jl _ _).1 e))
   ·exact absurd rfl h
 | a::l,h=>by
  simp only[w9]at h
  split at h
  ·rename_i e;exact .inl (by simp only[List.map_cons,List.mem_cons];exact .inl (by simpa using Eq.symm (by simpa using e)))
  ·rcases LN h with h | h
   ·exact .inl (List.mem_cons_of_mem _ h)
   ·exact .inr h
theorem XQ {p:Pg} {f:Pc} {v:Sm} (h:v.known p f p.pn=true) {n:aF} (m:n∈v.said):n∈p.globals++f.own:=by
 simp only[Sm.known,Bool.and_eq_true,Bool.not_eq_true']at h
 have h1:f.lC p n≠0:=fun e=>by
  have:v.said.any (fun n=>f.lC p n==0)=true:=List.any_eq_true.2 ⟨n,m,by simp[e]⟩
  rw[h.1]at this;cases this
 simp only[List.mem_append,Pc.own,Pc.tN]
 rcases LN h1 with h2|h2|h2
 ·exact .inr (.inl h2)
 ·exact .inr (.inr h2)
 ·exact .inl h2
theorem vb {n:aF} : ∀ {l:List Ar} {out:List aF},n∈out∨(∃ a∈l,a.ref=true∧a.name=n)→n∈Ar.said out l
 | [],out,h=>by rcases h with h|⟨a,m,_⟩;exact h;cases m
 | b::l,out,h=>by
  simp only[Ar.said]
  refine vb ?_
  rcases h with h|⟨a,m,h1,h2⟩
  ·left;split<;>simp[h]
  ·rcases List.mem_cons.1 m with rfl | m
   ·left;rw[if_pos h1];simp[h2]
   ·exact .inr ⟨a,m,h1,h2⟩
theorem LO {x:aF} : ∀ {l:List aF} {k:Nat},x∈l→∃ j:Nat,jk x (k:Int) l=((k+j:Nat):Int)∧j<l.length
 | s::l,k,m=>by
  by_cases e:x=s
  ·subst e;exact⟨0,by simp[jk],by simp⟩
  ·have e':(x==s)=false:=by simp [e]
   obtain⟨j,h1,h2⟩:=LO (l:=l) (k:=k+1) ((List.mem_cons.1 m).resolve_left e)
   refine⟨j+1, ?_,by simp;omega⟩
   simp only[jk,e',Bool.false_eq_true,if_false]
   rw[show(k:Int)+1=((k+1:Nat):Int) by omega,h1];congr 1;omega
theorem Jq {name:aF} {f:Pc} : ∀ {l:List Pc} {k:Nat},iY name l=some f→∃ j:Nat,lb (fun f:Pc=>f.name==name) (k:Int) l=((k+j:Nat):Int)∧l[j]? = some f
 | g::l,k,h=>by
  simp only[iY]at h
  by_cases e:(g.name==name)=true
  ·rw [if_pos e]at h;cases h
   exact⟨0,by simp only[lb,e,if_true,Nat.add_zero],rfl⟩
  ·have e':(g.name==name)=false:=by simpa using e
   rw[if_neg e]at h
   obtain⟨j,h1,h2⟩:=Jq (l:=l) (k:=k+1) h
   refine⟨j+1, ?_,by simpa using h2⟩
   simp only[lb,e',Bool.false_eq_true,if_false]
   rw[show(k:Int)+1=((k+1:Nat):Int) by omega,h1];congr 1;omega
def Ed (p:Pg) (n:Nat) (fr:Fr):Prop:=∃ f,p.procs[fr.proc.toNat]? = some f∧0≤fr.proc∧fr.names=p.globals++f.own∧fr.vars.length=fr.names.length∧∀ c∈fr.vars,c<n
def CQ (L:List Im):List Fr→Prop
 | []=>False
 | [fr]=>fr.call=0
 |fr::uN::l=>(Hm L uN.proc fr.call∧(gj L fr.call).s.kind=4)∧CQ L (uN::l)
structure pF (p:Pg) (L:List Im) (a:Int) (m:Mc):Prop where
 st:CQ L m.st
 fr : ∀ fr∈m.st,Ed p m.mem.length fr
 at_:AtR (Hm L m.top.proc) a
 ux:p.globals.length≤m.mem.length
theorem Ed.mono {p:Pg} {n n':Nat} {fr:Fr} (h:Ed p n fr) (hn:n≤n'):Ed p n' fr:=by
 obtain⟨f,h1,h2,h3,h4,h5⟩:=h
 exact⟨f,h1,h2,h3,h4,fun c m=>Nat.lt_of_lt_of_le (h5 c m) hn⟩
theorem CQ.ne {L:List Im} {l:List Fr} (h:CQ L l) : ∃ fr r,l=fr::r:=by
 cases l with
 |nil=>exact h.elim
 |cons fr r=>exact⟨fr,r,rfl⟩
theorem Mc.abT {L:List Im} {m:Mc} (h:CQ L m.st):m.top∈m.st:=by
 obtain⟨fr,r,e⟩:=h.ne
 simp[Mc.top,e]
theorem pF.of {p:Pg} {L:List Im} {a a':Int} {m m':Mc} (h:pF p L a m) (h1:m'.st=m.st) (h2:m.mem.length≤m'.mem.length) (h3:AtR (Hm L m.top.proc) a'):pF p L a' m':=by
 have ht:m'.top=m.top:=by unfold Mc.top;rw[h1]
 exact⟨by rw[h1];exact h.st,fun fr hf=>(h.fr fr (by rw[← h1];exact hf)).mono h2,by rw[ht];exact h3,Nat.le_trans h.ux h2⟩
section
variable {p:Pg} {L:List Im} {m:Mc}
theorem abU {n:aF} {k:Nat} (h:Ed p k m.top) (hn:n∈m.top.names):m.cell n<k∧∃ j:Nat,jk n 0 m.top.names=(j:Int)∧m.top.vars[j]? = some (m.cell n):=by
 obtain⟨f,h1,h2,h3,h4,h5⟩:=h
 obtain⟨j,e1,e2⟩:=LO (k:=0) hn
 have e3:jk n 0 m.top.names=(j:Int):=by simpa using e1
 have e4:m.top.vars[j]? = some (m.cell n):=by
  unfold Mc.cell
  rw[e3,Int.toNat_natCast,List.getD_eq_getElem?_getD,List.getElem?_eq_getElem (by omega)];rfl
 exact⟨h5 _ (List.mem_of_getElem? e4),j,e3,e4⟩
theorem G3 {k:Nat} (hk:p.globals.length≤k) : ∀ (l:List Ar) (m:Mc) (out:List Nat),Ed p m.mem.length m.top→(∀ a∈l,a.ref=true→a.name∈m.top.names)→(∀ c∈out,c<m.mem.length)→
 m.mem.length≤(Mc.args l m out).2.mem.length∧∀ o,(Mc.args l m out).1=some o→o.length=out.length+l.length∧∀ c∈o,c<(Mc.args l m out).2.mem.length
 | [],m,out,h,_,ho=>⟨Nat.le_refl _,fun o e=>by cases e;exact⟨rfl,ho⟩⟩
 | a::l,m,out,h,hn,ho=>by
  simp only[Mc.args]
  by_cases c:a.ref=true
  ·rw [if_pos c]
   obtain⟨g1,g2⟩:=G3 hk l m (out++ [m.cell a.name]) h (fun b mb=>hn b (List.mem_cons_of_mem _ mb)) fun x mx=>by
    rcases List.mem_append.1 mx with mx|mx
    ·exact ho x mx
    ·rw[List.mem_singleton.1 mx];exact(abU h (hn a (List.mem_cons_self ..) c)).1
   exact⟨g1,fun o e=>⟨by rw[(g2 o e).1];simp;omega,(g2 o e).2⟩⟩
  ·rw [if_neg c]
   have he:=jR m a.x
   by_cases c2:(m.bU a.x).1.2=true
   ·rw [if_pos c2]
    have ht:({(m.bU a.x).2 with mem:=(m.bU a.x).2.mem++ [(m.bU a.x).1.1]} : Mc).top=m.top:=by unfold Mc.top;rw[he.1]
    have hl:(m.bU a.x).2.mem.length=m.mem.length:=by rw[he.2.1]
    obtain⟨g1,g2⟩:=G3 hk l {(m.bU a.x).2 with mem:=(m.bU a.x).2.mem++ [(m.bU a.x).1.1]} (out++ [(m.bU a.x).2.mem.length]) (by rw[ht];exact h.mono (by simp[hl])) (by rw[ht];exact fun b mb=>hn b (List.mem_cons_of_mem _ mb)) fun x mx=>by
     rcases List.mem_append.1 mx with mx|mx
     ·have:=ho x mx;simp[hl];omega
     ·rw[List.mem_singleton.1 mx];simp
    exact⟨Nat.le_trans (by simp[hl]) g1,fun o e=>⟨by rw[(g2 o e).1];simp;omega,(g2 o e).2⟩⟩
   ·rw [if_neg c2]
    exact⟨by rw[he.2.1];exact Nat.le_refl _,fun o e=>by cases e⟩
theorem NT (hP:POk p L) {i:Nat} {f:Pc} (hf:p.procs[i]? = some f) {l:List Nat} {call:Int} (hl:l.length=f.params.length) (hc : ∀ c∈l,c<m.mem.length) (hg:p.globals.length≤m.mem.length)
 (Au : ∀ fr∈m.st,Ed p m.mem.length fr) (jV:(m.st = []∧call=0)∨(CQ L m.st∧Hm L m.top.proc call∧(gj L call).s.kind=4)):pF p L (m.open p (i:Int) l call).1 (m.open p (i:Int) l call).2:=by
 unfold Mc.open
 rw[Int.toNat_natCast,hf]
 dsimp only
 refine⟨?_,fun fr h=>?_,by exact hP.head i f hf,by simp;omega⟩
 ·rcases jV with ⟨h1,h2⟩ | ⟨h1,h2⟩
  ·rw[h1];exact h2
  ·obtain⟨fr,r,e⟩:=h1.ne
   dsimp only
   rw[e]at h1 ⊢
   have:m.top=fr:=by simp[Mc.top,e]
   rw[this]at h2
   exact⟨h2,h1⟩
 ·rcases List.mem_cons.1 h with rfl | h
  ·refine⟨f,by rw [Int.toNat_natCast];exact hf,Int.natCast_nonneg _,rfl,by simp [Pc.own,Pc.tN,hl],fun c m=> ?_⟩
   simp only[List.mem_append,List.mem_range,List.mem_map]at m
   simp only[List.length_append,List.length_replicate]
   rcases m with (m|m)|⟨x,m,rfl⟩
   ·omega
   ·have:=hc c m;omega
   ·omega
  ·exact(Au fr h).mono (by simp)
theorem abV (hP:POk p L) {a:Int} (h:pF p L a m) {g:Int} {a':Int} {m':Mc} (e:m.back L g=(some a',m')):pF p L a' m':=by
 have hs:=h.st
 unfold Mc.back Mc.close at e
 dsimp only at e
 obtain⟨fr,r,es⟩:=hs.ne
 have ht:m.top=fr:=by simp[Mc.top,es]
 by_cases c:(m.top.call==0)=true
 ·rw[if_pos c]at e;cases e
 ·rw [if_neg c]at e
  rw[es]at hs
  cases r with
  |nil=>rw[ht]at c;exact absurd (beq_iff_eq.2 (show fr.call=0 from hs)) c
  | cons uN r=>
   obtain⟨⟨h1,_⟩,h2⟩:=hs
   have iR:gj L m.top.call∈L:=z6 (.inr (by rw[ht];exact⟨h1.1,h1.2.1⟩)) (by have:=h1.1;rw[ht];omega)
   obtain⟨f,o⟩:=hP.im _ iR
   have ho:=o.next
   rw[show(gj L m.top.call).proc=uN.proc by rw[ht];exact h1.2.2]at ho
   rw[ht]at ho
   split at e<;>(dsimp only at e;split at e)<;>first|(cases e;done)|skip
   all_goals
    cases e
    refine⟨by simp only[Mc.set,es,List.tail_cons];exact h2,fun q hq=>?_,by simp only[Mc.set,Mc.top,es,List.tail_cons,List.headD_cons];exact ho,by simp only[Mc.set,List.length_set];exact h.ux⟩
    simp only[Mc.set,List.length_set]at hq ⊢
    exact h.fr q (by rw[es]at hq ⊢;exact List.mem_cons_of_mem _ hq)
end
theorem z7 {p:Pg} (hR:p.Right) {x:Im} {f:Pc} (h:Cb p p.bh.L x f) {n:aF} (m:n∈x.s.said):n∈p.globals++f.own:=
 XQ (hR.known f (List.mem_of_getElem? h.proc.1) x.s h.mem) m
theorem abW {p:Pg} (hR:p.Right) {x:Im} {f:Pc} (h:Cb p p.bh.L x f) (hk:x.s.kind=4) : ∃ (j:Nat) (q:Pc),p.at x.s.proc=(j:Int)∧p.procs[j]? = some q∧x.s.args.length=q.params.length:=by
 have qd:x.s∈p.pre:=by
  simp only[Pg.pre,List.mem_flatten,List.mem_map];exact⟨_,⟨f,List.mem_of_getElem? h.proc.1,rfl⟩,h.mem⟩
 have hf:=hR.fits x.s qd (by simp[hk])
 unfold Sm.qE at hf
 simp only[Bool.and_eq_true]at hf
 cases e:p.find x.s.proc with
 |none=>rw[e]at hf;cases hf.2
 |some q=>
  rw[e]at hf
  obtain⟨j,h1,h2⟩:=Jq (k:=0) e
  refine⟨j,q,by simpa[Pg.at]using h1,h2, ?_⟩
  have:=hf.2
  simp only[CI]at this
  split at this
  ·rename_i h3;have:=(beq_iff_eq.1 h3);omega
  ·cases this
theorem abX {p:Pg} (hR:p.Right) {m:Mc} {W:List Int} {x:Im} {f:Pc} {a a':Int} {m':Mc} (h:pF p p.bh.L a m) (hx:Cb p p.bh.L x f) (hk:x.s.kind=4) (hp:x.proc=m.top.proc) (LP:(m.call p W x.s).2.fin=0)
 (e:m.call p W x.s=(a',m')) (h0:m.fin=0):pF p p.bh.L a' m':=by
 have hP:=q8 hR
 have z8:=h.fr _ (Mc.abT h.st)
 obtain⟨f',t1,t2,t3,t4,t5⟩:=z8
 have ef:f'=f:=by have:=hx.proc.1;rw[hp,t1]at this;exact Option.some.inj this
 subst ef
 have afX : ∀ b∈x.s.args,b.ref=true→b.name∈m.top.names:=fun b mb hb=>by
  rw[t3];exact z7 hR hx (vb (.inr ⟨b,mb,hb,rfl⟩))
 obtain⟨j,q,c1,c2,c3⟩:=abW hR hx hk
 have g1:=G3 h.ux x.s.args m [] ⟨f',t1,t2,t3,t4,t5⟩ afX (by simp)
 have g2:=yZ x.s.args m []
 have g3:=Ec x.s.args m [] h0
 unfold Mc.call at e LP
 generalize Mc.args x.s.args m [] = r at *
 obtain⟨o,m1⟩:=r
 cases o with
 |none=>
  dsimp only at LP g3
  rw[g3.2]at LP;cases LP
 | some l=>
  dsimp only at e LP g1 g2 g3
  by_cases c:m1.st.length > 100
  ·rw[if_pos c]at LP;cases LP
  ·rw [if_neg c]at e
   have he:=fJ W m1 x.s.id []
   have ht:(m1.event W x.s.id []).top=m.top:=by unfold Mc.top;rw[he.1,g2.1]
   have:=NT (m:=m1.event W x.s.id []) hP c2 (l:=l) (call:=x.s.id) (by rw[(g1.2 l rfl).1,c3];simp) (by rw[he.2.1];exact(g1.2 l rfl).2) (by rw[he.2.1];exact Nat.le_trans h.ux g1.1)
    (by rw[he.1,he.2.1,g2.1];exact fun fr Au=>(h.fr fr Au).mono g1.1) (.inr ⟨by rw[he.1,g2.1];exact h.st,by rw[ht];exact⟨hx.self.2.1,hx.self.2.2,by rw[hx.self.1];exact hp⟩,by rw[hx.self.1];exact hk⟩)
   rw[← c1,e]at this
   exact this
theorem aiG {p:Pg} (hR:p.Right) {m:Mc} {T W:List Int} {x:Im} {f:Pc} {a:Int} (h:pF p p.bh.L a m) (hx:Cb p p.bh.L x f) (hp:x.proc=m.top.proc) :
 ((m.do p p.bh.L T W x).2.fin=0→pF p p.bh.L (m.do p p.bh.L T W x).1 (m.do p p.bh.L T W x).2):=by
 intro h0
 have ev : ∀ (m1:Mc) (id:Int) (dj:List Int),(m1.event W id dj).st=m1.st∧(m1.event W id dj).mem=m1.mem:=fun m1 id dj=>⟨(fJ W m1 id dj).1,(fJ W m1 id dj).2.1⟩
 have key : ∀ (m1:Mc) (b:Int),m1.st=m.st→m1.mem.length=m.mem.length→AtR (Hm p.bh.L x.proc) b→pF p p.bh.L b m1:=fun m1 b h1 h2 h3=>h.of h1 (Nat.le_of_eq h2.symm) (by rw[← hp];exact h3)
 have hw:=jR m x.s.x
 unfold Mc.do at h0 ⊢
 dsimp only at h0 ⊢
 by_cases c7:(x.s.kind==7)=true
 ·rw [if_pos c7]
  have hk:x.s.kind=7:=by simpa using c7
  have hl:=hx.loop (.inl hk)
  have iR:=z6 (L:=p.bh.L) (a:=x.loop) (.inr ⟨hl.1,hl.2.1⟩) (by have:=hl.1;omega)
  obtain⟨g,o⟩:=(q8 hR).im _ iR
  refine key _ _ (ev _ _ _).1 (by rw[(ev _ _ _).2]) ?_
  have:=o.next
  rw[hl.2.2]at this;exact this
 rw[if_neg c7]at h0 ⊢
 by_cases c8:(x.s.kind==8)=true
 ·rw [if_pos c8]
  exact key _ _ (ev _ _ _).1 (by rw[(ev _ _ _).2]) (.inr (hx.loop (.inr (by simpa using c8))))
 rw[if_neg c8]at h0 ⊢
 by_cases c10:(x.s.kind==10)=true
 ·rw [if_pos c10]
  refine key _ _ (ev _ _ _).1 (by rw[(ev _ _ _).2]) ?_
  have:=hx.Rp (by simpa using c10)
  rw[hx.proc.1];exact this
 rw[if_neg c10]at h0 ⊢
 by_cases c2:(x.s.kind==2)=true
 ·rw [if_pos c2]at h0 ⊢
  split at h0
  ·cases h0
  ·rename_i n e
   exact key _ _ (ev _ _ _).1 (by rw[(ev _ _ _).2];simp[Mc.set]) hx.next
 rw[if_neg c2]at h0 ⊢
 by_cases cw:(m.bU x.s.x).1.2=true
 ·rw [if_pos cw]at h0 ⊢
  have e1:((m.bU x.s.x).2.event W x.s.id [(m.bU x.s.x).1.1]).st=m.st:=(ev _ _ _).1.trans hw.1
  have e2:((m.bU x.s.x).2.event W x.s.id [(m.bU x.s.x).1.1]).mem.length=m.mem.length:=by rw[(ev _ _ _).2,hw.2.1]
  have fo : ∀ (l:List Sm) (b:Int),AtR (Hm p.bh.L x.proc) (gv l (-1))→AtR (Hm p.bh.L x.proc) b→AtR (Hm p.bh.L x.proc) (firstM l b):=fun l b h1 h2=>by
   cases l with
   |nil=>exact h2
   |cons s l=>exact h1
  split
  ·exact key _ _ e1 (by simp only[Mc.set,List.length_set];exact e2) hx.next
  split
  ·exact key _ _ e1 e2 hx.next
  split
  ·refine key _ _ e1 e2 ?_
   split
   ·exact fo _ _ hx.bd hx.next
   ·exact fo _ _ hx.bm hx.next
  split
  ·refine key _ _ e1 e2 ?_
   split
   ·exact hx.next
   ·exact fo _ _ hx.bm (.inr ⟨hx.self.2.1,hx.self.2.2,by rw[hx.self.1]⟩)
  ·exact key _ _ e1 e2 hx.next
 ·rw [if_neg cw]at h0
  have:(m.bU x.s.x).2.fin=4:=by unfold Mc.bU;dsimp only;rw[if_neg (show ¬ (x.s.x.bU m.top.names m.dj).2=true from cw)]
  rw[this]at h0;cases h0
end Go.Abs
namespace Go.Abs
structure Lay where
 κ:List Nat
 φ:List Nat
 sd:D
 vd:D
def D.arr:D→List Nat
 | .eJ _ o _ _=> [o]
 |_=> []
def Lay.own (y:Lay):List Nat:=0::(y.κ++(y.sd.arr++y.vd.arr))
def fk (o:Nat):List D:= [.ptr o 0]
def pG (κ:List Nat) (f:Fr):List D:= [.int .i64 f.proc, .slice .shared 1 (f.names.map encStr), .slice .shared 1 (f.vars.map fun c=>fk (κ.getD c 0)), .int .i64 f.call]
def gE (e:Int×List Int):List D:= [.int .i64 e.1, .slice .shared 1 (e.2.map cT)]
abbrev fx (p:Pg) (T W:List Int) (y:Lay) (m:Mc):List D:=
 [.dO (fA p) 0, .slice .shared 1 ((y.κ.take p.globals.length).map fk), .slice .shared 1 (T.map cT), .slice .shared 1 (W.map cT),y.sd,y.vd,
  .int .i64 m.fin, .int .i64 m.steps, .int .i64 m.reads, .slice (.tok 0) 1 (m.out.map cT), .slice (.tok 1) 2 (m.trace.map gE)]
def qT (n:Int):D:= .int .i64 n
def xS (o:Nat):D:= .ptr o 0
def jS (s:St) (d:D) (cs:List D):Prop:=(d = .eH 1∧cs = [])∨∃ o g more,d = .eJ 1 o g cs.length∧s.ah[o]? = some (.int .i64 ((g:Nat):Int)::(cs++more))
structure Inv (p:Pg) (T W:List Int) (y:Lay) (m:Mc) (loc:List (Nat×List D)) (s:St):Prop where
 jT:s.ah[0]? = some (fx p T W y m)
 t0:s.aw[0]? = some (some m.out.length)
 t1:s.aw[1]? = some (some m.trace.length)
 len:y.κ.length=m.mem.length
 cell : ∀ (i c:Nat) (v:Int),y.κ[i]? = some c→m.mem[i]? = some v→s.ah[c]? = some [.int .i64 v]
 sJ:y.φ.length=m.st.length
 frame : ∀ (i o:Nat) (fr:Fr),y.φ[i]? = some o→m.st[i]? = some fr→s.ah[o]? = some (pG y.κ fr)∧o∉y.own∧∀ c∈fr.vars,c<m.mem.length
 stack:jS s y.sd (y.φ.reverse.map xS)
 dj : ∃ l:List Int,jS s y.vd (l.map qT)
 own:y.own.Nodup
 loc : ∀ q∈loc,s.ah[q.1]? = some q.2∧q.1∉y.own
theorem jS.lt {s:St} {d:D} {cs:List D} (h:jS s d cs) : ∀ o∈d.arr,o<s.ah.length:=by
 rcases h with ⟨rfl,_⟩|⟨o,g,more,rfl,h⟩
 ·intro o m;simp[D.arr]at m
 ·intro o' m
  have:o'=o:=by simpa[D.arr]using m
  subst this;exact gi h
theorem jS.keep {s s':St} {d:D} {cs:List D} (h:jS s d cs) (k : ∀ o∈d.arr,s'.ah[o]? = s.ah[o]?):jS s' d cs:=by
 rcases h with h|⟨o,g,more,rfl,h⟩
 ·exact .inl h
 ·exact .inr ⟨o,g,more,rfl,by rw[k o (by simp[D.arr])];exact h⟩
theorem H8 {κ e:List Nat} {fr:Fr} (h : ∀ c∈fr.vars,c<κ.length):pG (κ++e) fr=pG κ fr:=by
 unfold pG
 rw[List.map_congr_left (g:=fun c=>fk (κ.getD c 0)) fun c m=>by rw[List.getD_eq_getElem?_getD,List.getD_eq_getElem?_getD,List.getElem?_append_left (h c m)]]
section
variable {p:Pg} {T W:List Int} {y:Lay} {m:Mc} {loc:List (Nat×List D)} {s:St}
theorem Inv.tR (h:Inv p T W y m loc s) : ∀ o∈y.own,o<s.ah.length:=by
 intro o mo
 simp only[Lay.own,List.mem_cons,List.mem_append]at mo
 rcases mo with rfl|mo|mo|mo
 ·exact gi h.jT
 ·obtain⟨i,hi⟩:=List.getElem?_of_mem mo
  have hC:=(List.getElem?_eq_some_iff.1 hi).1
  exact gi (h.cell i o _ hi (List.getElem?_eq_getElem (by rw[← h.len];exact hC)))
 ·exact h.stack.lt o mo
 ·obtain⟨l,hl⟩:=h.dj
  exact hl.lt o mo
theorem Inv.uO (h:Inv p T W y m loc s):0<s.ah.length:=gi h.jT
theorem Inv.sub (h:Inv p T W y m loc s) {afZ:List (Nat×List D)} (hl : ∀ q∈afZ,q∈loc):Inv p T W y m afZ s:= {h with loc:=fun q m=>h.loc q (hl q m)}
theorem Inv.keep (h:Inv p T W y m loc s) {s':St} (k : ∀ (o:Nat) (r:List D),s.ah[o]? = some r→s'.ah[o]? = some r) (k0:s'.aw[0]? = s.aw[0]?) (k1:s'.aw[1]? = s.aw[1]?):Inv p T W y m loc s':=by
 have ka : ∀ {d:D} {cs:List D},jS s d cs→jS s' d cs:=fun ha=>ha.keep fun o mo=>by
  rw[List.getElem?_eq_getElem (ha.lt o mo)];exact k o _ (List.getElem?_eq_getElem _)
 obtain⟨l,hl⟩:=h.dj
 exact⟨k _ _ h.jT,by rw[k0];exact h.t0,by rw[k1];exact h.t1,h.len,fun i c v h1 h2=>k _ _ (h.cell i c v h1 h2),h.sJ,fun i o fr h1 h2=>⟨k _ _ (h.frame i o fr h1 h2).1,(h.frame i o fr h1 h2).2⟩,
  ka h.stack,⟨l,ka hl⟩,h.own,fun q m=>⟨k _ _ (h.loc q m).1,(h.loc q m).2⟩⟩
theorem Inv.new (h:Inv p T W y m loc s) (row:List D):Inv p T W y m ((s.ah.length,row)::loc) ⟨s.ah++ [row],s.aw⟩:=by
 have h':=h.keep (s':=⟨s.ah++ [row],s.aw⟩) (fun o r e=>by rw[List.getElem?_append_left (gi e)];exact e) rfl rfl
 refine {h' with loc:=fun q mq=>?_}
 rcases List.mem_cons.1 mq with rfl|mq
 ·exact⟨by simp,fun mo=>Nat.lt_irrefl _ (h.tR _ mo)⟩
 ·exact h'.loc q mq
theorem Inv.aw (h:Inv p T W y m loc s) (ts:List (Option Nat)):Inv p T W y m loc ⟨s.ah,s.aw++ts⟩:=
 h.keep (fun _ _ e=>e) (List.getElem?_append_left (List.getElem?_eq_some_iff.1 h.t0).1) (List.getElem?_append_left (List.getElem?_eq_some_iff.1 h.t1).1)
theorem Inv.Oc (h:Inv p T W y m loc s) {o:Nat} (ho:o∈y.own) (row:List D) {q:Nat} {r:List D} (hq:s.ah[q]? = some r) (hn:q≠o):(s.ah.set o row)[q]? = some r:=by
 rw[List.getElem?_set_ne (Ne.symm hn)];exact hq
theorem Inv.wc (h:Inv p T W y m loc s) {o:Nat} (ho:o∈y.κ++(y.sd.arr++y.vd.arr)):o≠0:=fun e=>by
 have:=h.own
 rw[Lay.own,List.nodup_cons]at this
 exact this.1 (e ▸ ho)
theorem Inv.ua (h:Inv p T W y m loc s) {m':Mc} (h1:m'.st=m.st) (h2:m'.mem=m.mem) {ts:List (Option Nat)} (k0:ts[0]? = some (some m'.out.length)) (k1:ts[1]? = some (some m'.trace.length)) :
 Inv p T W y m' loc ⟨s.ah.set 0 (fx p T W y m'),ts⟩:=by
 have ne : ∀ {q:Nat} {r:List D},s.ah[q]? = some r→q≠0→(s.ah.set 0 (fx p T W y m'))[q]? = some r:=fun e hn=>h.Oc (by simp[Lay.own]) _ e hn
 have nf : ∀ {q:Nat},q∉y.own→q≠0:=fun hq e=>hq (by rw[e];simp[Lay.own])
 have ka : ∀ {d:D} {cs:List D},(∀ o∈d.arr,o∈y.κ++(y.sd.arr++y.vd.arr))→jS s d cs→jS ⟨s.ah.set 0 (fx p T W y m'),ts⟩ d cs:=fun hd ha=>ha.keep fun o mo=>by
  show(s.ah.set 0 _)[o]? = _
  rw[List.getElem?_set_ne (Ne.symm (h.wc (hd o mo)))]
 obtain⟨l,hl⟩:=h.dj
 refine⟨by simp[h.uO],k0,k1,by rw[h2];exact h.len,fun i c v e1 e2=>ne (h.cell i c v e1 (by rw[← h2];exact e2)) (h.wc (List.mem_append_left _ (List.mem_of_getElem? e1))),by rw[h1];exact h.sJ,fun i o fr e1 e2=>?_,
  ka (fun o m=>by simp[m]) h.stack,⟨l,ka (fun o m=>by simp[m]) hl⟩,h.own,fun q mq=>⟨ne (h.loc q mq).1 (nf (h.loc q mq).2),(h.loc q mq).2⟩⟩
 rw[h1]at e2
 obtain⟨g1,g2,g3⟩:=h.frame i o fr e1 e2
 exact⟨ne g1 (nf g2),g2,by rw[h2];exact g3⟩
theorem Inv.XR (h:Inv p T W y m loc s) {i c:Nat} (hc:y.κ[i]? = some c) (v:Int):Inv p T W y {m with mem:=m.mem.set i v} loc ⟨s.ah.set c [.int .i64 v],s.aw⟩:=by
 have iR:c∈y.κ:=List.mem_of_getElem? hc
 have nM:c<s.ah.length:=h.tR c (by simp[Lay.own,iR])
 have Az:=h.own
 rw[Lay.own,List.nodup_cons,List.nodup_append]at Az
 have hκ : ∀ i',y.κ[i']? = some c→i'=i:=fun i' e=>(List.getElem?_inj (List.getElem?_eq_some_iff.1 e).1 Az.2.1).1 (e.trans hc.symm)
 have ne : ∀ {q:Nat} {r:List D},s.ah[q]? = some r→q≠c→(s.ah.set c [.int .i64 v])[q]? = some r:=fun e hn=>h.Oc (o:=c) (by simp[Lay.own,iR]) _ e hn
 have nf : ∀ {q:Nat},q∉y.own→q≠c:=fun hq e=>hq (by rw[e];simp[Lay.own,iR])
 have ka : ∀ {d:D} {cs:List D},(∀ o∈d.arr,o∈y.sd.arr++y.vd.arr)→jS s d cs→jS ⟨s.ah.set c [.int .i64 v],s.aw⟩ d cs:=fun hd ha=>ha.keep fun o mo=>by
  show(s.ah.set c _)[o]? = _
  rw[List.getElem?_set_ne (fun e=>Az.2.2.2 c iR o (hd o mo) e)]
 obtain⟨l,hl⟩:=h.dj
 refine⟨ne h.jT (fun e=>h.wc (List.mem_append_left _ iR) e.symm),h.t0,h.t1,by rw[h.len,List.length_set],fun i' c' v' e1 e2=>?_,h.sJ,fun i' o fr e1 e2=>?_,
  ka (fun o m=>by simp[m]) h.stack,⟨l,ka (fun o m=>by simp[m]) hl⟩,h.own,fun q mq=>⟨ne (h.loc q mq).1 (nf (h.loc q mq).2),(h.loc q mq).2⟩⟩
 ·show(s.ah.set c _)[c']? = _
  simp only[List.getElem?_set]at e2
  by_cases e:i=i'
  ·subst e
   rw[hc]at e1;cases e1
   rw[if_pos rfl]at e2
   split at e2
   ·cases e2;simp[nM]
   ·cases e2
  ·rw [if_neg e]at e2
   have:c'≠c:=fun ec=>e (hκ i' (by rw[e1,ec])).symm
   exact ne (h.cell i' c' v' e1 e2) this
 ·obtain⟨g1,g2,g3⟩:=h.frame i' o fr e1 e2
  exact⟨ne g1 (nf g2),g2,by simpa using g3⟩
theorem Inv.as7 (h:Inv p T W y m loc s) (v:Int) (hg:p.globals.length≤m.mem.length):Inv p T W {y with κ:=y.κ++ [s.ah.length]} {m with mem:=m.mem++ [v]} loc ⟨s.ah++ [[.int .i64 v]],s.aw⟩:=by
 have h':=h.keep (s':=⟨s.ah++ [[.int .i64 v]],s.aw⟩) (fun o r e=>by rw[List.getElem?_append_left (gi e)];exact e) rfl rfl
 have nX:s.ah.length∉y.own:=fun mo=>Nat.lt_irrefl _ (h.tR _ mo)
 have Az:=h.own
 have ho : ∀ o,o∈Lay.own {y with κ:=y.κ++ [s.ah.length]}→o∈y.own∨o=s.ah.length:=fun o mo=>by
  simp only[Lay.own,List.mem_cons,List.mem_append]at mo ⊢
  rcases mo with rfl|(mo|rfl|mo)|mo|mo
  ·exact .inl (.inl rfl)
  ·exact .inl (.inr (.inl mo))
  ·exact .inr rfl
  ·cases mo
  ·exact .inl (.inr (.inr (.inl mo)))
  ·exact .inl (.inr (.inr (.inr mo)))
 refine⟨by rw[h'.jT];simp only[fx];rw[List.take_append_of_le_length (by rw[h.len];exact hg)],h'.t0,h'.t1,by simp[h.len],fun i c v' e1 e2=>?_,h'.sJ,fun i o fr e1 e2=>?_,h'.stack,h'.dj, ?_,fun q mq=>⟨(h'.loc q mq).1,fun mo=>?_⟩⟩
 ·rcases Nat.lt_or_ge i y.κ.length with hi | hi
  ·rw [List.getElem?_append_left hi]at e1
   rw[List.getElem?_append_left (by rw[← h.len];exact hi)]at e2
   exact h'.cell i c v' e1 e2
  ·have ig:i=y.κ.length:=by
    have:=(List.getElem?_eq_some_iff.1 e1).1
    simp at this;omega
   subst ig
   rw[List.getElem?_append_right (Nat.le_refl _)]at e1
   rw[List.getElem?_append_right (by rw[h.len];exact Nat.le_refl _)]at e2
   simp at e1;subst e1
   simp[h.len]at e2;subst e2
   simp
 ·obtain⟨g1,g2,g3⟩:=h'.frame i o fr e1 e2
  refine⟨by rw[H8 (by rw[h.len];exact g3)];exact g1,fun mo=>?_,fun c mc=>by simp only[List.length_append];have:=g3 c mc;omega⟩
  rcases ho o mo with mo|rfl
  ·exact g2 mo
  ·exact absurd (gi (h.frame i _ fr e1 e2).1) (Nat.lt_irrefl _)
 ·have:(Lay.own {y with κ:=y.κ++ [s.ah.length]}).Perm (s.ah.length::y.own):=by
   simp only[Lay.own,List.append_assoc,List.singleton_append]
   exact(List.Perm.cons _ List.perm_middle).trans (List.Perm.swap _ _ _)
  rw[this.nodup_iff,List.nodup_cons]
  exact⟨nX,Az⟩
 ·rcases ho _ mo with mo | e
  ·exact(h'.loc q mq).2 mo
  ·exact absurd (gi (h.loc q mq).1) (by rw[e];exact Nat.lt_irrefl _)
theorem Inv.Rq (h:Inv p T W y m loc s) {vd:D} {s1:St} (k : ∀ (o:Nat) (r:List D),s.ah[o]? = some r→o∉y.vd.arr→s1.ah[o]? = some r) (hv : ∃ l:List Int,jS s1 vd (l.map qT)) (hn:vd.arr=y.vd.arr∨vd.arr = []∨vd.arr = [s.ah.length]) (ht:s1.aw=s.aw) :
 Inv p T W {y with vd:=vd} m loc ⟨s1.ah.set 0 (fx p T W {y with vd:=vd} m),s1.aw⟩:=by
 have Az:=h.own
 have af0:=Az
 rw[Lay.own,List.nodup_cons,List.nodup_append,List.nodup_append]at af0
 obtain⟨n0,nκ,⟨ns,nv,ZR⟩,LQ⟩:=af0
 have v0 : ∀ o∈y.vd.arr,o≠0:=fun o mo=>h.wc (by simp[mo])
 have qW:0<s1.ah.length:=gi (k 0 _ h.jT fun mo=>v0 0 mo rfl)
 have g : ∀ {o:Nat} {r:List D},s.ah[o]? = some r→o∉y.vd.arr→o≠0→(s1.ah.set 0 (fx p T W {y with vd:=vd} m))[o]? = some r:=fun e hv hn=>by
  rw[List.getElem?_set_ne (Ne.symm hn)];exact k _ _ e hv
 have LR : ∀ o,o∈Lay.own {y with vd:=vd}→o∈y.own∨o=s.ah.length:=fun o mo=>by
  simp only[Lay.own,List.mem_cons,List.mem_append]at mo ⊢
  rcases mo with rfl|mo|mo|mo
  ·exact .inl (.inl rfl)
  ·exact .inl (.inr (.inl mo))
  ·exact .inl (.inr (.inr (.inl mo)))
  ·rcases hn with e | e | e
   ·rw[e]at mo;exact .inl (.inr (.inr (.inr mo)))
   ·rw[e]at mo;cases mo
   ·rw[e]at mo;exact .inr (List.mem_singleton.1 mo)
 have nk : ∀ o∈y.κ,o∉y.vd.arr:=fun o mo mv=>LQ o mo o (List.mem_append_right _ mv) rfl
 have nsd : ∀ o∈y.sd.arr,o∉y.vd.arr:=fun o mo mv=>ZR o mo o mv rfl
 have ZS : ∀ {o:Nat},o∉y.own→o∉y.vd.arr∧o≠0:=fun ho=>⟨fun mv=>ho (by simp[Lay.own,mv]),fun e=>ho (by rw[e];simp[Lay.own])⟩
 obtain⟨l,hl⟩:=hv
 refine⟨by simp[qW],by rw[ht];exact h.t0,by rw[ht];exact h.t1,h.len,fun i c v e1 e2=>g (h.cell i c v e1 e2) (nk c (List.mem_of_getElem? e1)) (h.wc (by simp[List.mem_of_getElem? e1])),h.sJ,fun i o fr e1 e2=>?_, ?_,⟨l, ?_⟩, ?_,fun q mq=>?_⟩
 ·obtain⟨f1,f2,f3⟩:=h.frame i o fr e1 e2
  refine⟨g f1 (ZS f2).1 (ZS f2).2,fun mo=>?_,f3⟩
  rcases LR o mo with mo|e
  ·exact f2 mo
  ·exact absurd (gi f1) (by rw[e];exact Nat.lt_irrefl _)
 ·refine h.stack.keep fun o mo=> ?_
  rw[List.getElem?_eq_getElem (h.stack.lt o mo)]
  exact g (List.getElem?_eq_getElem _) (nsd o mo) (h.wc (by simp[mo]))
 ·refine hl.keep fun o mo=> ?_
  have:o≠0:=by
   rcases hn with e|e|e
   ·rw[e]at mo;exact v0 o mo
   ·rw[e]at mo;cases mo
   ·rw[e]at mo;rw[List.mem_singleton.1 mo];have:=h.uO;omega
  show(s1.ah.set 0 _)[o]? = _
  rw[List.getElem?_set_ne (Ne.symm this)]
 ·rcases hn with e | e | e
  ·simp only[Lay.own,e];exact Az
  ·simp only [Lay.own,e,List.append_nil]
   rw[List.nodup_cons,List.nodup_append]
   exact⟨fun m=>n0 (by rcases List.mem_append.1 m with m|m<;>simp[m]),nκ,ns,fun a ma b mb=>LQ a ma b (List.mem_append_left _ mb)⟩
  ·simp only [Lay.own,e]
   have dv : ∀ o∈y.own,o≠s.ah.length:=fun o mo e=>by have:=h.tR o mo;omega
   rw[List.nodup_cons,List.nodup_append,List.nodup_append]
   refine⟨fun m=>?_,nκ,⟨ns,by simp,fun a ma b mb=>?_⟩,fun a ma b mb=>?_⟩
   ·rcases List.mem_append.1 m with m | m
    ·exact n0 (by simp[m])
    ·rcases List.mem_append.1 m with m | m
     ·exact n0 (by simp[m])
     ·have:=List.mem_singleton.1 m;have:=h.uO;omega
   ·rw[List.mem_singleton.1 mb];exact dv a (by simp[Lay.own,ma])
   ·rcases List.mem_append.1 mb with mb | mb
    ·exact LQ a ma b (List.mem_append_left _ mb)
    ·rw[List.mem_singleton.1 mb];exact dv a (by simp[Lay.own,ma])
 ·obtain⟨f1,f2⟩:=h.loc q mq
  refine⟨g f1 (ZS f2).1 (ZS f2).2,fun mo=>?_⟩
  rcases LR q.1 mo with mo|e
  ·exact f2 mo
  ·exact absurd (gi f1) (by rw[e];exact Nat.lt_irrefl _)
end
end Go.Abs
namespace Go.Abs
set_option maxRecDepth 8000
open Go.Proofs
theorem Rr (b:Bool) (s:St):az Tryz.prog jF [.bool b] s (.int .i64 (uz b)) s:=by
 refine az.pure ?_ rfl rfl s
 generalize h:uz b=R
 simp only[uz]at h
 unfold S0
 refine az.go KQ rfl fun B Q hB hQ=>?_
 have⟨hC,hE,hM,hY⟩:=bE
 repeat' (first
 |simp only[go_sem,hC,hE,hM,hY]
 |(with_reducible first|refine aX fun hc=>?_|refine aY fun hc=>?_|refine aZ (fun hc=>?_) fun hc=>?_)<;>(try simp only[hc,bs,↓reduceIte]at h)<;>try simp only[hc]
 |(with_reducible refine aB hQ ?_;exact eA)
 |(cases h;done))
theorem abY (a:Int) (s:St):az Tryz.prog rJ [.int .i64 a] s (.bool (!(a==0))) s:=by
 refine az.pure ?_ rfl rfl s
 have e:(a != 0) = !(a==0):=rfl
 unfold S0
 refine az.go Gw rfl fun B Q hB hQ=>?_
 have⟨hC,hE,hM,hY⟩:=bE
 repeat' (first
 |simp only[go_sem,hC,hE,hM,hY,e]
 |(with_reducible first|refine aX fun hc=>?_|refine aY fun hc=>?_|refine aZ (fun hc=>?_) fun hc=>?_)<;>(try simp only[hc,bs,↓reduceIte]at h)<;>try simp only[hc]
 |(with_reducible refine aB hQ ?_;(try cases h);simp only[aR,aS,bo,bp,go_sem,hC,hE,hM,hY,e];try exact bS)
 |(cases h;done))
abbrev Aa (r:Int×Bool):D:= .tuple [.int .i64 r.1, .bool r.2]
theorem aiI (op a:Int) (s:St):az Tryz.prog zt [.int .i64 op, .int .i64 a] s (Aa (Rf op a)) s:=by
 refine az.pure ?_ rfl rfl s
 generalize h:Rf op a=R
 simp only[Rf,FK]at h
 unfold S0
 refine az.go KN rfl fun B Q hB hQ=>?_
 have⟨hC,hE,hM,hY⟩:=bE
 repeat' (first
 |simp only[go_sem,hC,hE,hM,hY]
 |(with_reducible refine CU (Rr _ _) ?_)
 |(with_reducible first|refine aX fun hc=>?_|refine aY fun hc=>?_|refine aZ (fun hc=>?_) fun hc=>?_)<;>(try simp only[hc,bs,↓reduceIte]at h)<;>try simp only[hc]
 |(with_reducible refine aB hQ ?_;exact eA)
 |(cases h;done))
theorem XS (op a b:Int) (s:St):az Tryz.prog ug [.int .i64 op, .int .i64 a, .int .i64 b] s (Aa (Rg op a b)) s:=by
 refine az.pure ?_ rfl rfl s
 generalize h:Rg op a b=R
 simp only[Rg,FK]at h
 unfold S0
 rcases Bool.eq_false_or_eq_true (b==0)with b0|b0
 ·refine az.go wT rfl fun B Q hB hQ=> ?_
  have⟨hC,hE,hM,hY⟩:=bE
  repeat' (first
 |simp only[go_sem,hC,hE,hM,hY]
 |(with_reducible first|refine aX fun hc=>?_|refine aY fun hc=>?_|refine aZ (fun hc=>?_) fun hc=>?_)<;>(try simp only[hc,bs,↓reduceIte]at h)<;>try simp only[hc]
 |(with_reducible refine aB hQ ?_;exact eA)
 |(cases h;done))
 ·have hb:b≠0:=by simpa using b0
  refine az.go wT rfl fun B Q hB hQ=>?_
  have⟨hC,hE,hM,hY⟩:=bE
  repeat' (first
 |simp only[go_sem,hC,hE,hM,hY,hb]
 |(with_reducible first|refine aX fun hc=>?_|refine aY fun hc=>?_|refine aZ (fun hc=>?_) fun hc=>?_)<;>(try simp only[hc,bs,↓reduceIte]at h)<;>try simp only[hc]
 |(with_reducible refine aB hQ ?_;(try cases h);simp only[aR,aS,bo,bp,go_sem,hC,hE,hM,hY,hb];try exact bS)
 |(cases h;done))
theorem Uy (op a b:Int) (s:St):az Tryz.prog sA [.int .i64 op, .int .i64 a, .int .i64 b] s (Aa (Rh op a b)) s:=by
 refine az.pure ?_ rfl rfl s
 have e:(a != b) = !(a==b):=rfl
 generalize h:Rh op a b=R
 simp only[Rh]at h
 unfold S0
 refine az.go DZ rfl fun B Q hB hQ=>?_
 have⟨hC,hE,hM,hY⟩:=bE
 repeat' (first
 |simp only[go_sem,hC,hE,hM,hY,e]
 |(with_reducible refine CU (Rr _ _) ?_)
 |(with_reducible first|refine aX fun hc=>?_|refine aY fun hc=>?_|refine aZ (fun hc=>?_) fun hc=>?_)<;>(try simp only[hc,bs,↓reduceIte]at h)<;>try simp only[hc]
 |(with_reducible refine aB hQ ?_;(try cases h);simp only[aR,aS,bo,bp,go_sem,hC,hE,hM,hY,e];try exact bS)
 |(cases h;done))
theorem aiJ (op a b:Int) (s:St):az Tryz.prog zu [.int .i64 op, .int .i64 a, .int .i64 b] s (Aa (Ri op a b)) s:=by
 refine az.pure ?_ rfl rfl s
 have e1:(a != 0) = !(a==0):=rfl
 have e2:(b != 0) = !(b==0):=rfl
 generalize h:Ri op a b=R
 simp only[Ri,FK]at h
 unfold S0
 refine az.go KO rfl fun B Q hB hQ=>?_
 have⟨hC,hE,hM,hY⟩:=bE
 repeat' (first
 |simp only[go_sem,hC,hE,hM,hY,e1,e2]
 |(with_reducible refine CU (Rr _ _) ?_)
 |(with_reducible refine CU (XS _ _ _ _) ?_)
 |(with_reducible refine CU (Uy _ _ _ _) ?_)
 |(with_reducible first|refine aX fun hc=>?_|refine aY fun hc=>?_|refine aZ (fun hc=>?_) fun hc=>?_)<;>(try simp only[hc,bs,↓reduceIte]at h)<;>try simp only[hc]
 |(with_reducible refine aB hQ ?_;(try cases h);simp only[aR,aS,bo,bp,go_sem,hC,hE,hM,hY,e1,e2];try exact bS)
 |(cases h;done))
def we (x:Int) (k:Int):List Int→Int
 | []=> -1
 |s::l=>if x==s then k else we x (k+1) l
theorem NU (x:Int) : ∀ (l:List Int) (k:Int),0≤k→(we x k l≥0↔l.contains x=true)
 | [],k,h=>by simp[we]
 | s::l,k,h=>by
  by_cases e:x=s
  ·simp[we,e];omega
  ·have e':(x==s)=false:=by simp [e]
   simp only[we,e',Bool.false_eq_true,if_false,List.contains_cons,Bool.false_or]
   exact NU x l (k+1) (by omega)
theorem XT {l:List Int} (hl:l.length<4611686018427387904) (x:Int) (s:St):az Tryz.prog pw [.slice .shared 1 (l.map cT), .int .i64 x] s (.int .i64 (we x 0 l)) s:=by
 refine az.pure ?_ (by simp[D.bI,D.ok,Tag.ok,kL]) rfl s
 generalize h:we x 0 l=p
 unfold S0
 refine az.go zH rfl fun B Q hB hQ=>?_
 have⟨hC,hE,hM,hY⟩:=bE
 repeat' (first
 |simp only[go_sem,hC,hE,hM,hY]
 |(with_reducible first|refine aX fun hc=>?_|refine aY fun hc=>?_|refine aZ (fun hc=>?_) fun hc=>?_)<;>(try simp only[hc,bs,↓reduceIte]at h)<;>try simp only[hc]
 |(with_reducible refine aB hQ ?_;exact eA)
 |(cases h;done))
 refine dS 0 0 (bg.ind (ι:=List Int×Nat) (fun i=>l.drop i.2=i.1∧we x (i.2:Int) i.1=p) (fun i=>i.1.length)
  (fun i=> [(0, .slice .shared 1 (l.map cT)),(1, .int .i64 x),(7, .int .i64 (l.length:Int)),(8, .int .i64 (i.2:Int))]) (fun i=>⟨[],[]⟩) ?_ (l,0) ⟨rfl,h⟩)
 rintro⟨rest,k⟩ ⟨h1,h⟩ IH
 dsimp only at h1 h
 cases rest with
 |nil=>
  have hC:=drop_nil h1
  simp only[we]at h
  repeat' (first
 |simp only[go_sem,hC,hE,hM,hY]
 |(with_reducible first|refine aX fun hc=>?_|refine aY fun hc=>?_|refine aZ (fun hc=>?_) fun hc=>?_)<;>(try simp only[hc,bs,↓reduceIte]at h)<;>try simp only[hc]
 |(with_reducible refine aB hQ ?_;exact eA)
 |(cases h;done))
 |cons a rest=>
  obtain⟨hE,g2,hC,g4⟩:=drop_cons h1
  have cp:k<4611686018427387904:=by omega
  simp only[we]at h
  repeat' (first
 |simp only[go_sem,hC,hE,hM,hY]
 |(with_reducible first|refine aX fun hc=>?_|refine aY fun hc=>?_|refine aZ (fun hc=>?_) fun hc=>?_)<;>(try simp only[hc,bs,↓reduceIte]at h)<;>try simp only[hc]
 |(with_reducible refine aB hQ ?_;exact eA)
 |(cases h;done))
  refine eV 0 0 ?_ ?_ (IH (rest,k+1) ⟨g2,h⟩ (Nat.lt_succ_self _))
  ·(simp only[go_sem,hC,hE,hM,hY,aL cp];try exact cu)
  ·(simp only[go_sem,hC,hE,hM,hY,aL cp];try exact cu)
theorem MU {l:List Int} (hl:l.length<4611686018427387904) (x:Int) (s:St):az Tryz.prog nr [.slice .shared 1 (l.map cT), .int .i64 x] s (.bool (l.contains x)) s:=by
 refine az.pure ?_ (by simp[D.bI,D.ok,Tag.ok,kL]) rfl s
 have hi:=fun s=>XT hl x s
 have e:decide (we x 0 l≥0)=l.contains x:=by
  have:=NU x l 0 (Int.le_refl 0)
  cases h:l.contains x<;>simp_all
 unfold S0
 refine az.go wu rfl fun B Q hB hQ=>?_
 have⟨hC,hE,hM,hY⟩:=bE
 repeat' (first
 |simp only[go_sem,hC,hE,hM,hY,e]
 |(with_reducible refine CU (hi _) ?_)
 |(with_reducible first|refine aX fun hc=>?_|refine aY fun hc=>?_|refine aZ (fun hc=>?_) fun hc=>?_)<;>(try simp only[hc,bs,↓reduceIte]at h)<;>try simp only[hc]
 |(with_reducible refine aB hQ ?_;(try cases h);simp only[aR,aS,bo,bp,go_sem,hC,hE,hM,hY,e];try exact bS)
 |(cases h;done))
theorem mY (names:List aF) (dj:List Int) (op n:Int) (name:aF) (kids:List Ex):Ex.val names dj ⟨op,n,name,kids⟩=if op==1 then(n,true)else if op==2 then(Rj name names dj,true)else Jj op (kids.map (Ex.val names dj)):=by
 have e : ∀ l:List Ex,Ex.Rk names dj l=l.map (Ex.val names dj):=fun l=>by
  induction l with
  |nil=>rfl
  |cons x l ih=>simp only[Ex.Rk,List.map_cons,ih]
 simp only[Ex.val,e]
theorem af1 {names:List aF} {dj:List Int} (hn:names.length<4611686018427387904) (hv:dj.length<4611686018427387904) : ∀ (n:Nat) (x:Ex),x.dp (n:Int)=true→
 az Tryz.prog lk [.agg (bJ x), .slice .shared 1 (names.map encStr), .slice .shared 1 (dj.map cT)] S0 (Aa (x.val names dj)) S0:=by
 intro n
 induction n with
 |zero=>rintro⟨op,v,name,kids⟩ h;rw[K6]at h;omega
 | succ n ih=>
  rintro⟨op,v,name,kids⟩ h
  rw[K6]at h
  obtain⟨_,hk,h⟩:=h
  have Ld:=fun s=>CA hn name s
  generalize hR:Ex.val names dj ⟨op,v,name,kids⟩=R
  rw[mY]at hR
  unfold S0
  by_cases o1:op=1
  ·subst o1
   simp only[beq_self_eq_true,if_true]at hR
   rw[← hR]
   show az Tryz.prog lk _ _ (.tuple [.int .i64 v, .bool true]) _
   refine az.go oA rfl fun B Q hB hQ=>?_
   have⟨hC,hE,hM,hY⟩:=bE
   repeat' (first
 |simp only[go_sem,hC,hE,hM,hY,beq_self_eq_true]
 |(with_reducible first|refine aX fun hc=>?_|refine aY fun hc=>?_|refine aZ (fun hc=>?_) fun hc=>?_)<;>(try simp only[hc,bs,↓reduceIte]at h)<;>try simp only[hc]
 |(with_reducible refine aB hQ ?_;(try cases h);simp only[aR,aS,bo,bp,go_sem,hC,hE,hM,hY,beq_self_eq_true];try exact bS)
 | (cases h;done))
  rw[if_neg o1]at h
  have b1:(op==1)=false:=by simp[o1]
  by_cases o2:op=2
  ·subst o2
   simp only[b1,Bool.false_eq_true,if_false,beq_self_eq_true,if_true,Rj]at hR
   by_cases hi:jk name 0 names≥0
   ·obtain⟨j,hj⟩:=Int.eq_ofNat_of_zero_le hi
    rw[if_pos hi]at hR
    have b2:decide (jk name 0 names≥0)=true:=by simpa using hi
    rw[hj]at b2 hR
    rw[hj]at Ld
    rcases Nat.lt_or_ge j dj.length with hl|hl
    ·have b3:decide ((j:Int)<(dj.length:Int))=true:=by simp [hl]
     have hg:dj[j]? = some (dj.getD j 0):=by rw[List.getD_eq_getElem?_getD,List.getElem?_eq_getElem hl];rfl
     rw[Int.toNat_natCast]at hR
     rw[← hR]
     show az Tryz.prog lk _ _ (.tuple [.int .i64 (dj.getD j 0), .bool true]) _
     refine az.go oA rfl fun B Q hB hQ=>?_
     have⟨hC,hE,hM,hY⟩:=bE
     repeat' (first
 |simp only[go_sem,hC,hE,hM,hY,b1,b2,b3,hg,beq_self_eq_true,decide_true]
 |(with_reducible refine CU (Ld _) ?_)
 |(with_reducible first|refine aX fun hc=>?_|refine aY fun hc=>?_|refine aZ (fun hc=>?_) fun hc=>?_)<;>(try simp only[hc,bs,↓reduceIte]at h)<;>try simp only[hc]
 |(with_reducible refine aB hQ ?_;(try cases h);simp only[aR,aS,bo,bp,go_sem,hC,hE,hM,hY,b1,b2,b3,hg,beq_self_eq_true,decide_true];try exact bS)
 | (cases h;done))
    ·have b3:decide ((j:Int)<(dj.length:Int))=false:=by simp;omega
     rw[Int.toNat_natCast,List.getD_eq_getElem?_getD,List.getElem?_eq_none hl,Option.getD_none]at hR
     rw[← hR]
     show az Tryz.prog lk _ _ (.tuple [.int .i64 0, .bool true]) _
     refine az.go oA rfl fun B Q hB hQ=>?_
     have⟨hC,hE,hM,hY⟩:=bE
     repeat' (first
 |simp only[go_sem,hC,hE,hM,hY,b1,b2,b3,beq_self_eq_true,decide_true]
 |(with_reducible refine CU (Ld _) ?_)
 |(with_reducible first|refine aX fun hc=>?_|refine aY fun hc=>?_|refine aZ (fun hc=>?_) fun hc=>?_)<;>(try simp only[hc,bs,↓reduceIte]at h)<;>try simp only[hc]
 |(with_reducible refine aB hQ ?_;(try cases h);simp only[aR,aS,bo,bp,go_sem,hC,hE,hM,hY,b1,b2,b3,beq_self_eq_true,decide_true];try exact bS)
 | (cases h;done))
   ·rw [if_neg hi]at hR
    have b2:decide (jk name 0 names≥0)=false:=by simpa using hi
    rw[← hR]
    show az Tryz.prog lk _ _ (.tuple [.int .i64 0, .bool true]) _
    refine az.go oA rfl fun B Q hB hQ=>?_
    have⟨hC,hE,hM,hY⟩:=bE
    repeat' (first
 |simp only[go_sem,hC,hE,hM,hY,b1,b2,beq_self_eq_true]
 |(with_reducible refine CU (Ld _) ?_)
 |(with_reducible first|refine aX fun hc=>?_|refine aY fun hc=>?_|refine aZ (fun hc=>?_) fun hc=>?_)<;>(try simp only[hc,bs,↓reduceIte]at h)<;>try simp only[hc]
 |(with_reducible refine aB hQ ?_;(try cases h);simp only[aR,aS,bo,bp,go_sem,hC,hE,hM,hY,b1,b2,beq_self_eq_true];try exact bS)
 | (cases h;done))
  rw[if_neg o2]at h
  have b2:(op==2)=false:=by simp[o2]
  simp only[b1,b2,Bool.false_eq_true,if_false]at hR
  have hd:=h.2.2
  rw[show((n+1:Nat):Int) - 1=(n:Int) by omega]at hd
  have ihs : ∀ {y:Ex},y∈kids→∀ s,az Tryz.prog lk [.agg (bJ y), .slice .shared 1 (names.map encStr), .slice .shared 1 (dj.map cT)] s (Aa (y.val names dj)) s:=fun {y} hy s=>by
   have:y.dp (n:Int)=true:=by
    have key : ∀ l:List Ex,Ex.BP (n:Int) l=true→y∈l→y.dp (n:Int)=true:=fun l=>by
     induction l with
     |nil=>intro _ m;cases m
     | cons z l Tk=>
      intro hz m
      simp only[Ex.BP]at hz
      split at hz
      ·cases hz
      ·rename_i FH
       rcases List.mem_cons.1 m with rfl|m
       ·simpa using FH
       ·exact Tk hz m
    exact key kids hd hy
   exact az.pure (ih y this) (by simp[D.bI,D.ok,Tag.ok,gW,eF,kL]) rfl s
  clear h Ld
  have n1:((1:Nat):Int)=1:=rfl
  have e1:((1:Int)==1)=true:=rfl
  have e2:((2:Int)==1)=false:=rfl
  rename _=R=>h
  cases kids with
  |nil=>simp[lK]at hk;omega
  | cons a kids=>
   have c1:=fun s=>ihs (y:=a) (by simp) s
   cases kids with
   |nil=>
    simp only[List.map_cons,List.map_nil,Jj]at h
    refine az.go oA rfl fun B Q hB hQ=>?_
    have⟨hC,hE,hM,hY⟩:=bE
    repeat' (first
 |simp only[go_sem,hC,hE,hM,hY,b1,b2,e1]
 |(with_reducible refine CU (c1 _) ?_)
 |(with_reducible refine CU (aiI _ _ _) ?_)
 |(with_reducible first|refine aX fun hc=>?_|refine aY fun hc=>?_|refine aZ (fun hc=>?_) fun hc=>?_)<;>(try simp only[hc,bs,↓reduceIte]at h)<;>try simp only[hc]
 |(with_reducible refine aB hQ ?_;(try cases h);simp only[aR,aS,bo,bp,go_sem,hC,hE,hM,hY,b1,b2,e1];try exact bS)
 | (cases h;done))
   | cons b kids=>
    cases kids with
    |nil=>
     have c2:=fun s=>ihs (y:=b) (by simp) s
     have e3 : [bJ a,bJ b][Int.toNat 1]? = some (bJ b):=rfl
     simp only[List.map_cons,List.map_nil,Jj]at h
     refine az.go oA rfl fun B Q hB hQ=>?_
     have⟨hC,hE,hM,hY⟩:=bE
     repeat' (first
 |simp only[go_sem,hC,hE,hM,hY,b1,b2,e2,e3]
 |(with_reducible refine CU (c1 _) ?_)
 |(with_reducible refine CU (c2 _) ?_)
 |(with_reducible refine CU (abY _ _) ?_)
 |(with_reducible refine CU (aiJ _ _ _ _) ?_)
 |(with_reducible first|refine aX fun hc=>?_|refine aY fun hc=>?_|refine aZ (fun hc=>?_) fun hc=>?_)<;>(try simp only[hc,bs,↓reduceIte]at h)<;>try simp only[hc]
 |(with_reducible refine aB hQ ?_;(try cases h);simp only[aR,aS,bo,bp,go_sem,hC,hE,hM,hY,b1,b2,e2,e3];try exact bS)
 | (cases h;done))
    |cons c kids=>simp[lK]at hk;omega
theorem XU {x:Ex} {names:List aF} {dj:List Int} (hx:x.size<4611686018427387904) (ht:x.texts) (hn:names.length<4611686018427387904) (hv:dj.length<4611686018427387904) (s:St) :
 az Tryz.prog wO [.agg (bJ x), .slice .shared 1 (names.map encStr), .slice .shared 1 (dj.map cT)] s (Aa (x.bU names dj)) s:=by
 refine az.pure ?_ (by simp[D.bI,D.ok,Tag.ok,gW,eF,kL]) rfl s
 have hm:=fun s=>zO hx ht s
 rw[Fu]at hm
 generalize h:x.bU names dj=R
 simp only[Ex.bU]at h
 unfold S0
 rcases Bool.eq_false_or_eq_true x.may with b|b
 ·rw [if_pos b]at h
  have c1:=fun s=>az.pure (af1 hn hv 20 x (by rw[show((20:Nat):Int)=20 from rfl,Fu];exact b)) (by simp[D.bI,D.ok,Tag.ok,gW,eF,kL]) rfl s
  rw[h]at c1
  refine az.go Du rfl fun B Q hB hQ=>?_
  have⟨hC,hE,hM,hY⟩:=bE
  repeat' (first
 |simp only[go_sem,hC,hE,hM,hY,b]
 |(with_reducible refine CU (hm _) ?_)
 |(with_reducible refine CU (c1 _) ?_)
 |(with_reducible first|refine aX fun hc=>?_|refine aY fun hc=>?_|refine aZ (fun hc=>?_) fun hc=>?_)<;>(try simp only[hc,bs,↓reduceIte]at h)<;>try simp only[hc]
 |(with_reducible refine aB hQ ?_;(try cases h);simp only[aR,aS,bo,bp,go_sem,hC,hE,hM,hY,b];try exact bS)
 |(cases h;done))
 ·rw [if_neg (by simp [b])]at h
  refine az.go Du rfl fun B Q hB hQ=>?_
  have⟨hC,hE,hM,hY⟩:=bE
  repeat' (first
 |simp only[go_sem,hC,hE,hM,hY,b]
 |(with_reducible refine CU (hm _) ?_)
 |(with_reducible first|refine aX fun hc=>?_|refine aY fun hc=>?_|refine aZ (fun hc=>?_) fun hc=>?_)<;>(try simp only[hc,bs,↓reduceIte]at h)<;>try simp only[hc]
 |(with_reducible refine aB hQ ?_;(try cases h);simp only[aR,aS,bo,bp,go_sem,hC,hE,hM,hY,b];try exact bS)
 |(cases h;done))
theorem Ab {size bytes:Nat} {rows:List (List D)} (h:rows≠ []) (hl:rows.length*(bytes+1)≤bA) {z:Nat} {g:Tag} (o:List (List D)) (T:List (Option Nat)) :
 gw size bytes (.slice .full z []) (.slice g size rows) ⟨o,T⟩=some (.slice (.tok T.length) size rows,⟨o,T++ [some rows.length]⟩):=by
 cases rows with
 |nil=>exact absurd rfl h
 |cons x r=>simp only[List.length_cons]at hl;simp[gw,hl]
theorem Ac {size bytes z z':Nat} {g:Tag} (o:List (List D)) (T:List (Option Nat)) :
 gw size bytes (.slice .full z []) (.slice g z' []) ⟨o,T⟩=some (.slice .full z [],⟨o,T⟩):=by simp[gw,bA]
def Sm.bare (v:Sm):Sm:= {v with bm:= [],bd:= []}
theorem az.aiK {P:Program} {f:FuncId} {args:List D} {z k:Nat} {rows:List (List D)} (h:az P f args S0 (.slice (.tok 0) z rows) ⟨[],[some k]⟩) (ha:D.bI 0 0 args=true) (hr:D.gY 0 0 rows=true) (s:St) :
 az P f args s (.slice (.tok s.aw.length) z rows) ⟨s.ah,s.aw++ [some k]⟩:=by
 refine bL.frame [] [] h List.nodup_nil List.nodup_nil (by simp) (by simp) rfl (by simp) rfl (by simp) (by rw[fb _ _ _ ha]) ha ?_
 rintro _ _ ⟨rfl,rfl⟩
 refine⟨by simp[D.back,D.de,Tag.de,ko,ik _ _ _ hr], ?_⟩
 simp[St.back,kG]
theorem Rs (g:Tag) (z:Nat) (s:St):az Tryz.prog fi [.slice g z []] s (.slice .full 1 []) s:=by
 refine bL.mA (.cons (Wk.nil _ _ 1) .nil) (az.pure ?_ rfl rfl s)
 unfold S0
 refine az.go lT rfl fun B Q hB hQ=>?_
 have⟨hC,hE,hM,hY⟩:=bE
 repeat' (first
 |simp only[go_sem,hC,hE,hM,hY]
 |(with_reducible first|refine aX fun hc=>?_|refine aY fun hc=>?_|refine aZ (fun hc=>?_) fun hc=>?_)<;>(try simp only[hc,bs,↓reduceIte]at h)<;>try simp only[hc]
 |(with_reducible refine aB hQ ?_;exact eA)
 |(cases h;done))
 refine DT (fun _=>?_) ?_
 ·repeat' (first
 |simp only[go_sem,hC,hE,hM,hY,gw,true_or,Nat.zero_le]
 |(with_reducible first|refine aX fun hc=>?_|refine aY fun hc=>?_|refine aZ (fun hc=>?_) fun hc=>?_)<;>(try simp only[hc,bs,↓reduceIte]at h)<;>try simp only[hc]
 |(with_reducible refine aB hQ ?_;(try cases h);simp only[aR,aS,bo,bp,go_sem,hC,hE,hM,hY,gw,true_or,Nat.zero_le];try exact bS)
 |(cases h;done))
 ·repeat' (first
 |simp only[go_sem,hC,hE,hM,hY,gw,true_or,Nat.zero_le]
 |(with_reducible first|refine aX fun hc=>?_|refine aY fun hc=>?_|refine aZ (fun hc=>?_) fun hc=>?_)<;>(try simp only[hc,bs,↓reduceIte]at h)<;>try simp only[hc]
 |(with_reducible refine aB hQ ?_;(try cases h);simp only[aR,aS,bo,bp,go_sem,hC,hE,hM,hY,gw,true_or,Nat.zero_le];try exact bS)
 |(cases h;done))
theorem Rt {l:List aF} (hl:l.length<1073741824) (h0:l≠ []) (s:St):az Tryz.prog fi [.slice .shared 1 (l.map encStr)] s (.slice (.tok s.aw.length) 1 (l.map encStr)) ⟨s.ah,s.aw++ [some l.length]⟩:=by
 refine az.aiK ?_ (by simp[D.bI,D.ok,Tag.ok,eF]) (eF l) s
 unfold S0
 refine az.goK 0 1 (Nat.zero_le _) (Nat.zero_le _) lT rfl fun B Q hB hQ=>?_
 have⟨hC,hE,hM,hY⟩:=bE
 have ha:=fun o T=>Ab (size:=1) (bytes:=16) (rows:=l.map encStr) (by simpa using h0) (by simp only[List.length_map];unfold bA;omega) (z:=1) (g:= .shared) o T
 cases l with
 |nil=>exact absurd rfl h0
 |cons x l=>
  simp only[List.map_cons,encStr]at ha
  repeat' (first
 |simp only[go_sem,hC,hE,hM,hY,ha]
 |(with_reducible first|refine aX fun hc=>?_|refine aY fun hc=>?_|refine aZ (fun hc=>?_) fun hc=>?_)<;>(try simp only[hc,bs,↓reduceIte]at h)<;>try simp only[hc]
 |(with_reducible refine aB hQ ?_;(try cases h);simp only[aR,aS,bo,bp,go_sem,hC,hE,hM,hY,ha];try exact bS)
 |(cases h;done))
theorem NV {a b:List aF} {n:Nat} (hn:n=a.length) (h:a.length+b.length≤1000000000) {g:Tag} {t:Nat} {s:St} (ht:s.aw[t]? = some (some n)) :
 gw 1 16 (.slice (.tok t) 1 (a.map encStr)) (.slice g 1 (b.map encStr)) s=some (.slice (.tok t) 1 ((a++b).map encStr),⟨s.ah,s.aw.set t (some (a++b).length)⟩):=by
 subst hn
 rw[pf (size:=1) (bytes:=16) (by simp only[List.length_map];unfold bA;omega) (by simpa using ht)]
 simp
theorem af2 {p:Pg} (h:p.jc) (hb:p.may=true) {name:aF} {f:Pc} (hf:p.find name=some f) (s:St):az Tryz.prog vA [.agg (cO p), .str name] s (.slice .shared 1 ((p.globals++f.own).map encStr)) s:=by
 refine az.pure ?_ (by simp[D.bI,D.ok,j8]) (by simp only[D.ok,Tag.ok,eF];rfl) s
 have hm:=fun s=>K1 h.Q1 s
 simp only[CF,hb]at hm
 obtain⟨sf,r5,rZ⟩:=h.procs
 simp only[Pg.find]at hf
 unfold S0
 refine az.go Gt rfl fun B Q hB hQ=>?_
 have⟨hC,hE,hM,hY⟩:=bE
 repeat' (first
 |simp only[go_sem,hC,hE,hM,hY]
 |(with_reducible refine CU (hm _) ?_)
 |(with_reducible first|refine aX fun hc=>?_|refine aY fun hc=>?_|refine aZ (fun hc=>?_) fun hc=>?_)<;>(try simp only[hc,bs,↓reduceIte]at h)<;>try simp only[hc]
 |(with_reducible refine aB hQ ?_;exact eA)
 |(cases h;done))
 refine dS 1 0 (bg.ind (ι:=List Pc×Nat) (fun i=>p.procs.drop i.2=i.1∧iY name i.1=some f) (fun i=>i.1.length)
  (fun i=> [(1, .str name),(2, .ptr 0 0),(11, .slice .shared 5 (p.procs.map cJ)),(12, .int .i64 (p.procs.length:Int)),(13, .int .i64 (i.2:Int))]) (fun i=>⟨[cO p],[]⟩) ?_ (p.procs,0) ⟨rfl,hf⟩)
 rintro⟨rest,k⟩ ⟨h1,h2⟩ IH
 dsimp only at h1 h2
 cases rest with
 |nil=>cases h2
 | cons a rest=>
  obtain⟨hE,g2,hC,g4⟩:=drop_cons h1
  have cp:k<4611686018427387904:=by omega
  have vY:=h.small (List.mem_of_getElem? hE)
  simp only[iY]at h2
  rcases Bool.eq_false_or_eq_true (a.name==name)with b1|b1
  ·simp only [b1,if_true]at h2
   cases h2
   have ho:=fun s=>Zy (f:=f) vY.par vY.vars s
   have jX:f.own.length<2000000:=by have:=vY.par;have:=vY.vars;simp[Pc.own,Pc.tN];omega
   cases e:p.globals with
   | nil=>
    simp only[List.nil_append]at *
    have c1:=fun g z s=>Rs g z s
    cases e2:f.own with
    |nil=>
     rw[e2]at ho hQ
     have ha:=fun o T=>Ac (size:=1) (bytes:=16) (z:=1) (z':=1) (g:= .shared) o T
     repeat' (first
 |simp only[go_sem,hC,hE,hM,hY,b1,ha,e]
 |(with_reducible refine CU (c1 _ _ _) ?_)
 |(with_reducible refine CU (ho _) ?_)
 |(with_reducible first|refine aX fun hc=>?_|refine aY fun hc=>?_|refine aZ (fun hc=>?_) fun hc=>?_)<;>(try simp only[hc,bs,↓reduceIte]at h)<;>try simp only[hc]
 |(with_reducible refine aB hQ ?_;(try cases h);simp only[aR,aS,bo,bp,go_sem,hC,hE,hM,hY,b1,ha,e];try exact bS)
 | (cases h;done))
    |cons x l=>
     have ha:=fun o T=>Ab (size:=1) (bytes:=16) (rows:=f.own.map encStr) (by simp[e2]) (by simp only[List.length_map];unfold bA;omega) (z:=1) (g:= .shared) o T
     repeat' (first
 |simp only[go_sem,hC,hE,hM,hY,b1,ha,e]
 |(with_reducible refine CU (c1 _ _ _) ?_)
 |(with_reducible refine CU (ho _) ?_)
 |(with_reducible first|refine aX fun hc=>?_|refine aY fun hc=>?_|refine aZ (fun hc=>?_) fun hc=>?_)<;>(try simp only[hc,bs,↓reduceIte]at h)<;>try simp only[hc]
 |(with_reducible refine aB hQ ?_;(try cases h);simp only[aR,aS,bo,bp,go_sem,hC,hE,hM,hY,b1,ha,e];try exact bS)
 | (cases h;done))
   |cons x l=>
    have c1:=fun s=>Rt (l:=p.globals) (by omega) (by simp[e]) s
    have ha:=fun {s:St} {t:Nat} (ht:s.aw[t]? = some (some p.globals.length))=>NV (a:=p.globals) (b:=f.own) (g:= .shared) rfl (by omega) ht
    have wF:=fun o=>NV (a:=p.globals) (b:=f.own) (g:= .shared) (t:=0) (s:=⟨o,[some p.globals.length]⟩) rfl (by omega) rfl
    repeat' (first
 |simp only[go_sem,hC,hE,hM,hY,b1,wF]
 |(with_reducible refine CU (c1 _) ?_)
 |(with_reducible refine CU (ho _) ?_)
 |(with_reducible first|refine aX fun hc=>?_|refine aY fun hc=>?_|refine aZ (fun hc=>?_) fun hc=>?_)<;>(try simp only[hc,bs,↓reduceIte]at h)<;>try simp only[hc]
 |(with_reducible refine aB hQ ?_;(try cases h);simp only[aR,aS,bo,bp,go_sem,hC,hE,hM,hY,b1,wF];try exact bS)
 | (cases h;done))
  ·simp only [b1,Bool.false_eq_true,if_false]at h2
   repeat' (first
 |simp only[go_sem,hC,hE,hM,hY,b1]
 |(with_reducible first|refine aX fun hc=>?_|refine aY fun hc=>?_|refine aZ (fun hc=>?_) fun hc=>?_)<;>(try simp only[hc,bs,↓reduceIte]at h)<;>try simp only[hc]
 |(with_reducible refine aB hQ ?_;(try cases h);simp only[aR,aS,bo,bp,go_sem,hC,hE,hM,hY,b1];try exact bS)
 | (cases h;done))
   refine eV 1 0 ?_ ?_ (IH (rest,k+1) ⟨g2,h2⟩ (Nat.lt_succ_self _))
   ·(simp only[go_sem,hC,hE,hM,hY,aL cp];try exact cu)
   ·(simp only[go_sem,hC,hE,hM,hY,aL cp];try exact cu)
theorem MV {p:Pg} (hb:p.may=true) {i:Nat} {f:Pc} (hf:p.procs[i]? = some f) : ∃ a b:Int,p.bh.lo[i]? = some a∧p.bh.hi[i]? = some b∧(if decide (a<b)=true then a else -1)=gv f.body (-1):=by
 obtain⟨a,b,e,h1,h2,h3,h4⟩:=(nO p).2 i f hf
 refine⟨_,_,h1,h2, ?_⟩
 cases Co:f.body with
 |nil=>
  rw[Co]at h3
  have:b = []:=by simpa[Sm.dr]using h3
  subst this
  simp[gv]
 | cons s l=>
  rw[Co,Sm.dr,Sm.qq]at h3
  cases b with
  |nil=>simp at h3
  | cons x b=>
   simp only[List.map_cons,List.cons_append,List.cons.injEq]at h3
   have hx:p.pre[a.length]? = some s:=by
    rw[← (nO p).1,h4]
    simp[h3.1]
   have:=Lc hb hx
   rw[if_pos (by simp;omega)]
   simp only[gv]
   rw[this];omega
theorem abZ {p:Pg} (hb:p.may=true) {i:Nat} {f:Pc} (hf:p.procs[i]? = some f) (s:St):az Tryz.prog pj [.dO (fA p) 0, .int .i64 (i:Int)] s (.int .i64 (gv f.body (-1))) s:=by
 refine az.pure ?_ (by simp[D.bI,D.ok,uw]) rfl s
 obtain⟨a,b,h1,h2,h⟩:=MV hb hf
 generalize gv f.body (-1)=R at h
 unfold S0
 rw[oc]
 refine az.go zK rfl fun B Q hB hQ=>?_
 have⟨hC,hE,hM,hY⟩:=bE
 repeat' (first
 |simp only[go_sem,hC,hE,hM,hY,h1,h2]
 |(with_reducible first|refine aX fun hc=>?_|refine aY fun hc=>?_|refine aZ (fun hc=>?_) fun hc=>?_)<;>(try simp only[hc,bs,↓reduceIte]at h)<;>try simp only[hc]
 |(with_reducible refine aB hQ ?_;(try cases h);simp only[aR,aS,bo,bp,go_sem,hC,hE,hM,hY,h1,h2];try exact bS)
 |(cases h;done))
section
variable {p:Pg} {T W:List Int} {y:Lay} {m:Mc} {loc:List (Nat×List D)} {s:St}
theorem jS.row {s:St} {d:D} {cs:List D} (h:jS s d cs) (hn:cs≠ []) : ∃ o g more,d = .eJ 1 o g cs.length∧s.ah[o]? = some (.int .i64 ((g:Nat):Int)::(cs++more)):=by
 rcases h with ⟨_,h⟩|h
 ·exact absurd h hn
 ·exact h
theorem Inv.XV (h:Inv p T W y m loc s) {fr:Fr} {r:List Fr} (jV:m.st=fr::r) : ∃ so g cells o,y.sd = .eJ 1 so g (r.length+1)∧s.ah[so]? = some (.int .i64 ((g:Nat):Int)::cells)∧cells[r.length]? = some (.ptr o 0)∧s.ah[o]? = some (pG y.κ fr)∧y.φ[0]? = some o:=by
 have jo:=h.sJ
 rw[jV]at jo
 cases hφ:y.φ with
 |nil=>rw[hφ]at jo;simp at jo
 | cons o φ=>
  rw[hφ]at jo
  simp only[List.length_cons]at jo
  obtain⟨so,g,more,h1,h2⟩:=h.stack.row (by simp[hφ])
  refine⟨so,g,_,o, ?_,h2, ?_,(h.frame 0 o fr (by rw[hφ];rfl) (by rw[jV];rfl)).1,rfl⟩
  ·rw[h1];simp[hφ];omega
  ·rw [hφ,List.reverse_cons,List.map_append,List.append_assoc,List.getElem?_append_right (by simp;omega)]
   simp[xS,show r.length - φ.length=0 by omega]
theorem Ru (h:Inv p T W y m loc s) {fr:Fr} {r:List Fr} (jV:m.st=fr::r) (hs:r.length<1000000) : ∃ o,y.φ[0]? = some o∧s.ah[o]? = some (pG y.κ fr)∧az Tryz.prog kX [.ptr 0 0] s (.ptr o 0) s:=by
 obtain⟨so,g,cells,o,h1,h2,h3,h4,h5⟩:=h.XV jV
 refine⟨o,h5,h4, ?_⟩
 have hm:=h.jT
 rw[fx,h1]at hm
 have hw:IntKind.wrap .i64 (((r.length+1:Nat):Int) - 1)=((r.length:Nat):Int):=by rw[show((r.length+1:Nat):Int) - 1=(r.length:Int) by omega];exact er (by omega) (by omega)
 have hl:(r.length<r.length+1)=True:=by simp
 refine bL.uM AP rfl fun B Q hB hQ=>?_
 have⟨hC,hE,hM,hY⟩:=bE
 repeat' (first
 |simp only[go_sem,hC,hE,hM,hY,hm,hw,h2,h3,hl,Nat.mul_one]
 |(with_reducible first|refine aX fun hc=>?_|refine aY fun hc=>?_|refine aZ (fun hc=>?_) fun hc=>?_)<;>(try simp only[hc,bs,↓reduceIte]at h)<;>try simp only[hc]
 |(with_reducible refine aB hQ ?_;(try cases h);simp only[aR,aS,bo,bp,go_sem,hC,hE,hM,hY,hm,hw,h2,h3,hl,Nat.mul_one];try exact bS)
 |(cases h;done))
 (refine gV hQ ?_;simp only[aR,aS,bo,bp,go_sem])
theorem CS (h:Inv p T W y m loc s) {fr:Fr} {r:List Fr} (jV:m.st=fr::r) (hs:r.length<1000000) (hn:fr.names.length<1000000) {name:aF} {j c:Nat} (hj:jk name 0 fr.names=(j:Int)) (hc:fr.vars[j]? = some c) :
 az Tryz.prog iQ [.ptr 0 0, .str name] s (.ptr (y.κ.getD c 0) 0) s:=by
 obtain⟨o,_,h1,c1⟩:=Ru h jV hs
 have c2:=fun s=>CA (l:=fr.names) (by omega) name s
 rw[hj]at c2
 rw[pG]at h1
 refine bL.uM yG rfl fun B Q hB hQ=>?_
 have⟨hC,hE,hM,hY⟩:=bE
 repeat' (first
 |simp only[go_sem,hC,hE,hM,hY,h1,hc,fk,Option.map_some]
 |(with_reducible refine CU (c1) ?_)
 |(with_reducible refine CU (c2 _) ?_)
 |(with_reducible first|refine aX fun hc=>?_|refine aY fun hc=>?_|refine aZ (fun hc=>?_) fun hc=>?_)<;>(try simp only[hc,bs,↓reduceIte]at h)<;>try simp only[hc]
 |(with_reducible refine aB hQ ?_;(try cases h);simp only[aR,aS,bo,bp,go_sem,hC,hE,hM,hY,h1,hc,fk,Option.map_some];try exact bS)
 |(cases h;done))
 (refine gV hQ ?_;simp only[aR,aS,bo,bp,go_sem])
abbrev Rl (p:Pg) (T W:List Int) (d:D) (m':Mc) (X:Lay→Prop) (loc:List (Nat×List D)):D→St→Prop:=fun d' s'=>d'=d∧∃ y',X y'∧Inv p T W y' m' loc s'
theorem NW (h:Inv p T W y m loc s) (hW:W.length<1000000) (ht:m.trace.length<2000000) (id:Int) (dj:List Int) :
 bL Tryz.prog eI [.ptr 0 0, .int .i64 id, .slice .shared 1 (dj.map cT)] s (Rl p T W (.tuple []) (m.event W id dj) (· = y) loc):=by
 have hm:=h.jT
 rw[fx]at hm
 have hl:=h.uO
 have c1:=fun s=>MU (l:=W) (by omega) id s
 have eU:gw 2 32 (.slice (.tok 1) 2 (m.trace.map gE)) (.slice .full 2 [[.int .i64 id, .slice .shared 1 (dj.map cT)]]) s=some (.slice (.tok 1) 2 ((m.trace++ [(id,dj)]).map gE),⟨s.ah,s.aw.set 1 (some (m.trace.length+1))⟩):=by
  rw[pf (size:=2) (bytes:=32) (by simp only[List.length_map,List.length_singleton];unfold bA;omega) (by simpa using h.t1)]
  simp[gE]
 refine bL.uM yI rfl fun B Q hB hQ=>?_
 have⟨hC,hE,hM,hY⟩:=bE
 cases hb:W.contains id
 ·repeat' (first
 |simp only[go_sem,hC,hE,hM,hY,hm,hb]
 |(with_reducible refine CU (c1 _) ?_)
 |(with_reducible first|refine aX fun hc=>?_|refine aY fun hc=>?_|refine aZ (fun hc=>?_) fun hc=>?_)<;>(try simp only[hc,bs,↓reduceIte]at h)<;>try simp only[hc]
 |(with_reducible refine aB hQ ?_;(try cases h);simp only[aR,aS,bo,bp,go_sem,hC,hE,hM,hY,hm,hb];try exact bS)
 |(cases h;done))
  (refine gV hQ ?_;simp only[aR,aS,bo,bp,go_sem])
  refine⟨rfl,y,rfl, ?_⟩
  unfold Mc.event
  rw[hb]
  exact h
 ·repeat' (first
 |simp only[go_sem,hC,hE,hM,hY,hm,hb,eU,hl]
 |(with_reducible refine CU (c1 _) ?_)
 |(with_reducible first|refine aX fun hc=>?_|refine aY fun hc=>?_|refine aZ (fun hc=>?_) fun hc=>?_)<;>(try simp only[hc,bs,↓reduceIte]at h)<;>try simp only[hc]
 |(with_reducible refine aB hQ ?_;(try cases h);simp only[aR,aS,bo,bp,go_sem,hC,hE,hM,hY,hm,hb,eU,hl];try exact bS)
 | (cases h;done))
  (refine gV hQ ?_;simp only[aR,aS,bo,bp,go_sem])
  refine⟨rfl,y,rfl, ?_⟩
  have:=h.ua (m':=m.event W id dj) (ts:=s.aw.set 1 (some (m.trace.length+1))) (fJ W m id dj).1 (fJ W m id dj).2.1 (by rw[(fJ W m id dj).2.2.2.2.2,List.getElem?_set_ne (by omega)];exact h.t0) (by
   unfold Mc.event
   rw[hb]
   simp[(List.getElem?_eq_some_iff.1 h.t1).1])
  unfold Mc.event at this ⊢
  rw[hb,if_pos rfl]at this ⊢
  simp only[fx,List.map_append,List.map_cons,List.map_nil]at this
  exact this
theorem NY (l:List Sm) (hl:l.length<4611686018427387904) (o:Int) (s:St):az Tryz.prog qk [.slice .shared 13 (l.map bb), .int .i64 o] s (.int .i64 (firstM l o)) s:=by
 refine az.pure ?_ (by simp[D.bI,D.ok,Tag.ok,oQ]) rfl s
 unfold S0
 cases l with
 |nil=>
  have e:decide ((0:Int) > 0)=false:=rfl
  simp only[firstM,gv,List.map_nil]
  refine az.go Ay rfl fun B Q hB hQ=>?_
  have⟨hC,hE,hM,hY⟩:=bE
  repeat' (first
 |simp only[go_sem,hC,hE,hM,hY,e]
 |(with_reducible first|refine aX fun hc=>?_|refine aY fun hc=>?_|refine aZ (fun hc=>?_) fun hc=>?_)<;>(try simp only[hc,bs,↓reduceIte]at h)<;>try simp only[hc]
 |(with_reducible refine aB hQ ?_;(try cases h);simp only[aR,aS,bo,bp,go_sem,hC,hE,hM,hY,e];try exact bS)
 |(cases h;done))
 |cons a l=>
  have e:decide (((l.length+1:Nat):Int) > 0)=true:=by simp
  simp only[firstM,gv,List.map_cons]
  refine az.go Ay rfl fun B Q hB hQ=>?_
  have⟨hC,hE,hM,hY⟩:=bE
  repeat' (first
 |simp only[go_sem,hC,hE,hM,hY,e]
 |(with_reducible first|refine aX fun hc=>?_|refine aY fun hc=>?_|refine aZ (fun hc=>?_) fun hc=>?_)<;>(try simp only[hc,bs,↓reduceIte]at h)<;>try simp only[hc]
 |(with_reducible refine aB hQ ?_;(try cases h);simp only[aR,aS,bo,bp,go_sem,hC,hE,hM,hY,e];try exact bS)
 |(cases h;done))
end
end Go.Abs
namespace Go.Abs
set_option maxRecDepth 8000
open Go.Proofs
section
variable {p:Pg} {T W:List Int} {y:Lay} {m:Mc} {loc:List (Nat×List D)} {s:St}
theorem LS {s:St} {o g z bytes:Nat} {t:Tag} {cs more r:List D} {len:Nat} (hs:s.ah[o]? = some (.int .i64 (g:Int)::(cs++more))) (hl:cs.length=len*z) (hm:(len+1)*(bytes+1)≤bA) :
 A3 z bytes (.eJ z o g len) (.slice t z [r]) s=some (.eJ z o (g+1) (len+1),⟨s.ah.set o (.int .i64 ((g+1:Nat):Int)::(cs++r)),s.aw⟩):=by
 have ha:nS s o g=some (cs++more):=by unfold nS;rw[hs];simp
 simp only[A3,ha,List.length_singleton,hm,or_true,and_self,if_true,List.flatten_cons,List.flatten_nil,List.append_nil]
 rw[if_pos (by simp;omega), ← hl,List.take_append_of_le_length (Nat.le_refl _),List.take_length]
theorem Wk.aiL (z z':Nat):Wk (.eH z) (.slice .shared z' []):=fun M s v h=>by
 cases h with
 |eH _ a=>cases a with
  |none=>exact .jv _ _ _ rfl trivial
  |some a=>exact .mr _ _ _
theorem az.aiM {P:Program} {f:FuncId} {a b:D} {d:D} {s:St} {v:D} {l:List Int} (hv:jS s v (l.map qT)) (h : ∀ s,az P f [a,b, .slice .shared 1 (l.map cT)] s d s) (ha:D.ok 0 0 a=true) (hb:D.ok 0 0 b=true) (hd:d.flat=true) :
 az P f [a,b,v] s d s:=by
 rcases hv with ⟨rfl,e⟩|⟨o,g,more,rfl,e⟩
 ·have:l = []:=by simpa using e
  subst this
  exact bL.mA (.cons (Wk.refl _) (.cons (Wk.refl _) (.cons (Wk.aiL 1 1) .nil))) (h s)
 ·have eD : ∀ l:List Int,(l.map cT).flatten=l.map qT:=fun l=>by
   induction l with
   |nil=>rfl
   |cons x l ih=>simp only[List.map_cons,List.flatten_cons,ih];rfl
  have hlen:(l.map qT).length=(l.map cT).length:=by simp
  rw[hlen]
  have e0:D.jQ o g (l.map cT) [a,b, .eJ 1 o g (l.map cT).length] = [a,b, .slice .shared 1 (l.map cT)]:=by
   simp only[D.jQ,LJ _ _ _ a ha,LJ _ _ _ b hb,D.fN,and_self,if_true]
  refine az.as2 (k:=2) (rows:=l.map cT) rfl (by rw[eD];exact e) (by intro r hr;obtain⟨x,_,rfl⟩:=List.mem_map.1 hr;rfl) ?_ ?_ hd
  ·rw[e0];exact h S0
  ·rw[e0];simp[D.bI,D.ok,Tag.ok,ha,hb,kL]
structure mT (m:Mc) (fr:Fr) (r:List Fr):Prop where
 st:m.st=fr::r
 len:r.length<1000000
 names:fr.names.length<1000000
 vars:fr.vars.length<1000000
theorem mT.top {fr:Fr} {r:List Fr} (h:mT m fr r):m.top=fr:=by simp[Mc.top,h.st]
theorem UA {fr:Fr} {k c:Nat} {rest:List Nat} (h:fr.vars.drop k=c::rest) (m:Mc):(fr.vars.take (k+1)).map (fun c=>m.mem.getD c 0)=(fr.vars.take k).map (fun c=>m.mem.getD c 0)++ [m.mem.getD c 0]:=by
 have:=(drop_cons h).1
 rw[List.take_add_one,this]
 simp
theorem Ee (h:Inv p T W y m loc s) {fr:Fr} {r:List Fr} (ht:mT m fr r) {x:Ex} (hx:x.size<1000000) (htx:x.texts) :
 bL Tryz.prog ki [.ptr 0 0, .agg (bJ x)] s (fun d s'=>Rl p T W (Aa (m.bU x).1) (m.bU x).2 (fun y'=>y' = {y with vd:=y'.vd}) loc d s'∧s'.aw=s.aw):=by
 have h1:=h.new (bJ x)
 generalize ZT:(s.ah.length,bJ x)::loc=XW at h1
 obtain⟨o,ho,UB,c1⟩:=Ru h1 ht.st ht.len
 have hm:=h1.jT
 rw[fx]at hm
 have hl:=h1.uO
 simp only at hm hl
 rw[pG]at UB
 have hvl:=ht.vars
 have Sb:=ht.names
 refine bL.uM yH rfl fun B Q hB hQ=>?_
 have⟨hC,hE,hM,hY⟩:=bE
 -- the rounds
 have loop : ∀ (n k:Nat) (rest:List Nat) (vd:D) (s2:St),s2.aw=s.aw→rest.length=n→fr.vars.drop k=rest→Inv p T W {y with vd:=vd} m XW s2→jS s2 vd (((fr.vars.take k).map fun c=>m.mem.getD c 0).map qT)→
  bg Tryz.prog B 64 ad0 (iH 0 (kO (gF Tryz.prog B 64 ad1 Q) Q)) [(0, .ptr 0 0),(3, .ptr s.ah.length 0),(6, .ptr o 0),(24, .slice .shared 1 (fr.vars.map fun c=>fk (y.κ.getD c 0))),(25, .int .i64 (fr.vars.length:Int)),(26, .int .i64 (k:Int))] s2:=by
  intro n
  induction n with
  | zero=>
   intro k rest vd s2 vx Bc hd h2 ha
   have:rest = []:=List.eq_nil_of_length_eq_zero Bc
   subst this
   have hC:=drop_nil hd
   have hk:fr.vars.take k=fr.vars:=List.take_of_length_le (List.drop_eq_nil_iff.1 hd)
   rw[hk]at ha
   have ZU:(fr.vars.map fun c=>m.mem.getD c 0)=m.dj:=by unfold Mc.dj;rw[ht.top]
   rw[ZU]at ha
   have jO:=h2.jT
   rw[fx]at jO
   have lh:=h2.uO
   have H9:=(h2.frame 0 o fr ho (by rw[ht.st];rfl)).1
   rw[pG]at H9
   have tS:=(h2.loc (s.ah.length,bJ x) (by rw[← ZT];exact List.mem_cons_self ..)).1
   simp only at jO H9 tS
   have c2:az Tryz.prog wO [.agg (bJ x), .slice .shared 1 (fr.names.map encStr),vd] s2 (Aa (x.bU fr.names m.dj)) s2:=
    az.aiM ha (fun s=>XU (by omega) htx (by omega) (by rw[← ZU,List.length_map];omega) s) (by simp[D.ok,gW]) (by simp[D.ok,Tag.ok,eF]) (by simp[D.flat,D.FL])
   have hw:(m.bU x).1=x.bU fr.names m.dj:=by unfold Mc.bU;rw[ht.top]
   generalize hr:x.bU fr.names m.dj=q at *
   have tJ:(m.bU x).2=if q.2 then m else {m with fin:=4}:=by unfold Mc.bU;rw[ht.top,hr]
   obtain⟨q1,q2⟩:=q
   have v8:Inv p T W {y with vd:=vd} {m with fin:=4} XW ⟨s2.ah.set 0 (fx p T W {y with vd:=vd} {m with fin:=4}),s2.aw⟩:=h2.ua (m':= {m with fin:=4}) rfl rfl h2.t0 h2.t1
   rw[fx]at v8
   have nJ : ∀ q∈loc,q∈XW:=fun q mq=>by rw[← ZT];exact List.mem_cons_of_mem _ mq
   refine bg.kB ?_
   cases q2
   ·repeat' (first
 |simp only[go_sem,hC,hE,hM,hY,jO,lh,H9,tS]
 |(with_reducible refine CU (c2) ?_)
 |(with_reducible first|refine aX fun hc=>?_|refine aY fun hc=>?_|refine aZ (fun hc=>?_) fun hc=>?_)<;>(try simp only[hc,bs,↓reduceIte]at h)<;>try simp only[hc]
 |(with_reducible refine aB hQ ?_;(try cases h);simp only[aR,aS,bo,bp,go_sem,hC,hE,hM,hY,jO,lh,H9,tS];try exact bS)
 |(cases h;replace h:=hr;clear hr;(try simp only[bs,↓reduceIte]at h))
 | (cases h;done))
    (refine gV hQ ?_;simp only[aR,aS,bo,bp,go_sem])
    refine⟨⟨by rw[hw],{y with vd:=vd},rfl, ?_⟩,vx⟩
    rw[tJ]
    exact v8.sub nJ
   ·repeat' (first
 |simp only[go_sem,hC,hE,hM,hY,jO,lh,H9,tS]
 |(with_reducible refine CU (c2) ?_)
 |(with_reducible first|refine aX fun hc=>?_|refine aY fun hc=>?_|refine aZ (fun hc=>?_) fun hc=>?_)<;>(try simp only[hc,bs,↓reduceIte]at h)<;>try simp only[hc]
 |(with_reducible refine aB hQ ?_;(try cases h);simp only[aR,aS,bo,bp,go_sem,hC,hE,hM,hY,jO,lh,H9,tS];try exact bS)
 |(cases h;replace h:=hr;clear hr;(try simp only[bs,↓reduceIte]at h))
 | (cases h;done))
    (refine gV hQ ?_;simp only[aR,aS,bo,bp,go_sem])
    refine⟨⟨by rw[hw],{y with vd:=vd},rfl, ?_⟩,vx⟩
    rw[tJ]
    exact h2.sub nJ
  | succ n ih=>
   intro k rest vd s2 vx Bc hd h2 ha
   cases rest with
   |nil=>cases Bc
   | cons c rest=>
    obtain⟨hE,g2,hC,g4⟩:=drop_cons hd
    have cp:k<4611686018427387904:=by omega
    have UC:c<m.mem.length:=(h2.frame 0 o fr ho (by rw[ht.st];rfl)).2.2 c (List.mem_of_getElem? hE)
    have hκ:y.κ[c]? = some (y.κ.getD c 0):=by
     rw[List.getD_eq_getElem?_getD,List.getElem?_eq_getElem (by have:=h2.len;simp only at this;omega)];rfl
    have kM:=h2.cell c _ _ hκ (by rw[List.getElem?_eq_getElem UC])
    have sx:m.mem[c] = m.mem.getD c 0:=by rw[List.getD_eq_getElem?_getD,List.getElem?_eq_getElem UC];rfl
    rw[sx]at kM
    generalize aiN:m.mem.getD c 0=v at kM
    have jO:=h2.jT
    rw[fx]at jO
    have lh:=h2.uO
    simp only at jO
    have hlen:k<1000000:=by have:=ht.vars;omega
    have hvt:((fr.vars.take (k+1)).map fun c=>m.mem.getD c 0).map qT=((fr.vars.take k).map fun c=>m.mem.getD c 0).map qT++ [.int .i64 v]:=by
     rw[UA hd m,aiN,List.map_append];rfl
    rcases ha with ⟨rfl,e⟩|⟨vo,g,more,rfl,e⟩
    ·have eU:=LH (z:=1) (bytes:=8) .full [.int .i64 v] s2 (by unfold bA;omega)
     have h3:=h2.Rq (vd:= .eJ 1 s2.ah.length 0 1) (s1:=⟨s2.ah++ [[.int .i64 ((0:Nat):Int), .int .i64 v]],s2.aw⟩) (fun o r e _=>by rw[List.getElem?_append_left (gi e)];exact e)
      ⟨[v], .inr ⟨_,0,[],rfl,by simp[qT]⟩⟩ (.inr (.inr rfl)) rfl
     rw[fx]at h3
     simp only at h3
     refine bg.kB ?_
     have hA : ∀ e:List (List D),(s2.ah++e)[0]? = s2.ah[0]? :=fun e=>List.getElem?_append_left lh
     repeat' (first
 |simp only[go_sem,hC,hE,hM,hY,jO,lh,kM,hE,fk,eU,Option.map_some,hA]
 |(with_reducible first|refine aX fun hc=>?_|refine aY fun hc=>?_|refine aZ (fun hc=>?_) fun hc=>?_)<;>(try simp only[hc,bs,↓reduceIte]at h)<;>try simp only[hc]
 |(with_reducible refine aB hQ ?_;(try cases h);simp only[aR,aS,bo,bp,go_sem,hC,hE,hM,hY,jO,lh,kM,hE,fk,eU,Option.map_some,hA];try exact bS)
 |(cases h;replace h:=hr;clear hr;(try simp only[bs,↓reduceIte]at h))
 | (cases h;done))
     refine bg.pZ ?_ (ih (k+1) rest _ _ vx (by simpa using Bc) g2 h3 ?_)
     ·simp only [go_sem,aL cp,fk]
      repeat' (first|exact Ok.out|with_reducible refine eP ?_ ?_)
     ·rw [hvt,e]
      refine .inr ⟨_,0,[],rfl, ?_⟩
      show((s2.ah++ [_]).set 0 _)[s2.ah.length]? = _
      rw[List.getElem?_set_ne (by omega)]
      simp
    ·have nM:(((fr.vars.take k).map fun c=>m.mem.getD c 0).map qT).length=k:=by simp;omega
     have eU:=LS (t:= .full) (bytes:=8) (r:= [.int .i64 v]) e (len:=k) (z:=1) (by rw[nM,Nat.mul_one]) (by unfold bA;omega)
     rw[nM]at jO h2
     have ZV:0≠vo:=fun e'=>(h2.wc (o:=vo) (by simp[D.arr])) e'.symm
     have dv:jS ⟨s2.ah.set vo (.int .i64 ((g+1:Nat):Int)::(((fr.vars.take k).map fun c=>m.mem.getD c 0).map qT++ [.int .i64 v])),s2.aw⟩ (.eJ 1 vo (g+1) (k+1)) (((fr.vars.take k).map fun c=>m.mem.getD c 0).map qT++ [.int .i64 v]):=
      .inr ⟨vo,g+1,[],by simp;omega,by simp[gi e]⟩
     have h3:=h2.Rq (vd:= .eJ 1 vo (g+1) (k+1)) (s1:=⟨s2.ah.set vo (.int .i64 ((g+1:Nat):Int)::(((fr.vars.take k).map fun c=>m.mem.getD c 0).map qT++ [.int .i64 v])),s2.aw⟩) (fun o r e hn=>by rw[List.getElem?_set_ne (fun e'=>hn (by rw[← e'];simp[D.arr]))];exact e)
      ⟨(fr.vars.take (k+1)).map fun c=>m.mem.getD c 0,by rw[hvt];exact dv⟩ (.inl rfl) rfl
     rw[fx]at h3
     simp only at h3
     refine bg.kB ?_
     have hA : ∀ e:List D,(s2.ah.set vo e)[0]? = s2.ah[0]? :=fun e=>List.getElem?_set_ne (Ne.symm ZV)
     repeat' (first
 |simp only[go_sem,hC,hE,hM,hY,jO,lh,kM,hE,fk,eU,Option.map_some,hA]
 |(with_reducible first|refine aX fun hc=>?_|refine aY fun hc=>?_|refine aZ (fun hc=>?_) fun hc=>?_)<;>(try simp only[hc,bs,↓reduceIte]at h)<;>try simp only[hc]
 |(with_reducible refine aB hQ ?_;(try cases h);simp only[aR,aS,bo,bp,go_sem,hC,hE,hM,hY,jO,lh,kM,hE,fk,eU,Option.map_some,hA];try exact bS)
 |(cases h;replace h:=hr;clear hr;(try simp only[bs,↓reduceIte]at h))
 |(cases h;done))
     refine bg.pZ ?_ (ih (k+1) rest _ _ vx (by simpa using Bc) g2 h3 ?_)
     ·simp only [go_sem,aL cp,fk]
      repeat' (first|exact Ok.out|with_reducible refine eP ?_ ?_)
     ·rw [hvt]
      exact dv.keep fun o mo=>by
       have:o=vo:=by simpa[D.arr]using mo
       subst this
       show(List.set _ 0 _)[o]? = _
       rw[List.getElem?_set_ne ZV]
 -- the values' slice is emptied
 obtain⟨l,hv⟩:=h1.dj
 have h0:((s.ah++ [bJ x])[0]?).isSome=true:=by rw[hm];rfl
 rcases hv with ⟨e,_⟩|⟨vo,g,more,e,e2⟩
 ·rw [e]at hm
  have uA:xk (.eH 1) none (some (.int .i64 0))=some (.eH 1):=by simp[xk,tf,ti]
  have h3:=h1.Rq (vd:= .eH 1) (s1:=⟨s.ah++ [bJ x],s.aw⟩) (fun _ _ e _=>e) ⟨[], .inl ⟨rfl,rfl⟩⟩ (.inl (by rw[e])) rfl
  have Cc:=(h3.frame 0 o fr ho (by rw[ht.st];rfl)).1
  rw[fx]at h3 Cc
  rw[pG]at Cc
  simp only at h3 Cc
  repeat' (first
 |simp only[go_sem,hC,hE,hM,hY,hm,hl,UB,uA,Cc]
 |(with_reducible refine CU (c1) ?_)
 |(with_reducible first|refine aX fun hc=>?_|refine aY fun hc=>?_|refine aZ (fun hc=>?_) fun hc=>?_)<;>(try simp only[hc,bs,↓reduceIte]at h)<;>try simp only[hc]
 |(with_reducible refine aB hQ ?_;(try cases h);simp only[aR,aS,bo,bp,go_sem,hC,hE,hM,hY,hm,hl,UB,uA,Cc];try exact bS)
 |(cases h;replace h:=hr;clear hr;(try simp only[bs,↓reduceIte]at h))
 |(cases h;done))
  refine bg.pZ ?_ (loop _ 0 fr.vars _ _ rfl rfl rfl h3 (.inl ⟨rfl,rfl⟩))
  simp only[go_sem,fk]
  repeat' (first|exact Ok.out|with_reducible refine eP ?_ ?_)
 ·rw [List.length_map]at e
  rw[e]at hm
  have ZV:0≠vo:=fun e'=>(h1.wc (o:=vo) (by rw[e];simp[D.arr])) e'.symm
  have uA:xk (.eJ 1 vo g l.length) none (some (.int .i64 0))=some (.eJ 1 vo g 0):=by simp[xk,tf,ti]
  have h3:=h1.Rq (vd:= .eJ 1 vo g 0) (s1:=⟨s.ah++ [bJ x],s.aw⟩) (fun _ _ e _=>e) ⟨[], .inr ⟨vo,g,l.map qT++more,rfl,e2⟩⟩ (.inl (by rw[e];rfl)) rfl
  have Cc:=(h3.frame 0 o fr ho (by rw[ht.st];rfl)).1
  rw[fx]at h3 Cc
  rw[pG]at Cc
  simp only at h3 Cc
  repeat' (first
 |simp only[go_sem,hC,hE,hM,hY,hm,hl,UB,uA,Cc]
 |(with_reducible refine CU (c1) ?_)
 |(with_reducible first|refine aX fun hc=>?_|refine aY fun hc=>?_|refine aZ (fun hc=>?_) fun hc=>?_)<;>(try simp only[hc,bs,↓reduceIte]at h)<;>try simp only[hc]
 |(with_reducible refine aB hQ ?_;(try cases h);simp only[aR,aS,bo,bp,go_sem,hC,hE,hM,hY,hm,hl,UB,uA,Cc];try exact bS)
 |(cases h;replace h:=hr;clear hr;(try simp only[bs,↓reduceIte]at h))
 | (cases h;done))
  refine bg.pZ ?_ (loop _ 0 fr.vars _ _ rfl rfl rfl h3 (.inr ⟨vo,g,l.map qT++more,rfl, ?_⟩))
  ·simp only [go_sem,fk]
   repeat' (first|exact Ok.out|with_reducible refine eP ?_ ?_)
  ·show(List.set _ 0 _)[vo]? = _
   rw[List.getElem?_set_ne ZV];exact e2
end
end Go.Abs
namespace Go.Abs
set_option maxRecDepth 8000
open Go.Proofs
section
variable {p:Pg} {T W:List Int} {y:Lay} {m:Mc} {loc:List (Nat×List D)} {s:St}
theorem DN:Wk (.slice .full 0 []) (.slice .shared 1 (([] : List Int).map cT)):=Wk.nil _ _ _
theorem wg (h:Inv p T W y m loc s) (hW:W.length<1000000) (ht:m.trace.length<2000000) (id:Int) :
 bL Tryz.prog eI [.ptr 0 0, .int .i64 id, .slice .full 0 []] s (Rl p T W (.tuple []) (m.event W id []) (· = y) loc):=
 bL.mA (.cons (Wk.refl _) (.cons (Wk.refl _) (.cons DN .nil))) (NW h hW ht id [])
theorem Ef (h:Inv p T W y m loc s) (hW:W.length<1000000) (ht:m.trace.length<2000000) (id n:Int) :
 bL Tryz.prog eI [.ptr 0 0, .int .i64 id, .slice .full 1 [[.int .i64 n]]] s (Rl p T W (.tuple []) (m.event W id [n]) (· = y) loc):=
 bL.mA (.cons (Wk.refl _) (.cons (Wk.refl _) (.cons (Wk.shared _ _ _) .nil))) (NW h hW ht id [n])
theorem ab0 (h:Inv p T W y m loc s) {fr:Fr} {r:List Fr} (ht:mT m fr r) {v:Sm} (hv:v.nE) (hW:W.length<1000000) (htr:m.trace.length<2000000) :
 bL Tryz.prog oH [.ptr 0 0, .agg (bb v)] s (Rl p T W (.int .i64 (m.ju W v).1) (m.ju W v).2 (fun y'=>y' = {y with vd:=y'.vd}) loc):=by
 have h1:=h.new (bb v)
 have hx:(s.ah++ [bb v])[s.ah.length]? = some (bb v):=by simp
 have nJ : ∀ q∈loc,q∈(s.ah.length,bb v)::loc:=fun q mq=>List.mem_cons_of_mem _ mq
 refine bL.uM yp rfl fun B Q hB hQ=>?_
 have⟨hC,hE,hM,hY⟩:=bE
 rcases Bool.eq_false_or_eq_true v.has with b|b
 ·have c1:=Ee h1 ht (x:=v.x) (by have:=hv.2.2;omega) hv.1
  repeat' (first
 |simp only[go_sem,hC,hE,hM,hY,hx,b]
 |(with_reducible first|refine aX fun hc=>?_|refine aY fun hc=>?_|refine aZ (fun hc=>?_) fun hc=>?_)<;>(try simp only[hc,bs,↓reduceIte]at h)<;>try simp only[hc]
 |(with_reducible refine aB hQ ?_;(try cases h);simp only[aR,aS,bo,bp,go_sem,hC,hE,hM,hY,hx,b];try exact bS)
 | (cases h;done))
  refine CR c1 fun d s2 h2=>?_
  obtain⟨⟨rfl,y2,wh,h2⟩,_⟩:=h2
  have tS:=(h2.loc (s.ah.length,bb v) (List.mem_cons_self ..)).1
  have hw:=jR m v.x
  simp only at tS
  rcases Bool.eq_false_or_eq_true (m.bU v.x).1.2 with b2|b2
  ·have c2:=Ef h2 hW (by rw [hw.2.2.2.2.2];exact htr) v.id (m.bU v.x).1.1
   repeat' (first
 |simp only[go_sem,hC,hE,hM,hY,tS,b2]
 |(with_reducible first|refine aX fun hc=>?_|refine aY fun hc=>?_|refine aZ (fun hc=>?_) fun hc=>?_)<;>(try simp only[hc,bs,↓reduceIte]at h)<;>try simp only[hc]
 |(with_reducible refine aB hQ ?_;(try cases h);simp only[aR,aS,bo,bp,go_sem,hC,hE,hM,hY,tS,b2];try exact bS)
 | (cases h;done))
   refine CR c2 fun d s3 h3=>?_
   obtain⟨rfl,y3,rfl,h3⟩:=h3
   repeat' (first
 |simp only[go_sem,hC,hE,hM,hY]
 |(with_reducible first|refine aX fun hc=>?_|refine aY fun hc=>?_|refine aZ (fun hc=>?_) fun hc=>?_)<;>(try simp only[hc,bs,↓reduceIte]at h)<;>try simp only[hc]
 |(with_reducible refine aB hQ ?_;exact eA)
 | (cases h;done))
   (refine gV hQ ?_;simp only[aR,aS,bo,bp,go_sem])
   refine⟨by simp only[Mc.ju,b,if_true],y3,wh, ?_⟩
   simp only[Mc.ju,b,b2,if_true]
   exact h3.sub nJ
  ·repeat' (first
 |simp only[go_sem,hC,hE,hM,hY,tS,b2]
 |(with_reducible first|refine aX fun hc=>?_|refine aY fun hc=>?_|refine aZ (fun hc=>?_) fun hc=>?_)<;>(try simp only[hc,bs,↓reduceIte]at h)<;>try simp only[hc]
 |(with_reducible refine aB hQ ?_;(try cases h);simp only[aR,aS,bo,bp,go_sem,hC,hE,hM,hY,tS,b2];try exact bS)
 | (cases h;done))
   (refine gV hQ ?_;simp only[aR,aS,bo,bp,go_sem])
   refine⟨by simp only[Mc.ju,b,if_true],y2,wh, ?_⟩
   simp only[Mc.ju,b,b2,if_true,Bool.false_eq_true,if_false]
   exact h2.sub nJ
 ·have c1:=wg h1 hW htr v.id
  repeat' (first
 |simp only[go_sem,hC,hE,hM,hY,hx,b]
 |(with_reducible first|refine aX fun hc=>?_|refine aY fun hc=>?_|refine aZ (fun hc=>?_) fun hc=>?_)<;>(try simp only[hc,bs,↓reduceIte]at h)<;>try simp only[hc]
 |(with_reducible refine aB hQ ?_;(try cases h);simp only[aR,aS,bo,bp,go_sem,hC,hE,hM,hY,hx,b];try exact bS)
 |(cases h;done))
  refine CR c1 fun d s2 h2=>?_
  obtain⟨rfl,y2,rfl,h2⟩:=h2
  repeat' (first
 |simp only[go_sem,hC,hE,hM,hY]
 |(with_reducible first|refine aX fun hc=>?_|refine aY fun hc=>?_|refine aZ (fun hc=>?_) fun hc=>?_)<;>(try simp only[hc,bs,↓reduceIte]at h)<;>try simp only[hc]
 |(with_reducible refine aB hQ ?_;exact eA)
 |(cases h;done))
  (refine gV hQ ?_;simp only[aR,aS,bo,bp,go_sem])
  refine⟨by simp only[Mc.ju,b,Bool.false_eq_true,if_false],y2,rfl, ?_⟩
  simp only[Mc.ju,b,Bool.false_eq_true,if_false]
  exact h2.sub nJ
end
end Go.Abs
namespace Go.Abs
set_option maxRecDepth 8000
open Go.Proofs
section
variable {p:Pg} {T W:List Int} {y:Lay} {m:Mc} {loc:List (Nat×List D)} {s:St}
theorem gB.setAt : ∀ {l:List (List D)} {i:Nat} {r r':List D},l[i]? = some r→jz r r'→gB l (l.set i r')
 |a::l,0,r,r',h,w=>by simp at h;subst h;exact .cons w (gB.refl l)
 |a::l,i+1,r,r',h,w=> .cons (jz.refl a) (gB.setAt (l:=l) (by simpa using h) w)
def Lay.push (y:Lay) (n K:Nat) (sd:D):Lay:= {y with κ:=y.κ++(List.range K).map (n+2 + ·),φ:=(n+1)::y.φ,sd:=sd}
theorem XX {κ:List Nat} {n K j:Nat} (hj:j<K):(κ++(List.range K).map (n+2 + ·)).getD (κ.length+j) 0=n+2+j:=by
 rw[List.getD_eq_getElem?_getD,List.getElem?_append_right (by omega),show κ.length+j - κ.length=j by omega]
 simp[hj]
theorem Eg {κ e:List Nat} {c:Nat} (hc:c<κ.length):(κ++e).getD c 0=κ.getD c 0:=by
 rw[List.getD_eq_getElem?_getD,List.getD_eq_getElem?_getD,List.getElem?_append_left hc]
theorem Rv {κ:List Nat} {n:Nat} (h:n≤κ.length):(List.range n).map (fun c=>κ.getD c 0)=κ.take n:=by
 apply List.ext_getElem?
 intro i
 simp only[List.getElem?_map]
 by_cases hi:i<n
 ·rw [List.getElem?_range hi,List.getElem?_take_of_lt hi,List.getElem?_eq_getElem (show i<κ.length by omega)]
  simp[List.getD_eq_getElem?_getD,List.getElem?_eq_getElem (show i<κ.length by omega)]
 ·rw[List.getElem?_eq_none (by simp;omega),List.getElem?_eq_none (by simp;omega)];rfl
theorem Inv.push (h:Inv p T W y m loc s) {K:Nat} {sd:D} {fr:Fr} {s':St} (hg:p.globals.length≤m.mem.length) (hfv : ∀ c∈fr.vars,c<m.mem.length+K)
 (k : ∀ (o:Nat) (r:List D),s.ah[o]? = some r→o≠0→o∉y.sd.arr→s'.ah[o]? = some r)
 (k0:s'.ah[0]? = some (fx p T W (y.push s.ah.length K sd) m)) (kc : ∀ j,j<K→s'.ah[s.ah.length+2+j]? = some [.int .i64 0])
 (kf:s'.ah[s.ah.length+1]? = some (pG (y.push s.ah.length K sd).κ fr)) (ks:jS s' sd ((y.push s.ah.length K sd).φ.reverse.map xS)) (sh:sd.arr=y.sd.arr∨sd.arr = [s.ah.length+2+K])
 (t0:s'.aw[0]? = s.aw[0]?) (t1:s'.aw[1]? = s.aw[1]?) :
 Inv p T W (y.push s.ah.length K sd) {m with st:=fr::m.st,mem:=m.mem++List.replicate K 0} loc s':=by
 have Az:=h.own
 rw[Lay.own,List.nodup_cons,List.nodup_append,List.nodup_append]at Az
 obtain⟨n0,nκ,⟨ns,nv,ZR⟩,LQ⟩:=Az
 have lt:=h.tR
 have ltκ : ∀ c∈y.κ,c<s.ah.length:=fun c mc=>lt c (by simp[Lay.own,mc])
 have lts : ∀ c∈y.sd.arr,c<s.ah.length:=fun c mc=>lt c (by simp[Lay.own,mc])
 have ltv : ∀ c∈y.vd.arr,c<s.ah.length:=fun c mc=>lt c (by simp[Lay.own,mc])
 have uO:=h.uO
 have LR : ∀ o,o∈(y.push s.ah.length K sd).own→o∈y.own∨(s.ah.length+2≤o∧o≤s.ah.length+2+K):=fun o mo=>by
  simp only[Lay.own,Lay.push,List.mem_cons,List.mem_append,List.mem_map,List.mem_range]at mo ⊢
  rcases mo with rfl|(mo|⟨j,hj,rfl⟩)|mo|mo
  ·exact .inl (.inl rfl)
  ·exact .inl (.inr (.inl mo))
  ·exact .inr ⟨by omega,by omega⟩
  ·rcases sh with e | e
   ·rw[e]at mo;exact .inl (.inr (.inr (.inl mo)))
   ·rw[e]at mo;have:=List.mem_singleton.1 mo;exact .inr ⟨by omega,by omega⟩
  ·exact .inl (.inr (.inr (.inr mo)))
 have g : ∀ {o:Nat} {r:List D},s.ah[o]? = some r→o∉y.own→s'.ah[o]? = some r∧o∉(y.push s.ah.length K sd).own:=fun {o r} e hn=>by
  refine⟨k o r e (fun e0=>hn (by rw[e0];simp[Lay.own])) (fun ms=>hn (by simp[Lay.own,ms])),fun mo=>?_⟩
  rcases LR o mo with mo|mo
  ·exact hn mo
  ·have:=gi e;omega
 have hlen:=h.len
 refine⟨k0,by rw[t0];exact h.t0,by rw[t1];exact h.t1,by simp[Lay.push,hlen],fun i c v e1 e2=>?_,by simp[Lay.push,h.sJ],fun i o NZ e1 e2=>?_,ks, ?_, ?_,fun q mq=>g (h.loc q mq).1 (h.loc q mq).2⟩
 ·simp only [Lay.push]at e1
  dsimp only at e2
  rcases Nat.lt_or_ge i y.κ.length with hi|hi
  ·rw [List.getElem?_append_left hi]at e1
   rw[List.getElem?_append_left (by omega)]at e2
   have hc:=List.mem_of_getElem? e1
   exact k c _ (h.cell i c v e1 e2) (h.wc (by simp[hc])) (fun ms=>LQ c hc c (List.mem_append_left _ ms) rfl)
  ·rw [List.getElem?_append_right hi]at e1
   rw[List.getElem?_append_right (by omega)]at e2
   have hC:=(List.getElem?_eq_some_iff.1 e1).1
   simp only[List.length_map,List.length_range]at hC
   rw[List.getElem?_map,List.getElem?_range hC]at e1
   rw[List.getElem?_replicate_of_lt (by omega)]at e2
   simp only[Option.map_some,Option.some.injEq]at e1 e2
   subst e1 e2
   exact kc _ hC
 ·cases i with
  |zero=>
   simp only[Lay.push,List.getElem?_cons_zero,Option.some.injEq]at e1 e2
   subst e1 e2
   refine⟨kf,fun mo=>?_,fun c mc=>by simp only[List.length_append,List.length_replicate];exact hfv c mc⟩
   rcases LR _ mo with mo|mo
   ·have:=lt _ mo;omega
   ·omega
  |succ i=>
   simp only[Lay.push,List.getElem?_cons_succ]at e1 e2
   obtain⟨f1,f2,f3⟩:=h.frame i o NZ e1 e2
   obtain⟨f4,f5⟩:=g f1 f2
   exact⟨by simp only[Lay.push];rw[H8 (by rw[hlen];exact f3)];exact f4,f5,fun c mc=>by have:=f3 c mc;simp only[List.length_append];omega⟩
 ·obtain⟨l,hl⟩:=h.dj
  refine⟨l,hl.keep fun o mo=>?_⟩
  rw[List.getElem?_eq_getElem (ltv o mo)]
  exact k o _ (List.getElem?_eq_getElem _) (h.wc (by simp[mo])) (fun ms=>ZR o ms o mo rfl)
 ·have UD:((List.range K).map (s.ah.length+2 + ·)).Nodup:=by
   rw[List.nodup_iff_pairwise_ne,List.pairwise_map]
   exact List.Pairwise.imp (fun h=>by omega) (List.nodup_iff_pairwise_ne.1 List.nodup_range)
  have Ge : ∀ o∈(List.range K).map (s.ah.length+2 + ·),s.ah.length+2≤o∧o<s.ah.length+2+K:=fun o mo=>by
   obtain⟨j,hj,rfl⟩:=List.mem_map.1 mo
   have:=List.mem_range.1 hj;exact⟨by omega,by omega⟩
  have Rw : ∀ o∈sd.arr,(o∈y.sd.arr)∨o=s.ah.length+2+K:=fun o mo=>by
   rcases sh with e|e
   ·rw[e]at mo;exact .inl mo
   ·rw[e]at mo;exact .inr (List.mem_singleton.1 mo)
  simp only[Lay.own,Lay.push]
  rw[List.nodup_cons,List.nodup_append,List.nodup_append,List.nodup_append]
  refine⟨fun mo=>?_,⟨nκ,UD,fun a ma b mb e=>?_⟩,⟨?_,nv,fun a ma b mb e=>?_⟩,fun a ma b mb e=>?_⟩
  ·simp only [List.mem_append]at mo
   rcases mo with (mo|mo)|mo|mo
   ·exact n0 (by simp[mo])
   ·have:=Ge _ mo;omega
   ·rcases Rw _ mo with mo | mo
    ·exact n0 (by simp[mo])
    ·omega
   ·exact n0 (by simp[mo])
  ·have:=ltκ a ma;have:=Ge b mb;omega
  ·rcases sh with e | e <;> rw [e]
   ·exact ns
   ·simp
  ·rcases Rw a ma with ma | ma
   ·exact ZR a ma b mb e
   ·have:=ltv b mb;omega
  ·rcases List.mem_append.1 ma with ma | ma
   ·rcases List.mem_append.1 mb with mb | mb
    ·rcases Rw b mb with mb | mb
     ·exact LQ a ma b (List.mem_append_left _ mb) e
     ·have:=ltκ a ma;omega
    ·exact LQ a ma b (List.mem_append_right _ mb) e
   ·have:=Ge a ma
    rcases List.mem_append.1 mb with mb|mb
    ·rcases Rw b mb with mb | mb
     ·have:=lts b mb;omega
     ·omega
    ·have:=ltv b mb;omega
theorem ab1 {gl ps:List (List D)} {bytes:Nat} (hb:(gl.length+ps.length)*(bytes+1)≤bA) (ts:List (Option Nat)) : ∃ (g1 g2:Tag) (z1 z2:Nat) (t1 t2:List (Option Nat)),(∀ os,gw 1 bytes (.slice .full 0 []) (.slice .shared 1 gl) ⟨os,ts⟩=some (.slice g1 z1 gl,⟨os,t1⟩))∧
 (∀ os,gw 1 bytes (.slice g1 z1 gl) (.slice .shared 1 ps) ⟨os,t1⟩=some (.slice g2 z2 (gl++ps),⟨os,t2⟩))∧
 ((g2 = .full∧t2=ts∧gl++ps = [])∨(g2 = .tok ts.length∧z2=1∧t2=ts++ [some (gl++ps).length])):=by
 have h1:gl.length*(bytes+1)≤bA:=Nat.le_trans (Nat.mul_le_mul_right _ (Nat.le_add_right _ _)) hb
 have h2:ps.length*(bytes+1)≤bA:=Nat.le_trans (Nat.mul_le_mul_right _ (Nat.le_add_left _ _)) hb
 cases gl with
 |nil=>
  cases ps with
  |nil=>exact⟨.full, .full,0,0,ts,ts,fun os=>Ac os ts,fun os=>Ac os ts, .inl ⟨rfl,rfl,rfl⟩⟩
  |cons a ps=>exact⟨.full, .tok ts.length,0,1,ts,_,fun os=>Ac os ts,fun os=>Ab (by simp) h2 os ts, .inr ⟨rfl,rfl,rfl⟩⟩
 |cons a gl=>
  refine⟨.tok ts.length, .tok ts.length,1,1,ts++ [some (a::gl).length],ts++ [some (a::gl++ps).length],fun os=>Ab (by simp) h1 os ts,fun os=>?_, .inr ⟨rfl,rfl,rfl⟩⟩
  rw[pf (size:=1) hb (by simp)]
  simp;omega
theorem N0 (h:Inv p T W y m loc s) (hp:p.jc) (hb:p.may=true) {i:Nat} {f:Pc} (hf:p.procs[i]? = some f) (aiO:p.find f.name=some f) (jV:m.st.length<1000000) {l:List Nat} (hl : ∀ c∈l,c<m.mem.length) (HQ:l.length<1000000)
 (hg:p.globals.length≤m.mem.length) (call:Int) :
 ∃ y' s',az Tryz.prog jq [.ptr 0 0, .int .i64 (i:Int), .slice .shared 1 (l.map fun c=>fk (y.κ.getD c 0)), .int .i64 call] s (.int .i64 (m.open p (i:Int) l call).1) s'∧Inv p T W y' (m.open p (i:Int) l call).2 loc s':=by
 have hm:=h.jT
 rw[fx]at hm
 have qW:=h.uO
 obtain⟨sf,r5,rZ⟩:=hp.procs
 have vY:=hp.small (List.mem_of_getElem? hf)
 have cV:=fun s=>af2 hp hb aiO s
 have cF:=fun s=>abZ hb hf s
 have hi:i<p.procs.length:=(List.getElem?_eq_some_iff.1 hf).1
 obtain⟨g1,g2,z1,z2,t1,t2,a1,a2,a3⟩:=ab1 (gl:=(y.κ.take p.globals.length).map fk) (ps:=l.map fun c=>fk (y.κ.getD c 0)) (bytes:=8) (by simp only[List.length_map,List.length_take];unfold bA;omega) s.aw
 have hA : ∀ e:List (List D),(s.ah++e)[0]? = s.ah[0]? :=fun e=>List.getElem?_append_left qW
 have n0 : ∀ e1 e2:List (List D),(s.ah++e1++e2)[0]? = s.ah[0]? :=fun e1 e2=>by rw[List.append_assoc];exact hA _
 have n1 : ∀ a b:List D,(s.ah++ [a]++ [b])[s.ah.length+1]? = some b:=fun a b=>by simp
 have n2 : ∀ a b:List D,(s.ah++ [a]++ [b])[s.ah.length]? = some a:=fun a b=>by simp
 have n3 : ∀ a b c:List D,(s.ah++ [a]++ [b]).set (s.ah.length+1) c=s.ah++ [a]++ [c]:=fun a b c=>by simp[List.append_assoc,List.set_append_right]
 have n4 : ∀ a:List D,(s.ah++ [a])[s.ah.length]? = some a:=fun a=>by simp
 have n5 : ∀ a b:List D,(s.ah++ [a]).set s.ah.length b=s.ah++ [b]:=fun a b=>by simp
 have hpc:cJ f = [.str f.name, .slice .shared 2 (f.params.map gR), .slice .shared 1 (f.vars.map encStr), .slice .shared 13 (f.body.map bb), .slice .shared 1 (f.fin.map encStr)]:=rfl
 generalize hn:s.ah.length=n at *
 have M7:(m.open p (i:Int) l call).1=gv f.body (-1)∧(m.open p (i:Int) l call).2 = {m with st:=⟨(i:Int),p.globals++f.own,List.range p.globals.length++l++(List.range f.vars.length).map (m.mem.length + ·),call⟩::m.st,mem:=m.mem++List.replicate f.vars.length 0}:=by
  unfold Mc.open
  rw[Int.toNat_natCast,hf]
  exact⟨rfl,rfl⟩
 rw[M7.1,M7.2]
 generalize ky:(y.κ.take p.globals.length).map fk++l.map (fun c=>fk (y.κ.getD c 0))=kA at *
 have hgr:kA.length<2000000:=by rw[← ky];simp only[List.length_append,List.length_map,List.length_take];omega
 have hvl:=vY.vars
 -- the states of the rounds
 let fr:Nat→List D:=fun k=> [.int .i64 (i:Int), .slice .shared 1 ((p.globals++f.own).map encStr), .slice (.tok s.aw.length) 1 (kA++(List.range k).map (fun j=>fk (n+2+j))), .int .i64 call]
 obtain⟨O,hO⟩ : ∃ O:Nat→List (List D),∀ k,O k=s.ah++ [cJ f]++ [fr k]++List.replicate k [.int .i64 0]:=⟨_,fun _=>rfl⟩
 have oL : ∀ k,(O k).length=n+2+k:=fun k=>by rw[hO];simp[hn];omega
 have XZ : ∀ k o,o<n→(O k)[o]? = s.ah[o]? :=fun k o ho=>by rw[hO,List.append_assoc,List.append_assoc,List.getElem?_append_left (by omega)]
 have oF : ∀ k,(O k)[n+1]? = some (fr k):=fun k=>by rw[hO,List.getElem?_append_left (by simp[hn])];simp[hn]
 have oC : ∀ k j,j<k→(O k)[n+2+j]? = some [.int .i64 0]:=fun k j hj=>by
  rw[hO,List.getElem?_append_right (by simp only[List.length_append,List.length_singleton,hn];omega)]
  simp only[List.length_append,List.length_singleton,hn]
  rw[show n+2+j - (n+1+1)=j by omega,List.getElem?_replicate_of_lt hj]
 have oF' : ∀ k e,(O k++e)[n+1]? = some (fr k):=fun k e=>by rw[List.getElem?_append_left (by rw[oL];omega)];exact oF k
 have o0 : ∀ k,(O k)[0]? = s.ah[0]? :=fun k=>XZ k 0 qW
 have o0' : ∀ k e,(O k++e)[0]? = s.ah[0]? :=fun k e=>by rw[List.getElem?_append_left (by rw[oL];omega)];exact o0 k
 have oS : ∀ k,(O k++ [[D.int .i64 0]]).set (n+1) (fr (k+1))=O (k+1):=fun k=>by
  rw[hO,hO,List.replicate_succ']
  simp only[List.append_assoc]
  rw[List.set_append_right _ _ (by omega),hn,show n+1 - n=1 by omega]
  rfl
 have Ae:(List.range p.globals.length++l++(List.range f.vars.length).map (m.mem.length + ·)).map (fun c=>fk ((y.push n f.vars.length .ew).κ.getD c 0))=kA++(List.range f.vars.length).map (fun j=>fk (n+2+j)):=by
  simp only[List.map_append,List.map_map,Lay.push, ← ky]
  congr 1
  ·congr 1
   ·rw [← Rv (by rw [h.len];exact hg),List.map_map]
    exact List.map_congr_left fun c mc=>by simp only[Function.comp];rw[Eg (by rw[h.len];have:=List.mem_range.1 mc;omega)]
   ·exact List.map_congr_left fun c mc=>by rw[Eg (by rw[h.len];exact hl c mc)]
  ·exact List.map_congr_left fun j mj=>by simp only[Function.comp];rw[← h.len,XX (List.mem_range.1 mj)]
 have ata:jz (fr f.vars.length) (pG (y.push n f.vars.length .ew).κ ⟨(i:Int),p.globals++f.own,List.range p.globals.length++l++(List.range f.vars.length).map (m.mem.length + ·),call⟩):=by
  unfold pG
  dsimp only
  rw[Ae]
  exact .cons (Wk.refl _) (.cons (Wk.refl _) (.cons (Wk.shared _ _ _) (.cons (Wk.refl _) .nil)))
 -- the stack
 generalize hK:f.vars.length=K at *
 obtain⟨sd,O',e1,e3,e4,e5,e6⟩ : ∃ (sd:D) (O':List (List D)),(∀ tm:Tm,tm.get 70=y.sd→tm.get 72 = .slice .full 1 [[.ptr (n+1) 0]]→aO (.app 1 8 (.s 70) (.s 72)) tm ⟨O K,s.aw++ [some (kA.length+K)]⟩=some (sd,⟨O',s.aw++ [some (kA.length+K)]⟩))∧
  (∀ (o:Nat) (r:List D),(O K)[o]? = some r→o∉y.sd.arr→O'[o]? = some r)∧jS ⟨O',s.aw⟩ sd (((n+1)::y.φ).reverse.map xS)∧(sd.arr=y.sd.arr∨sd.arr = [n+2+K])∧sd.row=some [sd]:=by
  rcases h.stack with ⟨e,e2⟩|⟨so,g,more,e,e2⟩
  ·have hφ:y.φ = []:=by simpa using e2
   refine⟨.eJ 1 (n+2+K) 0 1,O K++ [[.int .i64 ((0:Nat):Int), .ptr (n+1) 0]],fun tm h1 h2=>?_,fun o r e _=>by rw[List.getElem?_append_left (gi (s:=⟨O K,[]⟩) e)];exact e, .inr ⟨n+2+K,0,[],by simp[hφ], ?_⟩, .inr rfl,rfl⟩
   ·simp only [aO,X.ev,h1,h2,e]
    rw[LH _ _ _ (by unfold bA;omega)]
    simp only[oL]
   ·rw [hφ]
    show(O K++ [_])[n+2+K]? = _
    rw[← oL K]
    simp[xS]
  ·have atb:so<n:=by have:=gi e2;omega
   have hlen:(y.φ.reverse.map xS).length=m.st.length:=by simp[h.sJ]
   have e2':(O K)[so]? = some (.int .i64 ((g:Nat):Int)::(y.φ.reverse.map xS++more)):=by rw[XZ K so atb];exact e2
   rw[hlen]at e
   refine⟨.eJ 1 so (g+1) (m.st.length+1),(O K).set so (.int .i64 ((g+1:Nat):Int)::(y.φ.reverse.map xS++ [.ptr (n+1) 0])),fun tm h1 h2=>?_,fun o r e hn=>?_, .inr ⟨so,g+1,[],by simp[h.sJ], ?_⟩, .inl (by rw[e];rfl),rfl⟩
   ·simp only [aO,X.ev,h1,h2,e]
    rw[LS (s:=⟨O K,_⟩) e2' (by rw[hlen,Nat.mul_one]) (by unfold bA;omega)]
   ·rw[List.getElem?_set_ne (fun e'=>hn (by rw[‹y.sd=_›, ← e'];simp[D.arr]))];exact e
   ·simp[oL,show so<n+2+K by omega,xS]
 have o'0:O'[0]? = s.ah[0]? :=by
  rw[hm]
  exact e3 0 _ (by rw[o0];exact hm) (fun mo=>(h.wc (by simp[mo])) rfl)
 have ZW:0<O'.length:=gi (s:=⟨O',[]⟩) (o'0.trans hm)
 have o'f:O'[n+1]? = some (fr K):=e3 _ _ (oF K) (fun mo=>by have:=h.tR (n+1) (by simp[Lay.own,mo]);omega)
 let row:=fx p T W (y.push n K sd) {m with st:=⟨(i:Int),p.globals++f.own,List.range p.globals.length++l++(List.range K).map (m.mem.length + ·),call⟩::m.st,mem:=m.mem++List.replicate K 0}
 refine⟨y.push n K sd,⟨(O'.set 0 row).set (n+1) (pG (y.push n K sd).κ ⟨(i:Int),p.globals++f.own,List.range p.globals.length++l++(List.range K).map (m.mem.length + ·),call⟩),s.aw++ [some (kA.length+K)]⟩, ?_, ?_⟩
 case refine_2=>
  subst hn
  have gO : ∀ (o:Nat) (r:List D),O'[o]? = some r→o≠0→o≠s.ah.length+1→((O'.set 0 row).set (s.ah.length+1) (pG (y.push s.ah.length K sd).κ ⟨(i:Int),p.globals++f.own,List.range p.globals.length++l++(List.range K).map (m.mem.length + ·),call⟩))[o]? = some r:=fun o r e h1 h2=>by
   rw[List.getElem?_set_ne (Ne.symm h2),List.getElem?_set_ne (Ne.symm h1)];exact e
  refine h.push (K:=K) (sd:=sd) hg (fun c mc=>?_) (fun o r e h1 h2=>?_) ?_ (fun j hj=>?_) ?_ (e4.keep fun o mo=>?_) e5 ?_ ?_
  ·simp only [List.mem_append,List.mem_range,List.mem_map]at mc
   rcases mc with (mc|mc)|⟨x,mc,rfl⟩
   ·omega
   ·have:=hl c mc;omega
   ·omega
  ·have:=gi e
   exact gO o r (e3 o r (by rw[XZ K o this];exact e) h2) h1 (by omega)
  ·rw [List.getElem?_set_ne (by omega)]
   simp[ZW,row]
  ·refine gO _ _ (e3 _ _ (oC K j hj) fun mo=> ?_) (by omega) (by omega)
   have:=h.tR _ (show s.ah.length+2+j∈y.own by simp[Lay.own,mo]);omega
  ·have:=gi (s:=⟨O',[]⟩) o'f
   rw[List.getElem?_set_self (by rw[List.length_set];exact this)]
  ·have:o≠0∧o≠s.ah.length+1:=by
    rcases e5 with e|e
    ·rw [e]at mo
     have h1:=h.tR o (by simp[Lay.own,mo])
     exact⟨h.wc (by simp[mo]),by omega⟩
    ·rw [e]at mo
     have:=List.mem_singleton.1 mo
     exact⟨by omega,by omega⟩
   show(List.set _ _ _)[o]? = _
   rw[List.getElem?_set_ne (Ne.symm this.2),List.getElem?_set_ne (Ne.symm this.1)]
  ·exact List.getElem?_append_left (List.getElem?_eq_some_iff.1 h.t0).1
  ·exact List.getElem?_append_left (List.getElem?_eq_some_iff.1 h.t1).1
 refine bL.up ?_
 refine bL.uM zE rfl fun B Q hB hQ=>?_
 have⟨hC,hE,hM,hY⟩:=bE
 have loop : ∀ d k:Nat,k+d=K→bg Tryz.prog B 82 QDN (iH 0 (kO (gF Tryz.prog B 82 QDU Q) Q))
  [(0, .ptr 0 0),(1, .int .i64 (i:Int)),(10, .ptr (n+1) 0),(52, .int .i64 (K:Int)),(53, .int .i64 (k:Int))] ⟨O k,s.aw++ [some (kA.length+k)]⟩:=by
  intro d
  induction d with
  |zero=>
   intro k hk
   have uB:k=K:=by omega
   subst uB
   have hC:decide ((k:Int)<(k:Int))=false:=by simp
   have jO:=o'0.trans hm
   have H9:=o'f
   have vm : ∀ r,(O'.set 0 r)[0]? = some r:=fun r=>List.getElem?_set_self ZW
   refine bg.kB ?_
   repeat' (first
 |simp only[go_sem,hC,hE,hM,hY,hm,o0,e1,e6,jO,ZW,vm]
 |(with_reducible refine CU (cF _) ?_)
 |(with_reducible first|refine aX fun hc=>?_|refine aY fun hc=>?_|refine aZ (fun hc=>?_) fun hc=>?_)<;>(try simp only[hc,bs,↓reduceIte]at h)<;>try simp only[hc]
 |(with_reducible refine aB hQ ?_;(try cases h);simp only[aR,aS,bo,bp,go_sem,hC,hE,hM,hY,hm,o0,e1,e6,jO,ZW,vm];try exact bS)
 | (cases h;done))
   (refine gV hQ ?_;simp only[aR,aS,bo,bp,go_sem])
   have eD:row = [.dO (fA p) 0, .slice .shared 1 ((y.κ.take p.globals.length).map fk), .slice .shared 1 (T.map cT), .slice .shared 1 (W.map cT),sd,y.vd,
    .int .i64 m.fin, .int .i64 m.steps, .int .i64 m.reads, .slice (.tok 0) 1 (m.out.map cT), .slice (.tok 1) 2 (m.trace.map gE)]:=by
    simp only[row,fx,Lay.push]
    rw[List.take_append_of_le_length (by rw[h.len];exact hg)]
   refine⟨_,⟨(O'.set 0 row).set (n+1) _,_⟩,Wk.refl _, ?_,rfl,rfl,rfl⟩
   rw[eD]
   exact gB.setAt (by rw[List.getElem?_set_ne (by omega)];exact H9) ata
  | succ d ih=>
   intro k hk
   have hC:decide ((k:Int)<(K:Int))=true:=by simp;omega
   have cp:k<4611686018427387904:=by omega
   have hfk:=oF k
   have X0:=oF' k [[.int .i64 0]]
   have eU:gw 1 8 (.slice (.tok s.aw.length) 1 (kA++(List.range k).map (fun j=>fk (n+2+j)))) (.slice .full 1 [[.ptr (n+2+k) 0]]) ⟨O k++ [[.int .i64 0]],s.aw++ [some (kA.length+k)]⟩ =
    some (.slice (.tok s.aw.length) 1 (kA++(List.range (k+1)).map (fun j=>fk (n+2+j))),⟨O k++ [[.int .i64 0]],s.aw++ [some (kA.length+(k+1))]⟩):=by
    rw[pf (size:=1) (by simp only[List.length_append,List.length_map,List.length_range,List.length_singleton];unfold bA;omega) (by simp)]
    simp[List.range_succ,fk,Nat.add_assoc]
   have oSk:=oS k
   simp only[fr,List.map_append,List.range_succ,List.map_cons,List.map_nil]at hfk X0 oSk
   refine bg.kB ?_
   repeat' (first
 |simp only[go_sem,hC,hE,hM,hY,hfk,X0,oL,eU,oSk]
 |(with_reducible first|refine aX fun hc=>?_|refine aY fun hc=>?_|refine aZ (fun hc=>?_) fun hc=>?_)<;>(try simp only[hc,bs,↓reduceIte]at h)<;>try simp only[hc]
 |(with_reducible refine aB hQ ?_;(try cases h);simp only[aR,aS,bo,bp,go_sem,hC,hE,hM,hY,hfk,X0,oL,eU,oSk];try exact bS)
 | (cases h;done))
   refine bg.pZ ?_ (ih (k+1) (by omega))
   simp only[go_sem,aL cp]
   repeat' (first|exact Ok.out|with_reducible refine eP ?_ ?_)
 have l0:=loop K 0 (by omega)
 have hO0:O 0=s.ah++ [cJ f]++ [fr 0]:=by rw[hO];simp
 rw[hO0]at l0
 repeat' (first
 |simp only[go_sem,hC,hE,hM,hY,hm,hA,n0,n1,n2,n3,n4,n5,hf,a1,a2,oc, ← Fk,hn]
 |(with_reducible refine CU (cV _) ?_)
 |(with_reducible first|refine aX fun hc=>?_|refine aY fun hc=>?_|refine aZ (fun hc=>?_) fun hc=>?_)<;>(try simp only[hc,bs,↓reduceIte]at h)<;>try simp only[hc]
 |(with_reducible refine aB hQ ?_;(try cases h);simp only[aR,aS,bo,bp,go_sem,hC,hE,hM,hY,hm,hA,n0,n1,n2,n3,n4,n5,hf,a1,a2,oc, ← Fk,hn];try exact bS)
 |(cases h;done))
 simp only[fr,List.range_zero,List.map_nil,List.append_nil,List.map_append]at l0
 rcases a3 with ⟨rfl,rfl,rfl⟩|⟨rfl,rfl,rfl⟩
 ·refine bg.qM (n+1) 2 1 (n1 _ _) rfl ?_
  simp only[n3,List.set_cons_succ,List.set_cons_zero]
  refine bg.pZ ?_ l0
  simp only[go_sem,hK]
  repeat' (first|exact Ok.out|with_reducible refine eP ?_ ?_)
 ·refine bg.pZ ?_ l0
  simp only[go_sem,hK]
  repeat' (first|exact Ok.out|with_reducible refine eP ?_ ?_)
end
end Go.Abs
namespace Go.Abs
set_option maxRecDepth 8000
open Go.Proofs
section
variable {p:Pg} {T W:List Int} {y:Lay} {m:Mc} {loc:List (Nat×List D)} {s:St}
def wi (fr:Fr) (name:aF) (c:Nat):Prop:=∃ j:Nat,jk name 0 fr.names=(j:Int)∧fr.vars[j]? = some c
theorem wi.cell {fr:Fr} {name:aF} {c:Nat} (h:wi fr name c) (ht:m.top=fr):m.cell name=c:=by
 obtain⟨j,h1,h2⟩:=h
 unfold Mc.cell
 rw[ht,h1,Int.toNat_natCast,List.getD_eq_getElem?_getD,h2];rfl
theorem Inv.pop (h:Inv p T W y m loc s) {fr:Fr} {r:List Fr} (jV:m.st=fr::r) {so g:Nat} (sh:y.sd = .eJ 1 so g (r.length+1)) :
 Inv p T W {y with φ:=y.φ.tail,sd:= .eJ 1 so g r.length} {m with st:=r} loc ⟨s.ah.set 0 (fx p T W {y with φ:=y.φ.tail,sd:= .eJ 1 so g r.length} {m with st:=r}),s.aw⟩:=by
 have ij:(D.eJ 1 so g r.length).arr=y.sd.arr:=by rw[sh];rfl
 have Rx:Lay.own {y with φ:=y.φ.tail,sd:= .eJ 1 so g r.length} = y.own:=by simp only[Lay.own,ij]
 have jo:=h.sJ
 rw[jV]at jo
 have ne : ∀ {q:Nat} {r':List D},s.ah[q]? = some r'→q≠0→(s.ah.set 0 (fx p T W {y with φ:=y.φ.tail,sd:= .eJ 1 so g r.length} {m with st:=r}))[q]? = some r':=fun e hn=>by
  rw[List.getElem?_set_ne (Ne.symm hn)];exact e
 have nf : ∀ {q:Nat},q∉y.own→q≠0:=fun hq e=>hq (by rw[e];simp[Lay.own])
 obtain⟨l,hl⟩:=h.dj
 refine⟨by simp[h.uO],h.t0,h.t1,h.len,fun i c v e1 e2=>ne (h.cell i c v e1 e2) (h.wc (by simp[List.mem_of_getElem? e1])),by simp[jo],fun i o NZ e1 e2=>?_, ?_,⟨l,hl.keep fun o mo=>?_⟩,by rw[Rx];exact h.own,fun q mq=>?_⟩
 ·obtain⟨f1,f2,f3⟩:=h.frame (i+1) o NZ (by simpa [List.getElem?_tail]using e1) (by rw [jV];simpa using e2)
  exact⟨ne f1 (nf f2),by rw[Rx];exact f2,f3⟩
 ·cases hφ:y.φ with
  |nil=>rw[hφ]at jo;simp at jo
  | cons o φ=>
   rw[hφ]at jo
   rcases h.stack with ⟨e,_⟩|⟨so',g',more,e,e2⟩
   ·rw[e]at sh;cases sh
   ·have e':=e
    rw[sh,D.eJ.injEq]at e'
    obtain⟨_,rfl,rfl,_⟩:=e'
    refine .inr ⟨so,g,[.ptr o 0]++more,by simp at jo ⊢;omega,ne ?_ (h.wc (by rw[sh];simp[D.arr]))⟩
    rw[e2,hφ]
    simp[xS]
 ·show(s.ah.set 0 _)[o]? = _
  rw[List.getElem?_set_ne (Ne.symm (h.wc (by simp[mo])))]
 ·obtain⟨f1,f2⟩:=h.loc q mq
  exact⟨ne f1 (nf f2),by rw[Rx];exact f2⟩
theorem LV {L:List Im} {c:Nat} {it:Im} (h:L[c]? = some it) {a:Int} (ha:a=(c:Int)+1):gj L a=it:=by
 unfold gj
 rw[ha,show((c:Int)+1 - 1).toNat=c by omega,List.getD_eq_getElem?_getD,h];rfl
theorem ab2 (h:Inv p T W y m loc s) {fr:Fr} {r:List Fr} (ht:mT m fr r) (hL:p.bh.L.length<1000000)
 (hc:fr.call=0∨∃ (c:Nat) (it:Im) (uN:Fr) (r2:List Fr),fr.call=(c:Int)+1∧p.bh.L[c]? = some it∧mT {m with st:=r} uN r2∧(it.s.name≠ []→∃ k,wi uN it.s.name k)) (xR:Int) :
 bL Tryz.prog oI [.ptr 0 0, .int .i64 xR] s (Rl p T W (.int .i64 (m.close p.bh.L xR).1) (m.close p.bh.L xR).2 (fun y'=>∃ sd,y' = {y with φ:=y.φ.tail,sd:=sd}) loc):=by
 obtain⟨so,g,cells,o,h1,h2,h3,h4,h5⟩:=h.XV ht.st
 obtain⟨o',_,FR,c1⟩:=Ru h ht.st ht.len
 have ho:o'=o:=by rw[h5]at *;cases ‹some o=some o'›;rfl
 subst ho
 have hm:=h.jT
 rw[fx,h1]at hm
 have hl:=h.uO
 have hp:=h.pop ht.st h1
 have hpf:=hp.jT
 have hlen:=ht.len
 have hw:IntKind.wrap .i64 (((r.length+1:Nat):Int) - 1)=((r.length:Nat):Int):=by rw[show((r.length+1:Nat):Int) - 1=(r.length:Int) by omega];exact er (by omega) (by omega)
 have uA:xk (.eJ 1 so g (r.length+1)) none (some (.int .i64 (r.length:Int)))=some (.eJ 1 so g r.length):=by simp[xk,tf,ti];omega
 have vm : ∀ r,(s.ah.set 0 r)[0]? = some r:=fun r=>List.getElem?_set_self hl
 rw[pG]at FR
 have nM:m.close p.bh.L xR=if fr.call==0 then(-1,{{m with st:=r}with fin:=1})else((gj p.bh.L fr.call).next,if(gj p.bh.L fr.call).s.name == []then {m with st:=r}else({m with st:=r} : Mc).set (gj p.bh.L fr.call).s.name xR):=by
  unfold Mc.close
  rw[ht.top,ht.st];rfl
 rw[nM]
 rcases hc with hc|⟨c,it,uN,r2,hc,pY,tL,hn⟩
 ·rw [hc]at FR
  have e0:((0:Int)==0)=true:=rfl
  have h5:=hp.ua (m':= {{m with st:=r}with fin:=1}) rfl rfl hp.t0 hp.t1
  rw[fx]at h5
  simp only[List.set_set]at h5
  rw[hc,if_pos e0]
  refine bL.uM q5 rfl fun B Q hB hQ=>?_
  have⟨hC,hE,hM,hY⟩:=bE
  repeat' (first
 |simp only[go_sem,hC,hE,hM,hY,hm,hl,hw,uA,vm,FR,e0,List.set_set]
 |(with_reducible refine CU (c1) ?_)
 |(with_reducible first|refine aX fun hc=>?_|refine aY fun hc=>?_|refine aZ (fun hc=>?_) fun hc=>?_)<;>(try simp only[hc,bs,↓reduceIte]at h)<;>try simp only[hc]
 |(with_reducible refine aB hQ ?_;(try cases h);simp only[aR,aS,bo,bp,go_sem,hC,hE,hM,hY,hm,hl,hw,uA,vm,FR,e0,List.set_set];try exact bS)
 |(cases h;done))
  (refine gV hQ ?_;simp only[aR,aS,bo,bp,go_sem])
  exact⟨rfl,_,⟨_,rfl⟩,h5⟩
 ·rw [hc]at FR
  have Cd:IntKind.wrap .i64 ((c:Int)+1 - 1)=(c:Int):=by
   have:=(List.getElem?_eq_some_iff.1 pY).1
   rw[show(c:Int)+1 - 1=(c:Int) by omega];exact er (by omega) (by omega)
  have e0:((c:Int)+1==0)=false:=by simp;omega
  have atc:=LV pY hc
  have hz : ∀ (z:List D) (e:List D),(s.ah.set 0 e++ [z]).set s.ah.length (dN it)=s.ah.set 0 e++ [dN it]:=fun z e=>by simp
  have hg : ∀ z e:List D,(s.ah.set 0 e++ [z])[s.ah.length]? = some z:=fun z e=>by simp
  have cS:(fA p)[2]? = some (.slice .shared 17 (p.bh.L.map dN)):=rfl
  have HQ : ∀ e:List D,(s.ah.set 0 e).length=s.ah.length:=fun e=>List.length_set
  have dv:=hp.new (dN it)
  rw[fx]at dv
  simp only[HQ]at dv
  have Fz:dN it = [.int .i64 it.s.id, .int .i64 it.s.kind, .slice .shared 1 (it.s.labels.map encStr), .str it.s.name, .str it.s.proc, .int .i64 it.s.x.op, .int .i64 it.s.x.n, .str it.s.x.name, .slice .shared 4 (it.s.x.kids.map bJ), .bool it.s.has, .slice .shared 6 (it.s.args.map eG), .slice .shared 13 (it.s.bm.map bb), .slice .shared 13 (it.s.bd.map bb), .int .i64 it.proc, .int .i64 it.up, .int .i64 it.next, .int .i64 it.loop]:=rfl
  have c3:(dN it)[3]? = some (.str it.s.name):=rfl
  rw[hc,if_neg (by rw[e0];simp),show gj p.bh.L ((c:Int)+1)=it from hc ▸ atc]
  refine bL.uM q5 rfl fun B Q hB hQ=>?_
  have⟨hC,hE,hM,hY⟩:=bE
  rcases Bool.eq_false_or_eq_true (it.s.name == [])with b|b
  ·repeat' (first
 |simp only[go_sem,hC,hE,hM,hY,hm,hl,hw,uA,vm,FR,e0,Cd,pY,hz,hg,HQ,c3,b,cS]
 |(with_reducible refine CU (c1) ?_)
 |(with_reducible first|refine aX fun hc=>?_|refine aY fun hc=>?_|refine aZ (fun hc=>?_) fun hc=>?_)<;>(try simp only[hc,bs,↓reduceIte]at h)<;>try simp only[hc]
 |(with_reducible refine aB hQ ?_;(try cases h);simp only[aR,aS,bo,bp,go_sem,hC,hE,hM,hY,hm,hl,hw,uA,vm,FR,e0,Cd,pY,hz,hg,HQ,c3,b,cS];try exact bS)
 | (cases h;done))
   (refine gV hQ ?_;simp only[aR,aS,bo,bp,go_sem])
   refine⟨rfl,{y with φ:=y.φ.tail,sd:= .eJ 1 so g r.length},⟨_,rfl⟩, ?_⟩
   simp only[b,if_true]
   exact dv.sub fun q mq=>List.mem_cons_of_mem _ mq
  ·obtain⟨k,hk⟩:=hn (by intro e;rw [e]at b;cases b)
   have LW:=hk.cell tL.top
   obtain⟨j,hj,Ce⟩:=hk
   have c2:=CS dv tL.st tL.len tL.names hj Ce
   have hkm:k<m.mem.length:=by
    have hlp:=hp.sJ
    rw[tL.st]at hlp
    cases hφ:y.φ.tail with
    |nil=>simp[hφ]at hlp
    |cons o2 φ2=>exact(hp.frame 0 o2 uN (by simp[hφ]) (by rw[tL.st];rfl)).2.2 k (List.mem_of_getElem? Ce)
   have hκ:y.κ[k]? = some (y.κ.getD k 0):=by
    rw[List.getD_eq_getElem?_getD,List.getElem?_eq_getElem (by have:=h.len;omega)];rfl
   have kM:=dv.cell k _ _ hκ (List.getElem?_eq_getElem hkm)
   have v8:=dv.XR hκ xR
   have jw:=(v8.loc (s.ah.length,dN it) (List.mem_cons_self ..)).1
   simp only at kM v8 jw c2
   have hb:(it.s.name != [])=true:=by simp[bne,b]
   repeat' (first
 |simp only[go_sem,hC,hE,hM,hY,hm,hl,hw,uA,vm,FR,e0,Cd,pY,hz,hg,HQ,c3,b,cS,kM,jw]
 |(with_reducible refine CU (c1) ?_)
 |(with_reducible refine CU (c2) ?_)
 |(with_reducible first|refine aX fun hc=>?_|refine aY fun hc=>?_|refine aZ (fun hc=>?_) fun hc=>?_)<;>(try simp only[hc,bs,↓reduceIte]at h)<;>try simp only[hc]
 |(with_reducible refine aB hQ ?_;(try cases h);simp only[aR,aS,bo,bp,go_sem,hC,hE,hM,hY,hm,hl,hw,uA,vm,FR,e0,Cd,pY,hz,hg,HQ,c3,b,cS,kM,jw];try exact bS)
 | (cases h;done))
   (refine gV hQ ?_;simp only[aR,aS,bo,bp,go_sem])
   refine⟨rfl,{y with φ:=y.φ.tail,sd:= .eJ 1 so g r.length},⟨_,rfl⟩, ?_⟩
   simp only[b,Bool.false_eq_true,if_false,Mc.set,LW]
   exact v8.sub fun q mq=>List.mem_cons_of_mem _ mq
end
end Go.Abs
namespace Go.Abs
set_option maxRecDepth 8000
open Go.Proofs
section
variable {p:Pg} {T W:List Int} {y:Lay} {m:Mc} {loc:List (Nat×List D)} {s:St}
structure af7 (p:Pg) (fr:Fr) (it:Im):Prop where
 said:it.s.nE
 brk:it.s.kind=7→∃ (c:Nat) (it2:Im),it.loop=(c:Int)+1∧p.bh.L[c]? = some it2
 Rp:it.s.kind=10→∃ (i:Nat) (f:Pc),it.proc=(i:Int)∧p.procs[i]? = some f
 name:it.s.kind=1∨it.s.kind=2→∃ k,wi fr it.s.name k
 bm:it.s.bm.length<1000000
 bd:it.s.bd.length<1000000
structure Jr (p:Pg) (T W:List Int) (m:Mc):Prop where
 W:W.length<1000000
 T:T.length<1000000
 trace:m.trace.length<2000000
 out:m.out.length<2000000
 L:p.bh.L.length<1000000
 P:Pc.bt p.procs<1000000000
 reads:0≤m.reads∧m.reads<2000000
theorem cell_of (h:Inv p T W y m loc s) {fr:Fr} {r:List Fr} (jV:m.st=fr::r) {c j:Nat} (hc:fr.vars[j]? = some c):y.κ[c]? = some (y.κ.getD c 0)∧∃ v,m.mem[c]? = some v∧s.ah[y.κ.getD c 0]? = some [.int .i64 v]:=by
 have jo:=h.sJ
 rw[jV]at jo
 cases hφ:y.φ with
 |nil=>simp[hφ]at jo
 | cons o φ=>
  have UC:=(h.frame 0 o fr (by simp[hφ]) (by rw[jV];rfl)).2.2 c (List.mem_of_getElem? hc)
  have hκ:y.κ[c]? = some (y.κ.getD c 0):=by
   rw[List.getD_eq_getElem?_getD,List.getElem?_eq_getElem (by have:=h.len;omega)];rfl
  exact⟨hκ,_,List.getElem?_eq_getElem UC,h.cell c _ _ hκ (List.getElem?_eq_getElem UC)⟩
theorem atd (hp:p.jc) (X1:p.may=true) (h:Inv p T W y m loc s) {fr:Fr} {r:List Fr} (ht:mT m fr r) (hz:Jr p T W m) {it:Im} (hd:af7 p fr it) :
 bL Tryz.prog qN [.ptr 0 0, .agg (dN it)] s (Rl p T W (.int .i64 (m.do p p.bh.L T W it).1) (m.do p p.bh.L T W it).2 (fun y'=>∃ vd,y' = {y with vd:=vd}) loc):=by
 have h1:=(h.new (dN it)).new (bb it.s)
 simp only[List.length_append,List.length_singleton]at h1
 have z0 : ∀ z:List D,(s.ah++ [z])[s.ah.length]? = some z:=fun z=>by simp
 have z1 : ∀ z:List D,(s.ah++ [dN it]++ [z]).set (s.ah.length+1) (bb it.s)=s.ah++ [dN it]++ [bb it.s]:=fun z=>by simp[List.append_assoc,List.set_append_right]
 have z2 : ∀ a z:List D,(s.ah++ [a]++ [z])[s.ah.length+1]? = some z:=fun a z=>by simp
 have z3 : ∀ a z:List D,(s.ah++ [a]++ [z])[s.ah.length]? = some a:=fun a z=>by simp
 have z4:=h1.jT
 rw[fx]at z4
 have vU:=h1.uO
 simp only at z4 vU
 have cS:(fA p)[2]? = some (.slice .shared 17 (p.bh.L.map dN)):=rfl
 have nJ : ∀ q∈loc,q∈(s.ah.length+1,bb it.s)::(s.ah.length,dN it)::loc:=fun q mq=>List.mem_cons_of_mem _ (List.mem_cons_of_mem _ mq)
 generalize hn:s.ah.length=n at *
 have jw : ∀ {y2:Lay} {m2:Mc} {s2:St},Inv p T W y2 m2 ((n+1,bb it.s)::(n,dN it)::loc) s2→s2.ah[n]? = some (dN it)∧s2.ah[n+1]? = some (bb it.s)∧0<s2.ah.length:=fun h2=>
  ⟨(h2.loc (n,dN it) (by simp)).1,(h2.loc (n+1,bb it.s) (by simp)).1,h2.uO⟩
 rcases Bool.eq_false_or_eq_true (it.s.kind==7)with b7|b7
 ·have c1:=wg h1 hz.W hz.trace it.s.id
  obtain⟨c,it2,e1,e2⟩:=hd.brk (by simpa using b7)
  have hw:IntKind.wrap .i64 ((c:Int)+1 - 1)=(c:Int):=by
   have:=(List.getElem?_eq_some_iff.1 e2).1
   have:=hz.L
   rw[show(c:Int)+1 - 1=(c:Int) by omega];exact er (by omega) (by omega)
  have y5:m.do p p.bh.L T W it=(it2.next,m.event W it.s.id []):=by
   unfold Mc.do
   dsimp only
   rw[if_pos b7,LV e2 e1]
  rw[y5]
  refine bL.uM iw rfl fun B Q hB hQ=>?_
  have⟨hC,hE,hM,hY⟩:=bE
  repeat' (first
 |simp only[go_sem,hC,hE,hM,hY,z0,z1,z2,z3,hn,b7]
 |(with_reducible first|refine aX fun hc=>?_|refine aY fun hc=>?_|refine aZ (fun hc=>?_) fun hc=>?_)<;>(try simp only[hc,bs,↓reduceIte]at h)<;>try simp only[hc]
 |(with_reducible refine aB hQ ?_;(try cases h);simp only[aR,aS,bo,bp,go_sem,hC,hE,hM,hY,z0,z1,z2,z3,hn,b7];try exact bS)
 |(cases h;done))
  refine CR c1 fun d s2 h2=>?_
  obtain⟨rfl,y2,rfl,h2⟩:=h2
  obtain⟨x1,x2,x3⟩:=jw h2
  have jO:=h2.jT
  rw[fx]at jO
  repeat' (first
 |simp only[go_sem,hC,hE,hM,hY,x1,x2,jO,cS,e1,hw,e2]
 |(with_reducible first|refine aX fun hc=>?_|refine aY fun hc=>?_|refine aZ (fun hc=>?_) fun hc=>?_)<;>(try simp only[hc,bs,↓reduceIte]at h)<;>try simp only[hc]
 |(with_reducible refine aB hQ ?_;(try cases h);simp only[aR,aS,bo,bp,go_sem,hC,hE,hM,hY,x1,x2,jO,cS,e1,hw,e2];try exact bS)
 |(cases h;done))
  (refine gV hQ ?_;simp only[aR,aS,bo,bp,go_sem])
  exact⟨rfl,_,⟨_,rfl⟩,h2.sub nJ⟩
 rcases Bool.eq_false_or_eq_true (it.s.kind==8)with b8|b8
 ·have c1:=wg h1 hz.W hz.trace it.s.id
  have y5:m.do p p.bh.L T W it=(it.loop,m.event W it.s.id []):=by
   unfold Mc.do
   dsimp only
   rw[if_neg (by simp[b7]),if_pos b8]
  rw[y5]
  refine bL.uM iw rfl fun B Q hB hQ=>?_
  have⟨hC,hE,hM,hY⟩:=bE
  repeat' (first
 |simp only[go_sem,hC,hE,hM,hY,z0,z1,z2,z3,hn,b7,b8]
 |(with_reducible first|refine aX fun hc=>?_|refine aY fun hc=>?_|refine aZ (fun hc=>?_) fun hc=>?_)<;>(try simp only[hc,bs,↓reduceIte]at h)<;>try simp only[hc]
 |(with_reducible refine aB hQ ?_;(try cases h);simp only[aR,aS,bo,bp,go_sem,hC,hE,hM,hY,z0,z1,z2,z3,hn,b7,b8];try exact bS)
 |(cases h;done))
  refine CR c1 fun d s2 h2=>?_
  obtain⟨rfl,y2,rfl,h2⟩:=h2
  obtain⟨x1,x2,x3⟩:=jw h2
  repeat' (first
 |simp only[go_sem,hC,hE,hM,hY,x1,x2]
 |(with_reducible first|refine aX fun hc=>?_|refine aY fun hc=>?_|refine aZ (fun hc=>?_) fun hc=>?_)<;>(try simp only[hc,bs,↓reduceIte]at h)<;>try simp only[hc]
 |(with_reducible refine aB hQ ?_;(try cases h);simp only[aR,aS,bo,bp,go_sem,hC,hE,hM,hY,x1,x2];try exact bS)
 |(cases h;done))
  (refine gV hQ ?_;simp only[aR,aS,bo,bp,go_sem])
  exact⟨rfl,_,⟨_,rfl⟩,h2.sub nJ⟩
 rcases Bool.eq_false_or_eq_true (it.s.kind==10)with tT|tT
 ·have c1:=wg h1 hz.W hz.trace it.s.id
  obtain⟨i,f,e1,e2⟩:=hd.Rp (by simpa using tT)
  have cA:=fun s=>ae6 hp X1 e2 it.s.name s
  have y5:m.do p p.bh.L T W it=((lf f.fin it.s.name (Sm.dr f.body)).1,m.event W it.s.id []):=by
   unfold Mc.do
   dsimp only
   rw[if_neg (by simp[b7]),if_neg (by simp[b8]),if_pos tT,e1,Int.toNat_natCast,e2]
  rw[y5]
  refine bL.uM iw rfl fun B Q hB hQ=>?_
  have⟨hC,hE,hM,hY⟩:=bE
  repeat' (first
 |simp only[go_sem,hC,hE,hM,hY,z0,z1,z2,z3,hn,b7,b8,tT]
 |(with_reducible first|refine aX fun hc=>?_|refine aY fun hc=>?_|refine aZ (fun hc=>?_) fun hc=>?_)<;>(try simp only[hc,bs,↓reduceIte]at h)<;>try simp only[hc]
 |(with_reducible refine aB hQ ?_;(try cases h);simp only[aR,aS,bo,bp,go_sem,hC,hE,hM,hY,z0,z1,z2,z3,hn,b7,b8,tT];try exact bS)
 |(cases h;done))
  refine CR c1 fun d s2 h2=>?_
  obtain⟨rfl,y2,rfl,h2⟩:=h2
  obtain⟨x1,x2,x3⟩:=jw h2
  have jO:=h2.jT
  rw[fx]at jO
  repeat' (first
 |simp only[go_sem,hC,hE,hM,hY,x1,x2,jO,e1]
 |(with_reducible refine CU (cA _) ?_)
 |(with_reducible first|refine aX fun hc=>?_|refine aY fun hc=>?_|refine aZ (fun hc=>?_) fun hc=>?_)<;>(try simp only[hc,bs,↓reduceIte]at h)<;>try simp only[hc]
 |(with_reducible refine aB hQ ?_;(try cases h);simp only[aR,aS,bo,bp,go_sem,hC,hE,hM,hY,x1,x2,jO,e1];try exact bS)
 |(cases h;done))
  (refine gV hQ ?_;simp only[aR,aS,bo,bp,go_sem])
  exact⟨rfl,_,⟨_,rfl⟩,h2.sub nJ⟩
 rcases Bool.eq_false_or_eq_true (it.s.kind==2)with b2|b2
 ·obtain⟨k,hk⟩:=hd.name (.inr (by simpa using b2))
  have jC:=hz.reads
  have hTl:=hz.T
  have R6:=jC.1
  have aAN : ∀ r,((s.ah++ [dN it]++ [bb it.s]).set 0 r)[0]? = some r:=fun r=>List.getElem?_set_self vU
  cases e:T[m.reads.toNat]? with
  | none=>
   have eL:decide (m.reads≥(T.length:Int))=true:=by have:=List.getElem?_eq_none_iff.1 e;simp;omega
   have y5:m.do p p.bh.L T W it=(-1,{m with fin:=3}):=by
    unfold Mc.do
    dsimp only
    rw[if_neg (by simp[b7]),if_neg (by simp[b8]),if_neg (by simp[tT]),if_pos b2,e]
   rw[y5]
   have h2:=h1.ua (m':= {m with fin:=3}) rfl rfl h1.t0 h1.t1
   rw[fx]at h2
   simp only at h2
   refine bL.uM iw rfl fun B Q hB hQ=>?_
   have⟨hC,hE,hM,hY⟩:=bE
   repeat' (first
 |simp only[go_sem,hC,hE,hM,hY,z0,z1,z2,z3,z4,hn,b7,b8,tT,b2,eL,vU]
 |(with_reducible first|refine aX fun hc=>?_|refine aY fun hc=>?_|refine aZ (fun hc=>?_) fun hc=>?_)<;>(try simp only[hc,bs,↓reduceIte]at h)<;>try simp only[hc]
 |(with_reducible refine aB hQ ?_;(try cases h);simp only[aR,aS,bo,bp,go_sem,hC,hE,hM,hY,z0,z1,z2,z3,z4,hn,b7,b8,tT,b2,eL,vU];try exact bS)
 | (cases h;done))
   (refine gV hQ ?_;simp only[aR,aS,bo,bp,go_sem])
   exact⟨rfl,_,⟨_,rfl⟩,h2.sub nJ⟩
  | some v=>
   have eL:decide (m.reads≥(T.length:Int))=false:=by have:=(List.getElem?_eq_some_iff.1 e).1;simp;omega
   have FU:IntKind.wrap .i64 (m.reads+1)=m.reads+1:=er (by omega) (by omega)
   have LW:=hk.cell ht.top
   obtain⟨j,hj,Ce⟩:=hk
   have y5:m.do p p.bh.L T W it=(it.next,(({m with reads:=m.reads+1,mem:=m.mem.set k v} : Mc).event W it.s.id [v])):=by
    unfold Mc.do
    dsimp only
    rw[if_neg (by simp[b7]),if_neg (by simp[b8]),if_neg (by simp[tT]),if_pos b2,e]
    have:({m with reads:=m.reads+1} : Mc).cell it.s.name=k:=LW
    simp only[Mc.set,this]
   rw[y5]
   have h2:=h1.ua (m':= {m with reads:=m.reads+1}) rfl rfl h1.t0 h1.t1
   have tL:mT ({m with reads:=m.reads+1} : Mc) fr r:=⟨ht.st,ht.len,ht.names,ht.vars⟩
   have c2:=CS h2 tL.st tL.len tL.names hj Ce
   obtain⟨hκ,v0,g1,g2⟩:=cell_of h2 tL.st Ce
   have h3:=h2.XR hκ v
   have c3:=Ef h3 hz.W hz.trace it.s.id v
   obtain⟨x1,x2,x3⟩:=jw h3
   obtain⟨x4,x5,x6⟩:=jw h2
   rw[fx]at c2 g2 c3 x1 x2 x4 x5
   simp only at c2 g2 c3 x1 x2 x4 x5
   refine bL.uM iw rfl fun B Q hB hQ=>?_
   have⟨hC,hE,hM,hY⟩:=bE
   repeat' (first
 |simp only[go_sem,hC,hE,hM,hY,z0,z1,z2,z3,z4,hn,b7,b8,tT,b2,eL,vU,e,FU,R6,x1,x2,x4,x5,g2]
 |(with_reducible refine CU (c2) ?_)
 |(with_reducible first|refine aX fun hc=>?_|refine aY fun hc=>?_|refine aZ (fun hc=>?_) fun hc=>?_)<;>(try simp only[hc,bs,↓reduceIte]at h)<;>try simp only[hc]
 |(with_reducible refine aB hQ ?_;(try cases h);simp only[aR,aS,bo,bp,go_sem,hC,hE,hM,hY,z0,z1,z2,z3,z4,hn,b7,b8,tT,b2,eL,vU,e,FU,R6,x1,x2,x4,x5,g2];try exact bS)
 | (cases h;done))
   refine CR c3 fun d s2 h4=>?_
   obtain⟨rfl,y2,rfl,h4⟩:=h4
   obtain⟨x1,x2,x3⟩:=jw h4
   repeat' (first
 |simp only[go_sem,hC,hE,hM,hY,x1,x2]
 |(with_reducible first|refine aX fun hc=>?_|refine aY fun hc=>?_|refine aZ (fun hc=>?_) fun hc=>?_)<;>(try simp only[hc,bs,↓reduceIte]at h)<;>try simp only[hc]
 |(with_reducible refine aB hQ ?_;(try cases h);simp only[aR,aS,bo,bp,go_sem,hC,hE,hM,hY,x1,x2];try exact bS)
 | (cases h;done))
   (refine gV hQ ?_;simp only[aR,aS,bo,bp,go_sem])
   exact⟨rfl,_,⟨_,rfl⟩,h4.sub nJ⟩
 -- an expression is reckoned
 have hx:it.s.x.size<1000000:=by have:=hd.said.2.2;omega
 have c1:=Ee h1 ht hx hd.said.1
 rcases Bool.eq_false_or_eq_true (m.bU it.s.x).1.2 with bw|bw
 case inr=>
  have y5:m.do p p.bh.L T W it=(-1,(m.bU it.s.x).2):=by
   unfold Mc.do
   dsimp only
   rw[if_neg (by simp[b7]),if_neg (by simp[b8]),if_neg (by simp[tT]),if_neg (by simp[b2]),if_neg (by simp[bw])]
  rw[y5]
  refine bL.uM iw rfl fun B Q hB hQ=>?_
  have⟨hC,hE,hM,hY⟩:=bE
  repeat' (first
 |simp only[go_sem,hC,hE,hM,hY,z0,z1,z2,z3,hn,b7,b8,tT,b2]
 |(with_reducible first|refine aX fun hc=>?_|refine aY fun hc=>?_|refine aZ (fun hc=>?_) fun hc=>?_)<;>(try simp only[hc,bs,↓reduceIte]at h)<;>try simp only[hc]
 |(with_reducible refine aB hQ ?_;(try cases h);simp only[aR,aS,bo,bp,go_sem,hC,hE,hM,hY,z0,z1,z2,z3,hn,b7,b8,tT,b2];try exact bS)
 |(cases h;done))
  refine CR c1 fun d s2 h2=>?_
  obtain⟨⟨rfl,y2,wh,h2⟩,_⟩:=h2
  repeat' (first
 |simp only[go_sem,hC,hE,hM,hY,bw]
 |(with_reducible first|refine aX fun hc=>?_|refine aY fun hc=>?_|refine aZ (fun hc=>?_) fun hc=>?_)<;>(try simp only[hc,bs,↓reduceIte]at h)<;>try simp only[hc]
 |(with_reducible refine aB hQ ?_;(try cases h);simp only[aR,aS,bo,bp,go_sem,hC,hE,hM,hY,bw];try exact bS)
 |(cases h;done))
  (refine gV hQ ?_;simp only[aR,aS,bo,bp,go_sem])
  exact⟨rfl,y2,⟨_,wh⟩,h2.sub nJ⟩
 have UF:(m.bU it.s.x).2=m:=by
  unfold Mc.bU
  dsimp only
  rw[if_pos (show(it.s.x.bU m.top.names m.dj).2=true from bw)]
 have y5:m.do p p.bh.L T W it=(let m1:=m.event W it.s.id [(m.bU it.s.x).1.1];let n:=(m.bU it.s.x).1.1
  if it.s.kind==1 then(it.next,m1.set it.s.name n)else if it.s.kind==3 then(it.next,{m1 with out:=m1.out++ [n]})
  else if it.s.kind==5 then(if n==0 then firstM it.s.bd it.next else firstM it.s.bm it.next,m1)else if it.s.kind==6 then(if n==0 then it.next else firstM it.s.bm it.s.id,m1)else(it.next,m1)):=by
  unfold Mc.do
  dsimp only
  rw[if_neg (by simp[b7]),if_neg (by simp[b8]),if_neg (by simp[tT]),if_neg (by simp[b2]),if_pos bw,UF]
 rw[y5]
 rw[UF]at c1
 generalize hR:(m.bU it.s.x).1=R at *
 obtain⟨v,ok⟩:=R
 subst bw
 dsimp only
 have he:=fJ W m it.s.id [v]
 have UG:mT (m.event W it.s.id [v]) fr r:=⟨by rw[he.1];exact ht.st,ht.len,ht.names,ht.vars⟩
 have nb:(v != 0) = !(v==0):=rfl
 have fT:=fun o s=>NY it.s.bm (by have:=hd.bm;omega) o s
 have fE:=fun o s=>NY it.s.bd (by have:=hd.bd;omega) o s
 refine bL.uM iw rfl fun B Q hB hQ=>?_
 have⟨hC,hE,hM,hY⟩:=bE
 repeat' (first
 |simp only[go_sem,hC,hE,hM,hY,z0,z1,z2,z3,hn,b7,b8,tT,b2]
 |(with_reducible first|refine aX fun hc=>?_|refine aY fun hc=>?_|refine aZ (fun hc=>?_) fun hc=>?_)<;>(try simp only[hc,bs,↓reduceIte]at h)<;>try simp only[hc]
 |(with_reducible refine aB hQ ?_;(try cases h);simp only[aR,aS,bo,bp,go_sem,hC,hE,hM,hY,z0,z1,z2,z3,hn,b7,b8,tT,b2];try exact bS)
 |(cases h;done))
 refine CR c1 fun d s2 h2=>?_
 obtain⟨⟨rfl,y2,wh,h2⟩,_⟩:=h2
 obtain⟨x1,x2,x3⟩:=jw h2
 have c2:=Ef h2 hz.W hz.trace it.s.id v
 repeat' (first
 |simp only[go_sem,hC,hE,hM,hY,x1,x2]
 |(with_reducible first|refine aX fun hc=>?_|refine aY fun hc=>?_|refine aZ (fun hc=>?_) fun hc=>?_)<;>(try simp only[hc,bs,↓reduceIte]at h)<;>try simp only[hc]
 |(with_reducible refine aB hQ ?_;(try cases h);simp only[aR,aS,bo,bp,go_sem,hC,hE,hM,hY,x1,x2];try exact bS)
 |(cases h;done))
 refine CR c2 fun d s3 h3=>?_
 obtain⟨rfl,y3,rfl,h3⟩:=h3
 obtain⟨x1,x2,x3⟩:=jw h3
 have ox:=h3.jT
 rw[fx]at ox
 rcases Bool.eq_false_or_eq_true (it.s.kind==1)with b1|b1
 ·obtain⟨k,hk⟩:=hd.name (.inl (by simpa using b1))
  have LW:=hk.cell UG.top
  obtain⟨j,hj,Ce⟩:=hk
  have c3:=CS h3 UG.st UG.len UG.names hj Ce
  obtain⟨hκ,v0,g1,g2⟩:=cell_of h3 UG.st Ce
  have h4:=h3.XR hκ v
  obtain⟨x4,x5,x6⟩:=jw h4
  simp only at x4 x5
  repeat' (first
 |simp only[go_sem,hC,hE,hM,hY,x1,x2,b1,g2,x4,x5]
 |(with_reducible refine CU (c3) ?_)
 |(with_reducible first|refine aX fun hc=>?_|refine aY fun hc=>?_|refine aZ (fun hc=>?_) fun hc=>?_)<;>(try simp only[hc,bs,↓reduceIte]at h)<;>try simp only[hc]
 |(with_reducible refine aB hQ ?_;(try cases h);simp only[aR,aS,bo,bp,go_sem,hC,hE,hM,hY,x1,x2,b1,g2,x4,x5];try exact bS)
 |(cases h;done))
  (refine gV hQ ?_;simp only[aR,aS,bo,bp,go_sem])
  rw[if_pos b1]
  refine⟨rfl,y3,⟨_,wh⟩, ?_⟩
  simp only[Mc.set,LW]
  exact h4.sub nJ
 rw[if_neg (by simp[b1])]at hQ
 rcases Bool.eq_false_or_eq_true (it.s.kind==3)with b3|b3
 ·rw [if_pos b3]at hQ
  have eU:gw 1 8 (.slice (.tok 0) 1 ((m.event W it.s.id [v]).out.map cT)) (.slice .full 1 [[.int .i64 v]]) s3=some (.slice (.tok 0) 1 (((m.event W it.s.id [v]).out++ [v]).map cT),⟨s3.ah,s3.aw.set 0 (some ((m.event W it.s.id [v]).out.length+1))⟩):=by
   rw[pf (size:=1) (by simp only[List.length_map,List.length_singleton,he.2.2.2.2.2];have:=hz.out;unfold bA;omega) (by simpa using h3.t0)]
   simp[cT]
  have h4:=h3.ua (m':= {m.event W it.s.id [v]with out:=(m.event W it.s.id [v]).out++ [v]}) (ts:=s3.aw.set 0 (some ((m.event W it.s.id [v]).out.length+1))) rfl rfl (by simp[(List.getElem?_eq_some_iff.1 h3.t0).1]) (by rw[List.getElem?_set_ne (by omega)];exact h3.t1)
  obtain⟨x4,x5,x6⟩:=jw h4
  rw[fx]at h4 x4 x5
  simp only[List.map_append,List.map_cons,List.map_nil,cT]at h4 x4 x5 eU
  repeat' (first
 |simp only[go_sem,hC,hE,hM,hY,x1,x2,b1,b3,ox,eU,x3,x4,x5]
 |(with_reducible first|refine aX fun hc=>?_|refine aY fun hc=>?_|refine aZ (fun hc=>?_) fun hc=>?_)<;>(try simp only[hc,bs,↓reduceIte]at h)<;>try simp only[hc]
 |(with_reducible refine aB hQ ?_;(try cases h);simp only[aR,aS,bo,bp,go_sem,hC,hE,hM,hY,x1,x2,b1,b3,ox,eU,x3,x4,x5];try exact bS)
 |(cases h;done))
  (refine gV hQ ?_;simp only[aR,aS,bo,bp,go_sem])
  exact⟨rfl,y3,⟨_,wh⟩,h4.sub nJ⟩
 rw[if_neg (by simp[b3])]at hQ
 rcases Bool.eq_false_or_eq_true (it.s.kind==5)with b5|b5
 ·rw [if_pos b5]at hQ
  rcases Bool.eq_false_or_eq_true (v==0)with bv|bv
  ·rw [if_pos bv]at hQ
   repeat' (first
 |simp only[go_sem,hC,hE,hM,hY,x1,x2,b1,b3,b5,nb,bv]
 |(with_reducible refine CU (fT _ _) ?_)
 |(with_reducible refine CU (fE _ _) ?_)
 |(with_reducible first|refine aX fun hc=>?_|refine aY fun hc=>?_|refine aZ (fun hc=>?_) fun hc=>?_)<;>(try simp only[hc,bs,↓reduceIte]at h)<;>try simp only[hc]
 |(with_reducible refine aB hQ ?_;(try cases h);simp only[aR,aS,bo,bp,go_sem,hC,hE,hM,hY,x1,x2,b1,b3,b5,nb,bv];try exact bS)
 | (cases h;done))
   (refine gV hQ ?_;simp only[aR,aS,bo,bp,go_sem])
   exact⟨rfl,y3,⟨_,wh⟩,h3.sub nJ⟩
  ·rw [if_neg (by simp [bv])]at hQ
   repeat' (first
 |simp only[go_sem,hC,hE,hM,hY,x1,x2,b1,b3,b5,nb,bv]
 |(with_reducible refine CU (fT _ _) ?_)
 |(with_reducible refine CU (fE _ _) ?_)
 |(with_reducible first|refine aX fun hc=>?_|refine aY fun hc=>?_|refine aZ (fun hc=>?_) fun hc=>?_)<;>(try simp only[hc,bs,↓reduceIte]at h)<;>try simp only[hc]
 |(with_reducible refine aB hQ ?_;(try cases h);simp only[aR,aS,bo,bp,go_sem,hC,hE,hM,hY,x1,x2,b1,b3,b5,nb,bv];try exact bS)
 | (cases h;done))
   (refine gV hQ ?_;simp only[aR,aS,bo,bp,go_sem])
   exact⟨rfl,y3,⟨_,wh⟩,h3.sub nJ⟩
 rw[if_neg (by simp[b5])]at hQ
 rcases Bool.eq_false_or_eq_true (it.s.kind==6)with b6|b6
 ·rw [if_pos b6]at hQ
  rcases Bool.eq_false_or_eq_true (v==0)with bv|bv
  ·rw [if_pos bv]at hQ
   repeat' (first
 |simp only[go_sem,hC,hE,hM,hY,x1,x2,b1,b3,b5,b6,nb,bv]
 |(with_reducible refine CU (fT _ _) ?_)
 |(with_reducible refine CU (fE _ _) ?_)
 |(with_reducible first|refine aX fun hc=>?_|refine aY fun hc=>?_|refine aZ (fun hc=>?_) fun hc=>?_)<;>(try simp only[hc,bs,↓reduceIte]at h)<;>try simp only[hc]
 |(with_reducible refine aB hQ ?_;(try cases h);simp only[aR,aS,bo,bp,go_sem,hC,hE,hM,hY,x1,x2,b1,b3,b5,b6,nb,bv];try exact bS)
 | (cases h;done))
   (refine gV hQ ?_;simp only[aR,aS,bo,bp,go_sem])
   exact⟨rfl,y3,⟨_,wh⟩,h3.sub nJ⟩
  ·rw [if_neg (by simp [bv])]at hQ
   repeat' (first
 |simp only[go_sem,hC,hE,hM,hY,x1,x2,b1,b3,b5,b6,nb,bv]
 |(with_reducible refine CU (fT _ _) ?_)
 |(with_reducible refine CU (fE _ _) ?_)
 |(with_reducible first|refine aX fun hc=>?_|refine aY fun hc=>?_|refine aZ (fun hc=>?_) fun hc=>?_)<;>(try simp only[hc,bs,↓reduceIte]at h)<;>try simp only[hc]
 |(with_reducible refine aB hQ ?_;(try cases h);simp only[aR,aS,bo,bp,go_sem,hC,hE,hM,hY,x1,x2,b1,b3,b5,b6,nb,bv];try exact bS)
 | (cases h;done))
   (refine gV hQ ?_;simp only[aR,aS,bo,bp,go_sem])
   exact⟨rfl,y3,⟨_,wh⟩,h3.sub nJ⟩
 rw[if_neg (by simp[b6])]at hQ
 repeat' (first
 |simp only[go_sem,hC,hE,hM,hY,x1,x2,b1,b3,b5,b6]
 |(with_reducible first|refine aX fun hc=>?_|refine aY fun hc=>?_|refine aZ (fun hc=>?_) fun hc=>?_)<;>(try simp only[hc,bs,↓reduceIte]at h)<;>try simp only[hc]
 |(with_reducible refine aB hQ ?_;(try cases h);simp only[aR,aS,bo,bp,go_sem,hC,hE,hM,hY,x1,x2,b1,b3,b5,b6];try exact bS)
 |(cases h;done))
 (refine gV hQ ?_;simp only[aR,aS,bo,bp,go_sem])
 exact⟨rfl,y3,⟨_,wh⟩,h3.sub nJ⟩
end
end Go.Abs
namespace Go.Abs
set_option maxRecDepth 8000
open Go.Proofs
section
variable {p:Pg} {T W:List Int} {y:Lay} {m:Mc} {loc:List (Nat×List D)} {s:St}
theorem Ei : ∀ (l:List Ar) (m:Mc) (out:List Nat),(Mc.args l m out).2.out=m.out∧(Mc.args l m out).2.trace=m.trace
 | [],m,out=>⟨rfl,rfl⟩
 | a::l,m,out=>by
  have hw:=jR m a.x
  simp only[Mc.args]
  by_cases c:a.ref=true
  ·rw[if_pos c];exact Ei l m _
  ·rw [if_neg c]
   by_cases c2:(m.bU a.x).1.2=true
   ·rw [if_pos c2]
    obtain⟨h1,h2⟩:=Ei l {(m.bU a.x).2 with mem:=(m.bU a.x).2.mem++ [(m.bU a.x).1.1]} (out++ [(m.bU a.x).2.mem.length])
    exact⟨h1.trans hw.2.2.2.2.1,h2.trans hw.2.2.2.2.2⟩
   ·rw[if_neg c2];exact⟨hw.2.2.2.2.1,hw.2.2.2.2.2⟩
structure UH (p:Pg) (fr:Fr) (v:Sm):Prop where
 said:v.nE
 args : ∀ a∈v.args,a.x.texts∧a.x.size<1000000∧(a.ref=true→∃ k,wi fr a.name k)
 proc : ∃ (j:Nat) (q:Pc),p.at v.proc=(j:Int)∧p.procs[j]? = some q∧p.find q.name=some q
theorem UI (hp:p.jc) (X1:p.may=true) (h:Inv p T W y m loc s) {fr:Fr} {r:List Fr} (ht:mT m fr r) (hz:Jr p T W m) (hg:p.globals.length≤m.mem.length) {v:Sm} (hd:UH p fr v) :
 bL Tryz.prog ph [.ptr 0 0, .agg (bb v)] s (Rl p T W (.int .i64 (m.call p W v).1) (m.call p W v).2 (fun _=>True) loc):=by
 have h1:=h.new (bb v)
 have JP:2≤s.aw.length:=by have:=(List.getElem?_eq_some_iff.1 h.t1).1;omega
 generalize hn:s.ah.length=n at h1
 generalize Nb:s.aw.length=tk at JP
 have As:v.args.length<1000000:=by have:=hd.said.2.2;have:=Ar.eo v.args;omega
 have aAO:=ht.st
 refine bL.uM zF rfl fun B Q hB hQ=>?_
 have⟨hC,hE,hM,hY⟩:=bE
 have loop : ∀ (rest:List Ar) (k:Nat) (m1:Mc) (out:List Nat) (y1:Lay) (s1:St),v.args.drop k=rest→Mc.args v.args m [] = Mc.args rest m1 out→m1.st=m.st→m1.trace=m.trace∧m1.out=m.out→m.mem.length≤m1.mem.length→out.length=k∧k≤v.args.length→(∀ c∈out,c<m1.mem.length)→
  Inv p T W y1 m1 ((n,bb v)::loc) s1→s1.aw[tk]? = some (some out.length)→
  bg Tryz.prog B 67 QEW (iH 0 (kO (gF Tryz.prog B 67 QFB Q) Q))
   [(0, .ptr 0 0),(3, .ptr n 0),(5, .slice (.tok tk) 1 (out.map fun c=>fk (y1.κ.getD c 0))),(12, .slice .shared 6 (v.args.map eG)),(13, .int .i64 (v.args.length:Int)),(14, .int .i64 (k:Int))] s1:=by
  intro rest
  induction rest with
  | nil=>
   intro k m1 out y1 s1 Nw nF Ai Be vU rn pU h2 X2
   have hC:=drop_nil Nw
   have BR:mT m1 fr r:=⟨by rw[Ai];exact ht.st,ht.len,ht.names,ht.vars⟩
   obtain⟨so,g,cells,o,e1,e2,e3,e4,e5⟩:=h2.XV BR.st
   have jO:=h2.jT
   rw[fx,e1]at jO
   have tS:=(h2.loc (n,bb v) (by simp)).1
   have lh:=h2.uO
   have Hn:m.call p W v=if m1.st.length > 100 then(-1,{m1 with fin:=5})else(m1.event W v.id []).open p (p.at v.proc) out v.id:=by
    unfold Mc.call
    rw[nF]
    rfl
   have hlen:m1.st.length=r.length+1:=by rw[BR.st];rfl
   rw[Hn,hlen]at hQ
   simp only at tS
   refine bg.kB ?_
   by_cases WS:r.length+1 > 100
   ·have FV:decide (((r.length+1:Nat):Int) > 100)=true:=by simp;omega
    rw[if_pos WS]at hQ
    have h3:=h2.ua (m':= {m1 with fin:=5}) rfl rfl h2.t0 h2.t1
    rw[fx,e1]at h3
    simp only at h3
    repeat' (first
 |simp only[go_sem,hC,hE,hM,hY,jO,tS,FV,lh]
 |(with_reducible first|refine aX fun hc=>?_|refine aY fun hc=>?_|refine aZ (fun hc=>?_) fun hc=>?_)<;>(try simp only[hc,bs,↓reduceIte]at h)<;>try simp only[hc]
 |(with_reducible refine aB hQ ?_;(try cases h);simp only[aR,aS,bo,bp,go_sem,hC,hE,hM,hY,jO,tS,FV,lh];try exact bS)
 | (cases h;done))
    (refine gV hQ ?_;simp only[aR,aS,bo,bp,go_sem])
    exact⟨rfl,y1,trivial,h3.sub fun q mq=>List.mem_cons_of_mem _ mq⟩
   ·have FV:decide (((r.length+1:Nat):Int) > 100)=false:=by simp;omega
    rw[if_neg WS]at hQ
    have c1:=wg h2 hz.W (by rw[Be.1];exact hz.trace) v.id
    repeat' (first
 |simp only[go_sem,hC,hE,hM,hY,jO,tS,FV,lh]
 |(with_reducible first|refine aX fun hc=>?_|refine aY fun hc=>?_|refine aZ (fun hc=>?_) fun hc=>?_)<;>(try simp only[hc,bs,↓reduceIte]at h)<;>try simp only[hc]
 |(with_reducible refine aB hQ ?_;(try cases h);simp only[aR,aS,bo,bp,go_sem,hC,hE,hM,hY,jO,tS,FV,lh];try exact bS)
 | (cases h;done))
    refine CR c1 fun d s3 h3=>?_
    obtain⟨rfl,y3,rfl,h3⟩:=h3
    have he:=fJ W m1 v.id []
    obtain⟨j,q,j1,j2,j3⟩:=hd.proc
    obtain⟨y4,s4,hF,h4⟩:=N0 h3 hp X1 j2 j3 (by rw[he.1,hlen];have:=ht.len;omega) (l:=out) (by rw[he.2.1];exact pU) (by omega) (by rw[he.2.1];omega) v.id
    have hF':=fun g:Tag=>bL.mA (.cons (Wk.refl _) (.cons (Wk.refl _) (.cons (Wk.shared g 1 _) (jz.refl _)))) hF
    have hF2:az Tryz.prog jq [.ptr 0 0, .int .i64 (j:Int), .slice (.tok tk) 1 (out.map fun c=>fk (y3.κ.getD c 0)), .int .i64 v.id] s3 _ s4:=hF' _
    have cP:=fun s=>Fl (p:=p) (by have:=hp.procs.1;omega) v.proc s
    have ox:=h3.jT
    rw[fx]at ox
    have hx3:=(h3.loc (n,bb v) (by simp)).1
    simp only at hx3
    rw[j1]at hQ cP
    repeat' (first
 |simp only[go_sem,hC,hE,hM,hY,ox,hx3]
 |(with_reducible refine CU (cP _) ?_)
 |(with_reducible refine CU (hF2) ?_)
 |(with_reducible first|refine aX fun hc=>?_|refine aY fun hc=>?_|refine aZ (fun hc=>?_) fun hc=>?_)<;>(try simp only[hc,bs,↓reduceIte]at h)<;>try simp only[hc]
 |(with_reducible refine aB hQ ?_;(try cases h);simp only[aR,aS,bo,bp,go_sem,hC,hE,hM,hY,ox,hx3];try exact bS)
 | (cases h;done))
    (refine gV hQ ?_;simp only[aR,aS,bo,bp,go_sem])
    exact⟨rfl,y4,trivial,h4.sub fun q mq=>List.mem_cons_of_mem _ mq⟩
  | cons a rest ih=>
   intro k m1 out y1 s1 Nw nF Ai Be vU rn pU h2 X2
   obtain⟨hE,g2,hC,g4⟩:=drop_cons Nw
   have cp:k<4611686018427387904:=by omega
   obtain⟨a1,a2,a3⟩:=hd.args a (List.mem_of_getElem? hE)
   have BR:mT m1 fr r:=⟨by rw[Ai];exact ht.st,ht.len,ht.names,ht.vars⟩
   have h3:=h2.new (eG a)
   have zq : ∀ z:List D,(s1.ah++ [z]).set s1.ah.length (eG a)=s1.ah++ [eG a]:=fun z=>by simp
   have zg : ∀ z:List D,(s1.ah++ [z])[s1.ah.length]? = some z:=fun z=>by simp
   have eU : ∀ (x:Nat) (os:List (List D)),gw 1 8 (.slice (.tok tk) 1 (out.map fun c=>fk (y1.κ.getD c 0))) (.slice .full 1 [[.ptr x 0]]) ⟨os,s1.aw⟩=some (.slice (.tok tk) 1 ((out.map fun c=>fk (y1.κ.getD c 0))++ [fk x]),⟨os,s1.aw.set tk (some (out.length+1))⟩):=fun x os=>by
    rw[pf (size:=1) (by simp only[List.length_map,List.length_singleton];unfold bA;omega) (by simpa using X2)]
    simp[fk]
   have Ej : ∀ k':Nat,(s1.aw.set tk (some k'))[0]? = s1.aw[0]? ∧(s1.aw.set tk (some k'))[1]? = s1.aw[1]? ∧(s1.aw.set tk (some k'))[tk]? = some (some k'):=fun k'=>
    ⟨List.getElem?_set_ne (by omega),List.getElem?_set_ne (by omega),by simp[(List.getElem?_eq_some_iff.1 X2).1]⟩
   refine bg.kB ?_
   rcases Bool.eq_false_or_eq_true a.ref with b|b
   ·obtain⟨c,hc⟩:=a3 b
    have LW:=hc.cell BR.top
    obtain⟨j,hj,Ce⟩:=hc
    have c1:=CS h3 BR.st BR.len BR.names hj Ce
    obtain⟨hκ,v0,gm,_⟩:=cell_of h2 BR.st Ce
    have Am:=(List.getElem?_eq_some_iff.1 gm).1
    repeat' (first
 |simp only[go_sem,hC,hE,hM,hY,hE,zq,zg,b,eU]
 |(with_reducible refine CU (c1) ?_)
 |(with_reducible first|refine aX fun hc=>?_|refine aY fun hc=>?_|refine aZ (fun hc=>?_) fun hc=>?_)<;>(try simp only[hc,bs,↓reduceIte]at h)<;>try simp only[hc]
 |(with_reducible refine aB hQ ?_;(try cases h);simp only[aR,aS,bo,bp,go_sem,hC,hE,hM,hY,hE,zq,zg,b,eU];try exact bS)
 | (cases h;done))
    have:=ih (k+1) m1 (out++ [c]) y1 ⟨s1.ah++ [eG a],s1.aw.set tk (some (out.length+1))⟩ g2 (by rw[nF];simp only[Mc.args,b,if_true,LW]) Ai Be vU ⟨by simp[rn.1],g4⟩ (fun x mx=>by
     rcases List.mem_append.1 mx with mx|mx
     ·exact pU x mx
     ·rw[List.mem_singleton.1 mx];exact Am) ((h3.sub fun q mq=>List.mem_cons_of_mem _ mq).keep (fun _ _ e=>e) (Ej _).1 (Ej _).2.1) (by simpa using (Ej _).2.2)
    refine bg.pZ ?_ this
    simp only[go_sem,aL cp,List.map_append,List.map_cons,List.map_nil]
    repeat' (first|exact Ok.out|with_reducible refine eP ?_ ?_)
   ·have c1:=Ee h3 BR a2 a1
    repeat' (first
 |simp only[go_sem,hC,hE,hM,hY,hE,zq,zg,b]
 |(with_reducible first|refine aX fun hc=>?_|refine aY fun hc=>?_|refine aZ (fun hc=>?_) fun hc=>?_)<;>(try simp only[hc,bs,↓reduceIte]at h)<;>try simp only[hc]
 |(with_reducible refine aB hQ ?_;(try cases h);simp only[aR,aS,bo,bp,go_sem,hC,hE,hM,hY,hE,zq,zg,b];try exact bS)
 | (cases h;done))
    refine CR c1 fun d s2 h4=>?_
    obtain⟨⟨rfl,y2,wh,h4⟩,vx⟩:=h4
    have hw:=jR m1 a.x
    simp only at vx
    rcases Bool.eq_false_or_eq_true (m1.bU a.x).1.2 with bw|bw
    ·have UF:(m1.bU a.x).2=m1:=by
      unfold Mc.bU
      dsimp only
      rw[if_pos (show(a.x.bU m1.top.names m1.dj).2=true from bw)]
     rw[UF]at h4
     have yq : ∀ z:List D,(s2.ah++ [z]).set s2.ah.length [.int .i64 (m1.bU a.x).1.1] = s2.ah++ [[.int .i64 (m1.bU a.x).1.1]]:=fun z=>by simp
     have yg : ∀ z:List D,(s2.ah++ [z])[s2.ah.length]? = some z:=fun z=>by simp
     rw[← vx]at eU Ej
     have h5:=h4.as7 (m1.bU a.x).1.1 (by omega)
     have hyκ:y2.κ=y1.κ:=by rw[wh]
     have aiS:y1.κ.length=m1.mem.length:=h2.len
     repeat' (first
 |simp only[go_sem,hC,hE,hM,hY,bw,yq,yg,eU]
 |(with_reducible first|refine aX fun hc=>?_|refine aY fun hc=>?_|refine aZ (fun hc=>?_) fun hc=>?_)<;>(try simp only[hc,bs,↓reduceIte]at h)<;>try simp only[hc]
 |(with_reducible refine aB hQ ?_;(try cases h);simp only[aR,aS,bo,bp,go_sem,hC,hE,hM,hY,bw,yq,yg,eU];try exact bS)
 | (cases h;done))
     have:=ih (k+1) {m1 with mem:=m1.mem++ [(m1.bU a.x).1.1]} (out++ [m1.mem.length]) {y2 with κ:=y2.κ++ [s2.ah.length]} ⟨s2.ah++ [[.int .i64 (m1.bU a.x).1.1]],s2.aw.set tk (some (out.length+1))⟩ g2
      (by rw [nF];simp only [Mc.args,b,Bool.false_eq_true,if_false,bw,if_true,UF]) Ai Be (by simp;omega) ⟨by simp [rn.1],g4⟩ (fun x mx=>by
       simp only[List.length_append,List.length_singleton]
       rcases List.mem_append.1 mx with mx|mx
       ·have:=pU x mx;omega
       ·rw[List.mem_singleton.1 mx];omega) ((h5.sub fun q mq=>List.mem_cons_of_mem _ mq).keep (fun _ _ e=>e) (Ej _).1 (Ej _).2.1) (by simpa using (Ej _).2.2)
     refine bg.pZ ?_ this
     have atf:(out.map fun c=>fk ((y2.κ++ [s2.ah.length]).getD c 0))=out.map fun c=>fk (y1.κ.getD c 0):=List.map_congr_left fun c mc=>by rw[hyκ,Eg (by have:=pU c mc;omega)]
     have dv:(y2.κ++ [s2.ah.length]).getD m1.mem.length 0=s2.ah.length:=by rw[hyκ, ← aiS];simp[List.getD_eq_getElem?_getD]
     simp only[go_sem,aL cp,List.map_append,List.map_cons,List.map_nil,atf,dv]
     repeat' (first|exact Ok.out|with_reducible refine eP ?_ ?_)
    ·repeat' (first
 |simp only[go_sem,hC,hE,hM,hY,bw]
 |(with_reducible first|refine aX fun hc=>?_|refine aY fun hc=>?_|refine aZ (fun hc=>?_) fun hc=>?_)<;>(try simp only[hc,bs,↓reduceIte]at h)<;>try simp only[hc]
 |(with_reducible refine aB hQ ?_;(try cases h);simp only[aR,aS,bo,bp,go_sem,hC,hE,hM,hY,bw];try exact bS)
 |(cases h;done))
     (refine gV hQ ?_;simp only[aR,aS,bo,bp,go_sem])
     have Hn:m.call p W v=(-1,(m1.bU a.x).2):=by
      unfold Mc.call
      rw[nF]
      simp only[Mc.args,b,Bool.false_eq_true,if_false,bw]
     rw[Hn]
     exact⟨rfl,y2,trivial,h4.sub fun q mq=>List.mem_cons_of_mem _ (List.mem_cons_of_mem _ mq)⟩
 have hz0:(s.ah++ [bb v])[n]? = some (bb v):=by simp[← hn]
 have l0:=loop v.args 0 m [] y ⟨s.ah++ [bb v],s.aw++ [some 0]⟩ rfl rfl rfl ⟨rfl,rfl⟩ (Nat.le_refl _) ⟨rfl,Nat.zero_le _⟩ (by simp) (h1.aw _) (by simp[← Nb])
 repeat' (first
 |simp only[go_sem,hC,hE,hM,hY,hz0,hn]
 |(with_reducible first|refine aX fun hc=>?_|refine aY fun hc=>?_|refine aZ (fun hc=>?_) fun hc=>?_)<;>(try simp only[hc,bs,↓reduceIte]at h)<;>try simp only[hc]
 |(with_reducible refine aB hQ ?_;(try cases h);simp only[aR,aS,bo,bp,go_sem,hC,hE,hM,hY,hz0,hn];try exact bS)
 |(cases h;done))
 refine bg.p8 5 1 rfl ?_
 simp only[go_sem,hC,hE,hM,hY]
 refine bg.pZ ?_ l0
 simp only[go_sem,Nb,List.map_nil]
 repeat' (first|exact Ok.out|with_reducible refine eP ?_ ?_)
end
end Go.Abs
namespace Go.Abs
theorem X3 {v:Sm} (h:v.one=true) (hk:v.kind=1∨v.kind=2):v.name≠ []:=by
 intro e
 have hn:v.hasName=true:=by unfold Sm.hasName;rcases hk with hk|hk<;>simp[hk]
 unfold Sm.one at h
 split at h
 ·cases h
 ·rw [e,hn]at h
  simp[isName]at h
theorem Ia {v:Sm} (hk:v.kind≠10) (hn:v.name≠ []):v.name∈v.said:=by
 unfold Sm.said Sm.s7
 refine vb (.inl ?_)
 rw[if_pos (by simp[hk,hn])]
 simp
theorem Ag {name:aF} {f:Pc} : ∀ {l:List Pc},iY name l=some f→f.name=name
 |g::l,h=>by
  simp only[iY]at h
  split at h
  ·rename_i e;cases h;simpa using e
  ·exact Ag h
mutual
theorem agd : ∀ s:Sm,∀ v∈s.pre,v.size≤s.size
 | ⟨id,kind,labels,name,proc,x,has,args,bm,bd⟩,v,m=>by
  rw[Sm.qq]at m
  rcases List.mem_cons.1 m with rfl|m
  ·exact Nat.le_refl _
  ·simp only [Sm.size]
   rcases List.mem_append.1 m with m|m
   ·have:=CT bm v m;omega
   ·have:=CT bd v m;omega
theorem CT : ∀ l:List Sm,∀ v∈Sm.dr l,v.size≤Sm.bt l
 | [],v,m=>by simp[Sm.dr]at m
 |s::l,v,m=>by
  simp only[Sm.dr,List.mem_append]at m
  simp only[Sm.bt]
  rcases m with m|m
  ·have:=agd s v m;omega
  ·have:=CT l v m;omega
end
theorem G7 : ∀ l:List Sm,l.length≤Sm.bt l
 | []=>Nat.le_refl _
 |s::l=>by
  have:=G7 l
  have h1:1≤s.size:=by cases s;simp only[Sm.size];omega
  simp only[Sm.bt,List.length_cons];omega
section
variable {p:Pg} {m:Mc} {a:Int}
theorem LX (hO:p.jc) (h:pF p p.bh.L a m) (hl:m.st.length≤1000) : ∃ fr r f,mT m fr r∧p.procs[fr.proc.toNat]? = some f∧fr.names=p.globals++f.own∧fr.vars.length=fr.names.length∧m.top=fr:=by
 obtain⟨fr,r,e⟩:=h.st.ne
 have ht:m.top=fr:=by simp[Mc.top,e]
 obtain⟨f,h1,h2,h3,h4,h5⟩:=h.fr fr (by rw[e];exact List.mem_cons_self ..)
 have hf:=List.mem_of_getElem? h1
 have s1:=Pc.dg hf
 have s2:=hO.sz
 simp only[Pg.size]at s2
 have hn:fr.names.length<1000000:=by
  rw[h3]
  have s3:=hO.small hf
  simp only[Pc.size]at s1
  simp only[List.length_append,Pc.own,Pc.tN,List.length_map]
  have:=s3.par;have:=s3.vars
  omega
 rw[e]at hl
 exact⟨fr,r,f,⟨e,by simp at hl;omega,hn,by omega⟩,h1,h3,h4,ht⟩
theorem G8 {fr:Fr} (hv:fr.vars.length=fr.names.length) {n:aF} (hn:n∈fr.names) : ∃ k,wi fr n k:=by
 obtain⟨j,h1,h2⟩:=LO (k:=0) hn
 exact⟨_,j,by simpa using h1,List.getElem?_eq_getElem (by omega)⟩
theorem ab3 {fr:Fr} (h:pF p p.bh.L a m) (ht:m.top=fr) (hR:p.Right) (ha:a≠ -1) {f:Pc} (hf:p.procs[fr.proc.toNat]? = some f):Cb p p.bh.L (gj p.bh.L a) f∧(gj p.bh.L a).proc=fr.proc∧gj p.bh.L a∈p.bh.L∧
 ∃ c:Nat,a=(c:Int)+1∧p.bh.L[c]? = some (gj p.bh.L a):=by
 have hm:=h.at_.resolve_left ha
 have iR:=z6 (L:=p.bh.L) (.inr ⟨hm.1,hm.2.1⟩) ha
 obtain⟨f',o⟩:=(q8 hR).im _ iR
 have hp:(gj p.bh.L a).proc=fr.proc:=by rw[← ht];exact hm.2.2
 have:f'=f:=by have:=o.proc.1;rw[hp,hf]at this;exact(Option.some.inj this).symm
 subst this
 have h1:=hm.1
 have h2:=hm.2.1
 refine⟨o,hp,iR,(a - 1).toNat,by omega, ?_⟩
 unfold gj
 rw[List.getD_eq_getElem?_getD,List.getElem?_eq_getElem (show(a - 1).toNat<p.bh.L.length by omega)];rfl
theorem N1 (hO:p.jc) (hR:p.Right) {x:Im} {f:Pc} {fr:Fr} (hx:Cb p p.bh.L x f) (hn:fr.names=p.globals++f.own) (hv:fr.vars.length=fr.names.length):af7 p fr x:=by
 have hf:=List.mem_of_getElem? hx.proc.1
 have qd:x.s∈p.pre:=by
  simp only[Pg.pre,List.mem_flatten,List.mem_map];exact⟨_,⟨f,hf,rfl⟩,hx.mem⟩
 have ej:=CT f.body x.s hx.mem
 have s1:=Pc.dg hf
 have s2:=hO.sz
 simp only[Pg.size]at s2
 simp only[Pc.size]at s1
 have hs:Sm.bt x.s.bm+Sm.bt x.s.bd≤x.s.size:=by
  cases x with
  |mk s _ _ _ _=>cases s;simp only[Sm.size];omega
 refine⟨hO.said hf _ hx.mem,fun hk=>?_,fun hk=>?_,fun hk=>?_, ?_, ?_⟩
 ·have hl:=hx.loop (.inl hk)
  have h1:=hl.1
  have h2:=hl.2.1
  exact⟨(x.loop - 1).toNat,_,by omega,List.getElem?_eq_getElem (by omega)⟩
 ·obtain⟨i,hi⟩:=Int.eq_ofNat_of_zero_le hx.proc.2
  exact⟨i,f,hi,by have:=hx.proc.1;rwa [hi,Int.toNat_natCast]at this⟩
 ·refine G8 hv ?_
  rw[hn]
  exact z7 hR hx (Ia (by rcases hk with hk|hk<;>omega) (X3 (abp hR.may _ qd) hk))
 ·have:=G7 x.s.bm;omega
 ·have:=G7 x.s.bd;omega
theorem UJ (hO:p.jc) (hR:p.Right) {x:Im} {f:Pc} {fr:Fr} (hx:Cb p p.bh.L x f) (hk:x.s.kind=4) (hn:fr.names=p.globals++f.own) (hv:fr.vars.length=fr.names.length):UH p fr x.s:=by
 have hf:=List.mem_of_getElem? hx.proc.1
 have sh:=hO.said hf _ hx.mem
 have qd:x.s∈p.pre:=by
  simp only[Pg.pre,List.mem_flatten,List.mem_map];exact⟨_,⟨f,hf,rfl⟩,hx.mem⟩
 refine⟨sh,fun b mb=>⟨sh.2.1 b mb, ?_,fun hr=>?_⟩, ?_⟩
 ·have:=sh.2.2
  have key : ∀ l:List Ar,b∈l→b.x.size≤Ar.bt l:=fun l=>by
   induction l with
   |nil=>intro m;cases m
   |cons c l ih=>
    intro m
    simp only[Ar.bt]
    rcases List.mem_cons.1 m with rfl|m
    ·omega
    ·have:=ih m;omega
  have:=key _ mb
  omega
 ·refine G8 hv ?_
  rw[hn]
  exact z7 hR hx (vb (.inr ⟨b,mb,hr,rfl⟩))
 ·have jx:=hR.fits _ qd (by simp [hk])
  obtain⟨q,hq⟩:=H6 jx
  obtain⟨j,h1,h2⟩:=Jq (k:=0) hq
  exact⟨j,q,by simpa[Pg.at]using h1,h2,by rw[Ag hq];exact hq⟩
theorem Ry (hO:p.jc) (hR:p.Right) (h:pF p p.bh.L a m) (hl:m.st.length≤1000) {fr:Fr} {r:List Fr} (ht:mT m fr r) :
 fr.call=0∨∃ (c:Nat) (it:Im) (uN:Fr) (r2:List Fr),fr.call=(c:Int)+1∧p.bh.L[c]? = some it∧mT {m with st:=r} uN r2∧(it.s.name≠ []→∃ k,wi uN it.s.name k):=by
 have hs:=h.st
 have jV:=ht.st
 rw[jV]at hs
 cases r with
 |nil=>exact .inl hs
 | cons uN r2=>
  obtain⟨⟨h1,H2⟩,h2⟩:=hs
  have e1:=h1.1
  have e2:=h1.2.1
  refine .inr ⟨(fr.call - 1).toNat,gj p.bh.L fr.call,uN,r2,by omega, ?_, ?_,fun hn=>?_⟩
  ·unfold gj
   rw[List.getD_eq_getElem?_getD,List.getElem?_eq_getElem (show(fr.call - 1).toNat<p.bh.L.length by omega)];rfl
  ·have h3:pF p p.bh.L (-1) {m with st:=uN::r2}:=⟨h2,fun q hq=>h.fr q (by rw [jV];exact List.mem_cons_of_mem _ hq), .inl rfl,h.ux⟩
   obtain⟨NZ,r',f',t,_⟩:=LX hO h3 (by rw[jV]at hl;simp at hl ⊢;omega)
   have:=t.st
   cases this
   exact t
  ·obtain⟨f,g1,g2,g3,g4,g5⟩:=h.fr uN (by rw [jV];simp)
   have iR:gj p.bh.L fr.call∈p.bh.L:=z6 (.inr ⟨e1,e2⟩) (by omega)
   obtain⟨f',o⟩:=(q8 hR).im _ iR
   have:f'=f:=by have:=o.proc.1;rw[h1.2.2,g1]at this;exact(Option.some.inj this).symm
   subst this
   refine G8 g4 ?_
   rw[g3]
   exact z7 hR o (Ia (by omega) hn)
end
end Go.Abs
namespace Go.Abs
structure xU (m:Mc):Prop where
 steps:0≤m.steps
 trace:(m.trace.length:Int)≤m.steps
 out:(m.out.length:Int)≤m.steps
 reads:0≤m.reads∧m.reads≤m.steps
 st:m.st.length≤101
structure Cg (m m':Mc):Prop where
 trace:m'.trace.length≤m.trace.length+1
 out:m'.out.length≤m.out.length+1
 reads:m'.reads=m.reads∨m'.reads=m.reads+1
 steps:m'.steps=m.steps
theorem UK (W:List Int) (m:Mc) (id:Int) (dj:List Int):(m.event W id dj).trace.length≤m.trace.length+1:=by
 unfold Mc.event
 split<;>simp
theorem mn (W:List Int) (m:Mc) (id:Int) (dj:List Int):Cg m (m.event W id dj):=by
 have h:=fJ W m id dj
 exact⟨UK W m id dj,by rw[h.2.2.2.2.2];omega, .inl h.2.2.2.2.1,h.2.2.2.1⟩
theorem FW (m:Mc) (x:Ex):Cg m (m.bU x).2:=by
 have h:=jR m x
 exact⟨by rw[h.2.2.2.2.2];omega,by rw[h.2.2.2.2.1];omega, .inl h.2.2.2.1,h.2.2.1⟩
theorem Ib (p:Pg) (m:Mc) (i:Int) (l:List Nat) (c:Int):(m.open p i l c).2.trace=m.trace∧(m.open p i l c).2.out=m.out∧(m.open p i l c).2.reads=m.reads∧(m.open p i l c).2.steps=m.steps:=by
 unfold Mc.open
 split<;>exact⟨rfl,rfl,rfl,rfl⟩
theorem Ch : ∀ (l:List Ar) (m:Mc) (out:List Nat),(Mc.args l m out).2.reads=m.reads∧(Mc.args l m out).2.steps=m.steps
 | [],m,out=>⟨rfl,rfl⟩
 | a::l,m,out=>by
  have hw:=jR m a.x
  simp only[Mc.args]
  by_cases c:a.ref=true
  ·rw[if_pos c];exact Ch l m _
  ·rw [if_neg c]
   by_cases c2:(m.bU a.x).1.2=true
   ·rw [if_pos c2]
    obtain⟨h1,h2⟩:=Ch l {(m.bU a.x).2 with mem:=(m.bU a.x).2.mem++ [(m.bU a.x).1.1]} (out++ [(m.bU a.x).2.mem.length])
    exact⟨h1.trans hw.2.2.2.1,h2.trans hw.2.2.1⟩
   ·rw[if_neg c2];exact⟨hw.2.2.2.1,hw.2.2.1⟩
theorem UL (p:Pg) (W:List Int) (m:Mc) (v:Sm):Cg m (m.call p W v).2∧((m.call p W v).2.st.length≤m.st.length∨(m.call p W v).2.st.length≤101):=by
 have h1:=Ei v.args m []
 have h2:=Ch v.args m []
 have h3:=(yZ v.args m []).1
 unfold Mc.call
 generalize Mc.args v.args m [] = r at *
 obtain⟨o,m1⟩:=r
 dsimp only at h1 h2 h3
 cases o with
 |none=>exact⟨⟨by simp[h1.2],by simp[h1.1], .inl h2.1,h2.2⟩, .inl (by simp[h3])⟩
 | some l=>
  dsimp only
  by_cases c:m1.st.length > 100
  ·rw[if_pos c];exact⟨⟨by simp[h1.2],by simp[h1.1], .inl h2.1,h2.2⟩, .inl (by simp[h3])⟩
  ·rw [if_neg c]
   have e1:=mn W m1 v.id []
   have e2:=Ib p (m1.event W v.id []) (p.at v.proc) l v.id
   have e3:=(CO p (m1.event W v.id []) (p.at v.proc) l v.id).1
   have e4:=(fJ W m1 v.id []).1
   refine⟨⟨by rw[e2.1, ← h1.2];exact e1.trace,by rw[e2.2.1, ← h1.1];exact e1.out, ?_,by rw[e2.2.2.2,e1.steps,h2.2]⟩, .inr (by rw[e4]at e3;omega)⟩
   rw[e2.2.2.1, ← h2.1];exact e1.reads
theorem Rz (W:List Int) (m:Mc) (v:Sm):Cg m (m.ju W v).2:=by
 have hw:=jR m v.x
 unfold Mc.ju
 split
 ·dsimp only
  split
  ·have e:=mn W (m.bU v.x).2 v.id [(m.bU v.x).1.1]
   exact⟨by rw[← hw.2.2.2.2.2];exact e.trace,by rw[← hw.2.2.2.2.1];exact e.out,by rw[← hw.2.2.2.1];exact e.reads,e.steps.trans hw.2.2.1⟩
  ·exact FW m v.x
 ·exact mn W m v.id []
theorem ab4 (p:Pg) (L:List Im) (T W:List Int) (m:Mc) (it:Im):Cg m (m.do p L T W it).2:=by
 have hw:=jR m it.s.x
 unfold Mc.do
 dsimp only
 split
 ·exact mn W m _ _
 split
 ·exact mn W m _ _
 split
 ·exact mn W m _ _
 split
 ·split
  ·exact⟨by simp,by simp, .inl rfl,rfl⟩
  ·rename_i n _
   have e:=mn W (({m with reads:=m.reads+1} : Mc).set it.s.name n) it.s.id [n]
   have e2:=(fJ W (({m with reads:=m.reads+1} : Mc).set it.s.name n) it.s.id [n])
   exact⟨e.trace,e.out, .inr e2.2.2.2.2.1,e2.2.2.2.1⟩
 split
 ·have e:=mn W (m.bU it.s.x).2 it.s.id [(m.bU it.s.x).1.1]
  have e2:=fJ W (m.bU it.s.x).2 it.s.id [(m.bU it.s.x).1.1]
  have k:Cg m ((m.bU it.s.x).2.event W it.s.id [(m.bU it.s.x).1.1]):=⟨by rw[← hw.2.2.2.2.2];exact e.trace,by rw[← hw.2.2.2.2.1];exact e.out,by rw[← hw.2.2.2.1];exact e.reads,e.steps.trans hw.2.2.1⟩
  split
  ·exact⟨k.trace,k.out,k.reads,k.steps⟩
  split
  ·exact⟨k.trace,by simp[e2.2.2.2.2.2,hw.2.2.2.2.1],k.reads,k.steps⟩
  split
  ·exact k
  split
  ·exact k
  ·exact k
 ·exact FW m it.s.x
theorem FX (L:List Im) (m:Mc) (g:Int):(m.close L g).2.trace=m.trace∧(m.close L g).2.out=m.out∧(m.close L g).2.reads=m.reads∧(m.close L g).2.steps=m.steps∧(m.close L g).2.st=m.st.tail:=by
 unfold Mc.close
 dsimp only
 split
 ·exact⟨rfl,rfl,rfl,rfl,rfl⟩
 ·split<;>exact⟨rfl,rfl,rfl,rfl,rfl⟩
theorem xU.less {m m1:Mc} (h:xU m) (k:Cg {m with steps:=m.steps+1} m1) (hs:m1.st.length≤101):xU m1:=by
 have h1:=h.steps;have h2:=h.trace;have h3:=h.out;have h4:=h.reads
 have k1:=k.trace;have k2:=k.out;have k3:=k.reads;have k4:=k.steps
 dsimp only at k1 k2 k3 k4
 exact⟨by omega,by omega,by omega,by omega,hs⟩
theorem xU.close {L:List Im} {m:Mc} (h:xU m) (g:Int):xU (m.close L g).2:=by
 obtain⟨h1,h2,h3,h4,h5⟩:=FX L m g
 exact⟨by rw[h4];exact h.steps,by rw[h1,h4];exact h.trace,by rw[h2,h4];exact h.out,by rw[h3,h4];exact h.reads,by rw[h5];have:=h.st;simp;omega⟩
theorem xU.run {p:Pg} {T W:List Int} {m:Mc} (h:xU m) (hs:m.steps≤1000000) (hO:p.jc) (hW:W.length<1000000) (hT:T.length<1000000):Jr p T W m:=by
 obtain⟨sf,r5,rZ⟩:=hO.procs
 have:=pB p
 have h2:=h.trace;have h3:=h.out;have h4:=h.reads
 exact⟨hW,hT,by omega,by omega,by omega,by omega,by omega⟩
end Go.Abs
