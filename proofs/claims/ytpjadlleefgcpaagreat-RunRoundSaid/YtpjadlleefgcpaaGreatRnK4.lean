/-
  What is proved here: part 4 of the road to the claim (RunI, Ev1, Ev2, Cp1, RunC0, RunC1, RunC2, RunC3, RunC4, RunC5, RunC6, RunC7, RunSt, RunSz, Jm3, Rj1, Ck1, RunC8, RunC9, RunL0, RunL1, RunTp, RunEv, RunWa, RunL2, LawRu2, MayLaw, MirNum, MayLaw2, MayLaw3, SubP, RunBi, RunLk, RunLk2, Cp2, Cp3, Nb1, Nb2, Nb3, Nb4, LsP, RunMv, RtLike).
  No conditions.
-/
import Derived.Test.YtpjadlleefgcpaaGreatRnK3

set_option linter.unusedSimpArgs false
set_option linter.unusedVariables false
namespace Go.Abs
structure Lay where
 κ:List Nat
 φ:List Nat
 sd:D
 vd:D
def D.arr:D→List Nat
 | .dH _ o _ _=> [o]
 |_=> []
def Lay.own (y:Lay):List Nat:=0::(y.κ++(y.sd.arr++y.vd.arr))
def gy (o:Nat):List D:= [.ptr o 0]
def qW (κ:List Nat) (f:Fr):List D:= [.int .i64 f.proc, .slice .shared 1 (f.names.map encStr), .slice .shared 1 (f.vars.map fun c=>gy (κ.getD c 0)), .int .i64 f.call]
def pR (e:Int×List Int):List D:= [.int .i64 e.1, .slice .shared 1 (e.2.map cB)]
abbrev gh (p:Pg) (T W:List Int) (y:Lay) (m:Mc):List D:=
 [.dN (gp p) 0, .slice .shared 1 ((y.κ.take p.globals.length).map gy), .slice .shared 1 (T.map cB), .slice .shared 1 (W.map cB),y.sd,y.vd,
  .int .i64 m.fin, .int .i64 m.steps, .int .i64 m.reads, .slice (.tok 0) 1 (m.out.map cB), .slice (.tok 1) 2 (m.trace.map pR)]
def sJ (n:Int):D:= .int .i64 n
def Am (o:Nat):D:= .ptr o 0
def kN (s:St) (d:D) (cs:List D):Prop:=(d = .fk 1∧cs = [])∨∃ o g more,d = .dH 1 o g cs.length∧s.aj[o]? = some (.int .i64 ((g:Nat):Int)::(cs++more))
structure Inv (p:Pg) (T W:List Int) (y:Lay) (m:Mc) (loc:List (Nat×List D)) (s:St):Prop where
 kO:s.aj[0]? = some (gh p T W y m)
 t0:s.az[0]? = some (some m.out.length)
 t1:s.az[1]? = some (some m.trace.length)
 len:y.κ.length=m.mem.length
 cell : ∀ (i c:Nat) (v:Int),y.κ[i]? = some c→m.mem[i]? = some v→s.aj[c]? = some [.int .i64 v]
 uY:y.φ.length=m.st.length
 frame : ∀ (i o:Nat) (fr:Fr),y.φ[i]? = some o→m.st[i]? = some fr→s.aj[o]? = some (qW y.κ fr)∧o∉y.own∧∀ c∈fr.vars,c<m.mem.length
 stack:kN s y.sd (y.φ.reverse.map Am)
 bD : ∃ l:List Int,kN s y.vd (l.map sJ)
 own:y.own.Nodup
 loc : ∀ q∈loc,s.aj[q.1]? = some q.2∧q.1∉y.own
theorem kN.lt {s:St} {d:D} {cs:List D} (h:kN s d cs) : ∀ o∈d.arr,o<s.aj.length:=by
 rcases h with ⟨rfl,_⟩|⟨o,g,more,rfl,h⟩
 ·intro o m;simp[D.arr]at m
 ·intro o' m
  have:o'=o:=by simpa[D.arr]using m
  subst this;exact ie h
theorem kN.keep {s s':St} {d:D} {cs:List D} (h:kN s d cs) (k : ∀ o∈d.arr,s'.aj[o]? = s.aj[o]?):kN s' d cs:=by
 rcases h with h|⟨o,g,more,rfl,h⟩
 ·exact .inl h
 ·exact .inr ⟨o,g,more,rfl,by rw[k o (by simp[D.arr])];exact h⟩
theorem KS {κ e:List Nat} {fr:Fr} (h : ∀ c∈fr.vars,c<κ.length):qW (κ++e) fr=qW κ fr:=by
 unfold qW
 rw[List.map_congr_left (g:=fun c=>gy (κ.getD c 0)) fun c m=>by rw[List.getD_eq_getElem?_getD,List.getD_eq_getElem?_getD,List.getElem?_append_left (h c m)]]
section
variable {p:Pg} {T W:List Int} {y:Lay} {m:Mc} {loc:List (Nat×List D)} {s:St}
theorem Inv.vY (h:Inv p T W y m loc s) : ∀ o∈y.own,o<s.aj.length:=by
 intro o mo
 simp only[Lay.own,List.mem_cons,List.mem_append]at mo
 rcases mo with rfl|mo|mo|mo
 ·exact ie h.kO
 ·obtain⟨i,hi⟩:=List.getElem?_of_mem mo
  have hD:=(List.getElem?_eq_some_iff.1 hi).1
  exact ie (h.cell i o _ hi (List.getElem?_eq_getElem (by rw[← h.len];exact hD)))
 ·exact h.stack.lt o mo
 ·obtain⟨l,hl⟩:=h.bD
  exact hl.lt o mo
theorem Inv.wT (h:Inv p T W y m loc s):0<s.aj.length:=ie h.kO
theorem Inv.sub (h:Inv p T W y m loc s) {aiY:List (Nat×List D)} (hl : ∀ q∈aiY,q∈loc):Inv p T W y m aiY s:= {h with loc:=fun q m=>h.loc q (hl q m)}
theorem Inv.keep (h:Inv p T W y m loc s) {s':St} (k : ∀ (o:Nat) (r:List D),s.aj[o]? = some r→s'.aj[o]? = some r) (k0:s'.az[0]? = s.az[0]?) (k1:s'.az[1]? = s.az[1]?):Inv p T W y m loc s':=by
 have ka : ∀ {d:D} {cs:List D},kN s d cs→kN s' d cs:=fun ha=>ha.keep fun o mo=>by
  rw[List.getElem?_eq_getElem (ha.lt o mo)];exact k o _ (List.getElem?_eq_getElem _)
 obtain⟨l,hl⟩:=h.bD
 exact⟨k _ _ h.kO,by rw[k0];exact h.t0,by rw[k1];exact h.t1,h.len,fun i c v h1 h2=>k _ _ (h.cell i c v h1 h2),h.uY,fun i o fr h1 h2=>⟨k _ _ (h.frame i o fr h1 h2).1,(h.frame i o fr h1 h2).2⟩,
  ka h.stack,⟨l,ka hl⟩,h.own,fun q m=>⟨k _ _ (h.loc q m).1,(h.loc q m).2⟩⟩
theorem Inv.new (h:Inv p T W y m loc s) (row:List D):Inv p T W y m ((s.aj.length,row)::loc) ⟨s.aj++ [row],s.az⟩:=by
 have h':=h.keep (s':=⟨s.aj++ [row],s.az⟩) (fun o r e=>by rw[List.getElem?_append_left (ie e)];exact e) rfl rfl
 refine {h' with loc:=fun q mq=>?_}
 rcases List.mem_cons.1 mq with rfl|mq
 ·exact⟨by simp,fun mo=>Nat.lt_irrefl _ (h.vY _ mo)⟩
 ·exact h'.loc q mq
theorem Inv.az (h:Inv p T W y m loc s) (ts:List (Option Nat)):Inv p T W y m loc ⟨s.aj,s.az++ts⟩:=
 h.keep (fun _ _ e=>e) (List.getElem?_append_left (List.getElem?_eq_some_iff.1 h.t0).1) (List.getElem?_append_left (List.getElem?_eq_some_iff.1 h.t1).1)
theorem Inv.Rh (h:Inv p T W y m loc s) {o:Nat} (ho:o∈y.own) (row:List D) {q:Nat} {r:List D} (hq:s.aj[q]? = some r) (hn:q≠o):(s.aj.set o row)[q]? = some r:=by
 rw[List.getElem?_set_ne (Ne.symm hn)];exact hq
theorem Inv.yh (h:Inv p T W y m loc s) {o:Nat} (ho:o∈y.κ++(y.sd.arr++y.vd.arr)):o≠0:=fun e=>by
 have:=h.own
 rw[Lay.own,List.nodup_cons]at this
 exact this.1 (e ▸ ho)
theorem Inv.wi (h:Inv p T W y m loc s) {m':Mc} (h1:m'.st=m.st) (h2:m'.mem=m.mem) {ts:List (Option Nat)} (k0:ts[0]? = some (some m'.out.length)) (k1:ts[1]? = some (some m'.trace.length)) :
 Inv p T W y m' loc ⟨s.aj.set 0 (gh p T W y m'),ts⟩:=by
 have ne : ∀ {q:Nat} {r:List D},s.aj[q]? = some r→q≠0→(s.aj.set 0 (gh p T W y m'))[q]? = some r:=fun e hn=>h.Rh (by simp[Lay.own]) _ e hn
 have nf : ∀ {q:Nat},q∉y.own→q≠0:=fun hq e=>hq (by rw[e];simp[Lay.own])
 have ka : ∀ {d:D} {cs:List D},(∀ o∈d.arr,o∈y.κ++(y.sd.arr++y.vd.arr))→kN s d cs→kN ⟨s.aj.set 0 (gh p T W y m'),ts⟩ d cs:=fun hd ha=>ha.keep fun o mo=>by
  show(s.aj.set 0 _)[o]? = _
  rw[List.getElem?_set_ne (Ne.symm (h.yh (hd o mo)))]
 obtain⟨l,hl⟩:=h.bD
 refine⟨by simp[h.wT],k0,k1,by rw[h2];exact h.len,fun i c v e1 e2=>ne (h.cell i c v e1 (by rw[← h2];exact e2)) (h.yh (List.mem_append_left _ (List.mem_of_getElem? e1))),by rw[h1];exact h.uY,fun i o fr e1 e2=>?_,
  ka (fun o m=>by simp[m]) h.stack,⟨l,ka (fun o m=>by simp[m]) hl⟩,h.own,fun q mq=>⟨ne (h.loc q mq).1 (nf (h.loc q mq).2),(h.loc q mq).2⟩⟩
 rw[h1]at e2
 obtain⟨g1,g2,g3⟩:=h.frame i o fr e1 e2
 exact⟨ne g1 (nf g2),g2,by rw[h2];exact g3⟩
theorem Inv.aax (h:Inv p T W y m loc s) {i c:Nat} (hc:y.κ[i]? = some c) (v:Int):Inv p T W y {m with mem:=m.mem.set i v} loc ⟨s.aj.set c [.int .i64 v],s.az⟩:=by
 have iO:c∈y.κ:=List.mem_of_getElem? hc
 have nB:c<s.aj.length:=h.vY c (by simp[Lay.own,iO])
 have CK:=h.own
 rw[Lay.own,List.nodup_cons,List.nodup_append]at CK
 have hκ : ∀ i',y.κ[i']? = some c→i'=i:=fun i' e=>(List.getElem?_inj (List.getElem?_eq_some_iff.1 e).1 CK.2.1).1 (e.trans hc.symm)
 have ne : ∀ {q:Nat} {r:List D},s.aj[q]? = some r→q≠c→(s.aj.set c [.int .i64 v])[q]? = some r:=fun e hn=>h.Rh (o:=c) (by simp[Lay.own,iO]) _ e hn
 have nf : ∀ {q:Nat},q∉y.own→q≠c:=fun hq e=>hq (by rw[e];simp[Lay.own,iO])
 have ka : ∀ {d:D} {cs:List D},(∀ o∈d.arr,o∈y.sd.arr++y.vd.arr)→kN s d cs→kN ⟨s.aj.set c [.int .i64 v],s.az⟩ d cs:=fun hd ha=>ha.keep fun o mo=>by
  show(s.aj.set c _)[o]? = _
  rw[List.getElem?_set_ne (fun e=>CK.2.2.2 c iO o (hd o mo) e)]
 obtain⟨l,hl⟩:=h.bD
 refine⟨ne h.kO (fun e=>h.yh (List.mem_append_left _ iO) e.symm),h.t0,h.t1,by rw[h.len,List.length_set],fun i' c' v' e1 e2=>?_,h.uY,fun i' o fr e1 e2=>?_,
  ka (fun o m=>by simp[m]) h.stack,⟨l,ka (fun o m=>by simp[m]) hl⟩,h.own,fun q mq=>⟨ne (h.loc q mq).1 (nf (h.loc q mq).2),(h.loc q mq).2⟩⟩
 ·show(s.aj.set c _)[c']? = _
  simp only[List.getElem?_set]at e2
  by_cases e:i=i'
  ·subst e
   rw[hc]at e1;cases e1
   rw[if_pos rfl]at e2
   split at e2
   ·cases e2;simp[nB]
   ·cases e2
  ·rw [if_neg e]at e2
   have:c'≠c:=fun ec=>e (hκ i' (by rw[e1,ec])).symm
   exact ne (h.cell i' c' v' e1 e2) this
 ·obtain⟨g1,g2,g3⟩:=h.frame i' o fr e1 e2
  exact⟨ne g1 (nf g2),g2,by simpa using g3⟩
theorem Inv.auP (h:Inv p T W y m loc s) (v:Int) (hg:p.globals.length≤m.mem.length):Inv p T W {y with κ:=y.κ++ [s.aj.length]} {m with mem:=m.mem++ [v]} loc ⟨s.aj++ [[.int .i64 v]],s.az⟩:=by
 have h':=h.keep (s':=⟨s.aj++ [[.int .i64 v]],s.az⟩) (fun o r e=>by rw[List.getElem?_append_left (ie e)];exact e) rfl rfl
 have pH:s.aj.length∉y.own:=fun mo=>Nat.lt_irrefl _ (h.vY _ mo)
 have CK:=h.own
 have ho : ∀ o,o∈Lay.own {y with κ:=y.κ++ [s.aj.length]}→o∈y.own∨o=s.aj.length:=fun o mo=>by
  simp only[Lay.own,List.mem_cons,List.mem_append]at mo ⊢
  rcases mo with rfl|(mo|rfl|mo)|mo|mo
  ·exact .inl (.inl rfl)
  ·exact .inl (.inr (.inl mo))
  ·exact .inr rfl
  ·cases mo
  ·exact .inl (.inr (.inr (.inl mo)))
  ·exact .inl (.inr (.inr (.inr mo)))
 refine⟨by rw[h'.kO];simp only[gh];rw[List.take_append_of_le_length (by rw[h.len];exact hg)],h'.t0,h'.t1,by simp[h.len],fun i c v' e1 e2=>?_,h'.uY,fun i o fr e1 e2=>?_,h'.stack,h'.bD, ?_,fun q mq=>⟨(h'.loc q mq).1,fun mo=>?_⟩⟩
 ·rcases Nat.lt_or_ge i y.κ.length with hi | hi
  ·rw [List.getElem?_append_left hi]at e1
   rw[List.getElem?_append_left (by rw[← h.len];exact hi)]at e2
   exact h'.cell i c v' e1 e2
  ·have iH:i=y.κ.length:=by
    have:=(List.getElem?_eq_some_iff.1 e1).1
    simp at this;omega
   subst iH
   rw[List.getElem?_append_right (Nat.le_refl _)]at e1
   rw[List.getElem?_append_right (by rw[h.len];exact Nat.le_refl _)]at e2
   simp at e1;subst e1
   simp[h.len]at e2;subst e2
   simp
 ·obtain⟨g1,g2,g3⟩:=h'.frame i o fr e1 e2
  refine⟨by rw[KS (by rw[h.len];exact g3)];exact g1,fun mo=>?_,fun c mc=>by simp only[List.length_append];have:=g3 c mc;omega⟩
  rcases ho o mo with mo|rfl
  ·exact g2 mo
  ·exact absurd (ie (h.frame i _ fr e1 e2).1) (Nat.lt_irrefl _)
 ·have:(Lay.own {y with κ:=y.κ++ [s.aj.length]}).Perm (s.aj.length::y.own):=by
   simp only[Lay.own,List.append_assoc,List.singleton_append]
   exact(List.Perm.cons _ List.perm_middle).trans (List.Perm.swap _ _ _)
  rw[this.nodup_iff,List.nodup_cons]
  exact⟨pH,CK⟩
 ·rcases ho _ mo with mo | e
  ·exact(h'.loc q mq).2 mo
  ·exact absurd (ie (h.loc q mq).1) (by rw[e];exact Nat.lt_irrefl _)
theorem Inv.T8 (h:Inv p T W y m loc s) {vd:D} {s1:St} (k : ∀ (o:Nat) (r:List D),s.aj[o]? = some r→o∉y.vd.arr→s1.aj[o]? = some r) (hv : ∃ l:List Int,kN s1 vd (l.map sJ)) (hn:vd.arr=y.vd.arr∨vd.arr = []∨vd.arr = [s.aj.length]) (ht:s1.az=s.az) :
 Inv p T W {y with vd:=vd} m loc ⟨s1.aj.set 0 (gh p T W {y with vd:=vd} m),s1.az⟩:=by
 have CK:=h.own
 have aiZ:=CK
 rw[Lay.own,List.nodup_cons,List.nodup_append,List.nodup_append]at aiZ
 obtain⟨n0,nκ,⟨ns,nv,nsv⟩,N7⟩:=aiZ
 have v0 : ∀ o∈y.vd.arr,o≠0:=fun o mo=>h.yh (by simp[mo])
 have wJ:0<s1.aj.length:=ie (k 0 _ h.kO fun mo=>v0 0 mo rfl)
 have g : ∀ {o:Nat} {r:List D},s.aj[o]? = some r→o∉y.vd.arr→o≠0→(s1.aj.set 0 (gh p T W {y with vd:=vd} m))[o]? = some r:=fun e hv hn=>by
  rw[List.getElem?_set_ne (Ne.symm hn)];exact k _ _ e hv
 have N8 : ∀ o,o∈Lay.own {y with vd:=vd}→o∈y.own∨o=s.aj.length:=fun o mo=>by
  simp only[Lay.own,List.mem_cons,List.mem_append]at mo ⊢
  rcases mo with rfl|mo|mo|mo
  ·exact .inl (.inl rfl)
  ·exact .inl (.inr (.inl mo))
  ·exact .inl (.inr (.inr (.inl mo)))
  ·rcases hn with e | e | e
   ·rw[e]at mo;exact .inl (.inr (.inr (.inr mo)))
   ·rw[e]at mo;cases mo
   ·rw[e]at mo;exact .inr (List.mem_singleton.1 mo)
 have nk : ∀ o∈y.κ,o∉y.vd.arr:=fun o mo mv=>N7 o mo o (List.mem_append_right _ mv) rfl
 have nsd : ∀ o∈y.sd.arr,o∉y.vd.arr:=fun o mo mv=>nsv o mo o mv rfl
 have nfr : ∀ {o:Nat},o∉y.own→o∉y.vd.arr∧o≠0:=fun ho=>⟨fun mv=>ho (by simp[Lay.own,mv]),fun e=>ho (by rw[e];simp[Lay.own])⟩
 obtain⟨l,hl⟩:=hv
 refine⟨by simp[wJ],by rw[ht];exact h.t0,by rw[ht];exact h.t1,h.len,fun i c v e1 e2=>g (h.cell i c v e1 e2) (nk c (List.mem_of_getElem? e1)) (h.yh (by simp[List.mem_of_getElem? e1])),h.uY,fun i o fr e1 e2=>?_, ?_,⟨l, ?_⟩, ?_,fun q mq=>?_⟩
 ·obtain⟨f1,f2,f3⟩:=h.frame i o fr e1 e2
  refine⟨g f1 (nfr f2).1 (nfr f2).2,fun mo=>?_,f3⟩
  rcases N8 o mo with mo|e
  ·exact f2 mo
  ·exact absurd (ie f1) (by rw[e];exact Nat.lt_irrefl _)
 ·refine h.stack.keep fun o mo=> ?_
  rw[List.getElem?_eq_getElem (h.stack.lt o mo)]
  exact g (List.getElem?_eq_getElem _) (nsd o mo) (h.yh (by simp[mo]))
 ·refine hl.keep fun o mo=> ?_
  have:o≠0:=by
   rcases hn with e|e|e
   ·rw[e]at mo;exact v0 o mo
   ·rw[e]at mo;cases mo
   ·rw[e]at mo;rw[List.mem_singleton.1 mo];have:=h.wT;omega
  show(s1.aj.set 0 _)[o]? = _
  rw[List.getElem?_set_ne (Ne.symm this)]
 ·rcases hn with e | e | e
  ·simp only[Lay.own,e];exact CK
  ·simp only [Lay.own,e,List.append_nil]
   rw[List.nodup_cons,List.nodup_append]
   exact⟨fun m=>n0 (by rcases List.mem_append.1 m with m|m<;>simp[m]),nκ,ns,fun a ma b mb=>N7 a ma b (List.mem_append_left _ mb)⟩
  ·simp only [Lay.own,e]
   have dw : ∀ o∈y.own,o≠s.aj.length:=fun o mo e=>by have:=h.vY o mo;omega
   rw[List.nodup_cons,List.nodup_append,List.nodup_append]
   refine⟨fun m=>?_,nκ,⟨ns,by simp,fun a ma b mb=>?_⟩,fun a ma b mb=>?_⟩
   ·rcases List.mem_append.1 m with m | m
    ·exact n0 (by simp[m])
    ·rcases List.mem_append.1 m with m | m
     ·exact n0 (by simp[m])
     ·have:=List.mem_singleton.1 m;have:=h.wT;omega
   ·rw[List.mem_singleton.1 mb];exact dw a (by simp[Lay.own,ma])
   ·rcases List.mem_append.1 mb with mb | mb
    ·exact N7 a ma b (List.mem_append_left _ mb)
    ·rw[List.mem_singleton.1 mb];exact dw a (by simp[Lay.own,ma])
 ·obtain⟨f1,f2⟩:=h.loc q mq
  refine⟨g f1 (nfr f2).1 (nfr f2).2,fun mo=>?_⟩
  rcases N8 q.1 mo with mo|e
  ·exact f2 mo
  ·exact absurd (ie f1) (by rw[e];exact Nat.lt_irrefl _)
end
end Go.Abs
namespace Go.Abs
set_option maxRecDepth 8000
open Go.Proofs
theorem T9 (b:Bool) (s:St):aH Tryz.prog kI [.bool b] s (.int .i64 (uV b)) s:=by
 refine aH.pure ?_ rfl rfl s
 generalize h:uV b=R
 simp only[uV]at h
 unfold S0
 refine aH.go Nh rfl fun B Q hB hQ=>?_
 have⟨hD,gA,gB,gC⟩:=bP
 repeat' (first
 |simp only[go_sem,hD,gA,gB,gC]
 |(with_reducible first|refine dU fun hc=>?_|refine dV fun hc=>?_|refine dW (fun hc=>?_) fun hc=>?_)<;>(try simp only[hc,bs,↓reduceIte]at h)<;>try simp only[hc]
 |(with_reducible refine aF hQ ?_;exact kC))
theorem ae7 (a:Int) (s:St):aH Tryz.prog tG [.int .i64 a] s (.bool (!(a==0))) s:=by
 refine aH.pure ?_ rfl rfl s
 have e:(a != 0) = !(a==0):=rfl
 unfold S0
 refine aH.go Jl rfl fun B Q hB hQ=>?_
 have⟨hD,gA,gB,gC⟩:=bP
 repeat' (first
 |simp only[go_sem,hD,gA,gB,gC,e]
 |(with_reducible refine aF hQ ?_;exact aP))
abbrev Cj (r:Int×Bool):D:= .tuple [.int .i64 r.1, .bool r.2]
theorem amP (op a:Int) (s:St):aH Tryz.prog BN [.int .i64 op, .int .i64 a] s (Cj (TU op a)) s:=by
 refine aH.pure ?_ rfl rfl s
 generalize h:TU op a=R
 simp only[TU,Ia]at h
 unfold S0
 refine aH.go Nf rfl fun B Q hB hQ=>?_
 have⟨hD,gA,gB,gC⟩:=bP
 repeat' (first
 |simp only[go_sem,hD,gA,gB,gC]
 |(with_reducible refine CU (T9 _ _) ?_)
 |(with_reducible first|refine dU fun hc=>?_|refine dV fun hc=>?_|refine dW (fun hc=>?_) fun hc=>?_)<;>(try simp only[hc,bs,↓reduceIte]at h)<;>try simp only[hc]
 |(with_reducible refine aF hQ ?_;exact kC))
theorem aay (op a b:Int) (s:St):aH Tryz.prog wz [.int .i64 op, .int .i64 a, .int .i64 b] s (Cj (TV op a b)) s:=by
 refine aH.pure ?_ rfl rfl s
 generalize h:TV op a b=R
 simp only[TV,Ia]at h
 unfold S0
 rcases Bool.eq_false_or_eq_true (b==0)with b0|b0
 ·refine aH.go za rfl fun B Q hB hQ=> ?_
  have⟨hD,gA,gB,gC⟩:=bP
  repeat' (first
 |simp only[go_sem,hD,gA,gB,gC]
 |(with_reducible first|refine dU fun hc=>?_|refine dV fun hc=>?_|refine dW (fun hc=>?_) fun hc=>?_)<;>(try simp only[hc,bs,↓reduceIte]at h)<;>try simp only[hc]
 |(with_reducible refine aF hQ ?_;exact kC))
 ·have hb:b≠0:=by simpa using b0
  refine aH.go za rfl fun B Q hB hQ=>?_
  have⟨hD,gA,gB,gC⟩:=bP
  repeat' (first
 |simp only[go_sem,hD,gA,gB,gC,hb]
 |(with_reducible first|refine dU fun hc=>?_|refine dV fun hc=>?_|refine dW (fun hc=>?_) fun hc=>?_)<;>(try simp only[hc,bs,↓reduceIte]at h)<;>try simp only[hc]
 |(with_reducible refine aF hQ ?_;(try cases h);simp only[cZ,da,eK,eO,go_sem,hD,gA,gB,gC,hb];try exact iI))
theorem Xl (op a b:Int) (s:St):aH Tryz.prog uQ [.int .i64 op, .int .i64 a, .int .i64 b] s (Cj (TW op a b)) s:=by
 refine aH.pure ?_ rfl rfl s
 have e:(a != b) = !(a==b):=rfl
 generalize h:TW op a b=R
 simp only[TW]at h
 unfold S0
 refine aH.go Gg rfl fun B Q hB hQ=>?_
 have⟨hD,gA,gB,gC⟩:=bP
 repeat' (first
 |simp only[go_sem,hD,gA,gB,gC,e]
 |(with_reducible refine CU (T9 _ _) ?_)
 |(with_reducible first|refine dU fun hc=>?_|refine dV fun hc=>?_|refine dW (fun hc=>?_) fun hc=>?_)<;>(try simp only[hc,bs,↓reduceIte]at h)<;>try simp only[hc]
 |(with_reducible refine aF hQ ?_;(try cases h);simp only[cZ,da,eK,eO,go_sem,hD,gA,gB,gC,e];try exact iI))
theorem amQ (op a b:Int) (s:St):aH Tryz.prog BO [.int .i64 op, .int .i64 a, .int .i64 b] s (Cj (TX op a b)) s:=by
 refine aH.pure ?_ rfl rfl s
 have e1:(a != 0) = !(a==0):=rfl
 have e2:(b != 0) = !(b==0):=rfl
 generalize h:TX op a b=R
 simp only[TX,Ia]at h
 unfold S0
 refine aH.go Ng rfl fun B Q hB hQ=>?_
 have⟨hD,gA,gB,gC⟩:=bP
 repeat' (first
 |simp only[go_sem,hD,gA,gB,gC,e1,e2]
 |(with_reducible refine CU (T9 _ _) ?_)
 |(with_reducible refine CU (aay _ _ _ _) ?_)
 |(with_reducible refine CU (Xl _ _ _ _) ?_)
 |(with_reducible first|refine dU fun hc=>?_|refine dV fun hc=>?_|refine dW (fun hc=>?_) fun hc=>?_)<;>(try simp only[hc,bs,↓reduceIte]at h)<;>try simp only[hc]
 |(with_reducible refine aF hQ ?_;(try cases h);simp only[cZ,da,eK,eO,go_sem,hD,gA,gB,gC,e1,e2];try exact iI))
def yj (x:Int) (k:Int):List Int→Int
 | []=> -1
 |s::l=>if x==s then k else yj x (k+1) l
theorem QI (x:Int) : ∀ (l:List Int) (k:Int),0≤k→(yj x k l≥0↔l.contains x=true)
 | [],k,h=>by simp[yj]
 | s::l,k,h=>by
  by_cases e:x=s
  ·simp[yj,e];omega
  ·have e':(x==s)=false:=by simp [e]
   simp only[yj,e',Bool.false_eq_true,if_false,List.contains_cons,Bool.false_or]
   exact QI x l (k+1) (by omega)
theorem aaz {l:List Int} (hl:l.length<4611686018427387904) (x:Int) (s:St):aH Tryz.prog qM [.slice .shared 1 (l.map cB), .int .i64 x] s (.int .i64 (yj x 0 l)) s:=by
 refine aH.pure ?_ (by simp[D.bF,D.ok,Tag.ok,jr]) rfl s
 generalize h:yj x 0 l=p
 unfold S0
 refine aH.go BV rfl fun B Q hB hQ=>?_
 have⟨hD,gA,gB,gC⟩:=bP
 repeat' (first
 |simp only[go_sem,hD,gA,gB,gC]
 |(with_reducible first|refine dU fun hc=>?_|refine dV fun hc=>?_|refine dW (fun hc=>?_) fun hc=>?_)<;>(try simp only[hc,bs,↓reduceIte]at h)<;>try simp only[hc]
 |(with_reducible refine aF hQ ?_;exact kC))
 refine fz 0 0 (bo.ind (ι:=List Int×Nat) (fun i=>l.drop i.2=i.1∧yj x (i.2:Int) i.1=p) (fun i=>i.1.length)
  (fun i=> [(0, .slice .shared 1 (l.map cB)),(1, .int .i64 x),(7, .int .i64 (l.length:Int)),(8, .int .i64 (i.2:Int))]) (fun i=>⟨[],[]⟩) ?_ (l,0) ⟨rfl,h⟩)
 rintro⟨rest,k⟩ ⟨h1,h⟩ IH
 dsimp only at h1 h
 cases rest with
 |nil=>
  have hD:=drop_nil h1
  simp only[yj]at h
  repeat' (first
 |simp only[go_sem,hD,gA,gB,gC]
 |(with_reducible first|refine dU fun hc=>?_|refine dV fun hc=>?_|refine dW (fun hc=>?_) fun hc=>?_)<;>(try simp only[hc,bs,↓reduceIte]at h)<;>try simp only[hc]
 |(with_reducible refine aF hQ ?_;exact kC))
 |cons a rest=>
  obtain⟨gA,g2,hD,g4⟩:=drop_cons h1
  have cd:k<4611686018427387904:=by omega
  simp only[yj]at h
  repeat' (first
 |simp only[go_sem,hD,gA,gB,gC]
 |(with_reducible first|refine dU fun hc=>?_|refine dV fun hc=>?_|refine dW (fun hc=>?_) fun hc=>?_)<;>(try simp only[hc,bs,↓reduceIte]at h)<;>try simp only[hc]
 |(with_reducible refine aF hQ ?_;exact kC))
  refine eQ 0 0 ?_ ?_ (IH (rest,k+1) ⟨g2,h⟩ (Nat.lt_succ_self _))
  ·(simp only[go_sem,hD,gA,gB,gC,aM cd];try exact bQ)
  ·(simp only[go_sem,hD,gA,gB,gC,aM cd];try exact bQ)
theorem PI {l:List Int} (hl:l.length<4611686018427387904) (x:Int) (s:St):aH Tryz.prog oQ [.slice .shared 1 (l.map cB), .int .i64 x] s (.bool (l.contains x)) s:=by
 refine aH.pure ?_ (by simp[D.bF,D.ok,Tag.ok,jr]) rfl s
 have hi:=fun s=>aaz hl x s
 have e:decide (yj x 0 l≥0)=l.contains x:=by
  have:=QI x l 0 (Int.le_refl 0)
  cases h:l.contains x<;>simp_all
 unfold S0
 refine aH.go yA rfl fun B Q hB hQ=>?_
 have⟨hD,gA,gB,gC⟩:=bP
 repeat' (first
 |simp only[go_sem,hD,gA,gB,gC,e]
 |(with_reducible refine CU (hi _) ?_)
 |(with_reducible refine aF hQ ?_;exact aP))
theorem oG (names:List aK) (bD:List Int) (op n:Int) (name:aK) (kids:List Ex):Ex.val names bD ⟨op,n,name,kids⟩=if op==1 then(n,true)else if op==2 then(TY name names bD,true)else Ib op (kids.map (Ex.val names bD)):=by
 have e : ∀ l:List Ex,Ex.NM names bD l=l.map (Ex.val names bD):=fun l=>by
  induction l with
  |nil=>rfl
  |cons x l ih=>simp only[Ex.NM,List.map_cons,ih]
 simp only[Ex.val,e]
theorem ai0 {names:List aK} {bD:List Int} (hn:names.length<4611686018427387904) (hv:bD.length<4611686018427387904) : ∀ (n:Nat) (x:Ex),x.dp (n:Int)=true→
 aH Tryz.prog mK [.agg (bW x), .slice .shared 1 (names.map encStr), .slice .shared 1 (bD.map cB)] S0 (Cj (x.val names bD)) S0:=by
 intro n
 induction n with
 |zero=>rintro⟨op,v,name,kids⟩ h;rw[Nu]at h;omega
 | succ n ih=>
  rintro⟨op,v,name,kids⟩ h
  rw[Nu]at h
  obtain⟨_,hk,h⟩:=h
  have Nz:=fun s=>ER hn name s
  generalize hR:Ex.val names bD ⟨op,v,name,kids⟩=R
  rw[oG]at hR
  unfold S0
  by_cases o1:op=1
  ·subst o1
   simp only[beq_self_eq_true,if_true]at hR
   rw[← hR]
   show aH Tryz.prog mK _ _ (.tuple [.int .i64 v, .bool true]) _
   refine aH.go qd rfl fun B Q hB hQ=>?_
   have⟨hD,gA,gB,gC⟩:=bP
   repeat' (first
 |simp only[go_sem,hD,gA,gB,gC,beq_self_eq_true]
 | (with_reducible refine aF hQ ?_;exact aP))
  rw[if_neg o1]at h
  have b1:(op==1)=false:=by simp[o1]
  by_cases o2:op=2
  ·subst o2
   simp only[b1,Bool.false_eq_true,if_false,beq_self_eq_true,if_true,TY]at hR
   by_cases hi:j7 name 0 names≥0
   ·obtain⟨j,hj⟩:=Int.eq_ofNat_of_zero_le hi
    rw[if_pos hi]at hR
    have b2:decide (j7 name 0 names≥0)=true:=by simpa using hi
    rw[hj]at b2 hR
    rw[hj]at Nz
    rcases Nat.lt_or_ge j bD.length with hl|hl
    ·have b3:decide ((j:Int)<(bD.length:Int))=true:=by simp [hl]
     have hg:bD[j]? = some (bD.getD j 0):=by rw[List.getD_eq_getElem?_getD,List.getElem?_eq_getElem hl];rfl
     rw[Int.toNat_natCast]at hR
     rw[← hR]
     show aH Tryz.prog mK _ _ (.tuple [.int .i64 (bD.getD j 0), .bool true]) _
     refine aH.go qd rfl fun B Q hB hQ=>?_
     have⟨hD,gA,gB,gC⟩:=bP
     repeat' (first
 |simp only[go_sem,hD,gA,gB,gC,b1,b2,b3,hg,beq_self_eq_true,decide_true]
 |(with_reducible refine CU (Nz _) ?_)
 | (with_reducible refine aF hQ ?_;exact aP))
    ·have b3:decide ((j:Int)<(bD.length:Int))=false:=by simp;omega
     rw[Int.toNat_natCast,List.getD_eq_getElem?_getD,List.getElem?_eq_none hl,Option.getD_none]at hR
     rw[← hR]
     show aH Tryz.prog mK _ _ (.tuple [.int .i64 0, .bool true]) _
     refine aH.go qd rfl fun B Q hB hQ=>?_
     have⟨hD,gA,gB,gC⟩:=bP
     repeat' (first
 |simp only[go_sem,hD,gA,gB,gC,b1,b2,b3,beq_self_eq_true,decide_true]
 |(with_reducible refine CU (Nz _) ?_)
 | (with_reducible refine aF hQ ?_;exact aP))
   ·rw [if_neg hi]at hR
    have b2:decide (j7 name 0 names≥0)=false:=by simpa using hi
    rw[← hR]
    show aH Tryz.prog mK _ _ (.tuple [.int .i64 0, .bool true]) _
    refine aH.go qd rfl fun B Q hB hQ=>?_
    have⟨hD,gA,gB,gC⟩:=bP
    repeat' (first
 |simp only[go_sem,hD,gA,gB,gC,b1,b2,beq_self_eq_true]
 |(with_reducible refine CU (Nz _) ?_)
 |(with_reducible first|refine dU fun hc=>?_|refine dV fun hc=>?_|refine dW (fun hc=>?_) fun hc=>?_)<;>(try simp only[hc,bs,↓reduceIte]at h)<;>try simp only[hc]
 | (with_reducible refine aF hQ ?_;(try cases h);simp only [cZ,da,eK,eO,go_sem,hD,gA,gB,gC,b1,b2,beq_self_eq_true];try exact iI))
  rw[if_neg o2]at h
  have b2:(op==2)=false:=by simp[o2]
  simp only[b1,b2,Bool.false_eq_true,if_false]at hR
  have hd:=h.2.2
  rw[show((n+1:Nat):Int) - 1=(n:Int) by omega]at hd
  have ihs : ∀ {y:Ex},y∈kids→∀ s,aH Tryz.prog mK [.agg (bW y), .slice .shared 1 (names.map encStr), .slice .shared 1 (bD.map cB)] s (Cj (y.val names bD)) s:=fun {y} hy s=>by
   have:y.dp (n:Int)=true:=by
    have key : ∀ l:List Ex,Ex.D0 (n:Int) l=true→y∈l→y.dp (n:Int)=true:=fun l=>by
     induction l with
     |nil=>intro _ m;cases m
     | cons z l W3=>
      intro hz m
      simp only[Ex.D0]at hz
      split at hz
      ·cases hz
      ·rename_i hz'
       rcases List.mem_cons.1 m with rfl|m
       ·simpa using hz'
       ·exact W3 hz m
    exact key kids hd hy
   exact aH.pure (ih y this) (by simp[D.bF,D.ok,Tag.ok,lH,fK,jr]) rfl s
  clear h Nz
  have n1:((1:Nat):Int)=1:=rfl
  have e1:((1:Int)==1)=true:=rfl
  have e2:((2:Int)==1)=false:=rfl
  rename _=R=>h
  cases kids with
  |nil=>simp[p7]at hk;omega
  | cons a kids=>
   have c1:=fun s=>ihs (y:=a) (by simp) s
   cases kids with
   |nil=>
    simp only[List.map_cons,List.map_nil,Ib]at h
    refine aH.go qd rfl fun B Q hB hQ=>?_
    have⟨hD,gA,gB,gC⟩:=bP
    repeat' (first
 |simp only[go_sem,hD,gA,gB,gC,b1,b2,e1]
 |(with_reducible refine CU (c1 _) ?_)
 |(with_reducible refine CU (amP _ _ _) ?_)
 |(with_reducible first|refine dU fun hc=>?_|refine dV fun hc=>?_|refine dW (fun hc=>?_) fun hc=>?_)<;>(try simp only[hc,bs,↓reduceIte]at h)<;>try simp only[hc]
 | (with_reducible refine aF hQ ?_;(try cases h);simp only [cZ,da,eK,eO,go_sem,hD,gA,gB,gC,b1,b2,e1];try exact iI))
   | cons b kids=>
    cases kids with
    |nil=>
     have c2:=fun s=>ihs (y:=b) (by simp) s
     have e3 : [bW a,bW b][Int.toNat 1]? = some (bW b):=rfl
     simp only[List.map_cons,List.map_nil,Ib]at h
     refine aH.go qd rfl fun B Q hB hQ=>?_
     have⟨hD,gA,gB,gC⟩:=bP
     repeat' (first
 |simp only[go_sem,hD,gA,gB,gC,b1,b2,e2,e3]
 |(with_reducible refine CU (c1 _) ?_)
 |(with_reducible refine CU (c2 _) ?_)
 |(with_reducible refine CU (ae7 _ _) ?_)
 |(with_reducible refine CU (amQ _ _ _ _) ?_)
 |(with_reducible first|refine dU fun hc=>?_|refine dV fun hc=>?_|refine dW (fun hc=>?_) fun hc=>?_)<;>(try simp only[hc,bs,↓reduceIte]at h)<;>try simp only[hc]
 | (with_reducible refine aF hQ ?_;(try cases h);simp only [cZ,da,eK,eO,go_sem,hD,gA,gB,gC,b1,b2,e2,e3];try exact iI))
    |cons c kids=>simp[p7]at hk;omega
theorem aaA {x:Ex} {names:List aK} {bD:List Int} (hx:x.size<4611686018427387904) (ht:x.texts) (hn:names.length<4611686018427387904) (hv:bD.length<4611686018427387904) (s:St) :
 aH Tryz.prog yV [.agg (bW x), .slice .shared 1 (names.map encStr), .slice .shared 1 (bD.map cB)] s (Cj (x.bj names bD)) s:=by
 refine aH.pure ?_ (by simp[D.bF,D.ok,Tag.ok,lH,fK,jr]) rfl s
 have hm:=fun s=>BY hx ht s
 rw[HV]at hm
 generalize h:x.bj names bD=R
 simp only[Ex.bj]at h
 unfold S0
 rcases Bool.eq_false_or_eq_true x.may with b|b
 ·rw [if_pos b]at h
  have c1:=fun s=>aH.pure (ai0 hn hv 20 x (by rw[show((20:Nat):Int)=20 from rfl,HV];exact b)) (by simp[D.bF,D.ok,Tag.ok,lH,fK,jr]) rfl s
  rw[h]at c1
  refine aH.go FB rfl fun B Q hB hQ=>?_
  have⟨hD,gA,gB,gC⟩:=bP
  repeat' (first
 |simp only[go_sem,hD,gA,gB,gC,b]
 |(with_reducible refine CU (hm _) ?_)
 |(with_reducible refine CU (c1 _) ?_)
 |(with_reducible first|refine dU fun hc=>?_|refine dV fun hc=>?_|refine dW (fun hc=>?_) fun hc=>?_)<;>(try simp only[hc,bs,↓reduceIte]at h)<;>try simp only[hc]
 |(with_reducible refine aF hQ ?_;(try cases h);simp only[cZ,da,eK,eO,go_sem,hD,gA,gB,gC,b];try exact iI))
 ·rw [if_neg (by simp [b])]at h
  refine aH.go FB rfl fun B Q hB hQ=>?_
  have⟨hD,gA,gB,gC⟩:=bP
  repeat' (first
 |simp only[go_sem,hD,gA,gB,gC,b]
 |(with_reducible refine CU (hm _) ?_)
 |(with_reducible first|refine dU fun hc=>?_|refine dV fun hc=>?_|refine dW (fun hc=>?_) fun hc=>?_)<;>(try simp only[hc,bs,↓reduceIte]at h)<;>try simp only[hc]
 |(with_reducible refine aF hQ ?_;(try cases h);simp only[cZ,da,eK,eO,go_sem,hD,gA,gB,gC,b];try exact iI))
theorem sK {size bytes:Nat} {rows:List (List D)} (h:rows≠ []) (hl:rows.length*(bytes+1)≤bp) {z:Nat} {g:Tag} (o:List (List D)) (T:List (Option Nat)) :
 jW size bytes (.slice .full z []) (.slice g size rows) ⟨o,T⟩=some (.slice (.tok T.length) size rows,⟨o,T++ [some rows.length]⟩):=by
 cases rows with
 |nil=>exact absurd rfl h
 |cons x r=>simp only[List.length_cons]at hl;simp[jW,hl]
theorem sL {size bytes z z':Nat} {g:Tag} (o:List (List D)) (T:List (Option Nat)) :
 jW size bytes (.slice .full z []) (.slice g z' []) ⟨o,T⟩=some (.slice .full z [],⟨o,T⟩):=by simp[jW,bp]
theorem xl {l:List aK} (hl:l.length≤10000000) (s:St):aH Tryz.prog oR [.slice .shared 1 (l.map encStr)] s (.slice .shared 1 (l.map encStr)) s:=by
 refine aH.pure ?_ (by simp[D.bF,D.ok,fK,Tag.ok]) (by rw[D.ok,fK];rfl) s
 unfold S0
 cases l with
 |nil=>
  simp only[List.map_nil]
  have ha:=fun o T=>sL (size:=1) (bytes:=16) (z:=0) (z':=1) (g:= .shared) o T
  refine aH.go A8 rfl fun B Q hB hQ=>?_
  have⟨hD,gA,gB,gC⟩:=bP
  repeat' (first
 |simp only[go_sem,hD,gA,gB,gC,ha]
 |(with_reducible first|refine dU fun hc=>?_|refine dV fun hc=>?_|refine dW (fun hc=>?_) fun hc=>?_)<;>(try simp only[hc,bs,↓reduceIte]at h)<;>try simp only[hc]
 |(with_reducible refine aF hQ ?_;simp only[cZ,da,eK,eO,go_sem,hD,gA,gB,gC,ha];try exact iI))
 |cons x l=>
  have ha:=fun o T=>sK (size:=1) (bytes:=16) (rows:=(x::l).map encStr) (by simp) (by simp only[List.length_map];unfold bp;omega) (z:=0) (g:= .shared) o T
  have hf:=MS 0 0 (x::l)
  generalize (x::l).map encStr=R at *
  refine aH.go A8 rfl fun B Q hB hQ=>?_
  have⟨hD,gA,gB,gC⟩:=bP
  repeat' (first
 |simp only[go_sem,hD,gA,gB,gC,ha,hf]
 |(with_reducible first|refine dU fun hc=>?_|refine dV fun hc=>?_|refine dW (fun hc=>?_) fun hc=>?_)<;>(try simp only[hc,bs,↓reduceIte]at h)<;>try simp only[hc]
 |(with_reducible refine aF hQ ?_;simp only[cZ,da,eK,eO,go_sem,hD,gA,gB,gC,ha,hf];try exact iI))
theorem Ua : ∀ n,n<1073741824→∀ x:Ex,x.size≤n→aH Tryz.prog kG [.agg (bW x)] S0 (.agg (bW x)) S0:=by
 intro n
 induction n with
 |zero=>rintro _ ⟨op,m,name,kids⟩ h;simp only[Ex.size]at h;omega
 |succ n ihn=>
 rintro hn ⟨op,m,name,kids⟩ hx
 have hk : ∀ y∈kids,∀ s,aH Tryz.prog kG [.agg (bW y)] s (.agg (bW y)) s:=fun y hy s=>
  (ihn (by omega) y (by simp only[Ex.size]at hx;have:=Ex.cu hy;omega)).pure (by simp[D.bF,D.ok,lH]) (by simp[D.ok,lH]) s
 have hlen:kids.length<1073741824:=by simp only[Ex.size]at hx;have:=Ex.dr kids;omega
 unfold S0
 refine aH.go Fl rfl fun B Q hB hQ=>?_
 have⟨hD,gA,gB,gC⟩:=bP
 repeat' (first
 |simp only[go_sem,hD,gA,gB,gC]
 |(with_reducible refine aF hQ ?_;exact aP))
 refine bo.BI 2 3 4 rfl rfl ?_
 simp only[go_sem,hD,gA,gB,gC]
 refine fz 3 1 (bo.ind (ι:=List Ex×Nat×List Ex) (fun i=>kids.drop i.2.1=i.1∧i.2.1=i.2.2.length∧i.2.2++i.1=kids) (fun i=>i.1.length)
  (fun i=> [(1, .ptr 0 0),(2, .ptr 1 0),(3, .ptr 2 0),(14, .int .i64 (kids.length:Int)),(15, .int .i64 (i.2.1:Int))])
  (fun i=>⟨[bW ⟨op,m,name,kids⟩,bW rA,[.int .i64 op, .int .i64 m, .str name, .slice (.tok 0) 4 (i.2.2.map bW)]],[some i.2.1]⟩) ?_ (kids,0,[]) ⟨rfl,rfl,rfl⟩)
 rintro⟨rest,k,acc⟩ ⟨h1,h2,h3⟩ IH
 dsimp only at h1 h2 h3
 subst h2
 cases rest with
 |nil=>
  have hD:=drop_nil h1
  simp only[List.append_nil]at h3
  subst h3
  repeat' (first
 |simp only[go_sem,hD,gA,gB,gC]
 |(with_reducible refine aF hQ ?_;exact aP))
 |cons y rest=>
  obtain⟨gA,g2,hD,g4⟩:=drop_cons h1
  have jo:(acc.length+1)*57≤bp:=by simp only[bp];omega
  have hy:=hk y (List.mem_of_getElem? gA)
  have w1:IntKind.wrap .i64 ((acc.length:Int)+1)=((acc.length+1:Nat):Int):=by rw[eB]<;>omega
  repeat' (first
 |simp only[go_sem,hD,gA,gB,gC,jo,w1]
 |(with_reducible refine CU (hy _) ?_)
 |(with_reducible refine aF hQ ?_;exact aP))
  refine fz 3 1 (IH (rest,acc.length+1,acc++ [y]) ⟨g2,by simp,by rw[← h3];simp⟩ (Nat.lt_succ_self _))
theorem Is {x:Ex} (h:x.size<1073741824) (s:St):aH Tryz.prog kG [.agg (bW x)] s (.agg (bW x)) s:=
 (Ua x.size h x (Nat.le_refl _)).pure (by simp[D.bF,D.ok,lH]) (by simp[D.ok,lH]) s
def Sm.bare (v:Sm):Sm:= {v with aO:= [],aN:= []}
theorem vZ {v:Sm} (hv:v.labels.length+v.x.size+Ar.aS v.args<10000000) (s:St):aH Tryz.prog ll [.agg (a8 v)] s (.agg (a8 v.bare)) s:=by
 refine aH.pure ?_ (by simp[D.bF,D.ok,pJ]) (by simp[D.ok,pJ]) s
 obtain⟨id,kind,labels,name,proc,x,has,args,aO,aN⟩:=v
 dsimp only at hv
 have sQ:=Ar.dr args
 have hx:=fun s=>Is (x:=x) (by omega) s
 simp only[jl]at hx
 have hL:=fun s=>xl (l:=labels) (by omega) s
 unfold Sm.bare
 unfold S0
 refine aH.go Gh rfl fun B Q hB hQ=>?_
 have⟨hD,gA,gB,gC⟩:=bP
 repeat' (first
 |simp only[go_sem,hD,gA,gB,gC]
 |(with_reducible refine CU (hL _) ?_)
 |(with_reducible refine CU (hx _) ?_)
 |(with_reducible refine aF hQ ?_;exact aP))
 refine bo.BI 2 10 6 rfl rfl ?_
 simp only[go_sem,hD,gA,gB,gC]
 refine fz 3 1 (bo.ind (ι:=List Ar×Nat×List Ar) (fun i=>args.drop i.2.1=i.1∧i.2.1=i.2.2.length∧i.2.2++i.1=args) (fun i=>i.1.length)
  (fun i=> [(1, .ptr 0 0),(2, .ptr 1 0),(3, .ptr 2 0),(24, .slice .shared 6 (args.map fi)),(25, .int .i64 (args.length:Int)),(26, .int .i64 (i.2.1:Int))])
  (fun i=>⟨[a8 ⟨id,kind,labels,name,proc,x,has,args,aO,aN⟩,a8 J9,[.int .i64 id, .int .i64 kind, .slice .shared 1 (labels.map encStr), .str name, .str proc, .int .i64 x.op, .int .i64 x.n, .str x.name, .slice .shared 4 (x.kids.map bW), .bool has, .slice (.tok 0) 6 (i.2.2.map fi), .slice .full 0 [], .slice .full 0 []]],[some i.2.1]⟩) ?_ (args,0,[]) ⟨rfl,rfl,rfl⟩)
 rintro⟨Ub,ka,Uc⟩ ⟨j1,j2,j3⟩ IHa
 dsimp only at j1 j2 j3
 subst j2
 cases Ub with
 |nil=>
  have hD:=drop_nil j1
  simp only[List.append_nil]at j3
  subst j3
  repeat' (first
 |simp only[go_sem,hD,gA,gB,gC,cy,List.map_nil]
 |(with_reducible refine aF hQ ?_;exact aP))
 |cons c Ub=>
  obtain⟨gA,g2,hD,g4⟩:=drop_cons j1
  have ha:c.x.size<1073741824:=by have:=Ar.cu (List.mem_of_getElem? gA);omega
  have J1:Uc.length<4611686018427387904:=by omega
  have ai1:(Uc.length+1)*81≤bp:=by simp only[bp];omega
  have hxa:=fun s=>Is ha s
  simp only[jl]at hxa
  obtain⟨auQ,amR,ax⟩:=c
  repeat' (first
 |simp only[go_sem,hD,gA,gB,gC,ai1]
 |(with_reducible refine CU (hxa _) ?_)
 |(with_reducible refine aF hQ ?_;exact aP))
  refine eQ 3 1 ?_ ?_ (IHa (Ub,Uc.length+1,Uc++ [⟨auQ,amR,ax⟩]) ⟨g2,by simp,by rw[← j3];simp⟩ (Nat.lt_succ_self _))
  ·(simp only[go_sem,hD,gA,gB,gC,aM J1];try exact bQ)
  ·(simp only[go_sem,hD,gA,gB,gC,aM J1];try exact bQ)
theorem aH.ac6 {P:Program} {f:FuncId} {args:List D} {z k:Nat} {rows:List (List D)} (h:aH P f args S0 (.slice (.tok 0) z rows) ⟨[],[some k]⟩) (ha:D.bF 0 0 args=true) (hr:D.jg 0 0 rows=true) (s:St) :
 aH P f args s (.slice (.tok s.az.length) z rows) ⟨s.aj,s.az++ [some k]⟩:=by
 refine bS.frame [] [] h List.nodup_nil List.nodup_nil (by simp) (by simp) rfl (by simp) rfl (by simp) (by rw[fW _ _ _ ha]) ha ?_
 rintro _ _ ⟨rfl,rfl⟩
 refine⟨by simp[D.back,D.cO,Tag.cO,kR,ke _ _ _ hr], ?_⟩
 simp[St.back,lF]
theorem Ud (g:Tag) (z:Nat) (s:St):aH Tryz.prog lS [.slice g z []] s (.slice .full 1 []) s:=by
 refine bS.sy (.cons (Wk.nil _ _ 1) .nil) (aH.pure ?_ rfl rfl s)
 unfold S0
 refine aH.go rC rfl fun B Q hB hQ=>?_
 have⟨hD,gA,gB,gC⟩:=bP
 repeat' (first
 |simp only[go_sem,hD,gA,gB,gC]
 |(with_reducible refine aF hQ ?_;exact aP))
 refine Y2 (fun _=>?_) ?_
 ·repeat' (first
 |simp only[go_sem,hD,gA,gB,gC,jW,true_or,Nat.zero_le]
 |(with_reducible refine aF hQ ?_;exact aP))
 ·repeat' (first
 |simp only[go_sem,hD,gA,gB,gC,jW,true_or,Nat.zero_le]
 |(with_reducible refine aF hQ ?_;exact aP))
theorem Ue {l:List aK} (hl:l.length<1073741824) (h0:l≠ []) (s:St):aH Tryz.prog lS [.slice .shared 1 (l.map encStr)] s (.slice (.tok s.az.length) 1 (l.map encStr)) ⟨s.aj,s.az++ [some l.length]⟩:=by
 refine aH.ac6 ?_ (by simp[D.bF,D.ok,Tag.ok,fK]) (fK l) s
 unfold S0
 refine aH.Wd 0 1 (Nat.zero_le _) (Nat.zero_le _) rC rfl fun B Q hB hQ=>?_
 have⟨hD,gA,gB,gC⟩:=bP
 have ha:=fun o T=>sK (size:=1) (bytes:=16) (rows:=l.map encStr) (by simpa using h0) (by simp only[List.length_map];unfold bp;omega) (z:=1) (g:= .shared) o T
 cases l with
 |nil=>exact absurd rfl h0
 |cons x l=>
  simp only[List.map_cons,encStr]at ha
  repeat' (first
 |simp only[go_sem,hD,gA,gB,gC,ha]
 |(with_reducible refine aF hQ ?_;exact aP))
theorem QJ {a b:List aK} {n:Nat} (hn:n=a.length) (h:a.length+b.length≤1000000000) {g:Tag} {t:Nat} {s:St} (ht:s.az[t]? = some (some n)) :
 jW 1 16 (.slice (.tok t) 1 (a.map encStr)) (.slice g 1 (b.map encStr)) s=some (.slice (.tok t) 1 ((a++b).map encStr),⟨s.aj,s.az.set t (some (a++b).length)⟩):=by
 subst hn
 rw[pI (size:=1) (bytes:=16) (by simp only[List.length_map];unfold bp;omega) (by simpa using ht)]
 simp
theorem ai2 {p:Pg} (h:p.jE) (hb:p.may=true) {name:aK} {f:Pc} (hf:p.find name=some f) (s:St):aH Tryz.prog xN [.agg (bK p), .str name] s (.slice .shared 1 ((p.globals++f.own).map encStr)) s:=by
 refine aH.pure ?_ (by simp[D.bF,D.ok,iP]) (by simp only[D.ok,Tag.ok,fK];rfl) s
 have hm:=fun s=>HR h.TK s
 simp only[Be,hb]at hm
 obtain⟨td,p8,sT⟩:=h.procs
 simp only[Pg.find]at hf
 unfold S0
 refine aH.go Ji rfl fun B Q hB hQ=>?_
 have⟨hD,gA,gB,gC⟩:=bP
 repeat' (first
 |simp only[go_sem,hD,gA,gB,gC]
 |(with_reducible refine CU (hm _) ?_)
 |(with_reducible first|refine dU fun hc=>?_|refine dV fun hc=>?_|refine dW (fun hc=>?_) fun hc=>?_)<;>(try simp only[hc,bs,↓reduceIte]at h)<;>try simp only[hc]
 |(with_reducible refine aF hQ ?_;exact aP))
 refine fz 1 0 (bo.ind (ι:=List Pc×Nat) (fun i=>p.procs.drop i.2=i.1∧iE name i.1=some f) (fun i=>i.1.length)
  (fun i=> [(1, .str name),(2, .ptr 0 0),(11, .slice .shared 5 (p.procs.map bJ)),(12, .int .i64 (p.procs.length:Int)),(13, .int .i64 (i.2:Int))]) (fun i=>⟨[bK p],[]⟩) ?_ (p.procs,0) ⟨rfl,hf⟩)
 rintro⟨rest,k⟩ ⟨h1,h2⟩ IH
 dsimp only at h1 h2
 cases rest with
 |nil=>cases h2
 | cons a rest=>
  obtain⟨gA,g2,hD,g4⟩:=drop_cons h1
  have cd:k<4611686018427387904:=by omega
  have x9:=h.small (List.mem_of_getElem? gA)
  simp only[iE]at h2
  rcases Bool.eq_false_or_eq_true (a.name==name)with b1|b1
  ·simp only [b1,if_true]at h2
   cases h2
   have ho:=fun s=>acS (f:=f) x9.par x9.vars s
   have jB:f.own.length<2000000:=by have:=x9.par;have:=x9.vars;simp[Pc.own,Pc.tT];omega
   cases e:p.globals with
   | nil=>
    simp only[List.nil_append]at *
    have c1:=fun g z s=>Ud g z s
    cases e2:f.own with
    |nil=>
     rw[e2]at ho hQ
     have ha:=fun o T=>sL (size:=1) (bytes:=16) (z:=1) (z':=1) (g:= .shared) o T
     repeat' (first
 |simp only[go_sem,hD,gA,gB,gC,b1,ha,e]
 |(with_reducible refine CU (c1 _ _ _) ?_)
 |(with_reducible refine CU (ho _) ?_)
 |(with_reducible first|refine dU fun hc=>?_|refine dV fun hc=>?_|refine dW (fun hc=>?_) fun hc=>?_)<;>(try simp only[hc,bs,↓reduceIte]at h)<;>try simp only[hc]
 | (with_reducible refine aF hQ ?_;simp only [cZ,da,eK,eO,go_sem,hD,gA,gB,gC,b1,ha,e];try exact iI))
    |cons x l=>
     have ha:=fun o T=>sK (size:=1) (bytes:=16) (rows:=f.own.map encStr) (by simp[e2]) (by simp only[List.length_map];unfold bp;omega) (z:=1) (g:= .shared) o T
     repeat' (first
 |simp only[go_sem,hD,gA,gB,gC,b1,ha,e]
 |(with_reducible refine CU (c1 _ _ _) ?_)
 |(with_reducible refine CU (ho _) ?_)
 |(with_reducible first|refine dU fun hc=>?_|refine dV fun hc=>?_|refine dW (fun hc=>?_) fun hc=>?_)<;>(try simp only[hc,bs,↓reduceIte]at h)<;>try simp only[hc]
 | (with_reducible refine aF hQ ?_;simp only [cZ,da,eK,eO,go_sem,hD,gA,gB,gC,b1,ha,e];try exact iI))
   |cons x l=>
    have c1:=fun s=>Ue (l:=p.globals) (by omega) (by simp[e]) s
    have ha:=fun {s:St} {t:Nat} (ht:s.az[t]? = some (some p.globals.length))=>QJ (a:=p.globals) (b:=f.own) (g:= .shared) rfl (by omega) ht
    have AN:=fun o=>QJ (a:=p.globals) (b:=f.own) (g:= .shared) (t:=0) (s:=⟨o,[some p.globals.length]⟩) rfl (by omega) rfl
    repeat' (first
 |simp only[go_sem,hD,gA,gB,gC,b1,AN]
 |(with_reducible refine CU (c1 _) ?_)
 |(with_reducible refine CU (ho _) ?_)
 | (with_reducible refine aF hQ ?_;exact aP))
  ·simp only [b1,Bool.false_eq_true,if_false]at h2
   repeat' (first
 |simp only[go_sem,hD,gA,gB,gC,b1]
 | (with_reducible refine aF hQ ?_;exact aP))
   refine eQ 1 0 ?_ ?_ (IH (rest,k+1) ⟨g2,h2⟩ (Nat.lt_succ_self _))
   ·(simp only[go_sem,hD,gA,gB,gC,aM cd];try exact bQ)
   ·(simp only[go_sem,hD,gA,gB,gC,aM cd];try exact bQ)
theorem PJ {p:Pg} (hb:p.may=true) {i:Nat} {f:Pc} (hf:p.procs[i]? = some f) : ∃ a b:Int,p.bb.lo[i]? = some a∧p.bb.hi[i]? = some b∧(if decide (a<b)=true then a else -1)=dA f.body (-1):=by
 obtain⟨a,b,e,h1,h2,h3,h4⟩:=(kW p).2 i f hf
 refine⟨_,_,h1,h2, ?_⟩
 cases EG:f.body with
 |nil=>
  rw[EG]at h3
  have:b = []:=by simpa[Sm.bH]using h3
  subst this
  simp[dA]
 | cons s l=>
  rw[EG,Sm.bH,Sm.np]at h3
  cases b with
  |nil=>simp at h3
  | cons x b=>
   simp only[List.map_cons,List.cons_append,List.cons.injEq]at h3
   have hx:p.pre[a.length]? = some s:=by
    rw[← (kW p).1,h4]
    simp[h3.1]
   have:=rY hb hx
   rw[if_pos (by simp;omega)]
   simp only[dA]
   rw[this];omega
theorem ae8 {p:Pg} (hb:p.may=true) {i:Nat} {f:Pc} (hf:p.procs[i]? = some f) (s:St):aH Tryz.prog qK [.dN (gp p) 0, .int .i64 (i:Int)] s (.int .i64 (dA f.body (-1))) s:=by
 refine aH.pure ?_ (by simp[D.bF,D.ok,wC]) rfl s
 obtain⟨a,b,h1,h2,h⟩:=PJ hb hf
 generalize dA f.body (-1)=R at h
 unfold S0
 rw[qQ]
 refine aH.go BU rfl fun B Q hB hQ=>?_
 have⟨hD,gA,gB,gC⟩:=bP
 repeat' (first
 |simp only[go_sem,hD,gA,gB,gC,h1,h2]
 |(with_reducible first|refine dU fun hc=>?_|refine dV fun hc=>?_|refine dW (fun hc=>?_) fun hc=>?_)<;>(try simp only[hc,bs,↓reduceIte]at h)<;>try simp only[hc]
 |(with_reducible refine aF hQ ?_;(try cases h);simp only[cZ,da,eK,eO,go_sem,hD,gA,gB,gC,h1,h2];try exact iI))
section
variable {p:Pg} {T W:List Int} {y:Lay} {m:Mc} {loc:List (Nat×List D)} {s:St}
theorem kN.row {s:St} {d:D} {cs:List D} (h:kN s d cs) (hn:cs≠ []) : ∃ o g more,d = .dH 1 o g cs.length∧s.aj[o]? = some (.int .i64 ((g:Nat):Int)::(cs++more)):=by
 rcases h with ⟨_,h⟩|h
 ·exact absurd h hn
 ·exact h
theorem Inv.aaB (h:Inv p T W y m loc s) {fr:Fr} {r:List Fr} (iL:m.st=fr::r) : ∃ so g cells o,y.sd = .dH 1 so g (r.length+1)∧s.aj[so]? = some (.int .i64 ((g:Nat):Int)::cells)∧cells[r.length]? = some (.ptr o 0)∧s.aj[o]? = some (qW y.κ fr)∧y.φ[0]? = some o:=by
 have ib:=h.uY
 rw[iL]at ib
 cases hφ:y.φ with
 |nil=>rw[hφ]at ib;simp at ib
 | cons o φ=>
  rw[hφ]at ib
  simp only[List.length_cons]at ib
  obtain⟨so,g,more,h1,h2⟩:=h.stack.row (by simp[hφ])
  refine⟨so,g,_,o, ?_,h2, ?_,(h.frame 0 o fr (by rw[hφ];rfl) (by rw[iL];rfl)).1,rfl⟩
  ·rw[h1];simp[hφ];omega
  ·rw [hφ,List.reverse_cons,List.map_append,List.append_assoc,List.getElem?_append_right (by simp;omega)]
   simp[Am,show r.length - φ.length=0 by omega]
theorem Uf (h:Inv p T W y m loc s) {fr:Fr} {r:List Fr} (iL:m.st=fr::r) (hs:r.length<1000000) : ∃ o,y.φ[0]? = some o∧s.aj[o]? = some (qW y.κ fr)∧aH Tryz.prog mh [.ptr 0 0] s (.ptr o 0) s:=by
 obtain⟨so,g,cells,o,h1,h2,h3,h4,h5⟩:=h.aaB iL
 refine⟨o,h5,h4, ?_⟩
 have hm:=h.kO
 rw[gh,h1]at hm
 have hw:IntKind.wrap .i64 (((r.length+1:Nat):Int) - 1)=((r.length:Nat):Int):=by rw[show((r.length+1:Nat):Int) - 1=(r.length:Int) by omega];exact eB (by omega) (by omega)
 have hl:(r.length<r.length+1)=True:=by simp
 refine bS.wM C5 rfl fun B Q hB hQ=>?_
 have⟨hD,gA,gB,gC⟩:=bP
 repeat' (first
 |simp only[go_sem,hD,gA,gB,gC,hm,hw,h2,h3,hl,Nat.mul_one]
 |(with_reducible refine aF hQ ?_;exact aP))
 (refine iW hQ ?_;simp only[cZ,da,eK,eO,go_sem])
theorem E3 (h:Inv p T W y m loc s) {fr:Fr} {r:List Fr} (iL:m.st=fr::r) (hs:r.length<1000000) (hn:fr.names.length<1000000) {name:aK} {j c:Nat} (hj:j7 name 0 fr.names=(j:Int)) (hc:fr.vars[j]? = some c) :
 aH Tryz.prog jF [.ptr 0 0, .str name] s (.ptr (y.κ.getD c 0) 0) s:=by
 obtain⟨o,_,h1,c1⟩:=Uf h iL hs
 have c2:=fun s=>ER (l:=fr.names) (by omega) name s
 rw[hj]at c2
 rw[qW]at h1
 refine bS.wM A0 rfl fun B Q hB hQ=>?_
 have⟨hD,gA,gB,gC⟩:=bP
 repeat' (first
 |simp only[go_sem,hD,gA,gB,gC,h1,hc,gy,Option.map_some]
 |(with_reducible refine CU (c1) ?_)
 |(with_reducible refine CU (c2 _) ?_)
 |(with_reducible refine aF hQ ?_;exact aP))
 (refine iW hQ ?_;simp only[cZ,da,eK,eO,go_sem])
abbrev Rl (p:Pg) (T W:List Int) (d:D) (m':Mc) (X:Lay→Prop) (loc:List (Nat×List D)):D→St→Prop:=fun d' s'=>d'=d∧∃ y',X y'∧Inv p T W y' m' loc s'
theorem QK (h:Inv p T W y m loc s) (hW:W.length<1000000) (ht:m.trace.length<2000000) (id:Int) (bD:List Int) :
 bS Tryz.prog fy [.ptr 0 0, .int .i64 id, .slice .shared 1 (bD.map cB)] s (Rl p T W (.tuple []) (m.event W id bD) (· = y) loc):=by
 have hm:=h.kO
 rw[gh]at hm
 have hl:=h.wT
 have c1:=fun s=>PI (l:=W) (by omega) id s
 have fP:jW 2 32 (.slice (.tok 1) 2 (m.trace.map pR)) (.slice .full 2 [[.int .i64 id, .slice .shared 1 (bD.map cB)]]) s=some (.slice (.tok 1) 2 ((m.trace++ [(id,bD)]).map pR),⟨s.aj,s.az.set 1 (some (m.trace.length+1))⟩):=by
  rw[pI (size:=2) (bytes:=32) (by simp only[List.length_map,List.length_singleton];unfold bp;omega) (by simpa using h.t1)]
  simp[pR]
 refine bS.wM A2 rfl fun B Q hB hQ=>?_
 have⟨hD,gA,gB,gC⟩:=bP
 cases hb:W.contains id
 ·repeat' (first
 |simp only[go_sem,hD,gA,gB,gC,hm,hb]
 |(with_reducible refine CU (c1 _) ?_)
 |(with_reducible refine aF hQ ?_;exact aP))
  (refine iW hQ ?_;simp only[cZ,da,eK,eO,go_sem])
  refine⟨rfl,y,rfl, ?_⟩
  unfold Mc.event
  rw[hb]
  exact h
 ·repeat' (first
 |simp only[go_sem,hD,gA,gB,gC,hm,hb,fP,hl]
 |(with_reducible refine CU (c1 _) ?_)
 | (with_reducible refine aF hQ ?_;exact aP))
  (refine iW hQ ?_;simp only[cZ,da,eK,eO,go_sem])
  refine⟨rfl,y,rfl, ?_⟩
  have:=h.wi (m':=m.event W id bD) (ts:=s.az.set 1 (some (m.trace.length+1))) (fF W m id bD).1 (fF W m id bD).2.1 (by rw[(fF W m id bD).2.2.2.2.2,List.getElem?_set_ne (by omega)];exact h.t0) (by
   unfold Mc.event
   rw[hb]
   simp[(List.getElem?_eq_some_iff.1 h.t1).1])
  unfold Mc.event at this ⊢
  rw[hb,if_pos rfl]at this ⊢
  simp only[gh,List.map_append,List.map_cons,List.map_nil]at this
  exact this
theorem QL (l:List Sm) (hl:l.length<4611686018427387904) (o:Int) (s:St):aH Tryz.prog rV [.slice .shared 13 (l.map a8), .int .i64 o] s (.int .i64 (firstM l o)) s:=by
 refine aH.pure ?_ (by simp[D.bF,D.ok,Tag.ok,kY]) rfl s
 unfold S0
 cases l with
 |nil=>
  have e:decide ((0:Int) > 0)=false:=rfl
  simp only[firstM,dA,List.map_nil]
  refine aH.go CP rfl fun B Q hB hQ=>?_
  have⟨hD,gA,gB,gC⟩:=bP
  repeat' (first
 |simp only[go_sem,hD,gA,gB,gC,e]
 |(with_reducible refine aF hQ ?_;exact aP))
 |cons a l=>
  have e:decide (((l.length+1:Nat):Int) > 0)=true:=by simp
  simp only[firstM,dA,List.map_cons]
  refine aH.go CP rfl fun B Q hB hQ=>?_
  have⟨hD,gA,gB,gC⟩:=bP
  repeat' (first
 |simp only[go_sem,hD,gA,gB,gC,e]
 |(with_reducible refine aF hQ ?_;exact aP))
end
end Go.Abs
namespace Go.Abs
set_option maxRecDepth 8000
open Go.Proofs
section
variable {p:Pg} {T W:List Int} {y:Lay} {m:Mc} {loc:List (Nat×List D)} {s:St}
theorem N9 {s:St} {o g z bytes:Nat} {t:Tag} {cs more r:List D} {len:Nat} (hs:s.aj[o]? = some (.int .i64 (g:Int)::(cs++more))) (hl:cs.length=len*z) (hm:(len+1)*(bytes+1)≤bp) :
 zJ z bytes (.dH z o g len) (.slice t z [r]) s=some (.dH z o (g+1) (len+1),⟨s.aj.set o (.int .i64 ((g+1:Nat):Int)::(cs++r)),s.az⟩):=by
 have ha:mr s o g=some (cs++more):=by unfold mr;rw[hs];simp
 simp only[zJ,ha,List.length_singleton,hm,or_true,and_self,if_true,List.flatten_cons,List.flatten_nil,List.append_nil]
 rw[if_pos (by simp;omega), ← hl,List.take_append_of_le_length (Nat.le_refl _),List.take_length]
theorem Wk.amS (z z':Nat):Wk (.fk z) (.slice .shared z' []):=fun M s v h=>by
 cases h with
 |fk _ a=>cases a with
  |none=>exact .jH _ _ _ rfl trivial
  |some a=>exact .mX _ _ _
theorem aH.amT {P:Program} {f:FuncId} {a b:D} {d:D} {s:St} {v:D} {l:List Int} (hv:kN s v (l.map sJ)) (h : ∀ s,aH P f [a,b, .slice .shared 1 (l.map cB)] s d s) (ha:D.ok 0 0 a=true) (hb:D.ok 0 0 b=true) (hd:d.flat=true) :
 aH P f [a,b,v] s d s:=by
 rcases hv with ⟨rfl,e⟩|⟨o,g,more,rfl,e⟩
 ·have:l = []:=by simpa using e
  subst this
  exact bS.sy (.cons (Wk.refl _) (.cons (Wk.refl _) (.cons (Wk.amS 1 1) .nil))) (h s)
 ·have eI : ∀ l:List Int,(l.map cB).flatten=l.map sJ:=fun l=>by
   induction l with
   |nil=>rfl
   |cons x l ih=>simp only[List.map_cons,List.flatten_cons,ih];rfl
  have hlen:(l.map sJ).length=(l.map cB).length:=by simp
  rw[hlen]
  have e0:D.kD o g (l.map cB) [a,b, .dH 1 o g (l.map cB).length] = [a,b, .slice .shared 1 (l.map cB)]:=by
   simp only[D.kD,MU _ _ _ a ha,MU _ _ _ b hb,D.gD,and_self,if_true]
  refine aH.apz (k:=2) (rows:=l.map cB) rfl (by rw[eI];exact e) (by intro r hr;obtain⟨x,_,rfl⟩:=List.mem_map.1 hr;rfl) ?_ ?_ hd
  ·rw[e0];exact h S0
  ·rw[e0];simp[D.bF,D.ok,Tag.ok,ha,hb,jr]
structure oy (m:Mc) (fr:Fr) (r:List Fr):Prop where
 st:m.st=fr::r
 len:r.length<1000000
 names:fr.names.length<1000000
 vars:fr.vars.length<1000000
theorem oy.top {fr:Fr} {r:List Fr} (h:oy m fr r):m.top=fr:=by simp[Mc.top,h.st]
theorem Xn {fr:Fr} {k c:Nat} {rest:List Nat} (h:fr.vars.drop k=c::rest) (m:Mc):(fr.vars.take (k+1)).map (fun c=>m.mem.getD c 0)=(fr.vars.take k).map (fun c=>m.mem.getD c 0)++ [m.mem.getD c 0]:=by
 have:=(drop_cons h).1
 rw[List.take_add_one,this]
 simp
theorem Gz (h:Inv p T W y m loc s) {fr:Fr} {r:List Fr} (ht:oy m fr r) {x:Ex} (hx:x.size<1000000) (htx:x.texts) :
 bS Tryz.prog ld [.ptr 0 0, .agg (bW x)] s (fun d s'=>Rl p T W (Cj (m.bj x).1) (m.bj x).2 (fun y'=>y' = {y with vd:=y'.vd}) loc d s'∧s'.az=s.az):=by
 have h1:=h.new (bW x)
 generalize ac7:(s.aj.length,bW x)::loc=aaC at h1
 obtain⟨o,ho,hfo,c1⟩:=Uf h1 ht.st ht.len
 have hm:=h1.kO
 rw[gh]at hm
 have hl:=h1.wT
 simp only at hm hl
 rw[qW]at hfo
 have hvl:=ht.vars
 have Ve:=ht.names
 refine bS.wM A1 rfl fun B Q hB hQ=>?_
 have⟨hD,gA,gB,gC⟩:=bP
 -- the rounds
 have loop : ∀ (n k:Nat) (rest:List Nat) (vd:D) (s2:St),s2.az=s.az→rest.length=n→fr.vars.drop k=rest→Inv p T W {y with vd:=vd} m aaC s2→kN s2 vd (((fr.vars.take k).map fun c=>m.mem.getD c 0).map sJ)→
  bo Tryz.prog B 64 QUJ (iN 0 (lz (jU Tryz.prog B 64 QUV Q) Q)) [(0, .ptr 0 0),(3, .ptr s.aj.length 0),(6, .ptr o 0),(24, .slice .shared 1 (fr.vars.map fun c=>gy (y.κ.getD c 0))),(25, .int .i64 (fr.vars.length:Int)),(26, .int .i64 (k:Int))] s2:=by
  intro n
  induction n with
  | zero=>
   intro k rest vd s2 xD Dv hd h2 ha
   have:rest = []:=List.eq_nil_of_length_eq_zero Dv
   subst this
   have hD:=drop_nil hd
   have hk:fr.vars.take k=fr.vars:=List.take_of_length_le (List.drop_eq_nil_iff.1 hd)
   rw[hk]at ha
   have ac8:(fr.vars.map fun c=>m.mem.getD c 0)=m.bD:=by unfold Mc.bD;rw[ht.top]
   rw[ac8]at ha
   have nD:=h2.kO
   rw[gh]at nD
   have ku:=h2.wT
   have Iu:=(h2.frame 0 o fr ho (by rw[ht.st];rfl)).1
   rw[qW]at Iu
   have El:=(h2.loc (s.aj.length,bW x) (by rw[← ac7];exact List.mem_cons_self ..)).1
   simp only at nD Iu El
   have c2:aH Tryz.prog yV [.agg (bW x), .slice .shared 1 (fr.names.map encStr),vd] s2 (Cj (x.bj fr.names m.bD)) s2:=
    aH.amT ha (fun s=>aaA (by omega) htx (by omega) (by rw[← ac8,List.length_map];omega) s) (by simp[D.ok,lH]) (by simp[D.ok,Tag.ok,fK]) (by simp[D.flat,D.Hu])
   have hw:(m.bj x).1=x.bj fr.names m.bD:=by unfold Mc.bj;rw[ht.top]
   generalize hr:x.bj fr.names m.bD=q at *
   have sS:(m.bj x).2=if q.2 then m else {m with fin:=4}:=by unfold Mc.bj;rw[ht.top,hr]
   obtain⟨q1,q2⟩:=q
   have yc:Inv p T W {y with vd:=vd} {m with fin:=4} aaC ⟨s2.aj.set 0 (gh p T W {y with vd:=vd} {m with fin:=4}),s2.az⟩:=h2.wi (m':= {m with fin:=4}) rfl rfl h2.t0 h2.t1
   rw[gh]at yc
   have o9 : ∀ q∈loc,q∈aaC:=fun q mq=>by rw[← ac7];exact List.mem_cons_of_mem _ mq
   refine bo.kj ?_
   cases q2
   ·repeat' (first
 |simp only[go_sem,hD,gA,gB,gC,nD,ku,Iu,El]
 |(with_reducible refine CU (c2) ?_)
 | (with_reducible refine aF hQ ?_;exact aP))
    (refine iW hQ ?_;simp only[cZ,da,eK,eO,go_sem])
    refine⟨⟨by rw[hw],{y with vd:=vd},rfl, ?_⟩,xD⟩
    rw[sS]
    exact yc.sub o9
   ·repeat' (first
 |simp only[go_sem,hD,gA,gB,gC,nD,ku,Iu,El]
 |(with_reducible refine CU (c2) ?_)
 | (with_reducible refine aF hQ ?_;exact aP))
    (refine iW hQ ?_;simp only[cZ,da,eK,eO,go_sem])
    refine⟨⟨by rw[hw],{y with vd:=vd},rfl, ?_⟩,xD⟩
    rw[sS]
    exact h2.sub o9
  | succ n ih=>
   intro k rest vd s2 xD Dv hd h2 ha
   cases rest with
   |nil=>cases Dv
   | cons c rest=>
    obtain⟨gA,g2,hD,g4⟩:=drop_cons hd
    have cd:k<4611686018427387904:=by omega
    have Xo:c<m.mem.length:=(h2.frame 0 o fr ho (by rw[ht.st];rfl)).2.2 c (List.mem_of_getElem? gA)
    have hκ:y.κ[c]? = some (y.κ.getD c 0):=by
     rw[List.getD_eq_getElem?_getD,List.getElem?_eq_getElem (by have:=h2.len;simp only at this;omega)];rfl
    have jA:=h2.cell c _ _ hκ (by rw[List.getElem?_eq_getElem Xo])
    have qD:m.mem[c] = m.mem.getD c 0:=by rw[List.getD_eq_getElem?_getD,List.getElem?_eq_getElem Xo];rfl
    rw[qD]at jA
    generalize amU:m.mem.getD c 0=v at jA
    have nD:=h2.kO
    rw[gh]at nD
    have ku:=h2.wT
    simp only at nD
    have hlen:k<1000000:=by have:=ht.vars;omega
    have hvt:((fr.vars.take (k+1)).map fun c=>m.mem.getD c 0).map sJ=((fr.vars.take k).map fun c=>m.mem.getD c 0).map sJ++ [.int .i64 v]:=by
     rw[Xn hd m,amU,List.map_append];rfl
    rcases ha with ⟨rfl,e⟩|⟨vo,g,more,rfl,e⟩
    ·have fP:=F6 (z:=1) (bytes:=8) .full [.int .i64 v] s2 (by unfold bp;omega)
     have h3:=h2.T8 (vd:= .dH 1 s2.aj.length 0 1) (s1:=⟨s2.aj++ [[.int .i64 ((0:Nat):Int), .int .i64 v]],s2.az⟩) (fun o r e _=>by rw[List.getElem?_append_left (ie e)];exact e)
      ⟨[v], .inr ⟨_,0,[],rfl,by simp[sJ]⟩⟩ (.inr (.inr rfl)) rfl
     rw[gh]at h3
     simp only at h3
     refine bo.kj ?_
     have hA : ∀ e:List (List D),(s2.aj++e)[0]? = s2.aj[0]? :=fun e=>List.getElem?_append_left ku
     repeat' (first
 |simp only[go_sem,hD,gA,gB,gC,nD,ku,jA,gA,gy,fP,Option.map_some,hA]
 | (with_reducible refine aF hQ ?_;exact aP))
     refine bo.rB ?_ (ih (k+1) rest _ _ xD (by simpa using Dv) g2 h3 ?_)
     ·simp only [go_sem,aM cd,gy]
      repeat' (first|exact Ok.out|with_reducible refine jD ?_ ?_)
     ·rw [hvt,e]
      refine .inr ⟨_,0,[],rfl, ?_⟩
      show((s2.aj++ [_]).set 0 _)[s2.aj.length]? = _
      rw[List.getElem?_set_ne (by omega)]
      simp
    ·have nB:(((fr.vars.take k).map fun c=>m.mem.getD c 0).map sJ).length=k:=by simp;omega
     have fP:=N9 (t:= .full) (bytes:=8) (r:= [.int .i64 v]) e (len:=k) (z:=1) (by rw[nB,Nat.mul_one]) (by unfold bp;omega)
     rw[nB]at nD h2
     have KT:0≠vo:=fun e'=>(h2.yh (o:=vo) (by simp[D.arr])) e'.symm
     have dw:kN ⟨s2.aj.set vo (.int .i64 ((g+1:Nat):Int)::(((fr.vars.take k).map fun c=>m.mem.getD c 0).map sJ++ [.int .i64 v])),s2.az⟩ (.dH 1 vo (g+1) (k+1)) (((fr.vars.take k).map fun c=>m.mem.getD c 0).map sJ++ [.int .i64 v]):=
      .inr ⟨vo,g+1,[],by simp;omega,by simp[ie e]⟩
     have h3:=h2.T8 (vd:= .dH 1 vo (g+1) (k+1)) (s1:=⟨s2.aj.set vo (.int .i64 ((g+1:Nat):Int)::(((fr.vars.take k).map fun c=>m.mem.getD c 0).map sJ++ [.int .i64 v])),s2.az⟩) (fun o r e hn=>by rw[List.getElem?_set_ne (fun e'=>hn (by rw[← e'];simp[D.arr]))];exact e)
      ⟨(fr.vars.take (k+1)).map fun c=>m.mem.getD c 0,by rw[hvt];exact dw⟩ (.inl rfl) rfl
     rw[gh]at h3
     simp only at h3
     refine bo.kj ?_
     have hA : ∀ e:List D,(s2.aj.set vo e)[0]? = s2.aj[0]? :=fun e=>List.getElem?_set_ne (Ne.symm KT)
     repeat' (first
 |simp only[go_sem,hD,gA,gB,gC,nD,ku,jA,gA,gy,fP,Option.map_some,hA]
 |(with_reducible refine aF hQ ?_;exact aP))
     refine bo.rB ?_ (ih (k+1) rest _ _ xD (by simpa using Dv) g2 h3 ?_)
     ·simp only [go_sem,aM cd,gy]
      repeat' (first|exact Ok.out|with_reducible refine jD ?_ ?_)
     ·rw [hvt]
      exact dw.keep fun o mo=>by
       have:o=vo:=by simpa[D.arr]using mo
       subst this
       show(List.set _ 0 _)[o]? = _
       rw[List.getElem?_set_ne KT]
 -- the values' slice is emptied
 obtain⟨l,hv⟩:=h1.bD
 have h0:((s.aj++ [bW x])[0]?).isSome=true:=by rw[hm];rfl
 rcases hv with ⟨e,_⟩|⟨vo,g,more,e,e2⟩
 ·rw [e]at hm
  have GC:zI (.fk 1) none (some (.int .i64 0))=some (.fk 1):=by simp[zI,vz,vA]
  have h3:=h1.T8 (vd:= .fk 1) (s1:=⟨s.aj++ [bW x],s.az⟩) (fun _ _ e _=>e) ⟨[], .inl ⟨rfl,rfl⟩⟩ (.inl (by rw[e])) rfl
  have Iv:=(h3.frame 0 o fr ho (by rw[ht.st];rfl)).1
  rw[gh]at h3 Iv
  rw[qW]at Iv
  simp only at h3 Iv
  repeat' (first
 |simp only[go_sem,hD,gA,gB,gC,hm,hl,hfo,GC,Iv]
 |(with_reducible refine CU (c1) ?_)
 |(with_reducible refine aF hQ ?_;exact aP))
  refine bo.rB ?_ (loop _ 0 fr.vars _ _ rfl rfl rfl h3 (.inl ⟨rfl,rfl⟩))
  simp only[go_sem,gy]
  repeat' (first|exact Ok.out|with_reducible refine jD ?_ ?_)
 ·rw [List.length_map]at e
  rw[e]at hm
  have KT:0≠vo:=fun e'=>(h1.yh (o:=vo) (by rw[e];simp[D.arr])) e'.symm
  have GC:zI (.dH 1 vo g l.length) none (some (.int .i64 0))=some (.dH 1 vo g 0):=by simp[zI,vz,vA]
  have h3:=h1.T8 (vd:= .dH 1 vo g 0) (s1:=⟨s.aj++ [bW x],s.az⟩) (fun _ _ e _=>e) ⟨[], .inr ⟨vo,g,l.map sJ++more,rfl,e2⟩⟩ (.inl (by rw[e];rfl)) rfl
  have Iv:=(h3.frame 0 o fr ho (by rw[ht.st];rfl)).1
  rw[gh]at h3 Iv
  rw[qW]at Iv
  simp only at h3 Iv
  repeat' (first
 |simp only[go_sem,hD,gA,gB,gC,hm,hl,hfo,GC,Iv]
 |(with_reducible refine CU (c1) ?_)
 | (with_reducible refine aF hQ ?_;exact aP))
  refine bo.rB ?_ (loop _ 0 fr.vars _ _ rfl rfl rfl h3 (.inr ⟨vo,g,l.map sJ++more,rfl, ?_⟩))
  ·simp only [go_sem,gy]
   repeat' (first|exact Ok.out|with_reducible refine jD ?_ ?_)
  ·show(List.set _ 0 _)[vo]? = _
   rw[List.getElem?_set_ne KT];exact e2
end
end Go.Abs
namespace Go.Abs
set_option maxRecDepth 8000
open Go.Proofs
section
variable {p:Pg} {T W:List Int} {y:Lay} {m:Mc} {loc:List (Nat×List D)} {s:St}
theorem F0:Wk (.slice .full 0 []) (.slice .shared 1 (([] : List Int).map cB)):=Wk.nil _ _ _
theorem yk (h:Inv p T W y m loc s) (hW:W.length<1000000) (ht:m.trace.length<2000000) (id:Int) :
 bS Tryz.prog fy [.ptr 0 0, .int .i64 id, .slice .full 0 []] s (Rl p T W (.tuple []) (m.event W id []) (· = y) loc):=
 bS.sy (.cons (Wk.refl _) (.cons (Wk.refl _) (.cons F0 .nil))) (QK h hW ht id [])
theorem GD (h:Inv p T W y m loc s) (hW:W.length<1000000) (ht:m.trace.length<2000000) (id n:Int) :
 bS Tryz.prog fy [.ptr 0 0, .int .i64 id, .slice .full 1 [[.int .i64 n]]] s (Rl p T W (.tuple []) (m.event W id [n]) (· = y) loc):=
 bS.sy (.cons (Wk.refl _) (.cons (Wk.refl _) (.cons (Wk.shared _ _ _) .nil))) (QK h hW ht id [n])
theorem ae9 (h:Inv p T W y m loc s) {fr:Fr} {r:List Fr} (ht:oy m fr r) {v:Sm} (hv:v.oV) (hW:W.length<1000000) (htr:m.trace.length<2000000) :
 bS Tryz.prog qi [.ptr 0 0, .agg (a8 v)] s (Rl p T W (.int .i64 (m.fI W v).1) (m.fI W v).2 (fun y'=>y' = {y with vd:=y'.vd}) loc):=by
 have h1:=h.new (a8 v)
 have hx:(s.aj++ [a8 v])[s.aj.length]? = some (a8 v):=by simp
 have o9 : ∀ q∈loc,q∈(s.aj.length,a8 v)::loc:=fun q mq=>List.mem_cons_of_mem _ mq
 refine bS.wM AY rfl fun B Q hB hQ=>?_
 have⟨hD,gA,gB,gC⟩:=bP
 rcases Bool.eq_false_or_eq_true v.has with b|b
 ·have c1:=Gz h1 ht (x:=v.x) (by have:=hv.2.2;omega) hv.1
  repeat' (first
 |simp only[go_sem,hD,gA,gB,gC,hx,b]
 | (with_reducible refine aF hQ ?_;exact aP))
  refine CR c1 fun d s2 h2=>?_
  obtain⟨⟨rfl,y2,yl,h2⟩,_⟩:=h2
  have El:=(h2.loc (s.aj.length,a8 v) (List.mem_cons_self ..)).1
  have hw:=iR m v.x
  simp only at El
  rcases Bool.eq_false_or_eq_true (m.bj v.x).1.2 with b2|b2
  ·have c2:=GD h2 hW (by rw [hw.2.2.2.2.2];exact htr) v.id (m.bj v.x).1.1
   repeat' (first
 |simp only[go_sem,hD,gA,gB,gC,El,b2]
 | (with_reducible refine aF hQ ?_;exact aP))
   refine CR c2 fun d s3 h3=>?_
   obtain⟨rfl,y3,rfl,h3⟩:=h3
   repeat' (first
 |simp only[go_sem,hD,gA,gB,gC]
 | (with_reducible refine aF hQ ?_;exact aP))
   (refine iW hQ ?_;simp only[cZ,da,eK,eO,go_sem])
   refine⟨by simp only[Mc.fI,b,if_true],y3,yl, ?_⟩
   simp only[Mc.fI,b,b2,if_true]
   exact h3.sub o9
  ·repeat' (first
 |simp only[go_sem,hD,gA,gB,gC,El,b2]
 | (with_reducible refine aF hQ ?_;exact aP))
   (refine iW hQ ?_;simp only[cZ,da,eK,eO,go_sem])
   refine⟨by simp only[Mc.fI,b,if_true],y2,yl, ?_⟩
   simp only[Mc.fI,b,b2,if_true,Bool.false_eq_true,if_false]
   exact h2.sub o9
 ·have c1:=yk h1 hW htr v.id
  repeat' (first
 |simp only[go_sem,hD,gA,gB,gC,hx,b]
 |(with_reducible refine aF hQ ?_;exact aP))
  refine CR c1 fun d s2 h2=>?_
  obtain⟨rfl,y2,rfl,h2⟩:=h2
  repeat' (first
 |simp only[go_sem,hD,gA,gB,gC]
 |(with_reducible refine aF hQ ?_;exact aP))
  (refine iW hQ ?_;simp only[cZ,da,eK,eO,go_sem])
  refine⟨by simp only[Mc.fI,b,Bool.false_eq_true,if_false],y2,rfl, ?_⟩
  simp only[Mc.fI,b,Bool.false_eq_true,if_false]
  exact h2.sub o9
end
end Go.Abs
namespace Go.Abs
set_option maxRecDepth 8000
open Go.Proofs
section
variable {p:Pg} {T W:List Int} {y:Lay} {m:Mc} {loc:List (Nat×List D)} {s:St}
theorem iu.setAt : ∀ {l:List (List D)} {i:Nat} {r r':List D},l[i]? = some r→kv r r'→iu l (l.set i r')
 |a::l,0,r,r',h,w=>by simp at h;subst h;exact .cons w (iu.refl l)
 |a::l,i+1,r,r',h,w=> .cons (kv.refl a) (iu.setAt (l:=l) (by simpa using h) w)
def Lay.push (y:Lay) (n K:Nat) (sd:D):Lay:= {y with κ:=y.κ++(List.range K).map (n+2 + ·),φ:=(n+1)::y.φ,sd:=sd}
theorem aaD {κ:List Nat} {n K j:Nat} (hj:j<K):(κ++(List.range K).map (n+2 + ·)).getD (κ.length+j) 0=n+2+j:=by
 rw[List.getD_eq_getElem?_getD,List.getElem?_append_right (by omega),show κ.length+j - κ.length=j by omega]
 simp[hj]
theorem GF {κ e:List Nat} {c:Nat} (hc:c<κ.length):(κ++e).getD c 0=κ.getD c 0:=by
 rw[List.getD_eq_getElem?_getD,List.getD_eq_getElem?_getD,List.getElem?_append_left hc]
theorem Ug {κ:List Nat} {n:Nat} (h:n≤κ.length):(List.range n).map (fun c=>κ.getD c 0)=κ.take n:=by
 apply List.ext_getElem?
 intro i
 simp only[List.getElem?_map]
 by_cases hi:i<n
 ·rw [List.getElem?_range hi,List.getElem?_take_of_lt hi,List.getElem?_eq_getElem (show i<κ.length by omega)]
  simp[List.getD_eq_getElem?_getD,List.getElem?_eq_getElem (show i<κ.length by omega)]
 ·rw[List.getElem?_eq_none (by simp;omega),List.getElem?_eq_none (by simp;omega)];rfl
theorem Inv.push (h:Inv p T W y m loc s) {K:Nat} {sd:D} {fr:Fr} {s':St} (hg:p.globals.length≤m.mem.length) (hfv : ∀ c∈fr.vars,c<m.mem.length+K)
 (k : ∀ (o:Nat) (r:List D),s.aj[o]? = some r→o≠0→o∉y.sd.arr→s'.aj[o]? = some r)
 (k0:s'.aj[0]? = some (gh p T W (y.push s.aj.length K sd) m)) (kc : ∀ j,j<K→s'.aj[s.aj.length+2+j]? = some [.int .i64 0])
 (kf:s'.aj[s.aj.length+1]? = some (qW (y.push s.aj.length K sd).κ fr)) (ks:kN s' sd ((y.push s.aj.length K sd).φ.reverse.map Am)) (uv:sd.arr=y.sd.arr∨sd.arr = [s.aj.length+2+K])
 (t0:s'.az[0]? = s.az[0]?) (t1:s'.az[1]? = s.az[1]?) :
 Inv p T W (y.push s.aj.length K sd) {m with st:=fr::m.st,mem:=m.mem++List.replicate K 0} loc s':=by
 have CK:=h.own
 rw[Lay.own,List.nodup_cons,List.nodup_append,List.nodup_append]at CK
 obtain⟨n0,nκ,⟨ns,nv,nsv⟩,N7⟩:=CK
 have lt:=h.vY
 have ltκ : ∀ c∈y.κ,c<s.aj.length:=fun c mc=>lt c (by simp[Lay.own,mc])
 have lts : ∀ c∈y.sd.arr,c<s.aj.length:=fun c mc=>lt c (by simp[Lay.own,mc])
 have ltv : ∀ c∈y.vd.arr,c<s.aj.length:=fun c mc=>lt c (by simp[Lay.own,mc])
 have wT:=h.wT
 have N8 : ∀ o,o∈(y.push s.aj.length K sd).own→o∈y.own∨(s.aj.length+2≤o∧o≤s.aj.length+2+K):=fun o mo=>by
  simp only[Lay.own,Lay.push,List.mem_cons,List.mem_append,List.mem_map,List.mem_range]at mo ⊢
  rcases mo with rfl|(mo|⟨j,hj,rfl⟩)|mo|mo
  ·exact .inl (.inl rfl)
  ·exact .inl (.inr (.inl mo))
  ·exact .inr ⟨by omega,by omega⟩
  ·rcases uv with e | e
   ·rw[e]at mo;exact .inl (.inr (.inr (.inl mo)))
   ·rw[e]at mo;have:=List.mem_singleton.1 mo;exact .inr ⟨by omega,by omega⟩
  ·exact .inl (.inr (.inr (.inr mo)))
 have g : ∀ {o:Nat} {r:List D},s.aj[o]? = some r→o∉y.own→s'.aj[o]? = some r∧o∉(y.push s.aj.length K sd).own:=fun {o r} e hn=>by
  refine⟨k o r e (fun e0=>hn (by rw[e0];simp[Lay.own])) (fun ms=>hn (by simp[Lay.own,ms])),fun mo=>?_⟩
  rcases N8 o mo with mo|mo
  ·exact hn mo
  ·have:=ie e;omega
 have hlen:=h.len
 refine⟨k0,by rw[t0];exact h.t0,by rw[t1];exact h.t1,by simp[Lay.push,hlen],fun i c v e1 e2=>?_,by simp[Lay.push,h.uY],fun i o QM e1 e2=>?_,ks, ?_, ?_,fun q mq=>g (h.loc q mq).1 (h.loc q mq).2⟩
 ·simp only [Lay.push]at e1
  dsimp only at e2
  rcases Nat.lt_or_ge i y.κ.length with hi|hi
  ·rw [List.getElem?_append_left hi]at e1
   rw[List.getElem?_append_left (by omega)]at e2
   have hc:=List.mem_of_getElem? e1
   exact k c _ (h.cell i c v e1 e2) (h.yh (by simp[hc])) (fun ms=>N7 c hc c (List.mem_append_left _ ms) rfl)
  ·rw [List.getElem?_append_right hi]at e1
   rw[List.getElem?_append_right (by omega)]at e2
   have hD:=(List.getElem?_eq_some_iff.1 e1).1
   simp only[List.length_map,List.length_range]at hD
   rw[List.getElem?_map,List.getElem?_range hD]at e1
   rw[List.getElem?_replicate_of_lt (by omega)]at e2
   simp only[Option.map_some,Option.some.injEq]at e1 e2
   subst e1 e2
   exact kc _ hD
 ·cases i with
  |zero=>
   simp only[Lay.push,List.getElem?_cons_zero,Option.some.injEq]at e1 e2
   subst e1 e2
   refine⟨kf,fun mo=>?_,fun c mc=>by simp only[List.length_append,List.length_replicate];exact hfv c mc⟩
   rcases N8 _ mo with mo|mo
   ·have:=lt _ mo;omega
   ·omega
  |succ i=>
   simp only[Lay.push,List.getElem?_cons_succ]at e1 e2
   obtain⟨f1,f2,f3⟩:=h.frame i o QM e1 e2
   obtain⟨f4,f5⟩:=g f1 f2
   exact⟨by simp only[Lay.push];rw[KS (by rw[hlen];exact f3)];exact f4,f5,fun c mc=>by have:=f3 c mc;simp only[List.length_append];omega⟩
 ·obtain⟨l,hl⟩:=h.bD
  refine⟨l,hl.keep fun o mo=>?_⟩
  rw[List.getElem?_eq_getElem (ltv o mo)]
  exact k o _ (List.getElem?_eq_getElem _) (h.yh (by simp[mo])) (fun ms=>nsv o ms o mo rfl)
 ·have Ix:((List.range K).map (s.aj.length+2 + ·)).Nodup:=by
   rw[List.nodup_iff_pairwise_ne,List.pairwise_map]
   exact List.Pairwise.imp (fun h=>by omega) (List.nodup_iff_pairwise_ne.1 List.nodup_range)
  have I5 : ∀ o∈(List.range K).map (s.aj.length+2 + ·),s.aj.length+2≤o∧o<s.aj.length+2+K:=fun o mo=>by
   obtain⟨j,hj,rfl⟩:=List.mem_map.1 mo
   have:=List.mem_range.1 hj;exact⟨by omega,by omega⟩
  have Uh : ∀ o∈sd.arr,(o∈y.sd.arr)∨o=s.aj.length+2+K:=fun o mo=>by
   rcases uv with e|e
   ·rw[e]at mo;exact .inl mo
   ·rw[e]at mo;exact .inr (List.mem_singleton.1 mo)
  simp only[Lay.own,Lay.push]
  rw[List.nodup_cons,List.nodup_append,List.nodup_append,List.nodup_append]
  refine⟨fun mo=>?_,⟨nκ,Ix,fun a ma b mb e=>?_⟩,⟨?_,nv,fun a ma b mb e=>?_⟩,fun a ma b mb e=>?_⟩
  ·simp only [List.mem_append]at mo
   rcases mo with (mo|mo)|mo|mo
   ·exact n0 (by simp[mo])
   ·have:=I5 _ mo;omega
   ·rcases Uh _ mo with mo | mo
    ·exact n0 (by simp[mo])
    ·omega
   ·exact n0 (by simp[mo])
  ·have:=ltκ a ma;have:=I5 b mb;omega
  ·rcases uv with e | e <;> rw [e]
   ·exact ns
   ·simp
  ·rcases Uh a ma with ma | ma
   ·exact nsv a ma b mb e
   ·have:=ltv b mb;omega
  ·rcases List.mem_append.1 ma with ma | ma
   ·rcases List.mem_append.1 mb with mb | mb
    ·rcases Uh b mb with mb | mb
     ·exact N7 a ma b (List.mem_append_left _ mb) e
     ·have:=ltκ a ma;omega
    ·exact N7 a ma b (List.mem_append_right _ mb) e
   ·have:=I5 a ma
    rcases List.mem_append.1 mb with mb|mb
    ·rcases Uh b mb with mb | mb
     ·have:=lts b mb;omega
     ·omega
    ·have:=ltv b mb;omega
theorem afa {gl ps:List (List D)} {bytes:Nat} (hb:(gl.length+ps.length)*(bytes+1)≤bp) (ts:List (Option Nat)) : ∃ (g1 g2:Tag) (z1 z2:Nat) (t1 t2:List (Option Nat)),(∀ os,jW 1 bytes (.slice .full 0 []) (.slice .shared 1 gl) ⟨os,ts⟩=some (.slice g1 z1 gl,⟨os,t1⟩))∧
 (∀ os,jW 1 bytes (.slice g1 z1 gl) (.slice .shared 1 ps) ⟨os,t1⟩=some (.slice g2 z2 (gl++ps),⟨os,t2⟩))∧
 ((g2 = .full∧t2=ts∧gl++ps = [])∨(g2 = .tok ts.length∧z2=1∧t2=ts++ [some (gl++ps).length])):=by
 have h1:gl.length*(bytes+1)≤bp:=Nat.le_trans (Nat.mul_le_mul_right _ (Nat.le_add_right _ _)) hb
 have h2:ps.length*(bytes+1)≤bp:=Nat.le_trans (Nat.mul_le_mul_right _ (Nat.le_add_left _ _)) hb
 cases gl with
 |nil=>
  cases ps with
  |nil=>exact⟨.full, .full,0,0,ts,ts,fun os=>sL os ts,fun os=>sL os ts, .inl ⟨rfl,rfl,rfl⟩⟩
  |cons a ps=>exact⟨.full, .tok ts.length,0,1,ts,_,fun os=>sL os ts,fun os=>sK (by simp) h2 os ts, .inr ⟨rfl,rfl,rfl⟩⟩
 |cons a gl=>
  refine⟨.tok ts.length, .tok ts.length,1,1,ts++ [some (a::gl).length],ts++ [some (a::gl++ps).length],fun os=>sK (by simp) h1 os ts,fun os=>?_, .inr ⟨rfl,rfl,rfl⟩⟩
  rw[pI (size:=1) hb (by simp)]
  simp;omega
theorem QN (h:Inv p T W y m loc s) (hp:p.jE) (hb:p.may=true) {i:Nat} {f:Pc} (hf:p.procs[i]? = some f) (amV:p.find f.name=some f) (iL:m.st.length<1000000) {l:List Nat} (hl : ∀ c∈l,c<m.mem.length) (Bg:l.length<1000000)
 (hg:p.globals.length≤m.mem.length) (call:Int) :
 ∃ y' s',aH Tryz.prog kg [.ptr 0 0, .int .i64 (i:Int), .slice .shared 1 (l.map fun c=>gy (y.κ.getD c 0)), .int .i64 call] s (.int .i64 (m.open p (i:Int) l call).1) s'∧Inv p T W y' (m.open p (i:Int) l call).2 loc s':=by
 have hm:=h.kO
 rw[gh]at hm
 have wJ:=h.wT
 obtain⟨td,p8,sT⟩:=hp.procs
 have x9:=hp.small (List.mem_of_getElem? hf)
 have cV:=fun s=>ai2 hp hb amV s
 have cF:=fun s=>ae8 hb hf s
 have hi:i<p.procs.length:=(List.getElem?_eq_some_iff.1 hf).1
 obtain⟨g1,g2,z1,z2,t1,t2,a1,a2,a3⟩:=afa (gl:=(y.κ.take p.globals.length).map gy) (ps:=l.map fun c=>gy (y.κ.getD c 0)) (bytes:=8) (by simp only[List.length_map,List.length_take];unfold bp;omega) s.az
 have hA : ∀ e:List (List D),(s.aj++e)[0]? = s.aj[0]? :=fun e=>List.getElem?_append_left wJ
 have n0 : ∀ e1 e2:List (List D),(s.aj++e1++e2)[0]? = s.aj[0]? :=fun e1 e2=>by rw[List.append_assoc];exact hA _
 have n1 : ∀ a b:List D,(s.aj++ [a]++ [b])[s.aj.length+1]? = some b:=fun a b=>by simp
 have n2 : ∀ a b:List D,(s.aj++ [a]++ [b])[s.aj.length]? = some a:=fun a b=>by simp
 have n3 : ∀ a b c:List D,(s.aj++ [a]++ [b]).set (s.aj.length+1) c=s.aj++ [a]++ [c]:=fun a b c=>by simp[List.append_assoc,List.set_append_right]
 have n4 : ∀ a:List D,(s.aj++ [a])[s.aj.length]? = some a:=fun a=>by simp
 have n5 : ∀ a b:List D,(s.aj++ [a]).set s.aj.length b=s.aj++ [b]:=fun a b=>by simp
 have hpc:bJ f = [.str f.name, .slice .shared 2 (f.params.map iV), .slice .shared 1 (f.vars.map encStr), .slice .shared 13 (f.body.map a8), .slice .shared 1 (f.fin.map encStr)]:=rfl
 generalize hn:s.aj.length=n at *
 have P0:(m.open p (i:Int) l call).1=dA f.body (-1)∧(m.open p (i:Int) l call).2 = {m with st:=⟨(i:Int),p.globals++f.own,List.range p.globals.length++l++(List.range f.vars.length).map (m.mem.length + ·),call⟩::m.st,mem:=m.mem++List.replicate f.vars.length 0}:=by
  unfold Mc.open
  rw[Int.toNat_natCast,hf]
  exact⟨rfl,rfl⟩
 rw[P0.1,P0.2]
 generalize lx:(y.κ.take p.globals.length).map gy++l.map (fun c=>gy (y.κ.getD c 0))=lA at *
 have hgr:lA.length<2000000:=by rw[← lx];simp only[List.length_append,List.length_map,List.length_take];omega
 have hvl:=x9.vars
 -- the states of the rounds
 let fr:Nat→List D:=fun k=> [.int .i64 (i:Int), .slice .shared 1 ((p.globals++f.own).map encStr), .slice (.tok s.az.length) 1 (lA++(List.range k).map (fun j=>gy (n+2+j))), .int .i64 call]
 obtain⟨O,hO⟩ : ∃ O:Nat→List (List D),∀ k,O k=s.aj++ [bJ f]++ [fr k]++List.replicate k [.int .i64 0]:=⟨_,fun _=>rfl⟩
 have oL : ∀ k,(O k).length=n+2+k:=fun k=>by rw[hO];simp[hn];omega
 have aaE : ∀ k o,o<n→(O k)[o]? = s.aj[o]? :=fun k o ho=>by rw[hO,List.append_assoc,List.append_assoc,List.getElem?_append_left (by omega)]
 have oF : ∀ k,(O k)[n+1]? = some (fr k):=fun k=>by rw[hO,List.getElem?_append_left (by simp[hn])];simp[hn]
 have oC : ∀ k j,j<k→(O k)[n+2+j]? = some [.int .i64 0]:=fun k j hj=>by
  rw[hO,List.getElem?_append_right (by simp only[List.length_append,List.length_singleton,hn];omega)]
  simp only[List.length_append,List.length_singleton,hn]
  rw[show n+2+j - (n+1+1)=j by omega,List.getElem?_replicate_of_lt hj]
 have oF' : ∀ k e,(O k++e)[n+1]? = some (fr k):=fun k e=>by rw[List.getElem?_append_left (by rw[oL];omega)];exact oF k
 have o0 : ∀ k,(O k)[0]? = s.aj[0]? :=fun k=>aaE k 0 wJ
 have o0' : ∀ k e,(O k++e)[0]? = s.aj[0]? :=fun k e=>by rw[List.getElem?_append_left (by rw[oL];omega)];exact o0 k
 have oS : ∀ k,(O k++ [[D.int .i64 0]]).set (n+1) (fr (k+1))=O (k+1):=fun k=>by
  rw[hO,hO,List.replicate_succ']
  simp only[List.append_assoc]
  rw[List.set_append_right _ _ (by omega),hn,show n+1 - n=1 by omega]
  rfl
 have Cl:(List.range p.globals.length++l++(List.range f.vars.length).map (m.mem.length + ·)).map (fun c=>gy ((y.push n f.vars.length .eY).κ.getD c 0))=lA++(List.range f.vars.length).map (fun j=>gy (n+2+j)):=by
  simp only[List.map_append,List.map_map,Lay.push, ← lx]
  congr 1
  ·congr 1
   ·rw [← Ug (by rw [h.len];exact hg),List.map_map]
    exact List.map_congr_left fun c mc=>by simp only[Function.comp];rw[GF (by rw[h.len];have:=List.mem_range.1 mc;omega)]
   ·exact List.map_congr_left fun c mc=>by rw[GF (by rw[h.len];exact hl c mc)]
  ·exact List.map_congr_left fun j mj=>by simp only[Function.comp];rw[← h.len,aaD (List.mem_range.1 mj)]
 have auU:kv (fr f.vars.length) (qW (y.push n f.vars.length .eY).κ ⟨(i:Int),p.globals++f.own,List.range p.globals.length++l++(List.range f.vars.length).map (m.mem.length + ·),call⟩):=by
  unfold qW
  dsimp only
  rw[Cl]
  exact .cons (Wk.refl _) (.cons (Wk.refl _) (.cons (Wk.shared _ _ _) (.cons (Wk.refl _) .nil)))
 -- the stack
 generalize hK:f.vars.length=K at *
 obtain⟨sd,O',e1,e3,e4,e5,e6⟩ : ∃ (sd:D) (O':List (List D)),(∀ tm:Tm,tm.get 70=y.sd→tm.get 72 = .slice .full 1 [[.ptr (n+1) 0]]→aY (.app 1 8 (.s 70) (.s 72)) tm ⟨O K,s.az++ [some (lA.length+K)]⟩=some (sd,⟨O',s.az++ [some (lA.length+K)]⟩))∧
  (∀ (o:Nat) (r:List D),(O K)[o]? = some r→o∉y.sd.arr→O'[o]? = some r)∧kN ⟨O',s.az⟩ sd (((n+1)::y.φ).reverse.map Am)∧(sd.arr=y.sd.arr∨sd.arr = [n+2+K])∧sd.row=some [sd]:=by
  rcases h.stack with ⟨e,e2⟩|⟨so,g,more,e,e2⟩
  ·have hφ:y.φ = []:=by simpa using e2
   refine⟨.dH 1 (n+2+K) 0 1,O K++ [[.int .i64 ((0:Nat):Int), .ptr (n+1) 0]],fun tm h1 h2=>?_,fun o r e _=>by rw[List.getElem?_append_left (ie (s:=⟨O K,[]⟩) e)];exact e, .inr ⟨n+2+K,0,[],by simp[hφ], ?_⟩, .inr rfl,rfl⟩
   ·simp only [aY,X.ev,h1,h2,e]
    rw[F6 _ _ _ (by unfold bp;omega)]
    simp only[oL]
   ·rw [hφ]
    show(O K++ [_])[n+2+K]? = _
    rw[← oL K]
    simp[Am]
  ·have auV:so<n:=by have:=ie e2;omega
   have hlen:(y.φ.reverse.map Am).length=m.st.length:=by simp[h.uY]
   have Xp:(O K)[so]? = some (.int .i64 ((g:Nat):Int)::(y.φ.reverse.map Am++more)):=by rw[aaE K so auV];exact e2
   rw[hlen]at e
   refine⟨.dH 1 so (g+1) (m.st.length+1),(O K).set so (.int .i64 ((g+1:Nat):Int)::(y.φ.reverse.map Am++ [.ptr (n+1) 0])),fun tm h1 h2=>?_,fun o r e hn=>?_, .inr ⟨so,g+1,[],by simp[h.uY], ?_⟩, .inl (by rw[e];rfl),rfl⟩
   ·simp only [aY,X.ev,h1,h2,e]
    rw[N9 (s:=⟨O K,_⟩) Xp (by rw[hlen,Nat.mul_one]) (by unfold bp;omega)]
   ·rw[List.getElem?_set_ne (fun e'=>hn (by rw[‹y.sd=_›, ← e'];simp[D.arr]))];exact e
   ·simp[oL,show so<n+2+K by omega,Am]
 have o'0:O'[0]? = s.aj[0]? :=by
  rw[hm]
  exact e3 0 _ (by rw[o0];exact hm) (fun mo=>(h.yh (by simp[mo])) rfl)
 have o'l:0<O'.length:=ie (s:=⟨O',[]⟩) (o'0.trans hm)
 have o'f:O'[n+1]? = some (fr K):=e3 _ _ (oF K) (fun mo=>by have:=h.vY (n+1) (by simp[Lay.own,mo]);omega)
 let row:=gh p T W (y.push n K sd) {m with st:=⟨(i:Int),p.globals++f.own,List.range p.globals.length++l++(List.range K).map (m.mem.length + ·),call⟩::m.st,mem:=m.mem++List.replicate K 0}
 refine⟨y.push n K sd,⟨(O'.set 0 row).set (n+1) (qW (y.push n K sd).κ ⟨(i:Int),p.globals++f.own,List.range p.globals.length++l++(List.range K).map (m.mem.length + ·),call⟩),s.az++ [some (lA.length+K)]⟩, ?_, ?_⟩
 case refine_2=>
  subst hn
  have gO : ∀ (o:Nat) (r:List D),O'[o]? = some r→o≠0→o≠s.aj.length+1→((O'.set 0 row).set (s.aj.length+1) (qW (y.push s.aj.length K sd).κ ⟨(i:Int),p.globals++f.own,List.range p.globals.length++l++(List.range K).map (m.mem.length + ·),call⟩))[o]? = some r:=fun o r e h1 h2=>by
   rw[List.getElem?_set_ne (Ne.symm h2),List.getElem?_set_ne (Ne.symm h1)];exact e
  refine h.push (K:=K) (sd:=sd) hg (fun c mc=>?_) (fun o r e h1 h2=>?_) ?_ (fun j hj=>?_) ?_ (e4.keep fun o mo=>?_) e5 ?_ ?_
  ·simp only [List.mem_append,List.mem_range,List.mem_map]at mc
   rcases mc with (mc|mc)|⟨x,mc,rfl⟩
   ·omega
   ·have:=hl c mc;omega
   ·omega
  ·have:=ie e
   exact gO o r (e3 o r (by rw[aaE K o this];exact e) h2) h1 (by omega)
  ·rw [List.getElem?_set_ne (by omega)]
   simp[o'l,row]
  ·refine gO _ _ (e3 _ _ (oC K j hj) fun mo=> ?_) (by omega) (by omega)
   have:=h.vY _ (show s.aj.length+2+j∈y.own by simp[Lay.own,mo]);omega
  ·have:=ie (s:=⟨O',[]⟩) o'f
   rw[List.getElem?_set_self (by rw[List.length_set];exact this)]
  ·have:o≠0∧o≠s.aj.length+1:=by
    rcases e5 with e|e
    ·rw [e]at mo
     have h1:=h.vY o (by simp[Lay.own,mo])
     exact⟨h.yh (by simp[mo]),by omega⟩
    ·rw [e]at mo
     have:=List.mem_singleton.1 mo
     exact⟨by omega,by omega⟩
   show(List.set _ _ _)[o]? = _
   rw[List.getElem?_set_ne (Ne.symm this.2),List.getElem?_set_ne (Ne.symm this.1)]
  ·exact List.getElem?_append_left (List.getElem?_eq_some_iff.1 h.t0).1
  ·exact List.getElem?_append_left (List.getElem?_eq_some_iff.1 h.t1).1
 refine bS.up ?_
 refine bS.wM BS rfl fun B Q hB hQ=>?_
 have⟨hD,gA,gB,gC⟩:=bP
 have loop : ∀ d k:Nat,k+d=K→bo Tryz.prog B 82 QCM (iN 0 (lz (jU Tryz.prog B 82 QCT Q) Q))
  [(0, .ptr 0 0),(1, .int .i64 (i:Int)),(10, .ptr (n+1) 0),(52, .int .i64 (K:Int)),(53, .int .i64 (k:Int))] ⟨O k,s.az++ [some (lA.length+k)]⟩:=by
  intro d
  induction d with
  |zero=>
   intro k hk
   have wG:k=K:=by omega
   subst wG
   have hD:decide ((k:Int)<(k:Int))=false:=by simp
   have nD:=o'0.trans hm
   have Iu:=o'f
   have Dx : ∀ r,(O'.set 0 r)[0]? = some r:=fun r=>List.getElem?_set_self o'l
   refine bo.kj ?_
   repeat' (first
 |simp only[go_sem,hD,gA,gB,gC,hm,o0,e1,e6,nD,o'l,Dx]
 |(with_reducible refine CU (cF _) ?_)
 | (with_reducible refine aF hQ ?_;exact aP))
   (refine iW hQ ?_;simp only[cZ,da,eK,eO,go_sem])
   have eI:row = [.dN (gp p) 0, .slice .shared 1 ((y.κ.take p.globals.length).map gy), .slice .shared 1 (T.map cB), .slice .shared 1 (W.map cB),sd,y.vd,
    .int .i64 m.fin, .int .i64 m.steps, .int .i64 m.reads, .slice (.tok 0) 1 (m.out.map cB), .slice (.tok 1) 2 (m.trace.map pR)]:=by
    simp only[row,gh,Lay.push]
    rw[List.take_append_of_le_length (by rw[h.len];exact hg)]
   refine⟨_,⟨(O'.set 0 row).set (n+1) _,_⟩,Wk.refl _, ?_,rfl,rfl,rfl⟩
   rw[eI]
   exact iu.setAt (by rw[List.getElem?_set_ne (by omega)];exact Iu) auU
  | succ d ih=>
   intro k hk
   have hD:decide ((k:Int)<(K:Int))=true:=by simp;omega
   have cd:k<4611686018427387904:=by omega
   have hfk:=oF k
   have ai7:=oF' k [[.int .i64 0]]
   have fP:jW 1 8 (.slice (.tok s.az.length) 1 (lA++(List.range k).map (fun j=>gy (n+2+j)))) (.slice .full 1 [[.ptr (n+2+k) 0]]) ⟨O k++ [[.int .i64 0]],s.az++ [some (lA.length+k)]⟩ =
    some (.slice (.tok s.az.length) 1 (lA++(List.range (k+1)).map (fun j=>gy (n+2+j))),⟨O k++ [[.int .i64 0]],s.az++ [some (lA.length+(k+1))]⟩):=by
    rw[pI (size:=1) (by simp only[List.length_append,List.length_map,List.length_range,List.length_singleton];unfold bp;omega) (by simp)]
    simp[List.range_succ,gy,Nat.add_assoc]
   have oSk:=oS k
   simp only[fr,List.map_append,List.range_succ,List.map_cons,List.map_nil]at hfk ai7 oSk
   refine bo.kj ?_
   repeat' (first
 |simp only[go_sem,hD,gA,gB,gC,hfk,ai7,oL,fP,oSk]
 | (with_reducible refine aF hQ ?_;exact aP))
   refine bo.rB ?_ (ih (k+1) (by omega))
   simp only[go_sem,aM cd]
   repeat' (first|exact Ok.out|with_reducible refine jD ?_ ?_)
 have l0:=loop K 0 (by omega)
 have hO0:O 0=s.aj++ [bJ f]++ [fr 0]:=by rw[hO];simp
 rw[hO0]at l0
 repeat' (first
 |simp only[go_sem,hD,gA,gB,gC,hm,hA,n0,n1,n2,n3,n4,n5,hf,a1,a2,qQ, ← Nl,hn]
 |(with_reducible refine CU (cV _) ?_)
 |(with_reducible refine aF hQ ?_;exact aP))
 simp only[fr,List.range_zero,List.map_nil,List.append_nil,List.map_append]at l0
 rcases a3 with ⟨rfl,rfl,rfl⟩|⟨rfl,rfl,rfl⟩
 ·refine bo.BI (n+1) 2 1 (n1 _ _) rfl ?_
  simp only[n3,List.set_cons_succ,List.set_cons_zero]
  refine bo.rB ?_ l0
  simp only[go_sem,hK]
  repeat' (first|exact Ok.out|with_reducible refine jD ?_ ?_)
 ·refine bo.rB ?_ l0
  simp only[go_sem,hK]
  repeat' (first|exact Ok.out|with_reducible refine jD ?_ ?_)
end
end Go.Abs
namespace Go.Abs
set_option maxRecDepth 8000
open Go.Proofs
section
variable {p:Pg} {T W:List Int} {y:Lay} {m:Mc} {loc:List (Nat×List D)} {s:St}
def ym (fr:Fr) (name:aK) (c:Nat):Prop:=∃ j:Nat,j7 name 0 fr.names=(j:Int)∧fr.vars[j]? = some c
theorem ym.cell {fr:Fr} {name:aK} {c:Nat} (h:ym fr name c) (ht:m.top=fr):m.cell name=c:=by
 obtain⟨j,h1,h2⟩:=h
 unfold Mc.cell
 rw[ht,h1,Int.toNat_natCast,List.getD_eq_getElem?_getD,h2];rfl
theorem Inv.pop (h:Inv p T W y m loc s) {fr:Fr} {r:List Fr} (iL:m.st=fr::r) {so g:Nat} (uv:y.sd = .dH 1 so g (r.length+1)) :
 Inv p T W {y with φ:=y.φ.tail,sd:= .dH 1 so g r.length} {m with st:=r} loc ⟨s.aj.set 0 (gh p T W {y with φ:=y.φ.tail,sd:= .dH 1 so g r.length} {m with st:=r}),s.az⟩:=by
 have jj:(D.dH 1 so g r.length).arr=y.sd.arr:=by rw[uv];rfl
 have Ui:Lay.own {y with φ:=y.φ.tail,sd:= .dH 1 so g r.length} = y.own:=by simp only[Lay.own,jj]
 have ib:=h.uY
 rw[iL]at ib
 have ne : ∀ {q:Nat} {r':List D},s.aj[q]? = some r'→q≠0→(s.aj.set 0 (gh p T W {y with φ:=y.φ.tail,sd:= .dH 1 so g r.length} {m with st:=r}))[q]? = some r':=fun e hn=>by
  rw[List.getElem?_set_ne (Ne.symm hn)];exact e
 have nf : ∀ {q:Nat},q∉y.own→q≠0:=fun hq e=>hq (by rw[e];simp[Lay.own])
 obtain⟨l,hl⟩:=h.bD
 refine⟨by simp[h.wT],h.t0,h.t1,h.len,fun i c v e1 e2=>ne (h.cell i c v e1 e2) (h.yh (by simp[List.mem_of_getElem? e1])),by simp[ib],fun i o QM e1 e2=>?_, ?_,⟨l,hl.keep fun o mo=>?_⟩,by rw[Ui];exact h.own,fun q mq=>?_⟩
 ·obtain⟨f1,f2,f3⟩:=h.frame (i+1) o QM (by simpa [List.getElem?_tail]using e1) (by rw [iL];simpa using e2)
  exact⟨ne f1 (nf f2),by rw[Ui];exact f2,f3⟩
 ·cases hφ:y.φ with
  |nil=>rw[hφ]at ib;simp at ib
  | cons o φ=>
   rw[hφ]at ib
   rcases h.stack with ⟨e,_⟩|⟨so',g',more,e,e2⟩
   ·rw[e]at uv;cases uv
   ·have e':=e
    rw[uv,D.dH.injEq]at e'
    obtain⟨_,rfl,rfl,_⟩:=e'
    refine .inr ⟨so,g,[.ptr o 0]++more,by simp at ib ⊢;omega,ne ?_ (h.yh (by rw[uv];simp[D.arr]))⟩
    rw[e2,hφ]
    simp[Am]
 ·show(s.aj.set 0 _)[o]? = _
  rw[List.getElem?_set_ne (Ne.symm (h.yh (by simp[mo])))]
 ·obtain⟨f1,f2⟩:=h.loc q mq
  exact⟨ne f1 (nf f2),by rw[Ui];exact f2⟩
theorem Oc {L:List Im} {c:Nat} {it:Im} (h:L[c]? = some it) {a:Int} (ha:a=(c:Int)+1):dZ L a=it:=by
 unfold dZ
 rw[ha,show((c:Int)+1 - 1).toNat=c by omega,List.getD_eq_getElem?_getD,h];rfl
theorem afd (h:Inv p T W y m loc s) {fr:Fr} {r:List Fr} (ht:oy m fr r) (hL:p.bb.L.length<1000000)
 (hc:fr.call=0∨∃ (c:Nat) (it:Im) (wS:Fr) (r2:List Fr),fr.call=(c:Int)+1∧p.bb.L[c]? = some it∧oy {m with st:=r} wS r2∧(it.s.name≠ []→∃ k,ym wS it.s.name k)) (Ak:Int) :
 bS Tryz.prog qj [.ptr 0 0, .int .i64 Ak] s (Rl p T W (.int .i64 (m.close p.bb.L Ak).1) (m.close p.bb.L Ak).2 (fun y'=>∃ sd,y' = {y with φ:=y.φ.tail,sd:=sd}) loc):=by
 obtain⟨so,g,cells,o,h1,h2,h3,h4,h5⟩:=h.aaB ht.st
 obtain⟨o',_,QO,c1⟩:=Uf h ht.st ht.len
 have ho:o'=o:=by rw[h5]at *;cases ‹some o=some o'›;rfl
 subst ho
 have hm:=h.kO
 rw[gh,h1]at hm
 have hl:=h.wT
 have hp:=h.pop ht.st h1
 have hpf:=hp.kO
 have hlen:=ht.len
 have hw:IntKind.wrap .i64 (((r.length+1:Nat):Int) - 1)=((r.length:Nat):Int):=by rw[show((r.length+1:Nat):Int) - 1=(r.length:Int) by omega];exact eB (by omega) (by omega)
 have GC:zI (.dH 1 so g (r.length+1)) none (some (.int .i64 (r.length:Int)))=some (.dH 1 so g r.length):=by simp[zI,vz,vA];omega
 have Dx : ∀ r,(s.aj.set 0 r)[0]? = some r:=fun r=>List.getElem?_set_self hl
 rw[qW]at QO
 have nB:m.close p.bb.L Ak=if fr.call==0 then(-1,{{m with st:=r}with fin:=1})else((dZ p.bb.L fr.call).next,if(dZ p.bb.L fr.call).s.name == []then {m with st:=r}else({m with st:=r} : Mc).set (dZ p.bb.L fr.call).s.name Ak):=by
  unfold Mc.close
  rw[ht.top,ht.st];rfl
 rw[nB]
 rcases hc with hc|⟨c,it,wS,r2,hc,sV,vT,hn⟩
 ·rw [hc]at QO
  have e0:((0:Int)==0)=true:=rfl
  have h5:=hp.wi (m':= {{m with st:=r}with fin:=1}) rfl rfl hp.t0 hp.t1
  rw[gh]at h5
  simp only[List.set_set]at h5
  rw[hc,if_pos e0]
  refine bS.wM sR rfl fun B Q hB hQ=>?_
  have⟨hD,gA,gB,gC⟩:=bP
  repeat' (first
 |simp only[go_sem,hD,gA,gB,gC,hm,hl,hw,GC,Dx,QO,e0,List.set_set]
 |(with_reducible refine CU (c1) ?_)
 |(with_reducible refine aF hQ ?_;exact aP))
  (refine iW hQ ?_;simp only[cZ,da,eK,eO,go_sem])
  exact⟨rfl,_,⟨_,rfl⟩,h5⟩
 ·rw [hc]at QO
  have QP:IntKind.wrap .i64 ((c:Int)+1 - 1)=(c:Int):=by
   have:=(List.getElem?_eq_some_iff.1 sV).1
   rw[show(c:Int)+1 - 1=(c:Int) by omega];exact eB (by omega) (by omega)
  have e0:((c:Int)+1==0)=false:=by simp;omega
  have auW:=Oc sV hc
  have hz : ∀ (z:List D) (e:List D),(s.aj.set 0 e++ [z]).set s.aj.length (dM it)=s.aj.set 0 e++ [dM it]:=fun z e=>by simp
  have hg : ∀ z e:List D,(s.aj.set 0 e++ [z])[s.aj.length]? = some z:=fun z e=>by simp
  have cS:(gp p)[2]? = some (.slice .shared 17 (p.bb.L.map dM)):=rfl
  have Bg : ∀ e:List D,(s.aj.set 0 e).length=s.aj.length:=fun e=>List.length_set
  have dw:=hp.new (dM it)
  rw[gh]at dw
  simp only[Bg]at dw
  have CX:dM it = [.int .i64 it.s.id, .int .i64 it.s.kind, .slice .shared 1 (it.s.labels.map encStr), .str it.s.name, .str it.s.proc, .int .i64 it.s.x.op, .int .i64 it.s.x.n, .str it.s.x.name, .slice .shared 4 (it.s.x.kids.map bW), .bool it.s.has, .slice .shared 6 (it.s.args.map fi), .slice .shared 13 (it.s.aO.map a8), .slice .shared 13 (it.s.aN.map a8), .int .i64 it.proc, .int .i64 it.up, .int .i64 it.next, .int .i64 it.loop]:=rfl
  have c3:(dM it)[3]? = some (.str it.s.name):=rfl
  rw[hc,if_neg (by rw[e0];simp),show dZ p.bb.L ((c:Int)+1)=it from hc ▸ auW]
  refine bS.wM sR rfl fun B Q hB hQ=>?_
  have⟨hD,gA,gB,gC⟩:=bP
  rcases Bool.eq_false_or_eq_true (it.s.name == [])with b|b
  ·repeat' (first
 |simp only[go_sem,hD,gA,gB,gC,hm,hl,hw,GC,Dx,QO,e0,QP,sV,hz,hg,Bg,c3,b,cS]
 |(with_reducible refine CU (c1) ?_)
 | (with_reducible refine aF hQ ?_;exact aP))
   (refine iW hQ ?_;simp only[cZ,da,eK,eO,go_sem])
   refine⟨rfl,{y with φ:=y.φ.tail,sd:= .dH 1 so g r.length},⟨_,rfl⟩, ?_⟩
   simp only[b,if_true]
   exact dw.sub fun q mq=>List.mem_cons_of_mem _ mq
  ·obtain⟨k,hk⟩:=hn (by intro e;rw [e]at b;cases b)
   have Od:=hk.cell vT.top
   obtain⟨j,hj,Em⟩:=hk
   have c2:=E3 dw vT.st vT.len vT.names hj Em
   have hkm:k<m.mem.length:=by
    have hlp:=hp.uY
    rw[vT.st]at hlp
    cases hφ:y.φ.tail with
    |nil=>simp[hφ]at hlp
    |cons o2 φ2=>exact(hp.frame 0 o2 wS (by simp[hφ]) (by rw[vT.st];rfl)).2.2 k (List.mem_of_getElem? Em)
   have hκ:y.κ[k]? = some (y.κ.getD k 0):=by
    rw[List.getD_eq_getElem?_getD,List.getElem?_eq_getElem (by have:=h.len;omega)];rfl
   have jA:=dw.cell k _ _ hκ (List.getElem?_eq_getElem hkm)
   have yc:=dw.aax hκ Ak
   have kA:=(yc.loc (s.aj.length,dM it) (List.mem_cons_self ..)).1
   simp only at jA yc kA c2
   have hb:(it.s.name != [])=true:=by simp[bne,b]
   repeat' (first
 |simp only[go_sem,hD,gA,gB,gC,hm,hl,hw,GC,Dx,QO,e0,QP,sV,hz,hg,Bg,c3,b,cS,jA,kA]
 |(with_reducible refine CU (c1) ?_)
 |(with_reducible refine CU (c2) ?_)
 | (with_reducible refine aF hQ ?_;exact aP))
   (refine iW hQ ?_;simp only[cZ,da,eK,eO,go_sem])
   refine⟨rfl,{y with φ:=y.φ.tail,sd:= .dH 1 so g r.length},⟨_,rfl⟩, ?_⟩
   simp only[b,Bool.false_eq_true,if_false,Mc.set,Od]
   exact yc.sub fun q mq=>List.mem_cons_of_mem _ mq
end
end Go.Abs
namespace Go.Abs
set_option maxRecDepth 8000
open Go.Proofs
section
variable {p:Pg} {T W:List Int} {y:Lay} {m:Mc} {loc:List (Nat×List D)} {s:St}
structure ai8 (p:Pg) (fr:Fr) (it:Im):Prop where
 said:it.s.oV
 brk:it.s.kind=7→∃ (c:Nat) (it2:Im),it.loop=(c:Int)+1∧p.bb.L[c]? = some it2
 uW:it.s.kind=10→∃ (i:Nat) (f:Pc),it.proc=(i:Int)∧p.procs[i]? = some f
 name:it.s.kind=1∨it.s.kind=2→∃ k,ym fr it.s.name k
 aO:it.s.aO.length<1000000
 aN:it.s.aN.length<1000000
structure LK (p:Pg) (T W:List Int) (m:Mc):Prop where
 W:W.length<1000000
 T:T.length<1000000
 trace:m.trace.length<2000000
 out:m.out.length<2000000
 L:p.bb.L.length<1000000
 P:Pc.aS p.procs<1000000000
 reads:0≤m.reads∧m.reads<2000000
theorem cell_of (h:Inv p T W y m loc s) {fr:Fr} {r:List Fr} (iL:m.st=fr::r) {c j:Nat} (hc:fr.vars[j]? = some c):y.κ[c]? = some (y.κ.getD c 0)∧∃ v,m.mem[c]? = some v∧s.aj[y.κ.getD c 0]? = some [.int .i64 v]:=by
 have ib:=h.uY
 rw[iL]at ib
 cases hφ:y.φ with
 |nil=>simp[hφ]at ib
 | cons o φ=>
  have Xo:=(h.frame 0 o fr (by simp[hφ]) (by rw[iL];rfl)).2.2 c (List.mem_of_getElem? hc)
  have hκ:y.κ[c]? = some (y.κ.getD c 0):=by
   rw[List.getD_eq_getElem?_getD,List.getElem?_eq_getElem (by have:=h.len;omega)];rfl
  exact⟨hκ,_,List.getElem?_eq_getElem Xo,h.cell c _ _ hκ (List.getElem?_eq_getElem Xo)⟩
set_option maxHeartbeats 1600000 in
theorem auX (hp : p.jE) (aaF : p.may = true) (h : Inv p T W y m loc s) {fr : Fr} {r : List Fr} (ht : oy m fr r) (hz : LK p T W m) {it : Im} (hd : ai8 p fr it) :
   bS Tryz.prog sB [.ptr 0 0, .agg (dM it)] s (Rl p T W (.int .i64 (m.do p p.bb.L T W it).1) (m.do p p.bb.L T W it).2 (fun y' => ∃ vd, y' = { y with vd := vd }) loc) := by
 have h1 := (h.new (dM it)).new (a8 it.s)
 simp only[List.length_append, List.length_singleton]at h1
 have z0 : ∀ z : List D, (s.aj ++ [z])[s.aj.length]? = some z := fun z => by simp
 have z1 : ∀ z : List D, (s.aj ++ [dM it] ++ [z]).set (s.aj.length + 1) (a8 it.s) = s.aj ++ [dM it] ++ [a8 it.s] := fun z => by simp[List.append_assoc, List.set_append_right]
 have z2 : ∀ a z : List D, (s.aj ++ [a] ++ [z])[s.aj.length + 1]? = some z := fun a z => by simp
 have z3 : ∀ a z : List D, (s.aj ++ [a] ++ [z])[s.aj.length]? = some a := fun a z => by simp
 have z4 := h1.kO
 rw[gh]at z4
 have vR := h1.wT
 simp only at z4 vR
 have cS : (gp p)[2]? = some (.slice .shared 17 (p.bb.L.map dM)) := rfl
 have o9 : ∀ q ∈ loc, q ∈ (s.aj.length + 1, a8 it.s) :: (s.aj.length, dM it) :: loc := fun q mq => List.mem_cons_of_mem _ (List.mem_cons_of_mem _ mq)
 generalize hn : s.aj.length = n at *
 have kA : ∀ {y2 : Lay} {m2 : Mc} {s2 : St}, Inv p T W y2 m2 ((n + 1, a8 it.s) :: (n, dM it) :: loc) s2 → s2.aj[n]? = some (dM it) ∧ s2.aj[n + 1]? = some (a8 it.s) ∧ 0 < s2.aj.length := fun h2 =>
   ⟨(h2.loc (n, dM it) (by simp)).1, (h2.loc (n + 1, a8 it.s) (by simp)).1, h2.wT⟩
 rcases Bool.eq_false_or_eq_true (it.s.kind == 7) with b7|b7
 · have c1 := yk h1 hz.W hz.trace it.s.id
   obtain ⟨c, it2, e1, e2⟩ := hd.brk (by simpa using b7)
   have hw : IntKind.wrap .i64 ((c : Int) + 1 - 1) = (c : Int) := by
     have := (List.getElem?_eq_some_iff.1 e2).1
     have := hz.L
     rw[show (c : Int) + 1 - 1 = (c : Int) by omega]; exact eB (by omega) (by omega)
   have Bm : m.do p p.bb.L T W it = (it2.next, m.event W it.s.id []) := by
     unfold Mc.do
     dsimp only
     rw[if_pos b7, Oc e2 e1]
   rw[Bm]
   refine bS.wM jm rfl fun B Q hB hQ =>?_
   have ⟨hD, gA, gB, gC⟩ := bP
   repeat' (first
 |simp only[go_sem, hD, gA, gB, gC, z0, z1, z2, z3, hn, b7]
 | (with_reducible refine aF hQ ?_; exact aP))
   refine CR c1 fun d s2 h2 =>?_
   obtain ⟨rfl, y2, rfl, h2⟩ := h2
   obtain ⟨x1, x2, x3⟩ := kA h2
   have nD := h2.kO
   rw[gh]at nD
   repeat' (first
 |simp only[go_sem, hD, gA, gB, gC, x1, x2, nD, cS, e1, hw, e2]
 | (with_reducible refine aF hQ ?_; exact aP))
   (refine iW hQ ?_; simp only[cZ, da, eK, eO, go_sem])
   exact ⟨rfl, _, ⟨_, rfl⟩, h2.sub o9⟩
 rcases Bool.eq_false_or_eq_true (it.s.kind == 8) with b8|b8
 · have c1 := yk h1 hz.W hz.trace it.s.id
   have Bm : m.do p p.bb.L T W it = (it.loop, m.event W it.s.id []) := by
     unfold Mc.do
     dsimp only
     rw[if_neg (by simp[b7]), if_pos b8]
   rw[Bm]
   refine bS.wM jm rfl fun B Q hB hQ =>?_
   have ⟨hD, gA, gB, gC⟩ := bP
   repeat' (first
 |simp only[go_sem, hD, gA, gB, gC, z0, z1, z2, z3, hn, b7, b8]
 | (with_reducible refine aF hQ ?_; exact aP))
   refine CR c1 fun d s2 h2 =>?_
   obtain ⟨rfl, y2, rfl, h2⟩ := h2
   obtain ⟨x1, x2, x3⟩ := kA h2
   repeat' (first
 |simp only[go_sem, hD, gA, gB, gC, x1, x2]
 | (with_reducible refine aF hQ ?_; exact aP))
   (refine iW hQ ?_; simp only[cZ, da, eK, eO, go_sem])
   exact ⟨rfl, _, ⟨_, rfl⟩, h2.sub o9⟩
 rcases Bool.eq_false_or_eq_true (it.s.kind == 10) with CZ|CZ
 · have c1 := yk h1 hz.W hz.trace it.s.id
   obtain ⟨i, f, e1, e2⟩ := hd.uW (by simpa using CZ)
   have cA := fun s => aiB hp aaF e2 it.s.name s
   have Bm : m.do p p.bb.L T W it = ((gP f.fin it.s.name (Sm.bH f.body)).1, m.event W it.s.id []) := by
     unfold Mc.do
     dsimp only
     rw[if_neg (by simp[b7]), if_neg (by simp[b8]), if_pos CZ, e1, Int.toNat_natCast, e2]
   rw[Bm]
   refine bS.wM jm rfl fun B Q hB hQ =>?_
   have ⟨hD, gA, gB, gC⟩ := bP
   repeat' (first
 |simp only[go_sem, hD, gA, gB, gC, z0, z1, z2, z3, hn, b7, b8, CZ]
 | (with_reducible refine aF hQ ?_; exact aP))
   refine CR c1 fun d s2 h2 =>?_
   obtain ⟨rfl, y2, rfl, h2⟩ := h2
   obtain ⟨x1, x2, x3⟩ := kA h2
   have nD := h2.kO
   rw[gh]at nD
   repeat' (first
 |simp only[go_sem, hD, gA, gB, gC, x1, x2, nD, e1]
 |(with_reducible refine CU (cA _) ?_)
 | (with_reducible refine aF hQ ?_; exact aP))
   (refine iW hQ ?_; simp only[cZ, da, eK, eO, go_sem])
   exact ⟨rfl, _, ⟨_, rfl⟩, h2.sub o9⟩
 rcases Bool.eq_false_or_eq_true (it.s.kind == 2) with b2|b2
 · obtain ⟨k, hk⟩ := hd.name (.inr (by simpa using b2))
   have jI := hz.reads
   have QQ := hz.T
   have L7 := jI.1
   have aC0 : ∀ r, ((s.aj ++ [dM it] ++ [a8 it.s]).set 0 r)[0]? = some r := fun r => List.getElem?_set_self vR
   cases e : T[m.reads.toNat]? with
   | none =>
     have yI : decide (m.reads ≥ (T.length : Int)) = true := by have := List.getElem?_eq_none_iff.1 e; simp; omega
     have Bm : m.do p p.bb.L T W it = (-1, { m with fin := 3 }) := by
       unfold Mc.do
       dsimp only
       rw[if_neg (by simp[b7]), if_neg (by simp[b8]), if_neg (by simp[CZ]), if_pos b2, e]
     rw[Bm]
     have h2 := h1.wi (m' := { m with fin := 3 }) rfl rfl h1.t0 h1.t1
     rw[gh]at h2
     simp only at h2
     refine bS.wM jm rfl fun B Q hB hQ =>?_
     have ⟨hD, gA, gB, gC⟩ := bP
     repeat' (first
 |simp only[go_sem, hD, gA, gB, gC, z0, z1, z2, z3, z4, hn, b7, b8, CZ, b2, yI, vR]
 | (with_reducible refine aF hQ ?_; exact aP))
     (refine iW hQ ?_; simp only[cZ, da, eK, eO, go_sem])
     exact ⟨rfl, _, ⟨_, rfl⟩, h2.sub o9⟩
   | some v =>
     have yI : decide (m.reads ≥ (T.length : Int)) = false := by have := (List.getElem?_eq_some_iff.1 e).1; simp; omega
     have Xq : IntKind.wrap .i64 (m.reads + 1) = m.reads + 1 := eB (by omega) (by omega)
     have Od := hk.cell ht.top
     obtain ⟨j, hj, Em⟩ := hk
     have Bm : m.do p p.bb.L T W it = (it.next, (({ m with reads := m.reads + 1, mem := m.mem.set k v } : Mc).event W it.s.id [v])) := by
       unfold Mc.do
       dsimp only
       rw[if_neg (by simp[b7]), if_neg (by simp[b8]), if_neg (by simp[CZ]), if_pos b2, e]
       have : ({ m with reads := m.reads + 1 } : Mc).cell it.s.name = k := Od
       simp only[Mc.set, this]
     rw[Bm]
     have h2 := h1.wi (m' := { m with reads := m.reads + 1 }) rfl rfl h1.t0 h1.t1
     have vT : oy ({ m with reads := m.reads + 1 } : Mc) fr r := ⟨ht.st, ht.len, ht.names, ht.vars⟩
     have c2 := E3 h2 vT.st vT.len vT.names hj Em
     obtain ⟨hκ, v0, g1, g2⟩ := cell_of h2 vT.st Em
     have h3 := h2.aax hκ v
     have c3 := GD h3 hz.W hz.trace it.s.id v
     obtain ⟨x1, x2, x3⟩ := kA h3
     obtain ⟨x4, x5, x6⟩ := kA h2
     rw[gh]at c2 g2 c3 x1 x2 x4 x5
     simp only at c2 g2 c3 x1 x2 x4 x5
     refine bS.wM jm rfl fun B Q hB hQ =>?_
     have ⟨hD, gA, gB, gC⟩ := bP
     repeat' (first
 |simp only[go_sem, hD, gA, gB, gC, z0, z1, z2, z3, z4, hn, b7, b8, CZ, b2, yI, vR, e, Xq, L7, x1, x2, x4, x5, g2]
 |(with_reducible refine CU (c2) ?_)
 |(with_reducible refine aF hQ ?_; exact aP))
     refine CR c3 fun d s2 h4 =>?_
     obtain ⟨rfl, y2, rfl, h4⟩ := h4
     obtain ⟨x1, x2, x3⟩ := kA h4
     repeat' (first
 |simp only[go_sem, hD, gA, gB, gC, x1, x2]
 |(with_reducible refine aF hQ ?_; exact aP))
     (refine iW hQ ?_; simp only[cZ, da, eK, eO, go_sem])
     exact ⟨rfl, _, ⟨_, rfl⟩, h4.sub o9⟩
 -- an expression is reckoned
 have hx : it.s.x.size < 1000000 := by have := hd.said.2.2; omega
 have c1 := Gz h1 ht hx hd.said.1
 rcases Bool.eq_false_or_eq_true (m.bj it.s.x).1.2 with bw|bw
 case inr =>
   have Bm : m.do p p.bb.L T W it = (-1, (m.bj it.s.x).2) := by
     unfold Mc.do
     dsimp only
     rw[if_neg (by simp[b7]), if_neg (by simp[b8]), if_neg (by simp[CZ]), if_neg (by simp[b2]), if_neg (by simp[bw])]
   rw[Bm]
   refine bS.wM jm rfl fun B Q hB hQ =>?_
   have ⟨hD, gA, gB, gC⟩ := bP
   repeat' (first
 |simp only[go_sem, hD, gA, gB, gC, z0, z1, z2, z3, hn, b7, b8, CZ, b2]
 | (with_reducible refine aF hQ ?_; exact aP))
   refine CR c1 fun d s2 h2 =>?_
   obtain ⟨⟨rfl, y2, yl, h2⟩, _⟩ := h2
   repeat' (first
 |simp only[go_sem, hD, gA, gB, gC, bw]
 | (with_reducible refine aF hQ ?_; exact aP))
   (refine iW hQ ?_; simp only[cZ, da, eK, eO, go_sem])
   exact ⟨rfl, y2, ⟨_, yl⟩, h2.sub o9⟩
 have Xr : (m.bj it.s.x).2 = m := by
   unfold Mc.bj
   dsimp only
   rw[if_pos (show (it.s.x.bj m.top.names m.bD).2 = true from bw)]
 have Bm : m.do p p.bb.L T W it = (let m1 := m.event W it.s.id [(m.bj it.s.x).1.1]; let n := (m.bj it.s.x).1.1
     if it.s.kind == 1 then (it.next, m1.set it.s.name n) else if it.s.kind == 3 then (it.next, { m1 with out := m1.out ++ [n] })
     else if it.s.kind == 5 then (if n == 0 then firstM it.s.aN it.next else firstM it.s.aO it.next, m1) else if it.s.kind == 6 then (if n == 0 then it.next else firstM it.s.aO it.s.id, m1) else (it.next, m1)) := by
   unfold Mc.do
   dsimp only
   rw[if_neg (by simp[b7]), if_neg (by simp[b8]), if_neg (by simp[CZ]), if_neg (by simp[b2]), if_pos bw, Xr]
 rw[Bm]
 rw[Xr]at c1
 generalize hR : (m.bj it.s.x).1 = R at *
 obtain ⟨v, ok⟩ := R
 subst bw
 dsimp only
 have he := fF W m it.s.id [v]
 have Xs : oy (m.event W it.s.id [v]) fr r := ⟨by rw[he.1]; exact ht.st, ht.len, ht.names, ht.vars⟩
 have nb : (v != 0) = !(v == 0) := rfl
 have fT := fun o s => QL it.s.aO (by have := hd.aO; omega) o s
 have fE := fun o s => QL it.s.aN (by have := hd.aN; omega) o s
 refine bS.wM jm rfl fun B Q hB hQ =>?_
 have ⟨hD, gA, gB, gC⟩ := bP
 repeat' (first
 |simp only[go_sem, hD, gA, gB, gC, z0, z1, z2, z3, hn, b7, b8, CZ, b2]
 |(with_reducible refine aF hQ ?_; exact aP))
 refine CR c1 fun d s2 h2 =>?_
 obtain ⟨⟨rfl, y2, yl, h2⟩, _⟩ := h2
 obtain ⟨x1, x2, x3⟩ := kA h2
 have c2 := GD h2 hz.W hz.trace it.s.id v
 repeat' (first
 |simp only[go_sem, hD, gA, gB, gC, x1, x2]
 |(with_reducible refine aF hQ ?_; exact aP))
 refine CR c2 fun d s3 h3 =>?_
 obtain ⟨rfl, y3, rfl, h3⟩ := h3
 obtain ⟨x1, x2, x3⟩ := kA h3
 have v7 := h3.kO
 rw[gh]at v7
 rcases Bool.eq_false_or_eq_true (it.s.kind == 1) with b1|b1
 · obtain ⟨k, hk⟩ := hd.name (.inl (by simpa using b1))
   have Od := hk.cell Xs.top
   obtain ⟨j, hj, Em⟩ := hk
   have c3 := E3 h3 Xs.st Xs.len Xs.names hj Em
   obtain ⟨hκ, v0, g1, g2⟩ := cell_of h3 Xs.st Em
   have h4 := h3.aax hκ v
   obtain ⟨x4, x5, x6⟩ := kA h4
   simp only at x4 x5
   repeat' (first
 |simp only[go_sem, hD, gA, gB, gC, x1, x2, b1, g2, x4, x5]
 |(with_reducible refine CU (c3) ?_)
 | (with_reducible refine aF hQ ?_; exact aP))
   (refine iW hQ ?_; simp only[cZ, da, eK, eO, go_sem])
   rw[if_pos b1]
   refine ⟨rfl, y3, ⟨_, yl⟩, ?_⟩
   simp only[Mc.set, Od]
   exact h4.sub o9
 rw[if_neg (by simp[b1])]at hQ
 rcases Bool.eq_false_or_eq_true (it.s.kind == 3) with b3|b3
 · rw [if_pos b3] at hQ
   have fP : jW 1 8 (.slice (.tok 0) 1 ((m.event W it.s.id [v]).out.map cB)) (.slice .full 1 [[.int .i64 v]]) s3 = some (.slice (.tok 0) 1 (((m.event W it.s.id [v]).out ++ [v]).map cB), ⟨s3.aj, s3.az.set 0 (some ((m.event W it.s.id [v]).out.length + 1))⟩) := by
     rw[pI (size := 1) (by simp only[List.length_map, List.length_singleton, he.2.2.2.2.2]; have := hz.out; unfold bp; omega) (by simpa using h3.t0)]
     simp[cB]
   have h4 := h3.wi (m' := { m.event W it.s.id [v] with out := (m.event W it.s.id [v]).out ++ [v] }) (ts := s3.az.set 0 (some ((m.event W it.s.id [v]).out.length + 1))) rfl rfl (by simp[(List.getElem?_eq_some_iff.1 h3.t0).1]) (by rw[List.getElem?_set_ne (by omega)]; exact h3.t1)
   obtain ⟨x4, x5, x6⟩ := kA h4
   rw[gh]at h4 x4 x5
   simp only[List.map_append, List.map_cons, List.map_nil, cB]at h4 x4 x5 fP
   repeat' (first
 |simp only[go_sem, hD, gA, gB, gC, x1, x2, b1, b3, v7, fP, x3, x4, x5]
 | (with_reducible refine aF hQ ?_; exact aP))
   (refine iW hQ ?_; simp only[cZ, da, eK, eO, go_sem])
   exact ⟨rfl, y3, ⟨_, yl⟩, h4.sub o9⟩
 rw[if_neg (by simp[b3])]at hQ
 rcases Bool.eq_false_or_eq_true (it.s.kind == 5) with b5|b5
 · rw [if_pos b5] at hQ
   rcases Bool.eq_false_or_eq_true (v == 0) with bv|bv
   · rw [if_pos bv] at hQ
     repeat' (first
 |simp only[go_sem, hD, gA, gB, gC, x1, x2, b1, b3, b5, nb, bv]
 |(with_reducible refine CU (fT _ _) ?_)
 |(with_reducible refine CU (fE _ _) ?_)
 | (with_reducible refine aF hQ ?_; exact aP))
     (refine iW hQ ?_; simp only[cZ, da, eK, eO, go_sem])
     exact ⟨rfl, y3, ⟨_, yl⟩, h3.sub o9⟩
   · rw [if_neg (by simp [bv])] at hQ
     repeat' (first
 |simp only[go_sem, hD, gA, gB, gC, x1, x2, b1, b3, b5, nb, bv]
 |(with_reducible refine CU (fT _ _) ?_)
 |(with_reducible refine CU (fE _ _) ?_)
 |(with_reducible refine aF hQ ?_; exact aP))
     (refine iW hQ ?_; simp only[cZ, da, eK, eO, go_sem])
     exact ⟨rfl, y3, ⟨_, yl⟩, h3.sub o9⟩
 rw[if_neg (by simp[b5])]at hQ
 rcases Bool.eq_false_or_eq_true (it.s.kind == 6) with b6|b6
 · rw [if_pos b6] at hQ
   rcases Bool.eq_false_or_eq_true (v == 0) with bv|bv
   · rw [if_pos bv] at hQ
     repeat' (first
 |simp only[go_sem, hD, gA, gB, gC, x1, x2, b1, b3, b5, b6, nb, bv]
 |(with_reducible refine CU (fT _ _) ?_)
 |(with_reducible refine CU (fE _ _) ?_)
 | (with_reducible refine aF hQ ?_; exact aP))
     (refine iW hQ ?_; simp only[cZ, da, eK, eO, go_sem])
     exact ⟨rfl, y3, ⟨_, yl⟩, h3.sub o9⟩
   · rw [if_neg (by simp [bv])] at hQ
     repeat' (first
 |simp only[go_sem, hD, gA, gB, gC, x1, x2, b1, b3, b5, b6, nb, bv]
 |(with_reducible refine CU (fT _ _) ?_)
 |(with_reducible refine CU (fE _ _) ?_)
 |(with_reducible refine aF hQ ?_; exact aP))
     (refine iW hQ ?_; simp only[cZ, da, eK, eO, go_sem])
     exact ⟨rfl, y3, ⟨_, yl⟩, h3.sub o9⟩
 rw[if_neg (by simp[b6])]at hQ
 repeat' (first
 |simp only[go_sem, hD, gA, gB, gC, x1, x2, b1, b3, b5, b6]
 |(with_reducible refine aF hQ ?_; exact aP))
 (refine iW hQ ?_; simp only[cZ, da, eK, eO, go_sem])
 exact ⟨rfl, y3, ⟨_, yl⟩, h3.sub o9⟩
end
end Go.Abs
namespace Go.Abs
set_option maxRecDepth 8000
open Go.Proofs
section
variable {p:Pg} {T W:List Int} {y:Lay} {m:Mc} {loc:List (Nat×List D)} {s:St}
theorem Cm : ∀ (l:List Ar) (m:Mc) (out:List Nat),(Mc.args l m out).2.out=m.out∧(Mc.args l m out).2.trace=m.trace
 | [],m,out=>⟨rfl,rfl⟩
 | a::l,m,out=>by
  have hw:=iR m a.x
  simp only[Mc.args]
  by_cases c:a.ref=true
  ·rw[if_pos c];exact Cm l m _
  ·rw [if_neg c]
   by_cases c2:(m.bj a.x).1.2=true
   ·rw [if_pos c2]
    obtain⟨h1,h2⟩:=Cm l {(m.bj a.x).2 with mem:=(m.bj a.x).2.mem++ [(m.bj a.x).1.1]} (out++ [(m.bj a.x).2.mem.length])
    exact⟨h1.trans hw.2.2.2.2.1,h2.trans hw.2.2.2.2.2⟩
   ·rw[if_neg c2];exact⟨hw.2.2.2.2.1,hw.2.2.2.2.2⟩
structure Xt (p:Pg) (fr:Fr) (v:Sm):Prop where
 said:v.oV
 args : ∀ a∈v.args,a.x.texts∧a.x.size<1000000∧(a.ref=true→∃ k,ym fr a.name k)
 proc : ∃ (j:Nat) (q:Pc),p.at v.proc=(j:Int)∧p.procs[j]? = some q∧p.find q.name=some q
theorem Xu (hp:p.jE) (aaF:p.may=true) (h:Inv p T W y m loc s) {fr:Fr} {r:List Fr} (ht:oy m fr r) (hz:LK p T W m) (hg:p.globals.length≤m.mem.length) {v:Sm} (hd:Xt p fr v) :
 bS Tryz.prog qJ [.ptr 0 0, .agg (a8 v)] s (Rl p T W (.int .i64 (m.call p W v).1) (m.call p W v).2 (fun _=>True) loc):=by
 have h1:=h.new (a8 v)
 have Mb:2≤s.az.length:=by have:=(List.getElem?_eq_some_iff.1 h.t1).1;omega
 generalize hn:s.aj.length=n at h1
 generalize P6:s.az.length=tk at Mb
 have sQ:v.args.length<1000000:=by have:=hd.said.2.2;have:=Ar.dr v.args;omega
 have aC1:=ht.st
 refine bS.wM BT rfl fun B Q hB hQ=>?_
 have⟨hD,gA,gB,gC⟩:=bP
 have loop : ∀ (rest:List Ar) (k:Nat) (m1:Mc) (out:List Nat) (y1:Lay) (s1:St),v.args.drop k=rest→Mc.args v.args m [] = Mc.args rest m1 out→m1.st=m.st→m1.trace=m.trace∧m1.out=m.out→m.mem.length≤m1.mem.length→out.length=k∧k≤v.args.length→(∀ c∈out,c<m1.mem.length)→
  Inv p T W y1 m1 ((n,a8 v)::loc) s1→s1.az[tk]? = some (some out.length)→
  bo Tryz.prog B 67 QDV (iN 0 (lz (jU Tryz.prog B 67 QEA Q) Q))
   [(0, .ptr 0 0),(3, .ptr n 0),(5, .slice (.tok tk) 1 (out.map fun c=>gy (y1.κ.getD c 0))),(12, .slice .shared 6 (v.args.map fi)),(13, .int .i64 (v.args.length:Int)),(14, .int .i64 (k:Int))] s1:=by
  intro rest
  induction rest with
  | nil=>
   intro k m1 out y1 s1 DL qT xu Dy vR yG rp h2 aaG
   have hD:=drop_nil DL
   have ze:oy m1 fr r:=⟨by rw[xu];exact ht.st,ht.len,ht.names,ht.vars⟩
   obtain⟨so,g,cells,o,e1,e2,e3,e4,e5⟩:=h2.aaB ze.st
   have nD:=h2.kO
   rw[gh,e1]at nD
   have El:=(h2.loc (n,a8 v) (by simp)).1
   have ku:=h2.wT
   have JZ:m.call p W v=if m1.st.length > 100 then(-1,{m1 with fin:=5})else(m1.event W v.id []).open p (p.at v.proc) out v.id:=by
    unfold Mc.call
    rw[qT]
    rfl
   have hlen:m1.st.length=r.length+1:=by rw[ze.st];rfl
   rw[JZ,hlen]at hQ
   simp only at El
   refine bo.kj ?_
   by_cases ZX:r.length+1 > 100
   ·have Uj:decide (((r.length+1:Nat):Int) > 100)=true:=by simp;omega
    rw[if_pos ZX]at hQ
    have h3:=h2.wi (m':= {m1 with fin:=5}) rfl rfl h2.t0 h2.t1
    rw[gh,e1]at h3
    simp only at h3
    repeat' (first
 |simp only[go_sem,hD,gA,gB,gC,nD,El,Uj,ku]
 | (with_reducible refine aF hQ ?_;exact aP))
    (refine iW hQ ?_;simp only[cZ,da,eK,eO,go_sem])
    exact⟨rfl,y1,trivial,h3.sub fun q mq=>List.mem_cons_of_mem _ mq⟩
   ·have Uj:decide (((r.length+1:Nat):Int) > 100)=false:=by simp;omega
    rw[if_neg ZX]at hQ
    have c1:=yk h2 hz.W (by rw[Dy.1];exact hz.trace) v.id
    repeat' (first
 |simp only[go_sem,hD,gA,gB,gC,nD,El,Uj,ku]
 | (with_reducible refine aF hQ ?_;exact aP))
    refine CR c1 fun d s3 h3=>?_
    obtain⟨rfl,y3,rfl,h3⟩:=h3
    have he:=fF W m1 v.id []
    obtain⟨j,q,j1,j2,j3⟩:=hd.proc
    obtain⟨y4,s4,hF,h4⟩:=QN h3 hp aaF j2 j3 (by rw[he.1,hlen];have:=ht.len;omega) (l:=out) (by rw[he.2.1];exact rp) (by omega) (by rw[he.2.1];omega) v.id
    have hF':=fun g:Tag=>bS.sy (.cons (Wk.refl _) (.cons (Wk.refl _) (.cons (Wk.shared g 1 _) (kv.refl _)))) hF
    have hF2:aH Tryz.prog kg [.ptr 0 0, .int .i64 (j:Int), .slice (.tok tk) 1 (out.map fun c=>gy (y3.κ.getD c 0)), .int .i64 v.id] s3 _ s4:=hF' _
    have cP:=fun s=>HN (p:=p) (by have:=hp.procs.1;omega) v.proc s
    have v7:=h3.kO
    rw[gh]at v7
    have hx3:=(h3.loc (n,a8 v) (by simp)).1
    simp only at hx3
    rw[j1]at hQ cP
    repeat' (first
 |simp only[go_sem,hD,gA,gB,gC,v7,hx3]
 |(with_reducible refine CU (cP _) ?_)
 |(with_reducible refine CU (hF2) ?_)
 | (with_reducible refine aF hQ ?_;exact aP))
    (refine iW hQ ?_;simp only[cZ,da,eK,eO,go_sem])
    exact⟨rfl,y4,trivial,h4.sub fun q mq=>List.mem_cons_of_mem _ mq⟩
  | cons a rest ih=>
   intro k m1 out y1 s1 DL qT xu Dy vR yG rp h2 aaG
   obtain⟨gA,g2,hD,g4⟩:=drop_cons DL
   have cd:k<4611686018427387904:=by omega
   obtain⟨a1,a2,a3⟩:=hd.args a (List.mem_of_getElem? gA)
   have ze:oy m1 fr r:=⟨by rw[xu];exact ht.st,ht.len,ht.names,ht.vars⟩
   have h3:=h2.new (fi a)
   have zq : ∀ z:List D,(s1.aj++ [z]).set s1.aj.length (fi a)=s1.aj++ [fi a]:=fun z=>by simp
   have zg : ∀ z:List D,(s1.aj++ [z])[s1.aj.length]? = some z:=fun z=>by simp
   have fP : ∀ (x:Nat) (os:List (List D)),jW 1 8 (.slice (.tok tk) 1 (out.map fun c=>gy (y1.κ.getD c 0))) (.slice .full 1 [[.ptr x 0]]) ⟨os,s1.az⟩=some (.slice (.tok tk) 1 ((out.map fun c=>gy (y1.κ.getD c 0))++ [gy x]),⟨os,s1.az.set tk (some (out.length+1))⟩):=fun x os=>by
    rw[pI (size:=1) (by simp only[List.length_map,List.length_singleton];unfold bp;omega) (by simpa using aaG)]
    simp[gy]
   have GG : ∀ k':Nat,(s1.az.set tk (some k'))[0]? = s1.az[0]? ∧(s1.az.set tk (some k'))[1]? = s1.az[1]? ∧(s1.az.set tk (some k'))[tk]? = some (some k'):=fun k'=>
    ⟨List.getElem?_set_ne (by omega),List.getElem?_set_ne (by omega),by simp[(List.getElem?_eq_some_iff.1 aaG).1]⟩
   refine bo.kj ?_
   rcases Bool.eq_false_or_eq_true a.ref with b|b
   ·obtain⟨c,hc⟩:=a3 b
    have Od:=hc.cell ze.top
    obtain⟨j,hj,Em⟩:=hc
    have c1:=E3 h3 ze.st ze.len ze.names hj Em
    obtain⟨hκ,v0,gm,_⟩:=cell_of h2 ze.st Em
    have yO:=(List.getElem?_eq_some_iff.1 gm).1
    repeat' (first
 |simp only[go_sem,hD,gA,gB,gC,gA,zq,zg,b,fP]
 |(with_reducible refine CU (c1) ?_)
 | (with_reducible refine aF hQ ?_;exact aP))
    have:=ih (k+1) m1 (out++ [c]) y1 ⟨s1.aj++ [fi a],s1.az.set tk (some (out.length+1))⟩ g2 (by rw[qT];simp only[Mc.args,b,if_true,Od]) xu Dy vR ⟨by simp[yG.1],g4⟩ (fun x mx=>by
     rcases List.mem_append.1 mx with mx|mx
     ·exact rp x mx
     ·rw[List.mem_singleton.1 mx];exact yO) ((h3.sub fun q mq=>List.mem_cons_of_mem _ mq).keep (fun _ _ e=>e) (GG _).1 (GG _).2.1) (by simpa using (GG _).2.2)
    refine bo.rB ?_ this
    simp only[go_sem,aM cd,List.map_append,List.map_cons,List.map_nil]
    repeat' (first|exact Ok.out|with_reducible refine jD ?_ ?_)
   ·have c1:=Gz h3 ze a2 a1
    repeat' (first
 |simp only[go_sem,hD,gA,gB,gC,gA,zq,zg,b]
 | (with_reducible refine aF hQ ?_;exact aP))
    refine CR c1 fun d s2 h4=>?_
    obtain⟨⟨rfl,y2,yl,h4⟩,xD⟩:=h4
    have hw:=iR m1 a.x
    simp only at xD
    rcases Bool.eq_false_or_eq_true (m1.bj a.x).1.2 with bw|bw
    ·have Xr:(m1.bj a.x).2=m1:=by
      unfold Mc.bj
      dsimp only
      rw[if_pos (show(a.x.bj m1.top.names m1.bD).2=true from bw)]
     rw[Xr]at h4
     have yq : ∀ z:List D,(s2.aj++ [z]).set s2.aj.length [.int .i64 (m1.bj a.x).1.1] = s2.aj++ [[.int .i64 (m1.bj a.x).1.1]]:=fun z=>by simp
     have yg : ∀ z:List D,(s2.aj++ [z])[s2.aj.length]? = some z:=fun z=>by simp
     rw[← xD]at fP GG
     have h5:=h4.auP (m1.bj a.x).1.1 (by omega)
     have hyκ:y2.κ=y1.κ:=by rw[yl]
     have amY:y1.κ.length=m1.mem.length:=h2.len
     repeat' (first
 |simp only[go_sem,hD,gA,gB,gC,bw,yq,yg,fP]
 | (with_reducible refine aF hQ ?_;exact aP))
     have:=ih (k+1) {m1 with mem:=m1.mem++ [(m1.bj a.x).1.1]} (out++ [m1.mem.length]) {y2 with κ:=y2.κ++ [s2.aj.length]} ⟨s2.aj++ [[.int .i64 (m1.bj a.x).1.1]],s2.az.set tk (some (out.length+1))⟩ g2
      (by rw [qT];simp only [Mc.args,b,Bool.false_eq_true,if_false,bw,if_true,Xr]) xu Dy (by simp;omega) ⟨by simp [yG.1],g4⟩ (fun x mx=>by
       simp only[List.length_append,List.length_singleton]
       rcases List.mem_append.1 mx with mx|mx
       ·have:=rp x mx;omega
       ·rw[List.mem_singleton.1 mx];omega) ((h5.sub fun q mq=>List.mem_cons_of_mem _ mq).keep (fun _ _ e=>e) (GG _).1 (GG _).2.1) (by simpa using (GG _).2.2)
     refine bo.rB ?_ this
     have au0:(out.map fun c=>gy ((y2.κ++ [s2.aj.length]).getD c 0))=out.map fun c=>gy (y1.κ.getD c 0):=List.map_congr_left fun c mc=>by rw[hyκ,GF (by have:=rp c mc;omega)]
     have dw:(y2.κ++ [s2.aj.length]).getD m1.mem.length 0=s2.aj.length:=by rw[hyκ, ← amY];simp[List.getD_eq_getElem?_getD]
     simp only[go_sem,aM cd,List.map_append,List.map_cons,List.map_nil,au0,dw]
     repeat' (first|exact Ok.out|with_reducible refine jD ?_ ?_)
    ·repeat' (first
 |simp only[go_sem,hD,gA,gB,gC,bw]
 |(with_reducible refine aF hQ ?_;exact aP))
     (refine iW hQ ?_;simp only[cZ,da,eK,eO,go_sem])
     have JZ:m.call p W v=(-1,(m1.bj a.x).2):=by
      unfold Mc.call
      rw[qT]
      simp only[Mc.args,b,Bool.false_eq_true,if_false,bw]
     rw[JZ]
     exact⟨rfl,y2,trivial,h4.sub fun q mq=>List.mem_cons_of_mem _ (List.mem_cons_of_mem _ mq)⟩
 have hz0:(s.aj++ [a8 v])[n]? = some (a8 v):=by simp[← hn]
 have l0:=loop v.args 0 m [] y ⟨s.aj++ [a8 v],s.az++ [some 0]⟩ rfl rfl rfl ⟨rfl,rfl⟩ (Nat.le_refl _) ⟨rfl,Nat.zero_le _⟩ (by simp) (h1.az _) (by simp[← P6])
 repeat' (first
 |simp only[go_sem,hD,gA,gB,gC,hz0,hn]
 |(with_reducible refine aF hQ ?_;exact aP))
 refine bo.qI 5 1 rfl ?_
 simp only[go_sem,hD,gA,gB,gC]
 refine bo.rB ?_ l0
 simp only[go_sem,P6,List.map_nil]
 repeat' (first|exact Ok.out|with_reducible refine jD ?_ ?_)
end
end Go.Abs
namespace Go.Abs
theorem aaH {v:Sm} (h:v.one=true) (hk:v.kind=1∨v.kind=2):v.name≠ []:=by
 intro e
 have hn:v.hasName=true:=by unfold Sm.hasName;rcases hk with hk|hk<;>simp[hk]
 unfold Sm.one at h
 split at h
 ·cases h
 ·rw [e,hn]at h
  simp[isName]at h
theorem KU {v:Sm} (hk:v.kind≠10) (hn:v.name≠ []):v.name∈v.said:=by
 unfold Sm.said Sm.vt
 refine xg (.inl ?_)
 rw[if_pos (by simp[hk,hn])]
 simp
theorem uf {name:aK} {f:Pc} : ∀ {l:List Pc},iE name l=some f→f.name=name
 |g::l,h=>by
  simp only[iE]at h
  split at h
  ·rename_i e;cases h;simpa using e
  ·exact uf h
mutual
theorem aje : ∀ s:Sm,∀ v∈s.pre,v.size≤s.size
 | ⟨id,kind,labels,name,proc,x,has,args,aO,aN⟩,v,m=>by
  rw[Sm.np]at m
  rcases List.mem_cons.1 m with rfl|m
  ·exact Nat.le_refl _
  ·simp only [Sm.size]
   rcases List.mem_append.1 m with m|m
   ·have:=E4 aO v m;omega
   ·have:=E4 aN v m;omega
theorem E4 : ∀ l:List Sm,∀ v∈Sm.bH l,v.size≤Sm.aS l
 | [],v,m=>by simp[Sm.bH]at m
 |s::l,v,m=>by
  simp only[Sm.bH,List.mem_append]at m
  simp only[Sm.aS]
  rcases m with m|m
  ·have:=aje s v m;omega
  ·have:=E4 l v m;omega
end
theorem JC : ∀ l:List Sm,l.length≤Sm.aS l
 | []=>Nat.le_refl _
 |s::l=>by
  have:=JC l
  have h1:1≤s.size:=by cases s;simp only[Sm.size];omega
  simp only[Sm.aS,List.length_cons];omega
section
variable {p:Pg} {m:Mc} {a:Int}
theorem Oe (hO:p.jE) (h:qV p p.bb.L a m) (hl:m.st.length≤1000) : ∃ fr r f,oy m fr r∧p.procs[fr.proc.toNat]? = some f∧fr.names=p.globals++f.own∧fr.vars.length=fr.names.length∧m.top=fr:=by
 obtain⟨fr,r,e⟩:=h.st.ne
 have ht:m.top=fr:=by simp[Mc.top,e]
 obtain⟨f,h1,h2,h3,h4,h5⟩:=h.fr fr (by rw[e];exact List.mem_cons_self ..)
 have hf:=List.mem_of_getElem? h1
 have s1:=Pc.cu hf
 have s2:=hO.sz
 simp only[Pg.size]at s2
 have hn:fr.names.length<1000000:=by
  rw[h3]
  have s3:=hO.small hf
  simp only[Pc.size]at s1
  simp only[List.length_append,Pc.own,Pc.tT,List.length_map]
  have:=s3.par;have:=s3.vars
  omega
 rw[e]at hl
 exact⟨fr,r,f,⟨e,by simp at hl;omega,hn,by omega⟩,h1,h3,h4,ht⟩
theorem JD {fr:Fr} (hv:fr.vars.length=fr.names.length) {n:aK} (hn:n∈fr.names) : ∃ k,ym fr n k:=by
 obtain⟨j,h1,h2⟩:=N5 (k:=0) hn
 exact⟨_,j,by simpa using h1,List.getElem?_eq_getElem (by omega)⟩
theorem afe {fr:Fr} (h:qV p p.bb.L a m) (ht:m.top=fr) (hR:p.Right) (ha:a≠ -1) {f:Pc} (hf:p.procs[fr.proc.toNat]? = some f):Cg p p.bb.L (dZ p.bb.L a) f∧(dZ p.bb.L a).proc=fr.proc∧dZ p.bb.L a∈p.bb.L∧
 ∃ c:Nat,a=(c:Int)+1∧p.bb.L[c]? = some (dZ p.bb.L a):=by
 have hm:=h.at_.resolve_left ha
 have iO:=qU (L:=p.bb.L) (.inr ⟨hm.1,hm.2.1⟩) ha
 obtain⟨f',o⟩:=(pB hR).im _ iO
 have hp:(dZ p.bb.L a).proc=fr.proc:=by rw[← ht];exact hm.2.2
 have:f'=f:=by have:=o.proc.1;rw[hp,hf]at this;exact(Option.some.inj this).symm
 subst this
 have h1:=hm.1
 have h2:=hm.2.1
 refine⟨o,hp,iO,(a - 1).toNat,by omega, ?_⟩
 unfold dZ
 rw[List.getD_eq_getElem?_getD,List.getElem?_eq_getElem (show(a - 1).toNat<p.bb.L.length by omega)];rfl
theorem QR (hO:p.jE) (hR:p.Right) {x:Im} {f:Pc} {fr:Fr} (hx:Cg p p.bb.L x f) (hn:fr.names=p.globals++f.own) (hv:fr.vars.length=fr.names.length):ai8 p fr x:=by
 have hf:=List.mem_of_getElem? hx.proc.1
 have rM:x.s∈p.pre:=by
  simp only[Pg.pre,List.mem_flatten,List.mem_map];exact⟨_,⟨f,hf,rfl⟩,hx.mem⟩
 have dL:=E4 f.body x.s hx.mem
 have s1:=Pc.cu hf
 have s2:=hO.sz
 simp only[Pg.size]at s2
 simp only[Pc.size]at s1
 have hs:Sm.aS x.s.aO+Sm.aS x.s.aN≤x.s.size:=by
  cases x with
  |mk s _ _ _ _=>cases s;simp only[Sm.size];omega
 refine⟨hO.said hf _ hx.mem,fun hk=>?_,fun hk=>?_,fun hk=>?_, ?_, ?_⟩
 ·have hl:=hx.loop (.inl hk)
  have h1:=hl.1
  have h2:=hl.2.1
  exact⟨(x.loop - 1).toNat,_,by omega,List.getElem?_eq_getElem (by omega)⟩
 ·obtain⟨i,hi⟩:=Int.eq_ofNat_of_zero_le hx.proc.2
  exact⟨i,f,hi,by have:=hx.proc.1;rwa [hi,Int.toNat_natCast]at this⟩
 ·refine JD hv ?_
  rw[hn]
  exact Ch hR hx (KU (by rcases hk with hk|hk<;>omega) (aaH (EX hR.may _ rM) hk))
 ·have:=JC x.s.aO;omega
 ·have:=JC x.s.aN;omega
theorem Xv (hO:p.jE) (hR:p.Right) {x:Im} {f:Pc} {fr:Fr} (hx:Cg p p.bb.L x f) (hk:x.s.kind=4) (hn:fr.names=p.globals++f.own) (hv:fr.vars.length=fr.names.length):Xt p fr x.s:=by
 have hf:=List.mem_of_getElem? hx.proc.1
 have uv:=hO.said hf _ hx.mem
 have rM:x.s∈p.pre:=by
  simp only[Pg.pre,List.mem_flatten,List.mem_map];exact⟨_,⟨f,hf,rfl⟩,hx.mem⟩
 refine⟨uv,fun b mb=>⟨uv.2.1 b mb, ?_,fun hr=>?_⟩, ?_⟩
 ·have:=uv.2.2
  have key : ∀ l:List Ar,b∈l→b.x.size≤Ar.aS l:=fun l=>by
   induction l with
   |nil=>intro m;cases m
   |cons c l ih=>
    intro m
    simp only[Ar.aS]
    rcases List.mem_cons.1 m with rfl|m
    ·omega
    ·have:=ih m;omega
  have:=key _ mb
  omega
 ·refine JD hv ?_
  rw[hn]
  exact Ch hR hx (xg (.inr ⟨b,mb,hr,rfl⟩))
 ·have kn:=hR.fits _ rM (by simp [hk])
  obtain⟨q,hq⟩:=KN kn
  obtain⟨j,h1,h2⟩:=E1 (k:=0) hq
  exact⟨j,q,by simpa[Pg.at]using h1,h2,by rw[uf hq];exact hq⟩
theorem Uk (hO:p.jE) (hR:p.Right) (h:qV p p.bb.L a m) (hl:m.st.length≤1000) {fr:Fr} {r:List Fr} (ht:oy m fr r) :
 fr.call=0∨∃ (c:Nat) (it:Im) (wS:Fr) (r2:List Fr),fr.call=(c:Int)+1∧p.bb.L[c]? = some it∧oy {m with st:=r} wS r2∧(it.s.name≠ []→∃ k,ym wS it.s.name k):=by
 have hs:=h.st
 have iL:=ht.st
 rw[iL]at hs
 cases r with
 |nil=>exact .inl hs
 | cons wS r2=>
  obtain⟨⟨h1,Kx⟩,h2⟩:=hs
  have e1:=h1.1
  have e2:=h1.2.1
  refine .inr ⟨(fr.call - 1).toNat,dZ p.bb.L fr.call,wS,r2,by omega, ?_, ?_,fun hn=>?_⟩
  ·unfold dZ
   rw[List.getD_eq_getElem?_getD,List.getElem?_eq_getElem (show(fr.call - 1).toNat<p.bb.L.length by omega)];rfl
  ·have h3:qV p p.bb.L (-1) {m with st:=wS::r2}:=⟨h2,fun q hq=>h.fr q (by rw [iL];exact List.mem_cons_of_mem _ hq), .inl rfl,h.sE⟩
   obtain⟨QM,r',f',t,_⟩:=Oe hO h3 (by rw[iL]at hl;simp at hl ⊢;omega)
   have:=t.st
   cases this
   exact t
  ·obtain⟨f,g1,g2,g3,g4,g5⟩:=h.fr wS (by rw [iL];simp)
   have iO:dZ p.bb.L fr.call∈p.bb.L:=qU (.inr ⟨e1,e2⟩) (by omega)
   obtain⟨f',o⟩:=(pB hR).im _ iO
   have:f'=f:=by have:=o.proc.1;rw[h1.2.2,g1]at this;exact(Option.some.inj this).symm
   subst this
   refine JD g4 ?_
   rw[g3]
   exact Ch hR o (KU (by omega) hn)
end
end Go.Abs
namespace Go.Abs
structure An (m:Mc):Prop where
 steps:0≤m.steps
 trace:(m.trace.length:Int)≤m.steps
 out:(m.out.length:Int)≤m.steps
 reads:0≤m.reads∧m.reads≤m.steps
 st:m.st.length≤101
structure Eo (m m':Mc):Prop where
 trace:m'.trace.length≤m.trace.length+1
 out:m'.out.length≤m.out.length+1
 reads:m'.reads=m.reads∨m'.reads=m.reads+1
 steps:m'.steps=m.steps
theorem Xw (W:List Int) (m:Mc) (id:Int) (bD:List Int):(m.event W id bD).trace.length≤m.trace.length+1:=by
 unfold Mc.event
 split<;>simp
theorem nZ (W:List Int) (m:Mc) (id:Int) (bD:List Int):Eo m (m.event W id bD):=by
 have h:=fF W m id bD
 exact⟨Xw W m id bD,by rw[h.2.2.2.2.2];omega, .inl h.2.2.2.2.1,h.2.2.2.1⟩
theorem Iz (m:Mc) (x:Ex):Eo m (m.bj x).2:=by
 have h:=iR m x
 exact⟨by rw[h.2.2.2.2.2];omega,by rw[h.2.2.2.2.1];omega, .inl h.2.2.2.1,h.2.2.1⟩
theorem zt (p:Pg) (m:Mc) (i:Int) (l:List Nat) (c:Int):(m.open p i l c).2.trace=m.trace∧(m.open p i l c).2.out=m.out∧(m.open p i l c).2.reads=m.reads∧(m.open p i l c).2.steps=m.steps:=by
 unfold Mc.open
 split<;>exact⟨rfl,rfl,rfl,rfl⟩
theorem zu : ∀ (l:List Ar) (m:Mc) (out:List Nat),(Mc.args l m out).2.reads=m.reads∧(Mc.args l m out).2.steps=m.steps
 | [],m,out=>⟨rfl,rfl⟩
 | a::l,m,out=>by
  have hw:=iR m a.x
  simp only[Mc.args]
  by_cases c:a.ref=true
  ·rw[if_pos c];exact zu l m _
  ·rw [if_neg c]
   by_cases c2:(m.bj a.x).1.2=true
   ·rw [if_pos c2]
    obtain⟨h1,h2⟩:=zu l {(m.bj a.x).2 with mem:=(m.bj a.x).2.mem++ [(m.bj a.x).1.1]} (out++ [(m.bj a.x).2.mem.length])
    exact⟨h1.trans hw.2.2.2.1,h2.trans hw.2.2.1⟩
   ·rw[if_neg c2];exact⟨hw.2.2.2.1,hw.2.2.1⟩
theorem Xx (p:Pg) (W:List Int) (m:Mc) (v:Sm):Eo m (m.call p W v).2∧((m.call p W v).2.st.length≤m.st.length∨(m.call p W v).2.st.length≤101):=by
 have h1:=Cm v.args m []
 have h2:=zu v.args m []
 have h3:=(xj v.args m []).1
 unfold Mc.call
 generalize Mc.args v.args m [] = r at *
 obtain⟨o,m1⟩:=r
 dsimp only at h1 h2 h3
 cases o with
 |none=>exact⟨⟨by simp[h1.2],by simp[h1.1], .inl h2.1,h2.2⟩, .inl (by simp[h3])⟩
 | some l=>
  dsimp only
  by_cases c:m1.st.length > 100
  ·rw[if_pos c];exact⟨⟨by simp[h1.2],by simp[h1.1], .inl h2.1,h2.2⟩, .inl (by simp[h3])⟩
  ·rw [if_neg c]
   have e1:=nZ W m1 v.id []
   have e2:=zt p (m1.event W v.id []) (p.at v.proc) l v.id
   have e3:=(Bk p (m1.event W v.id []) (p.at v.proc) l v.id).1
   have e4:=(fF W m1 v.id []).1
   refine⟨⟨by rw[e2.1, ← h1.2];exact e1.trace,by rw[e2.2.1, ← h1.1];exact e1.out, ?_,by rw[e2.2.2.2,e1.steps,h2.2]⟩, .inr (by rw[e4]at e3;omega)⟩
   rw[e2.2.2.1, ← h2.1];exact e1.reads
theorem Ul (W:List Int) (m:Mc) (v:Sm):Eo m (m.fI W v).2:=by
 have hw:=iR m v.x
 unfold Mc.fI
 split
 ·dsimp only
  split
  ·have e:=nZ W (m.bj v.x).2 v.id [(m.bj v.x).1.1]
   exact⟨by rw[← hw.2.2.2.2.2];exact e.trace,by rw[← hw.2.2.2.2.1];exact e.out,by rw[← hw.2.2.2.1];exact e.reads,e.steps.trans hw.2.2.1⟩
  ·exact Iz m v.x
 ·exact nZ W m v.id []
theorem aff (p:Pg) (L:List Im) (T W:List Int) (m:Mc) (it:Im):Eo m (m.do p L T W it).2:=by
 have hw:=iR m it.s.x
 unfold Mc.do
 dsimp only
 split
 ·exact nZ W m _ _
 split
 ·exact nZ W m _ _
 split
 ·exact nZ W m _ _
 split
 ·split
  ·exact⟨by simp,by simp, .inl rfl,rfl⟩
  ·rename_i n _
   have e:=nZ W (({m with reads:=m.reads+1} : Mc).set it.s.name n) it.s.id [n]
   have e2:=(fF W (({m with reads:=m.reads+1} : Mc).set it.s.name n) it.s.id [n])
   exact⟨e.trace,e.out, .inr e2.2.2.2.2.1,e2.2.2.2.1⟩
 split
 ·have e:=nZ W (m.bj it.s.x).2 it.s.id [(m.bj it.s.x).1.1]
  have e2:=fF W (m.bj it.s.x).2 it.s.id [(m.bj it.s.x).1.1]
  have k:Eo m ((m.bj it.s.x).2.event W it.s.id [(m.bj it.s.x).1.1]):=⟨by rw[← hw.2.2.2.2.2];exact e.trace,by rw[← hw.2.2.2.2.1];exact e.out,by rw[← hw.2.2.2.1];exact e.reads,e.steps.trans hw.2.2.1⟩
  split
  ·exact⟨k.trace,k.out,k.reads,k.steps⟩
  split
  ·exact⟨k.trace,by simp[e2.2.2.2.2.2,hw.2.2.2.2.1],k.reads,k.steps⟩
  split
  ·exact k
  split
  ·exact k
  ·exact k
 ·exact Iz m it.s.x
theorem Cn (L:List Im) (m:Mc) (g:Int):(m.close L g).2.trace=m.trace∧(m.close L g).2.out=m.out∧(m.close L g).2.reads=m.reads∧(m.close L g).2.steps=m.steps∧(m.close L g).2.st=m.st.tail:=by
 unfold Mc.close
 dsimp only
 split
 ·exact⟨rfl,rfl,rfl,rfl,rfl⟩
 ·split<;>exact⟨rfl,rfl,rfl,rfl,rfl⟩
theorem An.less {m m1:Mc} (h:An m) (k:Eo {m with steps:=m.steps+1} m1) (hs:m1.st.length≤101):An m1:=by
 have h1:=h.steps;have h2:=h.trace;have h3:=h.out;have h4:=h.reads
 have k1:=k.trace;have k2:=k.out;have k3:=k.reads;have k4:=k.steps
 dsimp only at k1 k2 k3 k4
 exact⟨by omega,by omega,by omega,by omega,hs⟩
theorem An.close {L:List Im} {m:Mc} (h:An m) (g:Int):An (m.close L g).2:=by
 obtain⟨h1,h2,h3,h4,h5⟩:=Cn L m g
 exact⟨by rw[h4];exact h.steps,by rw[h1,h4];exact h.trace,by rw[h2,h4];exact h.out,by rw[h3,h4];exact h.reads,by rw[h5];have:=h.st;simp;omega⟩
theorem An.run {p:Pg} {T W:List Int} {m:Mc} (h:An m) (hs:m.steps≤1000000) (hO:p.jE) (hW:W.length<1000000) (hT:T.length<1000000):LK p T W m:=by
 obtain⟨td,p8,sT⟩:=hO.procs
 have:=qR p
 have h2:=h.trace;have h3:=h.out;have h4:=h.reads
 exact⟨hW,hT,by omega,by omega,by omega,by omega,by omega⟩
set_option maxRecDepth 8000
open Go.Proofs
theorem afg {p:Pg} (h:p.jE) (nq:(p.scope.1==0)=true) (s:St):aH Tryz.prog tB [.agg (bK p)] s (.dN (gp p) 0) s:=by
 refine aH.pure ?_ (by simp[D.bF,D.ok,iP]) (by simp[D.ok,wC]) s
 obtain⟨td,p8,sT⟩:=h.procs
 have rp:=fun s=>x8 h s
 have dw:=fun s=>EP (p:=p) (by omega) s
 have b0:(p.scope.1 != 0) = !(p.scope.1==0):=rfl
 rw[nq]at b0
 unfold S0
 refine aH.go A7 rfl fun B Q hB hQ=>?_
 have⟨hD,gA,gB,gC⟩:=bP
 repeat' (first
 |simp only[go_sem,hD,gA,gB,gC,b0,Bool.not_true]
 |(with_reducible refine CU (rp _) ?_)
 |(with_reducible refine CU (dw _) ?_)
 |(with_reducible refine aF hQ ?_;exact aP))
theorem afh {p:Pg} (h:p.jE) (nq:(p.scope.1==0)=false) (s:St):aH Tryz.prog tB [.agg (bK p)] s .eY s:=by
 refine aH.pure ?_ (by simp[D.bF,D.ok,iP]) rfl s
 have rp:=fun s=>x8 h s
 have b0:(p.scope.1 != 0) = !(p.scope.1==0):=rfl
 rw[nq]at b0
 unfold S0
 refine aH.go A7 rfl fun B Q hB hQ=>?_
 have⟨hD,gA,gB,gC⟩:=bP
 repeat' (first
 |simp only[go_sem,hD,gA,gB,gC,b0,Bool.not_false]
 |(with_reducible refine CU (rp _) ?_)
 |(with_reducible refine aF hQ ?_;exact aP))
mutual
theorem aaI {pr up next loop:Int} : ∀ (s:Sm) (m:Im),m∈s.tW pr up next loop→m.proc=pr
 | ⟨id,kind,labels,name,pc,x,has,args,aO,aN⟩,m,h=>by
  simp only[Sm.tW]at h
  rcases List.mem_cons.1 h with rfl|h
  ·rfl
  ·rcases List.mem_append.1 h with h | h
   ·exact zv aO m h
   ·exact zv aN m h
theorem zv {pr up next loop:Int} : ∀ (l:List Sm) (m:Im),m∈Sm.fJ pr up next loop l→m.proc=pr
 |s::l,m,h=>by
  simp only[Sm.fJ]at h
  rcases List.mem_append.1 h with h|h
  ·exact aaI s m h
  ·exact zv l m h
end
theorem Ao : ∀ a b:List Sm,dK (a++b)=dK a++dK b
 | [],b=>rfl
 |v::a,b=>by simp only[List.cons_append,dK,Ao a b,List.append_assoc]
mutual
theorem PQ : ∀ s:Sm,(dK s.pre).length≤s.size
 |⟨id,kind,labels,name,pc,x,has,args,aO,aN⟩=>by
  have:=ug aO;have:=ug aN
  simp only[Sm.pre,dK,Ao,List.length_append,Sm.size];omega
theorem ug : ∀ l:List Sm,(dK (Sm.bH l)).length≤Sm.aS l
 | []=>Nat.le_refl _
 |s::l=>by
  have:=PQ s;have:=ug l
  simp only[Sm.bH,Ao,List.length_append,Sm.aS];omega
end
theorem Xy (seen l:List aK):(jR seen l).1.length≤seen.length+l.length:=(Ky l seen).2
theorem aaJ {p:Pg} (h:p.jE) (s:St):aH Tryz.prog xO [.agg (bK p)] s (.agg [.int .i64 p.jump.1, .int .i64 p.jump.2]) s:=by
 refine aH.pure ?_ (by simp[D.bF,D.ok,iP]) rfl s
 obtain⟨td,p8,sT⟩:=h.procs
 obtain⟨R,hR⟩ : ∃ R,p.jump=R:=⟨_,rfl⟩
 rw[hR]
 unfold Pg.jump at hR
 unfold S0
 rcases Bool.eq_false_or_eq_true (p.scope.1==0)with nq|nq
 case inr=>
  have hs:=fun s=>afh h nq s
  simp only[nq,Bool.false_eq_true,if_false]at hR
  subst hR
  refine aH.go A3 rfl fun B Q hB hQ=>?_
  have⟨hD,gA,gB,gC⟩:=bP
  repeat' (first
 |simp only[go_sem,hD,gA,gB,gC]
 |(with_reducible refine CU (hs _) ?_)
 |(with_reducible refine aF hQ ?_;exact aP))
 have hs:=fun s=>afg h nq s
 have hb:=D6 nq
 simp only[nq,if_true]at hR
 refine aH.go A3 rfl fun B Q hB hQ=>?_
 have⟨hD,gA,gB,gC⟩:=bP
 repeat' (first
 |simp only[go_sem,hD,gA,gB,gC]
 |(with_reducible refine CU (hs _) ?_)
 |(with_reducible refine aF hQ ?_;exact aP))
 refine fz 2 0 (bo.ind (ι:=List Pc×Nat) (fun i=>p.procs.drop i.2=i.1∧Bj 7 (vv i.1)=R) (fun i=>i.1.length)
  (fun i=> [(1, .ptr 0 0),(2, .ptr 1 0),(3, .dN (gp p) 0),(16, .slice .shared 5 (p.procs.map bJ)),(17, .int .i64 (p.procs.length:Int)),(18, .int .i64 (i.2:Int))]) (fun i=>⟨[bK p,[.int .i64 0, .int .i64 0]],[]⟩) ?_ (p.procs,0) ⟨rfl,hR⟩)
 clear hR
 rintro⟨rest,k⟩ ⟨h1,hR⟩ IH
 dsimp only at h1 hR
 cases rest with
 |nil=>
  have hD:=drop_nil h1
  simp only[vv,Bj]at hR
  subst hR
  repeat' (first
 |simp only[go_sem,hD,gA,gB,gC]
 |(with_reducible refine aF hQ ?_;exact aP))
 | cons f rest=>
  obtain⟨gA,g2,hD,g4⟩:=drop_cons h1
  have cd:k<4611686018427387904:=by omega
  have CT:=List.mem_of_getElem? gA
  have zm:=fun s=>aiz hb gA (by omega) s
  have rM:=tX (k:Int) 0 (-1) 0 f.body
  have zk:=Gs (k:Int) f
  have amZ:=fun m=>zv (pr:=(k:Int)) (up:=0) (next:= -1) (loop:=0) f.body m
  have NL:=H9 h CT
  have yc:=Kz h CT
  have Og:(dK (Sm.bH f.body)).length≤900000:=by
   have h1:=ug f.body
   have h2:=Pc.cu CT
   simp only[Pc.size]at h2
   omega
  rw[← rM]at Og
  generalize hI:Sm.fJ (k:Int) 0 (-1) 0 f.body=I at *
  have hIl:I.length≤900000:=by rw[← rM,List.length_map]at NL;exact NL
  simp only[vv, ← zk]at hR
  obtain⟨J,hJ⟩ : ∃ J,vu f.labels f.fin [] (I.map Im.pair)=J:=⟨_,rfl⟩
  rw[hJ]at hR
  have hld:=fun(m:Im) (hm:m∈I) s=>aeT h hb gA m (amZ m hm) s
  repeat' (first
 |simp only[go_sem,hD,gA,gB,gC]
 |(with_reducible refine CU (zm _) ?_)
 | (with_reducible refine aF hQ ?_;exact aP))
  refine bo.qI 6 1 rfl ?_
  simp only[go_sem,hD,gA,gB,gC]
  refine fz 3 1 (bo.ind (ι:=List Im×Nat×List aK×Nat) (fun i=>I.drop i.2.1=i.1∧vu f.labels f.fin i.2.2.1 (i.1.map Im.pair)=J∧i.2.2.2=i.2.2.1.length∧i.2.2.1.length+(dK (i.1.map Im.s)).length≤900000) (fun i=>i.1.length)
   (fun i=> [(1, .ptr 0 0),(2, .ptr 1 0),(3, .dN (gp p) 0),(5, .ptr 2 0),(6, .slice (.tok 0) 1 (i.2.2.1.map encStr)),(16, .slice .shared 5 (p.procs.map bJ)),(17, .int .i64 (p.procs.length:Int)),(18, .int .i64 (k:Int)),
    (25, .slice .shared 17 (I.map dM)),(26, .int .i64 (I.length:Int)),(27, .int .i64 (i.2.1:Int))]) (fun i=>⟨[bK p,[.int .i64 0, .int .i64 0],bJ f],[some i.2.2.2]⟩) ?_ (I,0,[],0) ⟨rfl,hJ,rfl,by simpa using Og⟩)
  clear hJ
  rintro⟨sj,k2,seen,n2⟩ ⟨j1,j2,j3,j4⟩ D1
  dsimp only at j1 j2 j3 j4
  subst j3
  cases sj with
  | nil=>
   have NZ:=drop_nil j1
   simp only[List.map_nil,vu]at j2
   simp only[List.map_nil,dK,List.length_nil,Nat.add_zero]at j4
   have KV:=fun {s:St} {t:Nat} (ht:s.az[t]? = some (some seen.length))=>W1 (seen:=seen) (l:=f.fin) (by omega) ht
   obtain⟨P1,hP1⟩ : ∃ P1,jR seen f.fin=P1:=⟨_,rfl⟩
   rw[hP1]at j2 KV
   rcases Bool.eq_false_or_eq_true P1.2 with c1|c1
   ·simp only [c1,if_true]at j2
    subst j2
    simp only at hR
    repeat' (first
 |simp only[go_sem,hD,gA,gB,gC,NZ,c1,Bool.not_true]
 |(with_reducible refine CU (KV (by with_unfolding_all rfl)) ?_)
 | (with_reducible refine aF hQ ?_;exact aP))
    refine eQ 2 0 ?_ ?_ (IH (rest,k+1) ⟨g2,hR⟩ (Nat.lt_succ_self _))
    ·(simp only[go_sem,hD,gA,gB,gC,aM cd];try exact bQ)
    ·(simp only[go_sem,hD,gA,gB,gC,aM cd];try exact bQ)
   ·simp only [c1,Bool.false_eq_true,if_false]at j2
    subst j2
    simp only[Bj]at hR
    subst hR
    repeat' (first
 |simp only[go_sem,hD,gA,gB,gC,NZ,c1,Bool.not_false]
 |(with_reducible refine CU (KV (by with_unfolding_all rfl)) ?_)
 | (with_reducible refine aF hQ ?_;exact aP))
  | cons m sj=>
   obtain⟨oh,j5,vW,j6⟩:=drop_cons j1
   have wR:k2<4611686018427387904:=by omega
   have QS:=List.mem_of_getElem? oh
   have hlm:=fun s=>hld m QS s
   simp only[List.map_cons,Im.pair,vu]at j2
   simp only[List.map_cons,dK,List.length_append]at j4
   have KV:=fun {s:St} {t:Nat} (ht:s.az[t]? = some (some seen.length))=>W1 (seen:=seen) (l:=m.s.labels) (by omega) ht
   have P7:=Xy seen m.s.labels
   obtain⟨P1,hP1⟩ : ∃ P1,jR seen m.s.labels=P1:=⟨_,rfl⟩
   rw[hP1]at j2 KV P7
   rcases Bool.eq_false_or_eq_true P1.2 with c1|c1
   ·rcases Bool.eq_false_or_eq_true (kl f.labels m.s m.loop)with c2 | c2
    ·simp only [c1,c2,if_true]at j2
     repeat' (first
 |simp only[go_sem,hD,gA,gB,gC,oh,vW,c1,c2,Bool.not_true]
 |(with_reducible refine CU (KV (by with_unfolding_all rfl)) ?_)
 |(with_reducible refine CU (hlm _) ?_)
 | (with_reducible refine aF hQ ?_;exact aP))
     refine eQ 3 1 ?_ ?_ (D1 (sj,k2+1,P1.1,P1.1.length) ⟨j5,j2,rfl,by dsimp only;omega⟩ (Nat.lt_succ_self _))
     ·(simp only[go_sem,hD,gA,gB,gC,aM wR];try exact bQ)
     ·(simp only[go_sem,hD,gA,gB,gC,aM wR];try exact bQ)
    ·simp only [c1,c2,if_true,Bool.false_eq_true,if_false]at j2
     subst j2
     simp only[Bj]at hR
     subst hR
     repeat' (first
 |simp only[go_sem,hD,gA,gB,gC,oh,vW,c1,c2,Bool.not_true,Bool.not_false]
 |(with_reducible refine CU (KV (by with_unfolding_all rfl)) ?_)
 |(with_reducible refine CU (hlm _) ?_)
 | (with_reducible refine aF hQ ?_;exact aP))
   ·simp only [c1,Bool.false_eq_true,if_false]at j2
    subst j2
    simp only[Bj]at hR
    subst hR
    repeat' (first
 |simp only[go_sem,hD,gA,gB,gC,oh,vW,c1,Bool.not_false]
 |(with_reducible refine CU (KV (by with_unfolding_all rfl)) ?_)
 |(with_reducible refine CU (hlm _) ?_)
 |(with_reducible refine aF hQ ?_;exact aP))
theorem aaK (x:It):(gx x)[2]? = some (.slice .shared 1 (x.s.labels.map encStr)):=nd rfl
theorem Xz (x:It):(gx x)[14]? = some (.int .i64 x.cW):=nd rfl
attribute [go_sem] aaK Xz
end Go.Abs
namespace Go.Abs
set_option maxRecDepth 8000
open Go.Proofs
def Pc.au2:List Pc→Nat
 | []=>0
 |f::l=>Sm.jJ f.body+Pc.au2 l
theorem aaL {p:Pg} (h:p.may=false):p.scope=(1,0):=by unfold Pg.scope;rw[h];rfl
theorem ajg {p:Pg} (h:p.jE) (s:St):aH Tryz.prog zY [.agg (bK p)] s (.agg [.int .i64 p.check.1, .int .i64 p.check.2]) s:=by
 refine aH.pure ?_ (by simp[D.bF,D.ok,iP]) rfl s
 have h1:=fun s=>HR h.TK s
 rw[Be]at h1
 have h2:=fun s=>x8 h s
 have h3:=fun s=>NA h s
 have h4:=fun s=>aaJ h s
 have h5:=fun s=>W9 h s
 obtain⟨R,hR⟩ : ∃ R,p.check=R:=⟨_,rfl⟩
 rw[hR]
 unfold Pg.check at hR
 unfold S0
 rcases Bool.eq_false_or_eq_true p.may with b0|b0
 case inr=>
  have e:((1:Int)==0)=false:=rfl
  rw[aaL b0]at hR
  simp only[e,Bool.false_eq_true,if_false]at hR
  subst hR
  refine aH.go p6 rfl fun B Q hB hQ=>?_
  have⟨hD,gA,gB,gC⟩:=bP
  repeat' (first
 |simp only[go_sem,hD,gA,gB,gC,b0,Bool.not_false]
 |(with_reducible refine CU (h1 _) ?_)
 |(with_reducible refine aF hQ ?_;exact aP))
 rcases Bool.eq_false_or_eq_true (p.scope.1==0)with b1|b1
 case inr=>
  simp only[b1,Bool.false_eq_true,if_false]at hR
  subst hR
  refine aH.go p6 rfl fun B Q hB hQ=>?_
  have⟨hD,gA,gB,gC⟩:=bP
  repeat' (first
 |simp only[go_sem,hD,gA,gB,gC,b0,b1,Bool.not_true]
 |(with_reducible refine CU (h1 _) ?_)
 |(with_reducible refine CU (h2 _) ?_)
 |(with_reducible refine aF hQ ?_;exact aP))
 simp only[b1,if_true]at hR
 rcases Bool.eq_false_or_eq_true (p.arity.1==0)with b2|b2
 case inr=>
  simp only[b2,Bool.false_eq_true,if_false]at hR
  subst hR
  refine aH.go p6 rfl fun B Q hB hQ=>?_
  have⟨hD,gA,gB,gC⟩:=bP
  repeat' (first
 |simp only[go_sem,hD,gA,gB,gC,b0,b1,b2,Bool.not_true]
 |(with_reducible refine CU (h1 _) ?_)
 |(with_reducible refine CU (h2 _) ?_)
 |(with_reducible refine CU (h3 _) ?_)
 |(with_reducible refine aF hQ ?_;exact aP))
 simp only[b2,if_true]at hR
 rcases Bool.eq_false_or_eq_true (p.jump.1==0)with b3|b3
 case inr=>
  simp only[b3,Bool.false_eq_true,if_false]at hR
  subst hR
  refine aH.go p6 rfl fun B Q hB hQ=>?_
  have⟨hD,gA,gB,gC⟩:=bP
  repeat' (first
 |simp only[go_sem,hD,gA,gB,gC,b0,b1,b2,b3,Bool.not_true]
 |(with_reducible refine CU (h1 _) ?_)
 |(with_reducible refine CU (h2 _) ?_)
 |(with_reducible refine CU (h3 _) ?_)
 |(with_reducible refine CU (h4 _) ?_)
 |(with_reducible refine aF hQ ?_;exact aP))
 simp only[b3,if_true]at hR
 subst hR
 refine aH.go p6 rfl fun B Q hB hQ=>?_
 have⟨hD,gA,gB,gC⟩:=bP
 repeat' (first
 |simp only[go_sem,hD,gA,gB,gC,b0,b1,b2,b3,Bool.not_true]
 |(with_reducible refine CU (h1 _) ?_)
 |(with_reducible refine CU (h2 _) ?_)
 |(with_reducible refine CU (h3 _) ?_)
 |(with_reducible refine CU (h4 _) ?_)
 |(with_reducible refine CU (h5 _) ?_)
 |(with_reducible refine aF hQ ?_;exact aP))
theorem Oh {p:Pg} (h:p.jE) (s:St):aH Tryz.prog rS [.agg (bK p)] s (.bool (p.check.1==0)) s:=by
 refine aH.pure ?_ (by simp[D.bF,D.ok,iP]) rfl s
 have h1:=fun s=>ajg h s
 unfold S0
 refine aH.go La rfl fun B Q hB hQ=>?_
 have⟨hD,gA,gB,gC⟩:=bP
 repeat' (first
 |simp only[go_sem,hD,gA,gB,gC]
 |(with_reducible refine CU (h1 _) ?_)
 |(with_reducible refine aF hQ ?_;exact aP))
def gS (m:Mc):List D:= [.int .i64 m.fin, .int .i64 m.steps, .int .i64 m.reads, .slice .shared 1 (m.out.map cB), .slice .shared 2 (m.trace.map pR)]
theorem ajh (e:Int×List Int):D.bF 0 0 (pR e)=true:=by simp[pR,D.bF,D.ok,Tag.ok,jr]
theorem am0 (l:List (Int×List Int)):D.jg 0 0 (l.map pR)=true:=jh ajh l
theorem am1 (n m:Nat) (l:List (Int×List Int)):D.lR n m (l.map pR)=l.map pR:=nI ajh n m l
attribute [go_sem] am1
abbrev runT (m:Mc):List D:= [.int .i64 m.fin, .int .i64 m.steps, .int .i64 m.reads, .slice (.tok 0) 1 (m.out.map cB), .slice (.tok 1) 2 (m.trace.map pR)]
section
variable {p:Pg} {T W:List Int} {fuel:Int} {B:ic} {Q:Exit→Tm→St→Prop} {mf:Mc}
theorem Inv.tf {y:Lay} {m:Mc} {s:St} {q:Nat} {r r':List D} {loc:List (Nat×List D)} (h:Inv p T W y m ((q,r)::loc) s) (hq : ∀ x∈loc,x.1≠q) (hr:r.length≠4):Inv p T W y m ((q,r')::loc) ⟨s.aj.set q r',s.az⟩:=by
 obtain⟨h1,h2⟩:=h.loc (q,r) (List.mem_cons_self ..)
 simp only at h1 h2
 have ne : ∀ {o:Nat} {x:List D},s.aj[o]? = some x→o≠q→(s.aj.set q r')[o]? = some x:=fun e hn=>by rw[List.getElem?_set_ne (Ne.symm hn)];exact e
 have no : ∀ o∈y.own,o≠q:=fun o mo e=>h2 (e ▸ mo)
 have ka : ∀ {d:D} {cs:List D},(∀ o∈d.arr,o∈y.own)→kN s d cs→kN ⟨s.aj.set q r',s.az⟩ d cs:=fun hd ha=>ha.keep fun o mo=>by
  show(s.aj.set q r')[o]? = _
  rw[List.getElem?_set_ne (Ne.symm (no o (hd o mo)))]
 obtain⟨l,hl⟩:=h.bD
 refine⟨ne h.kO (no 0 (by simp[Lay.own])),h.t0,h.t1,h.len,fun i c v e1 e2=>ne (h.cell i c v e1 e2) (no c (by simp[Lay.own,List.mem_of_getElem? e1])),h.uY,fun i o fr e1 e2=>?_,ka (fun o m=>by simp[Lay.own,m]) h.stack,⟨l,ka (fun o m=>by simp[Lay.own,m]) hl⟩,h.own,fun x mx=>?_⟩
 ·obtain⟨f1,f2,f3⟩:=h.frame i o fr e1 e2
  exact⟨ne f1 (Qf f1 h1 fun e=>hr (by rw[← e];rfl)),f2,f3⟩
 ·rcases List.mem_cons.1 mx with rfl | mx
  ·exact⟨by simp[ie h1],h2⟩
  ·obtain⟨f1,f2⟩:=h.loc x (List.mem_cons_of_mem _ mx)
   exact⟨ne f1 (hq x mx),f2⟩
abbrev Ep:List D:= [.int .i64 0, .int .i64 0, .int .i64 0, .slice .full 0 [], .slice .full 0 []]
structure JE (p:Pg) (T W:List Int) (fuel:Int):Prop where
 ok:p.jE
 right:p.Right
 W:W.length<1000000
 T:T.length<1000000
 fuel:0≤fuel∧fuel≤1000000
structure At (p:Pg) (T W:List Int) (fuel:Int) (a:Int) (m:Mc) (y:Lay) (q:Nat) (s:St):Prop where
 inv : ∃ r:List D,r.length=17∧Inv p T W y m [(q,r),(2,Ep)] s
 ok:qV p p.bb.L a m
 sz:An m
 fin:m.fin=0
 fuel:m.steps≤fuel
abbrev TMr (fuel:Int) (q:Nat) (a:Int):Tm:= [(2, .int .i64 fuel),(8, .ptr 2 0),(10, .ptr 0 0),(11, .ptr q 0),(13, .int .i64 a)]
abbrev JJ (B:ic) (Q:Exit→Tm→St→Prop):=BB Tryz.prog B 131 Q46 Q
theorem IA (hQ:rH 0 0 [(8,some (true,5)),(9,none)] (.tuple [.agg (gS mf), .int .i64 0]) ⟨[],[]⟩=Q) {y:Lay} {q:Nat} {r:List D} {s:St} (h:Inv p T W y mf [(q,r),(2,Ep)] s) {tm:Tm} (ht:xH tm [(8, .ptr 2 0),(10, .ptr 0 0)]):JJ B Q (.goto 2) tm s:=by
 refine F4 (r:= .seq .skip Q3O) rfl (nh.rB ht (nh.kj ?_))
 have hm:=h.kO
 rw[gh]at hm
 have h2:=(h.loc (2,Ep) (by simp)).1
 have hl:=ie h2
 have⟨hD,gA,gB,gC⟩:=bP
 have Cy : ∀ r,(s.aj.set 2 r)[2]? = some r:=fun r=>List.getElem?_set_self hl
 simp only[gS]at hQ
 repeat' (first
 |simp only[go_sem,hD,gA,gB,gC,hm,h2,Cy]
 |(with_reducible first|refine dU fun hc=>?_|refine dV fun hc=>?_|refine dW (fun hc=>?_) fun hc=>?_)<;>(try simp only[hc,bs,↓reduceIte]at h)<;>try simp only[hc]
 |(with_reducible refine aF hQ ?_;simp only[cZ,da,eK,eO,go_sem,hD,gA,gB,gC,hm,h2,Cy];try exact iI))
theorem Oi (hS:JE p T W fuel) (hQ:rH 0 0 [(8,some (true,5)),(9,none)] (.tuple [.agg (gS mf), .int .i64 0]) ⟨[],[]⟩=Q) {a:Int} {m:Mc} {y:Lay} {q:Nat} {s:St} {g:Int} (h:At p T W fuel a m y q s)
 (ajj:m.back p.bb.L g=(none,mf)∨∃ a' m',m.back p.bb.L g=(some a',m')∧∀ y' s' tm,At p T W fuel a' m' y' q s'→xH tm (TMr fuel q a')→JJ B Q (.goto 1) tm s')
 {tm:Tm} (ht:xH tm [(2, .int .i64 fuel),(8, .ptr 2 0),(10, .ptr 0 0),(11, .ptr q 0),(12, .int .i64 g)]):JJ B Q (.goto 0) tm s:=by
 obtain⟨⟨r,hr,hi⟩,nU,dL,yc,hfu⟩:=h
 obtain⟨fr,rs,f,Ci,h1,h2,h3,h4⟩:=Oe hS.ok nU (by have:=dL.st;omega)
 have FI:=dL.run (by have:=hS.fuel;omega) hS.ok hS.W hS.T
 have hc:=Uk hS.ok hS.right nU (by have:=dL.st;omega) Ci
 have c1:=afd hi Ci FI.L hc g
 have nB:=Cn p.bb.L m g
 refine F4 (r:= .seq .skip Q3R) rfl (nh.rB ht (nh.kj ?_))
 have⟨hD,gA,gB,gC⟩:=bP
 repeat' (first
 |simp only[go_sem,hD,gA,gB,gC]
 |(with_reducible refine aF hQ ?_;exact aP))
 refine CR c1 fun d s2 Oj=>?_
 obtain⟨rfl,y2,yl,px⟩:=Oj
 have nD:=px.kO
 rw[gh]at nD
 have hz2:=(px.loc (2,Ep) (by simp)).1
 have ku:=ie hz2
 have Cy : ∀ r,(s2.aj.set 2 r)[2]? = some r:=fun r=>List.getElem?_set_self ku
 simp only at hz2
 have hb:m.back p.bb.L g=(if(m.close p.bb.L g).2.fin==0 then some (m.close p.bb.L g).1 else none,(m.close p.bb.L g).2):=rfl
 rcases Bool.eq_false_or_eq_true ((m.close p.bb.L g).2.fin==0)with b|b
 ·rw [b,if_pos rfl]at hb
  rcases ajj with he|⟨a',m',he,hIH⟩
  ·rw[hb]at he;cases he
  ·have hk:=ae3 (pB hS.right) nU he
   rw[hb]at he
   cases he
   repeat' (first
 |simp only[go_sem,hD,gA,gB,gC,nD,b]
 |(with_reducible first|refine dU fun hc=>?_|refine dV fun hc=>?_|refine dW (fun hc=>?_) fun hc=>?_)<;>(try simp only[hc,bs,↓reduceIte]at h)<;>try simp only[hc]
 | (with_reducible refine aF hQ ?_;simp only [cZ,da,eK,eO,go_sem,hD,gA,gB,gC,nD,b];try exact iI))
   refine hIH y2 s2 _ ⟨⟨r,hr,px⟩,hk,dL.close g,by simpa using b,by rw[nB.2.2.2.1];exact hfu⟩ ?_
   simp only[go_sem]
   repeat' (first|exact Ok.out|with_reducible refine jD ?_ ?_)
 ·rw [b,if_neg (by simp)]at hb
  rcases ajj with he|⟨a',m',he,hIH⟩
  ·rw [hb]at he
   cases he
   simp only[gS]at hQ
   repeat' (first
 |simp only[go_sem,hD,gA,gB,gC,nD,b,hz2,Cy]
 |(with_reducible first|refine dU fun hc=>?_|refine dV fun hc=>?_|refine dW (fun hc=>?_) fun hc=>?_)<;>(try simp only[hc,bs,↓reduceIte]at h)<;>try simp only[hc]
 |(with_reducible refine aF hQ ?_;simp only[cZ,da,eK,eO,go_sem,hD,gA,gB,gC,nD,b,hz2,Cy];try exact iI))
  ·rw[hb]at he;cases he
theorem aaM (hS:JE p T W fuel) (hQ:rH 0 0 [(8,some (true,5)),(9,none)] (.tuple [.agg (gS mf), .int .i64 0]) ⟨[],[]⟩=Q) : ∀ (N:Nat) (a:Int) (m:Mc) (y:Lay) (q:Nat) (s:St),At p T W fuel a m y q s→Mc.go p p.bb.L T W fuel N a m=some mf→
 Sem Tryz.prog B 131 Q3Z (JJ B Q) (TMr fuel q a) s:=by
 intro N
 induction N with
 |zero=>intro a m y q s _ h;cases h
 | succ N ih=>
  intro a m y q s tj ml
  have IH : ∀ (a':Int) (m':Mc) (y':Lay) (s':St) (tm:Tm),Mc.go p p.bb.L T W fuel N a' m'=some mf→At p T W fuel a' m' y' q s'→xH tm (TMr fuel q a')→JJ B Q (.goto 1) tm s':=fun a' m' y' s' tm hg hA ht=>
   F4 (r:= .seq .skip Q3Z) rfl (nh.rB ht (nh.once (Sem.oM (ih a' m' y' q s' hA hg))))
  have au3:=tj
  obtain⟨⟨r,hr,hi⟩,nU,dL,yc,hfu⟩:=tj
  simp only[Mc.go]at ml
  refine jC ?_
  have⟨hD,gA,gB,gC⟩:=bP
  have hm:=hi.kO
  rw[gh]at hm
  have wJ:=hi.wT
  rcases Bool.eq_false_or_eq_true (a == -1)with ba|ba
  ·have hn:m.next p p.bb.L T W fuel a=m.back p.bb.L 0:=by unfold Mc.next;rw [if_pos ba]
   rw[hn]at ml
   repeat' (first
 |simp only[go_sem,hD,gA,gB,gC,ba]
 | (with_reducible refine aF hQ ?_;exact aP))
   refine Oi hS hQ au3 (g:=0) ?_ ?_
   ·rcases e:m.back p.bb.L 0 with ⟨_ | a',m'⟩
    ·rw[e]at ml;cases ml;exact .inl rfl
    ·rw[e]at ml;exact .inr ⟨a',m',rfl,fun y' s' tm h1 h2=>IH a' m' y' s' tm ml h1 h2⟩
   ·simp only [go_sem]
    repeat' (first|exact Ok.out|with_reducible refine jD ?_ ?_)
  rcases Bool.eq_false_or_eq_true (m.steps==fuel)with bf|bf
  ·have hn:m.next p p.bb.L T W fuel a=(none,{m with fin:=2}):=by unfold Mc.next;rw [if_neg (by simp [ba]),if_pos bf]
   rw[hn]at ml
   cases ml
   have h2:=hi.wi (m':= {m with fin:=2}) rfl rfl hi.t0 hi.t1
   rw[gh]at h2
   simp only at h2
   repeat' (first
 |simp only[go_sem,hD,gA,gB,gC,ba,bf,hm,wJ]
 | (with_reducible refine aF hQ ?_;exact aP))
   refine IA hQ h2 ?_
   simp only[go_sem]
   repeat' (first|exact Ok.out|with_reducible refine jD ?_ ?_)
  -- a statement
  obtain⟨fr,rs,f,Ci,h1,h2,h3,h4⟩:=Oe hS.ok nU (by have:=dL.st;omega)
  have au4:a≠ -1:=by simpa using ba
  obtain⟨hx,zk,iO,c,hac,hLc⟩:=afe nU h4 hS.right au4 h1
  have hfb:=hS.fuel
  have FI:=dL.run (by omega) hS.ok hS.W hS.T
  have aC7:m.steps<fuel:=by
   have h:m.steps≠fuel:=by simpa using bf
   omega
  have Dx:=dL.steps
  have Xq:IntKind.wrap .i64 (m.steps+1)=m.steps+1:=eB (by omega) (by omega)
  have QP:IntKind.wrap .i64 (a - 1)=(c:Int):=by
   have:=(List.getElem?_eq_some_iff.1 hLc).1
   have:=FI.L
   rw[show a - 1=(c:Int) by omega];exact eB (by omega) (by omega)
  have cS:(gp p)[2]? = some (.slice .shared 17 (p.bb.L.map dM)):=rfl
  have QT:=hi.wi (m':= {m with steps:=m.steps+1}) rfl rfl hi.t0 hi.t1
  generalize sV:dZ p.bb.L a=it at *
  have au5:2≠q:=by
   have e1:=(hi.loc (q,r) (by simp)).1
   have e2:=(hi.loc (2,Ep) (by simp)).1
   exact Qf e2 e1 fun e=>by have e':Ep=r:=e;rw[← e']at hr;cases hr
  have aaN:17≤r.length:=by omega
  have hdr:List.drop 17 r = []:=List.drop_of_length_le (by omega)
  have px:=QT.tf (r':=dM it) (by simpa using au5) (by omega)
  have qT:=QT.kO
  have XC:=(QT.loc (q,r) (by simp)).1
  have J4:=(px.loc (q,dM it) (by simp)).1
  rw[gh]at qT px XC J4
  simp only at qT px XC J4
  have hle:q<s.aj.length:=ie (hi.loc (q,r) (by simp)).1
  have Un:oy ({m with steps:=m.steps+1} : Mc) fr rs:=⟨Ci.st,Ci.len,Ci.names,Ci.vars⟩
  have Uo:LK p T W ({m with steps:=m.steps+1} : Mc):=⟨FI.W,FI.T,FI.trace,FI.out,FI.L,FI.P,FI.reads⟩
  have Ol:qV p p.bb.L a ({m with steps:=m.steps+1} : Mc):=nU.of rfl (Nat.le_refl _) nU.at_
  have hn:m.next p p.bb.L T W fuel a=(if it.s.kind==4 then(if(({m with steps:=m.steps+1} : Mc).call p W it.s).2.fin==0 then some (({m with steps:=m.steps+1} : Mc).call p W it.s).1 else none,(({m with steps:=m.steps+1} : Mc).call p W it.s).2)
   else if it.s.kind==9 then(if(({m with steps:=m.steps+1} : Mc).fI W it.s).2.fin==0 then(({m with steps:=m.steps+1} : Mc).fI W it.s).2.back p.bb.L (({m with steps:=m.steps+1} : Mc).fI W it.s).1 else(none,(({m with steps:=m.steps+1} : Mc).fI W it.s).2))
   else(if(({m with steps:=m.steps+1} : Mc).do p p.bb.L T W it).2.fin==0 then some (({m with steps:=m.steps+1} : Mc).do p p.bb.L T W it).1 else none,(({m with steps:=m.steps+1} : Mc).do p p.bb.L T W it).2)):=by
   unfold Mc.next
   rw[if_neg (by simp[ba]),if_neg (by simp[bf])]
   dsimp only
   rw[sV]
  rw[hn]at ml
  generalize QS:({m with steps:=m.steps+1} : Mc)=m1 at *
  have au6:m1.fin=0:=by rw[← QS];exact yc
  have aaO:m1.steps=m.steps+1:=by rw[← QS]
  have Uq : ∀ m2:Mc,Eo m1 m2→m2.st.length≤101→An m2:=fun m2 hl hs=>dL.less (by rw[QS];exact hl) hs
  have Om:m1.st=m.st:=by rw[← QS]
  rcases Bool.eq_false_or_eq_true (it.s.kind==4)with b4|b4
  ·rw [if_pos b4]at ml
   have Kx:it.s.kind=4:=by simpa using b4
   have c1:=Xu hS.ok hS.right.may px Un Uo Ol.sE (Xv hS.ok hS.right hx Kx h2 h3)
   repeat' (first
 |simp only[go_sem,hD,gA,gB,gC,ba,bf,hm,wJ,Xq,qT,QP,hLc,cS,XC,J4,hle,b4,aaN,hdr,List.append_nil]
 | (with_reducible refine aF hQ ?_;exact aP))
   refine CR c1 fun d s2 Oj=>?_
   obtain⟨rfl,y2,_,C0⟩:=Oj
   have v7:=C0.kO
   rw[gh]at v7
   have nB:=Xx p W m1 it.s
   have pw:(m1.call p W it.s).2.st.length≤101:=by
    rcases nB.2 with h|h
    ·rw[Om]at h;have:=dL.st;omega
    ·exact h
   rcases Bool.eq_false_or_eq_true ((m1.call p W it.s).2.fin==0)with b|b
   ·rw [b,if_pos rfl]at ml
    repeat' (first
 |simp only[go_sem,hD,gA,gB,gC,v7,b]
 | (with_reducible refine aF hQ ?_;exact aP))
    refine IH _ _ y2 s2 _ ml ⟨⟨dM it,rfl,C0⟩,ae5 hS.right Ol hx Kx (by rw[zk, ← h4];unfold Mc.top;rw[Om]) (by simpa using b) rfl au6,Uq _ nB.1 pw,by simpa using b,by rw[nB.1.steps,aaO];omega⟩ ?_
    simp only[go_sem]
    repeat' (first|exact Ok.out|with_reducible refine jD ?_ ?_)
   ·rw [b,if_neg (by simp)]at ml
    cases ml
    repeat' (first
 |simp only[go_sem,hD,gA,gB,gC,v7,b]
 | (with_reducible refine aF hQ ?_;exact aP))
    refine IA hQ C0 ?_
    simp only[go_sem]
    repeat' (first|exact Ok.out|with_reducible refine jD ?_ ?_)
  rw[if_neg (by simp[b4])]at ml
  rcases Bool.eq_false_or_eq_true (it.s.kind==9)with b9|b9
  ·rw [if_pos b9]at ml
   have c1:=ae9 px Un (QR hS.ok hS.right hx h2 h3).said Uo.W Uo.trace
   repeat' (first
 |simp only[go_sem,hD,gA,gB,gC,ba,bf,hm,wJ,Xq,qT,QP,hLc,cS,XC,J4,hle,b4,b9,aaN,hdr,List.append_nil]
 | (with_reducible refine aF hQ ?_;exact aP))
   refine CR c1 fun d s2 Oj=>?_
   obtain⟨rfl,y2,_,C0⟩:=Oj
   have v7:=C0.kO
   rw[gh]at v7
   have sT:=Ul W m1 it.s
   have hgs:=(B8 W m1 it.s).1
   rcases Bool.eq_false_or_eq_true ((m1.fI W it.s).2.fin==0)with b|b
   ·rw [b,if_pos rfl]at ml
    repeat' (first
 |simp only[go_sem,hD,gA,gB,gC,v7,b]
 | (with_reducible refine aF hQ ?_;exact aP))
    have WT:m1.mem.length≤(m1.fI W it.s).2.mem.length:=by
     have hw:=iR m1 it.s.x
     unfold Mc.fI
     split
     ·dsimp only
      split
      ·rw[(fF _ _ _ _).2.1,hw.2.1];exact Nat.le_refl _
      ·rw[hw.2.1];exact Nat.le_refl _
     ·rw[(fF _ _ _ _).2.1];exact Nat.le_refl _
    refine Oi (a:=a) (g:=(m1.fI W it.s).1) hS hQ (y:=y2) ⟨⟨dM it,rfl,C0⟩,Ol.of hgs WT Ol.at_,Uq _ sT (by rw[hgs,Om];exact dL.st),by simpa using b,by rw[sT.steps,aaO];omega⟩ ?_ ?_
    ·rcases e:(m1.fI W it.s).2.back p.bb.L (m1.fI W it.s).1 with ⟨_ | a',m'⟩
     ·rw[e]at ml;cases ml;exact .inl rfl
     ·rw[e]at ml;exact .inr ⟨a',m',rfl,fun y' s' tm h1 h2=>IH a' m' y' s' tm ml h1 h2⟩
    ·simp only [go_sem]
     repeat' (first|exact Ok.out|with_reducible refine jD ?_ ?_)
   ·rw [b,if_neg (by simp)]at ml
    cases ml
    repeat' (first
 |simp only[go_sem,hD,gA,gB,gC,v7,b]
 | (with_reducible refine aF hQ ?_;exact aP))
    refine IA hQ C0 ?_
    simp only[go_sem]
    repeat' (first|exact Ok.out|with_reducible refine jD ?_ ?_)
  rw[if_neg (by simp[b9])]at ml
  have c1:=auX hS.ok hS.right.may px Un Uo (QR hS.ok hS.right hx h2 h3)
  repeat' (first
 |simp only[go_sem,hD,gA,gB,gC,ba,bf,hm,wJ,Xq,qT,QP,hLc,cS,XC,J4,hle,b4,b9,aaN,hdr,List.append_nil]
 | (with_reducible refine aF hQ ?_;exact aP))
  refine CR c1 fun d s2 Oj=>?_
  obtain⟨rfl,y2,_,C0⟩:=Oj
  have v7:=C0.kO
  rw[gh]at v7
  have QU:=aff p p.bb.L T W m1 it
  have DB:=(T1 p p.bb.L T W m1 it).1
  rcases Bool.eq_false_or_eq_true ((m1.do p p.bb.L T W it).2.fin==0)with b|b
  ·rw [b,if_pos rfl]at ml
   repeat' (first
 |simp only[go_sem,hD,gA,gB,gC,v7,b]
 | (with_reducible refine aF hQ ?_;exact aP))
   refine IH _ _ y2 s2 _ ml ⟨⟨dM it,rfl,C0⟩,amN hS.right Ol hx (by rw[zk, ← h4];unfold Mc.top;rw[Om]) (by simpa using b),Uq _ QU (by rw[DB,Om];exact dL.st),by simpa using b,by rw[QU.steps,aaO];omega⟩ ?_
   simp only[go_sem]
   repeat' (first|exact Ok.out|with_reducible refine jD ?_ ?_)
  ·rw [b,if_neg (by simp)]at ml
   cases ml
   repeat' (first
 |simp only[go_sem,hD,gA,gB,gC,v7,b]
 | (with_reducible refine aF hQ ?_;exact aP))
   refine IA hQ C0 ?_
   simp only[go_sem]
   repeat' (first|exact Ok.out|with_reducible refine jD ?_ ?_)
end
end Go.Abs
namespace Go.Abs
set_option maxRecDepth 8000
open Go.Proofs
def ofM (p:Pg) (T W:List Int) (fuel:Int):Mc×Int:=
 if decide (fuel<0) ||(decide (fuel > 1000000) || !(p.check.1==0))then(⟨[],[],0,0,0,[],[]⟩,1)else((runM p T W fuel).getD ⟨[],[],0,0,0,[],[]⟩,0)
theorem IB (m:Mc):D.bF 0 0 (gS m)=true:=by simp[gS,D.bF,D.ok,Tag.ok,jr,am0]
theorem afi {p:Pg} (hR:p.Right) : ∃ (j:Nat) (q:Pc),p.at jb=(j:Int)∧p.procs[j]? = some q∧p.find q.name=some q∧q.params.length=0:=by
 have h:=hR.main
 unfold Pg.oW at h
 cases e:p.find jb with
 |none=>rw[e]at h;cases h
 |some q=>
  rw[e]at h
  obtain⟨j,h1,h2⟩:=E1 (k:=0) e
  refine⟨j,q,by simpa[Pg.at]using h1,h2,by rw[uf e];exact e, ?_⟩
  simp only[decide_eq_false_iff_not]at h
  omega
theorem ajl {p:Pg} (hO:p.jE) {T W:List Int} (hT:T.length<1000000) (hW:W.length<1000000) (fuel:Int) (s:St) :
 aH Tryz.prog xM [.agg (bK p), .slice .shared 1 (T.map cB), .int .i64 fuel, .slice .shared 1 (W.map cB)] s (.tuple [.agg (gS (ofM p T W fuel).1), .int .i64 (ofM p T W fuel).2]) s:=by
 refine aH.pure ?_ (by simp[D.bF,D.ok,Tag.ok,iP,jr]) (by simp only[D.ok,D.bF,IB];rfl) s
 have cM:=fun s=>Oh hO s
 have cN:=fun s=>EP (p:=p) (by have:=hO.procs;omega) s
 generalize hR:ofM p T W fuel=R
 unfold ofM at hR
 obtain⟨R1,R2⟩:=R
 dsimp only
 unfold S0
 by_cases On:(decide (fuel<0) ||(decide (fuel > 1000000) || !(p.check.1==0)))=true
 ·rw [if_pos On]at hR
  cases hR
  simp only[gS,List.map_nil]
  rcases Bool.eq_false_or_eq_true (decide (fuel<0))with b1|b1
  ·refine aH.go w7 rfl fun B Q hB hQ=> ?_
   have⟨hD,gA,gB,gC⟩:=bP
   repeat' (first
 |simp only[go_sem,hD,gA,gB,gC,b1]
 | (with_reducible refine aF hQ ?_;exact aP))
   refine nh.kj ?_
   repeat' (first
 |simp only[go_sem,hD,gA,gB,gC,b1]
 | (with_reducible refine aF hQ ?_;exact aP))
  rcases Bool.eq_false_or_eq_true (decide (fuel > 1000000))with b2|b2
  ·refine aH.go w7 rfl fun B Q hB hQ=> ?_
   have⟨hD,gA,gB,gC⟩:=bP
   repeat' (first
 |simp only[go_sem,hD,gA,gB,gC,b1,b2]
 | (with_reducible refine aF hQ ?_;exact aP))
   refine nh.kj ?_
   repeat' (first
 |simp only[go_sem,hD,gA,gB,gC,b1,b2]
 | (with_reducible refine aF hQ ?_;exact aP))
  ·have b3:(p.check.1==0)=false:=by simpa [b1,b2]using On
   rw[b3]at cM
   refine aH.go w7 rfl fun B Q hB hQ=>?_
   have⟨hD,gA,gB,gC⟩:=bP
   repeat' (first
 |simp only[go_sem,hD,gA,gB,gC,b1,b2]
 |(with_reducible refine CU (cM _) ?_)
 | (with_reducible refine aF hQ ?_;exact aP))
   refine nh.kj ?_
   repeat' (first
 |simp only[go_sem,hD,gA,gB,gC,b1,b2]
 |(with_reducible refine CU (cM _) ?_)
 |(with_reducible refine aF hQ ?_;exact aP))
 rw[if_neg On]at hR
 simp only[Bool.or_eq_true,not_or,Bool.not_eq_true,Bool.not_eq_false']at On
 obtain⟨b1,b2,b3⟩:=On
 rw[b3]at cM
 have Us:0≤fuel∧fuel≤1000000:=by simp at b1 b2;omega
 obtain⟨mf,hmf⟩:=KA p T W Us.1
 rw[hmf]at hR
 simp only[Option.getD_some]at hR
 cases hR
 have hRt:=Gv b3
 have hS:JE p T W fuel:=⟨hO,hRt,hW,hT,Us⟩
 obtain⟨j,q,j1,j2,j3,j4⟩:=afi hRt
 have cP:=fun s=>(show aH Tryz.prog jv [.dN (gp p) 0, .str [109,97,105,110]] s (.int .i64 (p.at jb)) s from HN (p:=p) (by have:=hO.procs;omega) jb s)
 rw[j1]at cP
 have sT:=hO.procs.2.2
 refine aH.go w7 rfl fun B Q hB hQ=>?_
 have⟨hD,gA,gB,gC⟩:=bP
 -- from the globals on
 have start : ∀ (y:Lay) (s:St),Inv p T W y (kM p) [(2,Ep)] s→Sem Tryz.prog B 131 Q43 (JJ B Q) [(2, .int .i64 fuel),(8, .ptr 2 0),(10, .ptr 0 0)] s:=by
  intro y s hi
  have QT:=hi.new [.int .i64 0, .int .i64 0, .slice .full 0 [], .str [], .str [], .int .i64 0, .int .i64 0, .str [], .slice .full 0 [], .bool false, .slice .full 0 [], .slice .full 0 [], .slice .full 0 [], .int .i64 0, .int .i64 0, .int .i64 0, .int .i64 0]
  have qT:=QT.kO
  rw[gh]at qT
  simp only at qT
  obtain⟨y2,s2,hF,px⟩:=QN QT hO hRt.may j2 j3 (by simp[kM]) (l:= []) (by simp) (by simp) (by simp[kM]) 0
  have hF':=bS.sy (.cons (Wk.refl _) (.cons (Wk.refl _) (.cons (Wk.nil .full 0 1) (kv.refl _)))) hF
  have hF2:aH Tryz.prog kg [.ptr 0 0, .int .i64 (j:Int), .slice .full 0 [], .int .i64 0] _ _ s2:=hF'
  have nU:=QH (m:=kM p) (pB hRt) j2 (l:= []) (call:=0) (by simp[j4]) (by simp) (by simp[kM]) (by simp[kM]) (.inl ⟨rfl,rfl⟩)
  have ml:=hmf
  unfold runM at ml
  rw[j1]at ml
  dsimp only at ml
  have jB:=zt p (kM p) (j:Int) [] 0
  have ux:=(Bk p (kM p) (j:Int) [] 0).1
  have zm:((kM p).open p (j:Int) [] 0).2.fin=0:=by
   unfold Mc.open
   split<;>rfl
  have ajn:=aaM (B:=B) hS hQ _ _ _ y2 s.aj.length s2 ⟨⟨_,rfl,px⟩,nU,⟨by rw[jB.2.2.2];simp[kM],by rw[jB.1,jB.2.2.2];simp[kM],by rw[jB.2.1,jB.2.2.2];simp[kM],by rw[jB.2.2.1,jB.2.2.2];simp[kM],Nat.le_trans ux (by simp[kM])⟩,zm,by rw[jB.2.2.2];simp[kM];exact Us.1⟩ ml
  refine Sem.oM ?_
  repeat' (first
 |simp only[go_sem,hD,gA,gB,gC]
 |(with_reducible refine aF hQ ?_;exact aP))
  refine Sem.oM ?_
  repeat' (first
 |simp only[go_sem,hD,gA,gB,gC]
 |(with_reducible refine aF hQ ?_;exact aP))
  refine Sem.oM ?_
  repeat' (first
 |simp only[go_sem,hD,gA,gB,gC,qT]
 |(with_reducible refine CU (cP _) ?_)
 |(with_reducible refine CU (hF2) ?_)
 |(with_reducible refine aF hQ ?_;exact aP))
  refine Sem.oM ?_
  repeat' (first
 |simp only[go_sem,hD,gA,gB,gC]
 |(with_reducible refine aF hQ ?_;exact aP))
  refine Sem.rB ?_ ajn
  simp only[go_sem]
  repeat' (first|exact Ok.out|with_reducible refine jD ?_ ?_)
 generalize hG:p.globals.length=G at *
 have hGb:G≤900000:=by rw[← hG];exact hO.procs.2.2
 let row:Nat→List D:=fun k=> [.dN (gp p) 0, .slice (.tok 2) 1 ((List.range k).map fun i=>gy (3+i)), .slice .shared 1 (T.map cB), .slice .shared 1 (W.map cB), .fk 1, .fk 1, .int .i64 0, .int .i64 0, .int .i64 0, .slice (.tok 0) 1 [], .slice (.tok 1) 2 []]
 have loop : ∀ d k:Nat,k+d=G→bo Tryz.prog B 131 Q2H (iN 0 (lz (Sem Tryz.prog B 131 Q43 (JJ B Q)) (JJ B Q))) [(2, .int .i64 fuel),(8, .ptr 2 0),(10, .ptr 0 0),(34, .int .i64 (G:Int)),(35, .int .i64 (k:Int))]
  ⟨row k::bK p::Ep::List.replicate k [.int .i64 0],[some 0,some 0,some k]⟩:=by
  intro d
  induction d with
  |zero=>
   intro k hk
   have wG:k=G:=by omega
   subst wG
   have hD:decide ((k:Int)<(k:Int))=false:=by simp
   refine bo.kj ?_
   repeat' (first
 |simp only[go_sem,hD,gA,gB,gC]
 | (with_reducible refine aF hQ ?_;exact aP))
   refine Sem.rB (bE:= [(2, .int .i64 fuel),(8, .ptr 2 0),(10, .ptr 0 0)]) (by simp only[go_sem];repeat' (first|exact Ok.out|with_reducible refine jD ?_ ?_)) ?_
   have hκ:((List.range k).map (3 + ·)).length=k:=by simp
   have hmp:((List.range k).map fun i=>gy (3+i))=(((List.range k).map (3 + ·)).take k).map gy:=by rw[List.take_of_length_le (by simp),List.map_map];rfl
   refine Sem.wkO (gh p T W ⟨(List.range k).map (3 + ·),[], .fk 1, .fk 1⟩ (kM p)::bK p::Ep::List.replicate k [.int .i64 0]) ?_ (start ⟨(List.range k).map (3 + ·),[], .fk 1, .fk 1⟩ _ ?_)
   ·refine .cons ?_ (iu.refl _)
    simp only[row,gh,hG, ← hmp,kM,List.map_nil]
    exact Ok.out
   ·have Ix:((List.range k).map (3 + ·)).Nodup:=by
     rw[List.nodup_iff_pairwise_ne,List.pairwise_map]
     exact List.Pairwise.imp (fun h=>by omega) (List.nodup_iff_pairwise_ne.1 List.nodup_range)
    refine⟨rfl,rfl,rfl,by simp[kM,hG],fun i c v e1 e2=>?_,rfl,fun i o fr e1 e2=>by simp at e1, .inl ⟨rfl,rfl⟩,⟨[], .inl ⟨rfl,rfl⟩⟩, ?_,fun x mx=>?_⟩
    ·have hD:=(List.getElem?_eq_some_iff.1 e1).1
     simp only[hκ]at hD
     rw[List.getElem?_map,List.getElem?_range hD]at e1
     simp only[kM]at e2
     rw[List.getElem?_replicate_of_lt (by omega)]at e2
     simp only[Option.map_some,Option.some.injEq]at e1 e2
     subst e1 e2
     show(_::_::_::List.replicate k [D.int .i64 0])[3+i]? = _
     rw[show 3+i=i+1+1+1 by omega]
     simp only[List.getElem?_cons_succ]
     exact List.getElem?_replicate_of_lt hD
    ·simp only [Lay.own,D.arr,List.append_nil]
     rw[List.nodup_cons]
     exact⟨by simp,Ix⟩
    ·rw [List.mem_singleton.1 mx]
     refine⟨rfl, ?_⟩
     simp only[Lay.own,D.arr,List.append_nil,List.mem_cons,List.mem_map,List.mem_range,not_or]
     exact⟨by omega,by rintro⟨i,_,h⟩;omega⟩
  | succ d ih=>
   intro k hk
   have hD:decide ((k:Int)<(G:Int))=true:=by simp;omega
   have cd:k<4611686018427387904:=by omega
   have fP : ∀ os,jW 1 8 (.slice (.tok 2) 1 ((List.range k).map fun i=>gy (3+i))) (.slice .full 1 [[.ptr (3+k) 0]]) ⟨os,[some 0,some 0,some k]⟩ =
    some (.slice (.tok 2) 1 ((List.range (k+1)).map fun i=>gy (3+i)),⟨os,[some 0,some 0,some (k+1)]⟩):=fun os=>by
    rw[pI (size:=1) (by simp only[List.length_map,List.length_range,List.length_singleton];unfold bp;omega) (by simp)]
    simp[List.range_succ,gy]
   have hln : ∀ a b c:List D,(a::b::c::List.replicate k [D.int .i64 0]).length=3+k:=fun a b c=>by simp;omega
   have au8 : ∀ a b c:List D,a::b::c::List.replicate k [D.int .i64 0]++ [[D.int .i64 0]] = a::b::c::List.replicate (k+1) [D.int .i64 0]:=fun a b c=>by rw[List.replicate_succ'];rfl
   refine bo.kj ?_
   simp only[row]
   repeat' (first
 |simp only[go_sem,hD,gA,gB,gC,fP,hln,au8]
 | (with_reducible refine aF hQ ?_;exact aP))
   have:=ih (k+1) (by omega)
   simp only[row,List.range_succ,List.map_append,List.map_cons,List.map_nil]at this
   refine bo.rB ?_ this
   simp only[go_sem,aM cd]
   repeat' (first|exact Ok.out|with_reducible refine jD ?_ ?_)
 repeat' (first
 |simp only[go_sem,hD,gA,gB,gC,b1,b2]
 |(with_reducible refine aF hQ ?_;exact aP))
 refine nh.once (Sem.oM ?_)
 repeat' (first
 |simp only[go_sem,hD,gA,gB,gC,b1,b2]
 |(with_reducible refine CU (cM _) ?_)
 |(with_reducible refine aF hQ ?_;exact aP))
 refine Sem.oM ?_
 repeat' (first
 |simp only[go_sem,hD,gA,gB,gC]
 |(with_reducible refine CU (cN _) ?_)
 |(with_reducible refine aF hQ ?_;exact aP))
 refine Sem.oM ?_
 repeat' (first
 |simp only[go_sem,hD,gA,gB,gC]
 |(with_reducible refine aF hQ ?_;exact aP))
 refine bo.BI 2 9 1 rfl rfl ?_
 refine bo.BI 2 10 2 rfl rfl ?_
 refine bo.BI 2 1 1 rfl rfl ?_
 simp only[List.set_cons_succ,List.set_cons_zero,List.length_nil,List.nil_append,List.length_cons,List.cons_append]
 have l0:=loop G 0 (by omega)
 simp only[row,List.range_zero,List.map_nil,List.replicate_zero]at l0
 refine bo.re [(2, .int .i64 fuel),(8, .ptr 1 0),(10, .ptr 2 0),(34, .int .i64 (G:Int)),(35, .int .i64 ((0:Nat):Int))]
  [bK p,Ep,[.dN (gp p) 0, .slice (.tok 2) 1 [], .slice .shared 1 (T.map cB), .slice .shared 1 (W.map cB), .fk 1, .fk 1, .int .i64 0, .int .i64 0, .int .i64 0, .slice (.tok 0) 1 [], .slice (.tok 1) 2 []]] 3 3 (by rw[hB];exact Nat.zero_le _) (by rw[hB];exact Nat.zero_le _) ?_ ?_ ?_
 ·simp only [go_sem,hG]
  repeat' (first|exact Ok.out|with_reducible refine jD ?_ ?_)
 ·simp only [go_sem,acT]
  repeat' (first|exact Ok.out|with_reducible refine jD ?_ ?_)
 have r1 : ∀ os ts,D.fc os ts (gp p)=gp p:=fun os ts=>fW os ts _ (wC p)
 have r2 : ∀ n m,D.bF n m (gp p)=true:=fun n m=>jt (Nat.zero_le n) (Nat.zero_le m) _ (wC p)
 have r3 : ∀ os ts l,D.pG os ts (List.map cB l)=List.map cB l:=fun os ts l=>ke os ts _ (jr l)
 have r4 : ∀ n m l,D.jg n m (List.map cB l)=true:=fun n m l=>oa (Nat.zero_le n) (Nat.zero_le m) _ (jr l)
 refine bo.Tp hB [2,0,1] _ _ (by decide) (by simp) ?_ ?_ l0
 ·simp[xJ,D.fc,D.cO,D.pG,D.bF,D.jg,D.ok,Tag.cO,Tag.ok,St.cut,r1,r2,r3,r4,AW,DM,Ep]
 ·simp[AU,Tm.get,D.cO,D.ok]
theorem GH {a b:List Int} (ha:a.length<1000000000) (g:Tag) (s:St):aH Tryz.prog oN [.slice .shared 1 (a.map cB), .slice g 1 (b.map cB)] s (.bool (a==b)) s:=by
 refine bS.sy (.cons (Wk.refl _) (.cons (Wk.shared _ _ _) .nil)) (aH.pure ?_ (by simp[D.bF,D.ok,Tag.ok,jr]) rfl s)
 generalize h:(a==b)=R
 unfold S0
 by_cases hl:a.length=b.length
 ·have e1:((a.length:Int) != (b.length:Int))=false:=by simp [hl]
  refine aH.go xV rfl fun B Q hB hQ=>?_
  have⟨hD,gA,gB,gC⟩:=bP
  repeat' (first
 |simp only[go_sem,hD,gA,gB,gC,e1]
 | (with_reducible refine aF hQ ?_;exact aP))
  refine fz 0 0 (bo.ind (ι:=List Int×List Int×Nat) (fun i=>a.drop i.2.2=i.1∧b.drop i.2.2=i.2.1∧(i.1==i.2.1)=R) (fun i=>i.1.length)
   (fun i=> [(0, .slice .shared 1 (a.map cB)),(1, .slice .shared 1 (b.map cB)),(12, .int .i64 (a.length:Int)),(13, .int .i64 (i.2.2:Int))]) (fun i=>⟨[],[]⟩) ?_ (a,b,0) ⟨rfl,rfl,h⟩)
  rintro⟨ra,rb,k⟩ ⟨h1,h2,h⟩ IH
  dsimp only at h1 h2 h
  cases ra with
  |nil=>
   have hD:=drop_nil h1
   have:b.drop k = []:=by rw[List.drop_eq_nil_iff]at h1 ⊢;omega
   rw[h2]at this
   subst this
   have h':true=R:=h
   subst h'
   repeat' (first
 |simp only[go_sem,hD,gA,gB,gC]
 | (with_reducible refine aF hQ ?_;exact aP))
  | cons x ra=>
   obtain⟨gA,g2,hD,g4⟩:=drop_cons h1
   have cd:k<4611686018427387904:=by omega
   cases rb with
   |nil=>rw[List.drop_eq_nil_iff]at h2;omega
   | cons y rb=>
    obtain⟨yL,g2',aix,g4'⟩:=drop_cons h2
    have e2:(x != y) = !(x==y):=rfl
    simp only[List.cons_beq_cons]at h
    rcases Bool.eq_false_or_eq_true (x==y)with c|c
    ·simp only [c,Bool.true_and]at h
     repeat' (first
 |simp only[go_sem,hD,gA,gB,gC,e2,c,yL]
 |(with_reducible first|refine dU fun hc=>?_|refine dV fun hc=>?_|refine dW (fun hc=>?_) fun hc=>?_)<;>(try simp only[hc,bs,↓reduceIte]at h)<;>try simp only[hc]
 | (with_reducible refine aF hQ ?_;(try cases h);simp only [cZ,da,eK,eO,go_sem,hD,gA,gB,gC,e2,c,yL];try exact iI))
     refine eQ 0 0 ?_ ?_ (IH (ra,rb,k+1) ⟨g2,g2',h⟩ (Nat.lt_succ_self _))
     ·(simp only[go_sem,hD,gA,gB,gC,aM cd];try exact bQ)
     ·(simp only[go_sem,hD,gA,gB,gC,aM cd];try exact bQ)
    ·simp only [c,Bool.false_and]at h
     repeat' (first
 |simp only[go_sem,hD,gA,gB,gC,e2,c,yL]
 |(with_reducible first|refine dU fun hc=>?_|refine dV fun hc=>?_|refine dW (fun hc=>?_) fun hc=>?_)<;>(try simp only[hc,bs,↓reduceIte]at h)<;>try simp only[hc]
 |(with_reducible refine aF hQ ?_;(try cases h);simp only[cZ,da,eK,eO,go_sem,hD,gA,gB,gC,e2,c,yL];try exact iI))
 ·have e1:((a.length:Int) != (b.length:Int))=true:=by simp;omega
  have:(a==b)=false:=by
   rw[beq_eq_false_iff_ne];intro e;rw[e]at hl;exact hl rfl
  rw[this]at h
  subst h
  refine aH.go xV rfl fun B Q hB hQ=>?_
  have⟨hD,gA,gB,gC⟩:=bP
  repeat' (first
 |simp only[go_sem,hD,gA,gB,gC,e1]
 |(with_reducible refine aF hQ ?_;exact aP))
structure Mc.Len (m:Mc):Prop where
 out:m.out.length<1000000000
 trace:m.trace.length<1000000000
 bD : ∀ e∈m.trace,e.2.length<1000000000
def Co (a b:Mc):Bool:=a.fin==b.fin && (a.steps==b.steps && (a.reads==b.reads && a.out==b.out))
def aCs (a b:Mc):Bool:=Co a b && a.trace==b.trace
theorem afj {a b:Mc} (ha:a.Len) (s:St):aH Tryz.prog wk [.agg (gS a), .agg (gS b)] s (.bool (Co a b)) s:=by
 refine aH.pure ?_ (by simp[D.bF,D.ok,IB]) rfl s
 have cE:=fun g s=>GH (a:=a.out) (b:=b.out) ha.out g s
 generalize h:Co a b=R
 simp only[Co]at h
 unfold S0
 simp only[gS]
 rcases Bool.eq_false_or_eq_true (a.fin==b.fin)with c1|c1
 all_goals rcases Bool.eq_false_or_eq_true (a.steps==b.steps)with c2|c2
 all_goals rcases Bool.eq_false_or_eq_true (a.reads==b.reads)with c3|c3
 all_goals
  simp only[c1,c2,c3,Bool.true_and,Bool.false_and]at h
  subst h
  refine aH.go HE rfl fun B Q hB hQ=>?_
  have⟨hD,gA,gB,gC⟩:=bP
  repeat' (first
 |simp only[go_sem,hD,gA,gB,gC,c1,c2,c3]
 |(with_reducible refine CU (cE _ _) ?_)
 |(with_reducible refine aF hQ ?_;exact aP))
theorem JF:gS (ofM uc [] [5,2] 50).1 = [.int .i64 1, .int .i64 7, .int .i64 0, .slice .shared 1 ([5,5].map cB), .slice .shared 2 ([(2,[]),(5,[5])].map pR)]:=by kernel_rfl
theorem am2:(ofM uc [] [5,2] 50).2=0:=by kernel_rfl
theorem afk:Nat.ble (uc.size+1) 1000=true:=by kernel_rfl
theorem ajo (n:Int):sr (.ofInt .f64) (.int .i64 n) (.int .i64 n)=some (.val (.float .f64 (FloatKind.nearest .f64 n))):=nd rfl
theorem aaP (a b:Nat):sr .LO (.val (.float .f64 a)) (.val (.float .f64 b))=some (.val (.complex .f64 a b)):=nd rfl
theorem aaQ (a b:Nat) (d:D):sr .real (.val (.complex .f64 a b)) d=some (.val (.float .f64 a)):=nd rfl
theorem am3:sr .eq (.val (.float .f64 (FloatKind.nearest .f64 7))) (.val (.float .f64 4619567317775286272))=some (.bool true):=by
 have:FloatKind.nearest .f64 7=4619567317775286272:=by decide +kernel
 rw[this]
 have h:(FloatKind.f64.format.order 4619567317775286272 4619567317775286272==some .eq)=true:=by decide +kernel
 show(if FloatKind.f64=FloatKind.f64 then some (D.bool (FloatKind.f64.format.order 4619567317775286272 4619567317775286272==some .eq))else none)=_
 rw[if_pos rfl,h]
theorem ajp:uc.jE:=by
 have Dx:uc.size<100000:=by have:=Nat.le_of_ble_eq_true afk;omega
 exact⟨Kn (by decide +kernel) (by omega),by omega⟩
theorem ajq (n k:Nat) (m:Mc):D.iF n k (gS m)=gS m:=jk n k _ (IB m)
theorem afl (m:Mc):(gS m).length=5:=nd rfl
theorem aaR (m:Mc):List.take 5 (gS m)=gS m:=nd rfl
theorem am4 (m:Mc):(gS m)[0]? = some (.int .i64 m.fin):=nd rfl
theorem am5 (m:Mc):(gS m)[1]? = some (.int .i64 m.steps):=nd rfl
theorem am6 (m:Mc):(gS m)[2]? = some (.int .i64 m.reads):=nd rfl
theorem am7 (m:Mc):(gS m)[3]? = some (.slice .shared 1 (m.out.map cB)):=nd rfl
theorem am8 (m:Mc):(gS m)[4]? = some (.slice .shared 2 (m.trace.map pR)):=nd rfl
attribute [go_sem] ajq afl aaR am4 am5 am6 am7 am8
theorem afm (m:Mc) (s:St):aH Tryz.prog zW [.agg (gS m)] s (.val (.complex .f64 (FloatKind.nearest .f64 m.steps) (FloatKind.nearest .f64 m.reads))) s:=by
 refine aH.pure ?_ (by simp[D.bF,D.ok,IB]) rfl s
 unfold S0
 refine aH.go Lb rfl fun B Q hB hQ=>?_
 have⟨hD,gA,gB,gC⟩:=bP
 repeat' (first
 |simp only[go_sem,hD,gA,gB,gC,gS,ajo,aaP]
 |(with_reducible refine aF hQ ?_;exact aP))
theorem am9 (s:St):aH Tryz.prog zS [] s (.bool true) s:=by
 refine aH.pure ?_ rfl rfl s
 have h1:=fun s=>aiU s
 have h2:=fun s=>ajl (T:= []) (W:= [5,2]) ajp (by simp) (by simp) 50 s
 have h4:=fun s=>afm (ofM uc [] [5,2] 50).1 s
 have m1:(ofM uc [] [5,2] 50).1.steps=7:=by have:=congrArg (fun l=>l[1]?) JF;simpa[gS]using this
 have m2:(ofM uc [] [5,2] 50).1.reads=0:=by have:=congrArg (fun l=>l[2]?) JF;simpa[gS]using this
 rw[m1,m2]at h4
 rw[JF]at h2 h4
 rw[am2]at h2
 simp only[List.map_cons,List.map_nil,cB,pR]at h2 h4
 have h3:=fun g s=>GH (a:= [5,5]) (b:= [5,5]) (by simp) g s
 have h5:=fun g s=>GH (a:= [5]) (b:= [5]) (by simp) g s
 have e5:(([5,5] : List Int) == [5,5])=true:=rfl
 have e6:(([5] : List Int) == [5])=true:=rfl
 rw[e5]at h3
 rw[e6]at h5
 simp only[List.map_cons,List.map_nil,cB]at h3 h5
 have wK:=fun s=>bS.sy (.cons (Wk.refl _) (.cons (Wk.nil .full 0 1) (.cons (Wk.refl _) (.cons (Wk.shared .full _ _) .nil)))) (h2 s)
 have h2 : ∀ s,aH Tryz.prog xM [.agg (bK uc), .slice .full 0 [], .int .i64 50, .slice .full 1 [[.int .i64 5],[.int .i64 2]]] s _ s:=wK
 clear wK
 have z0 : ∀ x:Int,(x==x)=true:=fun x=>beq_self_eq_true x
 have z2:(((2:Nat):Int)==2)=true:=rfl
 unfold S0
 refine aH.go K8 rfl fun B Q hB hQ=>?_
 have⟨hD,gA,gB,gC⟩:=bP
 repeat' (first
 |simp only[go_sem,hD,gA,gB,gC,z0,z2,aaQ,am3,Int.toNat_one,List.getElem?_cons_succ,List.getElem?_cons_zero]
 |(with_reducible refine CU (h1 _) ?_)
 |(with_reducible refine CU (h2 _) ?_)
 |(with_reducible refine CU (h3 _ _) ?_)
 |(with_reducible refine CU (h5 _ _) ?_)
 |(with_reducible refine CU (h4 _) ?_)
 |(with_reducible refine aF hQ ?_;exact aP))
theorem afn {p:Pg} (hO:p.jE) (T:List Int) (fuel:Int) (s:St):aH Tryz.prog wj [.agg (bK p), .slice .shared 1 (T.map cB), .int .i64 fuel] s (.bool (p.check.1==0 && (decide (0≤fuel) && (decide (fuel≤400) && decide ((T.length:Int)≤100))))) s:=by
 refine aH.pure ?_ (by simp[D.bF,D.ok,Tag.ok,iP,jr]) rfl s
 have h1:=fun s=>Oh hO s
 have g1:decide (fuel≥0)=decide (0≤fuel):=rfl
 unfold S0
 rcases Bool.eq_false_or_eq_true (p.check.1==0)with b1|b1
 all_goals rcases Bool.eq_false_or_eq_true (decide (0≤fuel))with b2|b2
 all_goals rcases Bool.eq_false_or_eq_true (decide (fuel≤400))with b3|b3
 all_goals rcases Bool.eq_false_or_eq_true (decide ((T.length:Int)≤100))with b4|b4
 all_goals simp only[b1,b2,b3,b4,Bool.true_and,Bool.false_and]
 all_goals rw[b1]at h1
 all_goals rw[b2]at g1
 all_goals
  refine aH.go HC rfl fun B Q hB hQ=>?_
  have⟨hD,gA,gB,gC⟩:=bP
  repeat' (first
 |simp only[go_sem,hD,gA,gB,gC,g1,b3,b4]
 |(with_reducible refine CU (h1 _) ?_)
 |(with_reducible first|refine dU fun hc=>?_|refine dV fun hc=>?_|refine dW (fun hc=>?_) fun hc=>?_)<;>(try simp only[hc,bs,↓reduceIte]at h)<;>try simp only[hc]
 |(with_reducible refine aF hQ ?_;exact aP))
def Pg.whole (p:Pg) (T:List Int) (fuel:Int):Mc:=(ofM p T (kr 0 p.all) fuel).1
theorem IC {p:Pg} (hO:p.jE) (Bg:p.all.length≤1000) {T:List Int} (hT:T.length<1000000) (fuel:Int) (s:St):aH Tryz.prog sf [.agg (bK p), .slice .shared 1 (T.map cB), .int .i64 fuel] s (.agg (gS (p.whole T fuel))) s:=by
 refine aH.pure ?_ (by simp[D.bF,D.ok,Tag.ok,iP,jr]) (by simp only[D.ok,IB]) s
 have zk:=hO.procs
 have h1:=fun s=>ac1 (p:=p) (by omega) Bg 0 s
 have hW:(kr 0 p.all).length<1000000:=by have:=Cc 0 p.all;omega
 have h2:=fun s=>ajl hO hT hW fuel s
 unfold Pg.whole
 unfold S0
 refine aH.go HD rfl fun B Q hB hQ=>?_
 have⟨hD,gA,gB,gC⟩:=bP
 repeat' (first
 |simp only[go_sem,hD,gA,gB,gC]
 |(with_reducible refine CU (h1 _) ?_)
 |(with_reducible refine CU (h2 _) ?_)
 |(with_reducible refine aF hQ ?_;exact aP))
end Go.Abs
namespace Go.Abs
def Reads (n:Nat) (m:Mc):Prop:=0≤m.reads∧m.reads≤(n:Int)∧(m.fin=3→m.reads=(n:Int))
def Sm.tells (s:Sm):Nat:=if s.kind==4 ||(decide (s.kind≥7) && !s.has)then 0 else 1
def QV (m m':Mc):Prop:=m'.trace=m.trace∧m'.out=m.out∧m'.reads=m.reads
def QW (T:List Int) (x:Sm) (m m':Mc):Prop:=∃ bD:List Int,m'.trace=m.trace++ [(x.id,bD)]∧m'.out=m.out++(if x.kind==3 then bD else [])∧bD.length=x.tells∧
 (if x.kind==2 then ∃ v,T[m.reads.toNat]? = some v∧bD = [v]∧m'.reads=m.reads+1 else m'.reads=m.reads)
def Cp (T:List Int) (x:Sm) (m m':Mc):Prop:=QV m m'∨QW T x m m'
theorem QX {s:Sm} (h:s.one=true):1≤s.kind∧s.kind≤10∧(s.kind≠9→s.has=false):=by
 unfold Sm.one at h
 split at h
 ·cases h
 ·rename_i c
  simp only[Bool.or_eq_true,not_or,Bool.not_eq_true,Bool.and_eq_false_iff,decide_eq_false_iff_not,bne_eq_false_iff_eq]at c
  obtain⟨⟨⟨⟨⟨c1,c2⟩,_⟩,_⟩,_⟩,c3⟩:=c
  refine⟨by omega,by omega,fun hk=>?_⟩
  rcases c3 with c3|c3
  ·exact c3
  ·exact absurd c3 hk
theorem uZ {T W:List Int} {x:Sm} {m m1:Mc} {bD:List Int} (hW:W.contains x.id=true) (e:m1.trace=m.trace) (eo:m1.out=m.out) (er:m1.reads=m.reads) (hv:bD.length=x.tells) (h3:(x.kind==3)=false) (h2:(x.kind==2)=false):QW T x m (m1.event W x.id bD):=by
 have k:=fF W m1 x.id bD
 refine⟨bD, ?_, ?_,hv, ?_⟩
 ·unfold Mc.event;rw[if_pos hW];dsimp only;rw[e]
 ·rw[h3];simp[k.2.2.2.2.2,eo]
 ·rw[h2];simp[k.2.2.2.2.1,er]
theorem Ut {p:Pg} {T W:List Int} {m:Mc} {v:Sm} (hk:(v.kind==4)=true) (hW:W.contains v.id=true):Cp T v m (m.call p W v).2:=by
 have h1:=Cm v.args m []
 have h2:=zu v.args m []
 unfold Mc.call
 generalize Mc.args v.args m [] = r at *
 obtain⟨o,m1⟩:=r
 dsimp only at h1 h2
 have k4:v.kind=4:=by simpa using hk
 cases o with
 |none=>exact .inl ⟨h1.2,h1.1,h2.1⟩
 | some l=>
  dsimp only
  by_cases c:m1.st.length > 100
  ·rw[if_pos c];exact .inl ⟨h1.2,h1.1,h2.1⟩
  ·rw [if_neg c]
   have e2:=zt p (m1.event W v.id []) (p.at v.proc) l v.id
   obtain⟨bD,g1,g2,g3,g4⟩:=uZ (T:=T) (x:=v) (m:=m) (bD:= []) hW h1.2 h1.1 h2.1 (by unfold Sm.tells;rw[hk];rfl) (by rw[k4];rfl) (by rw[k4];rfl)
   exact .inr ⟨bD,e2.1.trans g1,e2.2.1.trans g2,g3,by rw[e2.2.2.1];exact g4⟩
theorem PR {T W:List Int} {m:Mc} {v:Sm} (hk:(v.kind==9)=true) (hW:W.contains v.id=true):Cp T v m (m.fI W v).2:=by
 have hw:=iR m v.x
 have k9:v.kind=9:=by simpa using hk
 have k4:(v.kind==4)=false:=by rw[k9];rfl
 have k7:decide (v.kind≥7)=true:=by simp[k9]
 unfold Mc.fI
 rcases Bool.eq_false_or_eq_true v.has with c|c
 ·rw [if_pos c]
  dsimp only
  split
  ·exact .inr (uZ hW hw.2.2.2.2.2 hw.2.2.2.2.1 hw.2.2.2.1 (by unfold Sm.tells;rw[k4,k7,c];rfl) (by rw[k9];rfl) (by rw[k9];rfl))
  ·exact .inl ⟨hw.2.2.2.2.2,hw.2.2.2.2.1,hw.2.2.2.1⟩
 ·rw [if_neg (by rw [c];exact Bool.false_ne_true)]
  exact .inr (uZ hW rfl rfl rfl (by unfold Sm.tells;rw[k4,k7,c];rfl) (by rw[k9];rfl) (by rw[k9];rfl))
theorem aaS {p:Pg} {L:List Im} {T W:List Int} {m:Mc} {it:Im} (h1:it.s.one=true) (k4:(it.s.kind==4)=false) (k9:(it.s.kind==9)=false) (hW:W.contains it.s.id=true):Cp T it.s m (m.do p L T W it).2:=by
 have hw:=iR m it.s.x
 obtain⟨o1,o2,o3⟩:=QX h1
 have hh:=o3 (by simpa using k9)
 have late:(decide (it.s.kind≥7))=true→it.s.tells=0:=fun e=>by unfold Sm.tells;rw[k4,e,hh];rfl
 have avb:(decide (it.s.kind≥7))=false→it.s.tells=1:=fun e=>by unfold Sm.tells;rw[k4,e];rfl
 unfold Mc.do
 dsimp only
 by_cases c7:(it.s.kind==7)=true
 ·rw [if_pos c7]
  have e:it.s.kind=7:=by simpa using c7
  exact .inr (uZ hW rfl rfl rfl (late (by simp[e])).symm (by rw[e];rfl) (by rw[e];rfl))
 rw[if_neg c7]
 by_cases c8:(it.s.kind==8)=true
 ·rw [if_pos c8]
  have e:it.s.kind=8:=by simpa using c8
  exact .inr (uZ hW rfl rfl rfl (late (by simp[e])).symm (by rw[e];rfl) (by rw[e];rfl))
 rw[if_neg c8]
 by_cases KR:(it.s.kind==10)=true
 ·rw [if_pos KR]
  have e:it.s.kind=10:=by simpa using KR
  exact .inr (uZ hW rfl rfl rfl (late (by simp[e])).symm (by rw[e];rfl) (by rw[e];rfl))
 rw[if_neg KR]
 have s7:decide (it.s.kind≥7)=false:=by
  simp only[beq_iff_eq]at c7 c8 KR
  simp only[beq_eq_false_iff_ne,ne_eq]at k9
  simp only[decide_eq_false_iff_not]
  omega
 have one:=avb s7
 by_cases c2:(it.s.kind==2)=true
 ·rw [if_pos c2]
  have e:it.s.kind=2:=by simpa using c2
  cases ht:T[m.reads.toNat]? with
  |none=>exact .inl ⟨rfl,rfl,rfl⟩
  |some n=>
   dsimp only
   have k:=fF W (({m with reads:=m.reads+1} : Mc).set it.s.name n) it.s.id [n]
   refine .inr ⟨[n], ?_, ?_,by rw[one];rfl, ?_⟩
   ·unfold Mc.event;rw[if_pos hW];rfl
   ·rw[k.2.2.2.2.2,e];simp[Mc.set]
   ·rw[if_pos c2];exact⟨n,ht,rfl,k.2.2.2.2.1⟩
 rw[if_neg c2]
 have Oo:(it.s.kind==2)=false:=by simpa using c2
 by_cases cw:(m.bj it.s.x).1.2=true
 ·rw [if_pos cw]
  have k:=fF W (m.bj it.s.x).2 it.s.id [(m.bj it.s.x).1.1]
  have et:((m.bj it.s.x).2.event W it.s.id [(m.bj it.s.x).1.1]).trace=m.trace++ [(it.s.id,[(m.bj it.s.x).1.1])]:=by
   unfold Mc.event;rw[if_pos hW];dsimp only;rw[hw.2.2.2.2.2]
  by_cases c3:(it.s.kind==3)=true
  ·have e:it.s.kind=3:=by simpa using c3
   have n1 : ¬((it.s.kind==1)=true):=by rw[e];decide
   rw[if_neg n1,if_pos c3]
   refine .inr ⟨[(m.bj it.s.x).1.1],et, ?_,by rw[one];rfl, ?_⟩
   ·rw[if_pos c3];dsimp only;rw[k.2.2.2.2.2,hw.2.2.2.2.1]
   ·rw[if_neg c2];dsimp only;rw[k.2.2.2.2.1,hw.2.2.2.1]
  ·have key:QW T it.s m ((m.bj it.s.x).2.event W it.s.id [(m.bj it.s.x).1.1]):=
    uZ hW hw.2.2.2.2.2 hw.2.2.2.2.1 hw.2.2.2.1 (by rw[one];rfl) (by simpa using c3) Oo
   rw[if_neg c3]
   split
   ·exact .inr key
   split
   ·exact .inr key
   split
   ·exact .inr key
   ·exact .inr key
 ·rw [if_neg cw]
  exact .inl ⟨hw.2.2.2.2.2,hw.2.2.2.2.1,hw.2.2.2.1⟩
theorem Oq (L:List Im) (m:Mc) (g:Int):QV m (m.back L g).2:=by
 have h:=Cn L m g
 exact⟨h.1,h.2.1,h.2.2.1⟩
theorem Cp.sil {T:List Int} {x:Sm} {m m1 m2:Mc} (h:Cp T x m m1) (k:QV m1 m2):Cp T x m m2:=by
 rcases h with h|⟨v,h1,h2,h3,h4⟩
 ·exact .inl ⟨k.1.trans h.1,k.2.1.trans h.2.1,k.2.2.trans h.2.2⟩
 ·exact .inr ⟨v,k.1.trans h1,k.2.1.trans h2,h3,by rw[k.2.2];exact h4⟩
theorem Uu {p:Pg} {L:List Im} {T W:List Int} (hW : ∀ x∈L,W.contains x.s.id=true∧x.s.one=true) {fuel a:Int} {m:Mc} (ha:pO L a) :
 QV m (m.next p L T W fuel a).2∨∃ x∈L,QW T x.s m (m.next p L T W fuel a).2:=by
 unfold Mc.next
 by_cases c1:(a == -1)=true
 ·rw[if_pos c1];exact .inl (Oq L m 0)
 rw[if_neg c1]
 by_cases c2:(m.steps==fuel)=true
 ·rw[if_pos c2];exact .inl ⟨rfl,rfl,rfl⟩
 rw[if_neg c2]
 have hm:=qU ha (by simpa using c1)
 obtain⟨w1,w2⟩:=hW _ hm
 dsimp only
 have fin : ∀ {m':Mc},Cp T (dZ L a).s {m with steps:=m.steps+1} m'→QV m m'∨∃ x∈L,QW T x.s m m':=fun {m'} h=>by
  rcases h with h|h
  ·exact .inl h
  ·exact .inr ⟨_,hm,h⟩
 by_cases c4:((dZ L a).s.kind==4)=true
 ·rw[if_pos c4];exact fin (Ut c4 w1)
 rw[if_neg c4]
 by_cases c9:((dZ L a).s.kind==9)=true
 ·rw [if_pos c9]
  have:=PR (T:=T) (m:= {m with steps:=m.steps+1}) c9 w1
  split
  ·exact fin (this.sil (Oq ..))
  ·exact fin this
 rw[if_neg c9]
 exact fin (aaS w2 (by simpa using c4) (by simpa using c9) w1)
def qa (f:Int→Sm) (k:Int):List (Int×List Int)→List Int
 | []=> []
 |e::l=>(if(f e.1).kind==k then e.2 else [])++qa f k l
theorem Cq (f:Int→Sm) (k:Int) : ∀ a b,qa f k (a++b)=qa f k a++qa f k b
 | [],b=>rfl
 |e::a,b=>by simp only[List.cons_append,qa,Cq f k a b,List.append_assoc]
structure wF (L:List Im) (f:Int→Sm) (T:List Int) (m:Mc):Prop where
 ev : ∀ e∈m.trace,∃ x∈L,x.s.id=e.1∧e.2.length=x.s.tells
 out:qa f 3 m.trace=m.out
 ins:qa f 2 m.trace=T.take m.reads.toNat
 reads:0≤m.reads∧m.reads≤(T.length:Int)
theorem wF.sil {L:List Im} {f:Int→Sm} {T:List Int} {m m':Mc} (h:wF L f T m) (k:QV m m'):wF L f T m':=by
 obtain⟨k1,k2,k3⟩:=k
 exact⟨by rw[k1];exact h.ev,by rw[k1,k2];exact h.out,by rw[k1,k3];exact h.ins,by rw[k3];exact h.reads⟩
theorem wF.tel {L:List Im} {f:Int→Sm} {T:List Int} {m m':Mc} {x:Im} (hx:x∈L) (hf:f x.s.id=x.s) (h:wF L f T m) (k:QW T x.s m m'):wF L f T m':=by
 obtain⟨v,k1,k2,k3,k4⟩:=k
 refine⟨fun e me=>?_, ?_, ?_, ?_⟩
 ·rw [k1]at me
  rcases List.mem_append.1 me with me|me
  ·exact h.ev e me
  ·rw[List.mem_singleton.1 me];exact⟨x,hx,rfl,k3⟩
 ·rw[k1,k2,Cq,h.out];simp[qa,hf]
 ·rw [k1,Cq,h.ins]
  by_cases c:(x.s.kind==2)=true
  ·rw [if_pos c]at k4
   obtain⟨w,j1,j2,j3⟩:=k4
   have hr:=h.reads.1
   have e:m'.reads.toNat=m.reads.toNat+1:=by rw[j3];omega
   rw[e,List.take_add_one,j1,j2]
   simp[qa,hf,c]
  ·rw [if_neg c]at k4
   rw[k4]
   have c':(x.s.kind==2)=false:=by simpa using c
   simp[qa,hf,c']
 ·by_cases c:(x.s.kind==2)=true
  ·rw [if_pos c]at k4
   obtain⟨w,j1,j2,j3⟩:=k4
   have hr:=h.reads
   have:=(List.getElem?_eq_some_iff.1 j1).1
   omega
  ·rw [if_neg c]at k4
   rw[k4];exact h.reads
theorem QY {p:Pg} {L:List Im} (hL:CY p L) {f:Int→Sm} (hf : ∀ x∈L,f x.s.id=x.s) {T W:List Int} (hW : ∀ x∈L,W.contains x.s.id=true∧x.s.one=true) {fuel:Int} : ∀ (N:Nat) (a:Int) (m m':Mc),pO L a→qm L m→m.fin=0→(m.trace.length:Int)=m.steps→wF L f T m→
 Mc.go p L T W fuel N a m=some m'→wF L f T m'
 | 0,_,_,_,_,_,_,_,_,h=>by simp[Mc.go]at h
 | N+1,a,m,m',ha,hs,hfi,ht,hl,h=>by
  have hn:=KE (fuel:=fuel) (tape:=T) hL (fun x mx=>(hW x mx).1) ha hs hfi ht
  have he:=Uu (p:=p) (T:=T) (W:=W) (fuel:=fuel) (m:=m) hW ha
  have mZ:wF L f T (m.next p L T W fuel a).2:=by
   rcases he with he|⟨x,mx,he⟩
   ·exact hl.sil he
   ·exact hl.tel mx (hf x mx) he
  simp only[Mc.go]at h
  cases e:m.next p L T W fuel a with
  | mk o m1=>
   rw[e]at h hn mZ
   cases o with
   |none=>simp only[Option.some.injEq]at h;subst h;exact mZ
   |some a1=>
    obtain⟨h1,h2,h3,h4⟩:=hn
    exact QY hL hf hW N a1 m1 m' h1 h2 h3 h4 mZ h
theorem XD {p:Pg} (hL:CY p p.bb.L) {f:Int→Sm} (hf : ∀ x∈p.bb.L,f x.s.id=x.s) {T W:List Int} (hW : ∀ x∈p.bb.L,W.contains x.s.id=true∧x.s.one=true) {fuel:Int} {m:Mc} (h:runM p T W fuel=some m):wF p.bb.L f T m:=by
 obtain⟨h1,h2,h3,h4⟩:=NO hL
 have ho:=zt p (kM p) (p.at jb) [] 0
 refine QY hL hf hW _ _ _ _ h1 h2 h3 h4 ?_ h
 have h0:wF p.bb.L f T (kM p):=⟨fun e me=>by simp[kM]at me,rfl,rfl,by simp[kM]⟩
 exact h0.sil ⟨ho.1,ho.2.1,ho.2.2.1⟩
def aDc (fuel:Int) (m:Mc):Prop:=m.fin=2→m.steps=fuel
def anb (W:List Int) (l:List (Int×List Int)):List (Int×List Int):=l.filter fun e=>W.contains e.1
def aDd (W:List Int) (m:Mc):Mc:= {m with trace:=anb W m.trace}
theorem Ot : ∀ l:List It,kr 0 l=l.map fun i=>i.s.id
 | []=>rfl
 |i::l=>by simp only[kr,List.map_cons,Ot l];rfl
theorem Ou {p:Pg} (hb:p.may=true) : ∀ x∈p.bb.L,(kr 0 p.all).contains x.s.id=true∧x.s.one=true:=fun x mx=>by
 have h1:x.s∈p.pre:=by rw[← (kW p).1];exact List.mem_map_of_mem mx
 refine⟨?_,EX hb _ h1⟩
 rw[Ot,List.contains_iff_mem]
 have e:p.all.map (fun i=>i.s.id)=(p.all.map It.s).map fun s=>s.id:=by rw[List.map_map];rfl
 rw[e,(x7 hb).2]
 exact List.mem_map_of_mem h1
theorem KW {p:Pg} (hb:p.may=true) {v:Sm} (hv:v∈p.pre):p.xf v.id=v:=by
 obtain⟨h1,h2⟩:=aau hb ⟨v,hv,rfl⟩
 obtain⟨i,hi⟩:=List.getElem?_of_mem hv
 obtain⟨j,hj⟩:=List.getElem?_of_mem h1
 have e1:=rY hb hi
 have e2:=rY hb hj
 have:i=j:=by omega
 subst this
 rw[hi]at hj
 exact(Option.some.inj hj).symm
theorem Uv {p:Pg} {T W:List Int} {fuel:Int} {m:Mc} (h0:0≤fuel) (h:runM p T W fuel=some m):m.steps≤fuel:=by
 have h1:=Bk p (kM p) (p.at jb) [] 0
 have e2:(kM p).steps=0:=rfl
 exact NP p _ T W _ _ _ m (by rw[h1.2,e2];exact h0) h
theorem ID {f:Int→Sm} {k:Int} : ∀ {l:List (Int×List Int)},(∀ e∈l,e.2.length≤1)→(qa f k l).length≤l.length
 | [],_=>Nat.le_refl _
 |e::l,h=>by
  have h1:=ID (f:=f) (k:=k) fun e m=>h e (List.mem_cons_of_mem _ m)
  have h2:=h e (List.mem_cons_self ..)
  simp only[qa,List.length_append,List.length_cons]
  split<;>simp<;>omega
theorem aaT (s:Sm):s.tells≤1:=by unfold Sm.tells;split<;>omega
structure Run (p:Pg) (T:List Int) (fuel:Int) (m:Mc):Prop where
 run:runM p T (kr 0 p.all) fuel=some m
 of:ofM p T (kr 0 p.all) fuel=(m,0)
 whole:p.whole T fuel=m
 aDe:wF p.bb.L p.xf T m
 told:aas m
 steps:m.steps≤fuel
 len:m.Len
 small:m.trace.length≤fuel.toNat∧m.out.length≤fuel.toNat∧∀ e∈m.trace,e.2.length≤1
theorem XE {p:Pg} (hc:(p.check.1==0)=true) {T:List Int} {fuel:Int} (h0:0≤fuel) (h1:fuel≤1000000) : ∃ m,Run p T fuel m:=by
 have hR:=Gv hc
 have hb:=hR.may
 obtain⟨m,hm⟩:=KA p T (kr 0 p.all) h0
 have zm:ofM p T (kr 0 p.all) fuel=(m,0):=by
  unfold ofM
  rw[if_neg,hm];rfl
  simp[hc];omega
 have hl:=Xi hR
 have hlg:=XD (f:=p.xf) hl (fun x mx=>KW hb (by rw[← (kW p).1];exact List.mem_map_of_mem mx)) (Ou hb) hm
 have ht:=W6 hl (fun x mx=>(Ou hb x mx).1) hm
 have hs:=Uv h0 hm
 have hv : ∀ e∈m.trace,e.2.length≤1:=fun e me=>by
  obtain⟨x,_,_,h⟩:=hlg.ev e me
  rw[h];exact aaT _
 have wI:m.trace.length≤fuel.toNat:=by rcases ht with ⟨_,h⟩|⟨_,h⟩<;>omega
 have jB:m.out.length≤fuel.toNat:=by rw[← hlg.out];exact Nat.le_trans (ID hv) wI
 exact⟨m,hm,zm,by unfold Pg.whole;rw[zm],hlg,ht,hs,⟨by omega,by omega,fun e me=>by have:=hv e me;omega⟩,wI,jB,hv⟩
structure aDf (fuel:Int) (r s:Mc):Prop where
 steps:r.steps=fuel
 trace:(r.trace.length:Int)=fuel
 more:r.steps≤s.steps
 reads:r.reads≤s.reads
 out:(decide ((r.out.length:Int)≤(s.out.length:Int)) && r.out==s.out.take r.out.length)=true
 told:fuel≤(s.trace.length:Int)∧s.trace.take fuel.toNat=r.trace
set_option maxRecDepth 8000
open Go.Proofs
theorem aaU {p:Pg} {T:List Int} {fuel:Int} (h:(p.check.1==0 && (decide (0≤fuel) && (decide (fuel≤400) && decide ((T.length:Int)≤100))))=true):(p.check.1==0)=true∧0≤fuel∧fuel≤400∧T.length≤100:=by
 simp only[Bool.and_eq_true,decide_eq_true_eq]at h
 exact⟨h.1,h.2.1,h.2.2.1,by omega⟩
def TKs (l:List rz):Prop:=∀ t∈l,(t.kind=1→isName t.text=true)∧(t.kind=2→0≤t.n)
def GK {α:Type} (r:Rd) (o:Option (α×Rd)) (Q:α→Prop):Prop:=∀ p,o=some p→p.2.l=r.l∧(p.2.good=true→r.good=true∧Q p.1)
def GKR (r:Rd) (o:Option Rd):Prop:=∀ p,o=some p→p.l=r.l∧(p.good=true→r.good=true)
def Pt {α:Type} (o:Option α) (Q:α→Prop):Prop:=∀ a,o=some a→Q a
structure avc (a b:Rd):Prop where
 l:b.l=a.l
 n:b.n=a.n
 g:b.good=true→a.good=true
def SmK (r0:Rd) (p:Sm×Rd):Prop:=avc r0 p.2∧p.1.aO = []∧p.1.aN = []
structure Num (r:Rd) (k:Nat) (r':Rd):Prop where
 l:r'.l=r.l
 g:r'.good=true→r.good=true
 n:r'.good=true→k=r'.n
 le:r'.good=true→r.n≤200→r'.n≤200
def SmL (s:Sm):Prop:=∀ L,fh L=true→({s with labels:=L} : Sm).one=true
def aCt (s:aK):Bool:=s == [98,114,101,97,107] ||s == [99,111,110,116,105,110,117,101] ||s == [114,101,116,117,114,110] ||s == [103,111,116,111] ||s == [114,101,97,100] ||s == [112,114,105,110,116]
mutual
def Sm.okM (d:Int):Sm→Prop
 |⟨id,kind,labels,name,proc,x,has,args,aO,aN⟩=>(⟨id,kind,labels,name,proc,x,has,args,aO,aN⟩:Sm).one=true∧d≤12∧Sm.Uw (d+1) aO∧Sm.Uw (d+1) aN
def Sm.Uw (d:Int):List Sm→Prop
 | []=>True
 |s::l=>s.okM d∧Sm.Uw d l
end
def aDg (d:Int) (s:Sm):Prop:=∀ L,fh L=true→({s with labels:=L} : Sm).okM d
structure Pc.okM (f:Pc):Prop where
 name:isName f.name=true
 params:Pm.gL f.params=true∧f.params.length≤8
 vars:fh f.vars=true∧(f.vars.length:Int)≤16
 fin:fh f.fin=true
 body:Sm.Uw 1 f.body
def Its (n:Nat) (WY:List It):Prop:=∀ (j:Nat) (it:It),WY[j]? = some it→it.s.id=((n+j+1:Nat):Int)∧it.deep≤12∧it.s.one=true
def Pc.tot:List Pc→Nat
 | []=>0
 |f::l=>Sm.jJ f.body+Pc.tot l
def Sm.core (v:Sm):Sm:= {v with id:=0,aO:= [],aN:= []}
theorem KX (v:Sm):v.core.said=v.said:=by cases v;rfl
theorem XF (ln:List aK) (v:Sm) (lp:Int):kl ln v.core lp=kl ln v lp:=rfl
theorem XG (ln:List aK) (v:Sm) (lp fX:Int) (h:(lp != 0)=(fX != 0)):kl ln v lp=kl ln v fX:=by unfold kl;rw[h]
mutual
def Sm.cp (b:Bool):Sm→List (Sm×Bool)
 |⟨id,kind,labels,name,pc,x,has,args,aO,aN⟩=>((⟨id,kind,labels,name,pc,x,has,args,aO,aN⟩:Sm).core,b)::(Sm.ki (b ||kind==6) aO++Sm.ki (b ||kind==6) aN)
def Sm.ki (b:Bool):List Sm→List (Sm×Bool)
 | []=> []
 |s::l=>s.cp b++Sm.ki b l
end
mutual
theorem ajv (proc up next loop:Int) : ∀ s:Sm,(∀ v∈s.pre,v.id≠0)→(s.tW proc up next loop).map (fun m=>(m.s.core,m.loop != 0))=s.cp (loop != 0)
 | ⟨id,kind,labels,name,pc,x,has,args,aO,aN⟩,h=>by
  have Bl:id≠0:=h ⟨id,kind,labels,name,pc,x,has,args,aO,aN⟩ (by simp[Sm.pre])
  have h1 : ∀ v∈Sm.bH aO,v.id≠0:=fun v m=>h v (by simp[Sm.pre,m])
  have h2 : ∀ v∈Sm.bH aN,v.id≠0:=fun v m=>h v (by simp[Sm.pre,m])
  have e:((if kind==6 then id else loop) != 0)=((loop != 0) ||kind==6):=by
   cases hk:(kind==6)<;>simp[Bl]
  simp only[Sm.tW,Sm.cp,List.map_cons,List.map_append,E5 _ _ _ _ aO h1,E5 _ _ _ _ aN h2,e]
theorem E5 (proc up next loop:Int) : ∀ l:List Sm,(∀ v∈Sm.bH l,v.id≠0)→(Sm.fJ proc up next loop l).map (fun m=>(m.s.core,m.loop != 0))=Sm.ki (loop != 0) l
 | [],_=>rfl
 |s::l,h=>by
  simp only[Sm.fJ,Sm.ki,List.map_append]
  rw[ajv _ _ _ _ s fun v m=>h v (by simp[Sm.bH,m]),E5 _ _ _ _ l fun v m=>h v (by simp[Sm.bH,m])]
end
def Pc.ki (f:Pc):List (Sm×Bool):=Sm.ki false f.body
theorem XH {f:Pc} (h : ∀ v∈Sm.bH f.body,v.id≠0):f.sk.map (fun q=>(q.1.core,q.2 != 0))=f.ki:=by
 have:=E5 0 0 (-1) 0 f.body h
 unfold Pc.sk Pc.ki
 rw[List.map_map]
 exact this
mutual
theorem ajw (b:Bool) : ∀ s:Sm,(s.cp b).map Prod.fst=s.pre.map Sm.core
 |⟨id,kind,labels,name,pc,x,has,args,aO,aN⟩=>by simp only[Sm.cp,Sm.pre,List.map_cons,List.map_append,qe _ aO,qe _ aN]
theorem qe (b:Bool) : ∀ l:List Sm,(Sm.ki b l).map Prod.fst=(Sm.bH l).map Sm.core
 | []=>rfl
 |s::l=>by simp only[Sm.ki,Sm.bH,List.map_append,ajw _ s,qe _ l]
end
theorem vw : ∀ l:List Sm,dK (l.map Sm.core)=dK l
 | []=>rfl
 |v::l=>by simp only[List.map_cons,dK,vw l];rfl
theorem IE (f:Pc):f.labels=dK (f.ki.map Prod.fst)++f.fin:=by
 unfold Pc.labels Pc.ki
 rw[qe,vw]
theorem Es {x:aK} : ∀ {l:List Sm},x∈sm l↔∃ v∈l,x∈v.said
 | []=>by simp[sm]
 |v::l=>by simp[sm,Es (l:=l)]
structure Pc.Part (g f:Pc):Prop where
 name:g.name=f.name
 params:g.params=f.params
 vars:g.vars=f.vars
 fin:g.fin=f.fin
 sub:List.Sublist g.ki f.ki
 uW : ∀ c∈g.ki,c.1.kind=10→c.1.name∈f.labels→c.1.name∈g.labels
structure Pg.Part (q p:Pg):Prop where
 sE:q.globals=p.globals
 procs : ∃ l:List (Pc×Pc),q.procs=l.map Prod.fst∧(l.map Prod.snd).Perm p.procs∧∀ x∈l,Pc.Part x.1 x.2
theorem uh {nm:aK} : ∀ {l:List Pc} {f:Pc},(l.map (·.name)).Nodup→(iE nm l=some f↔f∈l∧f.name=nm)
 | [],f,_=>by simp[iE]
 | a::l,f,h=>by
  simp only[List.map_cons,List.nodup_cons]at h
  simp only[iE]
  by_cases e:(a.name==nm)=true
  ·rw [if_pos e]
   have e':a.name=nm:=by simpa using e
   constructor
   ·intro h1;cases h1;exact⟨List.mem_cons_self ..,e'⟩
   ·rintro⟨h1,h2⟩
    rcases List.mem_cons.1 h1 with rfl|h1
    ·rfl
    ·exact absurd (List.mem_map_of_mem (f:=fun x:Pc=>x.name) h1) (by show f.name∉_;rw[h2, ← e'];exact h.1)
  ·rw [if_neg e,uh h.2]
   constructor
   ·exact fun⟨h1,h2⟩=>⟨List.mem_cons_of_mem _ h1,h2⟩
   ·rintro⟨h1,h2⟩
    rcases List.mem_cons.1 h1 with rfl|h1
    ·exact absurd (by simpa using h2) e
    ·exact⟨h1,h2⟩
theorem Ap {nm:aK} {T T':List aK} (hT : ∀ x,fH T' x=true→fH T x=true) : ∀ {l:List Ar} {seen:List aK},nM nm T seen l=true→nM nm T' seen l=true
 | [],_,_=>rfl
 | a::l,seen,h=>by
  simp only[nM]at h ⊢
  split
  ·rename_i hr
   rw[if_pos hr]at h
   split at h
   ·cases h
   ·rename_i hc
    simp only[Bool.or_eq_true,not_or,Bool.not_eq_true]at hc
    have hx:fH T' a.name=false:=by
     cases e:fH T' a.name with
     |false=>rfl
     |true=>rw[hT _ e]at hc;exact absurd hc.2.2 (by simp)
    rw[if_neg (by simp only[Bool.or_eq_true,not_or,Bool.not_eq_true];exact⟨hc.1,hc.2.1,hx⟩)]
    exact Ap hT h
  ·rename_i hr
   rw[if_neg hr]at h
   exact Ap hT h
theorem QZ {p:Pg} (h:p.may=true) {f:Pc} (hf:f∈p.procs) : ∀ v∈Sm.bH f.body,v.id≠0:=fun v m=>by
 have hm:v∈p.pre:=by simp only[Pg.pre,List.mem_flatten,List.mem_map];exact⟨_,⟨f,hf,rfl⟩,m⟩
 obtain⟨i,hi⟩:=List.getElem?_of_mem hm
 have:=rY h hi
 omega
theorem Q1 {ln:List aK} {f:Pc} (h : ∀ v∈Sm.bH f.body,v.id≠0):(∀ q∈f.sk,kl ln q.1 q.2=true)↔∀ c∈f.ki,kl ln c.1 (if c.2 then 1 else 0)=true:=by
 rw[← XH h]
 have key : ∀ q:Sm×Int,kl ln q.1.core (if(q.2 != 0)=true then 1 else 0)=kl ln q.1 q.2:=fun q=>by
  rw[XF]
  exact XG ln q.1 _ _ (by cases (q.2 != 0)<;>rfl)
 constructor
 ·intro h1 c hc
  obtain⟨q,hq,rfl⟩:=List.mem_map.1 hc
  rw[key];exact h1 q hq
 ·intro h1 q hq
  have:=h1 _ (List.mem_map_of_mem hq)
  rw[key]at this;exact this
def vx (it:Im) (n:Int):Int:=if it.s.kind==5 then(if n==0 then firstM it.s.aN it.next else firstM it.s.aO it.next)else(if n==0 then it.next else firstM it.s.aO it.s.id)
def Ux (p:Pg) (it:Im):Int:=match p.procs[it.proc.toNat]? with|some f=>(gP f.fin it.s.name (Sm.bH f.body)).1|none=>0
def LL (L L':List Im) (R:Int→Int→Prop) (c c':Int):Prop:=(c=0∧c'=0)∨(c≠0∧c'≠0∧(dZ L' c').s.name=(dZ L c).s.name∧R (dZ L c).next (dZ L' c').next)
def Cr (p q:Pg) (R:Int→Int→Prop) (i i':Int):Prop:=match p.procs[i.toNat]?,q.procs[i'.toNat]? with
 |some f,some f'=>f'.own=f.own∧f'.vars.length=f.vars.length∧R (dA f.body (-1)) (dA f'.body (-1))
 |_,_=>False
structure Alike (p q:Pg) (L L':List Im) (R:Int→Int→Prop) (x x':Im):Prop where
 kind:1≤x.s.kind∧x.s.kind≤10
 plain:x.s.kind=1∨x.s.kind=2∨x.s.kind=3→x'.s.kind=x.s.kind∧x'.s.name=x.s.name∧x'.s.x=x.s.x∧R x.next x'.next
 call:x.s.kind=4→x'.s.kind=4∧x'.s.args=x.s.args∧LL L L' R x.s.id x'.s.id∧Cr p q R (p.at x.s.proc) (q.at x'.s.proc)
 ret:x.s.kind=9→x'.s.kind=9∧x'.s.has=x.s.has∧x'.s.x=x.s.x
 brk:x.s.kind=7→x'.s.kind=7∧R (dZ L x.loop).next (dZ L' x'.loop).next
 cont:x.s.kind=8→x'.s.kind=8∧R x.loop x'.loop
 uW:x.s.kind=10→x'.s.kind=10∧R (Ux p x) (Ux q x')
 cond:x.s.kind=5∨x.s.kind=6→(x'.s.kind=5∨x'.s.kind=6)∧∀ names bD,(x'.s.x.bj names bD).2=(x.s.x.bj names bD).2∧((x.s.x.bj names bD).2=true→R (vx x (x.s.x.bj names bD).1) (vx x' (x'.s.x.bj names bD).1))
structure Ov (p q:Pg) (L L':List Im) (R:Int→Int→Prop):Prop where
 globals:q.globals=p.globals
 last:R (-1) (-1)
 nil : ∀ a a',R a a'→(a = -1↔a' = -1)
 step : ∀ a a',R a a'→a≠ -1→Alike p q L L' R (dZ L a) (dZ L' a')
structure FrR (L L':List Im) (R:Int→Int→Prop) (f f':Fr):Prop where
 names:f'.names=f.names
 vars:f'.vars=f.vars
 call:LL L L' R f.call f'.call
inductive IF (P:Fr→Fr→Prop):List Fr→List Fr→Prop
 |nil:IF P [] []
 |cons {f f':Fr} {l l':List Fr} : P f f'→IF P l l'→IF P (f::l) (f'::l')
theorem IF.len {P:Fr→Fr→Prop} : ∀ {l l'},IF P l l'→l'.length=l.length
 |_,_, .nil=>rfl
 |_,_, .cons _ h=>by simp only[List.length_cons,h.len]
theorem IF.tail {P:Fr→Fr→Prop} : ∀ {l l'},IF P l l'→IF P l.tail l'.tail
 |_,_, .nil=> .nil
 |_,_, .cons _ h=>h
structure gH (L L':List Im) (R:Int→Int→Prop) (m m':Mc):Prop where
 st:IF (FrR L L' R) m.st m'.st
 mem:m'.mem=m.mem
 fin:m'.fin=m.fin
 steps:m'.steps=m.steps
 reads:m'.reads=m.reads
 out:m'.out=m.out
variable {p q:Pg} {L L':List Im} {R:Int→Int→Prop} {m m':Mc}
theorem gH.top (h:gH L L' R m m'):FrR L L' R m.top m'.top:=by
 have:=h.st
 unfold Mc.top
 cases m with|mk st _ _ _ _ _ _=>
 cases m' with|mk st' _ _ _ _ _ _=>
 dsimp only at this ⊢
 cases this with
 |nil=>exact⟨rfl,rfl, .inl ⟨rfl,rfl⟩⟩
 |cons hf _=>exact hf
theorem gH.bD (h:gH L L' R m m'):m'.bD=m.bD:=by
 unfold Mc.bD;rw[h.top.vars,h.mem]
theorem gH.cell (h:gH L L' R m m') (name:aK):m'.cell name=m.cell name:=by
 unfold Mc.cell;rw[h.top.vars,h.top.names]
theorem gH.set (h:gH L L' R m m') (name:aK) (v:Int):gH L L' R (m.set name v) (m'.set name v):=
 ⟨h.st,by show m'.mem.set (m'.cell name) v=m.mem.set (m.cell name) v;rw[h.cell,h.mem],h.fin,h.steps,h.reads,h.out⟩
theorem gH.event (h:gH L L' R m m') (W W':List Int) (id id':Int) (bD adg:List Int):gH L L' R (m.event W id bD) (m'.event W' id' adg):=by
 have a:=fF W m id bD
 have b:=fF W' m' id' adg
 exact⟨by rw[a.1,b.1];exact h.st,by rw[a.2.1,b.2.1];exact h.mem,by rw[a.2.2.1,b.2.2.1];exact h.fin,by rw[a.2.2.2.1,b.2.2.2.1];exact h.steps,by rw[a.2.2.2.2.1,b.2.2.2.2.1];exact h.reads,by rw[a.2.2.2.2.2,b.2.2.2.2.2];exact h.out⟩
theorem gH.aaV (h:gH L L' R m m') (k:Int):gH L L' R {m with fin:=k} {m' with fin:=k}:=⟨h.st,h.mem,rfl,h.steps,h.reads,h.out⟩
theorem gH.XI (h:gH L L' R m m') {x x':Ex} (e : ∀ names bD,(x'.bj names bD).2=(x.bj names bD).2):(m'.bj x').1.2=(m.bj x).1.2∧gH L L' R (m.bj x).2 (m'.bj x').2:=by
 have e1:=e m.top.names m.bD
 unfold Mc.bj
 rw[h.top.names,h.bD]
 dsimp only
 rw[e1]
 refine⟨rfl, ?_⟩
 split
 ·exact h
 ·exact h.aaV 4
theorem gH.bj (h:gH L L' R m m') (x:Ex):(m'.bj x).1=(m.bj x).1∧gH L L' R (m.bj x).2 (m'.bj x).2:=by
 refine⟨?_,(h.XI fun _ _=>rfl).2⟩
 unfold Mc.bj
 rw[h.top.names,h.bD]
theorem gH.args : ∀ (l:List Ar) {m m':Mc} (h:gH L L' R m m') (out:List Nat),(Mc.args l m' out).1=(Mc.args l m out).1∧gH L L' R (Mc.args l m out).2 (Mc.args l m' out).2
 | [],_,_,h,out=>⟨rfl,h⟩
 | a::l,m,m',h,out=>by
  obtain⟨w1,w2⟩:=h.bj a.x
  simp only[Mc.args,w1,h.cell,w2.mem]
  by_cases c:a.ref=true
  ·rw[if_pos c,if_pos c];exact gH.args l h _
  ·rw [if_neg c,if_neg c]
   by_cases c2:(m.bj a.x).1.2=true
   ·rw [if_pos c2,if_pos c2]
    exact gH.args l (m:= {(m.bj a.x).2 with mem:=(m.bj a.x).2.mem++ [(m.bj a.x).1.1]}) (m':= {(m'.bj a.x).2 with mem:=(m.bj a.x).2.mem++ [(m.bj a.x).1.1]}) ⟨w2.st,rfl,w2.fin,w2.steps,w2.reads,w2.out⟩ _
   ·rw[if_neg c2,if_neg c2];exact⟨rfl,w2⟩
def JG (L L':List Im) (R:Int→Int→Prop) (r r':Int×Mc):Prop:=gH L L' R r.2 r'.2∧(r.2.fin=0→R r.1 r'.1)
theorem gH.open (hb:Ov p q L L' R) (h:gH L L' R m m') {i i':Int} (ho:Cr p q R i i') (l:List Nat) {c c':Int} (hc:LL L L' R c c'):JG L L' R (m.open p i l c) (m'.open q i' l c'):=by
 unfold Cr at ho
 unfold Mc.open
 cases e:p.procs[i.toNat]? with
 |none=>rw[e]at ho;exact ho.elim
 | some f=>
  cases e':q.procs[i'.toNat]? with
  |none=>rw[e,e']at ho;exact ho.elim
  |some f'=>
   rw[e,e']at ho
   obtain⟨o1,o2,o3⟩:=ho
   dsimp only
   exact⟨⟨.cons ⟨by dsimp only;rw[hb.globals,o1],by dsimp only;rw[hb.globals,o2,h.mem],hc⟩ h.st,by dsimp only;rw[o2,h.mem],h.fin,h.steps,h.reads,h.out⟩,fun _=>o3⟩
def aaW (L L':List Im) (R:Int→Int→Prop) (r r':Option Int×Mc):Prop:=gH L L' R r.2 r'.2∧(match r.1,r'.1 with|none,none=>True|some a,some a'=>R a a'|_,_=>False)
theorem JG.aaX {r r':Int×Mc} (h:JG L L' R r r'):aaW L L' R (if r.2.fin==0 then some r.1 else none,r.2) (if r'.2.fin==0 then some r'.1 else none,r'.2):=by
 refine⟨h.1, ?_⟩
 dsimp only
 rw[h.1.fin]
 by_cases c:(r.2.fin==0)=true
 ·rw[if_pos c,if_pos c];exact h.2 (by simpa using c)
 ·rw[if_neg c,if_neg c];trivial
theorem gH.close (h:gH L L' R m m') (g:Int):JG L L' R (m.close L g) (m'.close L' g):=by
 have ht:=h.top
 have iL:gH L L' R {m with st:=m.st.tail} {m' with st:=m'.st.tail}:=⟨h.st.tail,h.mem,h.fin,h.steps,h.reads,h.out⟩
 unfold Mc.close
 dsimp only
 rcases ht.call with ⟨c1,c2⟩|⟨c1,c2,c3,c4⟩
 ·have Ii:(m.top.call==0)=true:=by rw [c1];rfl
  have Oo:(m'.top.call==0)=true:=by rw[c2];rfl
  rw[if_pos Ii,if_pos Oo]
  exact⟨iL.aaV 1,fun e=>absurd e (by show(1:Int)≠0;decide)⟩
 ·have Ii : ¬((m.top.call==0)=true):=by simpa using c1
  have Oo : ¬((m'.top.call==0)=true):=by simpa using c2
  rw[if_neg Ii,if_neg Oo,c3]
  by_cases c:((dZ L m.top.call).s.name == [])=true
  ·rw[if_pos c,if_pos c];exact⟨iL,fun _=>c4⟩
  ·rw[if_neg c,if_neg c];exact⟨iL.set _ g,fun _=>c4⟩
theorem gH.call (hb:Ov p q L L' R) (h:gH L L' R m m') (W W':List Int) {v v':Sm} (ha:v'.args=v.args) (ho:Cr p q R (p.at v.proc) (q.at v'.proc)) (hc:LL L L' R v.id v'.id):JG L L' R (m.call p W v) (m'.call q W' v'):=by
 have h1:=gH.args v.args h []
 unfold Mc.call
 rw[ha]
 generalize Mc.args v.args m [] = r at *
 generalize Mc.args v.args m' [] = r' at *
 obtain⟨o,m1⟩:=r
 obtain⟨o',m1'⟩:=r'
 obtain⟨e,h2⟩:=h1
 dsimp only at e h2
 subst e
 cases o' with
 |none=>
  dsimp only
  exact⟨h2,fun _=>hb.last⟩
 | some l=>
  dsimp only
  rw[h2.st.len]
  by_cases c:m1.st.length > 100
  ·rw[if_pos c,if_pos c];exact⟨h2.aaV 5,fun e=>absurd e (by show(5:Int)≠0;decide)⟩
  ·rw [if_neg c,if_neg c]
   exact(h2.event W W' v.id v'.id [] []).open hb ho l hc
theorem gH.fI (h:gH L L' R m m') (W W':List Int) {v v':Sm} (hh:v'.has=v.has) (hx:v'.x=v.x):(m'.fI W' v').1=(m.fI W v).1∧gH L L' R (m.fI W v).2 (m'.fI W' v').2:=by
 obtain⟨w1,w2⟩:=h.bj v.x
 unfold Mc.fI
 rw[hh,hx]
 by_cases c:v.has=true
 ·rw [if_pos c,if_pos c]
  dsimp only
  rw[w1]
  by_cases c2:(m.bj v.x).1.2=true
  ·rw[if_pos c2,if_pos c2];exact⟨rfl,w2.event ..⟩
  ·rw[if_neg c2,if_neg c2];exact⟨rfl,w2⟩
 ·rw[if_neg c,if_neg c];exact⟨rfl,h.event ..⟩
theorem gH.do (hb:Ov p q L L' R) (h:gH L L' R m m') (T W W':List Int) {x x':Im} (ha:Alike p q L L' R x x') (k4:x.s.kind≠4) (k9:x.s.kind≠9):JG L L' R (m.do p L T W x) (m'.do q L' T W' x'):=by
 obtain⟨ak,ap,ac,ar,ab,XJ,ag,XK⟩:=ha
 have hk:x.s.kind=1∨x.s.kind=2∨x.s.kind=3∨x.s.kind=5∨x.s.kind=6∨x.s.kind=7∨x.s.kind=8∨x.s.kind=10:=by omega
 rcases hk with k|k|k|k|k|k|k|k
 ·obtain⟨e1,e2,e3,e4⟩:=ap (.inl k)
  rw[k]at e1
  obtain⟨w1,w2⟩:=h.bj x.s.x
  unfold Mc.do
  dsimp only
  simp only[k,e1,show((1:Int)==7)=false from rfl,show((1:Int)==8)=false from rfl,show((1:Int)==10)=false from rfl,show((1:Int)==2)=false from rfl,show((1:Int)==1)=true from rfl,Bool.false_eq_true,if_false,if_true,e2,e3,w1]
  by_cases c:(m.bj x.s.x).1.2=true
  ·rw[if_pos c,if_pos c];exact⟨(w2.event ..).set ..,fun _=>e4⟩
  ·rw[if_neg c,if_neg c];exact⟨w2,fun _=>hb.last⟩
 ·obtain⟨e1,e2,e3,e4⟩:=ap (.inr (.inl k))
  rw[k]at e1
  unfold Mc.do
  dsimp only
  simp only[k,e1,show((2:Int)==7)=false from rfl,show((2:Int)==8)=false from rfl,show((2:Int)==10)=false from rfl,show((2:Int)==2)=true from rfl,Bool.false_eq_true,if_false,if_true,e2,h.reads]
  cases T[m.reads.toNat]? with
  |none=>exact⟨⟨h.st,h.mem,rfl,h.steps,rfl,h.out⟩,fun e=>absurd e (by show(3:Int)≠0;decide)⟩
  |some n=>
   refine⟨gH.event (gH.set (m:= {m with reads:=m.reads+1}) (m':= {m' with reads:=m.reads+1}) ⟨h.st,h.mem,h.fin,h.steps,rfl,h.out⟩ x.s.name n) ..,fun _=>e4⟩
 ·obtain⟨e1,e2,e3,e4⟩:=ap (.inr (.inr k))
  rw[k]at e1
  obtain⟨w1,w2⟩:=h.bj x.s.x
  unfold Mc.do
  dsimp only
  simp only[k,e1,show((3:Int)==7)=false from rfl,show((3:Int)==8)=false from rfl,show((3:Int)==10)=false from rfl,show((3:Int)==2)=false from rfl,show((3:Int)==1)=false from rfl,show((3:Int)==3)=true from rfl,Bool.false_eq_true,if_false,if_true,e3,w1]
  by_cases c:(m.bj x.s.x).1.2=true
  ·rw [if_pos c,if_pos c]
   have hv:=w2.event W W' x.s.id x'.s.id [(m.bj x.s.x).1.1] [(m.bj x.s.x).1.1]
   exact⟨⟨hv.st,hv.mem,hv.fin,hv.steps,hv.reads,by dsimp only;rw[hv.out]⟩,fun _=>e4⟩
  ·rw[if_neg c,if_neg c];exact⟨w2,fun _=>hb.last⟩
 iterate 2
  ·obtain⟨e1,e2⟩:=XK (by omega)
   have e3:=e2 m.top.names m.bD
   have hw:=h.XI (x:=x.s.x) (x':=x'.s.x) (fun names bD=>(e2 names bD).1)
   have hd:(m.bj x.s.x).1.2=true→R (vx x (m.bj x.s.x).1.1) (vx x' (m'.bj x'.s.x).1.1):=fun hg=>by
    have:=e3.2 hg
    unfold Mc.bj
    rw[h.top.names,h.bD]
    exact this
   unfold Mc.do
   dsimp only
   rw[hw.1]
   have n1:(x'.s.kind==7)=false:=by simp;omega
   have n2:(x'.s.kind==8)=false:=by simp;omega
   have n3:(x'.s.kind==10)=false:=by simp;omega
   have n4:(x'.s.kind==2)=false:=by simp;omega
   have n5:(x'.s.kind==1)=false:=by simp;omega
   have n6:(x'.s.kind==3)=false:=by simp;omega
   have o1:(x.s.kind==7)=false:=by simp;omega
   have o2:(x.s.kind==8)=false:=by simp;omega
   have o3:(x.s.kind==10)=false:=by simp;omega
   have o4:(x.s.kind==2)=false:=by simp;omega
   have o5:(x.s.kind==1)=false:=by simp;omega
   have o6:(x.s.kind==3)=false:=by simp;omega
   simp only[n1,n2,n3,n4,n5,n6,o1,o2,o3,o4,o5,o6,Bool.false_eq_true,if_false]
   by_cases c:(m.bj x.s.x).1.2=true
   ·rw [if_pos c,if_pos c]
    have hd:=hd c
    have hv:=hw.2.event W W' x.s.id x'.s.id [(m.bj x.s.x).1.1] [(m'.bj x'.s.x).1.1]
    have ed : ∀ {y:Im} {n:Int} {M:Mc},y.s.kind=5∨y.s.kind=6→(if(y.s.kind==5)=true then(if(n==0)=true then firstM y.s.aN y.next else firstM y.s.aO y.next,M)else if(y.s.kind==6)=true then(if(n==0)=true then y.next else firstM y.s.aO y.s.id,M)else(y.next,M))=(vx y n,M):=fun {y n M} hy=>by
     unfold vx
     rcases hy with hy|hy
     ·rw[hy];rfl
     ·rw[hy];rfl
    rw[ed (by omega),ed e1]
    exact⟨hv,fun _=>hd⟩
   ·rw[if_neg c,if_neg c];exact⟨hw.2,fun _=>hb.last⟩
 ·obtain⟨e1,e2⟩:=ab k
  unfold Mc.do
  dsimp only
  simp only[k,e1,show((7:Int)==7)=true from rfl,if_true]
  exact⟨h.event ..,fun _=>e2⟩
 ·obtain⟨e1,e2⟩:=XJ k
  unfold Mc.do
  dsimp only
  simp only[k,e1,show((8:Int)==7)=false from rfl,show((8:Int)==8)=true from rfl,Bool.false_eq_true,if_false,if_true]
  exact⟨h.event ..,fun _=>e2⟩
 ·obtain⟨e1,e2⟩:=ag k
  unfold Mc.do
  dsimp only
  simp only[k,e1,show((10:Int)==7)=false from rfl,show((10:Int)==8)=false from rfl,show((10:Int)==10)=true from rfl,Bool.false_eq_true,if_false,if_true]
  exact⟨h.event ..,fun _=>e2⟩
theorem gH.back (h:gH L L' R m m') (g:Int):aaW L L' R (m.back L g) (m'.back L' g):=(h.close g).aaX
theorem gH.next (hb:Ov p q L L' R) (h:gH L L' R m m') (T W W':List Int) (fuel:Int) {a a':Int} (ha:R a a'):aaW L L' R (m.next p L T W fuel a) (m'.next q L' T W' fuel a'):=by
 have hn:=hb.nil a a' ha
 unfold Mc.next
 by_cases c1:a = -1
 ·have Ii:=hn.1 c1
  subst c1 Ii
  exact h.back 0
 have Ii : ¬((a == -1)=true):=by simpa using c1
 have Oo : ¬((a' == -1)=true):=by simpa using fun e=>c1 (hn.2 e)
 rw[if_neg Ii,if_neg Oo,h.steps]
 by_cases c2:(m.steps==fuel)=true
 ·rw[if_pos c2,if_pos c2];exact⟨⟨h.st,h.mem,rfl,rfl,h.reads,h.out⟩,trivial⟩
 rw[if_neg c2,if_neg c2]
 have hs:=hb.step a a' ha c1
 have h1:gH L L' R {m with steps:=m.steps+1} {m' with steps:=m.steps+1}:=⟨h.st,h.mem,h.fin,rfl,h.reads,h.out⟩
 generalize dZ L a=x at *
 generalize dZ L' a'=x' at *
 dsimp only
 by_cases k4:x.s.kind=4
 ·obtain⟨e1,e2,e3,e4⟩:=hs.call k4
  have b4:(x.s.kind==4)=true:=by rw[k4];rfl
  have b4':(x'.s.kind==4)=true:=by rw[e1];rfl
  rw[if_pos b4,if_pos b4']
  exact(gH.call hb h1 W W' e2 e4 e3).aaX
 have k4':x'.s.kind≠4:=fun e=>by
  obtain⟨ak,ap,ac,ar,ab,XJ,ag,XK⟩:=hs
  by_cases q1:x.s.kind=1∨x.s.kind=2∨x.s.kind=3
  ·have:=(ap q1).1;omega
  by_cases q2:x.s.kind=5∨x.s.kind=6
  ·have:=(XK q2).1;omega
  by_cases q3:x.s.kind=7
  ·have:=(ab q3).1;omega
  by_cases q4:x.s.kind=8
  ·have:=(XJ q4).1;omega
  by_cases q5:x.s.kind=9
  ·have:=(ar q5).1;omega
  ·have:=(ag (by omega)).1;omega
 have b4 : ¬((x.s.kind==4)=true):=by simpa using k4
 have b4' : ¬((x'.s.kind==4)=true):=by simpa using k4'
 rw[if_neg b4,if_neg b4']
 by_cases k9:x.s.kind=9
 ·obtain⟨e1,e2,e3⟩:=hs.ret k9
  obtain⟨g1,g2⟩:=h1.fI W W' e2 e3
  have b9:(x.s.kind==9)=true:=by rw[k9];rfl
  have b9':(x'.s.kind==9)=true:=by rw[e1];rfl
  rw[if_pos b9,if_pos b9',g2.fin,g1]
  by_cases c:((Mc.fI W {m with steps:=m.steps+1} x.s).2.fin==0)=true
  ·rw[if_pos c,if_pos c];exact g2.back _
  ·rw[if_neg c,if_neg c];exact⟨g2,trivial⟩
 have k9':x'.s.kind≠9:=fun e=>by
  obtain⟨ak,ap,ac,ar,ab,XJ,ag,XK⟩:=hs
  by_cases q1:x.s.kind=1∨x.s.kind=2∨x.s.kind=3
  ·have:=(ap q1).1;omega
  by_cases q2:x.s.kind=5∨x.s.kind=6
  ·have:=(XK q2).1;omega
  by_cases q3:x.s.kind=7
  ·have:=(ab q3).1;omega
  by_cases q4:x.s.kind=8
  ·have:=(XJ q4).1;omega
  ·have:=(ag (by omega)).1;omega
 have b9 : ¬((x.s.kind==9)=true):=by simpa using k9
 have b9' : ¬((x'.s.kind==9)=true):=by simpa using k9'
 rw[if_neg b9,if_neg b9']
 exact(gH.do hb h1 T W W' hs k4 k9).aaX
theorem gH.go (hb:Ov p q L L' R) (T W W':List Int) (fuel:Int) : ∀ (N:Nat) {a a':Int} {m m' k:Mc},gH L L' R m m'→R a a'→Mc.go p L T W fuel N a m=some k→∃ k',Mc.go q L' T W' fuel N a' m'=some k'∧gH L L' R k k'
 | 0,_,_,_,_,_,_,_,h=>by simp[Mc.go]at h
 | N+1,a,a',m,m',k,hm,ha,h=>by
  have hn:=gH.next hb hm T W W' fuel ha
  simp only[Mc.go]at h ⊢
  generalize m.next p L T W fuel a=r at *
  generalize m'.next q L' T W' fuel a'=r' at *
  obtain⟨o,m1⟩:=r
  obtain⟨o',m1'⟩:=r'
  obtain⟨n1,n2⟩:=hn
  dsimp only at n1 n2
  cases o with
  |none=>
   cases o' with
   |none=>simp only[Option.some.injEq]at h;subst h;exact⟨m1',rfl,n1⟩
   |some b=>exact n2.elim
  |some b=>
   cases o' with
   |none=>exact n2.elim
   |some b'=>exact gH.go hb T W W' fuel N n1 n2 h
theorem aaY (hb:Ov p q p.bb.L q.bb.L R) (ho:Cr p q R (p.at jb) (q.at jb)) {T W W':List Int} {fuel:Int} {k:Mc} (h:runM p T W fuel=some k) : ∃ k',runM q T W' fuel=some k'∧gH p.bb.L q.bb.L R k k':=by
 have h0:gH p.bb.L q.bb.L R (kM p) (kM q):=⟨.nil,by unfold kM;rw[hb.globals],rfl,rfl,rfl,rfl⟩
 have h1:=gH.open hb h0 ho [] (.inl ⟨rfl,rfl⟩)
 unfold runM at h ⊢
 dsimp only at h ⊢
 refine gH.go hb T W W' fuel _ h1.1 (h1.2 ?_) h
 unfold Mc.open
 split<;>rfl
theorem XL {k k':Mc} (h:gH L L' R k k'):Co k k'=true:=by
 unfold Co
 rw[h.fin,h.steps,h.reads,h.out]
 simp
end Go.Abs
namespace Go.Abs
mutual
def Sm.GN:Sm→Sm
 |⟨id,kind,labels,name,proc,x,has,args,aO,aN⟩=>⟨0,kind,labels,name,proc,x,has,args,Sm.fO aO,Sm.fO aN⟩
def Sm.fO:List Sm→List Sm
 | []=> []
 |s::l=>s.GN::Sm.fO l
end
mutual
theorem aaZ (b:Bool) (n:Nat) : ∀ s:Sm,((Sm.num b n s).1).GN=s.GN
 |⟨id,kind,labels,name,proc,x,has,args,aO,aN⟩=>by simp only[Sm.num,Sm.GN,Cs]
theorem Cs (b:Bool) (n:Nat) : ∀ l:List Sm,Sm.fO (Sm.fC b n l).1=Sm.fO l
 | []=>by simp only[Sm.fC,Sm.fO]
 |s::l=>by simp only[Sm.fC,Sm.fO,aaZ,Cs]
end
structure IG (s t:Sm):Prop where
 kind:s.kind=t.kind
 labels:s.labels=t.labels
 name:s.name=t.name
 proc:s.proc=t.proc
 x:s.x=t.x
 has:s.has=t.has
 args:s.args=t.args
 aO:Sm.fO s.aO=Sm.fO t.aO
 aN:Sm.fO s.aN=Sm.fO t.aN
theorem Q2 {s t:Sm} (h:s.GN=t.GN):IG s t:=by
 cases s
 cases t
 simp only[Sm.GN,Sm.mk.injEq]at h
 obtain⟨_,h1,h2,h3,h4,h5,h6,h7,h8,h9⟩:=h
 exact⟨h1,h2,h3,h4,h5,h6,h7,h8,h9⟩
theorem KY {l:List Sm} (h:Sm.fO l = []):l = []:=by
 cases l with
 |nil=>rfl
 |cons s l=>simp only[Sm.fO]at h;cases h
theorem Ct {l:List Sm} {t:Sm} {T:List Sm} (h:Sm.fO l=Sm.fO (t::T)) : ∃ s r,l=s::r∧IG s t∧Sm.fO r=Sm.fO T:=by
 cases l with
 |nil=>simp only[Sm.fO]at h;cases h
 |cons s r=>
  simp only[Sm.fO,List.cons.injEq]at h
  exact⟨s,r,rfl,Q2 h.1,h.2⟩
theorem Et : ∀ a b:List Sm,Sm.fO (a++b)=Sm.fO a++Sm.fO b
 | [],b=>by simp only[Sm.fO,List.nil_append]
 |s::a,b=>by simp only[List.cons_append,Sm.fO,Et a b]
theorem Eu : ∀ a:List Sm,(Sm.fO a).length=a.length
 | []=>by simp only[Sm.fO]
 |s::a=>by simp only[Sm.fO,List.length_cons,Eu a]
theorem Cu {c:List Sm} {w t:Sm} {T:List Sm} (h:Sm.fO (c++ [w])=Sm.fO (T++ [t])):Sm.fO c=Sm.fO T∧IG w t:=by
 rw[Et,Et]at h
 simp only[Sm.fO]at h
 obtain⟨h1,h2⟩:=List.append_inj' h rfl
 simp only[List.cons.injEq,and_true]at h2
 exact⟨h1,Q2 h2⟩
-- What is made of a statement: 1: an if asks the other way round, 2: a loop's first round stands ahead of it.
mutual
def Sm.yn (k id:Int):Sm→Sm
 |⟨i,kind,labels,name,proc,x,has,args,aO,aN⟩=>
  if k==1 && i==id then⟨i,kind,labels,name,proc,⟨4,0,[],[x]⟩,has,args,Sm.dG k id aN,Sm.dG k id aO⟩
  else if k==2 && i==id then⟨i,5,labels,name,proc,x,has,args,Sm.dG k id aO++ [⟨i,kind,[],name,proc,x,has,args,Sm.dG k id aO,[]⟩],Sm.dG k id aN⟩
  else⟨i,kind,labels,name,proc,x,has,args,Sm.dG k id aO,Sm.dG k id aN⟩
def Sm.dG (k id:Int):List Sm→List Sm
 | []=> []
 |s::l=>s.yn k id::Sm.dG k id l
end
def Sp (k id:Int) (s:Sm):Prop:=(k=1∨k=2)∧s.id=id
theorem qX {k id:Int} {s:Sm} (h : ¬ Sp k id s):s.yn k id = {s with aO:=Sm.dG k id s.aO,aN:=Sm.dG k id s.aN}:=by
 obtain⟨i,kind,labels,name,proc,x,has,args,aO,aN⟩:=s
 unfold Sp at h
 dsimp only at h
 have c1 : ¬((k==1 && i==id)=true):=by simp only[Bool.and_eq_true,beq_iff_eq];exact fun e=>h ⟨.inl e.1,e.2⟩
 have c2 : ¬((k==2 && i==id)=true):=by simp only[Bool.and_eq_true,beq_iff_eq];exact fun e=>h ⟨.inr e.1,e.2⟩
 rw[Sm.yn,if_neg c1,if_neg c2]
theorem qY {id:Int} {s:Sm} (h:s.id=id):s.yn 1 id = {s with x:=⟨4,0,[],[s.x]⟩,aO:=Sm.dG 1 id s.aN,aN:=Sm.dG 1 id s.aO}:=by
 obtain⟨i,kind,labels,name,proc,x,has,args,aO,aN⟩:=s
 dsimp only at h
 subst h
 rw[Sm.yn,if_pos (by simp)]
theorem nu {id:Int} {s:Sm} (h:s.id=id):s.yn 2 id = {s with kind:=5,aO:=Sm.dG 2 id s.aO++ [{s with labels:= [],aO:=Sm.dG 2 id s.aO,aN:= []}],aN:=Sm.dG 2 id s.aN}:=by
 obtain⟨i,kind,labels,name,proc,x,has,args,aO,aN⟩:=s
 dsimp only at h
 subst h
 rw[Sm.yn,if_neg (by simp),if_pos (by simp)]
inductive Lk (p q:Pg) (k id:Int):Nat→Nat→Int→Int→List Sm→Int→Int→List Sm→Prop
 |top {i i':Nat} {f f':Pc} : p.procs[i]? = some f→q.procs[i']? = some f'→f'.name=f.name→Lk p q k id i i' (-1) 0 f.body (-1) 0 f'.body
 |tail {i i' n lp s l n' fX s' l'} : Lk p q k id i i' n lp (s::l) n' fX (s'::l')→Lk p q k id i i' n lp l n' fX l'
 |aO {i i' n lp s l n' fX s' l'} : Lk p q k id i i' n lp (s::l) n' fX (s'::l')→¬ Sp k id s→
  Lk p q k id i i' (if s.kind==6 then s.id else dA l n) (if s.kind==6 then s.id else lp) s.aO (if s'.kind==6 then s'.id else dA l' n') (if s'.kind==6 then s'.id else fX) s'.aO
 |aN {i i' n lp s l n' fX s' l'} : Lk p q k id i i' n lp (s::l) n' fX (s'::l')→¬ Sp k id s→
  Lk p q k id i i' (if s.kind==6 then s.id else dA l n) (if s.kind==6 then s.id else lp) s.aN (if s'.kind==6 then s'.id else dA l' n') (if s'.kind==6 then s'.id else fX) s'.aN
 |II {i i' n lp s l n' fX s' l'} : Lk p q k id i i' n lp (s::l) n' fX (s'::l')→k=1→s.id=id→Lk p q k id i i' (dA l n) lp s.aO (dA l' n') fX s'.aN
 |IJ {i i' n lp s l n' fX s' l'} : Lk p q k id i i' n lp (s::l) n' fX (s'::l')→k=1→s.id=id→Lk p q k id i i' (dA l n) lp s.aN (dA l' n') fX s'.aO
 |IK {i i' n lp s l n' fX s' l' c w} : Lk p q k id i i' n lp (s::l) n' fX (s'::l')→k=2→s.id=id→s'.aO=c++ [w]→Lk p q k id i i' s.id s.id s.aO w.id fX c
 |LM {i i' n lp s l n' fX s' l' c w} : Lk p q k id i i' n lp (s::l) n' fX (s'::l')→k=2→s.id=id→s'.aO=c++ [w]→Lk p q k id i i' s.id s.id s.aO w.id w.id w.aO
def C1 (p q:Pg) (k id a a':Int):Prop:=(a = -1∧a' = -1)∨∃ i i' n lp s l n' fX s' l',Lk p q k id i i' n lp (s::l) n' fX (s'::l')∧a=s.id∧(a'=s'.id∨(k=2∧s.id=id∧∃ c w,s'.aO=c++ [w]∧a'=w.id))
def yo (l:List Sm):Prop:=∀ v∈Sm.bH l,v.kind≠7∧v.kind≠8∧v.kind≠10∧v.labels = []
def LpR (p q:Pg) (k id a a':Int):Prop:=∃ i i' n lp s l n' fX s' l',Lk p q k id i i' n lp (s::l) n' fX (s'::l')∧a=s.id∧a'=s'.id∧s.kind=6∧¬ Sp k id s
structure LkI (p q:Pg) (k id:Int) (i i':Nat) (n lp:Int) (l:List Sm) (n' fX:Int) (l':List Sm):Prop where
 shape:Sm.fO l'=Sm.fO (Sm.dG k id l)
 next:C1 p q k id n n'
 loop:lp=0∨yo l∨LpR p q k id lp fX
 sub : ∃ up,∀ x∈Sm.fJ i up n lp l,x∈p.bb.L
 ui : ∃ up,∀ x∈Sm.fJ i' up n' fX l',x∈q.bb.L
structure Made (p q:Pg) (k id:Int):Prop where
 right:p.Right
 right':q.Right
 globals:q.globals=p.globals
 cor : ∀ {i i':Nat} {f f':Pc},p.procs[i]? = some f→q.procs[i']? = some f'→f'.name=f.name→f'.own=f.own∧f'.vars.length=f.vars.length∧f'.fin=f.fin∧Sm.fO f'.body=Sm.fO (Sm.dG k id f.body)
 has : ∀ {i:Nat} {f:Pc},p.procs[i]? = some f→∃ (i':Nat) (f':Pc),q.procs[i']? = some f'∧f'.name=f.name
 aa0:k=1→∀ v∈p.pre,v.id=id→v.kind=5
 Uy:k=2→∀ v∈p.pre,v.id=id→v.kind=6∧yo v.aO
theorem Ow (proc up n lp:Int) (b:List Sm) : ∀ a:List Sm,Sm.fJ proc up n lp (a++b)=Sm.fJ proc up (dA b n) lp a++Sm.fJ proc up n lp b
 | []=>by simp only[List.nil_append,Sm.fJ]
 |s::a=>by
  have e:dA (a++b) n=dA a (dA b n):=by cases a<;>rfl
  simp only[List.cons_append,Sm.fJ,Ow proc up n lp b a,e,List.append_assoc]
variable {p q:Pg} {k id:Int}
theorem Made.pre (hM:Made p q k id) {i:Nat} {n lp:Int} {s:Sm} {l:List Sm} (h : ∃ up,∀ x∈Sm.fJ i up n lp (s::l),x∈p.bb.L):s∈p.pre:=by
 obtain⟨up,h⟩:=h
 rw[← (kW p).1]
 exact List.mem_map.2 ⟨⟨s,i,up,dA l n,lp⟩,h _ (by rw[Sm.fJ,H7];exact List.mem_append_left _ (List.mem_cons_self ..)),rfl⟩
theorem n7 {i i':Nat} {n lp:Int} {l:List Sm} {n' fX:Int} {l':List Sm} (h:Lk p q k id i i' n lp l n' fX l') (hs:Sm.fO l'=Sm.fO (Sm.dG k id l)) (hn:C1 p q k id n n'):C1 p q k id (dA l n) (dA l' n'):=by
 cases l with
 |nil=>
  have:l' = []:=KY (by rw[hs];simp only[Sm.dG,Sm.fO])
  subst this
  exact hn
 |cons s l=>
  simp only[Sm.dG]at hs
  obtain⟨s',r,rfl,_,_⟩:=Ct hs
  exact .inr ⟨i,i',n,lp,s,l,n',fX,s',r,h,rfl, .inl rfl⟩
theorem Ox {p:Pg} (hb:p.may=true) {i:Nat} {f:Pc} (hf:p.procs[i]? = some f) : ∃ up,∀ x∈Sm.fJ i up (-1) 0 f.body,x∈p.bb.L:=
 ⟨0,fun x hx=>by rw[Eg hb];exact Gx p.procs 0 hf (by simpa using hx)⟩
theorem Oy {L:List Im} {i n lp:Int} {s:Sm} {l:List Sm} (h : ∃ up,∀ x∈Sm.fJ i up n lp (s::l),x∈L) : ∃ up,∀ x∈Sm.fJ i up n lp l,x∈L:=by
 obtain⟨up,h⟩:=h
 exact⟨up,fun x m=>h x (by rw[Sm.fJ];exact List.mem_append_right _ m)⟩
theorem qf {L:List Im} {i n lp:Int} {s:Sm} {l:List Sm} (h : ∃ up,∀ x∈Sm.fJ i up n lp (s::l),x∈L) : ∃ up,∀ x∈Sm.fJ i up (if s.kind==6 then s.id else dA l n) (if s.kind==6 then s.id else lp) s.aO,x∈L:=by
 obtain⟨up,h⟩:=h
 exact⟨s.id,fun x m=>h x (by rw[Sm.fJ,H7];exact List.mem_append_left _ (List.mem_cons_of_mem _ (List.mem_append_left _ m)))⟩
theorem E6 {L:List Im} {i n lp:Int} {s:Sm} {l:List Sm} (h : ∃ up,∀ x∈Sm.fJ i up n lp (s::l),x∈L) : ∃ up,∀ x∈Sm.fJ i up (if s.kind==6 then s.id else dA l n) (if s.kind==6 then s.id else lp) s.aN,x∈L:=by
 obtain⟨up,h⟩:=h
 exact⟨s.id,fun x m=>h x (by rw[Sm.fJ,H7];exact List.mem_append_left _ (List.mem_cons_of_mem _ (List.mem_append_right _ m)))⟩
theorem sub_self {L:List Im} {i n lp:Int} {s:Sm} {l:List Sm} (h : ∃ up,∀ x∈Sm.fJ i up n lp (s::l),x∈L) : ∃ up,(⟨s,i,up,dA l n,lp⟩:Im)∈L:=by
 obtain⟨up,h⟩:=h
 exact⟨up,h _ (by rw[Sm.fJ,H7];exact List.mem_append_left _ (List.mem_cons_self ..))⟩
theorem GQ {L:List Im} {i n lp:Int} {c:List Sm} {w:Sm} (h : ∃ up,∀ x∈Sm.fJ i up n lp (c++ [w]),x∈L):(∃ up,∀ x∈Sm.fJ i up w.id lp c,x∈L)∧∃ up,∀ x∈Sm.fJ i up n lp [w],x∈L:=by
 obtain⟨up,h⟩:=h
 rw[Ow]at h
 exact⟨⟨up,fun x m=>h x (List.mem_append_left _ m)⟩,⟨up,fun x m=>h x (List.mem_append_right _ m)⟩⟩
theorem yo.tail {s:Sm} {l:List Sm} (h:yo (s::l)):yo l:=fun v m=>h v (by rw[Sm.bH];exact List.mem_append_right _ m)
theorem yo.aO {s:Sm} {l:List Sm} (h:yo (s::l)):yo s.aO:=fun v m=>h v (by rw[Sm.bH,Sm.np];exact List.mem_append_left _ (List.mem_cons_of_mem _ (List.mem_append_left _ m)))
theorem yo.aN {s:Sm} {l:List Sm} (h:yo (s::l)):yo s.aN:=fun v m=>h v (by rw[Sm.bH,Sm.np];exact List.mem_append_left _ (List.mem_cons_of_mem _ (List.mem_append_right _ m)))
theorem LkI.ja {i i':Nat} {n lp:Int} {s:Sm} {l:List Sm} {n' fX:Int} {s':Sm} {l':List Sm} (h:LkI p q k id i i' n lp (s::l) n' fX (s'::l')):IG s' (s.yn k id)∧Sm.fO l'=Sm.fO (Sm.dG k id l):=by
 have:=h.shape
 simp only[Sm.dG]at this
 obtain⟨s2,r,e,h1,h2⟩:=Ct this
 cases e
 exact⟨h1,h2⟩
theorem Made.inv (hM:Made p q k id) {i i':Nat} {n lp:Int} {l:List Sm} {n' fX:Int} {l':List Sm} (h:Lk p q k id i i' n lp l n' fX l'):LkI p q k id i i' n lp l n' fX l':=by
 induction h with
 |top h1 h2 h3=>exact⟨(hM.cor h1 h2 h3).2.2.2, .inl ⟨rfl,rfl⟩, .inl rfl,Ox hM.right.may h1,Ox hM.right'.may h2⟩
 |tail h ih=>exact⟨ih.ja.2,ih.next,ih.loop.imp_right (·.imp_left (·.tail)),Oy ih.sub,Oy ih.ui⟩
 | @aO n lp s l n' fX s' l' h hs ih=>
  obtain⟨hd,ht⟩:=ih.ja
  rw[qX hs]at hd
  have hk:s'.kind=s.kind:=hd.kind
  refine⟨hd.aO, ?_, ?_,qf ih.sub,qf ih.ui⟩
  ·rw [hk]
   by_cases c:(s.kind==6)=true
   ·rw[if_pos c,if_pos c];exact .inr ⟨i,i',n,lp,s,l,n',fX,s',l',h,rfl, .inl rfl⟩
   ·rw[if_neg c,if_neg c];exact n7 h.tail ht ih.next
  ·rw [hk]
   by_cases c:(s.kind==6)=true
   ·rw[if_pos c,if_pos c];exact .inr (.inr ⟨i,i',n,lp,s,l,n',fX,s',l',h,rfl,rfl,by simpa using c,hs⟩)
   ·rw[if_neg c,if_neg c];exact ih.loop.imp_right (·.imp_left (·.aO))
 | @aN n lp s l n' fX s' l' h hs ih=>
  obtain⟨hd,ht⟩:=ih.ja
  rw[qX hs]at hd
  have hk:s'.kind=s.kind:=hd.kind
  refine⟨hd.aN, ?_, ?_,E6 ih.sub,E6 ih.ui⟩
  ·rw [hk]
   by_cases c:(s.kind==6)=true
   ·rw[if_pos c,if_pos c];exact .inr ⟨i,i',n,lp,s,l,n',fX,s',l',h,rfl, .inl rfl⟩
   ·rw[if_neg c,if_neg c];exact n7 h.tail ht ih.next
  ·rw [hk]
   by_cases c:(s.kind==6)=true
   ·rw[if_pos c,if_pos c];exact .inr (.inr ⟨i,i',n,lp,s,l,n',fX,s',l',h,rfl,rfl,by simpa using c,hs⟩)
   ·rw[if_neg c,if_neg c];exact ih.loop.imp_right (·.imp_left (·.aN))
 | @II n lp s l n' fX s' l' h hk hs ih=>
  obtain⟨hd,ht⟩:=ih.ja
  subst hk
  rw[qY hs]at hd
  have k5:=hM.aa0 rfl s (hM.pre ih.sub) hs
  have yp:s'.kind=5:=hd.kind.trans k5
  have a:=qf ih.sub
  have b:=E6 ih.ui
  rw[show(s.kind==6)=false by rw[k5];rfl]at a
  rw[show(s'.kind==6)=false by rw[yp];rfl]at b
  exact⟨hd.aN,n7 h.tail ht ih.next,ih.loop.imp_right (·.imp_left (·.aO)),a,b⟩
 | @IJ n lp s l n' fX s' l' h hk hs ih=>
  obtain⟨hd,ht⟩:=ih.ja
  subst hk
  rw[qY hs]at hd
  have k5:=hM.aa0 rfl s (hM.pre ih.sub) hs
  have yp:s'.kind=5:=hd.kind.trans k5
  have a:=E6 ih.sub
  have b:=qf ih.ui
  rw[show(s.kind==6)=false by rw[k5];rfl]at a
  rw[show(s'.kind==6)=false by rw[yp];rfl]at b
  exact⟨hd.aO,n7 h.tail ht ih.next,ih.loop.imp_right (·.imp_left (·.aN)),a,b⟩
 | @IK n lp s l n' fX s' l' c w h hk hs hw ih=>
  obtain⟨hd,ht⟩:=ih.ja
  subst hk
  rw[nu hs]at hd
  have k6:=hM.Uy rfl s (hM.pre ih.sub) hs
  have yp:s'.kind=5:=hd.kind
  have Ed:=hd.aO
  rw[hw]at Ed
  obtain⟨g1,g2⟩:=Cu Ed
  have a:=qf ih.sub
  have b:=qf ih.ui
  rw[show(s.kind==6)=true by rw[k6.1];rfl]at a
  rw[show(s'.kind==6)=false by rw[yp];rfl,hw]at b
  exact⟨g1, .inr ⟨i,i',n,lp,s,l,n',fX,s',l',h,rfl, .inr ⟨rfl,hs,c,w,hw,rfl⟩⟩, .inr (.inl k6.2),a,(GQ b).1⟩
 | @LM n lp s l n' fX s' l' c w h hk hs hw ih=>
  obtain⟨hd,ht⟩:=ih.ja
  subst hk
  rw[nu hs]at hd
  have k6:=hM.Uy rfl s (hM.pre ih.sub) hs
  have yp:s'.kind=5:=hd.kind
  have Ed:=hd.aO
  rw[hw]at Ed
  obtain⟨g1,g2⟩:=Cu Ed
  have a:=qf ih.sub
  have b:=qf ih.ui
  rw[show(s.kind==6)=true by rw[k6.1];rfl]at a
  rw[show(s'.kind==6)=false by rw[yp];rfl,hw]at b
  have b2:=qf (GQ b).2
  have kw:w.kind=6:=g2.kind.trans k6.1
  rw[show(w.kind==6)=true by rw[kw];rfl]at b2
  exact⟨g2.aO, .inr ⟨i,i',n,lp,s,l,n',fX,s',l',h,rfl, .inr ⟨rfl,hs,c,w,hw,rfl⟩⟩, .inr (.inl k6.2),a,b2⟩
end Go.Abs
namespace Go.Abs
variable {p q:Pg} {k id:Int}
theorem mW {p:Pg} (hR:p.Right) {i:Nat} {n lp:Int} {s:Sm} {l:List Sm} (h : ∃ up,∀ x∈Sm.fJ i up n lp (s::l),x∈p.bb.L) :
 ∃ up,dZ p.bb.L s.id = ⟨s,i,up,dA l n,lp⟩∧(⟨s,i,up,dA l n,lp⟩:Im)∈p.bb.L∧1≤s.id∧s.one=true∧∃ f,Cg p p.bb.L ⟨s,i,up,dA l n,lp⟩ f:=by
 obtain⟨up,h⟩:=sub_self h
 obtain⟨f,hf⟩:=(pB hR).im _ h
 refine⟨up,hf.self.1,h,hf.self.2.1, ?_,f,hf⟩
 exact EX hR.may _ (by rw[← (kW p).1];exact List.mem_map_of_mem h)
theorem Lk.procs {i i':Nat} {n lp:Int} {l:List Sm} {n' fX:Int} {l':List Sm} (h:Lk p q k id i i' n lp l n' fX l') : ∃ f f',p.procs[i]? = some f∧q.procs[i']? = some f'∧f'.name=f.name:=by
 induction h with
 |top h1 h2 h3=>exact⟨_,_,h1,h2,h3⟩
 |tail _ ih=>exact ih
 |aO _ _ ih=>exact ih
 |aN _ _ ih=>exact ih
 |II _ _ _ ih=>exact ih
 |IJ _ _ _ ih=>exact ih
 |IK _ _ _ _ ih=>exact ih
 |LM _ _ _ _ ih=>exact ih
theorem Ew {s:Sm} (h:s.one=true):s.kind≠5→s.aN = []:=fun hk=>by
 unfold Sm.one at h
 split at h
 ·cases h
 ·split at h
  ·cases h
  ·split at h
   ·cases h
   ·split at h
    ·cases h
    ·simp only [Bool.and_eq_true,Bool.or_eq_true,beq_iff_eq]at h
     rcases h.2 with h|h
     ·exact List.eq_nil_of_length_eq_zero (by omega)
     ·exact absurd h hk
theorem Oz {s:Sm} (h:s.one=true) (hx:s.Gj=true):s.x.may=true:=by
 unfold Sm.one at h
 split at h
 ·cases h
 ·rename_i c
  rw[hx]at c
  simp only[Bool.or_eq_true,not_or,Bool.true_and,Bool.not_eq_true',Bool.not_eq_false]at c
  exact c.1.1.2
theorem OA {s s':Sm} {id:Int} (hs:s.id=id) (h:IG s' (s.yn 2 id)) : ∃ c w,s'.aO=c++ [w]:=by
 rw[nu hs]at h
 have:=congrArg List.length h.aO
 rw[Eu,Eu]at this
 simp only[List.length_append,List.length_singleton]at this
 rcases List.eq_nil_or_concat s'.aO with e|⟨c,w,e⟩
 ·rw[e]at this;simp at this
 ·exact⟨c,w,by rw[e];simp⟩
theorem Made.part (hM:Made p q k id) : ∀ (N:Nat) {i i':Nat} {n lp:Int} {l:List Sm} {n' fX:Int} {l':List Sm},Sm.aS l≤N→Lk p q k id i i' n lp l n' fX l'→∀ v∈Sm.bH l,∃ n lp r n' fX s' r',Lk p q k id i i' n lp (v::r) n' fX (s'::r'):=by
 intro N
 induction N with
 |zero=>
  intro i i' n lp l n' fX l' hN h v m
  cases l with
  |nil=>simp[Sm.bH]at m
  |cons s l=>cases s;simp only[Sm.aS,Sm.size]at hN;omega
 | succ N ih=>
  intro i i' n lp l n' fX l' hN h v m
  have hI:=hM.inv h
  cases l with
  |nil=>simp[Sm.bH]at m
  | cons s l=>
   have hsh:=hI.shape
   simp only[Sm.dG]at hsh
   obtain⟨s',r',rfl,hd,ht⟩:=Ct hsh
   have dL:Sm.aS s.aO<s.size∧Sm.aS s.aN<s.size:=by cases s;simp only[Sm.size];omega
   simp only[Sm.aS]at hN
   rw[Sm.bH,Sm.np]at m
   have hp0:1≤s.size:=by cases s;simp only[Sm.size];omega
   rcases List.mem_append.1 m with m|m
   ·rcases List.mem_cons.1 m with rfl | m
    ·exact⟨_,_,_,_,_,_,_,h⟩
    ·by_cases hs:Sp k id s
     ·obtain⟨hk,hi⟩:=hs
      rcases hk with rfl|rfl
      ·rcases List.mem_append.1 m with m | m
       ·exact ih (by omega) (.II h rfl hi) v m
       ·exact ih (by omega) (.IJ h rfl hi) v m
      ·obtain⟨c,w,hw⟩:=OA hi hd
       rcases List.mem_append.1 m with m|m
       ·exact ih (by omega) (.IK h rfl hi hw) v m
       ·exfalso
        obtain⟨_,_,_,_,ho,_⟩:=mW hM.right hI.sub
        have k6:=(hM.Uy rfl s (hM.pre hI.sub) hi).1
        rw[Ew ho (by omega)]at m
        simp[Sm.bH]at m
     ·rcases List.mem_append.1 m with m | m
      ·exact ih (by omega) (.aO h hs) v m
      ·exact ih (by omega) (.aN h hs) v m
   ·exact ih (by omega) (.tail h) v m
theorem IL (fin:List aK) (lL:aK) : ∀ l:List Sm,(gP fin lL l).2=true→(∃ v∈l,lL∈v.labels∧gP fin lL l=(v.id,true))∨(gP fin lL l=(-1,true)∧lL∈fin)
 | [],h=>by
  simp only[gP]at h ⊢
  split at h
  ·rename_i c;rw[if_pos c];exact .inr ⟨rfl,(fx _ _).1 c⟩
  ·cases h
 | v::l,h=>by
  simp only[gP]at h ⊢
  split at h
  ·rename_i c;rw[if_pos c];exact .inl ⟨v,List.mem_cons_self ..,(fx _ _).1 c,rfl⟩
  ·rename_i c
   rw[if_neg c]
   rcases IL fin lL l h with ⟨w,m,h1,h2⟩|h1
   ·exact .inl ⟨w,List.mem_cons_of_mem _ m,h1,h2⟩
   ·exact .inr h1
theorem FJ {lL:aK} : ∀ {l:List Sm},lL∈dK l↔∃ v∈l,lL∈v.labels
 | []=>by simp[dK]
 |v::l=>by simp only[dK,List.mem_append,FJ (l:=l),List.mem_cons,exists_eq_or_imp]
theorem OB {fin:List aK} {lL:aK} : ∀ {l:List Sm} {v:Sm},(dK l).Nodup→v∈l→lL∈v.labels→(gP fin lL l).1=v.id
 | w::l,v,hn,m,hv=>by
  simp only[dK]at hn
  obtain⟨h1,h2,h3⟩:=List.nodup_append.1 hn
  simp only[gP]
  rcases List.mem_cons.1 m with rfl|m
  ·rw[if_pos ((fx _ _).2 hv)]
  ·rw [if_neg,OB h2 m hv]
   intro c
   exact h3 lL ((fx _ _).1 c) lL (FJ.2 ⟨v,m,hv⟩) rfl
theorem OC {fin:List aK} {lL:aK} : ∀ {l:List Sm},lL∉dK l→lL∈fin→(gP fin lL l).1 = -1
 | [],_,h=>by simp only[gP];rw[if_pos ((fx _ _).2 h)]
 |v::l,hn,h=>by
  simp only[dK,List.mem_append,not_or]at hn
  simp only[gP]
  rw[if_neg fun c=>hn.1 ((fx _ _).1 c),OC hn.2 h]
theorem Uz {p:Pg} (hR:p.Right) {f:Pc} (hf:f∈p.procs):(dK (Sm.bH f.body)++f.fin).Nodup:=by
 have:=hR.ln f hf
 refine Classical.byContradiction fun h=>?_
 rw[(pA f.labels).2 h]at this
 cases this
theorem UA (s:Sm):(s.yn k id).labels=s.labels:=by
 by_cases h:Sp k id s
 ·obtain⟨hk,hi⟩:=h
  rcases hk with rfl|rfl
  ·rw[qY hi]
  ·rw[nu hi]
 ·rw[qX h]
theorem Made.uW (hM:Made p q k id) {i i':Nat} {f f':Pc} (h1:p.procs[i]? = some f) (h2:q.procs[i']? = some f') (h3:f'.name=f.name) {lL:aK} (hb:(gP f.fin lL (Sm.bH f.body)).2=true) :
 C1 p q k id (gP f.fin lL (Sm.bH f.body)).1 (gP f'.fin lL (Sm.bH f'.body)).1:=by
 have hnq:=Uz hM.right' (List.mem_of_getElem? h2)
 obtain⟨n1,n2,n3⟩:=List.nodup_append.1 hnq
 have hc:=hM.cor h1 h2 h3
 rcases IL f.fin lL _ hb with ⟨v,m,g1,g2⟩|⟨g1,g2⟩
 ·obtain⟨n,lp,r,n',fX,s',r',hl⟩:=hM.part _ (Nat.le_refl _) (.top h1 h2 h3) v m
  have hI:=hM.inv hl
  have hd:=hI.ja.1
  obtain⟨up,e1,e2,e3,e4,f2,Iu⟩:=mW hM.right' hI.ui
  have sP:=Iu.proc.1
  have hm:=Iu.mem
  dsimp only at sP hm
  rw[Int.toNat_natCast,h2]at sP
  cases sP
  have:(gP f'.fin lL (Sm.bH f'.body)).1=s'.id:=OB n1 hm (by rw[hd.labels,UA];exact g1)
  rw[g2,this]
  exact .inr ⟨i,i',n,lp,v,r,n',fX,s',r',hl,rfl, .inl rfl⟩
 ·rw [g1]
  refine .inl ⟨rfl,OC (fun c=>n3 lL c lL (by rw[hc.2.2.1];exact g2) rfl) (by rw[hc.2.2.1];exact g2)⟩
theorem Q3 {p:Pg} {f:Pc} (hf:f∈p.procs) : ∃ g,p.find f.name=some g:=by
 unfold Pg.find
 have : ∀ l:List Pc,f∈l→∃ g,iE f.name l=some g:=by
  intro l
  induction l with
  |nil=>intro m;cases m
  | cons a l ih=>
   intro m
   simp only[iE]
   by_cases c:(a.name==f.name)=true
   ·rw[if_pos c];exact⟨a,rfl⟩
   ·rw [if_neg c]
    rcases List.mem_cons.1 m with rfl|m
    ·exact absurd (by simp) c
    ·exact ih m
 exact this _ hf
theorem Made.opens (hM:Made p q k id) {nm:aK} {g:Pc} (hg:p.find nm=some g):Cr p q (C1 p q k id) (p.at nm) (q.at nm):=by
 obtain⟨j,a1,a2⟩:=E1 (k:=0) hg
 have hn:=uf hg
 obtain⟨i',f',b1,b2⟩:=hM.has a2
 obtain⟨g',nT⟩:=Q3 (List.mem_of_getElem? b1)
 rw[b2,hn]at nT
 obtain⟨j',c1,c2⟩:=E1 (k:=0) nT
 have rr:=uf nT
 have e1:p.at nm=(j:Int):=by simpa[Pg.at]using a1
 have e2:q.at nm=(j':Int):=by simpa[Pg.at]using c1
 unfold Cr
 rw[e1,e2,Int.toNat_natCast,Int.toNat_natCast,a2,c2]
 dsimp only
 obtain⟨d1,d2,d3,d4⟩:=hM.cor a2 c2 (rr.trans hn.symm)
 exact⟨d1,d2,n7 (.top a2 c2 (rr.trans hn.symm)) d4 (.inl ⟨rfl,rfl⟩)⟩
theorem Made.ajC (hM:Made p q k id) {i i':Nat} {n lp:Int} {s:Sm} {l:List Sm} {n' fX:Int} {s':Sm} {l':List Sm} (h:Lk p q k id i i' n lp (s::l) n' fX (s'::l')) (hs : ¬ Sp k id s) :
 Alike p q p.bb.L q.bb.L (C1 p q k id) (dZ p.bb.L s.id) (dZ q.bb.L s'.id):=by
 have hI:=hM.inv h
 obtain⟨hd,ht⟩:=hI.ja
 have zb:=hd
 rw[qX hs]at hd
 obtain⟨up,e1,e2,e3,e4,f,hf⟩:=mW hM.right hI.sub
 obtain⟨H8,KZ,Xp,e3',e4',f',JW⟩:=mW hM.right' hI.ui
 obtain⟨g,g',p1,p2,p3⟩:=h.procs
 have Wz:=hf.proc.1
 have aa1:=JW.proc.1
 dsimp only at Wz aa1
 rw[Int.toNat_natCast,p1]at Wz
 rw[Int.toNat_natCast,p2]at aa1
 cases Wz
 cases aa1
 obtain⟨o1,o2,_⟩:=QX e4
 have hk:s'.kind=s.kind:=hd.kind
 have hn:C1 p q k id (dA l n) (dA l' n'):=n7 h.tail ht hI.next
 have adh:s.kind=7∨s.kind=8→LpR p q k id lp fX:=fun hk=>by
  rcases hI.loop with h0|h0|h0
  ·have:=(hf.loop hk).1
   dsimp only at this
   omega
  ·have:=h0 s (by rw [Sm.bH,Sm.np];exact List.mem_append_left _ (List.mem_cons_self ..))
   omega
  ·exact h0
 rw[e1,KZ]
 refine⟨⟨o1,o2⟩,fun _=>⟨hk,hd.name,hd.x,hn⟩,fun h4=>⟨hk.trans h4,hd.args, .inr ⟨by dsimp only;omega,by dsimp only;omega, ?_, ?_⟩, ?_⟩,fun h9=>⟨hk.trans h9,hd.has,hd.x⟩,fun h7=>⟨hk.trans h7, ?_⟩,fun h8=>⟨hk.trans h8, ?_⟩,fun OD=>⟨hk.trans OD, ?_⟩,fun FK=>⟨by rw[← hk]at FK;exact FK,fun names bD=>⟨by rw[show s'.x=s.x from hd.x],fun _=>?_⟩⟩⟩
 ·dsimp only;rw[e1,KZ];exact hd.name
 ·dsimp only;rw[e1,KZ];exact hn
 ·dsimp only at h4 ⊢
  rw[show s'.proc=s.proc from hd.proc]
  have WO:=hM.right.known f (List.mem_of_getElem? p1) s hf.mem
  simp only[Sm.known,Bool.and_eq_true,Bool.or_eq_true,bne_iff_ne,ne_eq,h4,not_true_eq_false,false_or]at WO
  have Qq:=(fx _ _).1 WO.2.2
  unfold Pg.pn at Qq
  obtain⟨g0,m0,m1⟩:=List.mem_map.1 Qq
  obtain⟨g1,ur⟩:=Q3 m0
  rw[m1]at ur
  exact hM.opens ur
 ·obtain⟨i0,i0',n0,lp0,s0,l0,n0',ajF,s0',l0',q1,q2,q3,q4,q5⟩:=adh (.inl h7)
  have hI0:=hM.inv q1
  obtain⟨u0,w1,_⟩:=mW hM.right hI0.sub
  obtain⟨u0',w1',_⟩:=mW hM.right' hI0.ui
  dsimp only
  rw[q2,q3,w1,w1']
  exact n7 q1.tail hI0.ja.2 hI0.next
 ·obtain⟨i0,i0',n0,lp0,s0,l0,n0',ajF,s0',l0',q1,q2,q3,q4,q5⟩:=adh (.inr h8)
  exact .inr ⟨i0,i0',n0,lp0,s0,l0,n0',ajF,s0',l0',q1,q2, .inl q3⟩
 ·unfold Ux
  dsimp only at OD ⊢
  rw[Int.toNat_natCast,Int.toNat_natCast,p1,p2]
  dsimp only
  rw[show s'.name=s.name from hd.name]
  have hl:=hM.right.leads f (List.mem_of_getElem? p1) (s,lp) (by
   have m:=e2
   rw[Eg hM.right.may]at m
   obtain⟨j,f0,j1,j2⟩:=Gw p.procs 0 m
   rw[Nat.zero_add]at j2
   have j3:=(xk (R:=fun _=>True) (j:Int) 0 (-1) 0 f0.body (fun _ _=>trivial) (.inl rfl) (.inl rfl) _ j2).1
   dsimp only at j3
   have j4:i=j:=by omega
   subst j4
   rw[p1]at j1
   cases j1
   rw[← Gs (i:Int) f]
   exact List.mem_map.2 ⟨_,j2,rfl⟩)
  unfold kl at hl
  rw[if_neg (by simp[OD]),if_pos (by simp[OD])]at hl
  exact hM.uW p1 p2 p3 (by rw[zp];exact hl)
 ·have a:=n7 (.aO h hs) hd.aO (hM.inv (.aO h hs)).next
  have b:=n7 (.aN h hs) hd.aN (hM.inv (.aN h hs)).next
  dsimp only at FK ⊢
  rw[show s'.x=s.x from hd.x]
  unfold vx
  dsimp only
  rw[hk]at a b ⊢
  rcases FK with FK|FK
  ·rw [show(s.kind==6)=false by rw [FK];rfl]at a b
   rw[show(s.kind==5)=true by rw[FK];rfl,if_pos rfl,if_pos rfl]
   split
   ·exact b
   ·exact a
  ·rw [show(s.kind==6)=true by rw [FK];rfl]at a b
   rw[show(s.kind==5)=false by rw[FK];rfl,if_neg Bool.false_ne_true,if_neg Bool.false_ne_true]
   split
   ·exact hn
   ·exact a
theorem XM {x:Ex} (h1:x.may=true) (h2:(⟨4,0,[],[x]⟩:Ex).may=true) (names:List aK) (bD:List Int) :
 ((⟨4,0,[],[x]⟩:Ex).bj names bD).2=(x.bj names bD).2∧((x.bj names bD).2=true→(((⟨4,0,[],[x]⟩:Ex).bj names bD).1==0) = !((x.bj names bD).1==0)):=by
 unfold Ex.bj
 rw[if_pos h1,if_pos h2]
 have e:(⟨4,0,[],[x]⟩:Ex).val names bD=if(x.val names bD).2 then(uV ((x.val names bD).1==0),true)else(0,false):=by
  simp only[Ex.val,Ex.NM,Ib]
  rfl
 rw[e]
 by_cases c:(x.val names bD).2=true
 ·rw [if_pos c]
  refine⟨c.symm,fun _=>?_⟩
  dsimp only
  cases (x.val names bD).1==0<;>rfl
 ·rw [if_neg c]
  exact⟨by simpa using c,fun h=>absurd h c⟩
theorem Made.ajG (hM:Made p q 1 id) {i i':Nat} {n lp:Int} {s:Sm} {l:List Sm} {n' fX:Int} {s':Sm} {l':List Sm} (h:Lk p q 1 id i i' n lp (s::l) n' fX (s'::l')) (hs:s.id=id) :
 Alike p q p.bb.L q.bb.L (C1 p q 1 id) (dZ p.bb.L s.id) (dZ q.bb.L s'.id):=by
 have hI:=hM.inv h
 obtain⟨hd,ht⟩:=hI.ja
 rw[qY hs]at hd
 obtain⟨up,e1,e2,e3,e4,f,hf⟩:=mW hM.right hI.sub
 obtain⟨H8,KZ,Xp,e3',e4',f',JW⟩:=mW hM.right' hI.ui
 have k5:=hM.aa0 rfl s (hM.pre hI.sub) hs
 have yp:s'.kind=5:=hd.kind.trans k5
 have a:=n7 (.II h rfl hs) hd.aN (hM.inv (.II h rfl hs)).next
 have b:=n7 (.IJ h rfl hs) hd.aO (hM.inv (.IJ h rfl hs)).next
 have hx:s'.x = ⟨4,0,[],[s.x]⟩:=hd.x
 have m1:=Oz e4 (by simp[Sm.Gj,k5])
 have m2:=Oz e4' (by simp[Sm.Gj,yp])
 rw[hx]at m2
 rw[e1,KZ]
 refine⟨by dsimp only;omega,fun hk=>?_,fun hk=>?_,fun hk=>?_,fun hk=>?_,fun hk=>?_,fun hk=>?_,fun _=>⟨.inl yp,fun names bD=>?_⟩⟩
 all_goals try (exfalso;dsimp only at hk;omega)
 dsimp only
 rw[hx]
 obtain⟨w1,w2⟩:=XM m1 m2 names bD
 refine⟨w1,fun hg=>?_⟩
 have w2:=w2 hg
 unfold vx
 dsimp only
 rw[w2,show(s.kind==5)=true by rw[k5];rfl,show(s'.kind==5)=true by rw[yp];rfl,if_pos rfl,if_pos rfl]
 cases ((s.x.bj names bD).1==0)with
 |true=>exact b
 |false=>exact a
theorem Made.OE (hM:Made p q 2 id) {i i':Nat} {n lp:Int} {s:Sm} {l:List Sm} {n' fX:Int} {s':Sm} {l':List Sm} (h:Lk p q 2 id i i' n lp (s::l) n' fX (s'::l')) (hs:s.id=id) :
 Alike p q p.bb.L q.bb.L (C1 p q 2 id) (dZ p.bb.L s.id) (dZ q.bb.L s'.id)∧
 ∀ c w,s'.aO=c++ [w]→1≤w.id∧Alike p q p.bb.L q.bb.L (C1 p q 2 id) (dZ p.bb.L s.id) (dZ q.bb.L w.id):=by
 have hI:=hM.inv h
 obtain⟨hd,ht⟩:=hI.ja
 have zb:=hd
 rw[nu hs]at hd
 obtain⟨up,e1,e2,e3,e4,f,hf⟩:=mW hM.right hI.sub
 obtain⟨H8,KZ,Xp,e3',e4',f',JW⟩:=mW hM.right' hI.ui
 obtain⟨k6,knj⟩:=hM.Uy rfl s (hM.pre hI.sub) hs
 have yp:s'.kind=5:=hd.kind
 have hx:s'.x=s.x:=hd.x
 have hn:C1 p q 2 id (dA l n) (dA l' n'):=n7 h.tail ht hI.next
 obtain⟨c,w,hw⟩:=OA hs zb
 have Ed:=hd.aO
 rw[hw]at Ed
 obtain⟨g1,g2⟩:=Cu Ed
 have aC:=n7 (.IK h rfl hs hw) g1 (hM.inv (.IK h rfl hs hw)).next
 have aW:=n7 (.LM h rfl hs hw) g2.aO (hM.inv (.LM h rfl hs hw)).next
 have kw:w.kind=6:=g2.kind.trans k6
 have hxw:w.x=s.x:=g2.x
 have xZ:s'.aN = []:=KY (by rw[hd.aN];show Sm.fO (Sm.dG 2 id s.aN) = [];rw[Ew e4 (by omega)];simp only[Sm.dG,Sm.fO])
 have b:=qf hI.ui
 rw[show(s'.kind==6)=false by rw[yp];rfl,hw]at b
 obtain⟨uw,w1,w2,w3,w4,fw,hfw⟩:=mW hM.right' (GQ b).2
 refine⟨?_,fun c2 w2' sS=>?_⟩
 ·rw [e1,KZ]
  refine⟨by dsimp only;omega,fun hk=>?_,fun hk=>?_,fun hk=>?_,fun hk=>?_,fun hk=>?_,fun hk=>?_,fun _=>⟨.inl yp,fun names bD=>?_⟩⟩
  all_goals try (exfalso;dsimp only at hk;omega)
  dsimp only
  rw[hx]
  refine⟨rfl,fun hg=>?_⟩
  unfold vx
  dsimp only
  rw[show(s.kind==5)=false by rw[k6];rfl,show(s'.kind==5)=true by rw[yp];rfl,if_neg Bool.false_ne_true,if_pos rfl,xZ,hw]
  have ef:firstM (c++ [w]) (dA l' n')=dA c w.id:=by cases c<;>rfl
  rw[ef]
  split
  ·exact hn
  ·exact aC
 ·rw [hw]at sS
  obtain⟨_,hh⟩:=List.append_inj' sS rfl
  cases hh
  refine⟨w3, ?_⟩
  rw[e1,w1]
  refine⟨by dsimp only;omega,fun hk=>?_,fun hk=>?_,fun hk=>?_,fun hk=>?_,fun hk=>?_,fun hk=>?_,fun _=>⟨.inr kw,fun names bD=>?_⟩⟩
  all_goals try (exfalso;dsimp only at hk;omega)
  dsimp only
  rw[hxw]
  refine⟨rfl,fun hg=>?_⟩
  unfold vx
  dsimp only
  rw[show(s.kind==5)=false by rw[k6];rfl,show(w.kind==5)=false by rw[kw];rfl,if_neg Bool.false_ne_true,if_neg Bool.false_ne_true]
  split
  ·exact hn
  ·exact aW
theorem Made.bis (hM:Made p q k id):Ov p q p.bb.L q.bb.L (C1 p q k id):=by
 refine⟨hM.globals, .inl ⟨rfl,rfl⟩,fun a a' h=>?_,fun a a' h hn=>?_⟩
 ·rcases h with ⟨h1,h2⟩ | ⟨i,i',n,lp,s,l,n',fX,s',l',h1,h2,h3⟩
  ·exact⟨fun _=>h2,fun _=>h1⟩
  ·have hI:=hM.inv h1
   obtain⟨up,e1,e2,e3,_⟩:=mW hM.right hI.sub
   obtain⟨H8,KZ,Xp,e3',_⟩:=mW hM.right' hI.ui
   rcases h3 with h3|⟨rfl,h4,c,w,h5,h6⟩
   ·constructor<;>intro _<;>omega
   ·have:=((hM.OE h1 h4).2 c w h5).1
    constructor<;>intro _<;>omega
 ·rcases h with ⟨h1,_⟩ | ⟨i,i',n,lp,s,l,n',fX,s',l',h1,h2,h3⟩
  ·exact absurd h1 hn
  ·subst h2
   rcases h3 with rfl|⟨rfl,h4,c,w,h5,rfl⟩
   ·by_cases hs:Sp k id s
    ·obtain⟨rfl | rfl,hi⟩:=hs
     ·exact hM.ajG h1 hi
     ·exact(hM.OE h1 hi).1
    ·exact hM.ajC h1 hs
   ·exact((hM.OE h1 h4).2 c w h5).2
theorem Made.same (hM:Made p q k id) {T:List Int} {fuel:Int} {m m':Mc} (h:Run p T fuel m) (h':Run q T fuel m'):Co m m'=true:=by
 have hmn:=hM.right.main
 unfold Pg.oW at hmn
 cases e:p.find jb with
 |none=>rw[e]at hmn;cases hmn
 |some g=>
  obtain⟨k',h1,h2⟩:=aaY (W':=kr 0 q.all) hM.bis (hM.opens e) h.run
  rw[h'.run]at h1
  cases h1
  exact XL h2
end Go.Abs
namespace Go.Abs
set_option maxRecDepth 8000
open Go.Proofs
abbrev Sm.aDo (t:Sm) (l:List Sm):List Sm:=Sm.lU (fD t) l
abbrev Pg.put (p:Pg) (t:Sm):Pg:=p.fS (fD t)
def Sm.E7 (v:Sm):Nat:=v.labels.length+v.x.size+Ar.aS v.args
abbrev adj (t:Sm) (N:Nat):Prop:=∀ l:List Sm,Sm.aS l<N→∀ s:St,aH Tryz.prog pL [.slice .shared 13 (l.map a8), .agg (a8 t)] s (.slice .shared 13 ((Sm.lU (fD t) l).map a8)) s
theorem aa2 (t:Sm) (ht:t.E7<10000000) {N:Nat} (hN:N<10000000) (ih:adj t N) (l:List Sm) (hl:Sm.aS l<N+1) :
 aH Tryz.prog pL [.slice .shared 13 (l.map a8), .agg (a8 t)] S0 (.slice .shared 13 ((Sm.lU (fD t) l).map a8)) S0:=by
 have hlen:l.length<10000001:=by have:=Sm.dr l;omega
 have hct:=fun s=>vZ (v:=t) ht s
 have hbt:a8 t.bare=_:=cy t.bare
 simp only[hbt,Sm.bare,List.map_nil]at hct
 generalize hR:Sm.lU (fD t) l=R
 unfold S0
 refine aH.go Nj rfl fun B Q hB hQ=>?_
 have⟨hD,gA,gB,gC⟩:=bP
 repeat' (first
 |simp only[go_sem,hD,gA,gB,gC]
 |(with_reducible refine aF hQ ?_;exact aP))
 refine bo.qI 5 13 rfl ?_
 simp only[go_sem,hD,gA,gB,gC]
 refine fz 1 1 (bo.ind (ι:=List Sm×Nat×List Sm) (fun i=>l.drop i.2.1=i.1∧i.2.1=i.2.2.length∧i.2.2++Sm.lU (fD t) i.1=R) (fun i=>i.1.length)
  (fun i=> [(3, .ptr 0 0),(5, .slice (.tok 0) 13 (i.2.2.map a8)),(9, .slice .shared 13 (l.map a8)),(10, .int .i64 (l.length:Int)),(11, .int .i64 (i.2.1:Int))])
  (fun i=>⟨[a8 t],[some i.2.1]⟩) ?_ (l,0,[]) ⟨rfl,rfl,hR⟩)
 rintro⟨rest,k,acc⟩ ⟨h1,h2,h3⟩ IH
 dsimp only at h1 h2 h3
 subst h2
 cases rest with
 |nil=>
  have hD:=drop_nil h1
  simp only[Sm.lU,List.append_nil]at h3
  subst h3
  repeat' (first
 |simp only[go_sem,hD,gA,gB,gC]
 |(with_reducible refine aF hQ ?_;exact aP))
 | cons y rest=>
  obtain⟨gA,g2,hD,g4⟩:=drop_cons h1
  have hk:acc.length<4611686018427387904:=by omega
  have dL:y.size≤N:=by have:=Sm.cu (List.mem_of_getElem? gA);omega
  obtain⟨id,kind,labels,name,proc,x,has,args,aO,aN⟩:=y
  simp only[Sm.size]at dL
  have jo:(acc.length+1)*209≤bp:=by simp only[bp];omega
  have wP:=fun s=>vZ (v:=⟨id,kind,labels,name,proc,x,has,args,aO,aN⟩) (by dsimp only;omega) s
  simp only[Sm.bare,cy,List.map_nil]at wP
  have c1:=ih aO (by omega)
  have c2:=ih aN (by omega)
  simp only[Sm.lU]at h3
  obtain⟨Y,hY⟩ : ∃ Y,Sm.fS (fD t) ⟨id,kind,labels,name,proc,x,has,args,aO,aN⟩=Y:=⟨_,rfl⟩
  rw[hY]at h3
  rw[ae0]at hY
  unfold fD at hY
  obtain⟨T,hT⟩ : ∃ T,Sm.lU (fD t) aO=T:=⟨_,rfl⟩
  obtain⟨E,hE⟩ : ∃ E,Sm.lU (fD t) aN=E:=⟨_,rfl⟩
  unfold fD at hT hE
  simp only[hT,hE]at hY
  unfold fD at c1 c2
  rw[hT]at c1
  rw[hE]at c2
  rcases Bool.eq_false_or_eq_true (id==t.id)with b1|b1
  ·rw [if_pos b1]at hY
   subst hY
   repeat' (first
 |simp only[go_sem,hD,gA,gB,gC,jo,b1]
 |(with_reducible refine CU (wP _) ?_)
 |(with_reducible refine CU (hct _) ?_)
 |(with_reducible refine CU (c1 _) ?_)
 |(with_reducible refine CU (c2 _) ?_)
 | (with_reducible refine aF hQ ?_;exact aP))
   refine eQ 1 1 ?_ ?_ (IH (rest,acc.length+1,acc++ [{t with aO:=T,aN:=E}]) ⟨g2,by simp,by rw[← h3];simp⟩ (Nat.lt_succ_self _))
   ·(simp only[go_sem,hD,gA,gB,gC,aM hk,cy];try exact bQ)
   ·(simp only[go_sem,hD,gA,gB,gC,aM hk,cy];try exact bQ)
  ·rw [if_neg (by simp [b1])]at hY
   subst hY
   repeat' (first
 |simp only[go_sem,hD,gA,gB,gC,jo,b1]
 |(with_reducible refine CU (wP _) ?_)
 |(with_reducible refine CU (hct _) ?_)
 |(with_reducible refine CU (c1 _) ?_)
 |(with_reducible refine CU (c2 _) ?_)
 | (with_reducible refine aF hQ ?_;exact aP))
   refine eQ 1 1 ?_ ?_ (IH (rest,acc.length+1,acc++ [⟨id,kind,labels,name,proc,x,has,args,T,E⟩]) ⟨g2,by simp,by rw[← h3];simp⟩ (Nat.lt_succ_self _))
   ·(simp only[go_sem,hD,gA,gB,gC,aM hk];try exact bQ)
   ·(simp only[go_sem,hD,gA,gB,gC,aM hk];try exact bQ)
theorem afo (t:Sm) (ht:t.E7<10000000) : ∀ N,N<10000000→adj t N:=by
 intro N
 induction N with
 |zero=>intro _ l hl;exact absurd hl (Nat.not_lt_zero _)
 |succ N ih=>
  intro hN l hl s
  exact(aa2 t ht (by omega) (ih (by omega)) l hl).pure (by simp[D.bF,D.ok,Tag.ok,kY,pJ]) (by simp[D.bF,D.ok,Tag.ok,kY]) s
theorem XO {t:Sm} (ht:t.E7<10000000) {l:List Sm} (h:Sm.aS l<9000000) (s:St):aH Tryz.prog pL [.slice .shared 13 (l.map a8), .agg (a8 t)] s (.slice .shared 13 ((Sm.lU (fD t) l).map a8)) s:=
 afo t ht 9999999 (by omega) l (by omega) s
theorem OF (l:List Pc):((l.map bJ).flatten).length=l.length*5:=xI bJ 5 (fun f=>rfl) l
def E8:List D:= [.junk, .junk, .junk, .junk, .junk]
abbrev LN (procs:List Pc) (k:Int):Tm:= [(3, .ptr 1 0),(4, .ptr 2 0),(5, .ptr 3 0),(14, .slice .shared 5 (procs.map bJ)),(15, .int .i64 (procs.length:Int)),(16, .int .i64 k)]
abbrev oz (l:List Pc):List D:= .int .i64 ((l.length - 1:Nat):Int)::(l.map bJ).flatten
theorem ane {globals:List aK} {procs:List Pc} (hp:(⟨globals,procs⟩:Pg).size<1000000) (h0:procs≠ []) {t:Sm} (ht:t.E7<10000000) {R:List Pc} (hR:procs.map (Pc.fS (fD t))=R) :
 aH Tryz.prog tz [.agg (bK ⟨globals,procs⟩), .agg (a8 t)] S0 (.agg [.slice .shared 1 (globals.map encStr), .dH 5 4 (R.length - 1) R.length])
  ⟨[bK ⟨globals,procs⟩,a8 t,[.junk, .junk],[.junk, .junk],oz R],[]⟩:=by
 simp only[Pg.size]at hp
 have hlen:procs.length<1000000:=by have:=Pc.dr procs;omega
 have hG:=fun s=>xl (l:=globals) (by omega) s
 unfold S0
 refine aH.Wd 5 0 (Nat.zero_le _) (Nat.zero_le _) Nd rfl fun B Q hB hQ=>?_
 have⟨hD,gA,gB,gC⟩:=bP
 obtain⟨y0,UB,zb⟩ : ∃ y r,procs.drop 0=y::r:=by
  cases procs with
  |nil=>exact absurd rfl h0
  |cons y r=>exact⟨y,r,rfl⟩
 obtain⟨UC,g20,ave,g40⟩:=drop_cons zb
 have ajJ:decide ((0:Int)<(procs.length:Int))=true:=by simpa using ave
 have hR0:Pc.fS (fD t) y0::UB.map (Pc.fS (fD t))=R:=by
  have:procs=y0::UB:=by simpa using zb
  rw[← hR,this];rfl
 have jo:(1:Nat)*113≤bp:=by simp only[bp];omega
 have fP:=fun(tg:Tag) (r:List D) (s:St)=>F6 (z:=5) (bytes:=112) tg r s (by simp only[bp];omega)
 -- the rounds behind the first one
 have loop:bo Tryz.prog B 47 ZO (iN 0 (lz (jU Tryz.prog B 47 ZP Q) Q)) (LN procs ((1:Nat):Int)) ⟨[bK ⟨globals,procs⟩,a8 t,[.junk, .junk],[.slice .shared 1 (globals.map encStr), .dH 5 4 0 1],oz [Pc.fS (fD t) y0]],[]⟩:=by
  refine bo.ind (ι:=List Pc×Nat×List Pc) (fun i=>procs.drop i.2.1=i.1∧i.2.1=i.2.2.length∧0<i.2.2.length∧i.2.2++i.1.map (Pc.fS (fD t))=R) (fun i=>i.1.length)
   (fun i=>LN procs (i.2.1:Int)) (fun i=>⟨[bK ⟨globals,procs⟩,a8 t,[.junk, .junk],[.slice .shared 1 (globals.map encStr), .dH 5 4 (i.2.2.length - 1) i.2.2.length],oz i.2.2],[]⟩) ?_ (UB,1,[Pc.fS (fD t) y0]) ⟨g20,rfl,Nat.zero_lt_one,hR0⟩
  rintro⟨rest,k,acc⟩ ⟨h1,h2,h3,h4⟩ IH
  dsimp only at h1 h2 h3 h4
  subst h2
  have sQ:acc.length≤procs.length:=by
   have:=congrArg List.length h4
   rw[← hR]at this
   simp at this;omega
  cases rest with
  |nil=>
   have hD:=drop_nil h1
   simp only[List.map_nil,List.append_nil]at h4
   subst h4
   repeat' (first
 |simp only[go_sem,hD,gA,gB,gC]
 | (with_reducible refine aF hQ ?_;exact aP))
  | cons y rest=>
   obtain⟨gA,g2,hD,g4⟩:=drop_cons h1
   have dL:=Pc.cu (List.mem_of_getElem? gA)
   obtain⟨name,params,vars,body,fin⟩:=y
   simp only[Pc.size]at dL
   have hk:acc.length<4611686018427387904:=by omega
   have c1:=fun s=>xl (l:=vars) (by omega) s
   have c2:=fun s=>xl (l:=fin) (by omega) s
   have c3:=fun s=>XO ht (l:=body) (by omega) s
   have e2:Pc.fS (fD t) ⟨name,params,vars,body,fin⟩ = ⟨name,params,vars,Sm.lU (fD t) body,fin⟩:=rfl
   have Q4:=fun(tg:Tag) (r a b c d e f:List D) (T:List (Option Nat))=>aeb (s:=⟨[a,b,c,d,oz acc,e,f],T⟩) (o:=4) (g:=acc.length - 1) (len:=acc.length) (z:=5) (bytes:=112) (t:=tg) (r:=r) rfl (OF acc) (by unfold bp;omega)
   have e3:acc.length - 1+1=acc.length:=by omega
   have e6 : ∀ f:Pc,oz (acc++ [f]) = .int .i64 (acc.length:Int)::((acc.map bJ).flatten++bJ f):=fun f=>by simp
   have e7 : ∀ f:Pc,(acc++ [f]).length=acc.length+1:=fun f=>by simp
   cases params with
   |nil=>
    have ha:=fun o T=>sL (size:=2) (bytes:=24) (z:=0) (z':=2) (g:= .shared) o T
    repeat' (first
 |simp only[go_sem,hD,gA,gB,gC,ha,Q4,e3]
 |(with_reducible refine CU (c1 _) ?_)
 |(with_reducible refine CU (c2 _) ?_)
 |(with_reducible refine CU (c3 _) ?_)
 | (with_reducible refine aF hQ ?_;exact aP))
    refine eQ 5 0 ?_ ?_ (IH (rest,acc.length+1,acc++ [Pc.fS (fD t) ⟨name,[],vars,body,fin⟩]) ⟨g2,by simp,by simp,by rw[← h4];simp⟩ (Nat.lt_succ_self _))
    ·(simp only[go_sem,hD,gA,gB,gC,aM hk,e2,e3,e6,e7,Nat.add_sub_cancel];try exact bQ)
    ·(simp only[go_sem,hD,gA,gB,gC,aM hk,e2,e3,e6,e7,Nat.add_sub_cancel];try exact bQ)
   |cons q params=>
    have ha:=fun o T=>sK (size:=2) (bytes:=24) (rows:=(q::params).map iV) (by simp) (by simp only[List.length_map];unfold bp;omega) (z:=0) (g:= .shared) o T
    generalize q::params=ps at *
    repeat' (first
 |simp only[go_sem,hD,gA,gB,gC,ha,Q4,e3]
 |(with_reducible refine CU (c1 _) ?_)
 |(with_reducible refine CU (c2 _) ?_)
 |(with_reducible refine CU (c3 _) ?_)
 | (with_reducible refine aF hQ ?_;exact aP))
    refine eQ 5 0 ?_ ?_ (IH (rest,acc.length+1,acc++ [Pc.fS (fD t) ⟨name,ps,vars,body,fin⟩]) ⟨g2,by simp,by simp,by rw[← h4];simp⟩ (Nat.lt_succ_self _))
    ·(simp only[go_sem,hD,gA,gB,gC,aM hk,e2,e3,e6,e7,Nat.add_sub_cancel];try exact bQ)
    ·(simp only[go_sem,hD,gA,gB,gC,aM hk,e2,e3,e6,e7,Nat.add_sub_cancel];try exact bQ)
 repeat' (first
 |simp only[go_sem,hD,gA,gB,gC]
 |(with_reducible refine CU (hG _) ?_)
 |(with_reducible refine aF hQ ?_;exact aP))
 refine fz 4 0 (bo.kj (tm:=LN procs 0) (s:=⟨[bK ⟨globals,procs⟩,a8 t,[.junk, .junk],[.slice .shared 1 (globals.map encStr), .fk 5]],[]⟩) ?_)
 have dL:=Pc.cu (List.mem_of_getElem? UC)
 obtain⟨name,params,vars,body,fin⟩:=y0
 simp only[Pc.size]at dL
 have c1:=fun s=>xl (l:=vars) (by omega) s
 have c2:=fun s=>xl (l:=fin) (by omega) s
 have c3:=fun s=>XO ht (l:=body) (by omega) s
 have e2:Pc.fS (fD t) ⟨name,params,vars,body,fin⟩ = ⟨name,params,vars,Sm.lU (fD t) body,fin⟩:=rfl
 have w1:IntKind.wrap .i64 ((0:Int)+1)=((1:Nat):Int):=rfl
 have AV:=bo.Tp (P:=Tryz.prog) (a:=ZO) (Q:=iN 0 (lz (jU Tryz.prog B 47 ZP Q) Q)) (nt:=47) (tm:=LN procs ((1:Nat):Int)) (s:=⟨[bK ⟨globals,procs⟩,a8 t,[.junk, .junk],[.slice .shared 1 (globals.map encStr), .dH 5 6 0 1],E8,E8,oz [Pc.fS (fD t) ⟨name,params,vars,body,fin⟩]],[]⟩)
  hB [0,1,2,3,6] _ _ (by decide) (by simp) (by simp[xJ,D.fc,D.cO,D.bF,D.ok,Tag.cO,Tag.ok,AW,Qg,EL,Hx,py,DM,Wg,uL,uM,xi]) (by simp[AU,Tm.get,D.cO,D.ok,Tag.cO,Tag.ok,BJ,EM]) loop
 have e4:oz [⟨name,params,vars,Sm.lU (fD t) body,fin⟩] = [.int .i64 0, .str name, .slice .shared 2 (params.map iV), .slice .shared 1 (vars.map encStr), .slice .shared 13 ((Sm.lU (fD t) body).map a8), .slice .shared 1 (fin.map encStr)]:=rfl
 cases params with
 |nil=>
  have ha:=fun o T=>sL (size:=2) (bytes:=24) (z:=0) (z':=2) (g:= .shared) o T
  repeat' (first
 |simp only[go_sem,hD,gA,gB,gC,UC,ajJ,jo,ha,fP]
 |(with_reducible refine CU (c1 _) ?_)
 |(with_reducible refine CU (c2 _) ?_)
 |(with_reducible refine CU (c3 _) ?_)
 |(with_reducible refine aF hQ ?_;exact aP))
  refine eQ 7 0 ?_ ?_ (AV)
  ·(simp only[go_sem,hD,gA,gB,gC,w1,e2,e4,E8];try exact bQ)
  ·(simp only[go_sem,hD,gA,gB,gC,w1,e2,e4,E8];try exact bQ)
 |cons q params=>
  have ha:=fun o T=>sK (size:=2) (bytes:=24) (rows:=(q::params).map iV) (by simp) (by simp only[List.length_map];unfold bp;omega) (z:=0) (g:= .shared) o T
  generalize q::params=ps at *
  repeat' (first
 |simp only[go_sem,hD,gA,gB,gC,UC,ajJ,jo,ha,fP]
 |(with_reducible refine CU (c1 _) ?_)
 |(with_reducible refine CU (c2 _) ?_)
 |(with_reducible refine CU (c3 _) ?_)
 |(with_reducible refine aF hQ ?_;exact aP))
  refine eQ 7 0 ?_ ?_ (AV)
  ·(simp only[go_sem,hD,gA,gB,gC,w1,e2,e4,E8];try exact bQ)
  ·(simp only[go_sem,hD,gA,gB,gC,w1,e2,e4,E8];try exact bQ)
theorem anf:(⟨-1,0,[],[],[],rA,false,[],[],[]⟩:Sm).E7<10000000:=by decide
def fU:Sm:=⟨-1,0,[],[],[],rA,false,[],[],[]⟩
theorem ajK:a8 fU = [.int .i64 (-1), .int .i64 0, .slice .shared 1 [], .str [], .str [], .int .i64 0, .int .i64 0, .str [], .slice .shared 4 [], .bool false, .slice .shared 6 [], .slice .shared 13 [], .slice .shared 13 []]:=rfl
theorem ang {p:Pg} (hp:p.size<1000000) (h0:p.procs≠ []) {t:Sm} (ht:t.E7<10000000) (st:St) :
 aH Tryz.prog tz [.agg (bK p), .agg (a8 t)] st (.agg [.slice .shared 1 (p.globals.map encStr), .dH 5 st.aj.length (p.procs.length - 1) p.procs.length]) ⟨st.aj++ [oz (p.put t).procs],st.az⟩:=by
 obtain⟨globals,procs⟩:=p
 show aH _ _ _ _ _ ⟨st.aj++ [oz (procs.map (Pc.fS (fD t)))],st.az⟩
 have h1:=ane hp h0 ht (R:=procs.map (Pc.fS (fD t))) rfl
 have hl:(procs.map (Pc.fS (fD t))).length=procs.length:=List.length_map ..
 generalize procs.map (Pc.fS (fD t))=R at *
 rw[hl]at h1
 have h2:=aH.AV (d':= .agg [.slice .shared 1 (globals.map encStr), .dH 5 0 (procs.length - 1) procs.length]) (fA:= [oz R]) [4] h1 (by decide) (by simp) rfl (fun i o ds e1 e2=>by
  cases i with
  |zero=>
   simp only[List.getElem?_cons_zero,Option.some.injEq]at e1 e2
   subst e1 e2
   exact⟨by simp[D.fc,D.cO,uM,hl],by simp[D.bF,D.ok,xi]⟩
  |succ i=>simp at e1) (by simp[D.cO,D.fc,Tag.cO,py]) (by simp[D.ok,D.bF,Tag.ok,uL])
 have h3:=h2.abV (by simp[D.bF,D.ok,iP,pJ]) (by simp[D.bF,D.ok,Hy]) st
 simpa[D.cO,D.fc,Tag.cO,py]using h3
theorem XQ {p:Pg} (hp:p.size<1000000) (h0:p.procs≠ []) (st:St) :
 aH Tryz.prog rU [.agg (bK p)] st (.agg [.slice .shared 1 (p.globals.map encStr), .dH 5 st.aj.length (p.procs.length - 1) p.procs.length]) ⟨st.aj++ [oz (p.put fU).procs],st.az⟩:=by
 have h1:=fun s=>ang hp h0 (t:=fU) anf s
 have h2 : ∀ s:St,aH Tryz.prog tz [.agg (bK p), .agg [.int .i64 (-1), .int .i64 0, .slice .full 0 [], .str [], .str [], .int .i64 0, .int .i64 0, .str [], .slice .full 0 [], .bool false, .slice .full 0 [], .slice .full 0 [], .slice .full 0 []]] s
  (.agg [.slice .shared 1 (p.globals.map encStr), .dH 5 s.aj.length (p.procs.length - 1) p.procs.length]) ⟨s.aj++ [oz (p.put fU).procs],s.az⟩:=
  fun s=>bS.sy (.cons (Wk.refl _) (.cons (by rw[ajK];exact Wk.agg (.cons (Wk.refl _) (.cons (Wk.refl _) (.cons (Wk.nil _ _ _) (.cons (Wk.refl _) (.cons (Wk.refl _) (.cons (Wk.refl _) (.cons (Wk.refl _) (.cons (Wk.refl _) (.cons (Wk.nil _ _ _) (.cons (Wk.refl _) (.cons (Wk.nil _ _ _) (.cons (Wk.nil _ _ _) (.cons (Wk.nil _ _ _) .nil)))))))))))))) .nil)) (h1 s)
 have key:aH Tryz.prog rU [.agg (bK p)] S0 (.agg [.slice .shared 1 (p.globals.map encStr), .dH 5 2 (p.procs.length - 1) p.procs.length]) ⟨[bK p,[.junk, .junk],oz (p.put fU).procs],[]⟩:=by
  unfold S0
  refine aH.Wd 3 0 (Nat.zero_le _) (Nat.zero_le _) Lf rfl fun B Q hB hQ=>?_
  have⟨hD,gA,gB,gC⟩:=bP
  generalize (p.put fU).procs=R at *
  repeat' (first
 |simp only[go_sem,hD,gA,gB,gC]
 |(with_reducible refine CU (h2 _) ?_)
 |(with_reducible refine aF hQ ?_;exact aP))
 generalize (p.put fU).procs=R at *
 have h3:=aH.AV (d':= .agg [.slice .shared 1 (p.globals.map encStr), .dH 5 0 (p.procs.length - 1) p.procs.length]) (fA:= [oz R]) [2] key (by decide) (by simp) rfl (fun i o ds e1 e2=>by
  cases i with
  |zero=>
   simp only[List.getElem?_cons_zero,Option.some.injEq]at e1 e2
   subst e1 e2
   exact⟨by simp[D.fc,D.cO,uM],by simp[D.bF,D.ok,xi]⟩
  |succ i=>simp at e1) (by simp[D.cO,D.fc,Tag.cO,py]) (by simp[D.ok,D.bF,Tag.ok,uL])
 have h4:=h3.abV (by simp[D.bF,D.ok,iP]) (by simp[D.bF,D.ok,Hy]) st
 simpa[D.cO,D.fc,Tag.cO,py]using h4
abbrev adk (N:Nat):Prop:=∀ (l:List Sm) (n:Nat),Sm.aS l<N→n+Sm.aS l<1000000000→∀ s:St,aH Tryz.prog kF [.slice .shared 13 (l.map a8), .int .i64 (n:Int)] s
 (.tuple [.slice .shared 13 ((Sm.fC true n l).1.map a8), .int .i64 ((Sm.fC true n l).2:Int)]) s
theorem Lw {N:Nat} (hN:N<10000000) (ih:adk N) (l:List Sm) (n:Nat) (hl:Sm.aS l<N+1) (hn:n+Sm.aS l<1000000000) :
 aH Tryz.prog kF [.slice .shared 13 (l.map a8), .int .i64 (n:Int)] S0 (.tuple [.slice .shared 13 ((Sm.fC true n l).1.map a8), .int .i64 ((Sm.fC true n l).2:Int)]) S0:=by
 have hlen:l.length<10000001:=by have:=Sm.dr l;omega
 have hle:=Sm.uO true n l
 generalize hR:Sm.fC true n l=R at *
 unfold S0
 refine aH.go Fi rfl fun B Q hB hQ=>?_
 have⟨hD,gA,gB,gC⟩:=bP
 repeat' (first
 |simp only[go_sem,hD,gA,gB,gC]
 |(with_reducible refine aF hQ ?_;exact aP))
 refine bo.qI 6 13 rfl ?_
 simp only[go_sem,hD,gA,gB,gC]
 refine fz 0 1 (bo.ind (ι:=List Sm×Nat×List Sm×Nat) (fun i=>l.drop i.2.1=i.1∧i.2.1=i.2.2.1.length∧(i.2.2.1++(Sm.fC true i.2.2.2 i.1).1,(Sm.fC true i.2.2.2 i.1).2)=R∧i.2.2.2+Sm.aS i.1≤n+Sm.aS l) (fun i=>i.1.length)
  (fun i=> [(1, .int .i64 (i.2.2.2:Int)),(6, .slice (.tok 0) 13 (i.2.2.1.map a8)),(10, .slice .shared 13 (l.map a8)),(11, .int .i64 (l.length:Int)),(12, .int .i64 (i.2.1:Int))])
  (fun i=>⟨[],[some i.2.1]⟩) ?_ (l,0,[],n) ⟨rfl,rfl,by simpa using hR,Nat.le_refl _⟩)
 rintro⟨rest,k,acc,m⟩ ⟨h1,h2,h3,h4⟩ IH
 dsimp only at h1 h2 h3 h4
 subst h2
 cases rest with
 |nil=>
  have hD:=drop_nil h1
  simp only[Sm.fC,List.append_nil]at h3
  subst h3
  repeat' (first
 |simp only[go_sem,hD,gA,gB,gC]
 |(with_reducible refine aF hQ ?_;exact aP))
 |cons y rest=>
  obtain⟨gA,g2,hD,g4⟩:=drop_cons h1
  have hk:acc.length<4611686018427387904:=by omega
  have dL:y.size≤N:=by have:=Sm.cu (List.mem_of_getElem? gA);omega
  obtain⟨id,kind,labels,name,proc,x,has,args,aO,aN⟩:=y
  simp only[Sm.size]at dL
  simp only[Sm.aS,Sm.size]at h4
  have jo:(acc.length+1)*209≤bp:=by simp only[bp];omega
  have wP:=fun s=>vZ (v:=⟨id,kind,labels,name,proc,x,has,args,aO,aN⟩) (by dsimp only;omega) s
  simp only[Sm.bare,cy,List.map_nil]at wP
  simp only[Sm.fC,Sm.num,if_true]at h3
  have c1:=ih aO (m+1) (by omega) (by omega)
  have l1:=Sm.uO true (m+1) aO
  obtain⟨T,hT⟩ : ∃ T,Sm.fC true (m+1) aO=T:=⟨_,rfl⟩
  rw[hT]at h3 c1 l1
  have c2:=ih aN T.2 (by omega) (by omega)
  have l2:=Sm.uO true T.2 aN
  obtain⟨E,hE⟩ : ∃ E,Sm.fC true T.2 aN=E:=⟨_,rfl⟩
  rw[hE]at h3 c2 l2
  have wm:IntKind.wrap .i64 ((m:Int)+1)=((m+1:Nat):Int):=by rw[eB]<;>omega
  repeat' (first
 |simp only[go_sem,hD,gA,gB,gC,jo,wm]
 |(with_reducible refine CU (wP _) ?_)
 |(with_reducible refine CU (c1 _) ?_)
 |(with_reducible refine CU (c2 _) ?_)
 |(with_reducible refine aF hQ ?_;exact aP))
  refine eQ 0 1 ?_ ?_ (IH (rest,acc.length+1,acc++ [⟨((m+1:Nat):Int),kind,labels,name,proc,x,has,args,T.1,E.1⟩],E.2) ⟨g2,by simp,by rw[← h3];simp,by dsimp only;omega⟩ (Nat.lt_succ_self _))
  ·(simp only[go_sem,hD,gA,gB,gC,aM hk,cy];try exact bQ)
  ·(simp only[go_sem,hD,gA,gB,gC,aM hk,cy];try exact bQ)
theorem OH : ∀ N,N<10000000→adk N:=by
 intro N
 induction N with
 |zero=>intro _ l n hl;exact absurd hl (Nat.not_lt_zero _)
 |succ N ih=>
  intro hN l n hl hn s
  exact(Lw (by omega) (ih (by omega)) l n hl hn).pure (by simp[D.bF,D.ok,Tag.ok,kY]) (by simp[D.bF,D.ok,Tag.ok,kY]) s
theorem UD {l:List Sm} {n:Nat} (h:Sm.aS l<9000000) (hn:n+Sm.aS l<1000000000) (s:St):aH Tryz.prog kF [.slice .shared 13 (l.map a8), .int .i64 (n:Int)] s
 (.tuple [.slice .shared 13 ((Sm.fC true n l).1.map a8), .int .i64 ((Sm.fC true n l).2:Int)]) s:=
 OH 9999999 (by omega) l n (by omega) hn s
mutual
def Sm.drp (id:Int):Sm→Sm
 |⟨i,kind,labels,name,proc,x,has,args,aO,aN⟩=>⟨i,kind,labels,name,proc,x,has,args,Sm.GU id aO,Sm.GU id aN⟩
def Sm.GU (id:Int):List Sm→List Sm
 | []=> []
 |s::l=>if s.id==id then Sm.GU id l else s.drp id::Sm.GU id l
end
abbrev JH (g:Nat) (l:List Pc):List D:= .int .i64 (g:Int)::(l.map bJ).flatten
abbrev anh (len k n:Nat) (g:Nat):Tm:= [(1, .ptr 0 0),(2, .ptr 1 0),(3, .ptr 2 0),(4, .int .i64 (n:Int)),(9, .dH 5 3 g len),(10, .int .i64 (len:Int)),(11, .int .i64 (k:Int))]
theorem XR {p:Pg} (hp:p.size<1000000) (h0:p.procs≠ []) (st:St):aH Tryz.prog wo [.agg (bK p)] st (.agg (bK p.number)) st:=by
 refine aH.pure ?_ (by simp[D.bF,D.ok,iP]) (by simp[D.ok,iP]) st
 have Bn:=fun s=>XQ hp h0 s
 obtain⟨globals,procs⟩:=p
 simp only[Pg.size]at hp
 have hlen:procs.length<1000000:=by have:=Pc.dr procs;omega
 have nB:((⟨globals,procs⟩:Pg).put fU).procs.length=procs.length:=List.length_map ..
 have XS:((⟨globals,procs⟩:Pg).put fU).procs=procs.map (Pc.fS (fD fU)):=rfl
 have fu:0<procs.length:=List.length_pos_iff.2 h0
 dsimp only at Bn
 obtain⟨C,hC⟩ : ∃ C,((⟨globals,procs⟩:Pg).put fU).procs=C:=⟨_,rfl⟩
 rw[hC]at Bn nB XS
 obtain⟨g,hg⟩ : ∃ g,procs.length - 1=g:=⟨_,rfl⟩
 have Q4:oz C=JH g C:=by rw[← hg, ← nB]
 have XT:bK (⟨globals,procs⟩:Pg) = [.slice .shared 1 (globals.map encStr), .slice .shared 5 (procs.map bJ)]:=rfl
 simp only[Q4,hg,XT]at Bn
 generalize hR:Pc.fC 0 procs=R
 have UE:bK (⟨globals,procs⟩:Pg).number = [.slice .shared 1 (globals.map encStr), .slice .shared 5 (R.map bJ)]:=by
  unfold Pg.number;rw[hR];rfl
 rw[UE]
 unfold S0
 refine aH.go HF rfl fun B Q hB hQ=>?_
 have⟨hD,gA,gB,gC⟩:=bP
 have loop : ∀ (rest uj done:List Pc) (n:Nat),procs.drop done.length=rest→uj=rest.map (Pc.fS (fD fU))→done++Pc.fC n rest=R→n+Pc.aS rest≤Pc.aS procs→
  bo Tryz.prog B 32 QMA (iN 0 (lz (jU Tryz.prog B 32 QMF Q) Q)) (anh procs.length done.length n g) ⟨[bK ⟨globals,procs⟩,[.junk, .junk],[.slice .shared 1 (globals.map encStr), .dH 5 3 g procs.length],JH g (done++uj)],[]⟩:=by
  intro rest
  induction rest with
  | nil=>
   intro uj done n h1 h2 h3 h4
   have hD:=drop_nil h1
   have:uj = []:=by simpa using h2
   subst this
   simp only[Pc.fC,List.append_nil]at h3
   subst h3
   rw[List.append_nil]
   have QU:procs.length=(done.map bJ).length:=by
    rw[List.length_map]
    have h5:=List.drop_eq_nil_iff.1 h1
    have h6:=congrArg List.length hR
    have : ∀ (l:List Pc) (n:Nat),(Pc.fC n l).length=l.length:=by
     intro l
     induction l with
     |nil=>intro n;rfl
     |cons a l ih=>intro n;simp[Pc.fC,ih]
    rw[this]at h6
    exact h6
   refine bo.To 3 g 5 (done.map bJ) [(2, .ptr 1 0),(3, .ptr 2 0),(10, .int .i64 (procs.length:Int)),(11, .int .i64 (done.length:Int))] [bK ⟨globals,procs⟩,[.junk, .junk],[.slice .shared 1 (globals.map encStr), .slice .shared 5 (done.map bJ)]]
    (by rw[hB];exact Nat.zero_le _) rfl ⟨9,_, .inl rfl⟩ (fun row hr=>by obtain⟨a,_,rfl⟩:=List.mem_map.1 hr;rfl) ?_ ?_ (bo.kj ?_)
   ·simp only [go_sem]
    repeat' (first|exact Ok.out|with_reducible refine jD ?_ ?_)
   ·show iu [CI _ _ _ _ _ (bK _),CI _ _ _ _ _ [.junk, .junk],CI _ _ _ _ _ [.slice .shared 1 _, .dH _ _ _ _]] _
    simp only[go_sem,QU,and_self,if_true]
    exact Ok.out
   ·repeat' (first
 |simp only[go_sem,hD,gA,gB,gC]
 | (with_reducible refine aF hQ ?_;exact aP))
  | cons y rest ih=>
   intro uj done n h1 h2 h3 h4
   obtain⟨gA,g2,hD,g4⟩:=drop_cons h1
   subst h2
   have hk:done.length<4611686018427387904:=by omega
   simp only[Pc.aS,Pc.size]at h4
   simp only[Pc.fC]at h3
   have P2:=fun s=>UD (l:=y.body) (n:=n) (by omega) (by omega) s
   have hle:=Sm.uO true n y.body
   obtain⟨b,hb⟩ : ∃ b,Sm.fC true n y.body=b:=⟨_,rfl⟩
   rw[hb]at h3 P2 hle
   have yS:gR (((done++Pc.fS (fD fU) y::rest.map (Pc.fS (fD fU))).map bJ).flatten) (done.length*5+3) [.slice .shared 13 (b.1.map a8)] =
    ((done++ {y with body:=b.1}::rest.map (Pc.fS (fD fU))).map bJ).flatten:=Hv bJ 5 (fun f=>rfl) done _ (Pc.fS (fD fU) y) {y with body:=b.1} 3 _ rfl (by simp)
   have ib:done.length*5+3+1≤(((done++Pc.fS (fD fU) y::rest.map (Pc.fS (fD fU))).map bJ).flatten).length:=by rw[OF];simp;omega
   have IH:=ih (rest.map (Pc.fS (fD fU))) (done++ [{y with body:=b.1}]) b.2 (by rw[List.length_append];exact g2) rfl (by rw[← h3];simp) (by omega)
   have e7:(done++ [{y with body:=b.1}]).length=done.length+1:=by simp
   have e8:done++ [{y with body:=b.1}]++rest.map (Pc.fS (fD fU))=done++ {y with body:=b.1}::rest.map (Pc.fS (fD fU)):=by simp
   rw[e7,e8]at IH
   generalize done++ {y with body:=b.1}::rest.map (Pc.fS (fD fU))=L2 at *
   rw[List.map_cons]
   generalize done++Pc.fS (fD fU) y::rest.map (Pc.fS (fD fU))=L1 at *
   clear ih
   refine bo.kj ?_
   repeat' (first
 |simp only[go_sem,hD,gA,gB,gC,g4,yS,ib]
 |(with_reducible refine CU (P2 _) ?_)
 | (with_reducible refine aF hQ ?_;exact aP))
   refine eQ 4 0 ?_ ?_ (IH)
   ·(simp only[go_sem,hD,gA,gB,gC,aM hk];try exact bQ)
   ·(simp only[go_sem,hD,gA,gB,gC,aM hk];try exact bQ)
 repeat' (first
 |simp only[go_sem,hD,gA,gB,gC]
 |(with_reducible refine CU (Bn _) ?_)
 |(with_reducible refine aF hQ ?_;exact aP))
 have AV:=bo.Tp (P:=Tryz.prog) (a:=QMA) (Q:=iN 0 (lz (jU Tryz.prog B 32 QMF Q) Q)) (nt:=32) (tm:= [(1, .ptr 0 0),(2, .ptr 1 0),(3, .ptr 3 0),(4, .int .i64 ((0:Nat):Int)),(9, .dH 5 2 g procs.length),(10, .int .i64 (procs.length:Int)),(11, .int .i64 ((0:Nat):Int))])
  (s:=⟨[bK ⟨globals,procs⟩,[.junk, .junk],JH g C,[.slice .shared 1 (globals.map encStr), .dH 5 2 g procs.length]],[]⟩)
  hB [0,1,3,2] _ _ (by decide) (by simp) (by simp[xJ,D.fc,D.cO,D.bF,D.ok,Tag.cO,Tag.ok,AW,EL,Hx,py,DM,uL,uM,xi]) (by simp[AU,Tm.get,D.cO,D.ok,Tag.cO,Tag.ok,BJ,EM])
  (loop procs C [] 0 rfl XS (by simpa using hR) (by simp))
 refine fz 4 0 (AV)
def Pc.drp (id:Int) (f:Pc):Pc:= {f with body:=Sm.GU id f.body}
def Pg.drp (p:Pg) (id:Int):Pg:= {p with procs:=p.procs.map (Pc.drp id)}
abbrev ani (id:Int) (len k:Nat) (g:Nat):Tm:= [(1, .int .i64 id),(2, .ptr 0 0),(4, .ptr 1 0),(5, .ptr 2 0),(10, .dH 5 3 g len),(11, .int .i64 (len:Int)),(12, .int .i64 (k:Int))]
def Pg.rot (p:Pg) (n:Nat):Pg:= {p with procs:=p.procs.drop n++p.procs.take n}
structure Pg.Oks (p:Pg):Prop where
 sE:fh p.globals=true
 adn:(p.globals.length:Int)≤16
 procs : ∀ f∈p.procs,f.okM
 aCu:p.procs.length≤16
 tot:Pc.tot p.procs≤200
mutual
theorem aa3 (b:Bool) (n:Nat) : ∀ s:Sm,((Sm.num b n s).1).size=s.size
 |⟨id,kind,labels,name,proc,x,has,args,aO,e⟩=>by simp only[Sm.num,Sm.size,zw b _ aO,zw b _ e]
theorem zw (b:Bool) (n:Nat) : ∀ l:List Sm,Sm.aS (Sm.fC b n l).1=Sm.aS l
 | []=>rfl
 |s::l=>by simp only[Sm.fC,Sm.aS,aa3 b n s,zw b _ l]
end
theorem IM : ∀ (l:List Pc) (n:Nat),Pc.aS (Pc.fC n l)=Pc.aS l
 | [],_=>rfl
 |f::l,n=>by simp only[Pc.fC,Pc.aS,Pc.size,zw,IM l]
theorem Pg.Ey (p:Pg):p.number.size=p.size:=by simp only[Pg.number,Pg.size,IM]
mutual
theorem ajL (b c:Bool) (n:Nat) : ∀ s:Sm,((Sm.num b n s).1).cp c=s.cp c
 |⟨id,kind,labels,name,proc,x,has,args,aO,e⟩=>by simp only[Sm.num,Sm.cp,E9 b _ _ aO,E9 b _ _ e];rfl
theorem E9 (b c:Bool) (n:Nat) : ∀ l:List Sm,Sm.ki c (Sm.fC b n l).1=Sm.ki c l
 | []=>rfl
 |s::l=>by simp only[Sm.fC,Sm.ki,ajL b c n s,E9 b c _ l]
end
def u5 (n:Nat):List Pc→List (Pc×Pc)
 | []=> []
 |f::l=>({f with body:=(Sm.fC true n f.body).1},f)::u5 (Sm.fC true n f.body).2 l
theorem IN : ∀ (l:List Pc) (n:Nat),(u5 n l).map Prod.fst=Pc.fC n l
 | [],_=>rfl
 |f::l,n=>by simp only[u5,List.map_cons,Pc.fC,IN l]
theorem IP : ∀ (l:List Pc) (n:Nat),(u5 n l).map Prod.snd=l
 | [],_=>rfl
 |f::l,n=>by simp only[u5,List.map_cons,IP l]
def avg (id:Int) (n:Nat):List Pc→List (Pc×Pc)
 | []=> []
 |f::l=>({f with body:=(Sm.fC true n (Sm.GU id f.body)).1},f)::avg id (Sm.fC true n (Sm.GU id f.body)).2 l
theorem OI {f g:Pc} : ∀ {l:List Pc},(l.map (·.name)).Nodup→f∈l→g∈l→f.name=g.name→f=g
 | a::l,hn,hf,hg,e=>by
  rw[List.map_cons,List.nodup_cons]at hn
  rcases List.mem_cons.1 hf with rfl|JW
  ·rcases List.mem_cons.1 hg with rfl | nT
   ·rfl
   ·exact absurd (List.mem_map.2 ⟨g,nT,e.symm⟩) hn.1
  ·rcases List.mem_cons.1 hg with rfl | nT
   ·exact absurd (List.mem_map.2 ⟨f,JW,e⟩) hn.1
   ·exact OI hn.2 JW nT e
theorem Cv : ∀ (l:List Pc) (n:Nat),∀ x∈u5 n l,∃ j,x.1 = {x.2 with body:=(Sm.fC true j x.2.body).1}
 |f::l,n,x,m=>by
  simp only[u5]at m
  rcases List.mem_cons.1 m with rfl|m
  ·exact⟨n,rfl⟩
  ·exact Cv l _ x m
theorem afp {p:Pg} {ps:List Pc} {k id:Int} (hp:p.Right) (hq:(⟨p.globals,ps⟩:Pg).number.Right) (h1 : ∀ g∈ps,∃ f∈p.procs,g = {f with body:=Sm.dG k id f.body}) (h2 : ∀ f∈p.procs,{f with body:=Sm.dG k id f.body}∈ps)
 (ht:k=1→∀ v∈p.pre,v.id=id→v.kind=5) (hr:k=2→∀ v∈p.pre,v.id=id→v.kind=6∧yo v.aO):Made p (⟨p.globals,ps⟩:Pg).number k id:=by
 have Ix:(p.procs.map (·.name)).Nodup:=by
  have:=hp.tp
  unfold Pg.pn at this
  refine Classical.byContradiction fun h=>?_
  rw[(pA _).2 h]at this
  cases this
 have p8:(⟨p.globals,ps⟩:Pg).number.procs=(u5 0 ps).map Prod.fst:=(IN ps 0).symm
 refine⟨hp,hq,rfl,fun {i i' f f'} e1 e2 e3=>?_,fun {i f} e1=>?_,ht,hr⟩
 ·have m2:=List.mem_of_getElem? e2
  rw[p8]at m2
  obtain⟨⟨a,b⟩,mx,rfl⟩:=List.mem_map.1 m2
  obtain⟨j,ej⟩:=Cv ps 0 _ mx
  dsimp only at ej e3
  have mb:b∈ps:=by rw[← IP ps 0];exact List.mem_map.2 ⟨_,mx,rfl⟩
  obtain⟨g,mg,rfl⟩:=h1 b mb
  rw[ej]at e3
  have:g=f:=OI Ix mg (List.mem_of_getElem? e1) e3
  subst this
  dsimp only
  rw[ej]
  exact⟨rfl,rfl,rfl,Cs true j _⟩
 ·have m:=h2 f (List.mem_of_getElem? e1)
  rw[← IP ps 0]at m
  obtain⟨⟨a,b⟩,mx,e⟩:=List.mem_map.1 m
  dsimp only at e
  subst e
  obtain⟨j,ej⟩:=Cv ps 0 _ mx
  have ma:a∈(⟨p.globals,ps⟩:Pg).number.procs:=by rw[p8];exact List.mem_map.2 ⟨_,mx,rfl⟩
  obtain⟨i',iH⟩:=List.getElem?_of_mem ma
  exact⟨i',a,iH,by dsimp only at ej;rw[ej]⟩
structure Cov (u v:Sm):Prop where
 said : ∀ x∈v.said,x∈u.said
 call:v.kind=4→u.kind=4∧u.proc=v.proc∧u.args=v.args∧u.name=v.name
structure Pc.JI (g f:Pc):Prop where
 name:g.name=f.name
 params:g.params=f.params
 vars:g.vars=f.vars
 st : ∀ v∈Sm.bH g.body,∃ u∈Sm.bH f.body,Cov u v
 ln:ff g.labels=false
 leads : ∀ q∈g.sk,kl g.labels q.1 q.2=true
theorem UF {p q:Pg} (hp:p.Right) (hq:q.may=true) (hg:q.globals=p.globals) {l:List (Pc×Pc)} (vR:q.procs=l.map Prod.fst) (ku:(l.map Prod.snd).Perm p.procs) (hl3 : ∀ x∈l,Pc.JI x.1 x.2):q.Right:=by
 have nd:(p.procs.map (·.name)).Nodup:=by
  have:=hp.tp
  unfold Pg.pn at this
  cases e:ff (p.procs.map (·.name))with
  |true=>rw[e]at this;cases this
  |false=>
   by_cases hn:(p.procs.map (·.name)).Nodup
   ·exact hn
   ·rw[(pA _).2 hn]at e;cases e
 have Qq:(q.pn).Perm p.pn:=by
  unfold Pg.pn
  have h1:q.procs.map (·.name)=(l.map Prod.snd).map (·.name):=by
   rw[vR,List.map_map,List.map_map]
   exact List.map_congr_left fun x m=>(hl3 x m).name
  rw[h1]
  exact ku.map _
 have ndq:(q.procs.map (·.name)).Nodup:=Qq.nodup_iff.2 nd
 have tpq:ff q.pn=false:=by
  cases e:ff q.pn with
  |false=>rfl
  |true=>exact absurd ndq ((pA _).1 e)
 have Q5 : ∀ g∈q.procs,∃ f∈p.procs,Pc.JI g f:=fun g m=>by
  rw[vR]at m
  obtain⟨x,hx,rfl⟩:=List.mem_map.1 m
  exact⟨x.2,ku.mem_iff.1 (List.mem_map_of_mem hx),hl3 x hx⟩
 have ofp : ∀ f∈p.procs,∃ g∈q.procs,Pc.JI g f:=fun f m=>by
  obtain⟨x,hx,rfl⟩:=List.mem_map.1 (ku.mem_iff.2 m)
  exact⟨x.1,by rw[vR];exact List.mem_map_of_mem hx,hl3 x hx⟩
 have fq : ∀ {nm:aK} {g:Pc},q.find nm=some g→∃ f,p.find nm=some f∧Pc.JI g f:=fun {nm g} e=>by
  obtain⟨h1,h2⟩:=(uh ndq).1 e
  obtain⟨f,hf,kV⟩:=Q5 g h1
  exact⟨f,(uh nd).2 ⟨hf,by rw[← kV.name];exact h2⟩,kV⟩
 have fp : ∀ {nm:aK} {f:Pc},p.find nm=some f→∃ g,q.find nm=some g∧Pc.JI g f:=fun {nm f} e=>by
  obtain⟨h1,h2⟩:=(uh nd).1 e
  obtain⟨g,nT,kV⟩:=ofp f h1
  exact⟨g,(uh ndq).2 ⟨nT,by rw[kV.name];exact h2⟩,kV⟩
 have has : ∀ x,fH q.pn x=fH p.pn x:=fun x=>by
  have h1:=fx q.pn x
  have h2:=fx p.pn x
  have h3:=Qq.mem_iff (a:=x)
  rw[Bool.eq_iff_iff,h1,h2,h3]
 have kind : ∀ {g f:Pc},Pc.JI g f→∀ n,g.j9 q n=f.j9 p n:=fun {g f} kV n=>by unfold Pc.j9;rw[kV.vars,kV.params,hg]
 have known : ∀ g∈q.procs,∀ v∈Sm.bH g.body,v.known q g q.pn=true:=fun g m v mv=>by
  obtain⟨f,hf,kV⟩:=Q5 g m
  obtain⟨u,hu,e⟩:=kV.st v mv
  have:=hp.known f hf u hu
  unfold Sm.known at this ⊢
  rw[has]
  simp only[kind kV]
  simp only[Bool.and_eq_true,Bool.not_eq_true',Bool.or_eq_true,bne_iff_ne,ne_eq]at this ⊢
  refine⟨?_, ?_⟩
  ·cases c:v.said.any fun n=>f.j9 p n==0 with
   |false=>rfl
   |true=>
    obtain⟨n,m1,m2⟩:=List.any_eq_true.1 c
    have h3:u.said.any (fun n=>f.j9 p n==0)=true:=List.any_eq_true.2 ⟨n,e.said n m1,m2⟩
    rw[this.1]at h3;cases h3
  ·by_cases hk:v.kind=4
   ·obtain⟨e1,e2,_,_⟩:=e.call hk
    right
    rcases this.2 with h|h
    ·exact absurd e1 h
    ·rw[← e2];exact h
   ·exact .inl hk
 have own : ∀ g∈q.procs,ff (q.globals++g.own)=false:=fun g m=>by
  obtain⟨f,hf,kV⟩:=Q5 g m
  have:=hp.own f hf
  unfold Pc.own Pc.tT at this ⊢
  rw[hg,kV.params,kV.vars];exact this
 have main:q.oW=false:=by
  have h1:=hp.main
  unfold Pg.oW at h1 ⊢
  cases e:p.find jb with
  |none=>rw[e]at h1;cases h1
  |some f=>
   rw[e]at h1
   obtain⟨g,nT,kV⟩:=fp e
   rw[nT]
   simpa only[kV.params]using h1
 have tg:ff q.globals=false:=by rw[hg];exact hp.tg
 have nq:q.scope=(0,0):=KQ hq tg tpq main fun g m=>⟨own g m,known g m⟩
 have aDs:(q.scope.1==0)=true:=by rw[nq];rfl
 have ajP:(p.scope.1==0)=true:=by rw[hp.scope];rfl
 -- who is called, what is touched
 have calls : ∀ x y,y∈p9 q x→y∈p9 p x:=fun x y m=>by
  unfold p9 at m ⊢
  cases e:q.find x with
  |none=>rw[e]at m;cases m
  |some g=>
   rw[e]at m
   obtain⟨f,hf,kV⟩:=fq e
   rw[hf]
   obtain⟨v,hv,h1,h2⟩:=Eb.1 m
   obtain⟨u,hu,e2⟩:=kV.st v hv
   have e3:=e2.call (by simpa using h1)
   refine Eb.2 ⟨u,hu, ?_, ?_⟩
   ·simpa using e3.1
   ·rw[e3.2.1];exact h2
 have work : ∀ {nm:aK} {f:Pc},p.find nm=some f→∀ x∈q.work nm,x∈p.work nm:=fun {nm f} hf x m=>by
  unfold Pg.work at m
  refine Ic (p:=q) (S:=fun x=>x∈p.work nm) (fun x hx y hy=>?_) _ _ _ (fun x hx=>?_) x m
  ·exact FH ajP _ _ _ (B2 hf) (by omega) (fun j x hj=>absurd hj (Nat.not_lt_zero _)) _ hx _ (calls x y hy)
  ·rw [List.mem_singleton]at hx
   subst hx
   exact NQ p _ _ _ (by simp)
 have body : ∀ n x,x∈sm (oY q n)→x∈sm (oY p n):=fun n x m=>by
  unfold oY at m ⊢
  cases e:q.find n with
  |none=>rw[e]at m;cases m
  |some g=>
   rw[e]at m
   obtain⟨f,hf,kV⟩:=fq e
   rw[hf]
   obtain⟨v,hv,h1⟩:=Es.1 m
   obtain⟨u,hu,e2⟩:=kV.st v hv
   exact Es.2 ⟨u,hu,e2.said _ h1⟩
 have adn : ∀ nm x,fH (q.nr nm) x=true→fH (p.nr nm) x=true:=fun nm x m=>by
  rw[fx]at m ⊢
  cases e:q.uU nm with
  |none=>unfold Pg.nr at m;rw[e]at m;cases m
  |some g=>
   obtain⟨_,eg⟩:=Ee e
   obtain⟨f,hf,kV⟩:=fq eg
   have ef:p.uU nm=some f:=by unfold Pg.uU;rw[if_pos ajP];exact hf
   rw[KM e]at m
   rw[KM ef]
   obtain⟨⟨n,hn,hx⟩,H5⟩:=m
   exact⟨⟨n,work hf n hn,body n x hx⟩,by rw[← hg];exact H5⟩
 have pre : ∀ v∈q.pre,∃ u∈p.pre,Cov u v:=fun v m=>by
  simp only[Pg.pre,List.mem_flatten,List.mem_map]at m
  obtain⟨_,⟨g,nT,rfl⟩,mv⟩:=m
  obtain⟨f,hf,kV⟩:=Q5 g nT
  obtain⟨u,hu,e⟩:=kV.st v mv
  exact⟨u,by simp only[Pg.pre,List.mem_flatten,List.mem_map];exact⟨_,⟨f,hf,rfl⟩,hu⟩,e⟩
 refine⟨hq,tg,tpq,main,own,known,fun g m=>?_,fun g m=>?_,fun v m hk=>?_,fun v m hk=>?_⟩
 ·obtain⟨f,hf,kV⟩:=Q5 g m
  exact kV.ln
 ·obtain⟨f,hf,kV⟩:=Q5 g m
  exact kV.leads
 ·obtain⟨u,hu,e⟩:=pre v m
  obtain⟨e1,e2,e3,e4⟩:=e.call (by simpa using hk)
  have:=hp.fits u hu (by simpa using e1)
  unfold Sm.pN at this ⊢
  rw[e2,e3,show(u.kind==4)=true by simpa using e1]at this
  rw[hk]
  simp only[Bool.true_and]at this ⊢
  cases e2:p.find v.proc with
  |none=>rw[e2]at this;cases this
  |some f=>
   rw[e2]at this
   obtain⟨g,nT,kV⟩:=fp e2
   rw[nT]
   simpa only[kV.params]using this
 ·obtain⟨u,hu,e⟩:=pre v m
  obtain⟨e1,e2,e3,e4⟩:=e.call (by simpa using hk)
  have:=hp.single u hu (by simpa using e1)
  unfold Sm.uX at this ⊢
  rw[e2,e3,e4]at this
  exact Ap (adn v.proc) this
end Go.Abs
