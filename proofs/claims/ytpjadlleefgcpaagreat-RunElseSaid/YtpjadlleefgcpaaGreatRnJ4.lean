/-
  What is proved here: part 4 of the road to the claim (RunI, Ev1, Ev2, Cp1, RunC0, RunC1, RunC2, RunC3, RunC4, RunC5, RunC6, RunC7, RunSt, RunSz, Jm3, Rj1, Ck1, RunC8, RunC9, RunL0, RunL1, RunTp, RunEv, RunWa, RunL2, LawRu2, MayLaw, MirNum, MayLaw2, MayLaw3, SubP, RunBi, RunLk, RunLk2, Cp2).
  No conditions.
-/
import Derived.Test.YtpjadlleefgcpaaGreatRnJ3

set_option linter.unusedSimpArgs false
set_option linter.unusedVariables false
namespace Go.Abs
structure Lay where
 κ:List Nat
 φ:List Nat
 sd:D
 vd:D
def D.arr:D→List Nat
 | .dK _ o _ _=> [o]
 |_=> []
def Lay.own (y:Lay):List Nat:=0::(y.κ++(y.sd.arr++y.vd.arr))
def ga (o:Nat):List D:= [.ptr o 0]
def qT (κ:List Nat) (f:Fr):List D:= [.int .i64 f.proc, .slice .shared 1 (f.names.map encStr), .slice .shared 1 (f.vars.map fun c=>ga (κ.getD c 0)), .int .i64 f.call]
def pP (e:Int×List Int):List D:= [.int .i64 e.1, .slice .shared 1 (e.2.map cO)]
abbrev gj (p:Pg) (T W:List Int) (y:Lay) (m:Mc):List D:=
 [.dS (gu p) 0, .slice .shared 1 ((y.κ.take p.globals.length).map ga), .slice .shared 1 (T.map cO), .slice .shared 1 (W.map cO),y.sd,y.vd,
  .int .i64 m.fin, .int .i64 m.steps, .int .i64 m.reads, .slice (.tok 0) 1 (m.out.map cO), .slice (.tok 1) 2 (m.trace.map pP)]
def sF (n:Int):D:= .int .i64 n
def Ae (o:Nat):D:= .ptr o 0
def kL (s:St) (d:D) (cs:List D):Prop:=(d = .fk 1∧cs = [])∨∃ o g more,d = .dK 1 o g cs.length∧s.al[o]? = some (.int .i64 ((g:Nat):Int)::(cs++more))
structure Inv (p:Pg) (T W:List Int) (y:Lay) (m:Mc) (loc:List (Nat×List D)) (s:St):Prop where
 kM:s.al[0]? = some (gj p T W y m)
 t0:s.aA[0]? = some (some m.out.length)
 t1:s.aA[1]? = some (some m.trace.length)
 len:y.κ.length=m.mem.length
 cell : ∀ (i c:Nat) (v:Int),y.κ[i]? = some c→m.mem[i]? = some v→s.al[c]? = some [.int .i64 v]
 uV:y.φ.length=m.st.length
 frame : ∀ (i o:Nat) (fr:Fr),y.φ[i]? = some o→m.st[i]? = some fr→s.al[o]? = some (qT y.κ fr)∧o∉y.own∧∀ c∈fr.vars,c<m.mem.length
 stack:kL s y.sd (y.φ.reverse.map Ae)
 bJ : ∃ l:List Int,kL s y.vd (l.map sF)
 own:y.own.Nodup
 loc : ∀ q∈loc,s.al[q.1]? = some q.2∧q.1∉y.own
theorem kL.lt {s:St} {d:D} {cs:List D} (h:kL s d cs) : ∀ o∈d.arr,o<s.al.length:=by
 rcases h with ⟨rfl,_⟩|⟨o,g,more,rfl,h⟩
 ·intro o m;simp[D.arr]at m
 ·intro o' m
  have:o'=o:=by simpa[D.arr]using m
  subst this;exact ib h
theorem kL.keep {s s':St} {d:D} {cs:List D} (h:kL s d cs) (k : ∀ o∈d.arr,s'.al[o]? = s.al[o]?):kL s' d cs:=by
 rcases h with h|⟨o,g,more,rfl,h⟩
 ·exact .inl h
 ·exact .inr ⟨o,g,more,rfl,by rw[k o (by simp[D.arr])];exact h⟩
theorem KS {κ e:List Nat} {fr:Fr} (h : ∀ c∈fr.vars,c<κ.length):qT (κ++e) fr=qT κ fr:=by
 unfold qT
 rw[List.map_congr_left (g:=fun c=>ga (κ.getD c 0)) fun c m=>by rw[List.getD_eq_getElem?_getD,List.getD_eq_getElem?_getD,List.getElem?_append_left (h c m)]]
section
variable {p:Pg} {T W:List Int} {y:Lay} {m:Mc} {loc:List (Nat×List D)} {s:St}
theorem Inv.vT (h:Inv p T W y m loc s) : ∀ o∈y.own,o<s.al.length:=by
 intro o mo
 simp only[Lay.own,List.mem_cons,List.mem_append]at mo
 rcases mo with rfl|mo|mo|mo
 ·exact ib h.kM
 ·obtain⟨i,hi⟩:=List.getElem?_of_mem mo
  have hD:=(List.getElem?_eq_some_iff.1 hi).1
  exact ib (h.cell i o _ hi (List.getElem?_eq_getElem (by rw[← h.len];exact hD)))
 ·exact h.stack.lt o mo
 ·obtain⟨l,hl⟩:=h.bJ
  exact hl.lt o mo
theorem Inv.wO (h:Inv p T W y m loc s):0<s.al.length:=ib h.kM
theorem Inv.sub (h:Inv p T W y m loc s) {aiz:List (Nat×List D)} (hl : ∀ q∈aiz,q∈loc):Inv p T W y m aiz s:= {h with loc:=fun q m=>h.loc q (hl q m)}
theorem Inv.keep (h:Inv p T W y m loc s) {s':St} (k : ∀ (o:Nat) (r:List D),s.al[o]? = some r→s'.al[o]? = some r) (k0:s'.aA[0]? = s.aA[0]?) (k1:s'.aA[1]? = s.aA[1]?):Inv p T W y m loc s':=by
 have ka : ∀ {d:D} {cs:List D},kL s d cs→kL s' d cs:=fun ha=>ha.keep fun o mo=>by
  rw[List.getElem?_eq_getElem (ha.lt o mo)];exact k o _ (List.getElem?_eq_getElem _)
 obtain⟨l,hl⟩:=h.bJ
 exact⟨k _ _ h.kM,by rw[k0];exact h.t0,by rw[k1];exact h.t1,h.len,fun i c v h1 h2=>k _ _ (h.cell i c v h1 h2),h.uV,fun i o fr h1 h2=>⟨k _ _ (h.frame i o fr h1 h2).1,(h.frame i o fr h1 h2).2⟩,
  ka h.stack,⟨l,ka hl⟩,h.own,fun q m=>⟨k _ _ (h.loc q m).1,(h.loc q m).2⟩⟩
theorem Inv.new (h:Inv p T W y m loc s) (row:List D):Inv p T W y m ((s.al.length,row)::loc) ⟨s.al++ [row],s.aA⟩:=by
 have h':=h.keep (s':=⟨s.al++ [row],s.aA⟩) (fun o r e=>by rw[List.getElem?_append_left (ib e)];exact e) rfl rfl
 refine {h' with loc:=fun q mq=>?_}
 rcases List.mem_cons.1 mq with rfl|mq
 ·exact⟨by simp,fun mo=>Nat.lt_irrefl _ (h.vT _ mo)⟩
 ·exact h'.loc q mq
theorem Inv.aA (h:Inv p T W y m loc s) (ts:List (Option Nat)):Inv p T W y m loc ⟨s.al,s.aA++ts⟩:=
 h.keep (fun _ _ e=>e) (List.getElem?_append_left (List.getElem?_eq_some_iff.1 h.t0).1) (List.getElem?_append_left (List.getElem?_eq_some_iff.1 h.t1).1)
theorem Inv.QU (h:Inv p T W y m loc s) {o:Nat} (ho:o∈y.own) (row:List D) {q:Nat} {r:List D} (hq:s.al[q]? = some r) (hn:q≠o):(s.al.set o row)[q]? = some r:=by
 rw[List.getElem?_set_ne (Ne.symm hn)];exact hq
theorem Inv.x7 (h:Inv p T W y m loc s) {o:Nat} (ho:o∈y.κ++(y.sd.arr++y.vd.arr)):o≠0:=fun e=>by
 have:=h.own
 rw[Lay.own,List.nodup_cons]at this
 exact this.1 (e ▸ ho)
theorem Inv.wb (h:Inv p T W y m loc s) {m':Mc} (h1:m'.st=m.st) (h2:m'.mem=m.mem) {ts:List (Option Nat)} (k0:ts[0]? = some (some m'.out.length)) (k1:ts[1]? = some (some m'.trace.length)) :
 Inv p T W y m' loc ⟨s.al.set 0 (gj p T W y m'),ts⟩:=by
 have ne : ∀ {q:Nat} {r:List D},s.al[q]? = some r→q≠0→(s.al.set 0 (gj p T W y m'))[q]? = some r:=fun e hn=>h.QU (by simp[Lay.own]) _ e hn
 have nf : ∀ {q:Nat},q∉y.own→q≠0:=fun hq e=>hq (by rw[e];simp[Lay.own])
 have ka : ∀ {d:D} {cs:List D},(∀ o∈d.arr,o∈y.κ++(y.sd.arr++y.vd.arr))→kL s d cs→kL ⟨s.al.set 0 (gj p T W y m'),ts⟩ d cs:=fun hd ha=>ha.keep fun o mo=>by
  show(s.al.set 0 _)[o]? = _
  rw[List.getElem?_set_ne (Ne.symm (h.x7 (hd o mo)))]
 obtain⟨l,hl⟩:=h.bJ
 refine⟨by simp[h.wO],k0,k1,by rw[h2];exact h.len,fun i c v e1 e2=>ne (h.cell i c v e1 (by rw[← h2];exact e2)) (h.x7 (List.mem_append_left _ (List.mem_of_getElem? e1))),by rw[h1];exact h.uV,fun i o fr e1 e2=>?_,
  ka (fun o m=>by simp[m]) h.stack,⟨l,ka (fun o m=>by simp[m]) hl⟩,h.own,fun q mq=>⟨ne (h.loc q mq).1 (nf (h.loc q mq).2),(h.loc q mq).2⟩⟩
 rw[h1]at e2
 obtain⟨g1,g2,g3⟩:=h.frame i o fr e1 e2
 exact⟨ne g1 (nf g2),g2,by rw[h2];exact g3⟩
theorem Inv.aad (h:Inv p T W y m loc s) {i c:Nat} (hc:y.κ[i]? = some c) (v:Int):Inv p T W y {m with mem:=m.mem.set i v} loc ⟨s.al.set c [.int .i64 v],s.aA⟩:=by
 have iO:c∈y.κ:=List.mem_of_getElem? hc
 have nu:c<s.al.length:=h.vT c (by simp[Lay.own,iO])
 have CG:=h.own
 rw[Lay.own,List.nodup_cons,List.nodup_append]at CG
 have hκ : ∀ i',y.κ[i']? = some c→i'=i:=fun i' e=>(List.getElem?_inj (List.getElem?_eq_some_iff.1 e).1 CG.2.1).1 (e.trans hc.symm)
 have ne : ∀ {q:Nat} {r:List D},s.al[q]? = some r→q≠c→(s.al.set c [.int .i64 v])[q]? = some r:=fun e hn=>h.QU (o:=c) (by simp[Lay.own,iO]) _ e hn
 have nf : ∀ {q:Nat},q∉y.own→q≠c:=fun hq e=>hq (by rw[e];simp[Lay.own,iO])
 have ka : ∀ {d:D} {cs:List D},(∀ o∈d.arr,o∈y.sd.arr++y.vd.arr)→kL s d cs→kL ⟨s.al.set c [.int .i64 v],s.aA⟩ d cs:=fun hd ha=>ha.keep fun o mo=>by
  show(s.al.set c _)[o]? = _
  rw[List.getElem?_set_ne (fun e=>CG.2.2.2 c iO o (hd o mo) e)]
 obtain⟨l,hl⟩:=h.bJ
 refine⟨ne h.kM (fun e=>h.x7 (List.mem_append_left _ iO) e.symm),h.t0,h.t1,by rw[h.len,List.length_set],fun i' c' v' e1 e2=>?_,h.uV,fun i' o fr e1 e2=>?_,
  ka (fun o m=>by simp[m]) h.stack,⟨l,ka (fun o m=>by simp[m]) hl⟩,h.own,fun q mq=>⟨ne (h.loc q mq).1 (nf (h.loc q mq).2),(h.loc q mq).2⟩⟩
 ·show(s.al.set c _)[c']? = _
  simp only[List.getElem?_set]at e2
  by_cases e:i=i'
  ·subst e
   rw[hc]at e1;cases e1
   rw[if_pos rfl]at e2
   split at e2
   ·cases e2;simp[nu]
   ·cases e2
  ·rw [if_neg e]at e2
   have:c'≠c:=fun ec=>e (hκ i' (by rw[e1,ec])).symm
   exact ne (h.cell i' c' v' e1 e2) this
 ·obtain⟨g1,g2,g3⟩:=h.frame i' o fr e1 e2
  exact⟨ne g1 (nf g2),g2,by simpa using g3⟩
theorem Inv.at7 (h:Inv p T W y m loc s) (v:Int) (hg:p.globals.length≤m.mem.length):Inv p T W {y with κ:=y.κ++ [s.al.length]} {m with mem:=m.mem++ [v]} loc ⟨s.al++ [[.int .i64 v]],s.aA⟩:=by
 have h':=h.keep (s':=⟨s.al++ [[.int .i64 v]],s.aA⟩) (fun o r e=>by rw[List.getElem?_append_left (ib e)];exact e) rfl rfl
 have pG:s.al.length∉y.own:=fun mo=>Nat.lt_irrefl _ (h.vT _ mo)
 have CG:=h.own
 have ho : ∀ o,o∈Lay.own {y with κ:=y.κ++ [s.al.length]}→o∈y.own∨o=s.al.length:=fun o mo=>by
  simp only[Lay.own,List.mem_cons,List.mem_append]at mo ⊢
  rcases mo with rfl|(mo|rfl|mo)|mo|mo
  ·exact .inl (.inl rfl)
  ·exact .inl (.inr (.inl mo))
  ·exact .inr rfl
  ·cases mo
  ·exact .inl (.inr (.inr (.inl mo)))
  ·exact .inl (.inr (.inr (.inr mo)))
 refine⟨by rw[h'.kM];simp only[gj];rw[List.take_append_of_le_length (by rw[h.len];exact hg)],h'.t0,h'.t1,by simp[h.len],fun i c v' e1 e2=>?_,h'.uV,fun i o fr e1 e2=>?_,h'.stack,h'.bJ, ?_,fun q mq=>⟨(h'.loc q mq).1,fun mo=>?_⟩⟩
 ·rcases Nat.lt_or_ge i y.κ.length with hi | hi
  ·rw [List.getElem?_append_left hi]at e1
   rw[List.getElem?_append_left (by rw[← h.len];exact hi)]at e2
   exact h'.cell i c v' e1 e2
  ·have iI:i=y.κ.length:=by
    have:=(List.getElem?_eq_some_iff.1 e1).1
    simp at this;omega
   subst iI
   rw[List.getElem?_append_right (Nat.le_refl _)]at e1
   rw[List.getElem?_append_right (by rw[h.len];exact Nat.le_refl _)]at e2
   simp at e1;subst e1
   simp[h.len]at e2;subst e2
   simp
 ·obtain⟨g1,g2,g3⟩:=h'.frame i o fr e1 e2
  refine⟨by rw[KS (by rw[h.len];exact g3)];exact g1,fun mo=>?_,fun c mc=>by simp only[List.length_append];have:=g3 c mc;omega⟩
  rcases ho o mo with mo|rfl
  ·exact g2 mo
  ·exact absurd (ib (h.frame i _ fr e1 e2).1) (Nat.lt_irrefl _)
 ·have:(Lay.own {y with κ:=y.κ++ [s.al.length]}).Perm (s.al.length::y.own):=by
   simp only[Lay.own,List.append_assoc,List.singleton_append]
   exact(List.Perm.cons _ List.perm_middle).trans (List.Perm.swap _ _ _)
  rw[this.nodup_iff,List.nodup_cons]
  exact⟨pG,CG⟩
 ·rcases ho _ mo with mo | e
  ·exact(h'.loc q mq).2 mo
  ·exact absurd (ib (h.loc q mq).1) (by rw[e];exact Nat.lt_irrefl _)
theorem Inv.TI (h:Inv p T W y m loc s) {vd:D} {s1:St} (k : ∀ (o:Nat) (r:List D),s.al[o]? = some r→o∉y.vd.arr→s1.al[o]? = some r) (hv : ∃ l:List Int,kL s1 vd (l.map sF)) (hn:vd.arr=y.vd.arr∨vd.arr = []∨vd.arr = [s.al.length]) (ht:s1.aA=s.aA) :
 Inv p T W {y with vd:=vd} m loc ⟨s1.al.set 0 (gj p T W {y with vd:=vd} m),s1.aA⟩:=by
 have CG:=h.own
 have aiA:=CG
 rw[Lay.own,List.nodup_cons,List.nodup_append,List.nodup_append]at aiA
 obtain⟨n0,nκ,⟨ns,nv,nsv⟩,N2⟩:=aiA
 have v0 : ∀ o∈y.vd.arr,o≠0:=fun o mo=>h.x7 (by simp[mo])
 have sJ:0<s1.al.length:=ib (k 0 _ h.kM fun mo=>v0 0 mo rfl)
 have g : ∀ {o:Nat} {r:List D},s.al[o]? = some r→o∉y.vd.arr→o≠0→(s1.al.set 0 (gj p T W {y with vd:=vd} m))[o]? = some r:=fun e hv hn=>by
  rw[List.getElem?_set_ne (Ne.symm hn)];exact k _ _ e hv
 have N3 : ∀ o,o∈Lay.own {y with vd:=vd}→o∈y.own∨o=s.al.length:=fun o mo=>by
  simp only[Lay.own,List.mem_cons,List.mem_append]at mo ⊢
  rcases mo with rfl|mo|mo|mo
  ·exact .inl (.inl rfl)
  ·exact .inl (.inr (.inl mo))
  ·exact .inl (.inr (.inr (.inl mo)))
  ·rcases hn with e | e | e
   ·rw[e]at mo;exact .inl (.inr (.inr (.inr mo)))
   ·rw[e]at mo;cases mo
   ·rw[e]at mo;exact .inr (List.mem_singleton.1 mo)
 have nk : ∀ o∈y.κ,o∉y.vd.arr:=fun o mo mv=>N2 o mo o (List.mem_append_right _ mv) rfl
 have nsd : ∀ o∈y.sd.arr,o∉y.vd.arr:=fun o mo mv=>nsv o mo o mv rfl
 have nfr : ∀ {o:Nat},o∉y.own→o∉y.vd.arr∧o≠0:=fun ho=>⟨fun mv=>ho (by simp[Lay.own,mv]),fun e=>ho (by rw[e];simp[Lay.own])⟩
 obtain⟨l,hl⟩:=hv
 refine⟨by simp[sJ],by rw[ht];exact h.t0,by rw[ht];exact h.t1,h.len,fun i c v e1 e2=>g (h.cell i c v e1 e2) (nk c (List.mem_of_getElem? e1)) (h.x7 (by simp[List.mem_of_getElem? e1])),h.uV,fun i o fr e1 e2=>?_, ?_,⟨l, ?_⟩, ?_,fun q mq=>?_⟩
 ·obtain⟨f1,f2,f3⟩:=h.frame i o fr e1 e2
  refine⟨g f1 (nfr f2).1 (nfr f2).2,fun mo=>?_,f3⟩
  rcases N3 o mo with mo|e
  ·exact f2 mo
  ·exact absurd (ib f1) (by rw[e];exact Nat.lt_irrefl _)
 ·refine h.stack.keep fun o mo=> ?_
  rw[List.getElem?_eq_getElem (h.stack.lt o mo)]
  exact g (List.getElem?_eq_getElem _) (nsd o mo) (h.x7 (by simp[mo]))
 ·refine hl.keep fun o mo=> ?_
  have:o≠0:=by
   rcases hn with e|e|e
   ·rw[e]at mo;exact v0 o mo
   ·rw[e]at mo;cases mo
   ·rw[e]at mo;rw[List.mem_singleton.1 mo];have:=h.wO;omega
  show(s1.al.set 0 _)[o]? = _
  rw[List.getElem?_set_ne (Ne.symm this)]
 ·rcases hn with e | e | e
  ·simp only[Lay.own,e];exact CG
  ·simp only [Lay.own,e,List.append_nil]
   rw[List.nodup_cons,List.nodup_append]
   exact⟨fun m=>n0 (by rcases List.mem_append.1 m with m|m<;>simp[m]),nκ,ns,fun a ma b mb=>N2 a ma b (List.mem_append_left _ mb)⟩
  ·simp only [Lay.own,e]
   have dB : ∀ o∈y.own,o≠s.al.length:=fun o mo e=>by have:=h.vT o mo;omega
   rw[List.nodup_cons,List.nodup_append,List.nodup_append]
   refine⟨fun m=>?_,nκ,⟨ns,by simp,fun a ma b mb=>?_⟩,fun a ma b mb=>?_⟩
   ·rcases List.mem_append.1 m with m | m
    ·exact n0 (by simp[m])
    ·rcases List.mem_append.1 m with m | m
     ·exact n0 (by simp[m])
     ·have:=List.mem_singleton.1 m;have:=h.wO;omega
   ·rw[List.mem_singleton.1 mb];exact dB a (by simp[Lay.own,ma])
   ·rcases List.mem_append.1 mb with mb | mb
    ·exact N2 a ma b (List.mem_append_left _ mb)
    ·rw[List.mem_singleton.1 mb];exact dB a (by simp[Lay.own,ma])
 ·obtain⟨f1,f2⟩:=h.loc q mq
  refine⟨g f1 (nfr f2).1 (nfr f2).2,fun mo=>?_⟩
  rcases N3 q.1 mo with mo|e
  ·exact f2 mo
  ·exact absurd (ib f1) (by rw[e];exact Nat.lt_irrefl _)
end
end Go.Abs
namespace Go.Abs
set_option maxRecDepth 8000
open Go.Proofs
theorem TJ (b:Bool) (s:St):aH Tryz.prog kF [.bool b] s (.int .i64 (uS b)) s:=by
 refine aH.pure ?_ rfl rfl s
 generalize h:uS b=R
 simp only[uS]at h
 unfold S0
 refine aH.go Ng rfl fun B Q hB hQ=>?_
 have⟨hD,gA,gB,gC⟩:=bX
 repeat' (first
 |simp only[go_sem,hD,gA,gB,gC]
 |(with_reducible first|refine bq fun hc=>?_|refine br fun hc=>?_|refine bt (fun hc=>?_) fun hc=>?_)<;>(try simp only[hc,bs,↓reduceIte]at h)<;>try simp only[hc]
 |(with_reducible refine aJ hQ ?_;exact fU)
 |(cases h;done))
theorem aeN (a:Int) (s:St):aH Tryz.prog tA [.int .i64 a] s (.bool (!(a==0))) s:=by
 refine aH.pure ?_ rfl rfl s
 have e:(a != 0) = !(a==0):=rfl
 unfold S0
 refine aH.go Jn rfl fun B Q hB hQ=>?_
 have⟨hD,gA,gB,gC⟩:=bX
 repeat' (first
 |simp only[go_sem,hD,gA,gB,gC,e]
 |(with_reducible first|refine bq fun hc=>?_|refine br fun hc=>?_|refine bt (fun hc=>?_) fun hc=>?_)<;>(try simp only[hc,bs,↓reduceIte]at h)<;>try simp only[hc]
 |(with_reducible refine aJ hQ ?_;(try cases h);simp only[bh,bk,bO,bP,go_sem,hD,gA,gB,gC,e];try exact cJ)
 |(cases h;done))
abbrev Cd (r:Int×Bool):D:= .tuple [.int .i64 r.1, .bool r.2]
theorem amo (op a:Int) (s:St):aH Tryz.prog BE [.int .i64 op, .int .i64 a] s (Cd (Tx op a)) s:=by
 refine aH.pure ?_ rfl rfl s
 generalize h:Tx op a=R
 simp only[Tx,H8]at h
 unfold S0
 refine aH.go Nd rfl fun B Q hB hQ=>?_
 have⟨hD,gA,gB,gC⟩:=bX
 repeat' (first
 |simp only[go_sem,hD,gA,gB,gC]
 |(with_reducible refine CU (TJ _ _) ?_)
 |(with_reducible first|refine bq fun hc=>?_|refine br fun hc=>?_|refine bt (fun hc=>?_) fun hc=>?_)<;>(try simp only[hc,bs,↓reduceIte]at h)<;>try simp only[hc]
 |(with_reducible refine aJ hQ ?_;exact fU)
 |(cases h;done))
theorem aae (op a b:Int) (s:St):aH Tryz.prog wu [.int .i64 op, .int .i64 a, .int .i64 b] s (Cd (Ty op a b)) s:=by
 refine aH.pure ?_ rfl rfl s
 generalize h:Ty op a b=R
 simp only[Ty,H8]at h
 unfold S0
 rcases Bool.eq_false_or_eq_true (b==0)with b0|b0
 ·refine aH.go yR rfl fun B Q hB hQ=> ?_
  have⟨hD,gA,gB,gC⟩:=bX
  repeat' (first
 |simp only[go_sem,hD,gA,gB,gC]
 |(with_reducible first|refine bq fun hc=>?_|refine br fun hc=>?_|refine bt (fun hc=>?_) fun hc=>?_)<;>(try simp only[hc,bs,↓reduceIte]at h)<;>try simp only[hc]
 |(with_reducible refine aJ hQ ?_;exact fU)
 |(cases h;done))
 ·have hb:b≠0:=by simpa using b0
  refine aH.go yR rfl fun B Q hB hQ=>?_
  have⟨hD,gA,gB,gC⟩:=bX
  repeat' (first
 |simp only[go_sem,hD,gA,gB,gC,hb]
 |(with_reducible first|refine bq fun hc=>?_|refine br fun hc=>?_|refine bt (fun hc=>?_) fun hc=>?_)<;>(try simp only[hc,bs,↓reduceIte]at h)<;>try simp only[hc]
 |(with_reducible refine aJ hQ ?_;(try cases h);simp only[bh,bk,bO,bP,go_sem,hD,gA,gB,gC,hb];try exact cJ)
 |(cases h;done))
theorem WV (op a b:Int) (s:St):aH Tryz.prog uM [.int .i64 op, .int .i64 a, .int .i64 b] s (Cd (Tz op a b)) s:=by
 refine aH.pure ?_ rfl rfl s
 have e:(a != b) = !(a==b):=rfl
 generalize h:Tz op a b=R
 simp only[Tz]at h
 unfold S0
 refine aH.go Gc rfl fun B Q hB hQ=>?_
 have⟨hD,gA,gB,gC⟩:=bX
 repeat' (first
 |simp only[go_sem,hD,gA,gB,gC,e]
 |(with_reducible refine CU (TJ _ _) ?_)
 |(with_reducible first|refine bq fun hc=>?_|refine br fun hc=>?_|refine bt (fun hc=>?_) fun hc=>?_)<;>(try simp only[hc,bs,↓reduceIte]at h)<;>try simp only[hc]
 |(with_reducible refine aJ hQ ?_;(try cases h);simp only[bh,bk,bO,bP,go_sem,hD,gA,gB,gC,e];try exact cJ)
 |(cases h;done))
theorem amp (op a b:Int) (s:St):aH Tryz.prog BF [.int .i64 op, .int .i64 a, .int .i64 b] s (Cd (TA op a b)) s:=by
 refine aH.pure ?_ rfl rfl s
 have e1:(a != 0) = !(a==0):=rfl
 have e2:(b != 0) = !(b==0):=rfl
 generalize h:TA op a b=R
 simp only[TA,H8]at h
 unfold S0
 refine aH.go Nf rfl fun B Q hB hQ=>?_
 have⟨hD,gA,gB,gC⟩:=bX
 repeat' (first
 |simp only[go_sem,hD,gA,gB,gC,e1,e2]
 |(with_reducible refine CU (TJ _ _) ?_)
 |(with_reducible refine CU (aae _ _ _ _) ?_)
 |(with_reducible refine CU (WV _ _ _ _) ?_)
 |(with_reducible first|refine bq fun hc=>?_|refine br fun hc=>?_|refine bt (fun hc=>?_) fun hc=>?_)<;>(try simp only[hc,bs,↓reduceIte]at h)<;>try simp only[hc]
 |(with_reducible refine aJ hQ ?_;(try cases h);simp only[bh,bk,bO,bP,go_sem,hD,gA,gB,gC,e1,e2];try exact cJ)
 |(cases h;done))
def x9 (x:Int) (k:Int):List Int→Int
 | []=> -1
 |s::l=>if x==s then k else x9 x (k+1) l
theorem Qr (x:Int) : ∀ (l:List Int) (k:Int),0≤k→(x9 x k l≥0↔l.contains x=true)
 | [],k,h=>by simp[x9]
 | s::l,k,h=>by
  by_cases e:x=s
  ·simp[x9,e];omega
  ·have e':(x==s)=false:=by simp [e]
   simp only[x9,e',Bool.false_eq_true,if_false,List.contains_cons,Bool.false_or]
   exact Qr x l (k+1) (by omega)
theorem aaf {l:List Int} (hl:l.length<4611686018427387904) (x:Int) (s:St):aH Tryz.prog qK [.slice .shared 1 (l.map cO), .int .i64 x] s (.int .i64 (x9 x 0 l)) s:=by
 refine aH.pure ?_ (by simp[D.bM,D.ok,Tag.ok,ju]) rfl s
 generalize h:x9 x 0 l=p
 unfold S0
 refine aH.go BM rfl fun B Q hB hQ=>?_
 have⟨hD,gA,gB,gC⟩:=bX
 repeat' (first
 |simp only[go_sem,hD,gA,gB,gC]
 |(with_reducible first|refine bq fun hc=>?_|refine br fun hc=>?_|refine bt (fun hc=>?_) fun hc=>?_)<;>(try simp only[hc,bs,↓reduceIte]at h)<;>try simp only[hc]
 |(with_reducible refine aJ hQ ?_;exact fU)
 |(cases h;done))
 refine fI 0 0 (bp.ind (ι:=List Int×Nat) (fun i=>l.drop i.2=i.1∧x9 x (i.2:Int) i.1=p) (fun i=>i.1.length)
  (fun i=> [(0, .slice .shared 1 (l.map cO)),(1, .int .i64 x),(7, .int .i64 (l.length:Int)),(8, .int .i64 (i.2:Int))]) (fun i=>⟨[],[]⟩) ?_ (l,0) ⟨rfl,h⟩)
 rintro⟨rest,k⟩ ⟨h1,h⟩ IH
 dsimp only at h1 h
 cases rest with
 |nil=>
  have hD:=drop_nil h1
  simp only[x9]at h
  repeat' (first
 |simp only[go_sem,hD,gA,gB,gC]
 |(with_reducible first|refine bq fun hc=>?_|refine br fun hc=>?_|refine bt (fun hc=>?_) fun hc=>?_)<;>(try simp only[hc,bs,↓reduceIte]at h)<;>try simp only[hc]
 |(with_reducible refine aJ hQ ?_;exact fU)
 |(cases h;done))
 |cons a rest=>
  obtain⟨gA,g2,hD,g4⟩:=drop_cons h1
  have ct:k<4611686018427387904:=by omega
  simp only[x9]at h
  repeat' (first
 |simp only[go_sem,hD,gA,gB,gC]
 |(with_reducible first|refine bq fun hc=>?_|refine br fun hc=>?_|refine bt (fun hc=>?_) fun hc=>?_)<;>(try simp only[hc,bs,↓reduceIte]at h)<;>try simp only[hc]
 |(with_reducible refine aJ hQ ?_;exact fU)
 |(cases h;done))
  refine fm 0 0 ?_ ?_ (IH (rest,k+1) ⟨g2,h⟩ (Nat.lt_succ_self _))
  ·(simp only[go_sem,hD,gA,gB,gC,aM ct];try exact cd)
  ·(simp only[go_sem,hD,gA,gB,gC,aM ct];try exact cd)
theorem Pv {l:List Int} (hl:l.length<4611686018427387904) (x:Int) (s:St):aH Tryz.prog oP [.slice .shared 1 (l.map cO), .int .i64 x] s (.bool (l.contains x)) s:=by
 refine aH.pure ?_ (by simp[D.bM,D.ok,Tag.ok,ju]) rfl s
 have hi:=fun s=>aaf hl x s
 have e:decide (x9 x 0 l≥0)=l.contains x:=by
  have:=Qr x l 0 (Int.le_refl 0)
  cases h:l.contains x<;>simp_all
 unfold S0
 refine aH.go yp rfl fun B Q hB hQ=>?_
 have⟨hD,gA,gB,gC⟩:=bX
 repeat' (first
 |simp only[go_sem,hD,gA,gB,gC,e]
 |(with_reducible refine CU (hi _) ?_)
 |(with_reducible first|refine bq fun hc=>?_|refine br fun hc=>?_|refine bt (fun hc=>?_) fun hc=>?_)<;>(try simp only[hc,bs,↓reduceIte]at h)<;>try simp only[hc]
 |(with_reducible refine aJ hQ ?_;(try cases h);simp only[bh,bk,bO,bP,go_sem,hD,gA,gB,gC,e];try exact cJ)
 |(cases h;done))
theorem oD (names:List aK) (bJ:List Int) (op n:Int) (name:aK) (kids:List Ex):Ex.val names bJ ⟨op,n,name,kids⟩=if op==1 then(n,true)else if op==2 then(TB name names bJ,true)else H9 op (kids.map (Ex.val names bJ)):=by
 have e : ∀ l:List Ex,Ex.NG names bJ l=l.map (Ex.val names bJ):=fun l=>by
  induction l with
  |nil=>rfl
  |cons x l ih=>simp only[Ex.NG,List.map_cons,ih]
 simp only[Ex.val,e]
theorem aiB {names:List aK} {bJ:List Int} (hn:names.length<4611686018427387904) (hv:bJ.length<4611686018427387904) : ∀ (n:Nat) (x:Ex),x.dp (n:Int)=true→
 aH Tryz.prog mE [.agg (cb x), .slice .shared 1 (names.map encStr), .slice .shared 1 (bJ.map cO)] S0 (Cd (x.val names bJ)) S0:=by
 intro n
 induction n with
 |zero=>rintro⟨op,v,name,kids⟩ h;rw[Nq]at h;omega
 | succ n ih=>
  rintro⟨op,v,name,kids⟩ h
  rw[Nq]at h
  obtain⟨_,hk,h⟩:=h
  have Nv:=fun s=>EM hn name s
  generalize hR:Ex.val names bJ ⟨op,v,name,kids⟩=R
  rw[oD]at hR
  unfold S0
  by_cases o1:op=1
  ·subst o1
   simp only[beq_self_eq_true,if_true]at hR
   rw[← hR]
   show aH Tryz.prog mE _ _ (.tuple [.int .i64 v, .bool true]) _
   refine aH.go qd rfl fun B Q hB hQ=>?_
   have⟨hD,gA,gB,gC⟩:=bX
   repeat' (first
 |simp only[go_sem,hD,gA,gB,gC,beq_self_eq_true]
 |(with_reducible first|refine bq fun hc=>?_|refine br fun hc=>?_|refine bt (fun hc=>?_) fun hc=>?_)<;>(try simp only[hc,bs,↓reduceIte]at h)<;>try simp only[hc]
 |(with_reducible refine aJ hQ ?_;(try cases h);simp only[bh,bk,bO,bP,go_sem,hD,gA,gB,gC,beq_self_eq_true];try exact cJ)
 | (cases h;done))
  rw[if_neg o1]at h
  have b1:(op==1)=false:=by simp[o1]
  by_cases o2:op=2
  ·subst o2
   simp only[b1,Bool.false_eq_true,if_false,beq_self_eq_true,if_true,TB]at hR
   by_cases hi:j7 name 0 names≥0
   ·obtain⟨j,hj⟩:=Int.eq_ofNat_of_zero_le hi
    rw[if_pos hi]at hR
    have b2:decide (j7 name 0 names≥0)=true:=by simpa using hi
    rw[hj]at b2 hR
    rw[hj]at Nv
    rcases Nat.lt_or_ge j bJ.length with hl|hl
    ·have b3:decide ((j:Int)<(bJ.length:Int))=true:=by simp [hl]
     have hg:bJ[j]? = some (bJ.getD j 0):=by rw[List.getD_eq_getElem?_getD,List.getElem?_eq_getElem hl];rfl
     rw[Int.toNat_natCast]at hR
     rw[← hR]
     show aH Tryz.prog mE _ _ (.tuple [.int .i64 (bJ.getD j 0), .bool true]) _
     refine aH.go qd rfl fun B Q hB hQ=>?_
     have⟨hD,gA,gB,gC⟩:=bX
     repeat' (first
 |simp only[go_sem,hD,gA,gB,gC,b1,b2,b3,hg,beq_self_eq_true,decide_true]
 |(with_reducible refine CU (Nv _) ?_)
 |(with_reducible first|refine bq fun hc=>?_|refine br fun hc=>?_|refine bt (fun hc=>?_) fun hc=>?_)<;>(try simp only[hc,bs,↓reduceIte]at h)<;>try simp only[hc]
 |(with_reducible refine aJ hQ ?_;(try cases h);simp only[bh,bk,bO,bP,go_sem,hD,gA,gB,gC,b1,b2,b3,hg,beq_self_eq_true,decide_true];try exact cJ)
 | (cases h;done))
    ·have b3:decide ((j:Int)<(bJ.length:Int))=false:=by simp;omega
     rw[Int.toNat_natCast,List.getD_eq_getElem?_getD,List.getElem?_eq_none hl,Option.getD_none]at hR
     rw[← hR]
     show aH Tryz.prog mE _ _ (.tuple [.int .i64 0, .bool true]) _
     refine aH.go qd rfl fun B Q hB hQ=>?_
     have⟨hD,gA,gB,gC⟩:=bX
     repeat' (first
 |simp only[go_sem,hD,gA,gB,gC,b1,b2,b3,beq_self_eq_true,decide_true]
 |(with_reducible refine CU (Nv _) ?_)
 |(with_reducible first|refine bq fun hc=>?_|refine br fun hc=>?_|refine bt (fun hc=>?_) fun hc=>?_)<;>(try simp only[hc,bs,↓reduceIte]at h)<;>try simp only[hc]
 |(with_reducible refine aJ hQ ?_;(try cases h);simp only[bh,bk,bO,bP,go_sem,hD,gA,gB,gC,b1,b2,b3,beq_self_eq_true,decide_true];try exact cJ)
 | (cases h;done))
   ·rw [if_neg hi]at hR
    have b2:decide (j7 name 0 names≥0)=false:=by simpa using hi
    rw[← hR]
    show aH Tryz.prog mE _ _ (.tuple [.int .i64 0, .bool true]) _
    refine aH.go qd rfl fun B Q hB hQ=>?_
    have⟨hD,gA,gB,gC⟩:=bX
    repeat' (first
 |simp only[go_sem,hD,gA,gB,gC,b1,b2,beq_self_eq_true]
 |(with_reducible refine CU (Nv _) ?_)
 |(with_reducible first|refine bq fun hc=>?_|refine br fun hc=>?_|refine bt (fun hc=>?_) fun hc=>?_)<;>(try simp only[hc,bs,↓reduceIte]at h)<;>try simp only[hc]
 |(with_reducible refine aJ hQ ?_;(try cases h);simp only[bh,bk,bO,bP,go_sem,hD,gA,gB,gC,b1,b2,beq_self_eq_true];try exact cJ)
 | (cases h;done))
  rw[if_neg o2]at h
  have b2:(op==2)=false:=by simp[o2]
  simp only[b1,b2,Bool.false_eq_true,if_false]at hR
  have hd:=h.2.2
  rw[show((n+1:Nat):Int) - 1=(n:Int) by omega]at hd
  have ihs : ∀ {y:Ex},y∈kids→∀ s,aH Tryz.prog mE [.agg (cb y), .slice .shared 1 (names.map encStr), .slice .shared 1 (bJ.map cO)] s (Cd (y.val names bJ)) s:=fun {y} hy s=>by
   have:y.dp (n:Int)=true:=by
    have key : ∀ l:List Ex,Ex.DW (n:Int) l=true→y∈l→y.dp (n:Int)=true:=fun l=>by
     induction l with
     |nil=>intro _ m;cases m
     | cons z l WB=>
      intro hz m
      simp only[Ex.DW]at hz
      split at hz
      ·cases hz
      ·rename_i hz'
       rcases List.mem_cons.1 m with rfl|m
       ·simpa using hz'
       ·exact WB hz m
    exact key kids hd hy
   exact aH.pure (ih y this) (by simp[D.bM,D.ok,Tag.ok,lE,fL,ju]) rfl s
  clear h Nv
  have n1:((1:Nat):Int)=1:=rfl
  have e1:((1:Int)==1)=true:=rfl
  have e2:((2:Int)==1)=false:=rfl
  rename _=R=>h
  cases kids with
  |nil=>simp[p6]at hk;omega
  | cons a kids=>
   have c1:=fun s=>ihs (y:=a) (by simp) s
   cases kids with
   |nil=>
    simp only[List.map_cons,List.map_nil,H9]at h
    refine aH.go qd rfl fun B Q hB hQ=>?_
    have⟨hD,gA,gB,gC⟩:=bX
    repeat' (first
 |simp only[go_sem,hD,gA,gB,gC,b1,b2,e1]
 |(with_reducible refine CU (c1 _) ?_)
 |(with_reducible refine CU (amo _ _ _) ?_)
 |(with_reducible first|refine bq fun hc=>?_|refine br fun hc=>?_|refine bt (fun hc=>?_) fun hc=>?_)<;>(try simp only[hc,bs,↓reduceIte]at h)<;>try simp only[hc]
 |(with_reducible refine aJ hQ ?_;(try cases h);simp only[bh,bk,bO,bP,go_sem,hD,gA,gB,gC,b1,b2,e1];try exact cJ)
 | (cases h;done))
   | cons b kids=>
    cases kids with
    |nil=>
     have c2:=fun s=>ihs (y:=b) (by simp) s
     have e3 : [cb a,cb b][Int.toNat 1]? = some (cb b):=rfl
     simp only[List.map_cons,List.map_nil,H9]at h
     refine aH.go qd rfl fun B Q hB hQ=>?_
     have⟨hD,gA,gB,gC⟩:=bX
     repeat' (first
 |simp only[go_sem,hD,gA,gB,gC,b1,b2,e2,e3]
 |(with_reducible refine CU (c1 _) ?_)
 |(with_reducible refine CU (c2 _) ?_)
 |(with_reducible refine CU (aeN _ _) ?_)
 |(with_reducible refine CU (amp _ _ _ _) ?_)
 |(with_reducible first|refine bq fun hc=>?_|refine br fun hc=>?_|refine bt (fun hc=>?_) fun hc=>?_)<;>(try simp only[hc,bs,↓reduceIte]at h)<;>try simp only[hc]
 |(with_reducible refine aJ hQ ?_;(try cases h);simp only[bh,bk,bO,bP,go_sem,hD,gA,gB,gC,b1,b2,e2,e3];try exact cJ)
 | (cases h;done))
    |cons c kids=>simp[p6]at hk;omega
theorem aag {x:Ex} {names:List aK} {bJ:List Int} (hx:x.size<4611686018427387904) (ht:x.texts) (hn:names.length<4611686018427387904) (hv:bJ.length<4611686018427387904) (s:St) :
 aH Tryz.prog yM [.agg (cb x), .slice .shared 1 (names.map encStr), .slice .shared 1 (bJ.map cO)] s (Cd (x.bj names bJ)) s:=by
 refine aH.pure ?_ (by simp[D.bM,D.ok,Tag.ok,lE,fL,ju]) rfl s
 have hm:=fun s=>BQ hx ht s
 rw[HU]at hm
 generalize h:x.bj names bJ=R
 simp only[Ex.bj]at h
 unfold S0
 rcases Bool.eq_false_or_eq_true x.may with b|b
 ·rw [if_pos b]at h
  have c1:=fun s=>aH.pure (aiB hn hv 20 x (by rw[show((20:Nat):Int)=20 from rfl,HU];exact b)) (by simp[D.bM,D.ok,Tag.ok,lE,fL,ju]) rfl s
  rw[h]at c1
  refine aH.go Fy rfl fun B Q hB hQ=>?_
  have⟨hD,gA,gB,gC⟩:=bX
  repeat' (first
 |simp only[go_sem,hD,gA,gB,gC,b]
 |(with_reducible refine CU (hm _) ?_)
 |(with_reducible refine CU (c1 _) ?_)
 |(with_reducible first|refine bq fun hc=>?_|refine br fun hc=>?_|refine bt (fun hc=>?_) fun hc=>?_)<;>(try simp only[hc,bs,↓reduceIte]at h)<;>try simp only[hc]
 |(with_reducible refine aJ hQ ?_;(try cases h);simp only[bh,bk,bO,bP,go_sem,hD,gA,gB,gC,b];try exact cJ)
 |(cases h;done))
 ·rw [if_neg (by simp [b])]at h
  refine aH.go Fy rfl fun B Q hB hQ=>?_
  have⟨hD,gA,gB,gC⟩:=bX
  repeat' (first
 |simp only[go_sem,hD,gA,gB,gC,b]
 |(with_reducible refine CU (hm _) ?_)
 |(with_reducible first|refine bq fun hc=>?_|refine br fun hc=>?_|refine bt (fun hc=>?_) fun hc=>?_)<;>(try simp only[hc,bs,↓reduceIte]at h)<;>try simp only[hc]
 |(with_reducible refine aJ hQ ?_;(try cases h);simp only[bh,bk,bO,bP,go_sem,hD,gA,gB,gC,b];try exact cJ)
 |(cases h;done))
theorem sG {size bytes:Nat} {rows:List (List D)} (h:rows≠ []) (hl:rows.length*(bytes+1)≤bD) {z:Nat} {g:Tag} (o:List (List D)) (T:List (Option Nat)) :
 jv size bytes (.slice .full z []) (.slice g size rows) ⟨o,T⟩=some (.slice (.tok T.length) size rows,⟨o,T++ [some rows.length]⟩):=by
 cases rows with
 |nil=>exact absurd rfl h
 |cons x r=>simp only[List.length_cons]at hl;simp[jv,hl]
theorem sH {size bytes z z':Nat} {g:Tag} (o:List (List D)) (T:List (Option Nat)) :
 jv size bytes (.slice .full z []) (.slice g z' []) ⟨o,T⟩=some (.slice .full z [],⟨o,T⟩):=by simp[jv,bD]
theorem xd {l:List aK} (hl:l.length≤10000000) (s:St):aH Tryz.prog oQ [.slice .shared 1 (l.map encStr)] s (.slice .shared 1 (l.map encStr)) s:=by
 refine aH.pure ?_ (by simp[D.bM,D.ok,fL,Tag.ok]) (by rw[D.ok,fL];rfl) s
 unfold S0
 cases l with
 |nil=>
  simp only[List.map_nil]
  have ha:=fun o T=>sH (size:=1) (bytes:=16) (z:=0) (z':=1) (g:= .shared) o T
  refine aH.go AZ rfl fun B Q hB hQ=>?_
  have⟨hD,gA,gB,gC⟩:=bX
  repeat' (first
 |simp only[go_sem,hD,gA,gB,gC,ha]
 |(with_reducible first|refine bq fun hc=>?_|refine br fun hc=>?_|refine bt (fun hc=>?_) fun hc=>?_)<;>(try simp only[hc,bs,↓reduceIte]at h)<;>try simp only[hc]
 |(with_reducible refine aJ hQ ?_;(try cases h);simp only[bh,bk,bO,bP,go_sem,hD,gA,gB,gC,ha];try exact cJ)
 |(cases h;done))
 |cons x l=>
  have ha:=fun o T=>sG (size:=1) (bytes:=16) (rows:=(x::l).map encStr) (by simp) (by simp only[List.length_map];unfold bD;omega) (z:=0) (g:= .shared) o T
  have hf:=MR 0 0 (x::l)
  generalize (x::l).map encStr=R at *
  refine aH.go AZ rfl fun B Q hB hQ=>?_
  have⟨hD,gA,gB,gC⟩:=bX
  repeat' (first
 |simp only[go_sem,hD,gA,gB,gC,ha,hf]
 |(with_reducible first|refine bq fun hc=>?_|refine br fun hc=>?_|refine bt (fun hc=>?_) fun hc=>?_)<;>(try simp only[hc,bs,↓reduceIte]at h)<;>try simp only[hc]
 |(with_reducible refine aJ hQ ?_;(try cases h);simp only[bh,bk,bO,bP,go_sem,hD,gA,gB,gC,ha,hf];try exact cJ)
 |(cases h;done))
theorem TK : ∀ n,n<1073741824→∀ x:Ex,x.size≤n→aH Tryz.prog kD [.agg (cb x)] S0 (.agg (cb x)) S0:=by
 intro n
 induction n with
 |zero=>rintro _ ⟨op,m,name,kids⟩ h;simp only[Ex.size]at h;omega
 |succ n ihn=>
 rintro hn ⟨op,m,name,kids⟩ hx
 have hk : ∀ y∈kids,∀ s,aH Tryz.prog kD [.agg (cb y)] s (.agg (cb y)) s:=fun y hy s=>
  (ihn (by omega) y (by simp only[Ex.size]at hx;have:=Ex.cZ hy;omega)).pure (by simp[D.bM,D.ok,lE]) (by simp[D.ok,lE]) s
 have hlen:kids.length<1073741824:=by simp only[Ex.size]at hx;have:=Ex.dR kids;omega
 unfold S0
 refine aH.go Fh rfl fun B Q hB hQ=>?_
 have⟨hD,gA,gB,gC⟩:=bX
 repeat' (first
 |simp only[go_sem,hD,gA,gB,gC]
 |(with_reducible first|refine bq fun hc=>?_|refine br fun hc=>?_|refine bt (fun hc=>?_) fun hc=>?_)<;>(try simp only[hc,bs,↓reduceIte]at h)<;>try simp only[hc]
 |(with_reducible refine aJ hQ ?_;exact fU)
 |(cases h;done))
 refine bp.By 2 3 4 rfl rfl ?_
 simp only[go_sem,hD,gA,gB,gC]
 refine fI 3 1 (bp.ind (ι:=List Ex×Nat×List Ex) (fun i=>kids.drop i.2.1=i.1∧i.2.1=i.2.2.length∧i.2.2++i.1=kids) (fun i=>i.1.length)
  (fun i=> [(1, .ptr 0 0),(2, .ptr 1 0),(3, .ptr 2 0),(14, .int .i64 (kids.length:Int)),(15, .int .i64 (i.2.1:Int))])
  (fun i=>⟨[cb ⟨op,m,name,kids⟩,cb rm,[.int .i64 op, .int .i64 m, .str name, .slice (.tok 0) 4 (i.2.2.map cb)]],[some i.2.1]⟩) ?_ (kids,0,[]) ⟨rfl,rfl,rfl⟩)
 rintro⟨rest,k,acc⟩ ⟨h1,h2,h3⟩ IH
 dsimp only at h1 h2 h3
 subst h2
 cases rest with
 |nil=>
  have hD:=drop_nil h1
  simp only[List.append_nil]at h3
  subst h3
  repeat' (first
 |simp only[go_sem,hD,gA,gB,gC]
 |(with_reducible first|refine bq fun hc=>?_|refine br fun hc=>?_|refine bt (fun hc=>?_) fun hc=>?_)<;>(try simp only[hc,bs,↓reduceIte]at h)<;>try simp only[hc]
 |(with_reducible refine aJ hQ ?_;exact fU)
 |(cases h;done))
 |cons y rest=>
  obtain⟨gA,g2,hD,g4⟩:=drop_cons h1
  have ij:(acc.length+1)*57≤bD:=by simp only[bD];omega
  have hy:=hk y (List.mem_of_getElem? gA)
  have w1:IntKind.wrap .i64 ((acc.length:Int)+1)=((acc.length+1:Nat):Int):=by rw[eA]<;>omega
  repeat' (first
 |simp only[go_sem,hD,gA,gB,gC,ij,w1]
 |(with_reducible refine CU (hy _) ?_)
 |(with_reducible first|refine bq fun hc=>?_|refine br fun hc=>?_|refine bt (fun hc=>?_) fun hc=>?_)<;>(try simp only[hc,bs,↓reduceIte]at h)<;>try simp only[hc]
 |(with_reducible refine aJ hQ ?_;(try cases h);simp only[bh,bk,bO,bP,go_sem,hD,gA,gB,gC,ij,w1];try exact cJ)
 |(cases h;done))
  refine fI 3 1 (IH (rest,acc.length+1,acc++ [y]) ⟨g2,by simp,by rw[← h3];simp⟩ (Nat.lt_succ_self _))
theorem Iq {x:Ex} (h:x.size<1073741824) (s:St):aH Tryz.prog kD [.agg (cb x)] s (.agg (cb x)) s:=
 (TK x.size h x (Nat.le_refl _)).pure (by simp[D.bM,D.ok,lE]) (by simp[D.ok,lE]) s
def Sm.bare (v:Sm):Sm:= {v with aQ:= [],aN:= []}
theorem zj {v:Sm} (hv:v.labels.length+v.x.size+Ar.aU v.args<10000000) (s:St):aH Tryz.prog mP [.agg (bd v)] s (.agg (bd v.bare)) s:=by
 refine aH.pure ?_ (by simp[D.bM,D.ok,qh]) (by simp[D.ok,qh]) s
 obtain⟨id,kind,labels,name,proc,x,has,args,aQ,aN⟩:=v
 dsimp only at hv
 have sO:=Ar.dR args
 have hx:=fun s=>Iq (x:=x) (by omega) s
 simp only[ji]at hx
 have hL:=fun s=>xd (l:=labels) (by omega) s
 unfold Sm.bare
 unfold S0
 refine aH.go Gd rfl fun B Q hB hQ=>?_
 have⟨hD,gA,gB,gC⟩:=bX
 repeat' (first
 |simp only[go_sem,hD,gA,gB,gC]
 |(with_reducible refine CU (hL _) ?_)
 |(with_reducible refine CU (hx _) ?_)
 |(with_reducible first|refine bq fun hc=>?_|refine br fun hc=>?_|refine bt (fun hc=>?_) fun hc=>?_)<;>(try simp only[hc,bs,↓reduceIte]at h)<;>try simp only[hc]
 |(with_reducible refine aJ hQ ?_;exact fU)
 |(cases h;done))
 refine bp.By 2 10 6 rfl rfl ?_
 simp only[go_sem,hD,gA,gB,gC]
 refine fI 3 1 (bp.ind (ι:=List Ar×Nat×List Ar) (fun i=>args.drop i.2.1=i.1∧i.2.1=i.2.2.length∧i.2.2++i.1=args) (fun i=>i.1.length)
  (fun i=> [(1, .ptr 0 0),(2, .ptr 1 0),(3, .ptr 2 0),(24, .slice .shared 6 (args.map fi)),(25, .int .i64 (args.length:Int)),(26, .int .i64 (i.2.1:Int))])
  (fun i=>⟨[bd ⟨id,kind,labels,name,proc,x,has,args,aQ,aN⟩,bd Ka,[.int .i64 id, .int .i64 kind, .slice .shared 1 (labels.map encStr), .str name, .str proc, .int .i64 x.op, .int .i64 x.n, .str x.name, .slice .shared 4 (x.kids.map cb), .bool has, .slice (.tok 0) 6 (i.2.2.map fi), .slice .full 0 [], .slice .full 0 []]],[some i.2.1]⟩) ?_ (args,0,[]) ⟨rfl,rfl,rfl⟩)
 rintro⟨TL,ka,TN⟩ ⟨j1,j2,j3⟩ IHa
 dsimp only at j1 j2 j3
 subst j2
 cases TL with
 |nil=>
  have hD:=drop_nil j1
  simp only[List.append_nil]at j3
  subst j3
  repeat' (first
 |simp only[go_sem,hD,gA,gB,gC,dv,List.map_nil]
 |(with_reducible first|refine bq fun hc=>?_|refine br fun hc=>?_|refine bt (fun hc=>?_) fun hc=>?_)<;>(try simp only[hc,bs,↓reduceIte]at h)<;>try simp only[hc]
 |(with_reducible refine aJ hQ ?_;(try cases h);simp only[bh,bk,bO,bP,go_sem,hD,gA,gB,gC,dv,List.map_nil];try exact cJ)
 |(cases h;done))
 |cons c TL=>
  obtain⟨gA,g2,hD,g4⟩:=drop_cons j1
  have ha:c.x.size<1073741824:=by have:=Ar.cZ (List.mem_of_getElem? gA);omega
  have J3:TN.length<4611686018427387904:=by omega
  have WW:(TN.length+1)*81≤bD:=by simp only[bD];omega
  have hxa:=fun s=>Iq ha s
  simp only[ji]at hxa
  obtain⟨at8,amq,ax⟩:=c
  repeat' (first
 |simp only[go_sem,hD,gA,gB,gC,WW]
 |(with_reducible refine CU (hxa _) ?_)
 |(with_reducible first|refine bq fun hc=>?_|refine br fun hc=>?_|refine bt (fun hc=>?_) fun hc=>?_)<;>(try simp only[hc,bs,↓reduceIte]at h)<;>try simp only[hc]
 |(with_reducible refine aJ hQ ?_;(try cases h);simp only[bh,bk,bO,bP,go_sem,hD,gA,gB,gC,WW];try exact cJ)
 |(cases h;done))
  refine fm 3 1 ?_ ?_ (IHa (TL,TN.length+1,TN++ [⟨at8,amq,ax⟩]) ⟨g2,by simp,by rw[← j3];simp⟩ (Nat.lt_succ_self _))
  ·(simp only[go_sem,hD,gA,gB,gC,aM J3];try exact cd)
  ·(simp only[go_sem,hD,gA,gB,gC,aM J3];try exact cd)
theorem aH.amr {P:Program} {f:FuncId} {args:List D} {z k:Nat} {rows:List (List D)} (h:aH P f args S0 (.slice (.tok 0) z rows) ⟨[],[some k]⟩) (ha:D.bM 0 0 args=true) (hr:D.jd 0 0 rows=true) (s:St) :
 aH P f args s (.slice (.tok s.aA.length) z rows) ⟨s.al,s.aA++ [some k]⟩:=by
 refine bW.frame [] [] h List.nodup_nil List.nodup_nil (by simp) (by simp) rfl (by simp) rfl (by simp) (by rw[fY _ _ _ ha]) ha ?_
 rintro _ _ ⟨rfl,rfl⟩
 refine⟨by simp[D.back,D.cT,Tag.cT,kP,ke _ _ _ hr], ?_⟩
 simp[St.back,lC]
theorem TO (g:Tag) (z:Nat) (s:St):aH Tryz.prog lM [.slice g z []] s (.slice .full 1 []) s:=by
 refine bW.su (.cons (Wk.nil _ _ 1) .nil) (aH.pure ?_ rfl rfl s)
 unfold S0
 refine aH.go rp rfl fun B Q hB hQ=>?_
 have⟨hD,gA,gB,gC⟩:=bX
 repeat' (first
 |simp only[go_sem,hD,gA,gB,gC]
 |(with_reducible first|refine bq fun hc=>?_|refine br fun hc=>?_|refine bt (fun hc=>?_) fun hc=>?_)<;>(try simp only[hc,bs,↓reduceIte]at h)<;>try simp only[hc]
 |(with_reducible refine aJ hQ ?_;exact fU)
 |(cases h;done))
 refine YF (fun _=>?_) ?_
 ·repeat' (first
 |simp only[go_sem,hD,gA,gB,gC,jv,true_or,Nat.zero_le]
 |(with_reducible first|refine bq fun hc=>?_|refine br fun hc=>?_|refine bt (fun hc=>?_) fun hc=>?_)<;>(try simp only[hc,bs,↓reduceIte]at h)<;>try simp only[hc]
 |(with_reducible refine aJ hQ ?_;(try cases h);simp only[bh,bk,bO,bP,go_sem,hD,gA,gB,gC,jv,true_or,Nat.zero_le];try exact cJ)
 |(cases h;done))
 ·repeat' (first
 |simp only[go_sem,hD,gA,gB,gC,jv,true_or,Nat.zero_le]
 |(with_reducible first|refine bq fun hc=>?_|refine br fun hc=>?_|refine bt (fun hc=>?_) fun hc=>?_)<;>(try simp only[hc,bs,↓reduceIte]at h)<;>try simp only[hc]
 |(with_reducible refine aJ hQ ?_;(try cases h);simp only[bh,bk,bO,bP,go_sem,hD,gA,gB,gC,jv,true_or,Nat.zero_le];try exact cJ)
 |(cases h;done))
theorem TP {l:List aK} (hl:l.length<1073741824) (h0:l≠ []) (s:St):aH Tryz.prog lM [.slice .shared 1 (l.map encStr)] s (.slice (.tok s.aA.length) 1 (l.map encStr)) ⟨s.al,s.aA++ [some l.length]⟩:=by
 refine aH.amr ?_ (by simp[D.bM,D.ok,Tag.ok,fL]) (fL l) s
 unfold S0
 refine aH.goK 0 1 (Nat.zero_le _) (Nat.zero_le _) rp rfl fun B Q hB hQ=>?_
 have⟨hD,gA,gB,gC⟩:=bX
 have ha:=fun o T=>sG (size:=1) (bytes:=16) (rows:=l.map encStr) (by simpa using h0) (by simp only[List.length_map];unfold bD;omega) (z:=1) (g:= .shared) o T
 cases l with
 |nil=>exact absurd rfl h0
 |cons x l=>
  simp only[List.map_cons,encStr]at ha
  repeat' (first
 |simp only[go_sem,hD,gA,gB,gC,ha]
 |(with_reducible first|refine bq fun hc=>?_|refine br fun hc=>?_|refine bt (fun hc=>?_) fun hc=>?_)<;>(try simp only[hc,bs,↓reduceIte]at h)<;>try simp only[hc]
 |(with_reducible refine aJ hQ ?_;(try cases h);simp only[bh,bk,bO,bP,go_sem,hD,gA,gB,gC,ha];try exact cJ)
 |(cases h;done))
theorem Qs {a b:List aK} {n:Nat} (hn:n=a.length) (h:a.length+b.length≤1000000000) {g:Tag} {t:Nat} {s:St} (ht:s.aA[t]? = some (some n)) :
 jv 1 16 (.slice (.tok t) 1 (a.map encStr)) (.slice g 1 (b.map encStr)) s=some (.slice (.tok t) 1 ((a++b).map encStr),⟨s.al,s.aA.set t (some (a++b).length)⟩):=by
 subst hn
 rw[pH (size:=1) (bytes:=16) (by simp only[List.length_map];unfold bD;omega) (by simpa using ht)]
 simp
theorem aiC {p:Pg} (h:p.jE) (hb:p.may=true) {name:aK} {f:Pc} (hf:p.find name=some f) (s:St):aH Tryz.prog xE [.agg (bV p), .str name] s (.slice .shared 1 ((p.globals++f.own).map encStr)) s:=by
 refine aH.pure ?_ (by simp[D.bM,D.ok,jj]) (by simp only[D.ok,Tag.ok,fL];rfl) s
 have hm:=fun s=>HP h.Tn s
 simp only[A5,hb]at hm
 obtain⟨s9,p7,sR⟩:=h.procs
 simp only[Pg.find]at hf
 unfold S0
 refine aH.go Jk rfl fun B Q hB hQ=>?_
 have⟨hD,gA,gB,gC⟩:=bX
 repeat' (first
 |simp only[go_sem,hD,gA,gB,gC]
 |(with_reducible refine CU (hm _) ?_)
 |(with_reducible first|refine bq fun hc=>?_|refine br fun hc=>?_|refine bt (fun hc=>?_) fun hc=>?_)<;>(try simp only[hc,bs,↓reduceIte]at h)<;>try simp only[hc]
 |(with_reducible refine aJ hQ ?_;exact fU)
 |(cases h;done))
 refine fI 1 0 (bp.ind (ι:=List Pc×Nat) (fun i=>p.procs.drop i.2=i.1∧iF name i.1=some f) (fun i=>i.1.length)
  (fun i=> [(1, .str name),(2, .ptr 0 0),(11, .slice .shared 5 (p.procs.map bS)),(12, .int .i64 (p.procs.length:Int)),(13, .int .i64 (i.2:Int))]) (fun i=>⟨[bV p],[]⟩) ?_ (p.procs,0) ⟨rfl,hf⟩)
 rintro⟨rest,k⟩ ⟨h1,h2⟩ IH
 dsimp only at h1 h2
 cases rest with
 |nil=>cases h2
 | cons a rest=>
  obtain⟨gA,g2,hD,g4⟩:=drop_cons h1
  have ct:k<4611686018427387904:=by omega
  have xT:=h.small (List.mem_of_getElem? gA)
  simp only[iF]at h2
  rcases Bool.eq_false_or_eq_true (a.name==name)with b1|b1
  ·simp only [b1,if_true]at h2
   cases h2
   have ho:=fun s=>acy (f:=f) xT.par xT.vars s
   have jC:f.own.length<2000000:=by have:=xT.par;have:=xT.vars;simp[Pc.own,Pc.tO];omega
   cases e:p.globals with
   | nil=>
    simp only[List.nil_append]at *
    have c1:=fun g z s=>TO g z s
    cases e2:f.own with
    |nil=>
     rw[e2]at ho hQ
     have ha:=fun o T=>sH (size:=1) (bytes:=16) (z:=1) (z':=1) (g:= .shared) o T
     repeat' (first
 |simp only[go_sem,hD,gA,gB,gC,b1,ha,e]
 |(with_reducible refine CU (c1 _ _ _) ?_)
 |(with_reducible refine CU (ho _) ?_)
 |(with_reducible first|refine bq fun hc=>?_|refine br fun hc=>?_|refine bt (fun hc=>?_) fun hc=>?_)<;>(try simp only[hc,bs,↓reduceIte]at h)<;>try simp only[hc]
 |(with_reducible refine aJ hQ ?_;(try cases h);simp only[bh,bk,bO,bP,go_sem,hD,gA,gB,gC,b1,ha,e];try exact cJ)
 | (cases h;done))
    |cons x l=>
     have ha:=fun o T=>sG (size:=1) (bytes:=16) (rows:=f.own.map encStr) (by simp[e2]) (by simp only[List.length_map];unfold bD;omega) (z:=1) (g:= .shared) o T
     repeat' (first
 |simp only[go_sem,hD,gA,gB,gC,b1,ha,e]
 |(with_reducible refine CU (c1 _ _ _) ?_)
 |(with_reducible refine CU (ho _) ?_)
 |(with_reducible first|refine bq fun hc=>?_|refine br fun hc=>?_|refine bt (fun hc=>?_) fun hc=>?_)<;>(try simp only[hc,bs,↓reduceIte]at h)<;>try simp only[hc]
 |(with_reducible refine aJ hQ ?_;(try cases h);simp only[bh,bk,bO,bP,go_sem,hD,gA,gB,gC,b1,ha,e];try exact cJ)
 | (cases h;done))
   |cons x l=>
    have c1:=fun s=>TP (l:=p.globals) (by omega) (by simp[e]) s
    have ha:=fun {s:St} {t:Nat} (ht:s.aA[t]? = some (some p.globals.length))=>Qs (a:=p.globals) (b:=f.own) (g:= .shared) rfl (by omega) ht
    have yC:=fun o=>Qs (a:=p.globals) (b:=f.own) (g:= .shared) (t:=0) (s:=⟨o,[some p.globals.length]⟩) rfl (by omega) rfl
    repeat' (first
 |simp only[go_sem,hD,gA,gB,gC,b1,yC]
 |(with_reducible refine CU (c1 _) ?_)
 |(with_reducible refine CU (ho _) ?_)
 |(with_reducible first|refine bq fun hc=>?_|refine br fun hc=>?_|refine bt (fun hc=>?_) fun hc=>?_)<;>(try simp only[hc,bs,↓reduceIte]at h)<;>try simp only[hc]
 |(with_reducible refine aJ hQ ?_;(try cases h);simp only[bh,bk,bO,bP,go_sem,hD,gA,gB,gC,b1,yC];try exact cJ)
 | (cases h;done))
  ·simp only [b1,Bool.false_eq_true,if_false]at h2
   repeat' (first
 |simp only[go_sem,hD,gA,gB,gC,b1]
 |(with_reducible first|refine bq fun hc=>?_|refine br fun hc=>?_|refine bt (fun hc=>?_) fun hc=>?_)<;>(try simp only[hc,bs,↓reduceIte]at h)<;>try simp only[hc]
 |(with_reducible refine aJ hQ ?_;(try cases h);simp only[bh,bk,bO,bP,go_sem,hD,gA,gB,gC,b1];try exact cJ)
 | (cases h;done))
   refine fm 1 0 ?_ ?_ (IH (rest,k+1) ⟨g2,h2⟩ (Nat.lt_succ_self _))
   ·(simp only[go_sem,hD,gA,gB,gC,aM ct];try exact cd)
   ·(simp only[go_sem,hD,gA,gB,gC,aM ct];try exact cd)
theorem Pw {p:Pg} (hb:p.may=true) {i:Nat} {f:Pc} (hf:p.procs[i]? = some f) : ∃ a b:Int,p.a7.lo[i]? = some a∧p.a7.hi[i]? = some b∧(if decide (a<b)=true then a else -1)=dD f.body (-1):=by
 obtain⟨a,b,e,h1,h2,h3,h4⟩:=(kU p).2 i f hf
 refine⟨_,_,h1,h2, ?_⟩
 cases EC:f.body with
 |nil=>
  rw[EC]at h3
  have:b = []:=by simpa[Sm.bN]using h3
  subst this
  simp[dD]
 | cons s l=>
  rw[EC,Sm.bN,Sm.nU]at h3
  cases b with
  |nil=>simp at h3
  | cons x b=>
   simp only[List.map_cons,List.cons_append,List.cons.injEq]at h3
   have hx:p.pre[a.length]? = some s:=by
    rw[← (kU p).1,h4]
    simp[h3.1]
   have:=rV hb hx
   rw[if_pos (by simp;omega)]
   simp only[dD]
   rw[this];omega
theorem aeO {p:Pg} (hb:p.may=true) {i:Nat} {f:Pc} (hf:p.procs[i]? = some f) (s:St):aH Tryz.prog qI [.dS (gu p) 0, .int .i64 (i:Int)] s (.int .i64 (dD f.body (-1))) s:=by
 refine aH.pure ?_ (by simp[D.bM,D.ok,wy]) rfl s
 obtain⟨a,b,h1,h2,h⟩:=Pw hb hf
 generalize dD f.body (-1)=R at h
 unfold S0
 rw[pL]
 refine aH.go BL rfl fun B Q hB hQ=>?_
 have⟨hD,gA,gB,gC⟩:=bX
 repeat' (first
 |simp only[go_sem,hD,gA,gB,gC,h1,h2]
 |(with_reducible first|refine bq fun hc=>?_|refine br fun hc=>?_|refine bt (fun hc=>?_) fun hc=>?_)<;>(try simp only[hc,bs,↓reduceIte]at h)<;>try simp only[hc]
 |(with_reducible refine aJ hQ ?_;(try cases h);simp only[bh,bk,bO,bP,go_sem,hD,gA,gB,gC,h1,h2];try exact cJ)
 |(cases h;done))
section
variable {p:Pg} {T W:List Int} {y:Lay} {m:Mc} {loc:List (Nat×List D)} {s:St}
theorem kL.row {s:St} {d:D} {cs:List D} (h:kL s d cs) (hn:cs≠ []) : ∃ o g more,d = .dK 1 o g cs.length∧s.al[o]? = some (.int .i64 ((g:Nat):Int)::(cs++more)):=by
 rcases h with ⟨_,h⟩|h
 ·exact absurd h hn
 ·exact h
theorem Inv.aah (h:Inv p T W y m loc s) {fr:Fr} {r:List Fr} (jr:m.st=fr::r) : ∃ so g cells o,y.sd = .dK 1 so g (r.length+1)∧s.al[so]? = some (.int .i64 ((g:Nat):Int)::cells)∧cells[r.length]? = some (.ptr o 0)∧s.al[o]? = some (qT y.κ fr)∧y.φ[0]? = some o:=by
 have gY:=h.uV
 rw[jr]at gY
 cases hφ:y.φ with
 |nil=>rw[hφ]at gY;simp at gY
 | cons o φ=>
  rw[hφ]at gY
  simp only[List.length_cons]at gY
  obtain⟨so,g,more,h1,h2⟩:=h.stack.row (by simp[hφ])
  refine⟨so,g,_,o, ?_,h2, ?_,(h.frame 0 o fr (by rw[hφ];rfl) (by rw[jr];rfl)).1,rfl⟩
  ·rw[h1];simp[hφ];omega
  ·rw [hφ,List.reverse_cons,List.map_append,List.append_assoc,List.getElem?_append_right (by simp;omega)]
   simp[Ae,show r.length - φ.length=0 by omega]
theorem TQ (h:Inv p T W y m loc s) {fr:Fr} {r:List Fr} (jr:m.st=fr::r) (hs:r.length<1000000) : ∃ o,y.φ[0]? = some o∧s.al[o]? = some (qT y.κ fr)∧aH Tryz.prog lX [.ptr 0 0] s (.ptr o 0) s:=by
 obtain⟨so,g,cells,o,h1,h2,h3,h4,h5⟩:=h.aah jr
 refine⟨o,h5,h4, ?_⟩
 have hm:=h.kM
 rw[gj,h1]at hm
 have hw:IntKind.wrap .i64 (((r.length+1:Nat):Int) - 1)=((r.length:Nat):Int):=by rw[show((r.length+1:Nat):Int) - 1=(r.length:Int) by omega];exact eA (by omega) (by omega)
 have hl:(r.length<r.length+1)=True:=by simp
 refine bW.wK C0 rfl fun B Q hB hQ=>?_
 have⟨hD,gA,gB,gC⟩:=bX
 repeat' (first
 |simp only[go_sem,hD,gA,gB,gC,hm,hw,h2,h3,hl,Nat.mul_one]
 |(with_reducible first|refine bq fun hc=>?_|refine br fun hc=>?_|refine bt (fun hc=>?_) fun hc=>?_)<;>(try simp only[hc,bs,↓reduceIte]at h)<;>try simp only[hc]
 |(with_reducible refine aJ hQ ?_;(try cases h);simp only[bh,bk,bO,bP,go_sem,hD,gA,gB,gC,hm,hw,h2,h3,hl,Nat.mul_one];try exact cJ)
 |(cases h;done))
 (refine iX hQ ?_;simp only[bh,bk,bO,bP,go_sem])
theorem E0 (h:Inv p T W y m loc s) {fr:Fr} {r:List Fr} (jr:m.st=fr::r) (hs:r.length<1000000) (hn:fr.names.length<1000000) {name:aK} {j c:Nat} (hj:j7 name 0 fr.names=(j:Int)) (hc:fr.vars[j]? = some c) :
 aH Tryz.prog jG [.ptr 0 0, .str name] s (.ptr (y.κ.getD c 0) 0) s:=by
 obtain⟨o,_,h1,c1⟩:=TQ h jr hs
 have c2:=fun s=>EM (l:=fr.names) (by omega) name s
 rw[hj]at c2
 rw[qT]at h1
 refine bW.wK AR rfl fun B Q hB hQ=>?_
 have⟨hD,gA,gB,gC⟩:=bX
 repeat' (first
 |simp only[go_sem,hD,gA,gB,gC,h1,hc,ga,Option.map_some]
 |(with_reducible refine CU (c1) ?_)
 |(with_reducible refine CU (c2 _) ?_)
 |(with_reducible first|refine bq fun hc=>?_|refine br fun hc=>?_|refine bt (fun hc=>?_) fun hc=>?_)<;>(try simp only[hc,bs,↓reduceIte]at h)<;>try simp only[hc]
 |(with_reducible refine aJ hQ ?_;(try cases h);simp only[bh,bk,bO,bP,go_sem,hD,gA,gB,gC,h1,hc,ga,Option.map_some];try exact cJ)
 |(cases h;done))
 (refine iX hQ ?_;simp only[bh,bk,bO,bP,go_sem])
abbrev Rl (p:Pg) (T W:List Int) (d:D) (m':Mc) (X:Lay→Prop) (loc:List (Nat×List D)):D→St→Prop:=fun d' s'=>d'=d∧∃ y',X y'∧Inv p T W y' m' loc s'
theorem Qt (h:Inv p T W y m loc s) (hW:W.length<1000000) (ht:m.trace.length<2000000) (id:Int) (bJ:List Int) :
 bW Tryz.prog fy [.ptr 0 0, .int .i64 id, .slice .shared 1 (bJ.map cO)] s (Rl p T W (.tuple []) (m.event W id bJ) (· = y) loc):=by
 have hm:=h.kM
 rw[gj]at hm
 have hl:=h.wO
 have c1:=fun s=>Pv (l:=W) (by omega) id s
 have fv:jv 2 32 (.slice (.tok 1) 2 (m.trace.map pP)) (.slice .full 2 [[.int .i64 id, .slice .shared 1 (bJ.map cO)]]) s=some (.slice (.tok 1) 2 ((m.trace++ [(id,bJ)]).map pP),⟨s.al,s.aA.set 1 (some (m.trace.length+1))⟩):=by
  rw[pH (size:=2) (bytes:=32) (by simp only[List.length_map,List.length_singleton];unfold bD;omega) (by simpa using h.t1)]
  simp[pP]
 refine bW.wK AT rfl fun B Q hB hQ=>?_
 have⟨hD,gA,gB,gC⟩:=bX
 cases hb:W.contains id
 ·repeat' (first
 |simp only[go_sem,hD,gA,gB,gC,hm,hb]
 |(with_reducible refine CU (c1 _) ?_)
 |(with_reducible first|refine bq fun hc=>?_|refine br fun hc=>?_|refine bt (fun hc=>?_) fun hc=>?_)<;>(try simp only[hc,bs,↓reduceIte]at h)<;>try simp only[hc]
 |(with_reducible refine aJ hQ ?_;(try cases h);simp only[bh,bk,bO,bP,go_sem,hD,gA,gB,gC,hm,hb];try exact cJ)
 |(cases h;done))
  (refine iX hQ ?_;simp only[bh,bk,bO,bP,go_sem])
  refine⟨rfl,y,rfl, ?_⟩
  unfold Mc.event
  rw[hb]
  exact h
 ·repeat' (first
 |simp only[go_sem,hD,gA,gB,gC,hm,hb,fv,hl]
 |(with_reducible refine CU (c1 _) ?_)
 |(with_reducible first|refine bq fun hc=>?_|refine br fun hc=>?_|refine bt (fun hc=>?_) fun hc=>?_)<;>(try simp only[hc,bs,↓reduceIte]at h)<;>try simp only[hc]
 |(with_reducible refine aJ hQ ?_;(try cases h);simp only[bh,bk,bO,bP,go_sem,hD,gA,gB,gC,hm,hb,fv,hl];try exact cJ)
 | (cases h;done))
  (refine iX hQ ?_;simp only[bh,bk,bO,bP,go_sem])
  refine⟨rfl,y,rfl, ?_⟩
  have:=h.wb (m':=m.event W id bJ) (ts:=s.aA.set 1 (some (m.trace.length+1))) (fF W m id bJ).1 (fF W m id bJ).2.1 (by rw[(fF W m id bJ).2.2.2.2.2,List.getElem?_set_ne (by omega)];exact h.t0) (by
   unfold Mc.event
   rw[hb]
   simp[(List.getElem?_eq_some_iff.1 h.t1).1])
  unfold Mc.event at this ⊢
  rw[hb,if_pos rfl]at this ⊢
  simp only[gj,List.map_append,List.map_cons,List.map_nil]at this
  exact this
theorem Qu (l:List Sm) (hl:l.length<4611686018427387904) (o:Int) (s:St):aH Tryz.prog rR [.slice .shared 13 (l.map bd), .int .i64 o] s (.int .i64 (firstM l o)) s:=by
 refine aH.pure ?_ (by simp[D.bM,D.ok,Tag.ok,l8]) rfl s
 unfold S0
 cases l with
 |nil=>
  have e:decide ((0:Int) > 0)=false:=rfl
  simp only[firstM,dD,List.map_nil]
  refine aH.go CJ rfl fun B Q hB hQ=>?_
  have⟨hD,gA,gB,gC⟩:=bX
  repeat' (first
 |simp only[go_sem,hD,gA,gB,gC,e]
 |(with_reducible first|refine bq fun hc=>?_|refine br fun hc=>?_|refine bt (fun hc=>?_) fun hc=>?_)<;>(try simp only[hc,bs,↓reduceIte]at h)<;>try simp only[hc]
 |(with_reducible refine aJ hQ ?_;(try cases h);simp only[bh,bk,bO,bP,go_sem,hD,gA,gB,gC,e];try exact cJ)
 |(cases h;done))
 |cons a l=>
  have e:decide (((l.length+1:Nat):Int) > 0)=true:=by simp
  simp only[firstM,dD,List.map_cons]
  refine aH.go CJ rfl fun B Q hB hQ=>?_
  have⟨hD,gA,gB,gC⟩:=bX
  repeat' (first
 |simp only[go_sem,hD,gA,gB,gC,e]
 |(with_reducible first|refine bq fun hc=>?_|refine br fun hc=>?_|refine bt (fun hc=>?_) fun hc=>?_)<;>(try simp only[hc,bs,↓reduceIte]at h)<;>try simp only[hc]
 |(with_reducible refine aJ hQ ?_;(try cases h);simp only[bh,bk,bO,bP,go_sem,hD,gA,gB,gC,e];try exact cJ)
 |(cases h;done))
end
end Go.Abs
namespace Go.Abs
set_option maxRecDepth 8000
open Go.Proofs
section
variable {p:Pg} {T W:List Int} {y:Lay} {m:Mc} {loc:List (Nat×List D)} {s:St}
theorem N4 {s:St} {o g z bytes:Nat} {t:Tag} {cs more r:List D} {len:Nat} (hs:s.al[o]? = some (.int .i64 (g:Int)::(cs++more))) (hl:cs.length=len*z) (hm:(len+1)*(bytes+1)≤bD) :
 zC z bytes (.dK z o g len) (.slice t z [r]) s=some (.dK z o (g+1) (len+1),⟨s.al.set o (.int .i64 ((g+1:Nat):Int)::(cs++r)),s.aA⟩):=by
 have ha:l5 s o g=some (cs++more):=by unfold l5;rw[hs];simp
 simp only[zC,ha,List.length_singleton,hm,or_true,and_self,if_true,List.flatten_cons,List.flatten_nil,List.append_nil]
 rw[if_pos (by simp;omega), ← hl,List.take_append_of_le_length (Nat.le_refl _),List.take_length]
theorem Wk.ams (z z':Nat):Wk (.fk z) (.slice .shared z' []):=fun M s v h=>by
 cases h with
 |fk _ a=>cases a with
  |none=>exact .jI _ _ _ rfl trivial
  |some a=>exact .mS _ _ _
theorem aH.amt {P:Program} {f:FuncId} {a b:D} {d:D} {s:St} {v:D} {l:List Int} (hv:kL s v (l.map sF)) (h : ∀ s,aH P f [a,b, .slice .shared 1 (l.map cO)] s d s) (ha:D.ok 0 0 a=true) (hb:D.ok 0 0 b=true) (hd:d.flat=true) :
 aH P f [a,b,v] s d s:=by
 rcases hv with ⟨rfl,e⟩|⟨o,g,more,rfl,e⟩
 ·have:l = []:=by simpa using e
  subst this
  exact bW.su (.cons (Wk.refl _) (.cons (Wk.refl _) (.cons (Wk.ams 1 1) .nil))) (h s)
 ·have eK : ∀ l:List Int,(l.map cO).flatten=l.map sF:=fun l=>by
   induction l with
   |nil=>rfl
   |cons x l ih=>simp only[List.map_cons,List.flatten_cons,ih];rfl
  have hlen:(l.map sF).length=(l.map cO).length:=by simp
  rw[hlen]
  have e0:D.kA o g (l.map cO) [a,b, .dK 1 o g (l.map cO).length] = [a,b, .slice .shared 1 (l.map cO)]:=by
   simp only[D.kA,MT _ _ _ a ha,MT _ _ _ b hb,D.gy,and_self,if_true]
  refine aH.ao7 (k:=2) (rows:=l.map cO) rfl (by rw[eK];exact e) (by intro r hr;obtain⟨x,_,rfl⟩:=List.mem_map.1 hr;rfl) ?_ ?_ hd
  ·rw[e0];exact h S0
  ·rw[e0];simp[D.bM,D.ok,Tag.ok,ha,hb,ju]
structure ow (m:Mc) (fr:Fr) (r:List Fr):Prop where
 st:m.st=fr::r
 len:r.length<1000000
 names:fr.names.length<1000000
 vars:fr.vars.length<1000000
theorem ow.top {fr:Fr} {r:List Fr} (h:ow m fr r):m.top=fr:=by simp[Mc.top,h.st]
theorem WY {fr:Fr} {k c:Nat} {rest:List Nat} (h:fr.vars.drop k=c::rest) (m:Mc):(fr.vars.take (k+1)).map (fun c=>m.mem.getD c 0)=(fr.vars.take k).map (fun c=>m.mem.getD c 0)++ [m.mem.getD c 0]:=by
 have:=(drop_cons h).1
 rw[List.take_add_one,this]
 simp
theorem Gw (h:Inv p T W y m loc s) {fr:Fr} {r:List Fr} (ht:ow m fr r) {x:Ex} (hx:x.size<1000000) (htx:x.texts) :
 bW Tryz.prog la [.ptr 0 0, .agg (cb x)] s (fun d s'=>Rl p T W (Cd (m.bj x).1) (m.bj x).2 (fun y'=>y' = {y with vd:=y'.vd}) loc d s'∧s'.aA=s.aA):=by
 have h1:=h.new (cb x)
 generalize acM:(s.al.length,cb x)::loc=aai at h1
 obtain⟨o,ho,WZ,c1⟩:=TQ h1 ht.st ht.len
 have hm:=h1.kM
 rw[gj]at hm
 have hl:=h1.wO
 simp only at hm hl
 rw[qT]at WZ
 have hvl:=ht.vars
 have UP:=ht.names
 refine bW.wK AS rfl fun B Q hB hQ=>?_
 have⟨hD,gA,gB,gC⟩:=bX
 -- the rounds
 have loop : ∀ (n k:Nat) (rest:List Nat) (vd:D) (s2:St),s2.aA=s.aA→rest.length=n→fr.vars.drop k=rest→Inv p T W {y with vd:=vd} m aai s2→kL s2 vd (((fr.vars.take k).map fun c=>m.mem.getD c 0).map sF)→
  bp Tryz.prog B 64 QSM (iN 0 (lu (jX Tryz.prog B 64 QSY Q) Q)) [(0, .ptr 0 0),(3, .ptr s.al.length 0),(6, .ptr o 0),(24, .slice .shared 1 (fr.vars.map fun c=>ga (y.κ.getD c 0))),(25, .int .i64 (fr.vars.length:Int)),(26, .int .i64 (k:Int))] s2:=by
  intro n
  induction n with
  | zero=>
   intro k rest vd s2 xu Dp hd h2 ha
   have:rest = []:=List.eq_nil_of_length_eq_zero Dp
   subst this
   have hD:=drop_nil hd
   have hk:fr.vars.take k=fr.vars:=List.take_of_length_le (List.drop_eq_nil_iff.1 hd)
   rw[hk]at ha
   have acN:(fr.vars.map fun c=>m.mem.getD c 0)=m.bJ:=by unfold Mc.bJ;rw[ht.top]
   rw[acN]at ha
   have kJ:=h2.kM
   rw[gj]at kJ
   have jn:=h2.wO
   have Eg:=(h2.frame 0 o fr ho (by rw[ht.st];rfl)).1
   rw[qT]at Eg
   have vU:=(h2.loc (s.al.length,cb x) (by rw[← acM];exact List.mem_cons_self ..)).1
   simp only at kJ Eg vU
   have c2:aH Tryz.prog yM [.agg (cb x), .slice .shared 1 (fr.names.map encStr),vd] s2 (Cd (x.bj fr.names m.bJ)) s2:=
    aH.amt ha (fun s=>aag (by omega) htx (by omega) (by rw[← acN,List.length_map];omega) s) (by simp[D.ok,lE]) (by simp[D.ok,Tag.ok,fL]) (by simp[D.flat,D.Ho])
   have hw:(m.bj x).1=x.bj fr.names m.bJ:=by unfold Mc.bj;rw[ht.top]
   generalize hr:x.bj fr.names m.bJ=q at *
   have sQ:(m.bj x).2=if q.2 then m else {m with fin:=4}:=by unfold Mc.bj;rw[ht.top,hr]
   obtain⟨q1,q2⟩:=q
   have xW:Inv p T W {y with vd:=vd} {m with fin:=4} aai ⟨s2.al.set 0 (gj p T W {y with vd:=vd} {m with fin:=4}),s2.aA⟩:=h2.wb (m':= {m with fin:=4}) rfl rfl h2.t0 h2.t1
   rw[gj]at xW
   have o9 : ∀ q∈loc,q∈aai:=fun q mq=>by rw[← acM];exact List.mem_cons_of_mem _ mq
   refine bp.ki ?_
   cases q2
   ·repeat' (first
 |simp only[go_sem,hD,gA,gB,gC,kJ,jn,Eg,vU]
 |(with_reducible refine CU (c2) ?_)
 |(with_reducible first|refine bq fun hc=>?_|refine br fun hc=>?_|refine bt (fun hc=>?_) fun hc=>?_)<;>(try simp only[hc,bs,↓reduceIte]at h)<;>try simp only[hc]
 |(with_reducible refine aJ hQ ?_;(try cases h);simp only[bh,bk,bO,bP,go_sem,hD,gA,gB,gC,kJ,jn,Eg,vU];try exact cJ)
 |(cases h;replace h:=hr;clear hr;(try simp only[bs,↓reduceIte]at h))
 | (cases h;done))
    (refine iX hQ ?_;simp only[bh,bk,bO,bP,go_sem])
    refine⟨⟨by rw[hw],{y with vd:=vd},rfl, ?_⟩,xu⟩
    rw[sQ]
    exact xW.sub o9
   ·repeat' (first
 |simp only[go_sem,hD,gA,gB,gC,kJ,jn,Eg,vU]
 |(with_reducible refine CU (c2) ?_)
 |(with_reducible first|refine bq fun hc=>?_|refine br fun hc=>?_|refine bt (fun hc=>?_) fun hc=>?_)<;>(try simp only[hc,bs,↓reduceIte]at h)<;>try simp only[hc]
 |(with_reducible refine aJ hQ ?_;(try cases h);simp only[bh,bk,bO,bP,go_sem,hD,gA,gB,gC,kJ,jn,Eg,vU];try exact cJ)
 |(cases h;replace h:=hr;clear hr;(try simp only[bs,↓reduceIte]at h))
 | (cases h;done))
    (refine iX hQ ?_;simp only[bh,bk,bO,bP,go_sem])
    refine⟨⟨by rw[hw],{y with vd:=vd},rfl, ?_⟩,xu⟩
    rw[sQ]
    exact h2.sub o9
  | succ n ih=>
   intro k rest vd s2 xu Dp hd h2 ha
   cases rest with
   |nil=>cases Dp
   | cons c rest=>
    obtain⟨gA,g2,hD,g4⟩:=drop_cons hd
    have ct:k<4611686018427387904:=by omega
    have W0:c<m.mem.length:=(h2.frame 0 o fr ho (by rw[ht.st];rfl)).2.2 c (List.mem_of_getElem? gA)
    have hκ:y.κ[c]? = some (y.κ.getD c 0):=by
     rw[List.getD_eq_getElem?_getD,List.getElem?_eq_getElem (by have:=h2.len;simp only at this;omega)];rfl
    have iU:=h2.cell c _ _ hκ (by rw[List.getElem?_eq_getElem W0])
    have qD:m.mem[c] = m.mem.getD c 0:=by rw[List.getD_eq_getElem?_getD,List.getElem?_eq_getElem W0];rfl
    rw[qD]at iU
    generalize amu:m.mem.getD c 0=v at iU
    have kJ:=h2.kM
    rw[gj]at kJ
    have jn:=h2.wO
    simp only at kJ
    have hlen:k<1000000:=by have:=ht.vars;omega
    have hvt:((fr.vars.take (k+1)).map fun c=>m.mem.getD c 0).map sF=((fr.vars.take k).map fun c=>m.mem.getD c 0).map sF++ [.int .i64 v]:=by
     rw[WY hd m,amu,List.map_append];rfl
    rcases ha with ⟨rfl,e⟩|⟨vo,g,more,rfl,e⟩
    ·have fv:=F3 (z:=1) (bytes:=8) .full [.int .i64 v] s2 (by unfold bD;omega)
     have h3:=h2.TI (vd:= .dK 1 s2.al.length 0 1) (s1:=⟨s2.al++ [[.int .i64 ((0:Nat):Int), .int .i64 v]],s2.aA⟩) (fun o r e _=>by rw[List.getElem?_append_left (ib e)];exact e)
      ⟨[v], .inr ⟨_,0,[],rfl,by simp[sF]⟩⟩ (.inr (.inr rfl)) rfl
     rw[gj]at h3
     simp only at h3
     refine bp.ki ?_
     have hA : ∀ e:List (List D),(s2.al++e)[0]? = s2.al[0]? :=fun e=>List.getElem?_append_left jn
     repeat' (first
 |simp only[go_sem,hD,gA,gB,gC,kJ,jn,iU,gA,ga,fv,Option.map_some,hA]
 |(with_reducible first|refine bq fun hc=>?_|refine br fun hc=>?_|refine bt (fun hc=>?_) fun hc=>?_)<;>(try simp only[hc,bs,↓reduceIte]at h)<;>try simp only[hc]
 |(with_reducible refine aJ hQ ?_;(try cases h);simp only[bh,bk,bO,bP,go_sem,hD,gA,gB,gC,kJ,jn,iU,gA,ga,fv,Option.map_some,hA];try exact cJ)
 |(cases h;replace h:=hr;clear hr;(try simp only[bs,↓reduceIte]at h))
 | (cases h;done))
     refine bp.rn ?_ (ih (k+1) rest _ _ xu (by simpa using Dp) g2 h3 ?_)
     ·simp only [go_sem,aM ct,ga]
      repeat' (first|exact Ok.out|with_reducible refine jo ?_ ?_)
     ·rw [hvt,e]
      refine .inr ⟨_,0,[],rfl, ?_⟩
      show((s2.al++ [_]).set 0 _)[s2.al.length]? = _
      rw[List.getElem?_set_ne (by omega)]
      simp
    ·have nu:(((fr.vars.take k).map fun c=>m.mem.getD c 0).map sF).length=k:=by simp;omega
     have fv:=N4 (t:= .full) (bytes:=8) (r:= [.int .i64 v]) e (len:=k) (z:=1) (by rw[nu,Nat.mul_one]) (by unfold bD;omega)
     rw[nu]at kJ h2
     have KT:0≠vo:=fun e'=>(h2.x7 (o:=vo) (by simp[D.arr])) e'.symm
     have dB:kL ⟨s2.al.set vo (.int .i64 ((g+1:Nat):Int)::(((fr.vars.take k).map fun c=>m.mem.getD c 0).map sF++ [.int .i64 v])),s2.aA⟩ (.dK 1 vo (g+1) (k+1)) (((fr.vars.take k).map fun c=>m.mem.getD c 0).map sF++ [.int .i64 v]):=
      .inr ⟨vo,g+1,[],by simp;omega,by simp[ib e]⟩
     have h3:=h2.TI (vd:= .dK 1 vo (g+1) (k+1)) (s1:=⟨s2.al.set vo (.int .i64 ((g+1:Nat):Int)::(((fr.vars.take k).map fun c=>m.mem.getD c 0).map sF++ [.int .i64 v])),s2.aA⟩) (fun o r e hn=>by rw[List.getElem?_set_ne (fun e'=>hn (by rw[← e'];simp[D.arr]))];exact e)
      ⟨(fr.vars.take (k+1)).map fun c=>m.mem.getD c 0,by rw[hvt];exact dB⟩ (.inl rfl) rfl
     rw[gj]at h3
     simp only at h3
     refine bp.ki ?_
     have hA : ∀ e:List D,(s2.al.set vo e)[0]? = s2.al[0]? :=fun e=>List.getElem?_set_ne (Ne.symm KT)
     repeat' (first
 |simp only[go_sem,hD,gA,gB,gC,kJ,jn,iU,gA,ga,fv,Option.map_some,hA]
 |(with_reducible first|refine bq fun hc=>?_|refine br fun hc=>?_|refine bt (fun hc=>?_) fun hc=>?_)<;>(try simp only[hc,bs,↓reduceIte]at h)<;>try simp only[hc]
 |(with_reducible refine aJ hQ ?_;(try cases h);simp only[bh,bk,bO,bP,go_sem,hD,gA,gB,gC,kJ,jn,iU,gA,ga,fv,Option.map_some,hA];try exact cJ)
 |(cases h;replace h:=hr;clear hr;(try simp only[bs,↓reduceIte]at h))
 |(cases h;done))
     refine bp.rn ?_ (ih (k+1) rest _ _ xu (by simpa using Dp) g2 h3 ?_)
     ·simp only [go_sem,aM ct,ga]
      repeat' (first|exact Ok.out|with_reducible refine jo ?_ ?_)
     ·rw [hvt]
      exact dB.keep fun o mo=>by
       have:o=vo:=by simpa[D.arr]using mo
       subst this
       show(List.set _ 0 _)[o]? = _
       rw[List.getElem?_set_ne KT]
 -- the values' slice is emptied
 obtain⟨l,hv⟩:=h1.bJ
 have h0:((s.al++ [cb x])[0]?).isSome=true:=by rw[hm];rfl
 rcases hv with ⟨e,_⟩|⟨vo,g,more,e,e2⟩
 ·rw [e]at hm
  have wA:zB (.fk 1) none (some (.int .i64 0))=some (.fk 1):=by simp[zB,vv,vw]
  have h3:=h1.TI (vd:= .fk 1) (s1:=⟨s.al++ [cb x],s.aA⟩) (fun _ _ e _=>e) ⟨[], .inl ⟨rfl,rfl⟩⟩ (.inl (by rw[e])) rfl
  have Eh:=(h3.frame 0 o fr ho (by rw[ht.st];rfl)).1
  rw[gj]at h3 Eh
  rw[qT]at Eh
  simp only at h3 Eh
  repeat' (first
 |simp only[go_sem,hD,gA,gB,gC,hm,hl,WZ,wA,Eh]
 |(with_reducible refine CU (c1) ?_)
 |(with_reducible first|refine bq fun hc=>?_|refine br fun hc=>?_|refine bt (fun hc=>?_) fun hc=>?_)<;>(try simp only[hc,bs,↓reduceIte]at h)<;>try simp only[hc]
 |(with_reducible refine aJ hQ ?_;(try cases h);simp only[bh,bk,bO,bP,go_sem,hD,gA,gB,gC,hm,hl,WZ,wA,Eh];try exact cJ)
 |(cases h;replace h:=hr;clear hr;(try simp only[bs,↓reduceIte]at h))
 |(cases h;done))
  refine bp.rn ?_ (loop _ 0 fr.vars _ _ rfl rfl rfl h3 (.inl ⟨rfl,rfl⟩))
  simp only[go_sem,ga]
  repeat' (first|exact Ok.out|with_reducible refine jo ?_ ?_)
 ·rw [List.length_map]at e
  rw[e]at hm
  have KT:0≠vo:=fun e'=>(h1.x7 (o:=vo) (by rw[e];simp[D.arr])) e'.symm
  have wA:zB (.dK 1 vo g l.length) none (some (.int .i64 0))=some (.dK 1 vo g 0):=by simp[zB,vv,vw]
  have h3:=h1.TI (vd:= .dK 1 vo g 0) (s1:=⟨s.al++ [cb x],s.aA⟩) (fun _ _ e _=>e) ⟨[], .inr ⟨vo,g,l.map sF++more,rfl,e2⟩⟩ (.inl (by rw[e];rfl)) rfl
  have Eh:=(h3.frame 0 o fr ho (by rw[ht.st];rfl)).1
  rw[gj]at h3 Eh
  rw[qT]at Eh
  simp only at h3 Eh
  repeat' (first
 |simp only[go_sem,hD,gA,gB,gC,hm,hl,WZ,wA,Eh]
 |(with_reducible refine CU (c1) ?_)
 |(with_reducible first|refine bq fun hc=>?_|refine br fun hc=>?_|refine bt (fun hc=>?_) fun hc=>?_)<;>(try simp only[hc,bs,↓reduceIte]at h)<;>try simp only[hc]
 |(with_reducible refine aJ hQ ?_;(try cases h);simp only[bh,bk,bO,bP,go_sem,hD,gA,gB,gC,hm,hl,WZ,wA,Eh];try exact cJ)
 |(cases h;replace h:=hr;clear hr;(try simp only[bs,↓reduceIte]at h))
 | (cases h;done))
  refine bp.rn ?_ (loop _ 0 fr.vars _ _ rfl rfl rfl h3 (.inr ⟨vo,g,l.map sF++more,rfl, ?_⟩))
  ·simp only [go_sem,ga]
   repeat' (first|exact Ok.out|with_reducible refine jo ?_ ?_)
  ·show(List.set _ 0 _)[vo]? = _
   rw[List.getElem?_set_ne KT];exact e2
end
end Go.Abs
namespace Go.Abs
set_option maxRecDepth 8000
open Go.Proofs
section
variable {p:Pg} {T W:List Int} {y:Lay} {m:Mc} {loc:List (Nat×List D)} {s:St}
theorem FX:Wk (.slice .full 0 []) (.slice .shared 1 (([] : List Int).map cO)):=Wk.nil _ _ _
theorem ya (h:Inv p T W y m loc s) (hW:W.length<1000000) (ht:m.trace.length<2000000) (id:Int) :
 bW Tryz.prog fy [.ptr 0 0, .int .i64 id, .slice .full 0 []] s (Rl p T W (.tuple []) (m.event W id []) (· = y) loc):=
 bW.su (.cons (Wk.refl _) (.cons (Wk.refl _) (.cons FX .nil))) (Qt h hW ht id [])
theorem Gx (h:Inv p T W y m loc s) (hW:W.length<1000000) (ht:m.trace.length<2000000) (id n:Int) :
 bW Tryz.prog fy [.ptr 0 0, .int .i64 id, .slice .full 1 [[.int .i64 n]]] s (Rl p T W (.tuple []) (m.event W id [n]) (· = y) loc):=
 bW.su (.cons (Wk.refl _) (.cons (Wk.refl _) (.cons (Wk.shared _ _ _) .nil))) (Qt h hW ht id [n])
theorem aeP (h:Inv p T W y m loc s) {fr:Fr} {r:List Fr} (ht:ow m fr r) {v:Sm} (hv:v.oU) (hW:W.length<1000000) (htr:m.trace.length<2000000) :
 bW Tryz.prog qj [.ptr 0 0, .agg (bd v)] s (Rl p T W (.int .i64 (m.fH W v).1) (m.fH W v).2 (fun y'=>y' = {y with vd:=y'.vd}) loc):=by
 have h1:=h.new (bd v)
 have hx:(s.al++ [bd v])[s.al.length]? = some (bd v):=by simp
 have o9 : ∀ q∈loc,q∈(s.al.length,bd v)::loc:=fun q mq=>List.mem_cons_of_mem _ mq
 refine bW.wK AP rfl fun B Q hB hQ=>?_
 have⟨hD,gA,gB,gC⟩:=bX
 rcases Bool.eq_false_or_eq_true v.has with b|b
 ·have c1:=Gw h1 ht (x:=v.x) (by have:=hv.2.2;omega) hv.1
  repeat' (first
 |simp only[go_sem,hD,gA,gB,gC,hx,b]
 |(with_reducible first|refine bq fun hc=>?_|refine br fun hc=>?_|refine bt (fun hc=>?_) fun hc=>?_)<;>(try simp only[hc,bs,↓reduceIte]at h)<;>try simp only[hc]
 |(with_reducible refine aJ hQ ?_;(try cases h);simp only[bh,bk,bO,bP,go_sem,hD,gA,gB,gC,hx,b];try exact cJ)
 | (cases h;done))
  refine CR c1 fun d s2 h2=>?_
  obtain⟨⟨rfl,y2,yc,h2⟩,_⟩:=h2
  have vU:=(h2.loc (s.al.length,bd v) (List.mem_cons_self ..)).1
  have hw:=iR m v.x
  simp only at vU
  rcases Bool.eq_false_or_eq_true (m.bj v.x).1.2 with b2|b2
  ·have c2:=Gx h2 hW (by rw [hw.2.2.2.2.2];exact htr) v.id (m.bj v.x).1.1
   repeat' (first
 |simp only[go_sem,hD,gA,gB,gC,vU,b2]
 |(with_reducible first|refine bq fun hc=>?_|refine br fun hc=>?_|refine bt (fun hc=>?_) fun hc=>?_)<;>(try simp only[hc,bs,↓reduceIte]at h)<;>try simp only[hc]
 |(with_reducible refine aJ hQ ?_;(try cases h);simp only[bh,bk,bO,bP,go_sem,hD,gA,gB,gC,vU,b2];try exact cJ)
 | (cases h;done))
   refine CR c2 fun d s3 h3=>?_
   obtain⟨rfl,y3,rfl,h3⟩:=h3
   repeat' (first
 |simp only[go_sem,hD,gA,gB,gC]
 |(with_reducible first|refine bq fun hc=>?_|refine br fun hc=>?_|refine bt (fun hc=>?_) fun hc=>?_)<;>(try simp only[hc,bs,↓reduceIte]at h)<;>try simp only[hc]
 |(with_reducible refine aJ hQ ?_;exact fU)
 | (cases h;done))
   (refine iX hQ ?_;simp only[bh,bk,bO,bP,go_sem])
   refine⟨by simp only[Mc.fH,b,if_true],y3,yc, ?_⟩
   simp only[Mc.fH,b,b2,if_true]
   exact h3.sub o9
  ·repeat' (first
 |simp only[go_sem,hD,gA,gB,gC,vU,b2]
 |(with_reducible first|refine bq fun hc=>?_|refine br fun hc=>?_|refine bt (fun hc=>?_) fun hc=>?_)<;>(try simp only[hc,bs,↓reduceIte]at h)<;>try simp only[hc]
 |(with_reducible refine aJ hQ ?_;(try cases h);simp only[bh,bk,bO,bP,go_sem,hD,gA,gB,gC,vU,b2];try exact cJ)
 | (cases h;done))
   (refine iX hQ ?_;simp only[bh,bk,bO,bP,go_sem])
   refine⟨by simp only[Mc.fH,b,if_true],y2,yc, ?_⟩
   simp only[Mc.fH,b,b2,if_true,Bool.false_eq_true,if_false]
   exact h2.sub o9
 ·have c1:=ya h1 hW htr v.id
  repeat' (first
 |simp only[go_sem,hD,gA,gB,gC,hx,b]
 |(with_reducible first|refine bq fun hc=>?_|refine br fun hc=>?_|refine bt (fun hc=>?_) fun hc=>?_)<;>(try simp only[hc,bs,↓reduceIte]at h)<;>try simp only[hc]
 |(with_reducible refine aJ hQ ?_;(try cases h);simp only[bh,bk,bO,bP,go_sem,hD,gA,gB,gC,hx,b];try exact cJ)
 |(cases h;done))
  refine CR c1 fun d s2 h2=>?_
  obtain⟨rfl,y2,rfl,h2⟩:=h2
  repeat' (first
 |simp only[go_sem,hD,gA,gB,gC]
 |(with_reducible first|refine bq fun hc=>?_|refine br fun hc=>?_|refine bt (fun hc=>?_) fun hc=>?_)<;>(try simp only[hc,bs,↓reduceIte]at h)<;>try simp only[hc]
 |(with_reducible refine aJ hQ ?_;exact fU)
 |(cases h;done))
  (refine iX hQ ?_;simp only[bh,bk,bO,bP,go_sem])
  refine⟨by simp only[Mc.fH,b,Bool.false_eq_true,if_false],y2,rfl, ?_⟩
  simp only[Mc.fH,b,Bool.false_eq_true,if_false]
  exact h2.sub o9
end
end Go.Abs
namespace Go.Abs
set_option maxRecDepth 8000
open Go.Proofs
section
variable {p:Pg} {T W:List Int} {y:Lay} {m:Mc} {loc:List (Nat×List D)} {s:St}
theorem ik.setAt : ∀ {l:List (List D)} {i:Nat} {r r':List D},l[i]? = some r→kv r r'→ik l (l.set i r')
 |a::l,0,r,r',h,w=>by simp at h;subst h;exact .cons w (ik.refl l)
 |a::l,i+1,r,r',h,w=> .cons (kv.refl a) (ik.setAt (l:=l) (by simpa using h) w)
def Lay.push (y:Lay) (n K:Nat) (sd:D):Lay:= {y with κ:=y.κ++(List.range K).map (n+2 + ·),φ:=(n+1)::y.φ,sd:=sd}
theorem aaj {κ:List Nat} {n K j:Nat} (hj:j<K):(κ++(List.range K).map (n+2 + ·)).getD (κ.length+j) 0=n+2+j:=by
 rw[List.getD_eq_getElem?_getD,List.getElem?_append_right (by omega),show κ.length+j - κ.length=j by omega]
 simp[hj]
theorem Gy {κ e:List Nat} {c:Nat} (hc:c<κ.length):(κ++e).getD c 0=κ.getD c 0:=by
 rw[List.getD_eq_getElem?_getD,List.getD_eq_getElem?_getD,List.getElem?_append_left hc]
theorem TR {κ:List Nat} {n:Nat} (h:n≤κ.length):(List.range n).map (fun c=>κ.getD c 0)=κ.take n:=by
 apply List.ext_getElem?
 intro i
 simp only[List.getElem?_map]
 by_cases hi:i<n
 ·rw [List.getElem?_range hi,List.getElem?_take_of_lt hi,List.getElem?_eq_getElem (show i<κ.length by omega)]
  simp[List.getD_eq_getElem?_getD,List.getElem?_eq_getElem (show i<κ.length by omega)]
 ·rw[List.getElem?_eq_none (by simp;omega),List.getElem?_eq_none (by simp;omega)];rfl
theorem Inv.push (h:Inv p T W y m loc s) {K:Nat} {sd:D} {fr:Fr} {s':St} (hg:p.globals.length≤m.mem.length) (hfv : ∀ c∈fr.vars,c<m.mem.length+K)
 (k : ∀ (o:Nat) (r:List D),s.al[o]? = some r→o≠0→o∉y.sd.arr→s'.al[o]? = some r)
 (k0:s'.al[0]? = some (gj p T W (y.push s.al.length K sd) m)) (kc : ∀ j,j<K→s'.al[s.al.length+2+j]? = some [.int .i64 0])
 (kf:s'.al[s.al.length+1]? = some (qT (y.push s.al.length K sd).κ fr)) (ks:kL s' sd ((y.push s.al.length K sd).φ.reverse.map Ae)) (uq:sd.arr=y.sd.arr∨sd.arr = [s.al.length+2+K])
 (t0:s'.aA[0]? = s.aA[0]?) (t1:s'.aA[1]? = s.aA[1]?) :
 Inv p T W (y.push s.al.length K sd) {m with st:=fr::m.st,mem:=m.mem++List.replicate K 0} loc s':=by
 have CG:=h.own
 rw[Lay.own,List.nodup_cons,List.nodup_append,List.nodup_append]at CG
 obtain⟨n0,nκ,⟨ns,nv,nsv⟩,N2⟩:=CG
 have lt:=h.vT
 have ltκ : ∀ c∈y.κ,c<s.al.length:=fun c mc=>lt c (by simp[Lay.own,mc])
 have lts : ∀ c∈y.sd.arr,c<s.al.length:=fun c mc=>lt c (by simp[Lay.own,mc])
 have ltv : ∀ c∈y.vd.arr,c<s.al.length:=fun c mc=>lt c (by simp[Lay.own,mc])
 have wO:=h.wO
 have N3 : ∀ o,o∈(y.push s.al.length K sd).own→o∈y.own∨(s.al.length+2≤o∧o≤s.al.length+2+K):=fun o mo=>by
  simp only[Lay.own,Lay.push,List.mem_cons,List.mem_append,List.mem_map,List.mem_range]at mo ⊢
  rcases mo with rfl|(mo|⟨j,hj,rfl⟩)|mo|mo
  ·exact .inl (.inl rfl)
  ·exact .inl (.inr (.inl mo))
  ·exact .inr ⟨by omega,by omega⟩
  ·rcases uq with e | e
   ·rw[e]at mo;exact .inl (.inr (.inr (.inl mo)))
   ·rw[e]at mo;have:=List.mem_singleton.1 mo;exact .inr ⟨by omega,by omega⟩
  ·exact .inl (.inr (.inr (.inr mo)))
 have g : ∀ {o:Nat} {r:List D},s.al[o]? = some r→o∉y.own→s'.al[o]? = some r∧o∉(y.push s.al.length K sd).own:=fun {o r} e hn=>by
  refine⟨k o r e (fun e0=>hn (by rw[e0];simp[Lay.own])) (fun ms=>hn (by simp[Lay.own,ms])),fun mo=>?_⟩
  rcases N3 o mo with mo|mo
  ·exact hn mo
  ·have:=ib e;omega
 have hlen:=h.len
 refine⟨k0,by rw[t0];exact h.t0,by rw[t1];exact h.t1,by simp[Lay.push,hlen],fun i c v e1 e2=>?_,by simp[Lay.push,h.uV],fun i o Qv e1 e2=>?_,ks, ?_, ?_,fun q mq=>g (h.loc q mq).1 (h.loc q mq).2⟩
 ·simp only [Lay.push]at e1
  dsimp only at e2
  rcases Nat.lt_or_ge i y.κ.length with hi|hi
  ·rw [List.getElem?_append_left hi]at e1
   rw[List.getElem?_append_left (by omega)]at e2
   have hc:=List.mem_of_getElem? e1
   exact k c _ (h.cell i c v e1 e2) (h.x7 (by simp[hc])) (fun ms=>N2 c hc c (List.mem_append_left _ ms) rfl)
  ·rw [List.getElem?_append_right hi]at e1
   rw[List.getElem?_append_right (by omega)]at e2
   have hD:=(List.getElem?_eq_some_iff.1 e1).1
   simp only[List.length_map,List.length_range]at hD
   rw[List.getElem?_map,List.getElem?_range hD]at e1
   rw[List.getElem?_replicate_of_lt (by omega)]at e2
   simp only[Option.map_some,Option.some.injEq]at e1 e2
   subst e1 e2
   exact kc _ hD
 ·cases i with
  |zero=>
   simp only[Lay.push,List.getElem?_cons_zero,Option.some.injEq]at e1 e2
   subst e1 e2
   refine⟨kf,fun mo=>?_,fun c mc=>by simp only[List.length_append,List.length_replicate];exact hfv c mc⟩
   rcases N3 _ mo with mo|mo
   ·have:=lt _ mo;omega
   ·omega
  |succ i=>
   simp only[Lay.push,List.getElem?_cons_succ]at e1 e2
   obtain⟨f1,f2,f3⟩:=h.frame i o Qv e1 e2
   obtain⟨f4,f5⟩:=g f1 f2
   exact⟨by simp only[Lay.push];rw[KS (by rw[hlen];exact f3)];exact f4,f5,fun c mc=>by have:=f3 c mc;simp only[List.length_append];omega⟩
 ·obtain⟨l,hl⟩:=h.bJ
  refine⟨l,hl.keep fun o mo=>?_⟩
  rw[List.getElem?_eq_getElem (ltv o mo)]
  exact k o _ (List.getElem?_eq_getElem _) (h.x7 (by simp[mo])) (fun ms=>nsv o ms o mo rfl)
 ·have Is:((List.range K).map (s.al.length+2 + ·)).Nodup:=by
   rw[List.nodup_iff_pairwise_ne,List.pairwise_map]
   exact List.Pairwise.imp (fun h=>by omega) (List.nodup_iff_pairwise_ne.1 List.nodup_range)
  have I7 : ∀ o∈(List.range K).map (s.al.length+2 + ·),s.al.length+2≤o∧o<s.al.length+2+K:=fun o mo=>by
   obtain⟨j,hj,rfl⟩:=List.mem_map.1 mo
   have:=List.mem_range.1 hj;exact⟨by omega,by omega⟩
  have TS : ∀ o∈sd.arr,(o∈y.sd.arr)∨o=s.al.length+2+K:=fun o mo=>by
   rcases uq with e|e
   ·rw[e]at mo;exact .inl mo
   ·rw[e]at mo;exact .inr (List.mem_singleton.1 mo)
  simp only[Lay.own,Lay.push]
  rw[List.nodup_cons,List.nodup_append,List.nodup_append,List.nodup_append]
  refine⟨fun mo=>?_,⟨nκ,Is,fun a ma b mb e=>?_⟩,⟨?_,nv,fun a ma b mb e=>?_⟩,fun a ma b mb e=>?_⟩
  ·simp only [List.mem_append]at mo
   rcases mo with (mo|mo)|mo|mo
   ·exact n0 (by simp[mo])
   ·have:=I7 _ mo;omega
   ·rcases TS _ mo with mo | mo
    ·exact n0 (by simp[mo])
    ·omega
   ·exact n0 (by simp[mo])
  ·have:=ltκ a ma;have:=I7 b mb;omega
  ·rcases uq with e | e <;> rw [e]
   ·exact ns
   ·simp
  ·rcases TS a ma with ma | ma
   ·exact nsv a ma b mb e
   ·have:=ltv b mb;omega
  ·rcases List.mem_append.1 ma with ma | ma
   ·rcases List.mem_append.1 mb with mb | mb
    ·rcases TS b mb with mb | mb
     ·exact N2 a ma b (List.mem_append_left _ mb) e
     ·have:=ltκ a ma;omega
    ·exact N2 a ma b (List.mem_append_right _ mb) e
   ·have:=I7 a ma
    rcases List.mem_append.1 mb with mb|mb
    ·rcases TS b mb with mb | mb
     ·have:=lts b mb;omega
     ·omega
    ·have:=ltv b mb;omega
theorem aeQ {gl ps:List (List D)} {bytes:Nat} (hb:(gl.length+ps.length)*(bytes+1)≤bD) (ts:List (Option Nat)) : ∃ (g1 g2:Tag) (z1 z2:Nat) (t1 t2:List (Option Nat)),(∀ os,jv 1 bytes (.slice .full 0 []) (.slice .shared 1 gl) ⟨os,ts⟩=some (.slice g1 z1 gl,⟨os,t1⟩))∧
 (∀ os,jv 1 bytes (.slice g1 z1 gl) (.slice .shared 1 ps) ⟨os,t1⟩=some (.slice g2 z2 (gl++ps),⟨os,t2⟩))∧
 ((g2 = .full∧t2=ts∧gl++ps = [])∨(g2 = .tok ts.length∧z2=1∧t2=ts++ [some (gl++ps).length])):=by
 have h1:gl.length*(bytes+1)≤bD:=Nat.le_trans (Nat.mul_le_mul_right _ (Nat.le_add_right _ _)) hb
 have h2:ps.length*(bytes+1)≤bD:=Nat.le_trans (Nat.mul_le_mul_right _ (Nat.le_add_left _ _)) hb
 cases gl with
 |nil=>
  cases ps with
  |nil=>exact⟨.full, .full,0,0,ts,ts,fun os=>sH os ts,fun os=>sH os ts, .inl ⟨rfl,rfl,rfl⟩⟩
  |cons a ps=>exact⟨.full, .tok ts.length,0,1,ts,_,fun os=>sH os ts,fun os=>sG (by simp) h2 os ts, .inr ⟨rfl,rfl,rfl⟩⟩
 |cons a gl=>
  refine⟨.tok ts.length, .tok ts.length,1,1,ts++ [some (a::gl).length],ts++ [some (a::gl++ps).length],fun os=>sG (by simp) h1 os ts,fun os=>?_, .inr ⟨rfl,rfl,rfl⟩⟩
  rw[pH (size:=1) hb (by simp)]
  simp;omega
theorem Qw (h:Inv p T W y m loc s) (hp:p.jE) (hb:p.may=true) {i:Nat} {f:Pc} (hf:p.procs[i]? = some f) (amv:p.find f.name=some f) (jr:m.st.length<1000000) {l:List Nat} (hl : ∀ c∈l,c<m.mem.length) (xU:l.length<1000000)
 (hg:p.globals.length≤m.mem.length) (call:Int) :
 ∃ y' s',aH Tryz.prog kg [.ptr 0 0, .int .i64 (i:Int), .slice .shared 1 (l.map fun c=>ga (y.κ.getD c 0)), .int .i64 call] s (.int .i64 (m.open p (i:Int) l call).1) s'∧Inv p T W y' (m.open p (i:Int) l call).2 loc s':=by
 have hm:=h.kM
 rw[gj]at hm
 have sJ:=h.wO
 obtain⟨s9,p7,sR⟩:=hp.procs
 have xT:=hp.small (List.mem_of_getElem? hf)
 have cV:=fun s=>aiC hp hb amv s
 have cF:=fun s=>aeO hb hf s
 have hi:i<p.procs.length:=(List.getElem?_eq_some_iff.1 hf).1
 obtain⟨g1,g2,z1,z2,t1,t2,a1,a2,a3⟩:=aeQ (gl:=(y.κ.take p.globals.length).map ga) (ps:=l.map fun c=>ga (y.κ.getD c 0)) (bytes:=8) (by simp only[List.length_map,List.length_take];unfold bD;omega) s.aA
 have hA : ∀ e:List (List D),(s.al++e)[0]? = s.al[0]? :=fun e=>List.getElem?_append_left sJ
 have n0 : ∀ e1 e2:List (List D),(s.al++e1++e2)[0]? = s.al[0]? :=fun e1 e2=>by rw[List.append_assoc];exact hA _
 have n1 : ∀ a b:List D,(s.al++ [a]++ [b])[s.al.length+1]? = some b:=fun a b=>by simp
 have n2 : ∀ a b:List D,(s.al++ [a]++ [b])[s.al.length]? = some a:=fun a b=>by simp
 have n3 : ∀ a b c:List D,(s.al++ [a]++ [b]).set (s.al.length+1) c=s.al++ [a]++ [c]:=fun a b c=>by simp[List.append_assoc,List.set_append_right]
 have n4 : ∀ a:List D,(s.al++ [a])[s.al.length]? = some a:=fun a=>by simp
 have n5 : ∀ a b:List D,(s.al++ [a]).set s.al.length b=s.al++ [b]:=fun a b=>by simp
 have hpc:bS f = [.str f.name, .slice .shared 2 (f.params.map iW), .slice .shared 1 (f.vars.map encStr), .slice .shared 13 (f.body.map bd), .slice .shared 1 (f.fin.map encStr)]:=rfl
 generalize hn:s.al.length=n at *
 have PG:(m.open p (i:Int) l call).1=dD f.body (-1)∧(m.open p (i:Int) l call).2 = {m with st:=⟨(i:Int),p.globals++f.own,List.range p.globals.length++l++(List.range f.vars.length).map (m.mem.length + ·),call⟩::m.st,mem:=m.mem++List.replicate f.vars.length 0}:=by
  unfold Mc.open
  rw[Int.toNat_natCast,hf]
  exact⟨rfl,rfl⟩
 rw[PG.1,PG.2]
 generalize lq:(y.κ.take p.globals.length).map ga++l.map (fun c=>ga (y.κ.getD c 0))=lx at *
 have hgr:lx.length<2000000:=by rw[← lq];simp only[List.length_append,List.length_map,List.length_take];omega
 have hvl:=xT.vars
 -- the states of the rounds
 let fr:Nat→List D:=fun k=> [.int .i64 (i:Int), .slice .shared 1 ((p.globals++f.own).map encStr), .slice (.tok s.aA.length) 1 (lx++(List.range k).map (fun j=>ga (n+2+j))), .int .i64 call]
 obtain⟨O,hO⟩ : ∃ O:Nat→List (List D),∀ k,O k=s.al++ [bS f]++ [fr k]++List.replicate k [.int .i64 0]:=⟨_,fun _=>rfl⟩
 have oL : ∀ k,(O k).length=n+2+k:=fun k=>by rw[hO];simp[hn];omega
 have aam : ∀ k o,o<n→(O k)[o]? = s.al[o]? :=fun k o ho=>by rw[hO,List.append_assoc,List.append_assoc,List.getElem?_append_left (by omega)]
 have oF : ∀ k,(O k)[n+1]? = some (fr k):=fun k=>by rw[hO,List.getElem?_append_left (by simp[hn])];simp[hn]
 have oC : ∀ k j,j<k→(O k)[n+2+j]? = some [.int .i64 0]:=fun k j hj=>by
  rw[hO,List.getElem?_append_right (by simp only[List.length_append,List.length_singleton,hn];omega)]
  simp only[List.length_append,List.length_singleton,hn]
  rw[show n+2+j - (n+1+1)=j by omega,List.getElem?_replicate_of_lt hj]
 have oF' : ∀ k e,(O k++e)[n+1]? = some (fr k):=fun k e=>by rw[List.getElem?_append_left (by rw[oL];omega)];exact oF k
 have o0 : ∀ k,(O k)[0]? = s.al[0]? :=fun k=>aam k 0 sJ
 have o0' : ∀ k e,(O k++e)[0]? = s.al[0]? :=fun k e=>by rw[List.getElem?_append_left (by rw[oL];omega)];exact o0 k
 have oS : ∀ k,(O k++ [[D.int .i64 0]]).set (n+1) (fr (k+1))=O (k+1):=fun k=>by
  rw[hO,hO,List.replicate_succ']
  simp only[List.append_assoc]
  rw[List.set_append_right _ _ (by omega),hn,show n+1 - n=1 by omega]
  rfl
 have Cf:(List.range p.globals.length++l++(List.range f.vars.length).map (m.mem.length + ·)).map (fun c=>ga ((y.push n f.vars.length .eY).κ.getD c 0))=lx++(List.range f.vars.length).map (fun j=>ga (n+2+j)):=by
  simp only[List.map_append,List.map_map,Lay.push, ← lq]
  congr 1
  ·congr 1
   ·rw [← TR (by rw [h.len];exact hg),List.map_map]
    exact List.map_congr_left fun c mc=>by simp only[Function.comp];rw[Gy (by rw[h.len];have:=List.mem_range.1 mc;omega)]
   ·exact List.map_congr_left fun c mc=>by rw[Gy (by rw[h.len];exact hl c mc)]
  ·exact List.map_congr_left fun j mj=>by simp only[Function.comp];rw[← h.len,aaj (List.mem_range.1 mj)]
 have aua:kv (fr f.vars.length) (qT (y.push n f.vars.length .eY).κ ⟨(i:Int),p.globals++f.own,List.range p.globals.length++l++(List.range f.vars.length).map (m.mem.length + ·),call⟩):=by
  unfold qT
  dsimp only
  rw[Cf]
  exact .cons (Wk.refl _) (.cons (Wk.refl _) (.cons (Wk.shared _ _ _) (.cons (Wk.refl _) .nil)))
 -- the stack
 generalize hK:f.vars.length=K at *
 obtain⟨sd,O',e1,e3,e4,e5,e6⟩ : ∃ (sd:D) (O':List (List D)),(∀ tm:Tm,tm.get 70=y.sd→tm.get 72 = .slice .full 1 [[.ptr (n+1) 0]]→aY (.app 1 8 (.s 70) (.s 72)) tm ⟨O K,s.aA++ [some (lx.length+K)]⟩=some (sd,⟨O',s.aA++ [some (lx.length+K)]⟩))∧
  (∀ (o:Nat) (r:List D),(O K)[o]? = some r→o∉y.sd.arr→O'[o]? = some r)∧kL ⟨O',s.aA⟩ sd (((n+1)::y.φ).reverse.map Ae)∧(sd.arr=y.sd.arr∨sd.arr = [n+2+K])∧sd.row=some [sd]:=by
  rcases h.stack with ⟨e,e2⟩|⟨so,g,more,e,e2⟩
  ·have hφ:y.φ = []:=by simpa using e2
   refine⟨.dK 1 (n+2+K) 0 1,O K++ [[.int .i64 ((0:Nat):Int), .ptr (n+1) 0]],fun tm h1 h2=>?_,fun o r e _=>by rw[List.getElem?_append_left (ib (s:=⟨O K,[]⟩) e)];exact e, .inr ⟨n+2+K,0,[],by simp[hφ], ?_⟩, .inr rfl,rfl⟩
   ·simp only [aY,X.ev,h1,h2,e]
    rw[F3 _ _ _ (by unfold bD;omega)]
    simp only[oL]
   ·rw [hφ]
    show(O K++ [_])[n+2+K]? = _
    rw[← oL K]
    simp[Ae]
  ·have aub:so<n:=by have:=ib e2;omega
   have hlen:(y.φ.reverse.map Ae).length=m.st.length:=by simp[h.uV]
   have W1:(O K)[so]? = some (.int .i64 ((g:Nat):Int)::(y.φ.reverse.map Ae++more)):=by rw[aam K so aub];exact e2
   rw[hlen]at e
   refine⟨.dK 1 so (g+1) (m.st.length+1),(O K).set so (.int .i64 ((g+1:Nat):Int)::(y.φ.reverse.map Ae++ [.ptr (n+1) 0])),fun tm h1 h2=>?_,fun o r e hn=>?_, .inr ⟨so,g+1,[],by simp[h.uV], ?_⟩, .inl (by rw[e];rfl),rfl⟩
   ·simp only [aY,X.ev,h1,h2,e]
    rw[N4 (s:=⟨O K,_⟩) W1 (by rw[hlen,Nat.mul_one]) (by unfold bD;omega)]
   ·rw[List.getElem?_set_ne (fun e'=>hn (by rw[‹y.sd=_›, ← e'];simp[D.arr]))];exact e
   ·simp[oL,show so<n+2+K by omega,Ae]
 have o'0:O'[0]? = s.al[0]? :=by
  rw[hm]
  exact e3 0 _ (by rw[o0];exact hm) (fun mo=>(h.x7 (by simp[mo])) rfl)
 have o'l:0<O'.length:=ib (s:=⟨O',[]⟩) (o'0.trans hm)
 have o'f:O'[n+1]? = some (fr K):=e3 _ _ (oF K) (fun mo=>by have:=h.vT (n+1) (by simp[Lay.own,mo]);omega)
 let row:=gj p T W (y.push n K sd) {m with st:=⟨(i:Int),p.globals++f.own,List.range p.globals.length++l++(List.range K).map (m.mem.length + ·),call⟩::m.st,mem:=m.mem++List.replicate K 0}
 refine⟨y.push n K sd,⟨(O'.set 0 row).set (n+1) (qT (y.push n K sd).κ ⟨(i:Int),p.globals++f.own,List.range p.globals.length++l++(List.range K).map (m.mem.length + ·),call⟩),s.aA++ [some (lx.length+K)]⟩, ?_, ?_⟩
 case refine_2=>
  subst hn
  have gO : ∀ (o:Nat) (r:List D),O'[o]? = some r→o≠0→o≠s.al.length+1→((O'.set 0 row).set (s.al.length+1) (qT (y.push s.al.length K sd).κ ⟨(i:Int),p.globals++f.own,List.range p.globals.length++l++(List.range K).map (m.mem.length + ·),call⟩))[o]? = some r:=fun o r e h1 h2=>by
   rw[List.getElem?_set_ne (Ne.symm h2),List.getElem?_set_ne (Ne.symm h1)];exact e
  refine h.push (K:=K) (sd:=sd) hg (fun c mc=>?_) (fun o r e h1 h2=>?_) ?_ (fun j hj=>?_) ?_ (e4.keep fun o mo=>?_) e5 ?_ ?_
  ·simp only [List.mem_append,List.mem_range,List.mem_map]at mc
   rcases mc with (mc|mc)|⟨x,mc,rfl⟩
   ·omega
   ·have:=hl c mc;omega
   ·omega
  ·have:=ib e
   exact gO o r (e3 o r (by rw[aam K o this];exact e) h2) h1 (by omega)
  ·rw [List.getElem?_set_ne (by omega)]
   simp[o'l,row]
  ·refine gO _ _ (e3 _ _ (oC K j hj) fun mo=> ?_) (by omega) (by omega)
   have:=h.vT _ (show s.al.length+2+j∈y.own by simp[Lay.own,mo]);omega
  ·have:=ib (s:=⟨O',[]⟩) o'f
   rw[List.getElem?_set_self (by rw[List.length_set];exact this)]
  ·have:o≠0∧o≠s.al.length+1:=by
    rcases e5 with e|e
    ·rw [e]at mo
     have h1:=h.vT o (by simp[Lay.own,mo])
     exact⟨h.x7 (by simp[mo]),by omega⟩
    ·rw [e]at mo
     have:=List.mem_singleton.1 mo
     exact⟨by omega,by omega⟩
   show(List.set _ _ _)[o]? = _
   rw[List.getElem?_set_ne (Ne.symm this.2),List.getElem?_set_ne (Ne.symm this.1)]
  ·exact List.getElem?_append_left (List.getElem?_eq_some_iff.1 h.t0).1
  ·exact List.getElem?_append_left (List.getElem?_eq_some_iff.1 h.t1).1
 refine bW.up ?_
 refine bW.wK BJ rfl fun B Q hB hQ=>?_
 have⟨hD,gA,gB,gC⟩:=bX
 have loop : ∀ d k:Nat,k+d=K→bp Tryz.prog B 82 QBT (iN 0 (lu (jX Tryz.prog B 82 QC0 Q) Q))
  [(0, .ptr 0 0),(1, .int .i64 (i:Int)),(10, .ptr (n+1) 0),(52, .int .i64 (K:Int)),(53, .int .i64 (k:Int))] ⟨O k,s.aA++ [some (lx.length+k)]⟩:=by
  intro d
  induction d with
  |zero=>
   intro k hk
   have wD:k=K:=by omega
   subst wD
   have hD:decide ((k:Int)<(k:Int))=false:=by simp
   have kJ:=o'0.trans hm
   have Eg:=o'f
   have xl : ∀ r,(O'.set 0 r)[0]? = some r:=fun r=>List.getElem?_set_self o'l
   refine bp.ki ?_
   repeat' (first
 |simp only[go_sem,hD,gA,gB,gC,hm,o0,e1,e6,kJ,o'l,xl]
 |(with_reducible refine CU (cF _) ?_)
 |(with_reducible first|refine bq fun hc=>?_|refine br fun hc=>?_|refine bt (fun hc=>?_) fun hc=>?_)<;>(try simp only[hc,bs,↓reduceIte]at h)<;>try simp only[hc]
 |(with_reducible refine aJ hQ ?_;(try cases h);simp only[bh,bk,bO,bP,go_sem,hD,gA,gB,gC,hm,o0,e1,e6,kJ,o'l,xl];try exact cJ)
 | (cases h;done))
   (refine iX hQ ?_;simp only[bh,bk,bO,bP,go_sem])
   have eK:row = [.dS (gu p) 0, .slice .shared 1 ((y.κ.take p.globals.length).map ga), .slice .shared 1 (T.map cO), .slice .shared 1 (W.map cO),sd,y.vd,
    .int .i64 m.fin, .int .i64 m.steps, .int .i64 m.reads, .slice (.tok 0) 1 (m.out.map cO), .slice (.tok 1) 2 (m.trace.map pP)]:=by
    simp only[row,gj,Lay.push]
    rw[List.take_append_of_le_length (by rw[h.len];exact hg)]
   refine⟨_,⟨(O'.set 0 row).set (n+1) _,_⟩,Wk.refl _, ?_,rfl,rfl,rfl⟩
   rw[eK]
   exact ik.setAt (by rw[List.getElem?_set_ne (by omega)];exact Eg) aua
  | succ d ih=>
   intro k hk
   have hD:decide ((k:Int)<(K:Int))=true:=by simp;omega
   have ct:k<4611686018427387904:=by omega
   have hfk:=oF k
   have aan:=oF' k [[.int .i64 0]]
   have fv:jv 1 8 (.slice (.tok s.aA.length) 1 (lx++(List.range k).map (fun j=>ga (n+2+j)))) (.slice .full 1 [[.ptr (n+2+k) 0]]) ⟨O k++ [[.int .i64 0]],s.aA++ [some (lx.length+k)]⟩ =
    some (.slice (.tok s.aA.length) 1 (lx++(List.range (k+1)).map (fun j=>ga (n+2+j))),⟨O k++ [[.int .i64 0]],s.aA++ [some (lx.length+(k+1))]⟩):=by
    rw[pH (size:=1) (by simp only[List.length_append,List.length_map,List.length_range,List.length_singleton];unfold bD;omega) (by simp)]
    simp[List.range_succ,ga,Nat.add_assoc]
   have oSk:=oS k
   simp only[fr,List.map_append,List.range_succ,List.map_cons,List.map_nil]at hfk aan oSk
   refine bp.ki ?_
   repeat' (first
 |simp only[go_sem,hD,gA,gB,gC,hfk,aan,oL,fv,oSk]
 |(with_reducible first|refine bq fun hc=>?_|refine br fun hc=>?_|refine bt (fun hc=>?_) fun hc=>?_)<;>(try simp only[hc,bs,↓reduceIte]at h)<;>try simp only[hc]
 |(with_reducible refine aJ hQ ?_;(try cases h);simp only[bh,bk,bO,bP,go_sem,hD,gA,gB,gC,hfk,aan,oL,fv,oSk];try exact cJ)
 | (cases h;done))
   refine bp.rn ?_ (ih (k+1) (by omega))
   simp only[go_sem,aM ct]
   repeat' (first|exact Ok.out|with_reducible refine jo ?_ ?_)
 have l0:=loop K 0 (by omega)
 have hO0:O 0=s.al++ [bS f]++ [fr 0]:=by rw[hO];simp
 rw[hO0]at l0
 repeat' (first
 |simp only[go_sem,hD,gA,gB,gC,hm,hA,n0,n1,n2,n3,n4,n5,hf,a1,a2,pL, ← HK,hn]
 |(with_reducible refine CU (cV _) ?_)
 |(with_reducible first|refine bq fun hc=>?_|refine br fun hc=>?_|refine bt (fun hc=>?_) fun hc=>?_)<;>(try simp only[hc,bs,↓reduceIte]at h)<;>try simp only[hc]
 |(with_reducible refine aJ hQ ?_;(try cases h);simp only[bh,bk,bO,bP,go_sem,hD,gA,gB,gC,hm,hA,n0,n1,n2,n3,n4,n5,hf,a1,a2,pL, ← HK,hn];try exact cJ)
 |(cases h;done))
 simp only[fr,List.range_zero,List.map_nil,List.append_nil,List.map_append]at l0
 rcases a3 with ⟨rfl,rfl,rfl⟩|⟨rfl,rfl,rfl⟩
 ·refine bp.By (n+1) 2 1 (n1 _ _) rfl ?_
  simp only[n3,List.set_cons_succ,List.set_cons_zero]
  refine bp.rn ?_ l0
  simp only[go_sem,hK]
  repeat' (first|exact Ok.out|with_reducible refine jo ?_ ?_)
 ·refine bp.rn ?_ l0
  simp only[go_sem,hK]
  repeat' (first|exact Ok.out|with_reducible refine jo ?_ ?_)
end
end Go.Abs
namespace Go.Abs
set_option maxRecDepth 8000
open Go.Proofs
section
variable {p:Pg} {T W:List Int} {y:Lay} {m:Mc} {loc:List (Nat×List D)} {s:St}
def yd (fr:Fr) (name:aK) (c:Nat):Prop:=∃ j:Nat,j7 name 0 fr.names=(j:Int)∧fr.vars[j]? = some c
theorem yd.cell {fr:Fr} {name:aK} {c:Nat} (h:yd fr name c) (ht:m.top=fr):m.cell name=c:=by
 obtain⟨j,h1,h2⟩:=h
 unfold Mc.cell
 rw[ht,h1,Int.toNat_natCast,List.getD_eq_getElem?_getD,h2];rfl
theorem Inv.pop (h:Inv p T W y m loc s) {fr:Fr} {r:List Fr} (jr:m.st=fr::r) {so g:Nat} (uq:y.sd = .dK 1 so g (r.length+1)) :
 Inv p T W {y with φ:=y.φ.tail,sd:= .dK 1 so g r.length} {m with st:=r} loc ⟨s.al.set 0 (gj p T W {y with φ:=y.φ.tail,sd:= .dK 1 so g r.length} {m with st:=r}),s.aA⟩:=by
 have jg:(D.dK 1 so g r.length).arr=y.sd.arr:=by rw[uq];rfl
 have TT:Lay.own {y with φ:=y.φ.tail,sd:= .dK 1 so g r.length} = y.own:=by simp only[Lay.own,jg]
 have gY:=h.uV
 rw[jr]at gY
 have ne : ∀ {q:Nat} {r':List D},s.al[q]? = some r'→q≠0→(s.al.set 0 (gj p T W {y with φ:=y.φ.tail,sd:= .dK 1 so g r.length} {m with st:=r}))[q]? = some r':=fun e hn=>by
  rw[List.getElem?_set_ne (Ne.symm hn)];exact e
 have nf : ∀ {q:Nat},q∉y.own→q≠0:=fun hq e=>hq (by rw[e];simp[Lay.own])
 obtain⟨l,hl⟩:=h.bJ
 refine⟨by simp[h.wO],h.t0,h.t1,h.len,fun i c v e1 e2=>ne (h.cell i c v e1 e2) (h.x7 (by simp[List.mem_of_getElem? e1])),by simp[gY],fun i o Qv e1 e2=>?_, ?_,⟨l,hl.keep fun o mo=>?_⟩,by rw[TT];exact h.own,fun q mq=>?_⟩
 ·obtain⟨f1,f2,f3⟩:=h.frame (i+1) o Qv (by simpa [List.getElem?_tail]using e1) (by rw [jr];simpa using e2)
  exact⟨ne f1 (nf f2),by rw[TT];exact f2,f3⟩
 ·cases hφ:y.φ with
  |nil=>rw[hφ]at gY;simp at gY
  | cons o φ=>
   rw[hφ]at gY
   rcases h.stack with ⟨e,_⟩|⟨so',g',more,e,e2⟩
   ·rw[e]at uq;cases uq
   ·have e':=e
    rw[uq,D.dK.injEq]at e'
    obtain⟨_,rfl,rfl,_⟩:=e'
    refine .inr ⟨so,g,[.ptr o 0]++more,by simp at gY ⊢;omega,ne ?_ (h.x7 (by rw[uq];simp[D.arr]))⟩
    rw[e2,hφ]
    simp[Ae]
 ·show(s.al.set 0 _)[o]? = _
  rw[List.getElem?_set_ne (Ne.symm (h.x7 (by simp[mo])))]
 ·obtain⟨f1,f2⟩:=h.loc q mq
  exact⟨ne f1 (nf f2),by rw[TT];exact f2⟩
theorem N5 {L:List Im} {c:Nat} {it:Im} (h:L[c]? = some it) {a:Int} (ha:a=(c:Int)+1):dY L a=it:=by
 unfold dY
 rw[ha,show((c:Int)+1 - 1).toNat=c by omega,List.getD_eq_getElem?_getD,h];rfl
theorem aeR (h:Inv p T W y m loc s) {fr:Fr} {r:List Fr} (ht:ow m fr r) (hL:p.a7.L.length<1000000)
 (hc:fr.call=0∨∃ (c:Nat) (it:Im) (wN:Fr) (r2:List Fr),fr.call=(c:Int)+1∧p.a7.L[c]? = some it∧ow {m with st:=r} wN r2∧(it.s.name≠ []→∃ k,yd wN it.s.name k)) (Ac:Int) :
 bW Tryz.prog qk [.ptr 0 0, .int .i64 Ac] s (Rl p T W (.int .i64 (m.close p.a7.L Ac).1) (m.close p.a7.L Ac).2 (fun y'=>∃ sd,y' = {y with φ:=y.φ.tail,sd:=sd}) loc):=by
 obtain⟨so,g,cells,o,h1,h2,h3,h4,h5⟩:=h.aah ht.st
 obtain⟨o',_,Iv,c1⟩:=TQ h ht.st ht.len
 have ho:o'=o:=by rw[h5]at *;cases ‹some o=some o'›;rfl
 subst ho
 have hm:=h.kM
 rw[gj,h1]at hm
 have hl:=h.wO
 have hp:=h.pop ht.st h1
 have hpf:=hp.kM
 have hlen:=ht.len
 have hw:IntKind.wrap .i64 (((r.length+1:Nat):Int) - 1)=((r.length:Nat):Int):=by rw[show((r.length+1:Nat):Int) - 1=(r.length:Int) by omega];exact eA (by omega) (by omega)
 have wA:zB (.dK 1 so g (r.length+1)) none (some (.int .i64 (r.length:Int)))=some (.dK 1 so g r.length):=by simp[zB,vv,vw];omega
 have xl : ∀ r,(s.al.set 0 r)[0]? = some r:=fun r=>List.getElem?_set_self hl
 rw[qT]at Iv
 have nu:m.close p.a7.L Ac=if fr.call==0 then(-1,{{m with st:=r}with fin:=1})else((dY p.a7.L fr.call).next,if(dY p.a7.L fr.call).s.name == []then {m with st:=r}else({m with st:=r} : Mc).set (dY p.a7.L fr.call).s.name Ac):=by
  unfold Mc.close
  rw[ht.top,ht.st];rfl
 rw[nu]
 rcases hc with hc|⟨c,it,wN,r2,hc,rr,vP,hn⟩
 ·rw [hc]at Iv
  have e0:((0:Int)==0)=true:=rfl
  have h5:=hp.wb (m':= {{m with st:=r}with fin:=1}) rfl rfl hp.t0 hp.t1
  rw[gj]at h5
  simp only[List.set_set]at h5
  rw[hc,if_pos e0]
  refine bW.wK sP rfl fun B Q hB hQ=>?_
  have⟨hD,gA,gB,gC⟩:=bX
  repeat' (first
 |simp only[go_sem,hD,gA,gB,gC,hm,hl,hw,wA,xl,Iv,e0,List.set_set]
 |(with_reducible refine CU (c1) ?_)
 |(with_reducible first|refine bq fun hc=>?_|refine br fun hc=>?_|refine bt (fun hc=>?_) fun hc=>?_)<;>(try simp only[hc,bs,↓reduceIte]at h)<;>try simp only[hc]
 |(with_reducible refine aJ hQ ?_;(try cases h);simp only[bh,bk,bO,bP,go_sem,hD,gA,gB,gC,hm,hl,hw,wA,xl,Iv,e0,List.set_set];try exact cJ)
 |(cases h;done))
  (refine iX hQ ?_;simp only[bh,bk,bO,bP,go_sem])
  exact⟨rfl,_,⟨_,rfl⟩,h5⟩
 ·rw [hc]at Iv
  have Ei:IntKind.wrap .i64 ((c:Int)+1 - 1)=(c:Int):=by
   have:=(List.getElem?_eq_some_iff.1 rr).1
   rw[show(c:Int)+1 - 1=(c:Int) by omega];exact eA (by omega) (by omega)
  have e0:((c:Int)+1==0)=false:=by simp;omega
  have auc:=N5 rr hc
  have hz : ∀ (z:List D) (e:List D),(s.al.set 0 e++ [z]).set s.al.length (dP it)=s.al.set 0 e++ [dP it]:=fun z e=>by simp
  have hg : ∀ z e:List D,(s.al.set 0 e++ [z])[s.al.length]? = some z:=fun z e=>by simp
  have cS:(gu p)[2]? = some (.slice .shared 17 (p.a7.L.map dP)):=rfl
  have xU : ∀ e:List D,(s.al.set 0 e).length=s.al.length:=fun e=>List.length_set
  have dB:=hp.new (dP it)
  rw[gj]at dB
  simp only[xU]at dB
  have CQ:dP it = [.int .i64 it.s.id, .int .i64 it.s.kind, .slice .shared 1 (it.s.labels.map encStr), .str it.s.name, .str it.s.proc, .int .i64 it.s.x.op, .int .i64 it.s.x.n, .str it.s.x.name, .slice .shared 4 (it.s.x.kids.map cb), .bool it.s.has, .slice .shared 6 (it.s.args.map fi), .slice .shared 13 (it.s.aQ.map bd), .slice .shared 13 (it.s.aN.map bd), .int .i64 it.proc, .int .i64 it.up, .int .i64 it.next, .int .i64 it.loop]:=rfl
  have c3:(dP it)[3]? = some (.str it.s.name):=rfl
  rw[hc,if_neg (by rw[e0];simp),show dY p.a7.L ((c:Int)+1)=it from hc ▸ auc]
  refine bW.wK sP rfl fun B Q hB hQ=>?_
  have⟨hD,gA,gB,gC⟩:=bX
  rcases Bool.eq_false_or_eq_true (it.s.name == [])with b|b
  ·repeat' (first
 |simp only[go_sem,hD,gA,gB,gC,hm,hl,hw,wA,xl,Iv,e0,Ei,rr,hz,hg,xU,c3,b,cS]
 |(with_reducible refine CU (c1) ?_)
 |(with_reducible first|refine bq fun hc=>?_|refine br fun hc=>?_|refine bt (fun hc=>?_) fun hc=>?_)<;>(try simp only[hc,bs,↓reduceIte]at h)<;>try simp only[hc]
 |(with_reducible refine aJ hQ ?_;(try cases h);simp only[bh,bk,bO,bP,go_sem,hD,gA,gB,gC,hm,hl,hw,wA,xl,Iv,e0,Ei,rr,hz,hg,xU,c3,b,cS];try exact cJ)
 | (cases h;done))
   (refine iX hQ ?_;simp only[bh,bk,bO,bP,go_sem])
   refine⟨rfl,{y with φ:=y.φ.tail,sd:= .dK 1 so g r.length},⟨_,rfl⟩, ?_⟩
   simp only[b,if_true]
   exact dB.sub fun q mq=>List.mem_cons_of_mem _ mq
  ·obtain⟨k,hk⟩:=hn (by intro e;rw [e]at b;cases b)
   have N6:=hk.cell vP.top
   obtain⟨j,hj,Ej⟩:=hk
   have c2:=E0 dB vP.st vP.len vP.names hj Ej
   have hkm:k<m.mem.length:=by
    have hlp:=hp.uV
    rw[vP.st]at hlp
    cases hφ:y.φ.tail with
    |nil=>simp[hφ]at hlp
    |cons o2 φ2=>exact(hp.frame 0 o2 wN (by simp[hφ]) (by rw[vP.st];rfl)).2.2 k (List.mem_of_getElem? Ej)
   have hκ:y.κ[k]? = some (y.κ.getD k 0):=by
    rw[List.getD_eq_getElem?_getD,List.getElem?_eq_getElem (by have:=h.len;omega)];rfl
   have iU:=dB.cell k _ _ hκ (List.getElem?_eq_getElem hkm)
   have xW:=dB.aad hκ Ac
   have km:=(xW.loc (s.al.length,dP it) (List.mem_cons_self ..)).1
   simp only at iU xW km c2
   have hb:(it.s.name != [])=true:=by simp[bne,b]
   repeat' (first
 |simp only[go_sem,hD,gA,gB,gC,hm,hl,hw,wA,xl,Iv,e0,Ei,rr,hz,hg,xU,c3,b,cS,iU,km]
 |(with_reducible refine CU (c1) ?_)
 |(with_reducible refine CU (c2) ?_)
 |(with_reducible first|refine bq fun hc=>?_|refine br fun hc=>?_|refine bt (fun hc=>?_) fun hc=>?_)<;>(try simp only[hc,bs,↓reduceIte]at h)<;>try simp only[hc]
 |(with_reducible refine aJ hQ ?_;(try cases h);simp only[bh,bk,bO,bP,go_sem,hD,gA,gB,gC,hm,hl,hw,wA,xl,Iv,e0,Ei,rr,hz,hg,xU,c3,b,cS,iU,km];try exact cJ)
 | (cases h;done))
   (refine iX hQ ?_;simp only[bh,bk,bO,bP,go_sem])
   refine⟨rfl,{y with φ:=y.φ.tail,sd:= .dK 1 so g r.length},⟨_,rfl⟩, ?_⟩
   simp only[b,Bool.false_eq_true,if_false,Mc.set,N6]
   exact xW.sub fun q mq=>List.mem_cons_of_mem _ mq
end
end Go.Abs
namespace Go.Abs
set_option maxRecDepth 8000
open Go.Proofs
section
variable {p:Pg} {T W:List Int} {y:Lay} {m:Mc} {loc:List (Nat×List D)} {s:St}
structure aiH (p:Pg) (fr:Fr) (it:Im):Prop where
 said:it.s.oU
 brk:it.s.kind=7→∃ (c:Nat) (it2:Im),it.loop=(c:Int)+1∧p.a7.L[c]? = some it2
 uT:it.s.kind=10→∃ (i:Nat) (f:Pc),it.proc=(i:Int)∧p.procs[i]? = some f
 name:it.s.kind=1∨it.s.kind=2→∃ k,yd fr it.s.name k
 aQ:it.s.aQ.length<1000000
 aN:it.s.aN.length<1000000
structure LK (p:Pg) (T W:List Int) (m:Mc):Prop where
 W:W.length<1000000
 T:T.length<1000000
 trace:m.trace.length<2000000
 out:m.out.length<2000000
 L:p.a7.L.length<1000000
 P:Pc.aU p.procs<1000000000
 reads:0≤m.reads∧m.reads<2000000
theorem cell_of (h:Inv p T W y m loc s) {fr:Fr} {r:List Fr} (jr:m.st=fr::r) {c j:Nat} (hc:fr.vars[j]? = some c):y.κ[c]? = some (y.κ.getD c 0)∧∃ v,m.mem[c]? = some v∧s.al[y.κ.getD c 0]? = some [.int .i64 v]:=by
 have gY:=h.uV
 rw[jr]at gY
 cases hφ:y.φ with
 |nil=>simp[hφ]at gY
 | cons o φ=>
  have W0:=(h.frame 0 o fr (by simp[hφ]) (by rw[jr];rfl)).2.2 c (List.mem_of_getElem? hc)
  have hκ:y.κ[c]? = some (y.κ.getD c 0):=by
   rw[List.getD_eq_getElem?_getD,List.getElem?_eq_getElem (by have:=h.len;omega)];rfl
  exact⟨hκ,_,List.getElem?_eq_getElem W0,h.cell c _ _ hκ (List.getElem?_eq_getElem W0)⟩
theorem aud (hp:p.jE) (aao:p.may=true) (h:Inv p T W y m loc s) {fr:Fr} {r:List Fr} (ht:ow m fr r) (hz:LK p T W m) {it:Im} (hd:aiH p fr it) :
 bW Tryz.prog sw [.ptr 0 0, .agg (dP it)] s (Rl p T W (.int .i64 (m.do p p.a7.L T W it).1) (m.do p p.a7.L T W it).2 (fun y'=>∃ vd,y' = {y with vd:=vd}) loc):=by
 have h1:=(h.new (dP it)).new (bd it.s)
 simp only[List.length_append,List.length_singleton]at h1
 have z0 : ∀ z:List D,(s.al++ [z])[s.al.length]? = some z:=fun z=>by simp
 have z1 : ∀ z:List D,(s.al++ [dP it]++ [z]).set (s.al.length+1) (bd it.s)=s.al++ [dP it]++ [bd it.s]:=fun z=>by simp[List.append_assoc,List.set_append_right]
 have z2 : ∀ a z:List D,(s.al++ [a]++ [z])[s.al.length+1]? = some z:=fun a z=>by simp
 have z3 : ∀ a z:List D,(s.al++ [a]++ [z])[s.al.length]? = some a:=fun a z=>by simp
 have z4:=h1.kM
 rw[gj]at z4
 have tM:=h1.wO
 simp only at z4 tM
 have cS:(gu p)[2]? = some (.slice .shared 17 (p.a7.L.map dP)):=rfl
 have o9 : ∀ q∈loc,q∈(s.al.length+1,bd it.s)::(s.al.length,dP it)::loc:=fun q mq=>List.mem_cons_of_mem _ (List.mem_cons_of_mem _ mq)
 generalize hn:s.al.length=n at *
 have km : ∀ {y2:Lay} {m2:Mc} {s2:St},Inv p T W y2 m2 ((n+1,bd it.s)::(n,dP it)::loc) s2→s2.al[n]? = some (dP it)∧s2.al[n+1]? = some (bd it.s)∧0<s2.al.length:=fun h2=>
  ⟨(h2.loc (n,dP it) (by simp)).1,(h2.loc (n+1,bd it.s) (by simp)).1,h2.wO⟩
 rcases Bool.eq_false_or_eq_true (it.s.kind==7)with b7|b7
 ·have c1:=ya h1 hz.W hz.trace it.s.id
  obtain⟨c,it2,e1,e2⟩:=hd.brk (by simpa using b7)
  have hw:IntKind.wrap .i64 ((c:Int)+1 - 1)=(c:Int):=by
   have:=(List.getElem?_eq_some_iff.1 e2).1
   have:=hz.L
   rw[show(c:Int)+1 - 1=(c:Int) by omega];exact eA (by omega) (by omega)
  have Bd:m.do p p.a7.L T W it=(it2.next,m.event W it.s.id []):=by
   unfold Mc.do
   dsimp only
   rw[if_pos b7,N5 e2 e1]
  rw[Bd]
  refine bW.wK jl rfl fun B Q hB hQ=>?_
  have⟨hD,gA,gB,gC⟩:=bX
  repeat' (first
 |simp only[go_sem,hD,gA,gB,gC,z0,z1,z2,z3,hn,b7]
 |(with_reducible first|refine bq fun hc=>?_|refine br fun hc=>?_|refine bt (fun hc=>?_) fun hc=>?_)<;>(try simp only[hc,bs,↓reduceIte]at h)<;>try simp only[hc]
 |(with_reducible refine aJ hQ ?_;(try cases h);simp only[bh,bk,bO,bP,go_sem,hD,gA,gB,gC,z0,z1,z2,z3,hn,b7];try exact cJ)
 |(cases h;done))
  refine CR c1 fun d s2 h2=>?_
  obtain⟨rfl,y2,rfl,h2⟩:=h2
  obtain⟨x1,x2,x3⟩:=km h2
  have kJ:=h2.kM
  rw[gj]at kJ
  repeat' (first
 |simp only[go_sem,hD,gA,gB,gC,x1,x2,kJ,cS,e1,hw,e2]
 |(with_reducible first|refine bq fun hc=>?_|refine br fun hc=>?_|refine bt (fun hc=>?_) fun hc=>?_)<;>(try simp only[hc,bs,↓reduceIte]at h)<;>try simp only[hc]
 |(with_reducible refine aJ hQ ?_;(try cases h);simp only[bh,bk,bO,bP,go_sem,hD,gA,gB,gC,x1,x2,kJ,cS,e1,hw,e2];try exact cJ)
 |(cases h;done))
  (refine iX hQ ?_;simp only[bh,bk,bO,bP,go_sem])
  exact⟨rfl,_,⟨_,rfl⟩,h2.sub o9⟩
 rcases Bool.eq_false_or_eq_true (it.s.kind==8)with b8|b8
 ·have c1:=ya h1 hz.W hz.trace it.s.id
  have Bd:m.do p p.a7.L T W it=(it.loop,m.event W it.s.id []):=by
   unfold Mc.do
   dsimp only
   rw[if_neg (by simp[b7]),if_pos b8]
  rw[Bd]
  refine bW.wK jl rfl fun B Q hB hQ=>?_
  have⟨hD,gA,gB,gC⟩:=bX
  repeat' (first
 |simp only[go_sem,hD,gA,gB,gC,z0,z1,z2,z3,hn,b7,b8]
 |(with_reducible first|refine bq fun hc=>?_|refine br fun hc=>?_|refine bt (fun hc=>?_) fun hc=>?_)<;>(try simp only[hc,bs,↓reduceIte]at h)<;>try simp only[hc]
 |(with_reducible refine aJ hQ ?_;(try cases h);simp only[bh,bk,bO,bP,go_sem,hD,gA,gB,gC,z0,z1,z2,z3,hn,b7,b8];try exact cJ)
 |(cases h;done))
  refine CR c1 fun d s2 h2=>?_
  obtain⟨rfl,y2,rfl,h2⟩:=h2
  obtain⟨x1,x2,x3⟩:=km h2
  repeat' (first
 |simp only[go_sem,hD,gA,gB,gC,x1,x2]
 |(with_reducible first|refine bq fun hc=>?_|refine br fun hc=>?_|refine bt (fun hc=>?_) fun hc=>?_)<;>(try simp only[hc,bs,↓reduceIte]at h)<;>try simp only[hc]
 |(with_reducible refine aJ hQ ?_;(try cases h);simp only[bh,bk,bO,bP,go_sem,hD,gA,gB,gC,x1,x2];try exact cJ)
 |(cases h;done))
  (refine iX hQ ?_;simp only[bh,bk,bO,bP,go_sem])
  exact⟨rfl,_,⟨_,rfl⟩,h2.sub o9⟩
 rcases Bool.eq_false_or_eq_true (it.s.kind==10)with vV|vV
 ·have c1:=ya h1 hz.W hz.trace it.s.id
  obtain⟨i,f,e1,e2⟩:=hd.uT (by simpa using vV)
  have cA:=fun s=>aid hp aao e2 it.s.name s
  have Bd:m.do p p.a7.L T W it=((gQ f.fin it.s.name (Sm.bN f.body)).1,m.event W it.s.id []):=by
   unfold Mc.do
   dsimp only
   rw[if_neg (by simp[b7]),if_neg (by simp[b8]),if_pos vV,e1,Int.toNat_natCast,e2]
  rw[Bd]
  refine bW.wK jl rfl fun B Q hB hQ=>?_
  have⟨hD,gA,gB,gC⟩:=bX
  repeat' (first
 |simp only[go_sem,hD,gA,gB,gC,z0,z1,z2,z3,hn,b7,b8,vV]
 |(with_reducible first|refine bq fun hc=>?_|refine br fun hc=>?_|refine bt (fun hc=>?_) fun hc=>?_)<;>(try simp only[hc,bs,↓reduceIte]at h)<;>try simp only[hc]
 |(with_reducible refine aJ hQ ?_;(try cases h);simp only[bh,bk,bO,bP,go_sem,hD,gA,gB,gC,z0,z1,z2,z3,hn,b7,b8,vV];try exact cJ)
 |(cases h;done))
  refine CR c1 fun d s2 h2=>?_
  obtain⟨rfl,y2,rfl,h2⟩:=h2
  obtain⟨x1,x2,x3⟩:=km h2
  have kJ:=h2.kM
  rw[gj]at kJ
  repeat' (first
 |simp only[go_sem,hD,gA,gB,gC,x1,x2,kJ,e1]
 |(with_reducible refine CU (cA _) ?_)
 |(with_reducible first|refine bq fun hc=>?_|refine br fun hc=>?_|refine bt (fun hc=>?_) fun hc=>?_)<;>(try simp only[hc,bs,↓reduceIte]at h)<;>try simp only[hc]
 |(with_reducible refine aJ hQ ?_;(try cases h);simp only[bh,bk,bO,bP,go_sem,hD,gA,gB,gC,x1,x2,kJ,e1];try exact cJ)
 |(cases h;done))
  (refine iX hQ ?_;simp only[bh,bk,bO,bP,go_sem])
  exact⟨rfl,_,⟨_,rfl⟩,h2.sub o9⟩
 rcases Bool.eq_false_or_eq_true (it.s.kind==2)with b2|b2
 ·obtain⟨k,hk⟩:=hd.name (.inr (by simpa using b2))
  have jJ:=hz.reads
  have hTl:=hz.T
  have JY:=jJ.1
  have aCi : ∀ r,((s.al++ [dP it]++ [bd it.s]).set 0 r)[0]? = some r:=fun r=>List.getElem?_set_self tM
  cases e:T[m.reads.toNat]? with
  | none=>
   have wG:decide (m.reads≥(T.length:Int))=true:=by have:=List.getElem?_eq_none_iff.1 e;simp;omega
   have Bd:m.do p p.a7.L T W it=(-1,{m with fin:=3}):=by
    unfold Mc.do
    dsimp only
    rw[if_neg (by simp[b7]),if_neg (by simp[b8]),if_neg (by simp[vV]),if_pos b2,e]
   rw[Bd]
   have h2:=h1.wb (m':= {m with fin:=3}) rfl rfl h1.t0 h1.t1
   rw[gj]at h2
   simp only at h2
   refine bW.wK jl rfl fun B Q hB hQ=>?_
   have⟨hD,gA,gB,gC⟩:=bX
   repeat' (first
 |simp only[go_sem,hD,gA,gB,gC,z0,z1,z2,z3,z4,hn,b7,b8,vV,b2,wG,tM]
 |(with_reducible first|refine bq fun hc=>?_|refine br fun hc=>?_|refine bt (fun hc=>?_) fun hc=>?_)<;>(try simp only[hc,bs,↓reduceIte]at h)<;>try simp only[hc]
 |(with_reducible refine aJ hQ ?_;(try cases h);simp only[bh,bk,bO,bP,go_sem,hD,gA,gB,gC,z0,z1,z2,z3,z4,hn,b7,b8,vV,b2,wG,tM];try exact cJ)
 | (cases h;done))
   (refine iX hQ ?_;simp only[bh,bk,bO,bP,go_sem])
   exact⟨rfl,_,⟨_,rfl⟩,h2.sub o9⟩
  | some v=>
   have wG:decide (m.reads≥(T.length:Int))=false:=by have:=(List.getElem?_eq_some_iff.1 e).1;simp;omega
   have Ix:IntKind.wrap .i64 (m.reads+1)=m.reads+1:=eA (by omega) (by omega)
   have N6:=hk.cell ht.top
   obtain⟨j,hj,Ej⟩:=hk
   have Bd:m.do p p.a7.L T W it=(it.next,(({m with reads:=m.reads+1,mem:=m.mem.set k v} : Mc).event W it.s.id [v])):=by
    unfold Mc.do
    dsimp only
    rw[if_neg (by simp[b7]),if_neg (by simp[b8]),if_neg (by simp[vV]),if_pos b2,e]
    have:({m with reads:=m.reads+1} : Mc).cell it.s.name=k:=N6
    simp only[Mc.set,this]
   rw[Bd]
   have h2:=h1.wb (m':= {m with reads:=m.reads+1}) rfl rfl h1.t0 h1.t1
   have vP:ow ({m with reads:=m.reads+1} : Mc) fr r:=⟨ht.st,ht.len,ht.names,ht.vars⟩
   have c2:=E0 h2 vP.st vP.len vP.names hj Ej
   obtain⟨hκ,v0,g1,g2⟩:=cell_of h2 vP.st Ej
   have h3:=h2.aad hκ v
   have c3:=Gx h3 hz.W hz.trace it.s.id v
   obtain⟨x1,x2,x3⟩:=km h3
   obtain⟨x4,x5,x6⟩:=km h2
   rw[gj]at c2 g2 c3 x1 x2 x4 x5
   simp only at c2 g2 c3 x1 x2 x4 x5
   refine bW.wK jl rfl fun B Q hB hQ=>?_
   have⟨hD,gA,gB,gC⟩:=bX
   repeat' (first
 |simp only[go_sem,hD,gA,gB,gC,z0,z1,z2,z3,z4,hn,b7,b8,vV,b2,wG,tM,e,Ix,JY,x1,x2,x4,x5,g2]
 |(with_reducible refine CU (c2) ?_)
 |(with_reducible first|refine bq fun hc=>?_|refine br fun hc=>?_|refine bt (fun hc=>?_) fun hc=>?_)<;>(try simp only[hc,bs,↓reduceIte]at h)<;>try simp only[hc]
 |(with_reducible refine aJ hQ ?_;(try cases h);simp only[bh,bk,bO,bP,go_sem,hD,gA,gB,gC,z0,z1,z2,z3,z4,hn,b7,b8,vV,b2,wG,tM,e,Ix,JY,x1,x2,x4,x5,g2];try exact cJ)
 | (cases h;done))
   refine CR c3 fun d s2 h4=>?_
   obtain⟨rfl,y2,rfl,h4⟩:=h4
   obtain⟨x1,x2,x3⟩:=km h4
   repeat' (first
 |simp only[go_sem,hD,gA,gB,gC,x1,x2]
 |(with_reducible first|refine bq fun hc=>?_|refine br fun hc=>?_|refine bt (fun hc=>?_) fun hc=>?_)<;>(try simp only[hc,bs,↓reduceIte]at h)<;>try simp only[hc]
 |(with_reducible refine aJ hQ ?_;(try cases h);simp only[bh,bk,bO,bP,go_sem,hD,gA,gB,gC,x1,x2];try exact cJ)
 | (cases h;done))
   (refine iX hQ ?_;simp only[bh,bk,bO,bP,go_sem])
   exact⟨rfl,_,⟨_,rfl⟩,h4.sub o9⟩
 -- an expression is reckoned
 have hx:it.s.x.size<1000000:=by have:=hd.said.2.2;omega
 have c1:=Gw h1 ht hx hd.said.1
 rcases Bool.eq_false_or_eq_true (m.bj it.s.x).1.2 with bw|bw
 case inr=>
  have Bd:m.do p p.a7.L T W it=(-1,(m.bj it.s.x).2):=by
   unfold Mc.do
   dsimp only
   rw[if_neg (by simp[b7]),if_neg (by simp[b8]),if_neg (by simp[vV]),if_neg (by simp[b2]),if_neg (by simp[bw])]
  rw[Bd]
  refine bW.wK jl rfl fun B Q hB hQ=>?_
  have⟨hD,gA,gB,gC⟩:=bX
  repeat' (first
 |simp only[go_sem,hD,gA,gB,gC,z0,z1,z2,z3,hn,b7,b8,vV,b2]
 |(with_reducible first|refine bq fun hc=>?_|refine br fun hc=>?_|refine bt (fun hc=>?_) fun hc=>?_)<;>(try simp only[hc,bs,↓reduceIte]at h)<;>try simp only[hc]
 |(with_reducible refine aJ hQ ?_;(try cases h);simp only[bh,bk,bO,bP,go_sem,hD,gA,gB,gC,z0,z1,z2,z3,hn,b7,b8,vV,b2];try exact cJ)
 |(cases h;done))
  refine CR c1 fun d s2 h2=>?_
  obtain⟨⟨rfl,y2,yc,h2⟩,_⟩:=h2
  repeat' (first
 |simp only[go_sem,hD,gA,gB,gC,bw]
 |(with_reducible first|refine bq fun hc=>?_|refine br fun hc=>?_|refine bt (fun hc=>?_) fun hc=>?_)<;>(try simp only[hc,bs,↓reduceIte]at h)<;>try simp only[hc]
 |(with_reducible refine aJ hQ ?_;(try cases h);simp only[bh,bk,bO,bP,go_sem,hD,gA,gB,gC,bw];try exact cJ)
 |(cases h;done))
  (refine iX hQ ?_;simp only[bh,bk,bO,bP,go_sem])
  exact⟨rfl,y2,⟨_,yc⟩,h2.sub o9⟩
 have W2:(m.bj it.s.x).2=m:=by
  unfold Mc.bj
  dsimp only
  rw[if_pos (show(it.s.x.bj m.top.names m.bJ).2=true from bw)]
 have Bd:m.do p p.a7.L T W it=(let m1:=m.event W it.s.id [(m.bj it.s.x).1.1];let n:=(m.bj it.s.x).1.1
  if it.s.kind==1 then(it.next,m1.set it.s.name n)else if it.s.kind==3 then(it.next,{m1 with out:=m1.out++ [n]})
  else if it.s.kind==5 then(if n==0 then firstM it.s.aN it.next else firstM it.s.aQ it.next,m1)else if it.s.kind==6 then(if n==0 then it.next else firstM it.s.aQ it.s.id,m1)else(it.next,m1)):=by
  unfold Mc.do
  dsimp only
  rw[if_neg (by simp[b7]),if_neg (by simp[b8]),if_neg (by simp[vV]),if_neg (by simp[b2]),if_pos bw,W2]
 rw[Bd]
 rw[W2]at c1
 generalize hR:(m.bj it.s.x).1=R at *
 obtain⟨v,ok⟩:=R
 subst bw
 dsimp only
 have he:=fF W m it.s.id [v]
 have W3:ow (m.event W it.s.id [v]) fr r:=⟨by rw[he.1];exact ht.st,ht.len,ht.names,ht.vars⟩
 have nb:(v != 0) = !(v==0):=rfl
 have fT:=fun o s=>Qu it.s.aQ (by have:=hd.aQ;omega) o s
 have fE:=fun o s=>Qu it.s.aN (by have:=hd.aN;omega) o s
 refine bW.wK jl rfl fun B Q hB hQ=>?_
 have⟨hD,gA,gB,gC⟩:=bX
 repeat' (first
 |simp only[go_sem,hD,gA,gB,gC,z0,z1,z2,z3,hn,b7,b8,vV,b2]
 |(with_reducible first|refine bq fun hc=>?_|refine br fun hc=>?_|refine bt (fun hc=>?_) fun hc=>?_)<;>(try simp only[hc,bs,↓reduceIte]at h)<;>try simp only[hc]
 |(with_reducible refine aJ hQ ?_;(try cases h);simp only[bh,bk,bO,bP,go_sem,hD,gA,gB,gC,z0,z1,z2,z3,hn,b7,b8,vV,b2];try exact cJ)
 |(cases h;done))
 refine CR c1 fun d s2 h2=>?_
 obtain⟨⟨rfl,y2,yc,h2⟩,_⟩:=h2
 obtain⟨x1,x2,x3⟩:=km h2
 have c2:=Gx h2 hz.W hz.trace it.s.id v
 repeat' (first
 |simp only[go_sem,hD,gA,gB,gC,x1,x2]
 |(with_reducible first|refine bq fun hc=>?_|refine br fun hc=>?_|refine bt (fun hc=>?_) fun hc=>?_)<;>(try simp only[hc,bs,↓reduceIte]at h)<;>try simp only[hc]
 |(with_reducible refine aJ hQ ?_;(try cases h);simp only[bh,bk,bO,bP,go_sem,hD,gA,gB,gC,x1,x2];try exact cJ)
 |(cases h;done))
 refine CR c2 fun d s3 h3=>?_
 obtain⟨rfl,y3,rfl,h3⟩:=h3
 obtain⟨x1,x2,x3⟩:=km h3
 have p9:=h3.kM
 rw[gj]at p9
 rcases Bool.eq_false_or_eq_true (it.s.kind==1)with b1|b1
 ·obtain⟨k,hk⟩:=hd.name (.inl (by simpa using b1))
  have N6:=hk.cell W3.top
  obtain⟨j,hj,Ej⟩:=hk
  have c3:=E0 h3 W3.st W3.len W3.names hj Ej
  obtain⟨hκ,v0,g1,g2⟩:=cell_of h3 W3.st Ej
  have h4:=h3.aad hκ v
  obtain⟨x4,x5,x6⟩:=km h4
  simp only at x4 x5
  repeat' (first
 |simp only[go_sem,hD,gA,gB,gC,x1,x2,b1,g2,x4,x5]
 |(with_reducible refine CU (c3) ?_)
 |(with_reducible first|refine bq fun hc=>?_|refine br fun hc=>?_|refine bt (fun hc=>?_) fun hc=>?_)<;>(try simp only[hc,bs,↓reduceIte]at h)<;>try simp only[hc]
 |(with_reducible refine aJ hQ ?_;(try cases h);simp only[bh,bk,bO,bP,go_sem,hD,gA,gB,gC,x1,x2,b1,g2,x4,x5];try exact cJ)
 |(cases h;done))
  (refine iX hQ ?_;simp only[bh,bk,bO,bP,go_sem])
  rw[if_pos b1]
  refine⟨rfl,y3,⟨_,yc⟩, ?_⟩
  simp only[Mc.set,N6]
  exact h4.sub o9
 rw[if_neg (by simp[b1])]at hQ
 rcases Bool.eq_false_or_eq_true (it.s.kind==3)with b3|b3
 ·rw [if_pos b3]at hQ
  have fv:jv 1 8 (.slice (.tok 0) 1 ((m.event W it.s.id [v]).out.map cO)) (.slice .full 1 [[.int .i64 v]]) s3=some (.slice (.tok 0) 1 (((m.event W it.s.id [v]).out++ [v]).map cO),⟨s3.al,s3.aA.set 0 (some ((m.event W it.s.id [v]).out.length+1))⟩):=by
   rw[pH (size:=1) (by simp only[List.length_map,List.length_singleton,he.2.2.2.2.2];have:=hz.out;unfold bD;omega) (by simpa using h3.t0)]
   simp[cO]
  have h4:=h3.wb (m':= {m.event W it.s.id [v]with out:=(m.event W it.s.id [v]).out++ [v]}) (ts:=s3.aA.set 0 (some ((m.event W it.s.id [v]).out.length+1))) rfl rfl (by simp[(List.getElem?_eq_some_iff.1 h3.t0).1]) (by rw[List.getElem?_set_ne (by omega)];exact h3.t1)
  obtain⟨x4,x5,x6⟩:=km h4
  rw[gj]at h4 x4 x5
  simp only[List.map_append,List.map_cons,List.map_nil,cO]at h4 x4 x5 fv
  repeat' (first
 |simp only[go_sem,hD,gA,gB,gC,x1,x2,b1,b3,p9,fv,x3,x4,x5]
 |(with_reducible first|refine bq fun hc=>?_|refine br fun hc=>?_|refine bt (fun hc=>?_) fun hc=>?_)<;>(try simp only[hc,bs,↓reduceIte]at h)<;>try simp only[hc]
 |(with_reducible refine aJ hQ ?_;(try cases h);simp only[bh,bk,bO,bP,go_sem,hD,gA,gB,gC,x1,x2,b1,b3,p9,fv,x3,x4,x5];try exact cJ)
 |(cases h;done))
  (refine iX hQ ?_;simp only[bh,bk,bO,bP,go_sem])
  exact⟨rfl,y3,⟨_,yc⟩,h4.sub o9⟩
 rw[if_neg (by simp[b3])]at hQ
 rcases Bool.eq_false_or_eq_true (it.s.kind==5)with b5|b5
 ·rw [if_pos b5]at hQ
  rcases Bool.eq_false_or_eq_true (v==0)with bv|bv
  ·rw [if_pos bv]at hQ
   repeat' (first
 |simp only[go_sem,hD,gA,gB,gC,x1,x2,b1,b3,b5,nb,bv]
 |(with_reducible refine CU (fT _ _) ?_)
 |(with_reducible refine CU (fE _ _) ?_)
 |(with_reducible first|refine bq fun hc=>?_|refine br fun hc=>?_|refine bt (fun hc=>?_) fun hc=>?_)<;>(try simp only[hc,bs,↓reduceIte]at h)<;>try simp only[hc]
 |(with_reducible refine aJ hQ ?_;(try cases h);simp only[bh,bk,bO,bP,go_sem,hD,gA,gB,gC,x1,x2,b1,b3,b5,nb,bv];try exact cJ)
 | (cases h;done))
   (refine iX hQ ?_;simp only[bh,bk,bO,bP,go_sem])
   exact⟨rfl,y3,⟨_,yc⟩,h3.sub o9⟩
  ·rw [if_neg (by simp [bv])]at hQ
   repeat' (first
 |simp only[go_sem,hD,gA,gB,gC,x1,x2,b1,b3,b5,nb,bv]
 |(with_reducible refine CU (fT _ _) ?_)
 |(with_reducible refine CU (fE _ _) ?_)
 |(with_reducible first|refine bq fun hc=>?_|refine br fun hc=>?_|refine bt (fun hc=>?_) fun hc=>?_)<;>(try simp only[hc,bs,↓reduceIte]at h)<;>try simp only[hc]
 |(with_reducible refine aJ hQ ?_;(try cases h);simp only[bh,bk,bO,bP,go_sem,hD,gA,gB,gC,x1,x2,b1,b3,b5,nb,bv];try exact cJ)
 | (cases h;done))
   (refine iX hQ ?_;simp only[bh,bk,bO,bP,go_sem])
   exact⟨rfl,y3,⟨_,yc⟩,h3.sub o9⟩
 rw[if_neg (by simp[b5])]at hQ
 rcases Bool.eq_false_or_eq_true (it.s.kind==6)with b6|b6
 ·rw [if_pos b6]at hQ
  rcases Bool.eq_false_or_eq_true (v==0)with bv|bv
  ·rw [if_pos bv]at hQ
   repeat' (first
 |simp only[go_sem,hD,gA,gB,gC,x1,x2,b1,b3,b5,b6,nb,bv]
 |(with_reducible refine CU (fT _ _) ?_)
 |(with_reducible refine CU (fE _ _) ?_)
 |(with_reducible first|refine bq fun hc=>?_|refine br fun hc=>?_|refine bt (fun hc=>?_) fun hc=>?_)<;>(try simp only[hc,bs,↓reduceIte]at h)<;>try simp only[hc]
 |(with_reducible refine aJ hQ ?_;(try cases h);simp only[bh,bk,bO,bP,go_sem,hD,gA,gB,gC,x1,x2,b1,b3,b5,b6,nb,bv];try exact cJ)
 | (cases h;done))
   (refine iX hQ ?_;simp only[bh,bk,bO,bP,go_sem])
   exact⟨rfl,y3,⟨_,yc⟩,h3.sub o9⟩
  ·rw [if_neg (by simp [bv])]at hQ
   repeat' (first
 |simp only[go_sem,hD,gA,gB,gC,x1,x2,b1,b3,b5,b6,nb,bv]
 |(with_reducible refine CU (fT _ _) ?_)
 |(with_reducible refine CU (fE _ _) ?_)
 |(with_reducible first|refine bq fun hc=>?_|refine br fun hc=>?_|refine bt (fun hc=>?_) fun hc=>?_)<;>(try simp only[hc,bs,↓reduceIte]at h)<;>try simp only[hc]
 |(with_reducible refine aJ hQ ?_;(try cases h);simp only[bh,bk,bO,bP,go_sem,hD,gA,gB,gC,x1,x2,b1,b3,b5,b6,nb,bv];try exact cJ)
 | (cases h;done))
   (refine iX hQ ?_;simp only[bh,bk,bO,bP,go_sem])
   exact⟨rfl,y3,⟨_,yc⟩,h3.sub o9⟩
 rw[if_neg (by simp[b6])]at hQ
 repeat' (first
 |simp only[go_sem,hD,gA,gB,gC,x1,x2,b1,b3,b5,b6]
 |(with_reducible first|refine bq fun hc=>?_|refine br fun hc=>?_|refine bt (fun hc=>?_) fun hc=>?_)<;>(try simp only[hc,bs,↓reduceIte]at h)<;>try simp only[hc]
 |(with_reducible refine aJ hQ ?_;(try cases h);simp only[bh,bk,bO,bP,go_sem,hD,gA,gB,gC,x1,x2,b1,b3,b5,b6];try exact cJ)
 |(cases h;done))
 (refine iX hQ ?_;simp only[bh,bk,bO,bP,go_sem])
 exact⟨rfl,y3,⟨_,yc⟩,h3.sub o9⟩
end
end Go.Abs
namespace Go.Abs
set_option maxRecDepth 8000
open Go.Proofs
section
variable {p:Pg} {T W:List Int} {y:Lay} {m:Mc} {loc:List (Nat×List D)} {s:St}
theorem Ch : ∀ (l:List Ar) (m:Mc) (out:List Nat),(Mc.args l m out).2.out=m.out∧(Mc.args l m out).2.trace=m.trace
 | [],m,out=>⟨rfl,rfl⟩
 | a::l,m,out=>by
  have hw:=iR m a.x
  simp only[Mc.args]
  by_cases c:a.ref=true
  ·rw[if_pos c];exact Ch l m _
  ·rw [if_neg c]
   by_cases c2:(m.bj a.x).1.2=true
   ·rw [if_pos c2]
    obtain⟨h1,h2⟩:=Ch l {(m.bj a.x).2 with mem:=(m.bj a.x).2.mem++ [(m.bj a.x).1.1]} (out++ [(m.bj a.x).2.mem.length])
    exact⟨h1.trans hw.2.2.2.2.1,h2.trans hw.2.2.2.2.2⟩
   ·rw[if_neg c2];exact⟨hw.2.2.2.2.1,hw.2.2.2.2.2⟩
structure W4 (p:Pg) (fr:Fr) (v:Sm):Prop where
 said:v.oU
 args : ∀ a∈v.args,a.x.texts∧a.x.size<1000000∧(a.ref=true→∃ k,yd fr a.name k)
 proc : ∃ (j:Nat) (q:Pc),p.at v.proc=(j:Int)∧p.procs[j]? = some q∧p.find q.name=some q
theorem W5 (hp:p.jE) (aao:p.may=true) (h:Inv p T W y m loc s) {fr:Fr} {r:List Fr} (ht:ow m fr r) (hz:LK p T W m) (hg:p.globals.length≤m.mem.length) {v:Sm} (hd:W4 p fr v) :
 bW Tryz.prog qH [.ptr 0 0, .agg (bd v)] s (Rl p T W (.int .i64 (m.call p W v).1) (m.call p W v).2 (fun _=>True) loc):=by
 have h1:=h.new (bd v)
 have Ma:2≤s.aA.length:=by have:=(List.getElem?_eq_some_iff.1 h.t1).1;omega
 generalize hn:s.al.length=n at h1
 generalize PN:s.aA.length=tk at Ma
 have sO:v.args.length<1000000:=by have:=hd.said.2.2;have:=Ar.dR v.args;omega
 have aCj:=ht.st
 refine bW.wK BK rfl fun B Q hB hQ=>?_
 have⟨hD,gA,gB,gC⟩:=bX
 have loop : ∀ (rest:List Ar) (k:Nat) (m1:Mc) (out:List Nat) (y1:Lay) (s1:St),v.args.drop k=rest→Mc.args v.args m [] = Mc.args rest m1 out→m1.st=m.st→m1.trace=m.trace∧m1.out=m.out→m.mem.length≤m1.mem.length→out.length=k∧k≤v.args.length→(∀ c∈out,c<m1.mem.length)→
  Inv p T W y1 m1 ((n,bd v)::loc) s1→s1.aA[tk]? = some (some out.length)→
  bp Tryz.prog B 67 QD2 (iN 0 (lu (jX Tryz.prog B 67 QDH Q) Q))
   [(0, .ptr 0 0),(3, .ptr n 0),(5, .slice (.tok tk) 1 (out.map fun c=>ga (y1.κ.getD c 0))),(12, .slice .shared 6 (v.args.map fi)),(13, .int .i64 (v.args.length:Int)),(14, .int .i64 (k:Int))] s1:=by
  intro rest
  induction rest with
  | nil=>
   intro k m1 out y1 s1 DG oV xk Dr tM yx ri h2 aap
   have hD:=drop_nil DG
   have yU:ow m1 fr r:=⟨by rw[xk];exact ht.st,ht.len,ht.names,ht.vars⟩
   obtain⟨so,g,cells,o,e1,e2,e3,e4,e5⟩:=h2.aah yU.st
   have kJ:=h2.kM
   rw[gj,e1]at kJ
   have vU:=(h2.loc (n,bd v) (by simp)).1
   have jn:=h2.wO
   have J1:m.call p W v=if m1.st.length > 100 then(-1,{m1 with fin:=5})else(m1.event W v.id []).open p (p.at v.proc) out v.id:=by
    unfold Mc.call
    rw[oV]
    rfl
   have hlen:m1.st.length=r.length+1:=by rw[yU.st];rfl
   rw[J1,hlen]at hQ
   simp only at vU
   refine bp.ki ?_
   by_cases ZB:r.length+1 > 100
   ·have Iy:decide (((r.length+1:Nat):Int) > 100)=true:=by simp;omega
    rw[if_pos ZB]at hQ
    have h3:=h2.wb (m':= {m1 with fin:=5}) rfl rfl h2.t0 h2.t1
    rw[gj,e1]at h3
    simp only at h3
    repeat' (first
 |simp only[go_sem,hD,gA,gB,gC,kJ,vU,Iy,jn]
 |(with_reducible first|refine bq fun hc=>?_|refine br fun hc=>?_|refine bt (fun hc=>?_) fun hc=>?_)<;>(try simp only[hc,bs,↓reduceIte]at h)<;>try simp only[hc]
 |(with_reducible refine aJ hQ ?_;(try cases h);simp only[bh,bk,bO,bP,go_sem,hD,gA,gB,gC,kJ,vU,Iy,jn];try exact cJ)
 | (cases h;done))
    (refine iX hQ ?_;simp only[bh,bk,bO,bP,go_sem])
    exact⟨rfl,y1,trivial,h3.sub fun q mq=>List.mem_cons_of_mem _ mq⟩
   ·have Iy:decide (((r.length+1:Nat):Int) > 100)=false:=by simp;omega
    rw[if_neg ZB]at hQ
    have c1:=ya h2 hz.W (by rw[Dr.1];exact hz.trace) v.id
    repeat' (first
 |simp only[go_sem,hD,gA,gB,gC,kJ,vU,Iy,jn]
 |(with_reducible first|refine bq fun hc=>?_|refine br fun hc=>?_|refine bt (fun hc=>?_) fun hc=>?_)<;>(try simp only[hc,bs,↓reduceIte]at h)<;>try simp only[hc]
 |(with_reducible refine aJ hQ ?_;(try cases h);simp only[bh,bk,bO,bP,go_sem,hD,gA,gB,gC,kJ,vU,Iy,jn];try exact cJ)
 | (cases h;done))
    refine CR c1 fun d s3 h3=>?_
    obtain⟨rfl,y3,rfl,h3⟩:=h3
    have he:=fF W m1 v.id []
    obtain⟨j,q,j1,j2,j3⟩:=hd.proc
    obtain⟨y4,s4,hF,h4⟩:=Qw h3 hp aao j2 j3 (by rw[he.1,hlen];have:=ht.len;omega) (l:=out) (by rw[he.2.1];exact ri) (by omega) (by rw[he.2.1];omega) v.id
    have hF':=fun g:Tag=>bW.su (.cons (Wk.refl _) (.cons (Wk.refl _) (.cons (Wk.shared g 1 _) (kv.refl _)))) hF
    have hF2:aH Tryz.prog kg [.ptr 0 0, .int .i64 (j:Int), .slice (.tok tk) 1 (out.map fun c=>ga (y3.κ.getD c 0)), .int .i64 v.id] s3 _ s4:=hF' _
    have cP:=fun s=>HL (p:=p) (by have:=hp.procs.1;omega) v.proc s
    have p9:=h3.kM
    rw[gj]at p9
    have hx3:=(h3.loc (n,bd v) (by simp)).1
    simp only at hx3
    rw[j1]at hQ cP
    repeat' (first
 |simp only[go_sem,hD,gA,gB,gC,p9,hx3]
 |(with_reducible refine CU (cP _) ?_)
 |(with_reducible refine CU (hF2) ?_)
 |(with_reducible first|refine bq fun hc=>?_|refine br fun hc=>?_|refine bt (fun hc=>?_) fun hc=>?_)<;>(try simp only[hc,bs,↓reduceIte]at h)<;>try simp only[hc]
 |(with_reducible refine aJ hQ ?_;(try cases h);simp only[bh,bk,bO,bP,go_sem,hD,gA,gB,gC,p9,hx3];try exact cJ)
 | (cases h;done))
    (refine iX hQ ?_;simp only[bh,bk,bO,bP,go_sem])
    exact⟨rfl,y4,trivial,h4.sub fun q mq=>List.mem_cons_of_mem _ mq⟩
  | cons a rest ih=>
   intro k m1 out y1 s1 DG oV xk Dr tM yx ri h2 aap
   obtain⟨gA,g2,hD,g4⟩:=drop_cons DG
   have ct:k<4611686018427387904:=by omega
   obtain⟨a1,a2,a3⟩:=hd.args a (List.mem_of_getElem? gA)
   have yU:ow m1 fr r:=⟨by rw[xk];exact ht.st,ht.len,ht.names,ht.vars⟩
   have h3:=h2.new (fi a)
   have zq : ∀ z:List D,(s1.al++ [z]).set s1.al.length (fi a)=s1.al++ [fi a]:=fun z=>by simp
   have zg : ∀ z:List D,(s1.al++ [z])[s1.al.length]? = some z:=fun z=>by simp
   have fv : ∀ (x:Nat) (os:List (List D)),jv 1 8 (.slice (.tok tk) 1 (out.map fun c=>ga (y1.κ.getD c 0))) (.slice .full 1 [[.ptr x 0]]) ⟨os,s1.aA⟩=some (.slice (.tok tk) 1 ((out.map fun c=>ga (y1.κ.getD c 0))++ [ga x]),⟨os,s1.aA.set tk (some (out.length+1))⟩):=fun x os=>by
    rw[pH (size:=1) (by simp only[List.length_map,List.length_singleton];unfold bD;omega) (by simpa using aap)]
    simp[ga]
   have Gz : ∀ k':Nat,(s1.aA.set tk (some k'))[0]? = s1.aA[0]? ∧(s1.aA.set tk (some k'))[1]? = s1.aA[1]? ∧(s1.aA.set tk (some k'))[tk]? = some (some k'):=fun k'=>
    ⟨List.getElem?_set_ne (by omega),List.getElem?_set_ne (by omega),by simp[(List.getElem?_eq_some_iff.1 aap).1]⟩
   refine bp.ki ?_
   rcases Bool.eq_false_or_eq_true a.ref with b|b
   ·obtain⟨c,hc⟩:=a3 b
    have N6:=hc.cell yU.top
    obtain⟨j,hj,Ej⟩:=hc
    have c1:=E0 h3 yU.st yU.len yU.names hj Ej
    obtain⟨hκ,v0,gm,_⟩:=cell_of h2 yU.st Ej
    have yF:=(List.getElem?_eq_some_iff.1 gm).1
    repeat' (first
 |simp only[go_sem,hD,gA,gB,gC,gA,zq,zg,b,fv]
 |(with_reducible refine CU (c1) ?_)
 |(with_reducible first|refine bq fun hc=>?_|refine br fun hc=>?_|refine bt (fun hc=>?_) fun hc=>?_)<;>(try simp only[hc,bs,↓reduceIte]at h)<;>try simp only[hc]
 |(with_reducible refine aJ hQ ?_;(try cases h);simp only[bh,bk,bO,bP,go_sem,hD,gA,gB,gC,gA,zq,zg,b,fv];try exact cJ)
 | (cases h;done))
    have:=ih (k+1) m1 (out++ [c]) y1 ⟨s1.al++ [fi a],s1.aA.set tk (some (out.length+1))⟩ g2 (by rw[oV];simp only[Mc.args,b,if_true,N6]) xk Dr tM ⟨by simp[yx.1],g4⟩ (fun x mx=>by
     rcases List.mem_append.1 mx with mx|mx
     ·exact ri x mx
     ·rw[List.mem_singleton.1 mx];exact yF) ((h3.sub fun q mq=>List.mem_cons_of_mem _ mq).keep (fun _ _ e=>e) (Gz _).1 (Gz _).2.1) (by simpa using (Gz _).2.2)
    refine bp.rn ?_ this
    simp only[go_sem,aM ct,List.map_append,List.map_cons,List.map_nil]
    repeat' (first|exact Ok.out|with_reducible refine jo ?_ ?_)
   ·have c1:=Gw h3 yU a2 a1
    repeat' (first
 |simp only[go_sem,hD,gA,gB,gC,gA,zq,zg,b]
 |(with_reducible first|refine bq fun hc=>?_|refine br fun hc=>?_|refine bt (fun hc=>?_) fun hc=>?_)<;>(try simp only[hc,bs,↓reduceIte]at h)<;>try simp only[hc]
 |(with_reducible refine aJ hQ ?_;(try cases h);simp only[bh,bk,bO,bP,go_sem,hD,gA,gB,gC,gA,zq,zg,b];try exact cJ)
 | (cases h;done))
    refine CR c1 fun d s2 h4=>?_
    obtain⟨⟨rfl,y2,yc,h4⟩,xu⟩:=h4
    have hw:=iR m1 a.x
    simp only at xu
    rcases Bool.eq_false_or_eq_true (m1.bj a.x).1.2 with bw|bw
    ·have W2:(m1.bj a.x).2=m1:=by
      unfold Mc.bj
      dsimp only
      rw[if_pos (show(a.x.bj m1.top.names m1.bJ).2=true from bw)]
     rw[W2]at h4
     have yq : ∀ z:List D,(s2.al++ [z]).set s2.al.length [.int .i64 (m1.bj a.x).1.1] = s2.al++ [[.int .i64 (m1.bj a.x).1.1]]:=fun z=>by simp
     have yg : ∀ z:List D,(s2.al++ [z])[s2.al.length]? = some z:=fun z=>by simp
     rw[← xu]at fv Gz
     have h5:=h4.at7 (m1.bj a.x).1.1 (by omega)
     have hyκ:y2.κ=y1.κ:=by rw[yc]
     have amB:y1.κ.length=m1.mem.length:=h2.len
     repeat' (first
 |simp only[go_sem,hD,gA,gB,gC,bw,yq,yg,fv]
 |(with_reducible first|refine bq fun hc=>?_|refine br fun hc=>?_|refine bt (fun hc=>?_) fun hc=>?_)<;>(try simp only[hc,bs,↓reduceIte]at h)<;>try simp only[hc]
 |(with_reducible refine aJ hQ ?_;(try cases h);simp only[bh,bk,bO,bP,go_sem,hD,gA,gB,gC,bw,yq,yg,fv];try exact cJ)
 | (cases h;done))
     have:=ih (k+1) {m1 with mem:=m1.mem++ [(m1.bj a.x).1.1]} (out++ [m1.mem.length]) {y2 with κ:=y2.κ++ [s2.al.length]} ⟨s2.al++ [[.int .i64 (m1.bj a.x).1.1]],s2.aA.set tk (some (out.length+1))⟩ g2
      (by rw [oV];simp only [Mc.args,b,Bool.false_eq_true,if_false,bw,if_true,W2]) xk Dr (by simp;omega) ⟨by simp [yx.1],g4⟩ (fun x mx=>by
       simp only[List.length_append,List.length_singleton]
       rcases List.mem_append.1 mx with mx|mx
       ·have:=ri x mx;omega
       ·rw[List.mem_singleton.1 mx];omega) ((h5.sub fun q mq=>List.mem_cons_of_mem _ mq).keep (fun _ _ e=>e) (Gz _).1 (Gz _).2.1) (by simpa using (Gz _).2.2)
     refine bp.rn ?_ this
     have aug:(out.map fun c=>ga ((y2.κ++ [s2.al.length]).getD c 0))=out.map fun c=>ga (y1.κ.getD c 0):=List.map_congr_left fun c mc=>by rw[hyκ,Gy (by have:=ri c mc;omega)]
     have dB:(y2.κ++ [s2.al.length]).getD m1.mem.length 0=s2.al.length:=by rw[hyκ, ← amB];simp[List.getD_eq_getElem?_getD]
     simp only[go_sem,aM ct,List.map_append,List.map_cons,List.map_nil,aug,dB]
     repeat' (first|exact Ok.out|with_reducible refine jo ?_ ?_)
    ·repeat' (first
 |simp only[go_sem,hD,gA,gB,gC,bw]
 |(with_reducible first|refine bq fun hc=>?_|refine br fun hc=>?_|refine bt (fun hc=>?_) fun hc=>?_)<;>(try simp only[hc,bs,↓reduceIte]at h)<;>try simp only[hc]
 |(with_reducible refine aJ hQ ?_;(try cases h);simp only[bh,bk,bO,bP,go_sem,hD,gA,gB,gC,bw];try exact cJ)
 |(cases h;done))
     (refine iX hQ ?_;simp only[bh,bk,bO,bP,go_sem])
     have J1:m.call p W v=(-1,(m1.bj a.x).2):=by
      unfold Mc.call
      rw[oV]
      simp only[Mc.args,b,Bool.false_eq_true,if_false,bw]
     rw[J1]
     exact⟨rfl,y2,trivial,h4.sub fun q mq=>List.mem_cons_of_mem _ (List.mem_cons_of_mem _ mq)⟩
 have hz0:(s.al++ [bd v])[n]? = some (bd v):=by simp[← hn]
 have l0:=loop v.args 0 m [] y ⟨s.al++ [bd v],s.aA++ [some 0]⟩ rfl rfl rfl ⟨rfl,rfl⟩ (Nat.le_refl _) ⟨rfl,Nat.zero_le _⟩ (by simp) (h1.aA _) (by simp[← PN])
 repeat' (first
 |simp only[go_sem,hD,gA,gB,gC,hz0,hn]
 |(with_reducible first|refine bq fun hc=>?_|refine br fun hc=>?_|refine bt (fun hc=>?_) fun hc=>?_)<;>(try simp only[hc,bs,↓reduceIte]at h)<;>try simp only[hc]
 |(with_reducible refine aJ hQ ?_;(try cases h);simp only[bh,bk,bO,bP,go_sem,hD,gA,gB,gC,hz0,hn];try exact cJ)
 |(cases h;done))
 refine bp.rD 5 1 rfl ?_
 simp only[go_sem,hD,gA,gB,gC]
 refine bp.rn ?_ l0
 simp only[go_sem,PN,List.map_nil]
 repeat' (first|exact Ok.out|with_reducible refine jo ?_ ?_)
end
end Go.Abs
namespace Go.Abs
theorem aaq {v:Sm} (h:v.one=true) (hk:v.kind=1∨v.kind=2):v.name≠ []:=by
 intro e
 have hn:v.hasName=true:=by unfold Sm.hasName;rcases hk with hk|hk<;>simp[hk]
 unfold Sm.one at h
 split at h
 ·cases h
 ·rw [e,hn]at h
  simp[isName]at h
theorem KU {v:Sm} (hk:v.kind≠10) (hn:v.name≠ []):v.name∈v.said:=by
 unfold Sm.said Sm.vm
 refine w9 (.inl ?_)
 rw[if_pos (by simp[hk,hn])]
 simp
theorem tZ {name:aK} {f:Pc} : ∀ {l:List Pc},iF name l=some f→f.name=name
 |g::l,h=>by
  simp only[iF]at h
  split at h
  ·rename_i e;cases h;simpa using e
  ·exact tZ h
mutual
theorem aiN : ∀ s:Sm,∀ v∈s.pre,v.size≤s.size
 | ⟨id,kind,labels,name,proc,x,has,args,aQ,aN⟩,v,m=>by
  rw[Sm.nU]at m
  rcases List.mem_cons.1 m with rfl|m
  ·exact Nat.le_refl _
  ·simp only [Sm.size]
   rcases List.mem_append.1 m with m|m
   ·have:=E1 aQ v m;omega
   ·have:=E1 aN v m;omega
theorem E1 : ∀ l:List Sm,∀ v∈Sm.bN l,v.size≤Sm.aU l
 | [],v,m=>by simp[Sm.bN]at m
 |s::l,v,m=>by
  simp only[Sm.bN,List.mem_append]at m
  simp only[Sm.aU]
  rcases m with m|m
  ·have:=aiN s v m;omega
  ·have:=E1 l v m;omega
end
theorem JD : ∀ l:List Sm,l.length≤Sm.aU l
 | []=>Nat.le_refl _
 |s::l=>by
  have:=JD l
  have h1:1≤s.size:=by cases s;simp only[Sm.size];omega
  simp only[Sm.aU,List.length_cons];omega
section
variable {p:Pg} {m:Mc} {a:Int}
theorem N7 (hO:p.jE) (h:qS p p.a7.L a m) (hl:m.st.length≤1000) : ∃ fr r f,ow m fr r∧p.procs[fr.proc.toNat]? = some f∧fr.names=p.globals++f.own∧fr.vars.length=fr.names.length∧m.top=fr:=by
 obtain⟨fr,r,e⟩:=h.st.ne
 have ht:m.top=fr:=by simp[Mc.top,e]
 obtain⟨f,h1,h2,h3,h4,h5⟩:=h.fr fr (by rw[e];exact List.mem_cons_self ..)
 have hf:=List.mem_of_getElem? h1
 have s1:=Pc.cZ hf
 have s2:=hO.sz
 simp only[Pg.size]at s2
 have hn:fr.names.length<1000000:=by
  rw[h3]
  have s3:=hO.small hf
  simp only[Pc.size]at s1
  simp only[List.length_append,Pc.own,Pc.tO,List.length_map]
  have:=s3.par;have:=s3.vars
  omega
 rw[e]at hl
 exact⟨fr,r,f,⟨e,by simp at hl;omega,hn,by omega⟩,h1,h3,h4,ht⟩
theorem JE {fr:Fr} (hv:fr.vars.length=fr.names.length) {n:aK} (hn:n∈fr.names) : ∃ k,yd fr n k:=by
 obtain⟨j,h1,h2⟩:=N0 (k:=0) hn
 exact⟨_,j,by simpa using h1,List.getElem?_eq_getElem (by omega)⟩
theorem aeS {fr:Fr} (h:qS p p.a7.L a m) (ht:m.top=fr) (hR:p.Right) (ha:a≠ -1) {f:Pc} (hf:p.procs[fr.proc.toNat]? = some f):Ca p p.a7.L (dY p.a7.L a) f∧(dY p.a7.L a).proc=fr.proc∧dY p.a7.L a∈p.a7.L∧
 ∃ c:Nat,a=(c:Int)+1∧p.a7.L[c]? = some (dY p.a7.L a):=by
 have hm:=h.at_.resolve_left ha
 have iO:=qR (L:=p.a7.L) (.inr ⟨hm.1,hm.2.1⟩) ha
 obtain⟨f',o⟩:=(pA hR).im _ iO
 have hp:(dY p.a7.L a).proc=fr.proc:=by rw[← ht];exact hm.2.2
 have:f'=f:=by have:=o.proc.1;rw[hp,hf]at this;exact(Option.some.inj this).symm
 subst this
 have h1:=hm.1
 have h2:=hm.2.1
 refine⟨o,hp,iO,(a - 1).toNat,by omega, ?_⟩
 unfold dY
 rw[List.getD_eq_getElem?_getD,List.getElem?_eq_getElem (show(a - 1).toNat<p.a7.L.length by omega)];rfl
theorem Qx (hO:p.jE) (hR:p.Right) {x:Im} {f:Pc} {fr:Fr} (hx:Ca p p.a7.L x f) (hn:fr.names=p.globals++f.own) (hv:fr.vars.length=fr.names.length):aiH p fr x:=by
 have hf:=List.mem_of_getElem? hx.proc.1
 have rH:x.s∈p.pre:=by
  simp only[Pg.pre,List.mem_flatten,List.mem_map];exact⟨_,⟨f,hf,rfl⟩,hx.mem⟩
 have dU:=E1 f.body x.s hx.mem
 have s1:=Pc.cZ hf
 have s2:=hO.sz
 simp only[Pg.size]at s2
 simp only[Pc.size]at s1
 have hs:Sm.aU x.s.aQ+Sm.aU x.s.aN≤x.s.size:=by
  cases x with
  |mk s _ _ _ _=>cases s;simp only[Sm.size];omega
 refine⟨hO.said hf _ hx.mem,fun hk=>?_,fun hk=>?_,fun hk=>?_, ?_, ?_⟩
 ·have hl:=hx.loop (.inl hk)
  have h1:=hl.1
  have h2:=hl.2.1
  exact⟨(x.loop - 1).toNat,_,by omega,List.getElem?_eq_getElem (by omega)⟩
 ·obtain⟨i,hi⟩:=Int.eq_ofNat_of_zero_le hx.proc.2
  exact⟨i,f,hi,by have:=hx.proc.1;rwa [hi,Int.toNat_natCast]at this⟩
 ·refine JE hv ?_
  rw[hn]
  exact Cb hR hx (KU (by rcases hk with hk|hk<;>omega) (aaq (ET hR.may _ rH) hk))
 ·have:=JD x.s.aQ;omega
 ·have:=JD x.s.aN;omega
theorem W6 (hO:p.jE) (hR:p.Right) {x:Im} {f:Pc} {fr:Fr} (hx:Ca p p.a7.L x f) (hk:x.s.kind=4) (hn:fr.names=p.globals++f.own) (hv:fr.vars.length=fr.names.length):W4 p fr x.s:=by
 have hf:=List.mem_of_getElem? hx.proc.1
 have uq:=hO.said hf _ hx.mem
 have rH:x.s∈p.pre:=by
  simp only[Pg.pre,List.mem_flatten,List.mem_map];exact⟨_,⟨f,hf,rfl⟩,hx.mem⟩
 refine⟨uq,fun b mb=>⟨uq.2.1 b mb, ?_,fun hr=>?_⟩, ?_⟩
 ·have:=uq.2.2
  have key : ∀ l:List Ar,b∈l→b.x.size≤Ar.aU l:=fun l=>by
   induction l with
   |nil=>intro m;cases m
   |cons c l ih=>
    intro m
    simp only[Ar.aU]
    rcases List.mem_cons.1 m with rfl|m
    ·omega
    ·have:=ih m;omega
  have:=key _ mb
  omega
 ·refine JE hv ?_
  rw[hn]
  exact Cb hR hx (w9 (.inr ⟨b,mb,hr,rfl⟩))
 ·have kn:=hR.fits _ rH (by simp [hk])
  obtain⟨q,hq⟩:=KN kn
  obtain⟨j,h1,h2⟩:=EY (k:=0) hq
  exact⟨j,q,by simpa[Pg.at]using h1,h2,by rw[tZ hq];exact hq⟩
theorem TV (hO:p.jE) (hR:p.Right) (h:qS p p.a7.L a m) (hl:m.st.length≤1000) {fr:Fr} {r:List Fr} (ht:ow m fr r) :
 fr.call=0∨∃ (c:Nat) (it:Im) (wN:Fr) (r2:List Fr),fr.call=(c:Int)+1∧p.a7.L[c]? = some it∧ow {m with st:=r} wN r2∧(it.s.name≠ []→∃ k,yd wN it.s.name k):=by
 have hs:=h.st
 have jr:=ht.st
 rw[jr]at hs
 cases r with
 |nil=>exact .inl hs
 | cons wN r2=>
  obtain⟨⟨h1,Kx⟩,h2⟩:=hs
  have e1:=h1.1
  have e2:=h1.2.1
  refine .inr ⟨(fr.call - 1).toNat,dY p.a7.L fr.call,wN,r2,by omega, ?_, ?_,fun hn=>?_⟩
  ·unfold dY
   rw[List.getD_eq_getElem?_getD,List.getElem?_eq_getElem (show(fr.call - 1).toNat<p.a7.L.length by omega)];rfl
  ·have h3:qS p p.a7.L (-1) {m with st:=wN::r2}:=⟨h2,fun q hq=>h.fr q (by rw [jr];exact List.mem_cons_of_mem _ hq), .inl rfl,h.sA⟩
   obtain⟨Qv,r',f',t,_⟩:=N7 hO h3 (by rw[jr]at hl;simp at hl ⊢;omega)
   have:=t.st
   cases this
   exact t
  ·obtain⟨f,g1,g2,g3,g4,g5⟩:=h.fr wN (by rw [jr];simp)
   have iO:dY p.a7.L fr.call∈p.a7.L:=qR (.inr ⟨e1,e2⟩) (by omega)
   obtain⟨f',o⟩:=(pA hR).im _ iO
   have:f'=f:=by have:=o.proc.1;rw[h1.2.2,g1]at this;exact(Option.some.inj this).symm
   subst this
   refine JE g4 ?_
   rw[g3]
   exact Cb hR o (KU (by omega) hn)
end
end Go.Abs
namespace Go.Abs
structure Af (m:Mc):Prop where
 steps:0≤m.steps
 trace:(m.trace.length:Int)≤m.steps
 out:(m.out.length:Int)≤m.steps
 reads:0≤m.reads∧m.reads≤m.steps
 st:m.st.length≤101
structure El (m m':Mc):Prop where
 trace:m'.trace.length≤m.trace.length+1
 out:m'.out.length≤m.out.length+1
 reads:m'.reads=m.reads∨m'.reads=m.reads+1
 steps:m'.steps=m.steps
theorem W7 (W:List Int) (m:Mc) (id:Int) (bJ:List Int):(m.event W id bJ).trace.length≤m.trace.length+1:=by
 unfold Mc.event
 split<;>simp
theorem nX (W:List Int) (m:Mc) (id:Int) (bJ:List Int):El m (m.event W id bJ):=by
 have h:=fF W m id bJ
 exact⟨W7 W m id bJ,by rw[h.2.2.2.2.2];omega, .inl h.2.2.2.2.1,h.2.2.2.1⟩
theorem Iz (m:Mc) (x:Ex):El m (m.bj x).2:=by
 have h:=iR m x
 exact⟨by rw[h.2.2.2.2.2];omega,by rw[h.2.2.2.2.1];omega, .inl h.2.2.2.1,h.2.2.1⟩
theorem zk (p:Pg) (m:Mc) (i:Int) (l:List Nat) (c:Int):(m.open p i l c).2.trace=m.trace∧(m.open p i l c).2.out=m.out∧(m.open p i l c).2.reads=m.reads∧(m.open p i l c).2.steps=m.steps:=by
 unfold Mc.open
 split<;>exact⟨rfl,rfl,rfl,rfl⟩
theorem zl : ∀ (l:List Ar) (m:Mc) (out:List Nat),(Mc.args l m out).2.reads=m.reads∧(Mc.args l m out).2.steps=m.steps
 | [],m,out=>⟨rfl,rfl⟩
 | a::l,m,out=>by
  have hw:=iR m a.x
  simp only[Mc.args]
  by_cases c:a.ref=true
  ·rw[if_pos c];exact zl l m _
  ·rw [if_neg c]
   by_cases c2:(m.bj a.x).1.2=true
   ·rw [if_pos c2]
    obtain⟨h1,h2⟩:=zl l {(m.bj a.x).2 with mem:=(m.bj a.x).2.mem++ [(m.bj a.x).1.1]} (out++ [(m.bj a.x).2.mem.length])
    exact⟨h1.trans hw.2.2.2.1,h2.trans hw.2.2.1⟩
   ·rw[if_neg c2];exact⟨hw.2.2.2.1,hw.2.2.1⟩
theorem W8 (p:Pg) (W:List Int) (m:Mc) (v:Sm):El m (m.call p W v).2∧((m.call p W v).2.st.length≤m.st.length∨(m.call p W v).2.st.length≤101):=by
 have h1:=Ch v.args m []
 have h2:=zl v.args m []
 have h3:=(xb v.args m []).1
 unfold Mc.call
 generalize Mc.args v.args m [] = r at *
 obtain⟨o,m1⟩:=r
 dsimp only at h1 h2 h3
 cases o with
 |none=>exact⟨⟨by simp[h1.2],by simp[h1.1], .inl h2.1,h2.2⟩, .inl (by simp[h3])⟩
 | some l=>
  dsimp only
  by_cases c:m1.st.length > 100
  ·rw[if_pos c];exact⟨⟨by simp[h1.2],by simp[h1.1], .inl h2.1,h2.2⟩, .inl (by simp[h3])⟩
  ·rw [if_neg c]
   have e1:=nX W m1 v.id []
   have e2:=zk p (m1.event W v.id []) (p.at v.proc) l v.id
   have e3:=(Bc p (m1.event W v.id []) (p.at v.proc) l v.id).1
   have e4:=(fF W m1 v.id []).1
   refine⟨⟨by rw[e2.1, ← h1.2];exact e1.trace,by rw[e2.2.1, ← h1.1];exact e1.out, ?_,by rw[e2.2.2.2,e1.steps,h2.2]⟩, .inr (by rw[e4]at e3;omega)⟩
   rw[e2.2.2.1, ← h2.1];exact e1.reads
theorem TW (W:List Int) (m:Mc) (v:Sm):El m (m.fH W v).2:=by
 have hw:=iR m v.x
 unfold Mc.fH
 split
 ·dsimp only
  split
  ·have e:=nX W (m.bj v.x).2 v.id [(m.bj v.x).1.1]
   exact⟨by rw[← hw.2.2.2.2.2];exact e.trace,by rw[← hw.2.2.2.2.1];exact e.out,by rw[← hw.2.2.2.1];exact e.reads,e.steps.trans hw.2.2.1⟩
  ·exact Iz m v.x
 ·exact nX W m v.id []
theorem aeT (p:Pg) (L:List Im) (T W:List Int) (m:Mc) (it:Im):El m (m.do p L T W it).2:=by
 have hw:=iR m it.s.x
 unfold Mc.do
 dsimp only
 split
 ·exact nX W m _ _
 split
 ·exact nX W m _ _
 split
 ·exact nX W m _ _
 split
 ·split
  ·exact⟨by simp,by simp, .inl rfl,rfl⟩
  ·rename_i n _
   have e:=nX W (({m with reads:=m.reads+1} : Mc).set it.s.name n) it.s.id [n]
   have e2:=(fF W (({m with reads:=m.reads+1} : Mc).set it.s.name n) it.s.id [n])
   exact⟨e.trace,e.out, .inr e2.2.2.2.2.1,e2.2.2.2.1⟩
 split
 ·have e:=nX W (m.bj it.s.x).2 it.s.id [(m.bj it.s.x).1.1]
  have e2:=fF W (m.bj it.s.x).2 it.s.id [(m.bj it.s.x).1.1]
  have k:El m ((m.bj it.s.x).2.event W it.s.id [(m.bj it.s.x).1.1]):=⟨by rw[← hw.2.2.2.2.2];exact e.trace,by rw[← hw.2.2.2.2.1];exact e.out,by rw[← hw.2.2.2.1];exact e.reads,e.steps.trans hw.2.2.1⟩
  split
  ·exact⟨k.trace,k.out,k.reads,k.steps⟩
  split
  ·exact⟨k.trace,by simp[e2.2.2.2.2.2,hw.2.2.2.2.1],k.reads,k.steps⟩
  split
  ·exact k
  split
  ·exact k
  ·exact k
 ·exact Iz m it.s.x
theorem Ci (L:List Im) (m:Mc) (g:Int):(m.close L g).2.trace=m.trace∧(m.close L g).2.out=m.out∧(m.close L g).2.reads=m.reads∧(m.close L g).2.steps=m.steps∧(m.close L g).2.st=m.st.tail:=by
 unfold Mc.close
 dsimp only
 split
 ·exact⟨rfl,rfl,rfl,rfl,rfl⟩
 ·split<;>exact⟨rfl,rfl,rfl,rfl,rfl⟩
theorem Af.less {m m1:Mc} (h:Af m) (k:El {m with steps:=m.steps+1} m1) (hs:m1.st.length≤101):Af m1:=by
 have h1:=h.steps;have h2:=h.trace;have h3:=h.out;have h4:=h.reads
 have k1:=k.trace;have k2:=k.out;have k3:=k.reads;have k4:=k.steps
 dsimp only at k1 k2 k3 k4
 exact⟨by omega,by omega,by omega,by omega,hs⟩
theorem Af.close {L:List Im} {m:Mc} (h:Af m) (g:Int):Af (m.close L g).2:=by
 obtain⟨h1,h2,h3,h4,h5⟩:=Ci L m g
 exact⟨by rw[h4];exact h.steps,by rw[h1,h4];exact h.trace,by rw[h2,h4];exact h.out,by rw[h3,h4];exact h.reads,by rw[h5];have:=h.st;simp;omega⟩
theorem Af.run {p:Pg} {T W:List Int} {m:Mc} (h:Af m) (hs:m.steps≤1000000) (hO:p.jE) (hW:W.length<1000000) (hT:T.length<1000000):LK p T W m:=by
 obtain⟨s9,p7,sR⟩:=hO.procs
 have:=qO p
 have h2:=h.trace;have h3:=h.out;have h4:=h.reads
 exact⟨hW,hT,by omega,by omega,by omega,by omega,by omega⟩
set_option maxRecDepth 8000
open Go.Proofs
theorem aeU {p:Pg} (h:p.jE) (ni:(p.scope.1==0)=true) (s:St):aH Tryz.prog tv [.agg (bV p)] s (.dS (gu p) 0) s:=by
 refine aH.pure ?_ (by simp[D.bM,D.ok,jj]) (by simp[D.ok,wy]) s
 obtain⟨s9,p7,sR⟩:=h.procs
 have ri:=fun s=>xS h s
 have dB:=fun s=>EL (p:=p) (by omega) s
 have b0:(p.scope.1 != 0) = !(p.scope.1==0):=rfl
 rw[ni]at b0
 unfold S0
 refine aH.go AY rfl fun B Q hB hQ=>?_
 have⟨hD,gA,gB,gC⟩:=bX
 repeat' (first
 |simp only[go_sem,hD,gA,gB,gC,b0,Bool.not_true]
 |(with_reducible refine CU (ri _) ?_)
 |(with_reducible refine CU (dB _) ?_)
 |(with_reducible refine aJ hQ ?_;exact bA))
theorem aeV {p:Pg} (h:p.jE) (ni:(p.scope.1==0)=false) (s:St):aH Tryz.prog tv [.agg (bV p)] s .eY s:=by
 refine aH.pure ?_ (by simp[D.bM,D.ok,jj]) rfl s
 have ri:=fun s=>xS h s
 have b0:(p.scope.1 != 0) = !(p.scope.1==0):=rfl
 rw[ni]at b0
 unfold S0
 refine aH.go AY rfl fun B Q hB hQ=>?_
 have⟨hD,gA,gB,gC⟩:=bX
 repeat' (first
 |simp only[go_sem,hD,gA,gB,gC,b0,Bool.not_false]
 |(with_reducible refine CU (ri _) ?_)
 |(with_reducible refine aJ hQ ?_;exact bA))
mutual
theorem aar {pr up next loop:Int} : ∀ (s:Sm) (m:Im),m∈s.tR pr up next loop→m.proc=pr
 | ⟨id,kind,labels,name,pc,x,has,args,aQ,aN⟩,m,h=>by
  simp only[Sm.tR]at h
  rcases List.mem_cons.1 h with rfl|h
  ·rfl
  ·rcases List.mem_append.1 h with h | h
   ·exact zm aQ m h
   ·exact zm aN m h
theorem zm {pr up next loop:Int} : ∀ (l:List Sm) (m:Im),m∈Sm.fJ pr up next loop l→m.proc=pr
 |s::l,m,h=>by
  simp only[Sm.fJ]at h
  rcases List.mem_append.1 h with h|h
  ·exact aar s m h
  ·exact zm l m h
end
theorem Ag : ∀ a b:List Sm,dO (a++b)=dO a++dO b
 | [],b=>rfl
 |v::a,b=>by simp only[List.cons_append,dO,Ag a b,List.append_assoc]
mutual
theorem Px : ∀ s:Sm,(dO s.pre).length≤s.size
 |⟨id,kind,labels,name,pc,x,has,args,aQ,aN⟩=>by
  have:=ub aQ;have:=ub aN
  simp only[Sm.pre,dO,Ag,List.length_append,Sm.size];omega
theorem ub : ∀ l:List Sm,(dO (Sm.bN l)).length≤Sm.aU l
 | []=>Nat.le_refl _
 |s::l=>by
  have:=Px s;have:=ub l
  simp only[Sm.bN,Ag,List.length_append,Sm.aU];omega
end
theorem W9 (seen l:List aK):(jU seen l).1.length≤seen.length+l.length:=(Ky l seen).2
theorem aas {p:Pg} (h:p.jE) (s:St):aH Tryz.prog xF [.agg (bV p)] s (.agg [.int .i64 p.jump.1, .int .i64 p.jump.2]) s:=by
 refine aH.pure ?_ (by simp[D.bM,D.ok,jj]) rfl s
 obtain⟨s9,p7,sR⟩:=h.procs
 obtain⟨R,hR⟩ : ∃ R,p.jump=R:=⟨_,rfl⟩
 rw[hR]
 unfold Pg.jump at hR
 unfold S0
 rcases Bool.eq_false_or_eq_true (p.scope.1==0)with ni|ni
 case inr=>
  have hs:=fun s=>aeV h ni s
  simp only[ni,Bool.false_eq_true,if_false]at hR
  subst hR
  refine aH.go AU rfl fun B Q hB hQ=>?_
  have⟨hD,gA,gB,gC⟩:=bX
  repeat' (first
 |simp only[go_sem,hD,gA,gB,gC]
 |(with_reducible refine CU (hs _) ?_)
 |(with_reducible refine aJ hQ ?_;exact bA))
 have hs:=fun s=>aeU h ni s
 have hb:=D2 ni
 simp only[ni,if_true]at hR
 refine aH.go AU rfl fun B Q hB hQ=>?_
 have⟨hD,gA,gB,gC⟩:=bX
 repeat' (first
 |simp only[go_sem,hD,gA,gB,gC]
 |(with_reducible refine CU (hs _) ?_)
 |(with_reducible refine aJ hQ ?_;exact bA))
 refine fI 2 0 (bp.ind (ι:=List Pc×Nat) (fun i=>p.procs.drop i.2=i.1∧Bb 7 (vq i.1)=R) (fun i=>i.1.length)
  (fun i=> [(1, .ptr 0 0),(2, .ptr 1 0),(3, .dS (gu p) 0),(16, .slice .shared 5 (p.procs.map bS)),(17, .int .i64 (p.procs.length:Int)),(18, .int .i64 (i.2:Int))]) (fun i=>⟨[bV p,[.int .i64 0, .int .i64 0]],[]⟩) ?_ (p.procs,0) ⟨rfl,hR⟩)
 clear hR
 rintro⟨rest,k⟩ ⟨h1,hR⟩ IH
 dsimp only at h1 hR
 cases rest with
 |nil=>
  have hD:=drop_nil h1
  simp only[vq,Bb]at hR
  subst hR
  repeat' (first
 |simp only[go_sem,hD,gA,gB,gC]
 |(with_reducible refine aJ hQ ?_;exact bA))
 | cons f rest=>
  obtain⟨gA,g2,hD,g4⟩:=drop_cons h1
  have ct:k<4611686018427387904:=by omega
  have CO:=List.mem_of_getElem? gA
  have zb:=fun s=>aib hb gA (by omega) s
  have rH:=tT (k:Int) 0 (-1) 0 f.body
  have yZ:=Gn (k:Int) f
  have amC:=fun m=>zm (pr:=(k:Int)) (up:=0) (next:= -1) (loop:=0) f.body m
  have NF:=H7 h CO
  have xW:=Kz h CO
  have N8:(dO (Sm.bN f.body)).length≤900000:=by
   have h1:=ub f.body
   have h2:=Pc.cZ CO
   simp only[Pc.size]at h2
   omega
  rw[← rH]at N8
  generalize hI:Sm.fJ (k:Int) 0 (-1) 0 f.body=I at *
  have hIl:I.length≤900000:=by rw[← rH,List.length_map]at NF;exact NF
  simp only[vq, ← yZ]at hR
  obtain⟨J,hJ⟩ : ∃ J,vn f.labels f.fin [] (I.map Im.pair)=J:=⟨_,rfl⟩
  rw[hJ]at hR
  have hld:=fun(m:Im) (hm:m∈I) s=>aeA h hb gA m (amC m hm) s
  repeat' (first
 |simp only[go_sem,hD,gA,gB,gC]
 |(with_reducible refine CU (zb _) ?_)
 | (with_reducible refine aJ hQ ?_;exact bA))
  refine bp.rD 6 1 rfl ?_
  simp only[go_sem,hD,gA,gB,gC]
  refine fI 3 1 (bp.ind (ι:=List Im×Nat×List aK×Nat) (fun i=>I.drop i.2.1=i.1∧vn f.labels f.fin i.2.2.1 (i.1.map Im.pair)=J∧i.2.2.2=i.2.2.1.length∧i.2.2.1.length+(dO (i.1.map Im.s)).length≤900000) (fun i=>i.1.length)
   (fun i=> [(1, .ptr 0 0),(2, .ptr 1 0),(3, .dS (gu p) 0),(5, .ptr 2 0),(6, .slice (.tok 0) 1 (i.2.2.1.map encStr)),(16, .slice .shared 5 (p.procs.map bS)),(17, .int .i64 (p.procs.length:Int)),(18, .int .i64 (k:Int)),
    (25, .slice .shared 17 (I.map dP)),(26, .int .i64 (I.length:Int)),(27, .int .i64 (i.2.1:Int))]) (fun i=>⟨[bV p,[.int .i64 0, .int .i64 0],bS f],[some i.2.2.2]⟩) ?_ (I,0,[],0) ⟨rfl,hJ,rfl,by simpa using N8⟩)
  clear hJ
  rintro⟨ze,k2,seen,n2⟩ ⟨j1,j2,j3,j4⟩ HQ
  dsimp only at j1 j2 j3 j4
  subst j3
  cases ze with
  | nil=>
   have aiO:=drop_nil j1
   simp only[List.map_nil,vn]at j2
   simp only[List.map_nil,dO,List.length_nil,Nat.add_zero]at j4
   have KV:=fun {s:St} {t:Nat} (ht:s.aA[t]? = some (some seen.length))=>Wz (seen:=seen) (l:=f.fin) (by omega) ht
   obtain⟨P1,hP1⟩ : ∃ P1,jU seen f.fin=P1:=⟨_,rfl⟩
   rw[hP1]at j2 KV
   rcases Bool.eq_false_or_eq_true P1.2 with c1|c1
   ·simp only [c1,if_true]at j2
    subst j2
    simp only at hR
    repeat' (first
 |simp only[go_sem,hD,gA,gB,gC,aiO,c1,Bool.not_true]
 |(with_reducible refine CU (KV (by with_unfolding_all rfl)) ?_)
 | (with_reducible refine aJ hQ ?_;exact bA))
    refine fm 2 0 ?_ ?_ (IH (rest,k+1) ⟨g2,hR⟩ (Nat.lt_succ_self _))
    ·(simp only[go_sem,hD,gA,gB,gC,aM ct];try exact cd)
    ·(simp only[go_sem,hD,gA,gB,gC,aM ct];try exact cd)
   ·simp only [c1,Bool.false_eq_true,if_false]at j2
    subst j2
    simp only[Bb]at hR
    subst hR
    repeat' (first
 |simp only[go_sem,hD,gA,gB,gC,aiO,c1,Bool.not_false]
 |(with_reducible refine CU (KV (by with_unfolding_all rfl)) ?_)
 | (with_reducible refine aJ hQ ?_;exact bA))
  | cons m ze=>
   obtain⟨qQ,j5,A7,j6⟩:=drop_cons j1
   have A8:k2<4611686018427387904:=by omega
   have Qy:=List.mem_of_getElem? qQ
   have hlm:=fun s=>hld m Qy s
   simp only[List.map_cons,Im.pair,vn]at j2
   simp only[List.map_cons,dO,List.length_append]at j4
   have KV:=fun {s:St} {t:Nat} (ht:s.aA[t]? = some (some seen.length))=>Wz (seen:=seen) (l:=m.s.labels) (by omega) ht
   have PO:=W9 seen m.s.labels
   obtain⟨P1,hP1⟩ : ∃ P1,jU seen m.s.labels=P1:=⟨_,rfl⟩
   rw[hP1]at j2 KV PO
   rcases Bool.eq_false_or_eq_true P1.2 with c1|c1
   ·rcases Bool.eq_false_or_eq_true (kj f.labels m.s m.loop)with c2 | c2
    ·simp only [c1,c2,if_true]at j2
     repeat' (first
 |simp only[go_sem,hD,gA,gB,gC,qQ,A7,c1,c2,Bool.not_true]
 |(with_reducible refine CU (KV (by with_unfolding_all rfl)) ?_)
 |(with_reducible refine CU (hlm _) ?_)
 | (with_reducible refine aJ hQ ?_;exact bA))
     refine fm 3 1 ?_ ?_ (HQ (ze,k2+1,P1.1,P1.1.length) ⟨j5,j2,rfl,by dsimp only;omega⟩ (Nat.lt_succ_self _))
     ·(simp only[go_sem,hD,gA,gB,gC,aM A8];try exact cd)
     ·(simp only[go_sem,hD,gA,gB,gC,aM A8];try exact cd)
    ·simp only [c1,c2,if_true,Bool.false_eq_true,if_false]at j2
     subst j2
     simp only[Bb]at hR
     subst hR
     repeat' (first
 |simp only[go_sem,hD,gA,gB,gC,qQ,A7,c1,c2,Bool.not_true,Bool.not_false]
 |(with_reducible refine CU (KV (by with_unfolding_all rfl)) ?_)
 |(with_reducible refine CU (hlm _) ?_)
 | (with_reducible refine aJ hQ ?_;exact bA))
   ·simp only [c1,Bool.false_eq_true,if_false]at j2
    subst j2
    simp only[Bb]at hR
    subst hR
    repeat' (first
 |simp only[go_sem,hD,gA,gB,gC,qQ,A7,c1,Bool.not_false]
 |(with_reducible refine CU (KV (by with_unfolding_all rfl)) ?_)
 |(with_reducible refine CU (hlm _) ?_)
 |(with_reducible refine aJ hQ ?_;exact bA))
theorem aat (x:It):(gM x)[2]? = some (.slice .shared 1 (x.s.labels.map encStr)):=nd rfl
theorem Xa (x:It):(gM x)[14]? = some (.int .i64 x.db):=nd rfl
attribute [go_sem] aat Xa
end Go.Abs
namespace Go.Abs
set_option maxRecDepth 8000
open Go.Proofs
def Pc.aui:List Pc→Nat
 | []=>0
 |f::l=>Sm.jK f.body+Pc.aui l
theorem aau {p:Pg} (h:p.may=false):p.scope=(1,0):=by unfold Pg.scope;rw[h];rfl
theorem aiQ {p:Pg} (h:p.jE) (s:St):aH Tryz.prog zQ [.agg (bV p)] s (.agg [.int .i64 p.check.1, .int .i64 p.check.2]) s:=by
 refine aH.pure ?_ (by simp[D.bM,D.ok,jj]) rfl s
 have h1:=fun s=>HP h.Tn s
 rw[A5]at h1
 have h2:=fun s=>xS h s
 have h3:=fun s=>Nw h s
 have h4:=fun s=>aas h s
 have h5:=fun s=>WI h s
 obtain⟨R,hR⟩ : ∃ R,p.check=R:=⟨_,rfl⟩
 rw[hR]
 unfold Pg.check at hR
 unfold S0
 rcases Bool.eq_false_or_eq_true p.may with b0|b0
 case inr=>
  have e:((1:Int)==0)=false:=rfl
  rw[aau b0]at hR
  simp only[e,Bool.false_eq_true,if_false]at hR
  subst hR
  refine aH.go pZ rfl fun B Q hB hQ=>?_
  have⟨hD,gA,gB,gC⟩:=bX
  repeat' (first
 |simp only[go_sem,hD,gA,gB,gC,b0,Bool.not_false]
 |(with_reducible refine CU (h1 _) ?_)
 |(with_reducible refine aJ hQ ?_;exact bA))
 rcases Bool.eq_false_or_eq_true (p.scope.1==0)with b1|b1
 case inr=>
  simp only[b1,Bool.false_eq_true,if_false]at hR
  subst hR
  refine aH.go pZ rfl fun B Q hB hQ=>?_
  have⟨hD,gA,gB,gC⟩:=bX
  repeat' (first
 |simp only[go_sem,hD,gA,gB,gC,b0,b1,Bool.not_true]
 |(with_reducible refine CU (h1 _) ?_)
 |(with_reducible refine CU (h2 _) ?_)
 |(with_reducible refine aJ hQ ?_;exact bA))
 simp only[b1,if_true]at hR
 rcases Bool.eq_false_or_eq_true (p.arity.1==0)with b2|b2
 case inr=>
  simp only[b2,Bool.false_eq_true,if_false]at hR
  subst hR
  refine aH.go pZ rfl fun B Q hB hQ=>?_
  have⟨hD,gA,gB,gC⟩:=bX
  repeat' (first
 |simp only[go_sem,hD,gA,gB,gC,b0,b1,b2,Bool.not_true]
 |(with_reducible refine CU (h1 _) ?_)
 |(with_reducible refine CU (h2 _) ?_)
 |(with_reducible refine CU (h3 _) ?_)
 |(with_reducible refine aJ hQ ?_;exact bA))
 simp only[b2,if_true]at hR
 rcases Bool.eq_false_or_eq_true (p.jump.1==0)with b3|b3
 case inr=>
  simp only[b3,Bool.false_eq_true,if_false]at hR
  subst hR
  refine aH.go pZ rfl fun B Q hB hQ=>?_
  have⟨hD,gA,gB,gC⟩:=bX
  repeat' (first
 |simp only[go_sem,hD,gA,gB,gC,b0,b1,b2,b3,Bool.not_true]
 |(with_reducible refine CU (h1 _) ?_)
 |(with_reducible refine CU (h2 _) ?_)
 |(with_reducible refine CU (h3 _) ?_)
 |(with_reducible refine CU (h4 _) ?_)
 |(with_reducible refine aJ hQ ?_;exact bA))
 simp only[b3,if_true]at hR
 subst hR
 refine aH.go pZ rfl fun B Q hB hQ=>?_
 have⟨hD,gA,gB,gC⟩:=bX
 repeat' (first
 |simp only[go_sem,hD,gA,gB,gC,b0,b1,b2,b3,Bool.not_true]
 |(with_reducible refine CU (h1 _) ?_)
 |(with_reducible refine CU (h2 _) ?_)
 |(with_reducible refine CU (h3 _) ?_)
 |(with_reducible refine CU (h4 _) ?_)
 |(with_reducible refine CU (h5 _) ?_)
 |(with_reducible refine aJ hQ ?_;exact bA))
theorem N9 {p:Pg} (h:p.jE) (s:St):aH Tryz.prog rO [.agg (bV p)] s (.bool (p.check.1==0)) s:=by
 refine aH.pure ?_ (by simp[D.bM,D.ok,jj]) rfl s
 have h1:=fun s=>aiQ h s
 unfold S0
 refine aH.go Lc rfl fun B Q hB hQ=>?_
 have⟨hD,gA,gB,gC⟩:=bX
 repeat' (first
 |simp only[go_sem,hD,gA,gB,gC]
 |(with_reducible refine CU (h1 _) ?_)
 |(with_reducible refine aJ hQ ?_;exact bA))
def gN (m:Mc):List D:= [.int .i64 m.fin, .int .i64 m.steps, .int .i64 m.reads, .slice .shared 1 (m.out.map cO), .slice .shared 2 (m.trace.map pP)]
theorem aiR (e:Int×List Int):D.bM 0 0 (pP e)=true:=by simp[pP,D.bM,D.ok,Tag.ok,ju]
theorem amD (l:List (Int×List Int)):D.jd 0 0 (l.map pP)=true:=je aiR l
theorem amE (n m:Nat) (l:List (Int×List Int)):D.lL n m (l.map pP)=l.map pP:=nF aiR n m l
attribute [go_sem] amE
abbrev runT (m:Mc):List D:= [.int .i64 m.fin, .int .i64 m.steps, .int .i64 m.reads, .slice (.tok 0) 1 (m.out.map cO), .slice (.tok 1) 2 (m.trace.map pP)]
section
variable {p:Pg} {T W:List Int} {fuel:Int} {B:gZ} {Q:Exit→Tm→St→Prop} {mf:Mc}
theorem Inv.ta {y:Lay} {m:Mc} {s:St} {q:Nat} {r r':List D} {loc:List (Nat×List D)} (h:Inv p T W y m ((q,r)::loc) s) (hq : ∀ x∈loc,x.1≠q) (hr:r.length≠4):Inv p T W y m ((q,r')::loc) ⟨s.al.set q r',s.aA⟩:=by
 obtain⟨h1,h2⟩:=h.loc (q,r) (List.mem_cons_self ..)
 simp only at h1 h2
 have ne : ∀ {o:Nat} {x:List D},s.al[o]? = some x→o≠q→(s.al.set q r')[o]? = some x:=fun e hn=>by rw[List.getElem?_set_ne (Ne.symm hn)];exact e
 have no : ∀ o∈y.own,o≠q:=fun o mo e=>h2 (e ▸ mo)
 have ka : ∀ {d:D} {cs:List D},(∀ o∈d.arr,o∈y.own)→kL s d cs→kL ⟨s.al.set q r',s.aA⟩ d cs:=fun hd ha=>ha.keep fun o mo=>by
  show(s.al.set q r')[o]? = _
  rw[List.getElem?_set_ne (Ne.symm (no o (hd o mo)))]
 obtain⟨l,hl⟩:=h.bJ
 refine⟨ne h.kM (no 0 (by simp[Lay.own])),h.t0,h.t1,h.len,fun i c v e1 e2=>ne (h.cell i c v e1 e2) (no c (by simp[Lay.own,List.mem_of_getElem? e1])),h.uV,fun i o fr e1 e2=>?_,ka (fun o m=>by simp[Lay.own,m]) h.stack,⟨l,ka (fun o m=>by simp[Lay.own,m]) hl⟩,h.own,fun x mx=>?_⟩
 ·obtain⟨f1,f2,f3⟩:=h.frame i o fr e1 e2
  exact⟨ne f1 (PX f1 h1 fun e=>hr (by rw[← e];rfl)),f2,f3⟩
 ·rcases List.mem_cons.1 mx with rfl | mx
  ·exact⟨by simp[ib h1],h2⟩
  ·obtain⟨f1,f2⟩:=h.loc x (List.mem_cons_of_mem _ mx)
   exact⟨ne f1 (hq x mx),f2⟩
abbrev Em:List D:= [.int .i64 0, .int .i64 0, .int .i64 0, .slice .full 0 [], .slice .full 0 []]
structure JF (p:Pg) (T W:List Int) (fuel:Int):Prop where
 ok:p.jE
 right:p.Right
 W:W.length<1000000
 T:T.length<1000000
 fuel:0≤fuel∧fuel≤1000000
structure At (p:Pg) (T W:List Int) (fuel:Int) (a:Int) (m:Mc) (y:Lay) (q:Nat) (s:St):Prop where
 inv : ∃ r:List D,r.length=17∧Inv p T W y m [(q,r),(2,Em)] s
 ok:qS p p.a7.L a m
 sz:Af m
 fin:m.fin=0
 fuel:m.steps≤fuel
abbrev TMr (fuel:Int) (q:Nat) (a:Int):Tm:= [(2, .int .i64 fuel),(8, .ptr 2 0),(10, .ptr 0 0),(11, .ptr q 0),(13, .int .i64 a)]
abbrev JJ (B:gZ) (Q:Exit→Tm→St→Prop):=Bs Tryz.prog B 131 Q46 Q
theorem IA (hQ:rC 0 0 [(8,some (true,5)),(9,none)] (.tuple [.agg (gN mf), .int .i64 0]) ⟨[],[]⟩=Q) {y:Lay} {q:Nat} {r:List D} {s:St} (h:Inv p T W y mf [(q,r),(2,Em)] s) {tm:Tm} (ht:xy tm [(8, .ptr 2 0),(10, .ptr 0 0)]):JJ B Q (.goto 2) tm s:=by
 refine F1 (r:= .seq .skip Q3O) rfl (mY.rn ht (mY.ki ?_))
 have hm:=h.kM
 rw[gj]at hm
 have h2:=(h.loc (2,Em) (by simp)).1
 have hl:=ib h2
 have⟨hD,gA,gB,gC⟩:=bX
 have Ct : ∀ r,(s.al.set 2 r)[2]? = some r:=fun r=>List.getElem?_set_self hl
 simp only[gN]at hQ
 repeat' (first
 |simp only[go_sem,hD,gA,gB,gC,hm,h2,Ct]
 |(with_reducible first|refine bq fun hc=>?_|refine br fun hc=>?_|refine bt (fun hc=>?_) fun hc=>?_)<;>(try simp only[hc,bs,↓reduceIte]at h)<;>try simp only[hc]
 |(with_reducible refine aJ hQ ?_;(try cases h);simp only[bh,bk,bO,bP,go_sem,hD,gA,gB,gC,hm,h2,Ct];try exact cJ)
 |(cases h;done))
theorem Oa (hS:JF p T W fuel) (hQ:rC 0 0 [(8,some (true,5)),(9,none)] (.tuple [.agg (gN mf), .int .i64 0]) ⟨[],[]⟩=Q) {a:Int} {m:Mc} {y:Lay} {q:Nat} {s:St} {g:Int} (h:At p T W fuel a m y q s)
 (aiT:m.back p.a7.L g=(none,mf)∨∃ a' m',m.back p.a7.L g=(some a',m')∧∀ y' s' tm,At p T W fuel a' m' y' q s'→xy tm (TMr fuel q a')→JJ B Q (.goto 1) tm s')
 {tm:Tm} (ht:xy tm [(2, .int .i64 fuel),(8, .ptr 2 0),(10, .ptr 0 0),(11, .ptr q 0),(12, .int .i64 g)]):JJ B Q (.goto 0) tm s:=by
 obtain⟨⟨r,hr,hi⟩,nS,dU,xW,hfu⟩:=h
 obtain⟨fr,rs,f,Cc,h1,h2,h3,h4⟩:=N7 hS.ok nS (by have:=dU.st;omega)
 have FF:=dU.run (by have:=hS.fuel;omega) hS.ok hS.W hS.T
 have hc:=TV hS.ok hS.right nS (by have:=dU.st;omega) Cc
 have c1:=aeR hi Cc FF.L hc g
 have nu:=Ci p.a7.L m g
 refine F1 (r:= .seq .skip Q3R) rfl (mY.rn ht (mY.ki ?_))
 have⟨hD,gA,gB,gC⟩:=bX
 repeat' (first
 |simp only[go_sem,hD,gA,gB,gC]
 |(with_reducible first|refine bq fun hc=>?_|refine br fun hc=>?_|refine bt (fun hc=>?_) fun hc=>?_)<;>(try simp only[hc,bs,↓reduceIte]at h)<;>try simp only[hc]
 |(with_reducible refine aJ hQ ?_;exact fU)
 |(cases h;replace h:=hr;clear hr;(try simp only[bs,↓reduceIte]at h))
 |(cases h;done))
 refine CR c1 fun d s2 Oc=>?_
 obtain⟨rfl,y2,yc,pw⟩:=Oc
 have kJ:=pw.kM
 rw[gj]at kJ
 have hz2:=(pw.loc (2,Em) (by simp)).1
 have jn:=ib hz2
 have Ct : ∀ r,(s2.al.set 2 r)[2]? = some r:=fun r=>List.getElem?_set_self jn
 simp only at hz2
 have hb:m.back p.a7.L g=(if(m.close p.a7.L g).2.fin==0 then some (m.close p.a7.L g).1 else none,(m.close p.a7.L g).2):=rfl
 rcases Bool.eq_false_or_eq_true ((m.close p.a7.L g).2.fin==0)with b|b
 ·rw [b,if_pos rfl]at hb
  rcases aiT with he|⟨a',m',he,hIH⟩
  ·rw[hb]at he;cases he
  ·have hk:=aeJ (pA hS.right) nS he
   rw[hb]at he
   cases he
   repeat' (first
 |simp only[go_sem,hD,gA,gB,gC,kJ,b]
 |(with_reducible first|refine bq fun hc=>?_|refine br fun hc=>?_|refine bt (fun hc=>?_) fun hc=>?_)<;>(try simp only[hc,bs,↓reduceIte]at h)<;>try simp only[hc]
 |(with_reducible refine aJ hQ ?_;(try cases h);simp only[bh,bk,bO,bP,go_sem,hD,gA,gB,gC,kJ,b];try exact cJ)
 |(cases h;replace h:=hr;clear hr;(try simp only[bs,↓reduceIte]at h))
 | (cases h;done))
   refine hIH y2 s2 _ ⟨⟨r,hr,pw⟩,hk,dU.close g,by simpa using b,by rw[nu.2.2.2.1];exact hfu⟩ ?_
   simp only[go_sem]
   repeat' (first|exact Ok.out|with_reducible refine jo ?_ ?_)
 ·rw [b,if_neg (by simp)]at hb
  rcases aiT with he|⟨a',m',he,hIH⟩
  ·rw [hb]at he
   cases he
   simp only[gN]at hQ
   repeat' (first
 |simp only[go_sem,hD,gA,gB,gC,kJ,b,hz2,Ct]
 |(with_reducible first|refine bq fun hc=>?_|refine br fun hc=>?_|refine bt (fun hc=>?_) fun hc=>?_)<;>(try simp only[hc,bs,↓reduceIte]at h)<;>try simp only[hc]
 |(with_reducible refine aJ hQ ?_;(try cases h);simp only[bh,bk,bO,bP,go_sem,hD,gA,gB,gC,kJ,b,hz2,Ct];try exact cJ)
 |(cases h;replace h:=hr;clear hr;(try simp only[bs,↓reduceIte]at h))
 |(cases h;done))
  ·rw[hb]at he;cases he
theorem aav (hS:JF p T W fuel) (hQ:rC 0 0 [(8,some (true,5)),(9,none)] (.tuple [.agg (gN mf), .int .i64 0]) ⟨[],[]⟩=Q) : ∀ (N:Nat) (a:Int) (m:Mc) (y:Lay) (q:Nat) (s:St),At p T W fuel a m y q s→Mc.go p p.a7.L T W fuel N a m=some mf→
 Sem Tryz.prog B 131 Q3Z (JJ B Q) (TMr fuel q a) s:=by
 intro N
 induction N with
 |zero=>intro a m y q s _ h;cases h
 | succ N ih=>
  intro a m y q s td lZ
  have IH : ∀ (a':Int) (m':Mc) (y':Lay) (s':St) (tm:Tm),Mc.go p p.a7.L T W fuel N a' m'=some mf→At p T W fuel a' m' y' q s'→xy tm (TMr fuel q a')→JJ B Q (.goto 1) tm s':=fun a' m' y' s' tm hg hA ht=>
   F1 (r:= .seq .skip Q3Z) rfl (mY.rn ht (mY.once (Sem.oK (ih a' m' y' q s' hA hg))))
  have auj:=td
  obtain⟨⟨r,hr,hi⟩,nS,dU,xW,hfu⟩:=td
  simp only[Mc.go]at lZ
  refine jD ?_
  have⟨hD,gA,gB,gC⟩:=bX
  have hm:=hi.kM
  rw[gj]at hm
  have sJ:=hi.wO
  rcases Bool.eq_false_or_eq_true (a == -1)with ba|ba
  ·have hn:m.next p p.a7.L T W fuel a=m.back p.a7.L 0:=by unfold Mc.next;rw [if_pos ba]
   rw[hn]at lZ
   repeat' (first
 |simp only[go_sem,hD,gA,gB,gC,ba]
 |(with_reducible first|refine bq fun hc=>?_|refine br fun hc=>?_|refine bt (fun hc=>?_) fun hc=>?_)<;>(try simp only[hc,bs,↓reduceIte]at h)<;>try simp only[hc]
 |(with_reducible refine aJ hQ ?_;(try cases h);simp only[bh,bk,bO,bP,go_sem,hD,gA,gB,gC,ba];try exact cJ)
 |(cases h;replace h:=hr;clear hr;(try simp only[bs,↓reduceIte]at h))
 | (cases h;done))
   refine Oa hS hQ auj (g:=0) ?_ ?_
   ·rcases e:m.back p.a7.L 0 with ⟨_ | a',m'⟩
    ·rw[e]at lZ;cases lZ;exact .inl rfl
    ·rw[e]at lZ;exact .inr ⟨a',m',rfl,fun y' s' tm h1 h2=>IH a' m' y' s' tm lZ h1 h2⟩
   ·simp only [go_sem]
    repeat' (first|exact Ok.out|with_reducible refine jo ?_ ?_)
  rcases Bool.eq_false_or_eq_true (m.steps==fuel)with bf|bf
  ·have hn:m.next p p.a7.L T W fuel a=(none,{m with fin:=2}):=by unfold Mc.next;rw [if_neg (by simp [ba]),if_pos bf]
   rw[hn]at lZ
   cases lZ
   have h2:=hi.wb (m':= {m with fin:=2}) rfl rfl hi.t0 hi.t1
   rw[gj]at h2
   simp only at h2
   repeat' (first
 |simp only[go_sem,hD,gA,gB,gC,ba,bf,hm,sJ]
 |(with_reducible first|refine bq fun hc=>?_|refine br fun hc=>?_|refine bt (fun hc=>?_) fun hc=>?_)<;>(try simp only[hc,bs,↓reduceIte]at h)<;>try simp only[hc]
 |(with_reducible refine aJ hQ ?_;(try cases h);simp only[bh,bk,bO,bP,go_sem,hD,gA,gB,gC,ba,bf,hm,sJ];try exact cJ)
 |(cases h;replace h:=hr;clear hr;(try simp only[bs,↓reduceIte]at h))
 | (cases h;done))
   refine IA hQ h2 ?_
   simp only[go_sem]
   repeat' (first|exact Ok.out|with_reducible refine jo ?_ ?_)
  -- a statement
  obtain⟨fr,rs,f,Cc,h1,h2,h3,h4⟩:=N7 hS.ok nS (by have:=dU.st;omega)
  have auk:a≠ -1:=by simpa using ba
  obtain⟨hx,yZ,iO,c,hac,Od⟩:=aeS nS h4 hS.right auk h1
  have hfb:=hS.fuel
  have FF:=dU.run (by omega) hS.ok hS.W hS.T
  have aCn:m.steps<fuel:=by
   have h:m.steps≠fuel:=by simpa using bf
   omega
  have xl:=dU.steps
  have Ix:IntKind.wrap .i64 (m.steps+1)=m.steps+1:=eA (by omega) (by omega)
  have Ei:IntKind.wrap .i64 (a - 1)=(c:Int):=by
   have:=(List.getElem?_eq_some_iff.1 Od).1
   have:=FF.L
   rw[show a - 1=(c:Int) by omega];exact eA (by omega) (by omega)
  have cS:(gu p)[2]? = some (.slice .shared 17 (p.a7.L.map dP)):=rfl
  have Qz:=hi.wb (m':= {m with steps:=m.steps+1}) rfl rfl hi.t0 hi.t1
  generalize rr:dY p.a7.L a=it at *
  have aul:2≠q:=by
   have e1:=(hi.loc (q,r) (by simp)).1
   have e2:=(hi.loc (2,Em) (by simp)).1
   exact PX e2 e1 fun e=>by have e':Em=r:=e;rw[← e']at hr;cases hr
  have JG:17≤r.length:=by omega
  have QA:List.drop 17 r = []:=List.drop_of_length_le (by omega)
  have pw:=Qz.ta (r':=dP it) (by simpa using aul) (by omega)
  have oV:=Qz.kM
  have KW:=(Qz.loc (q,r) (by simp)).1
  have DA:=(pw.loc (q,dP it) (by simp)).1
  rw[gj]at oV pw KW DA
  simp only at oV pw KW DA
  have hle:q<s.al.length:=ib (hi.loc (q,r) (by simp)).1
  have TY:ow ({m with steps:=m.steps+1} : Mc) fr rs:=⟨Cc.st,Cc.len,Cc.names,Cc.vars⟩
  have T1:LK p T W ({m with steps:=m.steps+1} : Mc):=⟨FF.W,FF.T,FF.trace,FF.out,FF.L,FF.P,FF.reads⟩
  have Oe:qS p p.a7.L a ({m with steps:=m.steps+1} : Mc):=nS.of rfl (Nat.le_refl _) nS.at_
  have hn:m.next p p.a7.L T W fuel a=(if it.s.kind==4 then(if(({m with steps:=m.steps+1} : Mc).call p W it.s).2.fin==0 then some (({m with steps:=m.steps+1} : Mc).call p W it.s).1 else none,(({m with steps:=m.steps+1} : Mc).call p W it.s).2)
   else if it.s.kind==9 then(if(({m with steps:=m.steps+1} : Mc).fH W it.s).2.fin==0 then(({m with steps:=m.steps+1} : Mc).fH W it.s).2.back p.a7.L (({m with steps:=m.steps+1} : Mc).fH W it.s).1 else(none,(({m with steps:=m.steps+1} : Mc).fH W it.s).2))
   else(if(({m with steps:=m.steps+1} : Mc).do p p.a7.L T W it).2.fin==0 then some (({m with steps:=m.steps+1} : Mc).do p p.a7.L T W it).1 else none,(({m with steps:=m.steps+1} : Mc).do p p.a7.L T W it).2)):=by
   unfold Mc.next
   rw[if_neg (by simp[ba]),if_neg (by simp[bf])]
   dsimp only
   rw[rr]
  rw[hn]at lZ
  generalize Qy:({m with steps:=m.steps+1} : Mc)=m1 at *
  have aum:m1.fin=0:=by rw[← Qy];exact xW
  have aaw:m1.steps=m.steps+1:=by rw[← Qy]
  have T2 : ∀ m2:Mc,El m1 m2→m2.st.length≤101→Af m2:=fun m2 hl hs=>dU.less (by rw[Qy];exact hl) hs
  have Og:m1.st=m.st:=by rw[← Qy]
  rcases Bool.eq_false_or_eq_true (it.s.kind==4)with b4|b4
  ·rw [if_pos b4]at lZ
   have Kx:it.s.kind=4:=by simpa using b4
   have c1:=W5 hS.ok hS.right.may pw TY T1 Oe.sA (W6 hS.ok hS.right hx Kx h2 h3)
   repeat' (first
 |simp only[go_sem,hD,gA,gB,gC,ba,bf,hm,sJ,Ix,oV,Ei,Od,cS,KW,DA,hle,b4,JG,QA,List.append_nil]
 |(with_reducible first|refine bq fun hc=>?_|refine br fun hc=>?_|refine bt (fun hc=>?_) fun hc=>?_)<;>(try simp only[hc,bs,↓reduceIte]at h)<;>try simp only[hc]
 |(with_reducible refine aJ hQ ?_;(try cases h);simp only[bh,bk,bO,bP,go_sem,hD,gA,gB,gC,ba,bf,hm,sJ,Ix,oV,Ei,Od,cS,KW,DA,hle,b4,JG,QA,List.append_nil];try exact cJ)
 |(cases h;replace h:=hr;clear hr;(try simp only[bs,↓reduceIte]at h))
 | (cases h;done))
   refine CR c1 fun d s2 Oc=>?_
   obtain⟨rfl,y2,_,CT⟩:=Oc
   have p9:=CT.kM
   rw[gj]at p9
   have nu:=W8 p W m1 it.s
   have po:(m1.call p W it.s).2.st.length≤101:=by
    rcases nu.2 with h|h
    ·rw[Og]at h;have:=dU.st;omega
    ·exact h
   rcases Bool.eq_false_or_eq_true ((m1.call p W it.s).2.fin==0)with b|b
   ·rw [b,if_pos rfl]at lZ
    repeat' (first
 |simp only[go_sem,hD,gA,gB,gC,p9,b]
 |(with_reducible first|refine bq fun hc=>?_|refine br fun hc=>?_|refine bt (fun hc=>?_) fun hc=>?_)<;>(try simp only[hc,bs,↓reduceIte]at h)<;>try simp only[hc]
 |(with_reducible refine aJ hQ ?_;(try cases h);simp only[bh,bk,bO,bP,go_sem,hD,gA,gB,gC,p9,b];try exact cJ)
 |(cases h;replace h:=hr;clear hr;(try simp only[bs,↓reduceIte]at h))
 | (cases h;done))
    refine IH _ _ y2 s2 _ lZ ⟨⟨dP it,rfl,CT⟩,aeL hS.right Oe hx Kx (by rw[yZ, ← h4];unfold Mc.top;rw[Og]) (by simpa using b) rfl aum,T2 _ nu.1 po,by simpa using b,by rw[nu.1.steps,aaw];omega⟩ ?_
    simp only[go_sem]
    repeat' (first|exact Ok.out|with_reducible refine jo ?_ ?_)
   ·rw [b,if_neg (by simp)]at lZ
    cases lZ
    repeat' (first
 |simp only[go_sem,hD,gA,gB,gC,p9,b]
 |(with_reducible first|refine bq fun hc=>?_|refine br fun hc=>?_|refine bt (fun hc=>?_) fun hc=>?_)<;>(try simp only[hc,bs,↓reduceIte]at h)<;>try simp only[hc]
 |(with_reducible refine aJ hQ ?_;(try cases h);simp only[bh,bk,bO,bP,go_sem,hD,gA,gB,gC,p9,b];try exact cJ)
 |(cases h;replace h:=hr;clear hr;(try simp only[bs,↓reduceIte]at h))
 | (cases h;done))
    refine IA hQ CT ?_
    simp only[go_sem]
    repeat' (first|exact Ok.out|with_reducible refine jo ?_ ?_)
  rw[if_neg (by simp[b4])]at lZ
  rcases Bool.eq_false_or_eq_true (it.s.kind==9)with b9|b9
  ·rw [if_pos b9]at lZ
   have c1:=aeP pw TY (Qx hS.ok hS.right hx h2 h3).said T1.W T1.trace
   repeat' (first
 |simp only[go_sem,hD,gA,gB,gC,ba,bf,hm,sJ,Ix,oV,Ei,Od,cS,KW,DA,hle,b4,b9,JG,QA,List.append_nil]
 |(with_reducible first|refine bq fun hc=>?_|refine br fun hc=>?_|refine bt (fun hc=>?_) fun hc=>?_)<;>(try simp only[hc,bs,↓reduceIte]at h)<;>try simp only[hc]
 |(with_reducible refine aJ hQ ?_;(try cases h);simp only[bh,bk,bO,bP,go_sem,hD,gA,gB,gC,ba,bf,hm,sJ,Ix,oV,Ei,Od,cS,KW,DA,hle,b4,b9,JG,QA,List.append_nil];try exact cJ)
 |(cases h;replace h:=hr;clear hr;(try simp only[bs,↓reduceIte]at h))
 | (cases h;done))
   refine CR c1 fun d s2 Oc=>?_
   obtain⟨rfl,y2,_,CT⟩:=Oc
   have p9:=CT.kM
   rw[gj]at p9
   have sR:=TW W m1 it.s
   have hgs:=(B0 W m1 it.s).1
   rcases Bool.eq_false_or_eq_true ((m1.fH W it.s).2.fin==0)with b|b
   ·rw [b,if_pos rfl]at lZ
    repeat' (first
 |simp only[go_sem,hD,gA,gB,gC,p9,b]
 |(with_reducible first|refine bq fun hc=>?_|refine br fun hc=>?_|refine bt (fun hc=>?_) fun hc=>?_)<;>(try simp only[hc,bs,↓reduceIte]at h)<;>try simp only[hc]
 |(with_reducible refine aJ hQ ?_;(try cases h);simp only[bh,bk,bO,bP,go_sem,hD,gA,gB,gC,p9,b];try exact cJ)
 |(cases h;replace h:=hr;clear hr;(try simp only[bs,↓reduceIte]at h))
 | (cases h;done))
    have Wr:m1.mem.length≤(m1.fH W it.s).2.mem.length:=by
     have hw:=iR m1 it.s.x
     unfold Mc.fH
     split
     ·dsimp only
      split
      ·rw[(fF _ _ _ _).2.1,hw.2.1];exact Nat.le_refl _
      ·rw[hw.2.1];exact Nat.le_refl _
     ·rw[(fF _ _ _ _).2.1];exact Nat.le_refl _
    refine Oa (a:=a) (g:=(m1.fH W it.s).1) hS hQ (y:=y2) ⟨⟨dP it,rfl,CT⟩,Oe.of hgs Wr Oe.at_,T2 _ sR (by rw[hgs,Og];exact dU.st),by simpa using b,by rw[sR.steps,aaw];omega⟩ ?_ ?_
    ·rcases e:(m1.fH W it.s).2.back p.a7.L (m1.fH W it.s).1 with ⟨_ | a',m'⟩
     ·rw[e]at lZ;cases lZ;exact .inl rfl
     ·rw[e]at lZ;exact .inr ⟨a',m',rfl,fun y' s' tm h1 h2=>IH a' m' y' s' tm lZ h1 h2⟩
    ·simp only [go_sem]
     repeat' (first|exact Ok.out|with_reducible refine jo ?_ ?_)
   ·rw [b,if_neg (by simp)]at lZ
    cases lZ
    repeat' (first
 |simp only[go_sem,hD,gA,gB,gC,p9,b]
 |(with_reducible first|refine bq fun hc=>?_|refine br fun hc=>?_|refine bt (fun hc=>?_) fun hc=>?_)<;>(try simp only[hc,bs,↓reduceIte]at h)<;>try simp only[hc]
 |(with_reducible refine aJ hQ ?_;(try cases h);simp only[bh,bk,bO,bP,go_sem,hD,gA,gB,gC,p9,b];try exact cJ)
 |(cases h;replace h:=hr;clear hr;(try simp only[bs,↓reduceIte]at h))
 | (cases h;done))
    refine IA hQ CT ?_
    simp only[go_sem]
    repeat' (first|exact Ok.out|with_reducible refine jo ?_ ?_)
  rw[if_neg (by simp[b9])]at lZ
  have c1:=aud hS.ok hS.right.may pw TY T1 (Qx hS.ok hS.right hx h2 h3)
  repeat' (first
 |simp only[go_sem,hD,gA,gB,gC,ba,bf,hm,sJ,Ix,oV,Ei,Od,cS,KW,DA,hle,b4,b9,JG,QA,List.append_nil]
 |(with_reducible first|refine bq fun hc=>?_|refine br fun hc=>?_|refine bt (fun hc=>?_) fun hc=>?_)<;>(try simp only[hc,bs,↓reduceIte]at h)<;>try simp only[hc]
 |(with_reducible refine aJ hQ ?_;(try cases h);simp only[bh,bk,bO,bP,go_sem,hD,gA,gB,gC,ba,bf,hm,sJ,Ix,oV,Ei,Od,cS,KW,DA,hle,b4,b9,JG,QA,List.append_nil];try exact cJ)
 |(cases h;replace h:=hr;clear hr;(try simp only[bs,↓reduceIte]at h))
 | (cases h;done))
  refine CR c1 fun d s2 Oc=>?_
  obtain⟨rfl,y2,_,CT⟩:=Oc
  have p9:=CT.kM
  rw[gj]at p9
  have QB:=aeT p p.a7.L T W m1 it
  have Du:=(TC p p.a7.L T W m1 it).1
  rcases Bool.eq_false_or_eq_true ((m1.do p p.a7.L T W it).2.fin==0)with b|b
  ·rw [b,if_pos rfl]at lZ
   repeat' (first
 |simp only[go_sem,hD,gA,gB,gC,p9,b]
 |(with_reducible first|refine bq fun hc=>?_|refine br fun hc=>?_|refine bt (fun hc=>?_) fun hc=>?_)<;>(try simp only[hc,bs,↓reduceIte]at h)<;>try simp only[hc]
 |(with_reducible refine aJ hQ ?_;(try cases h);simp only[bh,bk,bO,bP,go_sem,hD,gA,gB,gC,p9,b];try exact cJ)
 |(cases h;replace h:=hr;clear hr;(try simp only[bs,↓reduceIte]at h))
 | (cases h;done))
   refine IH _ _ y2 s2 _ lZ ⟨⟨dP it,rfl,CT⟩,amm hS.right Oe hx (by rw[yZ, ← h4];unfold Mc.top;rw[Og]) (by simpa using b),T2 _ QB (by rw[Du,Og];exact dU.st),by simpa using b,by rw[QB.steps,aaw];omega⟩ ?_
   simp only[go_sem]
   repeat' (first|exact Ok.out|with_reducible refine jo ?_ ?_)
  ·rw [b,if_neg (by simp)]at lZ
   cases lZ
   repeat' (first
 |simp only[go_sem,hD,gA,gB,gC,p9,b]
 |(with_reducible first|refine bq fun hc=>?_|refine br fun hc=>?_|refine bt (fun hc=>?_) fun hc=>?_)<;>(try simp only[hc,bs,↓reduceIte]at h)<;>try simp only[hc]
 |(with_reducible refine aJ hQ ?_;(try cases h);simp only[bh,bk,bO,bP,go_sem,hD,gA,gB,gC,p9,b];try exact cJ)
 |(cases h;replace h:=hr;clear hr;(try simp only[bs,↓reduceIte]at h))
 | (cases h;done))
   refine IA hQ CT ?_
   simp only[go_sem]
   repeat' (first|exact Ok.out|with_reducible refine jo ?_ ?_)
end
end Go.Abs
namespace Go.Abs
set_option maxRecDepth 8000
open Go.Proofs
def ofM (p:Pg) (T W:List Int) (fuel:Int):Mc×Int:=
 if decide (fuel<0) ||(decide (fuel > 1000000) || !(p.check.1==0))then(⟨[],[],0,0,0,[],[]⟩,1)else((runM p T W fuel).getD ⟨[],[],0,0,0,[],[]⟩,0)
theorem IB (m:Mc):D.bM 0 0 (gN m)=true:=by simp[gN,D.bM,D.ok,Tag.ok,ju,amD]
theorem aeW {p:Pg} (hR:p.Right) : ∃ (j:Nat) (q:Pc),p.at jb=(j:Int)∧p.procs[j]? = some q∧p.find q.name=some q∧q.params.length=0:=by
 have h:=hR.main
 unfold Pg.oW at h
 cases e:p.find jb with
 |none=>rw[e]at h;cases h
 |some q=>
  rw[e]at h
  obtain⟨j,h1,h2⟩:=EY (k:=0) e
  refine⟨j,q,by simpa[Pg.at]using h1,h2,by rw[tZ e];exact e, ?_⟩
  simp only[decide_eq_false_iff_not]at h
  omega
theorem aiU {p:Pg} (hO:p.jE) {T W:List Int} (hT:T.length<1000000) (hW:W.length<1000000) (fuel:Int) (s:St) :
 aH Tryz.prog xD [.agg (bV p), .slice .shared 1 (T.map cO), .int .i64 fuel, .slice .shared 1 (W.map cO)] s (.tuple [.agg (gN (ofM p T W fuel).1), .int .i64 (ofM p T W fuel).2]) s:=by
 refine aH.pure ?_ (by simp[D.bM,D.ok,Tag.ok,jj,ju]) (by simp only[D.ok,D.bM,IB];rfl) s
 have cM:=fun s=>N9 hO s
 have cN:=fun s=>EL (p:=p) (by have:=hO.procs;omega) s
 generalize hR:ofM p T W fuel=R
 unfold ofM at hR
 obtain⟨R1,R2⟩:=R
 dsimp only
 unfold S0
 by_cases Oi:(decide (fuel<0) ||(decide (fuel > 1000000) || !(p.check.1==0)))=true
 ·rw [if_pos Oi]at hR
  cases hR
  simp only[gN,List.map_nil]
  rcases Bool.eq_false_or_eq_true (decide (fuel<0))with b1|b1
  ·refine aH.go wX rfl fun B Q hB hQ=> ?_
   have⟨hD,gA,gB,gC⟩:=bX
   repeat' (first
 |simp only[go_sem,hD,gA,gB,gC,b1]
 |(with_reducible first|refine bq fun hc=>?_|refine br fun hc=>?_|refine bt (fun hc=>?_) fun hc=>?_)<;>(try simp only[hc,bs,↓reduceIte]at h)<;>try simp only[hc]
 |(with_reducible refine aJ hQ ?_;(try cases h);simp only[bh,bk,bO,bP,go_sem,hD,gA,gB,gC,b1];try exact cJ)
 | (cases h;done))
   refine mY.ki ?_
   repeat' (first
 |simp only[go_sem,hD,gA,gB,gC,b1]
 |(with_reducible first|refine bq fun hc=>?_|refine br fun hc=>?_|refine bt (fun hc=>?_) fun hc=>?_)<;>(try simp only[hc,bs,↓reduceIte]at h)<;>try simp only[hc]
 |(with_reducible refine aJ hQ ?_;(try cases h);simp only[bh,bk,bO,bP,go_sem,hD,gA,gB,gC,b1];try exact cJ)
 | (cases h;done))
  rcases Bool.eq_false_or_eq_true (decide (fuel > 1000000))with b2|b2
  ·refine aH.go wX rfl fun B Q hB hQ=> ?_
   have⟨hD,gA,gB,gC⟩:=bX
   repeat' (first
 |simp only[go_sem,hD,gA,gB,gC,b1,b2]
 |(with_reducible first|refine bq fun hc=>?_|refine br fun hc=>?_|refine bt (fun hc=>?_) fun hc=>?_)<;>(try simp only[hc,bs,↓reduceIte]at h)<;>try simp only[hc]
 |(with_reducible refine aJ hQ ?_;(try cases h);simp only[bh,bk,bO,bP,go_sem,hD,gA,gB,gC,b1,b2];try exact cJ)
 | (cases h;done))
   refine mY.ki ?_
   repeat' (first
 |simp only[go_sem,hD,gA,gB,gC,b1,b2]
 |(with_reducible first|refine bq fun hc=>?_|refine br fun hc=>?_|refine bt (fun hc=>?_) fun hc=>?_)<;>(try simp only[hc,bs,↓reduceIte]at h)<;>try simp only[hc]
 |(with_reducible refine aJ hQ ?_;(try cases h);simp only[bh,bk,bO,bP,go_sem,hD,gA,gB,gC,b1,b2];try exact cJ)
 | (cases h;done))
  ·have b3:(p.check.1==0)=false:=by simpa [b1,b2]using Oi
   rw[b3]at cM
   refine aH.go wX rfl fun B Q hB hQ=>?_
   have⟨hD,gA,gB,gC⟩:=bX
   repeat' (first
 |simp only[go_sem,hD,gA,gB,gC,b1,b2]
 |(with_reducible refine CU (cM _) ?_)
 |(with_reducible first|refine bq fun hc=>?_|refine br fun hc=>?_|refine bt (fun hc=>?_) fun hc=>?_)<;>(try simp only[hc,bs,↓reduceIte]at h)<;>try simp only[hc]
 |(with_reducible refine aJ hQ ?_;(try cases h);simp only[bh,bk,bO,bP,go_sem,hD,gA,gB,gC,b1,b2];try exact cJ)
 | (cases h;done))
   refine mY.ki ?_
   repeat' (first
 |simp only[go_sem,hD,gA,gB,gC,b1,b2]
 |(with_reducible refine CU (cM _) ?_)
 |(with_reducible first|refine bq fun hc=>?_|refine br fun hc=>?_|refine bt (fun hc=>?_) fun hc=>?_)<;>(try simp only[hc,bs,↓reduceIte]at h)<;>try simp only[hc]
 |(with_reducible refine aJ hQ ?_;(try cases h);simp only[bh,bk,bO,bP,go_sem,hD,gA,gB,gC,b1,b2];try exact cJ)
 |(cases h;done))
 rw[if_neg Oi]at hR
 simp only[Bool.or_eq_true,not_or,Bool.not_eq_true,Bool.not_eq_false']at Oi
 obtain⟨b1,b2,b3⟩:=Oi
 rw[b3]at cM
 have T3:0≤fuel∧fuel≤1000000:=by simp at b1 b2;omega
 obtain⟨mf,hmf⟩:=KA p T W T3.1
 rw[hmf]at hR
 simp only[Option.getD_some]at hR
 cases hR
 have hRt:=Gs b3
 have hS:JF p T W fuel:=⟨hO,hRt,hW,hT,T3⟩
 obtain⟨j,q,j1,j2,j3,j4⟩:=aeW hRt
 have cP:=fun s=>(show aH Tryz.prog jx [.dS (gu p) 0, .str [109,97,105,110]] s (.int .i64 (p.at jb)) s from HL (p:=p) (by have:=hO.procs;omega) jb s)
 rw[j1]at cP
 have sR:=hO.procs.2.2
 refine aH.go wX rfl fun B Q hB hQ=>?_
 have⟨hD,gA,gB,gC⟩:=bX
 -- from the globals on
 have start : ∀ (y:Lay) (s:St),Inv p T W y (kK p) [(2,Em)] s→Sem Tryz.prog B 131 Q43 (JJ B Q) [(2, .int .i64 fuel),(8, .ptr 2 0),(10, .ptr 0 0)] s:=by
  intro y s hi
  have Qz:=hi.new [.int .i64 0, .int .i64 0, .slice .full 0 [], .str [], .str [], .int .i64 0, .int .i64 0, .str [], .slice .full 0 [], .bool false, .slice .full 0 [], .slice .full 0 [], .slice .full 0 [], .int .i64 0, .int .i64 0, .int .i64 0, .int .i64 0]
  have oV:=Qz.kM
  rw[gj]at oV
  simp only at oV
  obtain⟨y2,s2,hF,pw⟩:=Qw Qz hO hRt.may j2 j3 (by simp[kK]) (l:= []) (by simp) (by simp) (by simp[kK]) 0
  have hF':=bW.su (.cons (Wk.refl _) (.cons (Wk.refl _) (.cons (Wk.nil .full 0 1) (kv.refl _)))) hF
  have hF2:aH Tryz.prog kg [.ptr 0 0, .int .i64 (j:Int), .slice .full 0 [], .int .i64 0] _ _ s2:=hF'
  have nS:=Qq (m:=kK p) (pA hRt) j2 (l:= []) (call:=0) (by simp[j4]) (by simp) (by simp[kK]) (by simp[kK]) (.inl ⟨rfl,rfl⟩)
  have lZ:=hmf
  unfold runM at lZ
  rw[j1]at lZ
  dsimp only at lZ
  have jC:=zk p (kK p) (j:Int) [] 0
  have ur:=(Bc p (kK p) (j:Int) [] 0).1
  have zb:((kK p).open p (j:Int) [] 0).2.fin=0:=by
   unfold Mc.open
   split<;>rfl
  have aiW:=aav (B:=B) hS hQ _ _ _ y2 s.al.length s2 ⟨⟨_,rfl,pw⟩,nS,⟨by rw[jC.2.2.2];simp[kK],by rw[jC.1,jC.2.2.2];simp[kK],by rw[jC.2.1,jC.2.2.2];simp[kK],by rw[jC.2.2.1,jC.2.2.2];simp[kK],Nat.le_trans ur (by simp[kK])⟩,zb,by rw[jC.2.2.2];simp[kK];exact T3.1⟩ lZ
  refine Sem.oK ?_
  repeat' (first
 |simp only[go_sem,hD,gA,gB,gC]
 |(with_reducible first|refine bq fun hc=>?_|refine br fun hc=>?_|refine bt (fun hc=>?_) fun hc=>?_)<;>(try simp only[hc,bs,↓reduceIte]at h)<;>try simp only[hc]
 |(with_reducible refine aJ hQ ?_;exact fU)
 |(cases h;done))
  refine Sem.oK ?_
  repeat' (first
 |simp only[go_sem,hD,gA,gB,gC]
 |(with_reducible first|refine bq fun hc=>?_|refine br fun hc=>?_|refine bt (fun hc=>?_) fun hc=>?_)<;>(try simp only[hc,bs,↓reduceIte]at h)<;>try simp only[hc]
 |(with_reducible refine aJ hQ ?_;exact fU)
 |(cases h;done))
  refine Sem.oK ?_
  repeat' (first
 |simp only[go_sem,hD,gA,gB,gC,oV]
 |(with_reducible refine CU (cP _) ?_)
 |(with_reducible refine CU (hF2) ?_)
 |(with_reducible first|refine bq fun hc=>?_|refine br fun hc=>?_|refine bt (fun hc=>?_) fun hc=>?_)<;>(try simp only[hc,bs,↓reduceIte]at h)<;>try simp only[hc]
 |(with_reducible refine aJ hQ ?_;(try cases h);simp only[bh,bk,bO,bP,go_sem,hD,gA,gB,gC,oV];try exact cJ)
 |(cases h;done))
  refine Sem.oK ?_
  repeat' (first
 |simp only[go_sem,hD,gA,gB,gC]
 |(with_reducible first|refine bq fun hc=>?_|refine br fun hc=>?_|refine bt (fun hc=>?_) fun hc=>?_)<;>(try simp only[hc,bs,↓reduceIte]at h)<;>try simp only[hc]
 |(with_reducible refine aJ hQ ?_;exact fU)
 |(cases h;done))
  refine Sem.rn ?_ aiW
  simp only[go_sem]
  repeat' (first|exact Ok.out|with_reducible refine jo ?_ ?_)
 generalize hG:p.globals.length=G at *
 have hGb:G≤900000:=by rw[← hG];exact hO.procs.2.2
 let row:Nat→List D:=fun k=> [.dS (gu p) 0, .slice (.tok 2) 1 ((List.range k).map fun i=>ga (3+i)), .slice .shared 1 (T.map cO), .slice .shared 1 (W.map cO), .fk 1, .fk 1, .int .i64 0, .int .i64 0, .int .i64 0, .slice (.tok 0) 1 [], .slice (.tok 1) 2 []]
 have loop : ∀ d k:Nat,k+d=G→bp Tryz.prog B 131 Q2H (iN 0 (lu (Sem Tryz.prog B 131 Q43 (JJ B Q)) (JJ B Q))) [(2, .int .i64 fuel),(8, .ptr 2 0),(10, .ptr 0 0),(34, .int .i64 (G:Int)),(35, .int .i64 (k:Int))]
  ⟨row k::bV p::Em::List.replicate k [.int .i64 0],[some 0,some 0,some k]⟩:=by
  intro d
  induction d with
  |zero=>
   intro k hk
   have wD:k=G:=by omega
   subst wD
   have hD:decide ((k:Int)<(k:Int))=false:=by simp
   refine bp.ki ?_
   repeat' (first
 |simp only[go_sem,hD,gA,gB,gC]
 |(with_reducible first|refine bq fun hc=>?_|refine br fun hc=>?_|refine bt (fun hc=>?_) fun hc=>?_)<;>(try simp only[hc,bs,↓reduceIte]at h)<;>try simp only[hc]
 |(with_reducible refine aJ hQ ?_;exact fU)
 | (cases h;done))
   refine Sem.rn (bK:= [(2, .int .i64 fuel),(8, .ptr 2 0),(10, .ptr 0 0)]) (by simp only[go_sem];repeat' (first|exact Ok.out|with_reducible refine jo ?_ ?_)) ?_
   have hκ:((List.range k).map (3 + ·)).length=k:=by simp
   have hmp:((List.range k).map fun i=>ga (3+i))=(((List.range k).map (3 + ·)).take k).map ga:=by rw[List.take_of_length_le (by simp),List.map_map];rfl
   refine Sem.wkO (gj p T W ⟨(List.range k).map (3 + ·),[], .fk 1, .fk 1⟩ (kK p)::bV p::Em::List.replicate k [.int .i64 0]) ?_ (start ⟨(List.range k).map (3 + ·),[], .fk 1, .fk 1⟩ _ ?_)
   ·refine .cons ?_ (ik.refl _)
    simp only[row,gj,hG, ← hmp,kK,List.map_nil]
    exact Ok.out
   ·have Is:((List.range k).map (3 + ·)).Nodup:=by
     rw[List.nodup_iff_pairwise_ne,List.pairwise_map]
     exact List.Pairwise.imp (fun h=>by omega) (List.nodup_iff_pairwise_ne.1 List.nodup_range)
    refine⟨rfl,rfl,rfl,by simp[kK,hG],fun i c v e1 e2=>?_,rfl,fun i o fr e1 e2=>by simp at e1, .inl ⟨rfl,rfl⟩,⟨[], .inl ⟨rfl,rfl⟩⟩, ?_,fun x mx=>?_⟩
    ·have hD:=(List.getElem?_eq_some_iff.1 e1).1
     simp only[hκ]at hD
     rw[List.getElem?_map,List.getElem?_range hD]at e1
     simp only[kK]at e2
     rw[List.getElem?_replicate_of_lt (by omega)]at e2
     simp only[Option.map_some,Option.some.injEq]at e1 e2
     subst e1 e2
     show(_::_::_::List.replicate k [D.int .i64 0])[3+i]? = _
     rw[show 3+i=i+1+1+1 by omega]
     simp only[List.getElem?_cons_succ]
     exact List.getElem?_replicate_of_lt hD
    ·simp only [Lay.own,D.arr,List.append_nil]
     rw[List.nodup_cons]
     exact⟨by simp,Is⟩
    ·rw [List.mem_singleton.1 mx]
     refine⟨rfl, ?_⟩
     simp only[Lay.own,D.arr,List.append_nil,List.mem_cons,List.mem_map,List.mem_range,not_or]
     exact⟨by omega,by rintro⟨i,_,h⟩;omega⟩
  | succ d ih=>
   intro k hk
   have hD:decide ((k:Int)<(G:Int))=true:=by simp;omega
   have ct:k<4611686018427387904:=by omega
   have fv : ∀ os,jv 1 8 (.slice (.tok 2) 1 ((List.range k).map fun i=>ga (3+i))) (.slice .full 1 [[.ptr (3+k) 0]]) ⟨os,[some 0,some 0,some k]⟩ =
    some (.slice (.tok 2) 1 ((List.range (k+1)).map fun i=>ga (3+i)),⟨os,[some 0,some 0,some (k+1)]⟩):=fun os=>by
    rw[pH (size:=1) (by simp only[List.length_map,List.length_range,List.length_singleton];unfold bD;omega) (by simp)]
    simp[List.range_succ,ga]
   have hln : ∀ a b c:List D,(a::b::c::List.replicate k [D.int .i64 0]).length=3+k:=fun a b c=>by simp;omega
   have aiX : ∀ a b c:List D,a::b::c::List.replicate k [D.int .i64 0]++ [[D.int .i64 0]] = a::b::c::List.replicate (k+1) [D.int .i64 0]:=fun a b c=>by rw[List.replicate_succ'];rfl
   refine bp.ki ?_
   simp only[row]
   repeat' (first
 |simp only[go_sem,hD,gA,gB,gC,fv,hln,aiX]
 |(with_reducible first|refine bq fun hc=>?_|refine br fun hc=>?_|refine bt (fun hc=>?_) fun hc=>?_)<;>(try simp only[hc,bs,↓reduceIte]at h)<;>try simp only[hc]
 |(with_reducible refine aJ hQ ?_;(try cases h);simp only[bh,bk,bO,bP,go_sem,hD,gA,gB,gC,fv,hln,aiX];try exact cJ)
 | (cases h;done))
   have:=ih (k+1) (by omega)
   simp only[row,List.range_succ,List.map_append,List.map_cons,List.map_nil]at this
   refine bp.rn ?_ this
   simp only[go_sem,aM ct]
   repeat' (first|exact Ok.out|with_reducible refine jo ?_ ?_)
 repeat' (first
 |simp only[go_sem,hD,gA,gB,gC,b1,b2]
 |(with_reducible first|refine bq fun hc=>?_|refine br fun hc=>?_|refine bt (fun hc=>?_) fun hc=>?_)<;>(try simp only[hc,bs,↓reduceIte]at h)<;>try simp only[hc]
 |(with_reducible refine aJ hQ ?_;(try cases h);simp only[bh,bk,bO,bP,go_sem,hD,gA,gB,gC,b1,b2];try exact cJ)
 |(cases h;done))
 refine mY.once (Sem.oK ?_)
 repeat' (first
 |simp only[go_sem,hD,gA,gB,gC,b1,b2]
 |(with_reducible refine CU (cM _) ?_)
 |(with_reducible first|refine bq fun hc=>?_|refine br fun hc=>?_|refine bt (fun hc=>?_) fun hc=>?_)<;>(try simp only[hc,bs,↓reduceIte]at h)<;>try simp only[hc]
 |(with_reducible refine aJ hQ ?_;(try cases h);simp only[bh,bk,bO,bP,go_sem,hD,gA,gB,gC,b1,b2];try exact cJ)
 |(cases h;done))
 refine Sem.oK ?_
 repeat' (first
 |simp only[go_sem,hD,gA,gB,gC]
 |(with_reducible refine CU (cN _) ?_)
 |(with_reducible first|refine bq fun hc=>?_|refine br fun hc=>?_|refine bt (fun hc=>?_) fun hc=>?_)<;>(try simp only[hc,bs,↓reduceIte]at h)<;>try simp only[hc]
 |(with_reducible refine aJ hQ ?_;exact fU)
 |(cases h;done))
 refine Sem.oK ?_
 repeat' (first
 |simp only[go_sem,hD,gA,gB,gC]
 |(with_reducible first|refine bq fun hc=>?_|refine br fun hc=>?_|refine bt (fun hc=>?_) fun hc=>?_)<;>(try simp only[hc,bs,↓reduceIte]at h)<;>try simp only[hc]
 |(with_reducible refine aJ hQ ?_;exact fU)
 |(cases h;done))
 refine bp.By 2 9 1 rfl rfl ?_
 refine bp.By 2 10 2 rfl rfl ?_
 refine bp.By 2 1 1 rfl rfl ?_
 simp only[List.set_cons_succ,List.set_cons_zero,List.length_nil,List.nil_append,List.length_cons,List.cons_append]
 have l0:=loop G 0 (by omega)
 simp only[row,List.range_zero,List.map_nil,List.replicate_zero]at l0
 refine bp.re [(2, .int .i64 fuel),(8, .ptr 1 0),(10, .ptr 2 0),(34, .int .i64 (G:Int)),(35, .int .i64 ((0:Nat):Int))]
  [bV p,Em,[.dS (gu p) 0, .slice (.tok 2) 1 [], .slice .shared 1 (T.map cO), .slice .shared 1 (W.map cO), .fk 1, .fk 1, .int .i64 0, .int .i64 0, .int .i64 0, .slice (.tok 0) 1 [], .slice (.tok 1) 2 []]] 3 3 (by rw[hB];exact Nat.zero_le _) (by rw[hB];exact Nat.zero_le _) ?_ ?_ ?_
 ·simp only [go_sem,hG]
  repeat' (first|exact Ok.out|with_reducible refine jo ?_ ?_)
 ·simp only [go_sem,acz]
  repeat' (first|exact Ok.out|with_reducible refine jo ?_ ?_)
 have r1 : ∀ os ts,D.fa os ts (gu p)=gu p:=fun os ts=>fY os ts _ (wy p)
 have r2 : ∀ n m,D.bM n m (gu p)=true:=fun n m=>jw (Nat.zero_le n) (Nat.zero_le m) _ (wy p)
 have r3 : ∀ os ts l,D.pF os ts (List.map cO l)=List.map cO l:=fun os ts l=>ke os ts _ (ju l)
 have r4 : ∀ n m l,D.jd n m (List.map cO l)=true:=fun n m l=>n8 (Nat.zero_le n) (Nat.zero_le m) _ (ju l)
 refine bp.S2 hB [2,0,1] _ _ (by decide) (by simp) ?_ ?_ l0
 ·simp[xB,D.fa,D.cT,D.pF,D.bM,D.jd,D.ok,Tag.cT,Tag.ok,St.cut,r1,r2,r3,r4,AL,DH,Em]
 ·simp[AH,Tm.get,D.cT,D.ok]
theorem GC {a b:List Int} (ha:a.length<1000000000) (g:Tag) (s:St):aH Tryz.prog oM [.slice .shared 1 (a.map cO), .slice g 1 (b.map cO)] s (.bool (a==b)) s:=by
 refine bW.su (.cons (Wk.refl _) (.cons (Wk.shared _ _ _) .nil)) (aH.pure ?_ (by simp[D.bM,D.ok,Tag.ok,ju]) rfl s)
 generalize h:(a==b)=R
 unfold S0
 by_cases hl:a.length=b.length
 ·have e1:((a.length:Int) != (b.length:Int))=false:=by simp [hl]
  refine aH.go xM rfl fun B Q hB hQ=>?_
  have⟨hD,gA,gB,gC⟩:=bX
  repeat' (first
 |simp only[go_sem,hD,gA,gB,gC,e1]
 |(with_reducible first|refine bq fun hc=>?_|refine br fun hc=>?_|refine bt (fun hc=>?_) fun hc=>?_)<;>(try simp only[hc,bs,↓reduceIte]at h)<;>try simp only[hc]
 |(with_reducible refine aJ hQ ?_;(try cases h);simp only[bh,bk,bO,bP,go_sem,hD,gA,gB,gC,e1];try exact cJ)
 | (cases h;done))
  refine fI 0 0 (bp.ind (ι:=List Int×List Int×Nat) (fun i=>a.drop i.2.2=i.1∧b.drop i.2.2=i.2.1∧(i.1==i.2.1)=R) (fun i=>i.1.length)
   (fun i=> [(0, .slice .shared 1 (a.map cO)),(1, .slice .shared 1 (b.map cO)),(12, .int .i64 (a.length:Int)),(13, .int .i64 (i.2.2:Int))]) (fun i=>⟨[],[]⟩) ?_ (a,b,0) ⟨rfl,rfl,h⟩)
  rintro⟨ra,rb,k⟩ ⟨h1,h2,h⟩ IH
  dsimp only at h1 h2 h
  cases ra with
  |nil=>
   have hD:=drop_nil h1
   have:b.drop k = []:=by rw[List.drop_eq_nil_iff]at h1 ⊢;omega
   rw[h2]at this
   subst this
   have h':true=R:=h
   subst h'
   repeat' (first
 |simp only[go_sem,hD,gA,gB,gC]
 |(with_reducible first|refine bq fun hc=>?_|refine br fun hc=>?_|refine bt (fun hc=>?_) fun hc=>?_)<;>(try simp only[hc,bs,↓reduceIte]at h)<;>try simp only[hc]
 |(with_reducible refine aJ hQ ?_;exact fU)
 | (cases h;done))
  | cons x ra=>
   obtain⟨gA,g2,hD,g4⟩:=drop_cons h1
   have ct:k<4611686018427387904:=by omega
   cases rb with
   |nil=>rw[List.drop_eq_nil_iff]at h2;omega
   | cons y rb=>
    obtain⟨yB,g2',ah9,g4'⟩:=drop_cons h2
    have e2:(x != y) = !(x==y):=rfl
    simp only[List.cons_beq_cons]at h
    rcases Bool.eq_false_or_eq_true (x==y)with c|c
    ·simp only [c,Bool.true_and]at h
     repeat' (first
 |simp only[go_sem,hD,gA,gB,gC,e2,c,yB]
 |(with_reducible first|refine bq fun hc=>?_|refine br fun hc=>?_|refine bt (fun hc=>?_) fun hc=>?_)<;>(try simp only[hc,bs,↓reduceIte]at h)<;>try simp only[hc]
 |(with_reducible refine aJ hQ ?_;(try cases h);simp only[bh,bk,bO,bP,go_sem,hD,gA,gB,gC,e2,c,yB];try exact cJ)
 | (cases h;done))
     refine fm 0 0 ?_ ?_ (IH (ra,rb,k+1) ⟨g2,g2',h⟩ (Nat.lt_succ_self _))
     ·(simp only[go_sem,hD,gA,gB,gC,aM ct];try exact cd)
     ·(simp only[go_sem,hD,gA,gB,gC,aM ct];try exact cd)
    ·simp only [c,Bool.false_and]at h
     repeat' (first
 |simp only[go_sem,hD,gA,gB,gC,e2,c,yB]
 |(with_reducible first|refine bq fun hc=>?_|refine br fun hc=>?_|refine bt (fun hc=>?_) fun hc=>?_)<;>(try simp only[hc,bs,↓reduceIte]at h)<;>try simp only[hc]
 |(with_reducible refine aJ hQ ?_;(try cases h);simp only[bh,bk,bO,bP,go_sem,hD,gA,gB,gC,e2,c,yB];try exact cJ)
 |(cases h;done))
 ·have e1:((a.length:Int) != (b.length:Int))=true:=by simp;omega
  have:(a==b)=false:=by
   rw[beq_eq_false_iff_ne];intro e;rw[e]at hl;exact hl rfl
  rw[this]at h
  subst h
  refine aH.go xM rfl fun B Q hB hQ=>?_
  have⟨hD,gA,gB,gC⟩:=bX
  repeat' (first
 |simp only[go_sem,hD,gA,gB,gC,e1]
 |(with_reducible first|refine bq fun hc=>?_|refine br fun hc=>?_|refine bt (fun hc=>?_) fun hc=>?_)<;>(try simp only[hc,bs,↓reduceIte]at h)<;>try simp only[hc]
 |(with_reducible refine aJ hQ ?_;(try cases h);simp only[bh,bk,bO,bP,go_sem,hD,gA,gB,gC,e1];try exact cJ)
 |(cases h;done))
structure Mc.Len (m:Mc):Prop where
 out:m.out.length<1000000000
 trace:m.trace.length<1000000000
 bJ : ∀ e∈m.trace,e.2.length<1000000000
def Cj (a b:Mc):Bool:=a.fin==b.fin && (a.steps==b.steps && (a.reads==b.reads && a.out==b.out))
def aBL (a b:Mc):Bool:=Cj a b && a.trace==b.trace
theorem aeX {a b:Mc} (ha:a.Len) (s:St):aH Tryz.prog we [.agg (gN a), .agg (gN b)] s (.bool (Cj a b)) s:=by
 refine aH.pure ?_ (by simp[D.bM,D.ok,IB]) rfl s
 have cE:=fun g s=>GC (a:=a.out) (b:=b.out) ha.out g s
 generalize h:Cj a b=R
 simp only[Cj]at h
 unfold S0
 simp only[gN]
 rcases Bool.eq_false_or_eq_true (a.fin==b.fin)with c1|c1
 all_goals rcases Bool.eq_false_or_eq_true (a.steps==b.steps)with c2|c2
 all_goals rcases Bool.eq_false_or_eq_true (a.reads==b.reads)with c3|c3
 all_goals
  simp only[c1,c2,c3,Bool.true_and,Bool.false_and]at h
  subst h
  refine aH.go Hy rfl fun B Q hB hQ=>?_
  have⟨hD,gA,gB,gC⟩:=bX
  repeat' (first
 |simp only[go_sem,hD,gA,gB,gC,c1,c2,c3]
 |(with_reducible refine CU (cE _ _) ?_)
 |(with_reducible first|refine bq fun hc=>?_|refine br fun hc=>?_|refine bt (fun hc=>?_) fun hc=>?_)<;>(try simp only[hc,bs,↓reduceIte]at h)<;>try simp only[hc]
 |(with_reducible refine aJ hQ ?_;(try cases h);simp only[bh,bk,bO,bP,go_sem,hD,gA,gB,gC,c1,c2,c3];try exact cJ)
 |(cases h;done))
theorem JH:gN (ofM tX [] [5,2] 50).1 = [.int .i64 1, .int .i64 7, .int .i64 0, .slice .shared 1 ([5,5].map cO), .slice .shared 2 ([(2,[]),(5,[5])].map pP)]:=by kernel_rfl
theorem amF:(ofM tX [] [5,2] 50).2=0:=by kernel_rfl
theorem aeY:Nat.ble (tX.size+1) 1000=true:=by kernel_rfl
theorem Xc (n:Int):sm (.ofInt .f64) (.int .i64 n) (.int .i64 n)=some (.val (.float .f64 (FloatKind.nearest .f64 n))):=nd rfl
theorem Oj (a b:Nat):sm .LO (.val (.float .f64 a)) (.val (.float .f64 b))=some (.val (.complex .f64 a b)):=nd rfl
theorem Ol (a b:Nat) (d:D):sm .real (.val (.complex .f64 a b)) d=some (.val (.float .f64 a)):=nd rfl
theorem acS:sm .eq (.val (.float .f64 (FloatKind.nearest .f64 7))) (.val (.float .f64 4619567317775286272))=some (.bool true):=by
 have:FloatKind.nearest .f64 7=4619567317775286272:=by decide +kernel
 rw[this]
 have h:(FloatKind.f64.format.order 4619567317775286272 4619567317775286272==some .eq)=true:=by decide +kernel
 show(if FloatKind.f64=FloatKind.f64 then some (D.bool (FloatKind.f64.format.order 4619567317775286272 4619567317775286272==some .eq))else none)=_
 rw[if_pos rfl,h]
theorem aiY:tX.jE:=by
 have xl:tX.size<100000:=by have:=Nat.le_of_ble_eq_true aeY;omega
 exact⟨Kn (by decide +kernel) (by omega),by omega⟩
theorem aiZ (n k:Nat) (m:Mc):D.iG n k (gN m)=gN m:=jh n k _ (IB m)
theorem aeZ (m:Mc):(gN m).length=5:=nd rfl
theorem aax (m:Mc):List.take 5 (gN m)=gN m:=nd rfl
theorem amG (m:Mc):(gN m)[0]? = some (.int .i64 m.fin):=nd rfl
theorem amH (m:Mc):(gN m)[1]? = some (.int .i64 m.steps):=nd rfl
theorem amI (m:Mc):(gN m)[2]? = some (.int .i64 m.reads):=nd rfl
theorem amJ (m:Mc):(gN m)[3]? = some (.slice .shared 1 (m.out.map cO)):=nd rfl
theorem amK (m:Mc):(gN m)[4]? = some (.slice .shared 2 (m.trace.map pP)):=nd rfl
attribute [go_sem] aiZ aeZ aax amG amH amI amJ amK
theorem ae0 (m:Mc) (s:St):aH Tryz.prog zO [.agg (gN m)] s (.val (.complex .f64 (FloatKind.nearest .f64 m.steps) (FloatKind.nearest .f64 m.reads))) s:=by
 refine aH.pure ?_ (by simp[D.bM,D.ok,IB]) rfl s
 unfold S0
 refine aH.go Ld rfl fun B Q hB hQ=>?_
 have⟨hD,gA,gB,gC⟩:=bX
 repeat' (first
 |simp only[go_sem,hD,gA,gB,gC,gN,Xc,Oj]
 |(with_reducible first|refine bq fun hc=>?_|refine br fun hc=>?_|refine bt (fun hc=>?_) fun hc=>?_)<;>(try simp only[hc,bs,↓reduceIte]at h)<;>try simp only[hc]
 |(with_reducible refine aJ hQ ?_;(try cases h);simp only[bh,bk,bO,bP,go_sem,hD,gA,gB,gC,gN,Xc,Oj];try exact cJ)
 |(cases h;done))
theorem amL (s:St):aH Tryz.prog zL [] s (.bool true) s:=by
 refine aH.pure ?_ rfl rfl s
 have h1:=fun s=>aiu s
 have h2:=fun s=>aiU (T:= []) (W:= [5,2]) aiY (by simp) (by simp) 50 s
 have h4:=fun s=>ae0 (ofM tX [] [5,2] 50).1 s
 have m1:(ofM tX [] [5,2] 50).1.steps=7:=by have:=congrArg (fun l=>l[1]?) JH;simpa[gN]using this
 have m2:(ofM tX [] [5,2] 50).1.reads=0:=by have:=congrArg (fun l=>l[2]?) JH;simpa[gN]using this
 rw[m1,m2]at h4
 rw[JH]at h2 h4
 rw[amF]at h2
 simp only[List.map_cons,List.map_nil,cO,pP]at h2 h4
 have h3:=fun g s=>GC (a:= [5,5]) (b:= [5,5]) (by simp) g s
 have h5:=fun g s=>GC (a:= [5]) (b:= [5]) (by simp) g s
 have e5:(([5,5] : List Int) == [5,5])=true:=rfl
 have e6:(([5] : List Int) == [5])=true:=rfl
 rw[e5]at h3
 rw[e6]at h5
 simp only[List.map_cons,List.map_nil,cO]at h3 h5
 have wH:=fun s=>bW.su (.cons (Wk.refl _) (.cons (Wk.nil .full 0 1) (.cons (Wk.refl _) (.cons (Wk.shared .full _ _) .nil)))) (h2 s)
 have h2 : ∀ s,aH Tryz.prog xD [.agg (bV tX), .slice .full 0 [], .int .i64 50, .slice .full 1 [[.int .i64 5],[.int .i64 2]]] s _ s:=wH
 clear wH
 have z0 : ∀ x:Int,(x==x)=true:=fun x=>beq_self_eq_true x
 have z2:(((2:Nat):Int)==2)=true:=rfl
 unfold S0
 refine aH.go La rfl fun B Q hB hQ=>?_
 have⟨hD,gA,gB,gC⟩:=bX
 repeat' (first
 |simp only[go_sem,hD,gA,gB,gC,z0,z2,Ol,acS,Int.toNat_one,List.getElem?_cons_succ,List.getElem?_cons_zero]
 |(with_reducible refine CU (h1 _) ?_)
 |(with_reducible refine CU (h2 _) ?_)
 |(with_reducible refine CU (h3 _ _) ?_)
 |(with_reducible refine CU (h5 _ _) ?_)
 |(with_reducible refine CU (h4 _) ?_)
 |(with_reducible first|refine bq fun hc=>?_|refine br fun hc=>?_|refine bt (fun hc=>?_) fun hc=>?_)<;>(try simp only[hc,bs,↓reduceIte]at h)<;>try simp only[hc]
 |(with_reducible refine aJ hQ ?_;(try cases h);simp only[bh,bk,bO,bP,go_sem,hD,gA,gB,gC,z0,z2,Ol,acS,Int.toNat_one,List.getElem?_cons_succ,List.getElem?_cons_zero];try exact cJ)
 |(cases h;done))
theorem ae1 {p:Pg} (hO:p.jE) (T:List Int) (fuel:Int) (s:St):aH Tryz.prog wc [.agg (bV p), .slice .shared 1 (T.map cO), .int .i64 fuel] s (.bool (p.check.1==0 && (decide (0≤fuel) && (decide (fuel≤400) && decide ((T.length:Int)≤100))))) s:=by
 refine aH.pure ?_ (by simp[D.bM,D.ok,Tag.ok,jj,ju]) rfl s
 have h1:=fun s=>N9 hO s
 have g1:decide (fuel≥0)=decide (0≤fuel):=rfl
 unfold S0
 rcases Bool.eq_false_or_eq_true (p.check.1==0)with b1|b1
 all_goals rcases Bool.eq_false_or_eq_true (decide (0≤fuel))with b2|b2
 all_goals rcases Bool.eq_false_or_eq_true (decide (fuel≤400))with b3|b3
 all_goals rcases Bool.eq_false_or_eq_true (decide ((T.length:Int)≤100))with b4|b4
 all_goals simp only[b1,b2,b3,b4,Bool.true_and,Bool.false_and]
 all_goals rw[b1]at h1
 all_goals rw[b2]at g1
 all_goals
  refine aH.go Hw rfl fun B Q hB hQ=>?_
  have⟨hD,gA,gB,gC⟩:=bX
  repeat' (first
 |simp only[go_sem,hD,gA,gB,gC,g1,b3,b4]
 |(with_reducible refine CU (h1 _) ?_)
 |(with_reducible first|refine bq fun hc=>?_|refine br fun hc=>?_|refine bt (fun hc=>?_) fun hc=>?_)<;>(try simp only[hc,bs,↓reduceIte]at h)<;>try simp only[hc]
 |(with_reducible refine aJ hQ ?_;(try cases h);simp only[bh,bk,bO,bP,go_sem,hD,gA,gB,gC,g1,b3,b4];try exact cJ)
 |(cases h;done))
def Pg.whole (p:Pg) (T:List Int) (fuel:Int):Mc:=(ofM p T (ku 0 p.all) fuel).1
theorem IC {p:Pg} (hO:p.jE) (xU:p.all.length≤1000) {T:List Int} (hT:T.length<1000000) (fuel:Int) (s:St):aH Tryz.prog sc [.agg (bV p), .slice .shared 1 (T.map cO), .int .i64 fuel] s (.agg (gN (p.whole T fuel))) s:=by
 refine aH.pure ?_ (by simp[D.bM,D.ok,Tag.ok,jj,ju]) (by simp only[D.ok,IB]) s
 have yZ:=hO.procs
 have h1:=fun s=>acH (p:=p) (by omega) xU 0 s
 have hW:(ku 0 p.all).length<1000000:=by have:=B4 0 p.all;omega
 have h2:=fun s=>aiU hO hT hW fuel s
 unfold Pg.whole
 unfold S0
 refine aH.go Hx rfl fun B Q hB hQ=>?_
 have⟨hD,gA,gB,gC⟩:=bX
 repeat' (first
 |simp only[go_sem,hD,gA,gB,gC]
 |(with_reducible refine CU (h1 _) ?_)
 |(with_reducible refine CU (h2 _) ?_)
 |(with_reducible first|refine bq fun hc=>?_|refine br fun hc=>?_|refine bt (fun hc=>?_) fun hc=>?_)<;>(try simp only[hc,bs,↓reduceIte]at h)<;>try simp only[hc]
 |(with_reducible refine aJ hQ ?_;exact fU)
 |(cases h;done))
end Go.Abs
namespace Go.Abs
def Reads (n:Nat) (m:Mc):Prop:=0≤m.reads∧m.reads≤(n:Int)∧(m.fin=3→m.reads=(n:Int))
def Sm.tells (s:Sm):Nat:=if s.kind==4 ||(decide (s.kind≥7) && !s.has)then 0 else 1
def QC (m m':Mc):Prop:=m'.trace=m.trace∧m'.out=m.out∧m'.reads=m.reads
def QD (T:List Int) (x:Sm) (m m':Mc):Prop:=∃ bJ:List Int,m'.trace=m.trace++ [(x.id,bJ)]∧m'.out=m.out++(if x.kind==3 then bJ else [])∧bJ.length=x.tells∧
 (if x.kind==2 then ∃ v,T[m.reads.toNat]? = some v∧bJ = [v]∧m'.reads=m.reads+1 else m'.reads=m.reads)
def Ck (T:List Int) (x:Sm) (m m':Mc):Prop:=QC m m'∨QD T x m m'
theorem QE {s:Sm} (h:s.one=true):1≤s.kind∧s.kind≤10∧(s.kind≠9→s.has=false):=by
 unfold Sm.one at h
 split at h
 ·cases h
 ·rename_i c
  simp only[Bool.or_eq_true,not_or,Bool.not_eq_true,Bool.and_eq_false_iff,decide_eq_false_iff_not,bne_eq_false_iff_eq]at c
  obtain⟨⟨⟨⟨⟨c1,c2⟩,_⟩,_⟩,_⟩,c3⟩:=c
  refine⟨by omega,by omega,fun hk=>?_⟩
  rcases c3 with c3|c3
  ·exact c3
  ·exact absurd c3 hk
theorem uW {T W:List Int} {x:Sm} {m m1:Mc} {bJ:List Int} (hW:W.contains x.id=true) (e:m1.trace=m.trace) (eo:m1.out=m.out) (er:m1.reads=m.reads) (hv:bJ.length=x.tells) (h3:(x.kind==3)=false) (h2:(x.kind==2)=false):QD T x m (m1.event W x.id bJ):=by
 have k:=fF W m1 x.id bJ
 refine⟨bJ, ?_, ?_,hv, ?_⟩
 ·unfold Mc.event;rw[if_pos hW];dsimp only;rw[e]
 ·rw[h3];simp[k.2.2.2.2.2,eo]
 ·rw[h2];simp[k.2.2.2.2.1,er]
theorem T4 {p:Pg} {T W:List Int} {m:Mc} {v:Sm} (hk:(v.kind==4)=true) (hW:W.contains v.id=true):Ck T v m (m.call p W v).2:=by
 have h1:=Ch v.args m []
 have h2:=zl v.args m []
 unfold Mc.call
 generalize Mc.args v.args m [] = r at *
 obtain⟨o,m1⟩:=r
 dsimp only at h1 h2
 have k4:v.kind=4:=by simpa using hk
 cases o with
 |none=>exact .inl ⟨h1.2,h1.1,h2.1⟩
 | some l=>
  dsimp only
  by_cases c:m1.st.length > 100
  ·rw[if_pos c];exact .inl ⟨h1.2,h1.1,h2.1⟩
  ·rw [if_neg c]
   have e2:=zk p (m1.event W v.id []) (p.at v.proc) l v.id
   obtain⟨bJ,g1,g2,g3,g4⟩:=uW (T:=T) (x:=v) (m:=m) (bJ:= []) hW h1.2 h1.1 h2.1 (by unfold Sm.tells;rw[hk];rfl) (by rw[k4];rfl) (by rw[k4];rfl)
   exact .inr ⟨bJ,e2.1.trans g1,e2.2.1.trans g2,g3,by rw[e2.2.2.1];exact g4⟩
theorem Py {T W:List Int} {m:Mc} {v:Sm} (hk:(v.kind==9)=true) (hW:W.contains v.id=true):Ck T v m (m.fH W v).2:=by
 have hw:=iR m v.x
 have k9:v.kind=9:=by simpa using hk
 have k4:(v.kind==4)=false:=by rw[k9];rfl
 have k7:decide (v.kind≥7)=true:=by simp[k9]
 unfold Mc.fH
 rcases Bool.eq_false_or_eq_true v.has with c|c
 ·rw [if_pos c]
  dsimp only
  split
  ·exact .inr (uW hW hw.2.2.2.2.2 hw.2.2.2.2.1 hw.2.2.2.1 (by unfold Sm.tells;rw[k4,k7,c];rfl) (by rw[k9];rfl) (by rw[k9];rfl))
  ·exact .inl ⟨hw.2.2.2.2.2,hw.2.2.2.2.1,hw.2.2.2.1⟩
 ·rw [if_neg (by rw [c];exact Bool.false_ne_true)]
  exact .inr (uW hW rfl rfl rfl (by unfold Sm.tells;rw[k4,k7,c];rfl) (by rw[k9];rfl) (by rw[k9];rfl))
theorem aay {p:Pg} {L:List Im} {T W:List Int} {m:Mc} {it:Im} (h1:it.s.one=true) (k4:(it.s.kind==4)=false) (k9:(it.s.kind==9)=false) (hW:W.contains it.s.id=true):Ck T it.s m (m.do p L T W it).2:=by
 have hw:=iR m it.s.x
 obtain⟨o1,o2,o3⟩:=QE h1
 have hh:=o3 (by simpa using k9)
 have late:(decide (it.s.kind≥7))=true→it.s.tells=0:=fun e=>by unfold Sm.tells;rw[k4,e,hh];rfl
 have auq:(decide (it.s.kind≥7))=false→it.s.tells=1:=fun e=>by unfold Sm.tells;rw[k4,e];rfl
 unfold Mc.do
 dsimp only
 by_cases c7:(it.s.kind==7)=true
 ·rw [if_pos c7]
  have e:it.s.kind=7:=by simpa using c7
  exact .inr (uW hW rfl rfl rfl (late (by simp[e])).symm (by rw[e];rfl) (by rw[e];rfl))
 rw[if_neg c7]
 by_cases c8:(it.s.kind==8)=true
 ·rw [if_pos c8]
  have e:it.s.kind=8:=by simpa using c8
  exact .inr (uW hW rfl rfl rfl (late (by simp[e])).symm (by rw[e];rfl) (by rw[e];rfl))
 rw[if_neg c8]
 by_cases KR:(it.s.kind==10)=true
 ·rw [if_pos KR]
  have e:it.s.kind=10:=by simpa using KR
  exact .inr (uW hW rfl rfl rfl (late (by simp[e])).symm (by rw[e];rfl) (by rw[e];rfl))
 rw[if_neg KR]
 have s7:decide (it.s.kind≥7)=false:=by
  simp only[beq_iff_eq]at c7 c8 KR
  simp only[beq_eq_false_iff_ne,ne_eq]at k9
  simp only[decide_eq_false_iff_not]
  omega
 have one:=auq s7
 by_cases c2:(it.s.kind==2)=true
 ·rw [if_pos c2]
  have e:it.s.kind=2:=by simpa using c2
  cases ht:T[m.reads.toNat]? with
  |none=>exact .inl ⟨rfl,rfl,rfl⟩
  |some n=>
   dsimp only
   have k:=fF W (({m with reads:=m.reads+1} : Mc).set it.s.name n) it.s.id [n]
   refine .inr ⟨[n], ?_, ?_,by rw[one];rfl, ?_⟩
   ·unfold Mc.event;rw[if_pos hW];rfl
   ·rw[k.2.2.2.2.2,e];simp[Mc.set]
   ·rw[if_pos c2];exact⟨n,ht,rfl,k.2.2.2.2.1⟩
 rw[if_neg c2]
 have Om:(it.s.kind==2)=false:=by simpa using c2
 by_cases cw:(m.bj it.s.x).1.2=true
 ·rw [if_pos cw]
  have k:=fF W (m.bj it.s.x).2 it.s.id [(m.bj it.s.x).1.1]
  have et:((m.bj it.s.x).2.event W it.s.id [(m.bj it.s.x).1.1]).trace=m.trace++ [(it.s.id,[(m.bj it.s.x).1.1])]:=by
   unfold Mc.event;rw[if_pos hW];dsimp only;rw[hw.2.2.2.2.2]
  by_cases c3:(it.s.kind==3)=true
  ·have e:it.s.kind=3:=by simpa using c3
   have n1 : ¬((it.s.kind==1)=true):=by rw[e];decide
   rw[if_neg n1,if_pos c3]
   refine .inr ⟨[(m.bj it.s.x).1.1],et, ?_,by rw[one];rfl, ?_⟩
   ·rw[if_pos c3];dsimp only;rw[k.2.2.2.2.2,hw.2.2.2.2.1]
   ·rw[if_neg c2];dsimp only;rw[k.2.2.2.2.1,hw.2.2.2.1]
  ·have key:QD T it.s m ((m.bj it.s.x).2.event W it.s.id [(m.bj it.s.x).1.1]):=
    uW hW hw.2.2.2.2.2 hw.2.2.2.2.1 hw.2.2.2.1 (by rw[one];rfl) (by simpa using c3) Om
   rw[if_neg c3]
   split
   ·exact .inr key
   split
   ·exact .inr key
   split
   ·exact .inr key
   ·exact .inr key
 ·rw [if_neg cw]
  exact .inl ⟨hw.2.2.2.2.2,hw.2.2.2.2.1,hw.2.2.2.1⟩
theorem On (L:List Im) (m:Mc) (g:Int):QC m (m.back L g).2:=by
 have h:=Ci L m g
 exact⟨h.1,h.2.1,h.2.2.1⟩
theorem Ck.sil {T:List Int} {x:Sm} {m m1 m2:Mc} (h:Ck T x m m1) (k:QC m1 m2):Ck T x m m2:=by
 rcases h with h|⟨v,h1,h2,h3,h4⟩
 ·exact .inl ⟨k.1.trans h.1,k.2.1.trans h.2.1,k.2.2.trans h.2.2⟩
 ·exact .inr ⟨v,k.1.trans h1,k.2.1.trans h2,h3,by rw[k.2.2];exact h4⟩
theorem T5 {p:Pg} {L:List Im} {T W:List Int} (hW : ∀ x∈L,W.contains x.s.id=true∧x.s.one=true) {fuel a:Int} {m:Mc} (ha:pN L a) :
 QC m (m.next p L T W fuel a).2∨∃ x∈L,QD T x.s m (m.next p L T W fuel a).2:=by
 unfold Mc.next
 by_cases c1:(a == -1)=true
 ·rw[if_pos c1];exact .inl (On L m 0)
 rw[if_neg c1]
 by_cases c2:(m.steps==fuel)=true
 ·rw[if_pos c2];exact .inl ⟨rfl,rfl,rfl⟩
 rw[if_neg c2]
 have hm:=qR ha (by simpa using c1)
 obtain⟨w1,w2⟩:=hW _ hm
 dsimp only
 have fin : ∀ {m':Mc},Ck T (dY L a).s {m with steps:=m.steps+1} m'→QC m m'∨∃ x∈L,QD T x.s m m':=fun {m'} h=>by
  rcases h with h|h
  ·exact .inl h
  ·exact .inr ⟨_,hm,h⟩
 by_cases c4:((dY L a).s.kind==4)=true
 ·rw[if_pos c4];exact fin (T4 c4 w1)
 rw[if_neg c4]
 by_cases c9:((dY L a).s.kind==9)=true
 ·rw [if_pos c9]
  have:=Py (T:=T) (m:= {m with steps:=m.steps+1}) c9 w1
  split
  ·exact fin (this.sil (On ..))
  ·exact fin this
 rw[if_neg c9]
 exact fin (aay w2 (by simpa using c4) (by simpa using c9) w1)
def qa (f:Int→Sm) (k:Int):List (Int×List Int)→List Int
 | []=> []
 |e::l=>(if(f e.1).kind==k then e.2 else [])++qa f k l
theorem Cl (f:Int→Sm) (k:Int) : ∀ a b,qa f k (a++b)=qa f k a++qa f k b
 | [],b=>rfl
 |e::a,b=>by simp only[List.cons_append,qa,Cl f k a b,List.append_assoc]
structure wC (L:List Im) (f:Int→Sm) (T:List Int) (m:Mc):Prop where
 ev : ∀ e∈m.trace,∃ x∈L,x.s.id=e.1∧e.2.length=x.s.tells
 out:qa f 3 m.trace=m.out
 ins:qa f 2 m.trace=T.take m.reads.toNat
 reads:0≤m.reads∧m.reads≤(T.length:Int)
theorem wC.sil {L:List Im} {f:Int→Sm} {T:List Int} {m m':Mc} (h:wC L f T m) (k:QC m m'):wC L f T m':=by
 obtain⟨k1,k2,k3⟩:=k
 exact⟨by rw[k1];exact h.ev,by rw[k1,k2];exact h.out,by rw[k1,k3];exact h.ins,by rw[k3];exact h.reads⟩
theorem wC.tel {L:List Im} {f:Int→Sm} {T:List Int} {m m':Mc} {x:Im} (hx:x∈L) (hf:f x.s.id=x.s) (h:wC L f T m) (k:QD T x.s m m'):wC L f T m':=by
 obtain⟨v,k1,k2,k3,k4⟩:=k
 refine⟨fun e me=>?_, ?_, ?_, ?_⟩
 ·rw [k1]at me
  rcases List.mem_append.1 me with me|me
  ·exact h.ev e me
  ·rw[List.mem_singleton.1 me];exact⟨x,hx,rfl,k3⟩
 ·rw[k1,k2,Cl,h.out];simp[qa,hf]
 ·rw [k1,Cl,h.ins]
  by_cases c:(x.s.kind==2)=true
  ·rw [if_pos c]at k4
   obtain⟨w,j1,j2,j3⟩:=k4
   have hr:=h.reads.1
   have e:m'.reads.toNat=m.reads.toNat+1:=by rw[j3];omega
   rw[e,List.take_add_one,j1,j2]
   simp[qa,hf,c]
  ·rw [if_neg c]at k4
   rw[k4]
   have c':(x.s.kind==2)=false:=by simpa using c
   simp[qa,hf,c']
 ·by_cases c:(x.s.kind==2)=true
  ·rw [if_pos c]at k4
   obtain⟨w,j1,j2,j3⟩:=k4
   have hr:=h.reads
   have:=(List.getElem?_eq_some_iff.1 j1).1
   omega
  ·rw [if_neg c]at k4
   rw[k4];exact h.reads
theorem QF {p:Pg} {L:List Im} (hL:CS p L) {f:Int→Sm} (hf : ∀ x∈L,f x.s.id=x.s) {T W:List Int} (hW : ∀ x∈L,W.contains x.s.id=true∧x.s.one=true) {fuel:Int} : ∀ (N:Nat) (a:Int) (m m':Mc),pN L a→qn L m→m.fin=0→(m.trace.length:Int)=m.steps→wC L f T m→
 Mc.go p L T W fuel N a m=some m'→wC L f T m'
 | 0,_,_,_,_,_,_,_,_,h=>by simp[Mc.go]at h
 | N+1,a,m,m',ha,hs,hfi,ht,hl,h=>by
  have hn:=KE (fuel:=fuel) (tape:=T) hL (fun x mx=>(hW x mx).1) ha hs hfi ht
  have he:=T5 (p:=p) (T:=T) (W:=W) (fuel:=fuel) (m:=m) hW ha
  have mU:wC L f T (m.next p L T W fuel a).2:=by
   rcases he with he|⟨x,mx,he⟩
   ·exact hl.sil he
   ·exact hl.tel mx (hf x mx) he
  simp only[Mc.go]at h
  cases e:m.next p L T W fuel a with
  | mk o m1=>
   rw[e]at h hn mU
   cases o with
   |none=>simp only[Option.some.injEq]at h;subst h;exact mU
   |some a1=>
    obtain⟨h1,h2,h3,h4⟩:=hn
    exact QF hL hf hW N a1 m1 m' h1 h2 h3 h4 mU h
theorem Xd {p:Pg} (hL:CS p p.a7.L) {f:Int→Sm} (hf : ∀ x∈p.a7.L,f x.s.id=x.s) {T W:List Int} (hW : ∀ x∈p.a7.L,W.contains x.s.id=true∧x.s.one=true) {fuel:Int} {m:Mc} (h:runM p T W fuel=some m):wC p.a7.L f T m:=by
 obtain⟨h1,h2,h3,h4⟩:=NK hL
 have ho:=zk p (kK p) (p.at jb) [] 0
 refine QF hL hf hW _ _ _ _ h1 h2 h3 h4 ?_ h
 have h0:wC p.a7.L f T (kK p):=⟨fun e me=>by simp[kK]at me,rfl,rfl,by simp[kK]⟩
 exact h0.sil ⟨ho.1,ho.2.1,ho.2.2.1⟩
def aCs (fuel:Int) (m:Mc):Prop:=m.fin=2→m.steps=fuel
def amN (W:List Int) (l:List (Int×List Int)):List (Int×List Int):=l.filter fun e=>W.contains e.1
def aCt (W:List Int) (m:Mc):Mc:= {m with trace:=amN W m.trace}
theorem Oo : ∀ l:List It,ku 0 l=l.map fun i=>i.s.id
 | []=>rfl
 |i::l=>by simp only[ku,List.map_cons,Oo l];rfl
theorem Oq {p:Pg} (hb:p.may=true) : ∀ x∈p.a7.L,(ku 0 p.all).contains x.s.id=true∧x.s.one=true:=fun x mx=>by
 have h1:x.s∈p.pre:=by rw[← (kU p).1];exact List.mem_map_of_mem mx
 refine⟨?_,ET hb _ h1⟩
 rw[Oo,List.contains_iff_mem]
 have e:p.all.map (fun i=>i.s.id)=(p.all.map It.s).map fun s=>s.id:=by rw[List.map_map];rfl
 rw[e,(xR hb).2]
 exact List.mem_map_of_mem h1
theorem KX {p:Pg} (hb:p.may=true) {v:Sm} (hv:v∈p.pre):p.B6 v.id=v:=by
 obtain⟨h1,h2⟩:=Z8 hb ⟨v,hv,rfl⟩
 obtain⟨i,hi⟩:=List.getElem?_of_mem hv
 obtain⟨j,hj⟩:=List.getElem?_of_mem h1
 have e1:=rV hb hi
 have e2:=rV hb hj
 have:i=j:=by omega
 subst this
 rw[hi]at hj
 exact(Option.some.inj hj).symm
theorem T6 {p:Pg} {T W:List Int} {fuel:Int} {m:Mc} (h0:0≤fuel) (h:runM p T W fuel=some m):m.steps≤fuel:=by
 have h1:=Bc p (kK p) (p.at jb) [] 0
 have e2:(kK p).steps=0:=rfl
 exact NL p _ T W _ _ _ m (by rw[h1.2,e2];exact h0) h
theorem ID {f:Int→Sm} {k:Int} : ∀ {l:List (Int×List Int)},(∀ e∈l,e.2.length≤1)→(qa f k l).length≤l.length
 | [],_=>Nat.le_refl _
 |e::l,h=>by
  have h1:=ID (f:=f) (k:=k) fun e m=>h e (List.mem_cons_of_mem _ m)
  have h2:=h e (List.mem_cons_self ..)
  simp only[qa,List.length_append,List.length_cons]
  split<;>simp<;>omega
theorem aaz (s:Sm):s.tells≤1:=by unfold Sm.tells;split<;>omega
structure Run (p:Pg) (T:List Int) (fuel:Int) (m:Mc):Prop where
 run:runM p T (ku 0 p.all) fuel=some m
 of:ofM p T (ku 0 p.all) fuel=(m,0)
 whole:p.whole T fuel=m
 aCu:wC p.a7.L p.B6 T m
 told:Z6 m
 steps:m.steps≤fuel
 len:m.Len
 small:m.trace.length≤fuel.toNat∧m.out.length≤fuel.toNat∧∀ e∈m.trace,e.2.length≤1
theorem Xe {p:Pg} (hc:(p.check.1==0)=true) {T:List Int} {fuel:Int} (h0:0≤fuel) (h1:fuel≤1000000) : ∃ m,Run p T fuel m:=by
 have hR:=Gs hc
 have hb:=hR.may
 obtain⟨m,hm⟩:=KA p T (ku 0 p.all) h0
 have zb:ofM p T (ku 0 p.all) fuel=(m,0):=by
  unfold ofM
  rw[if_neg,hm];rfl
  simp[hc];omega
 have hl:=WS hR
 have hlg:=Xd (f:=p.B6) hl (fun x mx=>KX hb (by rw[← (kU p).1];exact List.mem_map_of_mem mx)) (Oq hb) hm
 have ht:=WE hl (fun x mx=>(Oq hb x mx).1) hm
 have hs:=T6 h0 hm
 have hv : ∀ e∈m.trace,e.2.length≤1:=fun e me=>by
  obtain⟨x,_,_,h⟩:=hlg.ev e me
  rw[h];exact aaz _
 have wF:m.trace.length≤fuel.toNat:=by rcases ht with ⟨_,h⟩|⟨_,h⟩<;>omega
 have jC:m.out.length≤fuel.toNat:=by rw[← hlg.out];exact Nat.le_trans (ID hv) wF
 exact⟨m,hm,zb,by unfold Pg.whole;rw[zb],hlg,ht,hs,⟨by omega,by omega,fun e me=>by have:=hv e me;omega⟩,wF,jC,hv⟩
structure aCv (fuel:Int) (r s:Mc):Prop where
 steps:r.steps=fuel
 trace:(r.trace.length:Int)=fuel
 more:r.steps≤s.steps
 reads:r.reads≤s.reads
 out:(decide ((r.out.length:Int)≤(s.out.length:Int)) && r.out==s.out.take r.out.length)=true
 told:fuel≤(s.trace.length:Int)∧s.trace.take fuel.toNat=r.trace
set_option maxRecDepth 8000
open Go.Proofs
theorem aaA {p:Pg} {T:List Int} {fuel:Int} (h:(p.check.1==0 && (decide (0≤fuel) && (decide (fuel≤400) && decide ((T.length:Int)≤100))))=true):(p.check.1==0)=true∧0≤fuel∧fuel≤400∧T.length≤100:=by
 simp only[Bool.and_eq_true,decide_eq_true_eq]at h
 exact⟨h.1,h.2.1,h.2.2.1,by omega⟩
def TKs (l:List rl):Prop:=∀ t∈l,(t.kind=1→isName t.text=true)∧(t.kind=2→0≤t.n)
def GK {α:Type} (r:Rd) (o:Option (α×Rd)) (Q:α→Prop):Prop:=∀ p,o=some p→p.2.l=r.l∧(p.2.good=true→r.good=true∧Q p.1)
def GKR (r:Rd) (o:Option Rd):Prop:=∀ p,o=some p→p.l=r.l∧(p.good=true→r.good=true)
def Pt {α:Type} (o:Option α) (Q:α→Prop):Prop:=∀ a,o=some a→Q a
structure aur (a b:Rd):Prop where
 l:b.l=a.l
 n:b.n=a.n
 g:b.good=true→a.good=true
def SmK (r0:Rd) (p:Sm×Rd):Prop:=aur r0 p.2∧p.1.aQ = []∧p.1.aN = []
structure Num (r:Rd) (k:Nat) (r':Rd):Prop where
 l:r'.l=r.l
 g:r'.good=true→r.good=true
 n:r'.good=true→k=r'.n
 le:r'.good=true→r.n≤200→r'.n≤200
def SmL (s:Sm):Prop:=∀ L,fh L=true→({s with labels:=L} : Sm).one=true
def aBM (s:aK):Bool:=s == [98,114,101,97,107] ||s == [99,111,110,116,105,110,117,101] ||s == [114,101,116,117,114,110] ||s == [103,111,116,111] ||s == [114,101,97,100] ||s == [112,114,105,110,116]
mutual
def Sm.okM (d:Int):Sm→Prop
 |⟨id,kind,labels,name,proc,x,has,args,aQ,aN⟩=>(⟨id,kind,labels,name,proc,x,has,args,aQ,aN⟩:Sm).one=true∧d≤12∧Sm.T7 (d+1) aQ∧Sm.T7 (d+1) aN
def Sm.T7 (d:Int):List Sm→Prop
 | []=>True
 |s::l=>s.okM d∧Sm.T7 d l
end
def aCw (d:Int) (s:Sm):Prop:=∀ L,fh L=true→({s with labels:=L} : Sm).okM d
structure Pc.okM (f:Pc):Prop where
 name:isName f.name=true
 params:Pm.gL f.params=true∧f.params.length≤8
 vars:fh f.vars=true∧(f.vars.length:Int)≤16
 fin:fh f.fin=true
 body:Sm.T7 1 f.body
def Its (n:Nat) (Ww:List It):Prop:=∀ (j:Nat) (it:It),Ww[j]? = some it→it.s.id=((n+j+1:Nat):Int)∧it.deep≤12∧it.s.one=true
def Pc.tot:List Pc→Nat
 | []=>0
 |f::l=>Sm.jK f.body+Pc.tot l
def Sm.core (v:Sm):Sm:= {v with id:=0,aQ:= [],aN:= []}
theorem KY (v:Sm):v.core.said=v.said:=by cases v;rfl
theorem Xf (lj:List aK) (v:Sm) (lp:Int):kj lj v.core lp=kj lj v lp:=rfl
theorem Xg (lj:List aK) (v:Sm) (lp fZ:Int) (h:(lp != 0)=(fZ != 0)):kj lj v lp=kj lj v fZ:=by unfold kj;rw[h]
mutual
def Sm.cp (b:Bool):Sm→List (Sm×Bool)
 |⟨id,kind,labels,name,pc,x,has,args,aQ,aN⟩=>((⟨id,kind,labels,name,pc,x,has,args,aQ,aN⟩:Sm).core,b)::(Sm.kh (b ||kind==6) aQ++Sm.kh (b ||kind==6) aN)
def Sm.kh (b:Bool):List Sm→List (Sm×Bool)
 | []=> []
 |s::l=>s.cp b++Sm.kh b l
end
mutual
theorem ai4 (proc up next loop:Int) : ∀ s:Sm,(∀ v∈s.pre,v.id≠0)→(s.tR proc up next loop).map (fun m=>(m.s.core,m.loop != 0))=s.cp (loop != 0)
 | ⟨id,kind,labels,name,pc,x,has,args,aQ,aN⟩,h=>by
  have Ia:id≠0:=h ⟨id,kind,labels,name,pc,x,has,args,aQ,aN⟩ (by simp[Sm.pre])
  have h1 : ∀ v∈Sm.bN aQ,v.id≠0:=fun v m=>h v (by simp[Sm.pre,m])
  have h2 : ∀ v∈Sm.bN aN,v.id≠0:=fun v m=>h v (by simp[Sm.pre,m])
  have e:((if kind==6 then id else loop) != 0)=((loop != 0) ||kind==6):=by
   cases hk:(kind==6)<;>simp[Ia]
  simp only[Sm.tR,Sm.cp,List.map_cons,List.map_append,E2 _ _ _ _ aQ h1,E2 _ _ _ _ aN h2,e]
theorem E2 (proc up next loop:Int) : ∀ l:List Sm,(∀ v∈Sm.bN l,v.id≠0)→(Sm.fJ proc up next loop l).map (fun m=>(m.s.core,m.loop != 0))=Sm.kh (loop != 0) l
 | [],_=>rfl
 |s::l,h=>by
  simp only[Sm.fJ,Sm.kh,List.map_append]
  rw[ai4 _ _ _ _ s fun v m=>h v (by simp[Sm.bN,m]),E2 _ _ _ _ l fun v m=>h v (by simp[Sm.bN,m])]
end
def Pc.kh (f:Pc):List (Sm×Bool):=Sm.kh false f.body
theorem Xh {f:Pc} (h : ∀ v∈Sm.bN f.body,v.id≠0):f.sh.map (fun q=>(q.1.core,q.2 != 0))=f.kh:=by
 have:=E2 0 0 (-1) 0 f.body h
 unfold Pc.sh Pc.kh
 rw[List.map_map]
 exact this
mutual
theorem ai5 (b:Bool) : ∀ s:Sm,(s.cp b).map Prod.fst=s.pre.map Sm.core
 |⟨id,kind,labels,name,pc,x,has,args,aQ,aN⟩=>by simp only[Sm.cp,Sm.pre,List.map_cons,List.map_append,qe _ aQ,qe _ aN]
theorem qe (b:Bool) : ∀ l:List Sm,(Sm.kh b l).map Prod.fst=(Sm.bN l).map Sm.core
 | []=>rfl
 |s::l=>by simp only[Sm.kh,Sm.bN,List.map_append,ai5 _ s,qe _ l]
end
theorem vr : ∀ l:List Sm,dO (l.map Sm.core)=dO l
 | []=>rfl
 |v::l=>by simp only[List.map_cons,dO,vr l];rfl
theorem IE (f:Pc):f.labels=dO (f.kh.map Prod.fst)++f.fin:=by
 unfold Pc.labels Pc.kh
 rw[qe,vr]
theorem Eo {x:aK} : ∀ {l:List Sm},x∈si l↔∃ v∈l,x∈v.said
 | []=>by simp[si]
 |v::l=>by simp[si,Eo (l:=l)]
structure Pc.Part (g f:Pc):Prop where
 name:g.name=f.name
 params:g.params=f.params
 vars:g.vars=f.vars
 fin:g.fin=f.fin
 sub:List.Sublist g.kh f.kh
 uT : ∀ c∈g.kh,c.1.kind=10→c.1.name∈f.labels→c.1.name∈g.labels
structure Pg.Part (q p:Pg):Prop where
 sA:q.globals=p.globals
 procs : ∃ l:List (Pc×Pc),q.procs=l.map Prod.fst∧(l.map Prod.snd).Perm p.procs∧∀ x∈l,Pc.Part x.1 x.2
theorem uc {nm:aK} : ∀ {l:List Pc} {f:Pc},(l.map (·.name)).Nodup→(iF nm l=some f↔f∈l∧f.name=nm)
 | [],f,_=>by simp[iF]
 | a::l,f,h=>by
  simp only[List.map_cons,List.nodup_cons]at h
  simp only[iF]
  by_cases e:(a.name==nm)=true
  ·rw [if_pos e]
   have e':a.name=nm:=by simpa using e
   constructor
   ·intro h1;cases h1;exact⟨List.mem_cons_self ..,e'⟩
   ·rintro⟨h1,h2⟩
    rcases List.mem_cons.1 h1 with rfl|h1
    ·rfl
    ·exact absurd (List.mem_map_of_mem (f:=fun x:Pc=>x.name) h1) (by show f.name∉_;rw[h2, ← e'];exact h.1)
  ·rw [if_neg e,uc h.2]
   constructor
   ·exact fun⟨h1,h2⟩=>⟨List.mem_cons_of_mem _ h1,h2⟩
   ·rintro⟨h1,h2⟩
    rcases List.mem_cons.1 h1 with rfl|h1
    ·exact absurd (by simpa using h2) e
    ·exact⟨h1,h2⟩
theorem Ah {nm:aK} {T T':List aK} (hT : ∀ x,fG T' x=true→fG T x=true) : ∀ {l:List Ar} {seen:List aK},nJ nm T seen l=true→nJ nm T' seen l=true
 | [],_,_=>rfl
 | a::l,seen,h=>by
  simp only[nJ]at h ⊢
  split
  ·rename_i hr
   rw[if_pos hr]at h
   split at h
   ·cases h
   ·rename_i hc
    simp only[Bool.or_eq_true,not_or,Bool.not_eq_true]at hc
    have hx:fG T' a.name=false:=by
     cases e:fG T' a.name with
     |false=>rfl
     |true=>rw[hT _ e]at hc;exact absurd hc.2.2 (by simp)
    rw[if_neg (by simp only[Bool.or_eq_true,not_or,Bool.not_eq_true];exact⟨hc.1,hc.2.1,hx⟩)]
    exact Ah hT h
  ·rename_i hr
   rw[if_neg hr]at h
   exact Ah hT h
theorem QG {p:Pg} (h:p.may=true) {f:Pc} (hf:f∈p.procs) : ∀ v∈Sm.bN f.body,v.id≠0:=fun v m=>by
 have hm:v∈p.pre:=by simp only[Pg.pre,List.mem_flatten,List.mem_map];exact⟨_,⟨f,hf,rfl⟩,m⟩
 obtain⟨i,hi⟩:=List.getElem?_of_mem hm
 have:=rV h hi
 omega
theorem QH {lj:List aK} {f:Pc} (h : ∀ v∈Sm.bN f.body,v.id≠0):(∀ q∈f.sh,kj lj q.1 q.2=true)↔∀ c∈f.kh,kj lj c.1 (if c.2 then 1 else 0)=true:=by
 rw[← Xh h]
 have key : ∀ q:Sm×Int,kj lj q.1.core (if(q.2 != 0)=true then 1 else 0)=kj lj q.1 q.2:=fun q=>by
  rw[Xf]
  exact Xg lj q.1 _ _ (by cases (q.2 != 0)<;>rfl)
 constructor
 ·intro h1 c hc
  obtain⟨q,hq,rfl⟩:=List.mem_map.1 hc
  rw[key];exact h1 q hq
 ·intro h1 q hq
  have:=h1 _ (List.mem_map_of_mem hq)
  rw[key]at this;exact this
def vt (it:Im) (n:Int):Int:=if it.s.kind==5 then(if n==0 then firstM it.s.aN it.next else firstM it.s.aQ it.next)else(if n==0 then it.next else firstM it.s.aQ it.s.id)
def T8 (p:Pg) (it:Im):Int:=match p.procs[it.proc.toNat]? with|some f=>(gQ f.fin it.s.name (Sm.bN f.body)).1|none=>0
def LL (L L':List Im) (R:Int→Int→Prop) (c c':Int):Prop:=(c=0∧c'=0)∨(c≠0∧c'≠0∧(dY L' c').s.name=(dY L c).s.name∧R (dY L c).next (dY L' c').next)
def Cm (p q:Pg) (R:Int→Int→Prop) (i i':Int):Prop:=match p.procs[i.toNat]?,q.procs[i'.toNat]? with
 |some f,some f'=>f'.own=f.own∧f'.vars.length=f.vars.length∧R (dD f.body (-1)) (dD f'.body (-1))
 |_,_=>False
structure Alike (p q:Pg) (L L':List Im) (R:Int→Int→Prop) (x x':Im):Prop where
 kind:1≤x.s.kind∧x.s.kind≤10
 plain:x.s.kind=1∨x.s.kind=2∨x.s.kind=3→x'.s.kind=x.s.kind∧x'.s.name=x.s.name∧x'.s.x=x.s.x∧R x.next x'.next
 call:x.s.kind=4→x'.s.kind=4∧x'.s.args=x.s.args∧LL L L' R x.s.id x'.s.id∧Cm p q R (p.at x.s.proc) (q.at x'.s.proc)
 ret:x.s.kind=9→x'.s.kind=9∧x'.s.has=x.s.has∧x'.s.x=x.s.x
 brk:x.s.kind=7→x'.s.kind=7∧R (dY L x.loop).next (dY L' x'.loop).next
 cont:x.s.kind=8→x'.s.kind=8∧R x.loop x'.loop
 uT:x.s.kind=10→x'.s.kind=10∧R (T8 p x) (T8 q x')
 cond:x.s.kind=5∨x.s.kind=6→(x'.s.kind=5∨x'.s.kind=6)∧∀ names bJ,(x'.s.x.bj names bJ).2=(x.s.x.bj names bJ).2∧((x.s.x.bj names bJ).2=true→R (vt x (x.s.x.bj names bJ).1) (vt x' (x'.s.x.bj names bJ).1))
structure Ot (p q:Pg) (L L':List Im) (R:Int→Int→Prop):Prop where
 globals:q.globals=p.globals
 last:R (-1) (-1)
 nil : ∀ a a',R a a'→(a = -1↔a' = -1)
 step : ∀ a a',R a a'→a≠ -1→Alike p q L L' R (dY L a) (dY L' a')
structure FrR (L L':List Im) (R:Int→Int→Prop) (f f':Fr):Prop where
 names:f'.names=f.names
 vars:f'.vars=f.vars
 call:LL L L' R f.call f'.call
inductive IF (P:Fr→Fr→Prop):List Fr→List Fr→Prop
 |nil:IF P [] []
 |cons {f f':Fr} {l l':List Fr} : P f f'→IF P l l'→IF P (f::l) (f'::l')
theorem IF.len {P:Fr→Fr→Prop} : ∀ {l l'},IF P l l'→l'.length=l.length
 |_,_, .nil=>rfl
 |_,_, .cons _ h=>by simp only[List.length_cons,h.len]
theorem IF.tail {P:Fr→Fr→Prop} : ∀ {l l'},IF P l l'→IF P l.tail l'.tail
 |_,_, .nil=> .nil
 |_,_, .cons _ h=>h
structure gG (L L':List Im) (R:Int→Int→Prop) (m m':Mc):Prop where
 st:IF (FrR L L' R) m.st m'.st
 mem:m'.mem=m.mem
 fin:m'.fin=m.fin
 steps:m'.steps=m.steps
 reads:m'.reads=m.reads
 out:m'.out=m.out
variable {p q:Pg} {L L':List Im} {R:Int→Int→Prop} {m m':Mc}
theorem gG.top (h:gG L L' R m m'):FrR L L' R m.top m'.top:=by
 have:=h.st
 unfold Mc.top
 cases m with|mk st _ _ _ _ _ _=>
 cases m' with|mk st' _ _ _ _ _ _=>
 dsimp only at this ⊢
 cases this with
 |nil=>exact⟨rfl,rfl, .inl ⟨rfl,rfl⟩⟩
 |cons hf _=>exact hf
theorem gG.bJ (h:gG L L' R m m'):m'.bJ=m.bJ:=by
 unfold Mc.bJ;rw[h.top.vars,h.mem]
theorem gG.cell (h:gG L L' R m m') (name:aK):m'.cell name=m.cell name:=by
 unfold Mc.cell;rw[h.top.vars,h.top.names]
theorem gG.set (h:gG L L' R m m') (name:aK) (v:Int):gG L L' R (m.set name v) (m'.set name v):=
 ⟨h.st,by show m'.mem.set (m'.cell name) v=m.mem.set (m.cell name) v;rw[h.cell,h.mem],h.fin,h.steps,h.reads,h.out⟩
theorem gG.event (h:gG L L' R m m') (W W':List Int) (id id':Int) (bJ acV:List Int):gG L L' R (m.event W id bJ) (m'.event W' id' acV):=by
 have a:=fF W m id bJ
 have b:=fF W' m' id' acV
 exact⟨by rw[a.1,b.1];exact h.st,by rw[a.2.1,b.2.1];exact h.mem,by rw[a.2.2.1,b.2.2.1];exact h.fin,by rw[a.2.2.2.1,b.2.2.2.1];exact h.steps,by rw[a.2.2.2.2.1,b.2.2.2.2.1];exact h.reads,by rw[a.2.2.2.2.2,b.2.2.2.2.2];exact h.out⟩
theorem gG.aaB (h:gG L L' R m m') (k:Int):gG L L' R {m with fin:=k} {m' with fin:=k}:=⟨h.st,h.mem,rfl,h.steps,h.reads,h.out⟩
theorem gG.Xi (h:gG L L' R m m') {x x':Ex} (e : ∀ names bJ,(x'.bj names bJ).2=(x.bj names bJ).2):(m'.bj x').1.2=(m.bj x).1.2∧gG L L' R (m.bj x).2 (m'.bj x').2:=by
 have e1:=e m.top.names m.bJ
 unfold Mc.bj
 rw[h.top.names,h.bJ]
 dsimp only
 rw[e1]
 refine⟨rfl, ?_⟩
 split
 ·exact h
 ·exact h.aaB 4
theorem gG.bj (h:gG L L' R m m') (x:Ex):(m'.bj x).1=(m.bj x).1∧gG L L' R (m.bj x).2 (m'.bj x).2:=by
 refine⟨?_,(h.Xi fun _ _=>rfl).2⟩
 unfold Mc.bj
 rw[h.top.names,h.bJ]
theorem gG.args : ∀ (l:List Ar) {m m':Mc} (h:gG L L' R m m') (out:List Nat),(Mc.args l m' out).1=(Mc.args l m out).1∧gG L L' R (Mc.args l m out).2 (Mc.args l m' out).2
 | [],_,_,h,out=>⟨rfl,h⟩
 | a::l,m,m',h,out=>by
  obtain⟨w1,w2⟩:=h.bj a.x
  simp only[Mc.args,w1,h.cell,w2.mem]
  by_cases c:a.ref=true
  ·rw[if_pos c,if_pos c];exact gG.args l h _
  ·rw [if_neg c,if_neg c]
   by_cases c2:(m.bj a.x).1.2=true
   ·rw [if_pos c2,if_pos c2]
    exact gG.args l (m:= {(m.bj a.x).2 with mem:=(m.bj a.x).2.mem++ [(m.bj a.x).1.1]}) (m':= {(m'.bj a.x).2 with mem:=(m.bj a.x).2.mem++ [(m.bj a.x).1.1]}) ⟨w2.st,rfl,w2.fin,w2.steps,w2.reads,w2.out⟩ _
   ·rw[if_neg c2,if_neg c2];exact⟨rfl,w2⟩
def JI (L L':List Im) (R:Int→Int→Prop) (r r':Int×Mc):Prop:=gG L L' R r.2 r'.2∧(r.2.fin=0→R r.1 r'.1)
theorem gG.open (hb:Ot p q L L' R) (h:gG L L' R m m') {i i':Int} (ho:Cm p q R i i') (l:List Nat) {c c':Int} (hc:LL L L' R c c'):JI L L' R (m.open p i l c) (m'.open q i' l c'):=by
 unfold Cm at ho
 unfold Mc.open
 cases e:p.procs[i.toNat]? with
 |none=>rw[e]at ho;exact ho.elim
 | some f=>
  cases e':q.procs[i'.toNat]? with
  |none=>rw[e,e']at ho;exact ho.elim
  |some f'=>
   rw[e,e']at ho
   obtain⟨o1,o2,o3⟩:=ho
   dsimp only
   exact⟨⟨.cons ⟨by dsimp only;rw[hb.globals,o1],by dsimp only;rw[hb.globals,o2,h.mem],hc⟩ h.st,by dsimp only;rw[o2,h.mem],h.fin,h.steps,h.reads,h.out⟩,fun _=>o3⟩
def aaC (L L':List Im) (R:Int→Int→Prop) (r r':Option Int×Mc):Prop:=gG L L' R r.2 r'.2∧(match r.1,r'.1 with|none,none=>True|some a,some a'=>R a a'|_,_=>False)
theorem JI.aaD {r r':Int×Mc} (h:JI L L' R r r'):aaC L L' R (if r.2.fin==0 then some r.1 else none,r.2) (if r'.2.fin==0 then some r'.1 else none,r'.2):=by
 refine⟨h.1, ?_⟩
 dsimp only
 rw[h.1.fin]
 by_cases c:(r.2.fin==0)=true
 ·rw[if_pos c,if_pos c];exact h.2 (by simpa using c)
 ·rw[if_neg c,if_neg c];trivial
theorem gG.close (h:gG L L' R m m') (g:Int):JI L L' R (m.close L g) (m'.close L' g):=by
 have ht:=h.top
 have jr:gG L L' R {m with st:=m.st.tail} {m' with st:=m'.st.tail}:=⟨h.st.tail,h.mem,h.fin,h.steps,h.reads,h.out⟩
 unfold Mc.close
 dsimp only
 rcases ht.call with ⟨c1,c2⟩|⟨c1,c2,c3,c4⟩
 ·have Ig:(m.top.call==0)=true:=by rw [c1];rfl
  have Om:(m'.top.call==0)=true:=by rw[c2];rfl
  rw[if_pos Ig,if_pos Om]
  exact⟨jr.aaB 1,fun e=>absurd e (by show(1:Int)≠0;decide)⟩
 ·have Ig : ¬((m.top.call==0)=true):=by simpa using c1
  have Om : ¬((m'.top.call==0)=true):=by simpa using c2
  rw[if_neg Ig,if_neg Om,c3]
  by_cases c:((dY L m.top.call).s.name == [])=true
  ·rw[if_pos c,if_pos c];exact⟨jr,fun _=>c4⟩
  ·rw[if_neg c,if_neg c];exact⟨jr.set _ g,fun _=>c4⟩
theorem gG.call (hb:Ot p q L L' R) (h:gG L L' R m m') (W W':List Int) {v v':Sm} (ha:v'.args=v.args) (ho:Cm p q R (p.at v.proc) (q.at v'.proc)) (hc:LL L L' R v.id v'.id):JI L L' R (m.call p W v) (m'.call q W' v'):=by
 have h1:=gG.args v.args h []
 unfold Mc.call
 rw[ha]
 generalize Mc.args v.args m [] = r at *
 generalize Mc.args v.args m' [] = r' at *
 obtain⟨o,m1⟩:=r
 obtain⟨o',m1'⟩:=r'
 obtain⟨e,h2⟩:=h1
 dsimp only at e h2
 subst e
 cases o' with
 |none=>
  dsimp only
  exact⟨h2,fun _=>hb.last⟩
 | some l=>
  dsimp only
  rw[h2.st.len]
  by_cases c:m1.st.length > 100
  ·rw[if_pos c,if_pos c];exact⟨h2.aaB 5,fun e=>absurd e (by show(5:Int)≠0;decide)⟩
  ·rw [if_neg c,if_neg c]
   exact(h2.event W W' v.id v'.id [] []).open hb ho l hc
theorem gG.fH (h:gG L L' R m m') (W W':List Int) {v v':Sm} (hh:v'.has=v.has) (hx:v'.x=v.x):(m'.fH W' v').1=(m.fH W v).1∧gG L L' R (m.fH W v).2 (m'.fH W' v').2:=by
 obtain⟨w1,w2⟩:=h.bj v.x
 unfold Mc.fH
 rw[hh,hx]
 by_cases c:v.has=true
 ·rw [if_pos c,if_pos c]
  dsimp only
  rw[w1]
  by_cases c2:(m.bj v.x).1.2=true
  ·rw[if_pos c2,if_pos c2];exact⟨rfl,w2.event ..⟩
  ·rw[if_neg c2,if_neg c2];exact⟨rfl,w2⟩
 ·rw[if_neg c,if_neg c];exact⟨rfl,h.event ..⟩
theorem gG.do (hb:Ot p q L L' R) (h:gG L L' R m m') (T W W':List Int) {x x':Im} (ha:Alike p q L L' R x x') (k4:x.s.kind≠4) (k9:x.s.kind≠9):JI L L' R (m.do p L T W x) (m'.do q L' T W' x'):=by
 obtain⟨ak,ap,ac,ar,ab,Xj,ag,Xk⟩:=ha
 have hk:x.s.kind=1∨x.s.kind=2∨x.s.kind=3∨x.s.kind=5∨x.s.kind=6∨x.s.kind=7∨x.s.kind=8∨x.s.kind=10:=by omega
 rcases hk with k|k|k|k|k|k|k|k
 ·obtain⟨e1,e2,e3,e4⟩:=ap (.inl k)
  rw[k]at e1
  obtain⟨w1,w2⟩:=h.bj x.s.x
  unfold Mc.do
  dsimp only
  simp only[k,e1,show((1:Int)==7)=false from rfl,show((1:Int)==8)=false from rfl,show((1:Int)==10)=false from rfl,show((1:Int)==2)=false from rfl,show((1:Int)==1)=true from rfl,Bool.false_eq_true,if_false,if_true,e2,e3,w1]
  by_cases c:(m.bj x.s.x).1.2=true
  ·rw[if_pos c,if_pos c];exact⟨(w2.event ..).set ..,fun _=>e4⟩
  ·rw[if_neg c,if_neg c];exact⟨w2,fun _=>hb.last⟩
 ·obtain⟨e1,e2,e3,e4⟩:=ap (.inr (.inl k))
  rw[k]at e1
  unfold Mc.do
  dsimp only
  simp only[k,e1,show((2:Int)==7)=false from rfl,show((2:Int)==8)=false from rfl,show((2:Int)==10)=false from rfl,show((2:Int)==2)=true from rfl,Bool.false_eq_true,if_false,if_true,e2,h.reads]
  cases T[m.reads.toNat]? with
  |none=>exact⟨⟨h.st,h.mem,rfl,h.steps,rfl,h.out⟩,fun e=>absurd e (by show(3:Int)≠0;decide)⟩
  |some n=>
   refine⟨gG.event (gG.set (m:= {m with reads:=m.reads+1}) (m':= {m' with reads:=m.reads+1}) ⟨h.st,h.mem,h.fin,h.steps,rfl,h.out⟩ x.s.name n) ..,fun _=>e4⟩
 ·obtain⟨e1,e2,e3,e4⟩:=ap (.inr (.inr k))
  rw[k]at e1
  obtain⟨w1,w2⟩:=h.bj x.s.x
  unfold Mc.do
  dsimp only
  simp only[k,e1,show((3:Int)==7)=false from rfl,show((3:Int)==8)=false from rfl,show((3:Int)==10)=false from rfl,show((3:Int)==2)=false from rfl,show((3:Int)==1)=false from rfl,show((3:Int)==3)=true from rfl,Bool.false_eq_true,if_false,if_true,e3,w1]
  by_cases c:(m.bj x.s.x).1.2=true
  ·rw [if_pos c,if_pos c]
   have hv:=w2.event W W' x.s.id x'.s.id [(m.bj x.s.x).1.1] [(m.bj x.s.x).1.1]
   exact⟨⟨hv.st,hv.mem,hv.fin,hv.steps,hv.reads,by dsimp only;rw[hv.out]⟩,fun _=>e4⟩
  ·rw[if_neg c,if_neg c];exact⟨w2,fun _=>hb.last⟩
 iterate 2
  ·obtain⟨e1,e2⟩:=Xk (by omega)
   have e3:=e2 m.top.names m.bJ
   have hw:=h.Xi (x:=x.s.x) (x':=x'.s.x) (fun names bJ=>(e2 names bJ).1)
   have hd:(m.bj x.s.x).1.2=true→R (vt x (m.bj x.s.x).1.1) (vt x' (m'.bj x'.s.x).1.1):=fun hg=>by
    have:=e3.2 hg
    unfold Mc.bj
    rw[h.top.names,h.bJ]
    exact this
   unfold Mc.do
   dsimp only
   rw[hw.1]
   have n1:(x'.s.kind==7)=false:=by simp;omega
   have n2:(x'.s.kind==8)=false:=by simp;omega
   have n3:(x'.s.kind==10)=false:=by simp;omega
   have n4:(x'.s.kind==2)=false:=by simp;omega
   have n5:(x'.s.kind==1)=false:=by simp;omega
   have n6:(x'.s.kind==3)=false:=by simp;omega
   have o1:(x.s.kind==7)=false:=by simp;omega
   have o2:(x.s.kind==8)=false:=by simp;omega
   have o3:(x.s.kind==10)=false:=by simp;omega
   have o4:(x.s.kind==2)=false:=by simp;omega
   have o5:(x.s.kind==1)=false:=by simp;omega
   have o6:(x.s.kind==3)=false:=by simp;omega
   simp only[n1,n2,n3,n4,n5,n6,o1,o2,o3,o4,o5,o6,Bool.false_eq_true,if_false]
   by_cases c:(m.bj x.s.x).1.2=true
   ·rw [if_pos c,if_pos c]
    have hd:=hd c
    have hv:=hw.2.event W W' x.s.id x'.s.id [(m.bj x.s.x).1.1] [(m'.bj x'.s.x).1.1]
    have ed : ∀ {y:Im} {n:Int} {M:Mc},y.s.kind=5∨y.s.kind=6→(if(y.s.kind==5)=true then(if(n==0)=true then firstM y.s.aN y.next else firstM y.s.aQ y.next,M)else if(y.s.kind==6)=true then(if(n==0)=true then y.next else firstM y.s.aQ y.s.id,M)else(y.next,M))=(vt y n,M):=fun {y n M} hy=>by
     unfold vt
     rcases hy with hy|hy
     ·rw[hy];rfl
     ·rw[hy];rfl
    rw[ed (by omega),ed e1]
    exact⟨hv,fun _=>hd⟩
   ·rw[if_neg c,if_neg c];exact⟨hw.2,fun _=>hb.last⟩
 ·obtain⟨e1,e2⟩:=ab k
  unfold Mc.do
  dsimp only
  simp only[k,e1,show((7:Int)==7)=true from rfl,if_true]
  exact⟨h.event ..,fun _=>e2⟩
 ·obtain⟨e1,e2⟩:=Xj k
  unfold Mc.do
  dsimp only
  simp only[k,e1,show((8:Int)==7)=false from rfl,show((8:Int)==8)=true from rfl,Bool.false_eq_true,if_false,if_true]
  exact⟨h.event ..,fun _=>e2⟩
 ·obtain⟨e1,e2⟩:=ag k
  unfold Mc.do
  dsimp only
  simp only[k,e1,show((10:Int)==7)=false from rfl,show((10:Int)==8)=false from rfl,show((10:Int)==10)=true from rfl,Bool.false_eq_true,if_false,if_true]
  exact⟨h.event ..,fun _=>e2⟩
theorem gG.back (h:gG L L' R m m') (g:Int):aaC L L' R (m.back L g) (m'.back L' g):=(h.close g).aaD
theorem gG.next (hb:Ot p q L L' R) (h:gG L L' R m m') (T W W':List Int) (fuel:Int) {a a':Int} (ha:R a a'):aaC L L' R (m.next p L T W fuel a) (m'.next q L' T W' fuel a'):=by
 have hn:=hb.nil a a' ha
 unfold Mc.next
 by_cases c1:a = -1
 ·have Ig:=hn.1 c1
  subst c1 Ig
  exact h.back 0
 have Ig : ¬((a == -1)=true):=by simpa using c1
 have Om : ¬((a' == -1)=true):=by simpa using fun e=>c1 (hn.2 e)
 rw[if_neg Ig,if_neg Om,h.steps]
 by_cases c2:(m.steps==fuel)=true
 ·rw[if_pos c2,if_pos c2];exact⟨⟨h.st,h.mem,rfl,rfl,h.reads,h.out⟩,trivial⟩
 rw[if_neg c2,if_neg c2]
 have hs:=hb.step a a' ha c1
 have h1:gG L L' R {m with steps:=m.steps+1} {m' with steps:=m.steps+1}:=⟨h.st,h.mem,h.fin,rfl,h.reads,h.out⟩
 generalize dY L a=x at *
 generalize dY L' a'=x' at *
 dsimp only
 by_cases k4:x.s.kind=4
 ·obtain⟨e1,e2,e3,e4⟩:=hs.call k4
  have b4:(x.s.kind==4)=true:=by rw[k4];rfl
  have b4':(x'.s.kind==4)=true:=by rw[e1];rfl
  rw[if_pos b4,if_pos b4']
  exact(gG.call hb h1 W W' e2 e4 e3).aaD
 have k4':x'.s.kind≠4:=fun e=>by
  obtain⟨ak,ap,ac,ar,ab,Xj,ag,Xk⟩:=hs
  by_cases q1:x.s.kind=1∨x.s.kind=2∨x.s.kind=3
  ·have:=(ap q1).1;omega
  by_cases q2:x.s.kind=5∨x.s.kind=6
  ·have:=(Xk q2).1;omega
  by_cases q3:x.s.kind=7
  ·have:=(ab q3).1;omega
  by_cases q4:x.s.kind=8
  ·have:=(Xj q4).1;omega
  by_cases q5:x.s.kind=9
  ·have:=(ar q5).1;omega
  ·have:=(ag (by omega)).1;omega
 have b4 : ¬((x.s.kind==4)=true):=by simpa using k4
 have b4' : ¬((x'.s.kind==4)=true):=by simpa using k4'
 rw[if_neg b4,if_neg b4']
 by_cases k9:x.s.kind=9
 ·obtain⟨e1,e2,e3⟩:=hs.ret k9
  obtain⟨g1,g2⟩:=h1.fH W W' e2 e3
  have b9:(x.s.kind==9)=true:=by rw[k9];rfl
  have b9':(x'.s.kind==9)=true:=by rw[e1];rfl
  rw[if_pos b9,if_pos b9',g2.fin,g1]
  by_cases c:((Mc.fH W {m with steps:=m.steps+1} x.s).2.fin==0)=true
  ·rw[if_pos c,if_pos c];exact g2.back _
  ·rw[if_neg c,if_neg c];exact⟨g2,trivial⟩
 have k9':x'.s.kind≠9:=fun e=>by
  obtain⟨ak,ap,ac,ar,ab,Xj,ag,Xk⟩:=hs
  by_cases q1:x.s.kind=1∨x.s.kind=2∨x.s.kind=3
  ·have:=(ap q1).1;omega
  by_cases q2:x.s.kind=5∨x.s.kind=6
  ·have:=(Xk q2).1;omega
  by_cases q3:x.s.kind=7
  ·have:=(ab q3).1;omega
  by_cases q4:x.s.kind=8
  ·have:=(Xj q4).1;omega
  ·have:=(ag (by omega)).1;omega
 have b9 : ¬((x.s.kind==9)=true):=by simpa using k9
 have b9' : ¬((x'.s.kind==9)=true):=by simpa using k9'
 rw[if_neg b9,if_neg b9']
 exact(gG.do hb h1 T W W' hs k4 k9).aaD
theorem gG.go (hb:Ot p q L L' R) (T W W':List Int) (fuel:Int) : ∀ (N:Nat) {a a':Int} {m m' k:Mc},gG L L' R m m'→R a a'→Mc.go p L T W fuel N a m=some k→∃ k',Mc.go q L' T W' fuel N a' m'=some k'∧gG L L' R k k'
 | 0,_,_,_,_,_,_,_,h=>by simp[Mc.go]at h
 | N+1,a,a',m,m',k,hm,ha,h=>by
  have hn:=gG.next hb hm T W W' fuel ha
  simp only[Mc.go]at h ⊢
  generalize m.next p L T W fuel a=r at *
  generalize m'.next q L' T W' fuel a'=r' at *
  obtain⟨o,m1⟩:=r
  obtain⟨o',m1'⟩:=r'
  obtain⟨n1,n2⟩:=hn
  dsimp only at n1 n2
  cases o with
  |none=>
   cases o' with
   |none=>simp only[Option.some.injEq]at h;subst h;exact⟨m1',rfl,n1⟩
   |some b=>exact n2.elim
  |some b=>
   cases o' with
   |none=>exact n2.elim
   |some b'=>exact gG.go hb T W W' fuel N n1 n2 h
theorem aaE (hb:Ot p q p.a7.L q.a7.L R) (ho:Cm p q R (p.at jb) (q.at jb)) {T W W':List Int} {fuel:Int} {k:Mc} (h:runM p T W fuel=some k) : ∃ k',runM q T W' fuel=some k'∧gG p.a7.L q.a7.L R k k':=by
 have h0:gG p.a7.L q.a7.L R (kK p) (kK q):=⟨.nil,by unfold kK;rw[hb.globals],rfl,rfl,rfl,rfl⟩
 have h1:=gG.open hb h0 ho [] (.inl ⟨rfl,rfl⟩)
 unfold runM at h ⊢
 dsimp only at h ⊢
 refine gG.go hb T W W' fuel _ h1.1 (h1.2 ?_) h
 unfold Mc.open
 split<;>rfl
theorem Xl {k k':Mc} (h:gG L L' R k k'):Cj k k'=true:=by
 unfold Cj
 rw[h.fin,h.steps,h.reads,h.out]
 simp
end Go.Abs
namespace Go.Abs
mutual
def Sm.GF:Sm→Sm
 |⟨id,kind,labels,name,proc,x,has,args,aQ,aN⟩=>⟨0,kind,labels,name,proc,x,has,args,Sm.fQ aQ,Sm.fQ aN⟩
def Sm.fQ:List Sm→List Sm
 | []=> []
 |s::l=>s.GF::Sm.fQ l
end
mutual
theorem aaF (b:Bool) (n:Nat) : ∀ s:Sm,((Sm.num b n s).1).GF=s.GF
 |⟨id,kind,labels,name,proc,x,has,args,aQ,aN⟩=>by simp only[Sm.num,Sm.GF,Cn]
theorem Cn (b:Bool) (n:Nat) : ∀ l:List Sm,Sm.fQ (Sm.fB b n l).1=Sm.fQ l
 | []=>by simp only[Sm.fB,Sm.fQ]
 |s::l=>by simp only[Sm.fB,Sm.fQ,aaF,Cn]
end
structure IG (s t:Sm):Prop where
 kind:s.kind=t.kind
 labels:s.labels=t.labels
 name:s.name=t.name
 proc:s.proc=t.proc
 x:s.x=t.x
 has:s.has=t.has
 args:s.args=t.args
 aQ:Sm.fQ s.aQ=Sm.fQ t.aQ
 aN:Sm.fQ s.aN=Sm.fQ t.aN
theorem QI {s t:Sm} (h:s.GF=t.GF):IG s t:=by
 cases s
 cases t
 simp only[Sm.GF,Sm.mk.injEq]at h
 obtain⟨_,h1,h2,h3,h4,h5,h6,h7,h8,h9⟩:=h
 exact⟨h1,h2,h3,h4,h5,h6,h7,h8,h9⟩
theorem KZ {l:List Sm} (h:Sm.fQ l = []):l = []:=by
 cases l with
 |nil=>rfl
 |cons s l=>simp only[Sm.fQ]at h;cases h
theorem Co {l:List Sm} {t:Sm} {T:List Sm} (h:Sm.fQ l=Sm.fQ (t::T)) : ∃ s r,l=s::r∧IG s t∧Sm.fQ r=Sm.fQ T:=by
 cases l with
 |nil=>simp only[Sm.fQ]at h;cases h
 |cons s r=>
  simp only[Sm.fQ,List.cons.injEq]at h
  exact⟨s,r,rfl,QI h.1,h.2⟩
theorem Ep : ∀ a b:List Sm,Sm.fQ (a++b)=Sm.fQ a++Sm.fQ b
 | [],b=>by simp only[Sm.fQ,List.nil_append]
 |s::a,b=>by simp only[List.cons_append,Sm.fQ,Ep a b]
theorem Er : ∀ a:List Sm,(Sm.fQ a).length=a.length
 | []=>by simp only[Sm.fQ]
 |s::a=>by simp only[Sm.fQ,List.length_cons,Er a]
theorem Cp {c:List Sm} {w t:Sm} {T:List Sm} (h:Sm.fQ (c++ [w])=Sm.fQ (T++ [t])):Sm.fQ c=Sm.fQ T∧IG w t:=by
 rw[Ep,Ep]at h
 simp only[Sm.fQ]at h
 obtain⟨h1,h2⟩:=List.append_inj' h rfl
 simp only[List.cons.injEq,and_true]at h2
 exact⟨h1,QI h2⟩
-- What is made of a statement: 1: an if asks the other way round, 2: a loop's first round stands ahead of it.
mutual
def Sm.yf (k id:Int):Sm→Sm
 |⟨i,kind,labels,name,proc,x,has,args,aQ,aN⟩=>
  if k==1 && i==id then⟨i,kind,labels,name,proc,⟨4,0,[],[x]⟩,has,args,Sm.eH k id aN,Sm.eH k id aQ⟩
  else if k==2 && i==id then⟨i,5,labels,name,proc,x,has,args,Sm.eH k id aQ++ [⟨i,kind,[],name,proc,x,has,args,Sm.eH k id aQ,[]⟩],Sm.eH k id aN⟩
  else⟨i,kind,labels,name,proc,x,has,args,Sm.eH k id aQ,Sm.eH k id aN⟩
def Sm.eH (k id:Int):List Sm→List Sm
 | []=> []
 |s::l=>s.yf k id::Sm.eH k id l
end
def Sp (k id:Int) (s:Sm):Prop:=(k=1∨k=2)∧s.id=id
theorem rY {k id:Int} {s:Sm} (h : ¬ Sp k id s):s.yf k id = {s with aQ:=Sm.eH k id s.aQ,aN:=Sm.eH k id s.aN}:=by
 obtain⟨i,kind,labels,name,proc,x,has,args,aQ,aN⟩:=s
 unfold Sp at h
 dsimp only at h
 have c1 : ¬((k==1 && i==id)=true):=by simp only[Bool.and_eq_true,beq_iff_eq];exact fun e=>h ⟨.inl e.1,e.2⟩
 have c2 : ¬((k==2 && i==id)=true):=by simp only[Bool.and_eq_true,beq_iff_eq];exact fun e=>h ⟨.inr e.1,e.2⟩
 rw[Sm.yf,if_neg c1,if_neg c2]
theorem pQ {id:Int} {s:Sm} (h:s.id=id):s.yf 1 id = {s with x:=⟨4,0,[],[s.x]⟩,aQ:=Sm.eH 1 id s.aN,aN:=Sm.eH 1 id s.aQ}:=by
 obtain⟨i,kind,labels,name,proc,x,has,args,aQ,aN⟩:=s
 dsimp only at h
 subst h
 rw[Sm.yf,if_pos (by simp)]
theorem pR {id:Int} {s:Sm} (h:s.id=id):s.yf 2 id = {s with kind:=5,aQ:=Sm.eH 2 id s.aQ++ [{s with labels:= [],aQ:=Sm.eH 2 id s.aQ,aN:= []}],aN:=Sm.eH 2 id s.aN}:=by
 obtain⟨i,kind,labels,name,proc,x,has,args,aQ,aN⟩:=s
 dsimp only at h
 subst h
 rw[Sm.yf,if_neg (by simp),if_pos (by simp)]
inductive Lk (p q:Pg) (k id:Int):Nat→Nat→Int→Int→List Sm→Int→Int→List Sm→Prop
 |top {i i':Nat} {f f':Pc} : p.procs[i]? = some f→q.procs[i']? = some f'→f'.name=f.name→Lk p q k id i i' (-1) 0 f.body (-1) 0 f'.body
 |tail {i i' n lp s l n' fZ s' l'} : Lk p q k id i i' n lp (s::l) n' fZ (s'::l')→Lk p q k id i i' n lp l n' fZ l'
 |aQ {i i' n lp s l n' fZ s' l'} : Lk p q k id i i' n lp (s::l) n' fZ (s'::l')→¬ Sp k id s→
  Lk p q k id i i' (if s.kind==6 then s.id else dD l n) (if s.kind==6 then s.id else lp) s.aQ (if s'.kind==6 then s'.id else dD l' n') (if s'.kind==6 then s'.id else fZ) s'.aQ
 |aN {i i' n lp s l n' fZ s' l'} : Lk p q k id i i' n lp (s::l) n' fZ (s'::l')→¬ Sp k id s→
  Lk p q k id i i' (if s.kind==6 then s.id else dD l n) (if s.kind==6 then s.id else lp) s.aN (if s'.kind==6 then s'.id else dD l' n') (if s'.kind==6 then s'.id else fZ) s'.aN
 |IJ {i i' n lp s l n' fZ s' l'} : Lk p q k id i i' n lp (s::l) n' fZ (s'::l')→k=1→s.id=id→Lk p q k id i i' (dD l n) lp s.aQ (dD l' n') fZ s'.aN
 |IK {i i' n lp s l n' fZ s' l'} : Lk p q k id i i' n lp (s::l) n' fZ (s'::l')→k=1→s.id=id→Lk p q k id i i' (dD l n) lp s.aN (dD l' n') fZ s'.aQ
 |IL {i i' n lp s l n' fZ s' l' c w} : Lk p q k id i i' n lp (s::l) n' fZ (s'::l')→k=2→s.id=id→s'.aQ=c++ [w]→Lk p q k id i i' s.id s.id s.aQ w.id fZ c
 |LM {i i' n lp s l n' fZ s' l' c w} : Lk p q k id i i' n lp (s::l) n' fZ (s'::l')→k=2→s.id=id→s'.aQ=c++ [w]→Lk p q k id i i' s.id s.id s.aQ w.id w.id w.aQ
def CW (p q:Pg) (k id a a':Int):Prop:=(a = -1∧a' = -1)∨∃ i i' n lp s l n' fZ s' l',Lk p q k id i i' n lp (s::l) n' fZ (s'::l')∧a=s.id∧(a'=s'.id∨(k=2∧s.id=id∧∃ c w,s'.aQ=c++ [w]∧a'=w.id))
def yh (l:List Sm):Prop:=∀ v∈Sm.bN l,v.kind≠7∧v.kind≠8∧v.kind≠10∧v.labels = []
def LpR (p q:Pg) (k id a a':Int):Prop:=∃ i i' n lp s l n' fZ s' l',Lk p q k id i i' n lp (s::l) n' fZ (s'::l')∧a=s.id∧a'=s'.id∧s.kind=6∧¬ Sp k id s
structure LkI (p q:Pg) (k id:Int) (i i':Nat) (n lp:Int) (l:List Sm) (n' fZ:Int) (l':List Sm):Prop where
 shape:Sm.fQ l'=Sm.fQ (Sm.eH k id l)
 next:CW p q k id n n'
 loop:lp=0∨yh l∨LpR p q k id lp fZ
 sub : ∃ up,∀ x∈Sm.fJ i up n lp l,x∈p.a7.L
 ud : ∃ up,∀ x∈Sm.fJ i' up n' fZ l',x∈q.a7.L
structure Made (p q:Pg) (k id:Int):Prop where
 right:p.Right
 right':q.Right
 globals:q.globals=p.globals
 cor : ∀ {i i':Nat} {f f':Pc},p.procs[i]? = some f→q.procs[i']? = some f'→f'.name=f.name→f'.own=f.own∧f'.vars.length=f.vars.length∧f'.fin=f.fin∧Sm.fQ f'.body=Sm.fQ (Sm.eH k id f.body)
 has : ∀ {i:Nat} {f:Pc},p.procs[i]? = some f→∃ (i':Nat) (f':Pc),q.procs[i']? = some f'∧f'.name=f.name
 aaG:k=1→∀ v∈p.pre,v.id=id→v.kind=5
 T9:k=2→∀ v∈p.pre,v.id=id→v.kind=6∧yh v.aQ
theorem Ou (proc up n lp:Int) (b:List Sm) : ∀ a:List Sm,Sm.fJ proc up n lp (a++b)=Sm.fJ proc up (dD b n) lp a++Sm.fJ proc up n lp b
 | []=>by simp only[List.nil_append,Sm.fJ]
 |s::a=>by
  have e:dD (a++b) n=dD a (dD b n):=by cases a<;>rfl
  simp only[List.cons_append,Sm.fJ,Ou proc up n lp b a,e,List.append_assoc]
variable {p q:Pg} {k id:Int}
theorem Made.pre (hM:Made p q k id) {i:Nat} {n lp:Int} {s:Sm} {l:List Sm} (h : ∃ up,∀ x∈Sm.fJ i up n lp (s::l),x∈p.a7.L):s∈p.pre:=by
 obtain⟨up,h⟩:=h
 rw[← (kU p).1]
 exact List.mem_map.2 ⟨⟨s,i,up,dD l n,lp⟩,h _ (by rw[Sm.fJ,H5];exact List.mem_append_left _ (List.mem_cons_self ..)),rfl⟩
theorem nY {i i':Nat} {n lp:Int} {l:List Sm} {n' fZ:Int} {l':List Sm} (h:Lk p q k id i i' n lp l n' fZ l') (hs:Sm.fQ l'=Sm.fQ (Sm.eH k id l)) (hn:CW p q k id n n'):CW p q k id (dD l n) (dD l' n'):=by
 cases l with
 |nil=>
  have:l' = []:=KZ (by rw[hs];simp only[Sm.eH,Sm.fQ])
  subst this
  exact hn
 |cons s l=>
  simp only[Sm.eH]at hs
  obtain⟨s',r,rfl,_,_⟩:=Co hs
  exact .inr ⟨i,i',n,lp,s,l,n',fZ,s',r,h,rfl, .inl rfl⟩
theorem Ov {p:Pg} (hb:p.may=true) {i:Nat} {f:Pc} (hf:p.procs[i]? = some f) : ∃ up,∀ x∈Sm.fJ i up (-1) 0 f.body,x∈p.a7.L:=
 ⟨0,fun x hx=>by rw[Ec hb];exact Gu p.procs 0 hf (by simpa using hx)⟩
theorem Ow {L:List Im} {i n lp:Int} {s:Sm} {l:List Sm} (h : ∃ up,∀ x∈Sm.fJ i up n lp (s::l),x∈L) : ∃ up,∀ x∈Sm.fJ i up n lp l,x∈L:=by
 obtain⟨up,h⟩:=h
 exact⟨up,fun x m=>h x (by rw[Sm.fJ];exact List.mem_append_right _ m)⟩
theorem qf {L:List Im} {i n lp:Int} {s:Sm} {l:List Sm} (h : ∃ up,∀ x∈Sm.fJ i up n lp (s::l),x∈L) : ∃ up,∀ x∈Sm.fJ i up (if s.kind==6 then s.id else dD l n) (if s.kind==6 then s.id else lp) s.aQ,x∈L:=by
 obtain⟨up,h⟩:=h
 exact⟨s.id,fun x m=>h x (by rw[Sm.fJ,H5];exact List.mem_append_left _ (List.mem_cons_of_mem _ (List.mem_append_left _ m)))⟩
theorem E3 {L:List Im} {i n lp:Int} {s:Sm} {l:List Sm} (h : ∃ up,∀ x∈Sm.fJ i up n lp (s::l),x∈L) : ∃ up,∀ x∈Sm.fJ i up (if s.kind==6 then s.id else dD l n) (if s.kind==6 then s.id else lp) s.aN,x∈L:=by
 obtain⟨up,h⟩:=h
 exact⟨s.id,fun x m=>h x (by rw[Sm.fJ,H5];exact List.mem_append_left _ (List.mem_cons_of_mem _ (List.mem_append_right _ m)))⟩
theorem sub_self {L:List Im} {i n lp:Int} {s:Sm} {l:List Sm} (h : ∃ up,∀ x∈Sm.fJ i up n lp (s::l),x∈L) : ∃ up,(⟨s,i,up,dD l n,lp⟩:Im)∈L:=by
 obtain⟨up,h⟩:=h
 exact⟨up,h _ (by rw[Sm.fJ,H5];exact List.mem_append_left _ (List.mem_cons_self ..))⟩
theorem GG {L:List Im} {i n lp:Int} {c:List Sm} {w:Sm} (h : ∃ up,∀ x∈Sm.fJ i up n lp (c++ [w]),x∈L):(∃ up,∀ x∈Sm.fJ i up w.id lp c,x∈L)∧∃ up,∀ x∈Sm.fJ i up n lp [w],x∈L:=by
 obtain⟨up,h⟩:=h
 rw[Ou]at h
 exact⟨⟨up,fun x m=>h x (List.mem_append_left _ m)⟩,⟨up,fun x m=>h x (List.mem_append_right _ m)⟩⟩
theorem yh.tail {s:Sm} {l:List Sm} (h:yh (s::l)):yh l:=fun v m=>h v (by rw[Sm.bN];exact List.mem_append_right _ m)
theorem yh.aQ {s:Sm} {l:List Sm} (h:yh (s::l)):yh s.aQ:=fun v m=>h v (by rw[Sm.bN,Sm.nU];exact List.mem_append_left _ (List.mem_cons_of_mem _ (List.mem_append_left _ m)))
theorem yh.aN {s:Sm} {l:List Sm} (h:yh (s::l)):yh s.aN:=fun v m=>h v (by rw[Sm.bN,Sm.nU];exact List.mem_append_left _ (List.mem_cons_of_mem _ (List.mem_append_right _ m)))
theorem LkI.ja {i i':Nat} {n lp:Int} {s:Sm} {l:List Sm} {n' fZ:Int} {s':Sm} {l':List Sm} (h:LkI p q k id i i' n lp (s::l) n' fZ (s'::l')):IG s' (s.yf k id)∧Sm.fQ l'=Sm.fQ (Sm.eH k id l):=by
 have:=h.shape
 simp only[Sm.eH]at this
 obtain⟨s2,r,e,h1,h2⟩:=Co this
 cases e
 exact⟨h1,h2⟩
theorem Made.inv (hM:Made p q k id) {i i':Nat} {n lp:Int} {l:List Sm} {n' fZ:Int} {l':List Sm} (h:Lk p q k id i i' n lp l n' fZ l'):LkI p q k id i i' n lp l n' fZ l':=by
 induction h with
 |top h1 h2 h3=>exact⟨(hM.cor h1 h2 h3).2.2.2, .inl ⟨rfl,rfl⟩, .inl rfl,Ov hM.right.may h1,Ov hM.right'.may h2⟩
 |tail h ih=>exact⟨ih.ja.2,ih.next,ih.loop.imp_right (·.imp_left (·.tail)),Ow ih.sub,Ow ih.ud⟩
 | @aQ n lp s l n' fZ s' l' h hs ih=>
  obtain⟨hd,ht⟩:=ih.ja
  rw[rY hs]at hd
  have hk:s'.kind=s.kind:=hd.kind
  refine⟨hd.aQ, ?_, ?_,qf ih.sub,qf ih.ud⟩
  ·rw [hk]
   by_cases c:(s.kind==6)=true
   ·rw[if_pos c,if_pos c];exact .inr ⟨i,i',n,lp,s,l,n',fZ,s',l',h,rfl, .inl rfl⟩
   ·rw[if_neg c,if_neg c];exact nY h.tail ht ih.next
  ·rw [hk]
   by_cases c:(s.kind==6)=true
   ·rw[if_pos c,if_pos c];exact .inr (.inr ⟨i,i',n,lp,s,l,n',fZ,s',l',h,rfl,rfl,by simpa using c,hs⟩)
   ·rw[if_neg c,if_neg c];exact ih.loop.imp_right (·.imp_left (·.aQ))
 | @aN n lp s l n' fZ s' l' h hs ih=>
  obtain⟨hd,ht⟩:=ih.ja
  rw[rY hs]at hd
  have hk:s'.kind=s.kind:=hd.kind
  refine⟨hd.aN, ?_, ?_,E3 ih.sub,E3 ih.ud⟩
  ·rw [hk]
   by_cases c:(s.kind==6)=true
   ·rw[if_pos c,if_pos c];exact .inr ⟨i,i',n,lp,s,l,n',fZ,s',l',h,rfl, .inl rfl⟩
   ·rw[if_neg c,if_neg c];exact nY h.tail ht ih.next
  ·rw [hk]
   by_cases c:(s.kind==6)=true
   ·rw[if_pos c,if_pos c];exact .inr (.inr ⟨i,i',n,lp,s,l,n',fZ,s',l',h,rfl,rfl,by simpa using c,hs⟩)
   ·rw[if_neg c,if_neg c];exact ih.loop.imp_right (·.imp_left (·.aN))
 | @IJ n lp s l n' fZ s' l' h hk hs ih=>
  obtain⟨hd,ht⟩:=ih.ja
  subst hk
  rw[pQ hs]at hd
  have k5:=hM.aaG rfl s (hM.pre ih.sub) hs
  have yi:s'.kind=5:=hd.kind.trans k5
  have a:=qf ih.sub
  have b:=E3 ih.ud
  rw[show(s.kind==6)=false by rw[k5];rfl]at a
  rw[show(s'.kind==6)=false by rw[yi];rfl]at b
  exact⟨hd.aN,nY h.tail ht ih.next,ih.loop.imp_right (·.imp_left (·.aQ)),a,b⟩
 | @IK n lp s l n' fZ s' l' h hk hs ih=>
  obtain⟨hd,ht⟩:=ih.ja
  subst hk
  rw[pQ hs]at hd
  have k5:=hM.aaG rfl s (hM.pre ih.sub) hs
  have yi:s'.kind=5:=hd.kind.trans k5
  have a:=E3 ih.sub
  have b:=qf ih.ud
  rw[show(s.kind==6)=false by rw[k5];rfl]at a
  rw[show(s'.kind==6)=false by rw[yi];rfl]at b
  exact⟨hd.aQ,nY h.tail ht ih.next,ih.loop.imp_right (·.imp_left (·.aN)),a,b⟩
 | @IL n lp s l n' fZ s' l' c w h hk hs hw ih=>
  obtain⟨hd,ht⟩:=ih.ja
  subst hk
  rw[pR hs]at hd
  have k6:=hM.T9 rfl s (hM.pre ih.sub) hs
  have yi:s'.kind=5:=hd.kind
  have D9:=hd.aQ
  rw[hw]at D9
  obtain⟨g1,g2⟩:=Cp D9
  have a:=qf ih.sub
  have b:=qf ih.ud
  rw[show(s.kind==6)=true by rw[k6.1];rfl]at a
  rw[show(s'.kind==6)=false by rw[yi];rfl,hw]at b
  exact⟨g1, .inr ⟨i,i',n,lp,s,l,n',fZ,s',l',h,rfl, .inr ⟨rfl,hs,c,w,hw,rfl⟩⟩, .inr (.inl k6.2),a,(GG b).1⟩
 | @LM n lp s l n' fZ s' l' c w h hk hs hw ih=>
  obtain⟨hd,ht⟩:=ih.ja
  subst hk
  rw[pR hs]at hd
  have k6:=hM.T9 rfl s (hM.pre ih.sub) hs
  have yi:s'.kind=5:=hd.kind
  have D9:=hd.aQ
  rw[hw]at D9
  obtain⟨g1,g2⟩:=Cp D9
  have a:=qf ih.sub
  have b:=qf ih.ud
  rw[show(s.kind==6)=true by rw[k6.1];rfl]at a
  rw[show(s'.kind==6)=false by rw[yi];rfl,hw]at b
  have b2:=qf (GG b).2
  have kw:w.kind=6:=g2.kind.trans k6.1
  rw[show(w.kind==6)=true by rw[kw];rfl]at b2
  exact⟨g2.aQ, .inr ⟨i,i',n,lp,s,l,n',fZ,s',l',h,rfl, .inr ⟨rfl,hs,c,w,hw,rfl⟩⟩, .inr (.inl k6.2),a,b2⟩
end Go.Abs
namespace Go.Abs
variable {p q:Pg} {k id:Int}
theorem mR {p:Pg} (hR:p.Right) {i:Nat} {n lp:Int} {s:Sm} {l:List Sm} (h : ∃ up,∀ x∈Sm.fJ i up n lp (s::l),x∈p.a7.L) :
 ∃ up,dY p.a7.L s.id = ⟨s,i,up,dD l n,lp⟩∧(⟨s,i,up,dD l n,lp⟩:Im)∈p.a7.L∧1≤s.id∧s.one=true∧∃ f,Ca p p.a7.L ⟨s,i,up,dD l n,lp⟩ f:=by
 obtain⟨up,h⟩:=sub_self h
 obtain⟨f,hf⟩:=(pA hR).im _ h
 refine⟨up,hf.self.1,h,hf.self.2.1, ?_,f,hf⟩
 exact ET hR.may _ (by rw[← (kU p).1];exact List.mem_map_of_mem h)
theorem Lk.procs {i i':Nat} {n lp:Int} {l:List Sm} {n' fZ:Int} {l':List Sm} (h:Lk p q k id i i' n lp l n' fZ l') : ∃ f f',p.procs[i]? = some f∧q.procs[i']? = some f'∧f'.name=f.name:=by
 induction h with
 |top h1 h2 h3=>exact⟨_,_,h1,h2,h3⟩
 |tail _ ih=>exact ih
 |aQ _ _ ih=>exact ih
 |aN _ _ ih=>exact ih
 |IJ _ _ _ ih=>exact ih
 |IK _ _ _ ih=>exact ih
 |IL _ _ _ _ ih=>exact ih
 |LM _ _ _ _ ih=>exact ih
theorem K0 {s:Sm} (h:s.one=true):s.kind≠5→s.aN = []:=fun hk=>by
 unfold Sm.one at h
 split at h
 ·cases h
 ·split at h
  ·cases h
  ·split at h
   ·cases h
   ·split at h
    ·cases h
    ·simp only [Bool.and_eq_true,Bool.or_eq_true,beq_iff_eq]at h
     rcases h.2 with h|h
     ·exact List.eq_nil_of_length_eq_zero (by omega)
     ·exact absurd h hk
theorem GH {s:Sm} (h:s.one=true) (hx:s.DS=true):s.x.may=true:=by
 unfold Sm.one at h
 split at h
 ·cases h
 ·rename_i c
  rw[hx]at c
  simp only[Bool.or_eq_true,not_or,Bool.true_and,Bool.not_eq_true',Bool.not_eq_false]at c
  exact c.1.1.2
theorem Ox {s s':Sm} {id:Int} (hs:s.id=id) (h:IG s' (s.yf 2 id)) : ∃ c w,s'.aQ=c++ [w]:=by
 rw[pR hs]at h
 have:=congrArg List.length h.aQ
 rw[Er,Er]at this
 simp only[List.length_append,List.length_singleton]at this
 rcases List.eq_nil_or_concat s'.aQ with e|⟨c,w,e⟩
 ·rw[e]at this;simp at this
 ·exact⟨c,w,by rw[e];simp⟩
theorem Made.part (hM:Made p q k id) : ∀ (N:Nat) {i i':Nat} {n lp:Int} {l:List Sm} {n' fZ:Int} {l':List Sm},Sm.aU l≤N→Lk p q k id i i' n lp l n' fZ l'→∀ v∈Sm.bN l,∃ n lp r n' fZ s' r',Lk p q k id i i' n lp (v::r) n' fZ (s'::r'):=by
 intro N
 induction N with
 |zero=>
  intro i i' n lp l n' fZ l' hN h v m
  cases l with
  |nil=>simp[Sm.bN]at m
  |cons s l=>cases s;simp only[Sm.aU,Sm.size]at hN;omega
 | succ N ih=>
  intro i i' n lp l n' fZ l' hN h v m
  have hI:=hM.inv h
  cases l with
  |nil=>simp[Sm.bN]at m
  | cons s l=>
   have hsh:=hI.shape
   simp only[Sm.eH]at hsh
   obtain⟨s',r',rfl,hd,ht⟩:=Co hsh
   have dU:Sm.aU s.aQ<s.size∧Sm.aU s.aN<s.size:=by cases s;simp only[Sm.size];omega
   simp only[Sm.aU]at hN
   rw[Sm.bN,Sm.nU]at m
   have hp0:1≤s.size:=by cases s;simp only[Sm.size];omega
   rcases List.mem_append.1 m with m|m
   ·rcases List.mem_cons.1 m with rfl | m
    ·exact⟨_,_,_,_,_,_,_,h⟩
    ·by_cases hs:Sp k id s
     ·obtain⟨hk,hi⟩:=hs
      rcases hk with rfl|rfl
      ·rcases List.mem_append.1 m with m | m
       ·exact ih (by omega) (.IJ h rfl hi) v m
       ·exact ih (by omega) (.IK h rfl hi) v m
      ·obtain⟨c,w,hw⟩:=Ox hi hd
       rcases List.mem_append.1 m with m|m
       ·exact ih (by omega) (.IL h rfl hi hw) v m
       ·exfalso
        obtain⟨_,_,_,_,ho,_⟩:=mR hM.right hI.sub
        have k6:=(hM.T9 rfl s (hM.pre hI.sub) hi).1
        rw[K0 ho (by omega)]at m
        simp[Sm.bN]at m
     ·rcases List.mem_append.1 m with m | m
      ·exact ih (by omega) (.aQ h hs) v m
      ·exact ih (by omega) (.aN h hs) v m
   ·exact ih (by omega) (.tail h) v m
theorem IM (fin:List aK) (lG:aK) : ∀ l:List Sm,(gQ fin lG l).2=true→(∃ v∈l,lG∈v.labels∧gQ fin lG l=(v.id,true))∨(gQ fin lG l=(-1,true)∧lG∈fin)
 | [],h=>by
  simp only[gQ]at h ⊢
  split at h
  ·rename_i c;rw[if_pos c];exact .inr ⟨rfl,(fx _ _).1 c⟩
  ·cases h
 | v::l,h=>by
  simp only[gQ]at h ⊢
  split at h
  ·rename_i c;rw[if_pos c];exact .inl ⟨v,List.mem_cons_self ..,(fx _ _).1 c,rfl⟩
  ·rename_i c
   rw[if_neg c]
   rcases IM fin lG l h with ⟨w,m,h1,h2⟩|h1
   ·exact .inl ⟨w,List.mem_cons_of_mem _ m,h1,h2⟩
   ·exact .inr h1
theorem FG {lG:aK} : ∀ {l:List Sm},lG∈dO l↔∃ v∈l,lG∈v.labels
 | []=>by simp[dO]
 |v::l=>by simp only[dO,List.mem_append,FG (l:=l),List.mem_cons,exists_eq_or_imp]
theorem Oy {fin:List aK} {lG:aK} : ∀ {l:List Sm} {v:Sm},(dO l).Nodup→v∈l→lG∈v.labels→(gQ fin lG l).1=v.id
 | w::l,v,hn,m,hv=>by
  simp only[dO]at hn
  obtain⟨h1,h2,h3⟩:=List.nodup_append.1 hn
  simp only[gQ]
  rcases List.mem_cons.1 m with rfl|m
  ·rw[if_pos ((fx _ _).2 hv)]
  ·rw [if_neg,Oy h2 m hv]
   intro c
   exact h3 lG ((fx _ _).1 c) lG (FG.2 ⟨v,m,hv⟩) rfl
theorem Oz {fin:List aK} {lG:aK} : ∀ {l:List Sm},lG∉dO l→lG∈fin→(gQ fin lG l).1 = -1
 | [],_,h=>by simp only[gQ];rw[if_pos ((fx _ _).2 h)]
 |v::l,hn,h=>by
  simp only[dO,List.mem_append,not_or]at hn
  simp only[gQ]
  rw[if_neg fun c=>hn.1 ((fx _ _).1 c),Oz hn.2 h]
theorem Ua {p:Pg} (hR:p.Right) {f:Pc} (hf:f∈p.procs):(dO (Sm.bN f.body)++f.fin).Nodup:=by
 have:=hR.lj f hf
 refine Classical.byContradiction fun h=>?_
 rw[(pz f.labels).2 h]at this
 cases this
theorem Ub (s:Sm):(s.yf k id).labels=s.labels:=by
 by_cases h:Sp k id s
 ·obtain⟨hk,hi⟩:=h
  rcases hk with rfl|rfl
  ·rw[pQ hi]
  ·rw[pR hi]
 ·rw[rY h]
theorem Made.uT (hM:Made p q k id) {i i':Nat} {f f':Pc} (h1:p.procs[i]? = some f) (h2:q.procs[i']? = some f') (h3:f'.name=f.name) {lG:aK} (hb:(gQ f.fin lG (Sm.bN f.body)).2=true) :
 CW p q k id (gQ f.fin lG (Sm.bN f.body)).1 (gQ f'.fin lG (Sm.bN f'.body)).1:=by
 have hnq:=Ua hM.right' (List.mem_of_getElem? h2)
 obtain⟨n1,n2,n3⟩:=List.nodup_append.1 hnq
 have hc:=hM.cor h1 h2 h3
 rcases IM f.fin lG _ hb with ⟨v,m,g1,g2⟩|⟨g1,g2⟩
 ·obtain⟨n,lp,r,n',fZ,s',r',hl⟩:=hM.part _ (Nat.le_refl _) (.top h1 h2 h3) v m
  have hI:=hM.inv hl
  have hd:=hI.ja.1
  obtain⟨up,e1,e2,e3,e4,f2,Eg⟩:=mR hM.right' hI.ud
  have sN:=Eg.proc.1
  have hm:=Eg.mem
  dsimp only at sN hm
  rw[Int.toNat_natCast,h2]at sN
  cases sN
  have:(gQ f'.fin lG (Sm.bN f'.body)).1=s'.id:=Oy n1 hm (by rw[hd.labels,Ub];exact g1)
  rw[g2,this]
  exact .inr ⟨i,i',n,lp,v,r,n',fZ,s',r',hl,rfl, .inl rfl⟩
 ·rw [g1]
  refine .inl ⟨rfl,Oz (fun c=>n3 lG c lG (by rw[hc.2.2.1];exact g2) rfl) (by rw[hc.2.2.1];exact g2)⟩
theorem QJ {p:Pg} {f:Pc} (hf:f∈p.procs) : ∃ g,p.find f.name=some g:=by
 unfold Pg.find
 have : ∀ l:List Pc,f∈l→∃ g,iF f.name l=some g:=by
  intro l
  induction l with
  |nil=>intro m;cases m
  | cons a l ih=>
   intro m
   simp only[iF]
   by_cases c:(a.name==f.name)=true
   ·rw[if_pos c];exact⟨a,rfl⟩
   ·rw [if_neg c]
    rcases List.mem_cons.1 m with rfl|m
    ·exact absurd (by simp) c
    ·exact ih m
 exact this _ hf
theorem Made.opens (hM:Made p q k id) {nm:aK} {g:Pc} (hg:p.find nm=some g):Cm p q (CW p q k id) (p.at nm) (q.at nm):=by
 obtain⟨j,a1,a2⟩:=EY (k:=0) hg
 have hn:=tZ hg
 obtain⟨i',f',b1,b2⟩:=hM.has a2
 obtain⟨g',nR⟩:=QJ (List.mem_of_getElem? b1)
 rw[b2,hn]at nR
 obtain⟨j',c1,c2⟩:=EY (k:=0) nR
 have rj:=tZ nR
 have e1:p.at nm=(j:Int):=by simpa[Pg.at]using a1
 have e2:q.at nm=(j':Int):=by simpa[Pg.at]using c1
 unfold Cm
 rw[e1,e2,Int.toNat_natCast,Int.toNat_natCast,a2,c2]
 dsimp only
 obtain⟨d1,d2,d3,d4⟩:=hM.cor a2 c2 (rj.trans hn.symm)
 exact⟨d1,d2,nY (.top a2 c2 (rj.trans hn.symm)) d4 (.inl ⟨rfl,rfl⟩)⟩
theorem Made.ajb (hM:Made p q k id) {i i':Nat} {n lp:Int} {s:Sm} {l:List Sm} {n' fZ:Int} {s':Sm} {l':List Sm} (h:Lk p q k id i i' n lp (s::l) n' fZ (s'::l')) (hs : ¬ Sp k id s) :
 Alike p q p.a7.L q.a7.L (CW p q k id) (dY p.a7.L s.id) (dY q.a7.L s'.id):=by
 have hI:=hM.inv h
 obtain⟨hd,ht⟩:=hI.ja
 have yS:=hd
 rw[rY hs]at hd
 obtain⟨up,e1,e2,e3,e4,f,hf⟩:=mR hM.right hI.sub
 obtain⟨H6,K1,W1,e3',e4',f',JX⟩:=mR hM.right' hI.ud
 obtain⟨g,g',p1,p2,p3⟩:=h.procs
 have V7:=hf.proc.1
 have aaH:=JX.proc.1
 dsimp only at V7 aaH
 rw[Int.toNat_natCast,p1]at V7
 rw[Int.toNat_natCast,p2]at aaH
 cases V7
 cases aaH
 obtain⟨o1,o2,_⟩:=QE e4
 have hk:s'.kind=s.kind:=hd.kind
 have hn:CW p q k id (dD l n) (dD l' n'):=nY h.tail ht hI.next
 have acW:s.kind=7∨s.kind=8→LpR p q k id lp fZ:=fun hk=>by
  rcases hI.loop with h0|h0|h0
  ·have:=(hf.loop hk).1
   dsimp only at this
   omega
  ·have:=h0 s (by rw [Sm.bN,Sm.nU];exact List.mem_append_left _ (List.mem_cons_self ..))
   omega
  ·exact h0
 rw[e1,K1]
 refine⟨⟨o1,o2⟩,fun _=>⟨hk,hd.name,hd.x,hn⟩,fun h4=>⟨hk.trans h4,hd.args, .inr ⟨by dsimp only;omega,by dsimp only;omega, ?_, ?_⟩, ?_⟩,fun h9=>⟨hk.trans h9,hd.has,hd.x⟩,fun h7=>⟨hk.trans h7, ?_⟩,fun h8=>⟨hk.trans h8, ?_⟩,fun OA=>⟨hk.trans OA, ?_⟩,fun FH=>⟨by rw[← hk]at FH;exact FH,fun names bJ=>⟨by rw[show s'.x=s.x from hd.x],fun _=>?_⟩⟩⟩
 ·dsimp only;rw[e1,K1];exact hd.name
 ·dsimp only;rw[e1,K1];exact hn
 ·dsimp only at h4 ⊢
  rw[show s'.proc=s.proc from hd.proc]
  have Wn:=hM.right.known f (List.mem_of_getElem? p1) s hf.mem
  simp only[Sm.known,Bool.and_eq_true,Bool.or_eq_true,bne_iff_ne,ne_eq,h4,not_true_eq_false,false_or]at Wn
  have P9:=(fx _ _).1 Wn.2.2
  unfold Pg.pn at P9
  obtain⟨g0,m0,m1⟩:=List.mem_map.1 P9
  obtain⟨g1,uk⟩:=QJ m0
  rw[m1]at uk
  exact hM.opens uk
 ·obtain⟨i0,i0',n0,lp0,s0,l0,n0',aje,s0',l0',q1,q2,q3,q4,q5⟩:=acW (.inl h7)
  have hI0:=hM.inv q1
  obtain⟨u0,w1,_⟩:=mR hM.right hI0.sub
  obtain⟨u0',w1',_⟩:=mR hM.right' hI0.ud
  dsimp only
  rw[q2,q3,w1,w1']
  exact nY q1.tail hI0.ja.2 hI0.next
 ·obtain⟨i0,i0',n0,lp0,s0,l0,n0',aje,s0',l0',q1,q2,q3,q4,q5⟩:=acW (.inr h8)
  exact .inr ⟨i0,i0',n0,lp0,s0,l0,n0',aje,s0',l0',q1,q2, .inl q3⟩
 ·unfold T8
  dsimp only at OA ⊢
  rw[Int.toNat_natCast,Int.toNat_natCast,p1,p2]
  dsimp only
  rw[show s'.name=s.name from hd.name]
  have hl:=hM.right.leads f (List.mem_of_getElem? p1) (s,lp) (by
   have m:=e2
   rw[Ec hM.right.may]at m
   obtain⟨j,f0,j1,j2⟩:=Gt p.procs 0 m
   rw[Nat.zero_add]at j2
   have j3:=(xc (R:=fun _=>True) (j:Int) 0 (-1) 0 f0.body (fun _ _=>trivial) (.inl rfl) (.inl rfl) _ j2).1
   dsimp only at j3
   have j4:i=j:=by omega
   subst j4
   rw[p1]at j1
   cases j1
   rw[← Gn (i:Int) f]
   exact List.mem_map.2 ⟨_,j2,rfl⟩)
  unfold kj at hl
  rw[if_neg (by simp[OA]),if_pos (by simp[OA])]at hl
  exact hM.uT p1 p2 p3 (by rw[zh];exact hl)
 ·have a:=nY (.aQ h hs) hd.aQ (hM.inv (.aQ h hs)).next
  have b:=nY (.aN h hs) hd.aN (hM.inv (.aN h hs)).next
  dsimp only at FH ⊢
  rw[show s'.x=s.x from hd.x]
  unfold vt
  dsimp only
  rw[hk]at a b ⊢
  rcases FH with FH|FH
  ·rw [show(s.kind==6)=false by rw [FH];rfl]at a b
   rw[show(s.kind==5)=true by rw[FH];rfl,if_pos rfl,if_pos rfl]
   split
   ·exact b
   ·exact a
  ·rw [show(s.kind==6)=true by rw [FH];rfl]at a b
   rw[show(s.kind==5)=false by rw[FH];rfl,if_neg Bool.false_ne_true,if_neg Bool.false_ne_true]
   split
   ·exact hn
   ·exact a
theorem Xm {x:Ex} (h1:x.may=true) (h2:(⟨4,0,[],[x]⟩:Ex).may=true) (names:List aK) (bJ:List Int) :
 ((⟨4,0,[],[x]⟩:Ex).bj names bJ).2=(x.bj names bJ).2∧((x.bj names bJ).2=true→(((⟨4,0,[],[x]⟩:Ex).bj names bJ).1==0) = !((x.bj names bJ).1==0)):=by
 unfold Ex.bj
 rw[if_pos h1,if_pos h2]
 have e:(⟨4,0,[],[x]⟩:Ex).val names bJ=if(x.val names bJ).2 then(uS ((x.val names bJ).1==0),true)else(0,false):=by
  simp only[Ex.val,Ex.NG,H9]
  rfl
 rw[e]
 by_cases c:(x.val names bJ).2=true
 ·rw [if_pos c]
  refine⟨c.symm,fun _=>?_⟩
  dsimp only
  cases (x.val names bJ).1==0<;>rfl
 ·rw [if_neg c]
  exact⟨by simpa using c,fun h=>absurd h c⟩
theorem Made.ajf (hM:Made p q 1 id) {i i':Nat} {n lp:Int} {s:Sm} {l:List Sm} {n' fZ:Int} {s':Sm} {l':List Sm} (h:Lk p q 1 id i i' n lp (s::l) n' fZ (s'::l')) (hs:s.id=id) :
 Alike p q p.a7.L q.a7.L (CW p q 1 id) (dY p.a7.L s.id) (dY q.a7.L s'.id):=by
 have hI:=hM.inv h
 obtain⟨hd,ht⟩:=hI.ja
 rw[pQ hs]at hd
 obtain⟨up,e1,e2,e3,e4,f,hf⟩:=mR hM.right hI.sub
 obtain⟨H6,K1,W1,e3',e4',f',JX⟩:=mR hM.right' hI.ud
 have k5:=hM.aaG rfl s (hM.pre hI.sub) hs
 have yi:s'.kind=5:=hd.kind.trans k5
 have a:=nY (.IJ h rfl hs) hd.aN (hM.inv (.IJ h rfl hs)).next
 have b:=nY (.IK h rfl hs) hd.aQ (hM.inv (.IK h rfl hs)).next
 have hx:s'.x = ⟨4,0,[],[s.x]⟩:=hd.x
 have m1:=GH e4 (by simp[Sm.DS,k5])
 have m2:=GH e4' (by simp[Sm.DS,yi])
 rw[hx]at m2
 rw[e1,K1]
 refine⟨by dsimp only;omega,fun hk=>?_,fun hk=>?_,fun hk=>?_,fun hk=>?_,fun hk=>?_,fun hk=>?_,fun _=>⟨.inl yi,fun names bJ=>?_⟩⟩
 all_goals try (exfalso;dsimp only at hk;omega)
 dsimp only
 rw[hx]
 obtain⟨w1,w2⟩:=Xm m1 m2 names bJ
 refine⟨w1,fun hg=>?_⟩
 have w2:=w2 hg
 unfold vt
 dsimp only
 rw[w2,show(s.kind==5)=true by rw[k5];rfl,show(s'.kind==5)=true by rw[yi];rfl,if_pos rfl,if_pos rfl]
 cases ((s.x.bj names bJ).1==0)with
 |true=>exact b
 |false=>exact a
theorem Made.OB (hM:Made p q 2 id) {i i':Nat} {n lp:Int} {s:Sm} {l:List Sm} {n' fZ:Int} {s':Sm} {l':List Sm} (h:Lk p q 2 id i i' n lp (s::l) n' fZ (s'::l')) (hs:s.id=id) :
 Alike p q p.a7.L q.a7.L (CW p q 2 id) (dY p.a7.L s.id) (dY q.a7.L s'.id)∧
 ∀ c w,s'.aQ=c++ [w]→1≤w.id∧Alike p q p.a7.L q.a7.L (CW p q 2 id) (dY p.a7.L s.id) (dY q.a7.L w.id):=by
 have hI:=hM.inv h
 obtain⟨hd,ht⟩:=hI.ja
 have yS:=hd
 rw[pR hs]at hd
 obtain⟨up,e1,e2,e3,e4,f,hf⟩:=mR hM.right hI.sub
 obtain⟨H6,K1,W1,e3',e4',f',JX⟩:=mR hM.right' hI.ud
 obtain⟨k6,knj⟩:=hM.T9 rfl s (hM.pre hI.sub) hs
 have yi:s'.kind=5:=hd.kind
 have hx:s'.x=s.x:=hd.x
 have hn:CW p q 2 id (dD l n) (dD l' n'):=nY h.tail ht hI.next
 obtain⟨c,w,hw⟩:=Ox hs yS
 have D9:=hd.aQ
 rw[hw]at D9
 obtain⟨g1,g2⟩:=Cp D9
 have aC:=nY (.IL h rfl hs hw) g1 (hM.inv (.IL h rfl hs hw)).next
 have aW:=nY (.LM h rfl hs hw) g2.aQ (hM.inv (.LM h rfl hs hw)).next
 have kw:w.kind=6:=g2.kind.trans k6
 have hxw:w.x=s.x:=g2.x
 have xQ:s'.aN = []:=KZ (by rw[hd.aN];show Sm.fQ (Sm.eH 2 id s.aN) = [];rw[K0 e4 (by omega)];simp only[Sm.eH,Sm.fQ])
 have b:=qf hI.ud
 rw[show(s'.kind==6)=false by rw[yi];rfl,hw]at b
 obtain⟨uw,w1,w2,w3,w4,fw,hfw⟩:=mR hM.right' (GG b).2
 refine⟨?_,fun c2 w2' sQ=>?_⟩
 ·rw [e1,K1]
  refine⟨by dsimp only;omega,fun hk=>?_,fun hk=>?_,fun hk=>?_,fun hk=>?_,fun hk=>?_,fun hk=>?_,fun _=>⟨.inl yi,fun names bJ=>?_⟩⟩
  all_goals try (exfalso;dsimp only at hk;omega)
  dsimp only
  rw[hx]
  refine⟨rfl,fun hg=>?_⟩
  unfold vt
  dsimp only
  rw[show(s.kind==5)=false by rw[k6];rfl,show(s'.kind==5)=true by rw[yi];rfl,if_neg Bool.false_ne_true,if_pos rfl,xQ,hw]
  have ef:firstM (c++ [w]) (dD l' n')=dD c w.id:=by cases c<;>rfl
  rw[ef]
  split
  ·exact hn
  ·exact aC
 ·rw [hw]at sQ
  obtain⟨_,hh⟩:=List.append_inj' sQ rfl
  cases hh
  refine⟨w3, ?_⟩
  rw[e1,w1]
  refine⟨by dsimp only;omega,fun hk=>?_,fun hk=>?_,fun hk=>?_,fun hk=>?_,fun hk=>?_,fun hk=>?_,fun _=>⟨.inr kw,fun names bJ=>?_⟩⟩
  all_goals try (exfalso;dsimp only at hk;omega)
  dsimp only
  rw[hxw]
  refine⟨rfl,fun hg=>?_⟩
  unfold vt
  dsimp only
  rw[show(s.kind==5)=false by rw[k6];rfl,show(w.kind==5)=false by rw[kw];rfl,if_neg Bool.false_ne_true,if_neg Bool.false_ne_true]
  split
  ·exact hn
  ·exact aW
theorem Made.bis (hM:Made p q k id):Ot p q p.a7.L q.a7.L (CW p q k id):=by
 refine⟨hM.globals, .inl ⟨rfl,rfl⟩,fun a a' h=>?_,fun a a' h hn=>?_⟩
 ·rcases h with ⟨h1,h2⟩ | ⟨i,i',n,lp,s,l,n',fZ,s',l',h1,h2,h3⟩
  ·exact⟨fun _=>h2,fun _=>h1⟩
  ·have hI:=hM.inv h1
   obtain⟨up,e1,e2,e3,_⟩:=mR hM.right hI.sub
   obtain⟨H6,K1,W1,e3',_⟩:=mR hM.right' hI.ud
   rcases h3 with h3|⟨rfl,h4,c,w,h5,h6⟩
   ·constructor<;>intro _<;>omega
   ·have:=((hM.OB h1 h4).2 c w h5).1
    constructor<;>intro _<;>omega
 ·rcases h with ⟨h1,_⟩ | ⟨i,i',n,lp,s,l,n',fZ,s',l',h1,h2,h3⟩
  ·exact absurd h1 hn
  ·subst h2
   rcases h3 with rfl|⟨rfl,h4,c,w,h5,rfl⟩
   ·by_cases hs:Sp k id s
    ·obtain⟨rfl | rfl,hi⟩:=hs
     ·exact hM.ajf h1 hi
     ·exact(hM.OB h1 hi).1
    ·exact hM.ajb h1 hs
   ·exact((hM.OB h1 h4).2 c w h5).2
theorem Made.same (hM:Made p q k id) {T:List Int} {fuel:Int} {m m':Mc} (h:Run p T fuel m) (h':Run q T fuel m'):Cj m m'=true:=by
 have hmn:=hM.right.main
 unfold Pg.oW at hmn
 cases e:p.find jb with
 |none=>rw[e]at hmn;cases hmn
 |some g=>
  obtain⟨k',h1,h2⟩:=aaE (W':=ku 0 q.all) hM.bis (hM.opens e) h.run
  rw[h'.run]at h1
  cases h1
  exact Xl h2
end Go.Abs
namespace Go.Abs
set_option maxRecDepth 8000
open Go.Proofs
abbrev Sm.aCE (t:Sm) (l:List Sm):List Sm:=Sm.lO (fC t) l
abbrev Pg.put (p:Pg) (t:Sm):Pg:=p.fV (fC t)
def Sm.E4 (v:Sm):Nat:=v.labels.length+v.x.size+Ar.aU v.args
abbrev acY (t:Sm) (N:Nat):Prop:=∀ l:List Sm,Sm.aU l<N→∀ s:St,aH Tryz.prog pJ [.slice .shared 13 (l.map bd), .agg (bd t)] s (.slice .shared 13 ((Sm.lO (fC t) l).map bd)) s
theorem aaI (t:Sm) (ht:t.E4<10000000) {N:Nat} (hN:N<10000000) (ih:acY t N) (l:List Sm) (hl:Sm.aU l<N+1) :
 aH Tryz.prog pJ [.slice .shared 13 (l.map bd), .agg (bd t)] S0 (.slice .shared 13 ((Sm.lO (fC t) l).map bd)) S0:=by
 have hlen:l.length<10000001:=by have:=Sm.dR l;omega
 have hct:=fun s=>zj (v:=t) ht s
 have hbt:bd t.bare=_:=dv t.bare
 simp only[hbt,Sm.bare,List.map_nil]at hct
 generalize hR:Sm.lO (fC t) l=R
 unfold S0
 refine aH.go Ni rfl fun B Q hB hQ=>?_
 have⟨hD,gA,gB,gC⟩:=bX
 repeat' (first
 |simp only[go_sem,hD,gA,gB,gC]
 |(with_reducible first|refine bq fun hc=>?_|refine br fun hc=>?_|refine bt (fun hc=>?_) fun hc=>?_)<;>(try simp only[hc,bs,↓reduceIte]at h)<;>try simp only[hc]
 |(with_reducible refine aJ hQ ?_;exact fU)
 |(cases h;done))
 refine bp.rD 5 13 rfl ?_
 simp only[go_sem,hD,gA,gB,gC]
 refine fI 1 1 (bp.ind (ι:=List Sm×Nat×List Sm) (fun i=>l.drop i.2.1=i.1∧i.2.1=i.2.2.length∧i.2.2++Sm.lO (fC t) i.1=R) (fun i=>i.1.length)
  (fun i=> [(3, .ptr 0 0),(5, .slice (.tok 0) 13 (i.2.2.map bd)),(9, .slice .shared 13 (l.map bd)),(10, .int .i64 (l.length:Int)),(11, .int .i64 (i.2.1:Int))])
  (fun i=>⟨[bd t],[some i.2.1]⟩) ?_ (l,0,[]) ⟨rfl,rfl,hR⟩)
 rintro⟨rest,k,acc⟩ ⟨h1,h2,h3⟩ IH
 dsimp only at h1 h2 h3
 subst h2
 cases rest with
 |nil=>
  have hD:=drop_nil h1
  simp only[Sm.lO,List.append_nil]at h3
  subst h3
  repeat' (first
 |simp only[go_sem,hD,gA,gB,gC]
 |(with_reducible first|refine bq fun hc=>?_|refine br fun hc=>?_|refine bt (fun hc=>?_) fun hc=>?_)<;>(try simp only[hc,bs,↓reduceIte]at h)<;>try simp only[hc]
 |(with_reducible refine aJ hQ ?_;exact fU)
 |(cases h;done))
 | cons y rest=>
  obtain⟨gA,g2,hD,g4⟩:=drop_cons h1
  have hk:acc.length<4611686018427387904:=by omega
  have dU:y.size≤N:=by have:=Sm.cZ (List.mem_of_getElem? gA);omega
  obtain⟨id,kind,labels,name,proc,x,has,args,aQ,aN⟩:=y
  simp only[Sm.size]at dU
  have ij:(acc.length+1)*209≤bD:=by simp only[bD];omega
  have CM:=fun s=>zj (v:=⟨id,kind,labels,name,proc,x,has,args,aQ,aN⟩) (by dsimp only;omega) s
  simp only[Sm.bare,dv,List.map_nil]at CM
  have c1:=ih aQ (by omega)
  have c2:=ih aN (by omega)
  simp only[Sm.lO]at h3
  obtain⟨Y,hY⟩ : ∃ Y,Sm.fV (fC t) ⟨id,kind,labels,name,proc,x,has,args,aQ,aN⟩=Y:=⟨_,rfl⟩
  rw[hY]at h3
  rw[aeG]at hY
  unfold fC at hY
  obtain⟨T,hT⟩ : ∃ T,Sm.lO (fC t) aQ=T:=⟨_,rfl⟩
  obtain⟨E,hE⟩ : ∃ E,Sm.lO (fC t) aN=E:=⟨_,rfl⟩
  unfold fC at hT hE
  simp only[hT,hE]at hY
  unfold fC at c1 c2
  rw[hT]at c1
  rw[hE]at c2
  rcases Bool.eq_false_or_eq_true (id==t.id)with b1|b1
  ·rw [if_pos b1]at hY
   subst hY
   repeat' (first
 |simp only[go_sem,hD,gA,gB,gC,ij,b1]
 |(with_reducible refine CU (CM _) ?_)
 |(with_reducible refine CU (hct _) ?_)
 |(with_reducible refine CU (c1 _) ?_)
 |(with_reducible refine CU (c2 _) ?_)
 |(with_reducible first|refine bq fun hc=>?_|refine br fun hc=>?_|refine bt (fun hc=>?_) fun hc=>?_)<;>(try simp only[hc,bs,↓reduceIte]at h)<;>try simp only[hc]
 |(with_reducible refine aJ hQ ?_;(try cases h);simp only[bh,bk,bO,bP,go_sem,hD,gA,gB,gC,ij,b1];try exact cJ)
 | (cases h;done))
   refine fm 1 1 ?_ ?_ (IH (rest,acc.length+1,acc++ [{t with aQ:=T,aN:=E}]) ⟨g2,by simp,by rw[← h3];simp⟩ (Nat.lt_succ_self _))
   ·(simp only[go_sem,hD,gA,gB,gC,aM hk,dv];try exact cd)
   ·(simp only[go_sem,hD,gA,gB,gC,aM hk,dv];try exact cd)
  ·rw [if_neg (by simp [b1])]at hY
   subst hY
   repeat' (first
 |simp only[go_sem,hD,gA,gB,gC,ij,b1]
 |(with_reducible refine CU (CM _) ?_)
 |(with_reducible refine CU (hct _) ?_)
 |(with_reducible refine CU (c1 _) ?_)
 |(with_reducible refine CU (c2 _) ?_)
 |(with_reducible first|refine bq fun hc=>?_|refine br fun hc=>?_|refine bt (fun hc=>?_) fun hc=>?_)<;>(try simp only[hc,bs,↓reduceIte]at h)<;>try simp only[hc]
 |(with_reducible refine aJ hQ ?_;(try cases h);simp only[bh,bk,bO,bP,go_sem,hD,gA,gB,gC,ij,b1];try exact cJ)
 | (cases h;done))
   refine fm 1 1 ?_ ?_ (IH (rest,acc.length+1,acc++ [⟨id,kind,labels,name,proc,x,has,args,T,E⟩]) ⟨g2,by simp,by rw[← h3];simp⟩ (Nat.lt_succ_self _))
   ·(simp only[go_sem,hD,gA,gB,gC,aM hk];try exact cd)
   ·(simp only[go_sem,hD,gA,gB,gC,aM hk];try exact cd)
theorem ae2 (t:Sm) (ht:t.E4<10000000) : ∀ N,N<10000000→acY t N:=by
 intro N
 induction N with
 |zero=>intro _ l hl;exact absurd hl (Nat.not_lt_zero _)
 |succ N ih=>
  intro hN l hl s
  exact(aaI t ht (by omega) (ih (by omega)) l hl).pure (by simp[D.bM,D.ok,Tag.ok,l8,qh]) (by simp[D.bM,D.ok,Tag.ok,l8]) s
theorem Xo {t:Sm} (ht:t.E4<10000000) {l:List Sm} (h:Sm.aU l<9000000) (s:St):aH Tryz.prog pJ [.slice .shared 13 (l.map bd), .agg (bd t)] s (.slice .shared 13 ((Sm.lO (fC t) l).map bd)) s:=
 ae2 t ht 9999999 (by omega) l (by omega) s
end Go.Abs
