/-
  What is proved here: part 4 of the road to the claim (RunI, Ev1, Ev2, Cp1, RunC0, RunC1, RunC2, RunC3, RunC4, RunC5, RunC6, RunC7, RunSt, RunSz, Jm3, Rj1, Ck1, RunC8, RunC9, RunL0, RunL1, RunTp, RunEv, RunWa, RunL2, LawRu2, RunBi, RunLk, RunLk2, MayLaw, MirNum, MayLaw2, MayLaw3).
  No conditions.
-/
import Derived.Test.YtpjadlleefgcpaaGreatRnI3

set_option linter.unusedSimpArgs false
set_option linter.unusedVariables false
namespace Go.Abs
structure Lay where
 κ:List Nat
 φ:List Nat
 sd:D
 vd:D
def D.arr:D→List Nat
 | .dS _ o _ _=> [o]
 |_=> []
def Lay.own (y:Lay):List Nat:=0::(y.κ++(y.sd.arr++y.vd.arr))
def fX (o:Nat):List D:= [.ptr o 0]
def qQ (κ:List Nat) (f:Fr):List D:= [.int .i64 f.proc, .slice .shared 1 (f.names.map encStr), .slice .shared 1 (f.vars.map fun c=>fX (κ.getD c 0)), .int .i64 f.call]
def pH (e:Int×List Int):List D:= [.int .i64 e.1, .slice .shared 1 (e.2.map cR)]
abbrev gf (p:Pg) (T W:List Int) (y:Lay) (m:Mc):List D:=
 [.dR (gj p) 0, .slice .shared 1 ((y.κ.take p.globals.length).map fX), .slice .shared 1 (T.map cR), .slice .shared 1 (W.map cR),y.sd,y.vd,
  .int .i64 m.fin, .int .i64 m.steps, .int .i64 m.reads, .slice (.tok 0) 1 (m.out.map cR), .slice (.tok 1) 2 (m.trace.map pH)]
def sB (n:Int):D:= .int .i64 n
def zY (o:Nat):D:= .ptr o 0
def kB (s:St) (d:D) (cs:List D):Prop:=(d = .ff 1∧cs = [])∨∃ o g more,d = .dS 1 o g cs.length∧s.al[o]? = some (.int .i64 ((g:Nat):Int)::(cs++more))
structure Inv (p:Pg) (T W:List Int) (y:Lay) (m:Mc) (loc:List (Nat×List D)) (s:St):Prop where
 kC:s.al[0]? = some (gf p T W y m)
 t0:s.aA[0]? = some (some m.out.length)
 t1:s.aA[1]? = some (some m.trace.length)
 len:y.κ.length=m.mem.length
 cell : ∀ (i c:Nat) (v:Int),y.κ[i]? = some c→m.mem[i]? = some v→s.al[c]? = some [.int .i64 v]
 uQ:y.φ.length=m.st.length
 frame : ∀ (i o:Nat) (fr:Fr),y.φ[i]? = some o→m.st[i]? = some fr→s.al[o]? = some (qQ y.κ fr)∧o∉y.own∧∀ c∈fr.vars,c<m.mem.length
 stack:kB s y.sd (y.φ.reverse.map zY)
 bI : ∃ l:List Int,kB s y.vd (l.map sB)
 own:y.own.Nodup
 loc : ∀ q∈loc,s.al[q.1]? = some q.2∧q.1∉y.own
theorem kB.lt {s:St} {d:D} {cs:List D} (h:kB s d cs) : ∀ o∈d.arr,o<s.al.length:=by
 rcases h with ⟨rfl,_⟩|⟨o,g,more,rfl,h⟩
 ·intro o m;simp[D.arr]at m
 ·intro o' m
  have:o'=o:=by simpa[D.arr]using m
  subst this;exact gX h
theorem kB.keep {s s':St} {d:D} {cs:List D} (h:kB s d cs) (k : ∀ o∈d.arr,s'.al[o]? = s.al[o]?):kB s' d cs:=by
 rcases h with h|⟨o,g,more,rfl,h⟩
 ·exact .inl h
 ·exact .inr ⟨o,g,more,rfl,by rw[k o (by simp[D.arr])];exact h⟩
theorem Kv {κ e:List Nat} {fr:Fr} (h : ∀ c∈fr.vars,c<κ.length):qQ (κ++e) fr=qQ κ fr:=by
 unfold qQ
 rw[List.map_congr_left (g:=fun c=>fX (κ.getD c 0)) fun c m=>by rw[List.getD_eq_getElem?_getD,List.getD_eq_getElem?_getD,List.getElem?_append_left (h c m)]]
section
variable {p:Pg} {T W:List Int} {y:Lay} {m:Mc} {loc:List (Nat×List D)} {s:St}
theorem Inv.vM (h:Inv p T W y m loc s) : ∀ o∈y.own,o<s.al.length:=by
 intro o mo
 simp only[Lay.own,List.mem_cons,List.mem_append]at mo
 rcases mo with rfl|mo|mo|mo
 ·exact gX h.kC
 ·obtain⟨i,hi⟩:=List.getElem?_of_mem mo
  have hD:=(List.getElem?_eq_some_iff.1 hi).1
  exact gX (h.cell i o _ hi (List.getElem?_eq_getElem (by rw[← h.len];exact hD)))
 ·exact h.stack.lt o mo
 ·obtain⟨l,hl⟩:=h.bI
  exact hl.lt o mo
theorem Inv.wD (h:Inv p T W y m loc s):0<s.al.length:=gX h.kC
theorem Inv.sub (h:Inv p T W y m loc s) {aip:List (Nat×List D)} (hl : ∀ q∈aip,q∈loc):Inv p T W y m aip s:= {h with loc:=fun q m=>h.loc q (hl q m)}
theorem Inv.keep (h:Inv p T W y m loc s) {s':St} (k : ∀ (o:Nat) (r:List D),s.al[o]? = some r→s'.al[o]? = some r) (k0:s'.aA[0]? = s.aA[0]?) (k1:s'.aA[1]? = s.aA[1]?):Inv p T W y m loc s':=by
 have ka : ∀ {d:D} {cs:List D},kB s d cs→kB s' d cs:=fun ha=>ha.keep fun o mo=>by
  rw[List.getElem?_eq_getElem (ha.lt o mo)];exact k o _ (List.getElem?_eq_getElem _)
 obtain⟨l,hl⟩:=h.bI
 exact⟨k _ _ h.kC,by rw[k0];exact h.t0,by rw[k1];exact h.t1,h.len,fun i c v h1 h2=>k _ _ (h.cell i c v h1 h2),h.uQ,fun i o fr h1 h2=>⟨k _ _ (h.frame i o fr h1 h2).1,(h.frame i o fr h1 h2).2⟩,
  ka h.stack,⟨l,ka hl⟩,h.own,fun q m=>⟨k _ _ (h.loc q m).1,(h.loc q m).2⟩⟩
theorem Inv.new (h:Inv p T W y m loc s) (row:List D):Inv p T W y m ((s.al.length,row)::loc) ⟨s.al++ [row],s.aA⟩:=by
 have h':=h.keep (s':=⟨s.al++ [row],s.aA⟩) (fun o r e=>by rw[List.getElem?_append_left (gX e)];exact e) rfl rfl
 refine {h' with loc:=fun q mq=>?_}
 rcases List.mem_cons.1 mq with rfl|mq
 ·exact⟨by simp,fun mo=>Nat.lt_irrefl _ (h.vM _ mo)⟩
 ·exact h'.loc q mq
theorem Inv.aA (h:Inv p T W y m loc s) (ts:List (Option Nat)):Inv p T W y m loc ⟨s.al,s.aA++ts⟩:=
 h.keep (fun _ _ e=>e) (List.getElem?_append_left (List.getElem?_eq_some_iff.1 h.t0).1) (List.getElem?_append_left (List.getElem?_eq_some_iff.1 h.t1).1)
theorem Inv.QR (h:Inv p T W y m loc s) {o:Nat} (ho:o∈y.own) (row:List D) {q:Nat} {r:List D} (hq:s.al[q]? = some r) (hn:q≠o):(s.al.set o row)[q]? = some r:=by
 rw[List.getElem?_set_ne (Ne.symm hn)];exact hq
theorem Inv.xS (h:Inv p T W y m loc s) {o:Nat} (ho:o∈y.κ++(y.sd.arr++y.vd.arr)):o≠0:=fun e=>by
 have:=h.own
 rw[Lay.own,List.nodup_cons]at this
 exact this.1 (e ▸ ho)
theorem Inv.vX (h:Inv p T W y m loc s) {m':Mc} (h1:m'.st=m.st) (h2:m'.mem=m.mem) {ts:List (Option Nat)} (k0:ts[0]? = some (some m'.out.length)) (k1:ts[1]? = some (some m'.trace.length)) :
 Inv p T W y m' loc ⟨s.al.set 0 (gf p T W y m'),ts⟩:=by
 have ne : ∀ {q:Nat} {r:List D},s.al[q]? = some r→q≠0→(s.al.set 0 (gf p T W y m'))[q]? = some r:=fun e hn=>h.QR (by simp[Lay.own]) _ e hn
 have nf : ∀ {q:Nat},q∉y.own→q≠0:=fun hq e=>hq (by rw[e];simp[Lay.own])
 have ka : ∀ {d:D} {cs:List D},(∀ o∈d.arr,o∈y.κ++(y.sd.arr++y.vd.arr))→kB s d cs→kB ⟨s.al.set 0 (gf p T W y m'),ts⟩ d cs:=fun hd ha=>ha.keep fun o mo=>by
  show(s.al.set 0 _)[o]? = _
  rw[List.getElem?_set_ne (Ne.symm (h.xS (hd o mo)))]
 obtain⟨l,hl⟩:=h.bI
 refine⟨by simp[h.wD],k0,k1,by rw[h2];exact h.len,fun i c v e1 e2=>ne (h.cell i c v e1 (by rw[← h2];exact e2)) (h.xS (List.mem_append_left _ (List.mem_of_getElem? e1))),by rw[h1];exact h.uQ,fun i o fr e1 e2=>?_,
  ka (fun o m=>by simp[m]) h.stack,⟨l,ka (fun o m=>by simp[m]) hl⟩,h.own,fun q mq=>⟨ne (h.loc q mq).1 (nf (h.loc q mq).2),(h.loc q mq).2⟩⟩
 rw[h1]at e2
 obtain⟨g1,g2,g3⟩:=h.frame i o fr e1 e2
 exact⟨ne g1 (nf g2),g2,by rw[h2];exact g3⟩
theorem Inv.ZW (h:Inv p T W y m loc s) {i c:Nat} (hc:y.κ[i]? = some c) (v:Int):Inv p T W y {m with mem:=m.mem.set i v} loc ⟨s.al.set c [.int .i64 v],s.aA⟩:=by
 have iM:c∈y.κ:=List.mem_of_getElem? hc
 have ou:c<s.al.length:=h.vM c (by simp[Lay.own,iM])
 have Co:=h.own
 rw[Lay.own,List.nodup_cons,List.nodup_append]at Co
 have hκ : ∀ i',y.κ[i']? = some c→i'=i:=fun i' e=>(List.getElem?_inj (List.getElem?_eq_some_iff.1 e).1 Co.2.1).1 (e.trans hc.symm)
 have ne : ∀ {q:Nat} {r:List D},s.al[q]? = some r→q≠c→(s.al.set c [.int .i64 v])[q]? = some r:=fun e hn=>h.QR (o:=c) (by simp[Lay.own,iM]) _ e hn
 have nf : ∀ {q:Nat},q∉y.own→q≠c:=fun hq e=>hq (by rw[e];simp[Lay.own,iM])
 have ka : ∀ {d:D} {cs:List D},(∀ o∈d.arr,o∈y.sd.arr++y.vd.arr)→kB s d cs→kB ⟨s.al.set c [.int .i64 v],s.aA⟩ d cs:=fun hd ha=>ha.keep fun o mo=>by
  show(s.al.set c _)[o]? = _
  rw[List.getElem?_set_ne (fun e=>Co.2.2.2 c iM o (hd o mo) e)]
 obtain⟨l,hl⟩:=h.bI
 refine⟨ne h.kC (fun e=>h.xS (List.mem_append_left _ iM) e.symm),h.t0,h.t1,by rw[h.len,List.length_set],fun i' c' v' e1 e2=>?_,h.uQ,fun i' o fr e1 e2=>?_,
  ka (fun o m=>by simp[m]) h.stack,⟨l,ka (fun o m=>by simp[m]) hl⟩,h.own,fun q mq=>⟨ne (h.loc q mq).1 (nf (h.loc q mq).2),(h.loc q mq).2⟩⟩
 ·show(s.al.set c _)[c']? = _
  simp only[List.getElem?_set]at e2
  by_cases e:i=i'
  ·subst e
   rw[hc]at e1;cases e1
   rw[if_pos rfl]at e2
   split at e2
   ·cases e2;simp[ou]
   ·cases e2
  ·rw [if_neg e]at e2
   have:c'≠c:=fun ec=>e (hκ i' (by rw[e1,ec])).symm
   exact ne (h.cell i' c' v' e1 e2) this
 ·obtain⟨g1,g2,g3⟩:=h.frame i' o fr e1 e2
  exact⟨ne g1 (nf g2),g2,by simpa using g3⟩
theorem Inv.atL (h:Inv p T W y m loc s) (v:Int) (hg:p.globals.length≤m.mem.length):Inv p T W {y with κ:=y.κ++ [s.al.length]} {m with mem:=m.mem++ [v]} loc ⟨s.al++ [[.int .i64 v]],s.aA⟩:=by
 have h':=h.keep (s':=⟨s.al++ [[.int .i64 v]],s.aA⟩) (fun o r e=>by rw[List.getElem?_append_left (gX e)];exact e) rfl rfl
 have py:s.al.length∉y.own:=fun mo=>Nat.lt_irrefl _ (h.vM _ mo)
 have Co:=h.own
 have ho : ∀ o,o∈Lay.own {y with κ:=y.κ++ [s.al.length]}→o∈y.own∨o=s.al.length:=fun o mo=>by
  simp only[Lay.own,List.mem_cons,List.mem_append]at mo ⊢
  rcases mo with rfl|(mo|rfl|mo)|mo|mo
  ·exact .inl (.inl rfl)
  ·exact .inl (.inr (.inl mo))
  ·exact .inr rfl
  ·cases mo
  ·exact .inl (.inr (.inr (.inl mo)))
  ·exact .inl (.inr (.inr (.inr mo)))
 refine⟨by rw[h'.kC];simp only[gf];rw[List.take_append_of_le_length (by rw[h.len];exact hg)],h'.t0,h'.t1,by simp[h.len],fun i c v' e1 e2=>?_,h'.uQ,fun i o fr e1 e2=>?_,h'.stack,h'.bI, ?_,fun q mq=>⟨(h'.loc q mq).1,fun mo=>?_⟩⟩
 ·rcases Nat.lt_or_ge i y.κ.length with hi | hi
  ·rw [List.getElem?_append_left hi]at e1
   rw[List.getElem?_append_left (by rw[← h.len];exact hi)]at e2
   exact h'.cell i c v' e1 e2
  ·have iS:i=y.κ.length:=by
    have:=(List.getElem?_eq_some_iff.1 e1).1
    simp at this;omega
   subst iS
   rw[List.getElem?_append_right (Nat.le_refl _)]at e1
   rw[List.getElem?_append_right (by rw[h.len];exact Nat.le_refl _)]at e2
   simp at e1;subst e1
   simp[h.len]at e2;subst e2
   simp
 ·obtain⟨g1,g2,g3⟩:=h'.frame i o fr e1 e2
  refine⟨by rw[Kv (by rw[h.len];exact g3)];exact g1,fun mo=>?_,fun c mc=>by simp only[List.length_append];have:=g3 c mc;omega⟩
  rcases ho o mo with mo|rfl
  ·exact g2 mo
  ·exact absurd (gX (h.frame i _ fr e1 e2).1) (Nat.lt_irrefl _)
 ·have:(Lay.own {y with κ:=y.κ++ [s.al.length]}).Perm (s.al.length::y.own):=by
   simp only[Lay.own,List.append_assoc,List.singleton_append]
   exact(List.Perm.cons _ List.perm_middle).trans (List.Perm.swap _ _ _)
  rw[this.nodup_iff,List.nodup_cons]
  exact⟨py,Co⟩
 ·rcases ho _ mo with mo | e
  ·exact(h'.loc q mq).2 mo
  ·exact absurd (gX (h.loc q mq).1) (by rw[e];exact Nat.lt_irrefl _)
theorem Inv.TD (h:Inv p T W y m loc s) {vd:D} {s1:St} (k : ∀ (o:Nat) (r:List D),s.al[o]? = some r→o∉y.vd.arr→s1.al[o]? = some r) (hv : ∃ l:List Int,kB s1 vd (l.map sB)) (hn:vd.arr=y.vd.arr∨vd.arr = []∨vd.arr = [s.al.length]) (ht:s1.aA=s.aA) :
 Inv p T W {y with vd:=vd} m loc ⟨s1.al.set 0 (gf p T W {y with vd:=vd} m),s1.aA⟩:=by
 have Co:=h.own
 have aiq:=Co
 rw[Lay.own,List.nodup_cons,List.nodup_append,List.nodup_append]at aiq
 obtain⟨n0,nκ,⟨ns,nv,nsv⟩,NR⟩:=aiq
 have v0 : ∀ o∈y.vd.arr,o≠0:=fun o mo=>h.xS (by simp[mo])
 have sE:0<s1.al.length:=gX (k 0 _ h.kC fun mo=>v0 0 mo rfl)
 have g : ∀ {o:Nat} {r:List D},s.al[o]? = some r→o∉y.vd.arr→o≠0→(s1.al.set 0 (gf p T W {y with vd:=vd} m))[o]? = some r:=fun e hv hn=>by
  rw[List.getElem?_set_ne (Ne.symm hn)];exact k _ _ e hv
 have NS : ∀ o,o∈Lay.own {y with vd:=vd}→o∈y.own∨o=s.al.length:=fun o mo=>by
  simp only[Lay.own,List.mem_cons,List.mem_append]at mo ⊢
  rcases mo with rfl|mo|mo|mo
  ·exact .inl (.inl rfl)
  ·exact .inl (.inr (.inl mo))
  ·exact .inl (.inr (.inr (.inl mo)))
  ·rcases hn with e | e | e
   ·rw[e]at mo;exact .inl (.inr (.inr (.inr mo)))
   ·rw[e]at mo;cases mo
   ·rw[e]at mo;exact .inr (List.mem_singleton.1 mo)
 have nk : ∀ o∈y.κ,o∉y.vd.arr:=fun o mo mv=>NR o mo o (List.mem_append_right _ mv) rfl
 have nsd : ∀ o∈y.sd.arr,o∉y.vd.arr:=fun o mo mv=>nsv o mo o mv rfl
 have nfr : ∀ {o:Nat},o∉y.own→o∉y.vd.arr∧o≠0:=fun ho=>⟨fun mv=>ho (by simp[Lay.own,mv]),fun e=>ho (by rw[e];simp[Lay.own])⟩
 obtain⟨l,hl⟩:=hv
 refine⟨by simp[sE],by rw[ht];exact h.t0,by rw[ht];exact h.t1,h.len,fun i c v e1 e2=>g (h.cell i c v e1 e2) (nk c (List.mem_of_getElem? e1)) (h.xS (by simp[List.mem_of_getElem? e1])),h.uQ,fun i o fr e1 e2=>?_, ?_,⟨l, ?_⟩, ?_,fun q mq=>?_⟩
 ·obtain⟨f1,f2,f3⟩:=h.frame i o fr e1 e2
  refine⟨g f1 (nfr f2).1 (nfr f2).2,fun mo=>?_,f3⟩
  rcases NS o mo with mo|e
  ·exact f2 mo
  ·exact absurd (gX f1) (by rw[e];exact Nat.lt_irrefl _)
 ·refine h.stack.keep fun o mo=> ?_
  rw[List.getElem?_eq_getElem (h.stack.lt o mo)]
  exact g (List.getElem?_eq_getElem _) (nsd o mo) (h.xS (by simp[mo]))
 ·refine hl.keep fun o mo=> ?_
  have:o≠0:=by
   rcases hn with e|e|e
   ·rw[e]at mo;exact v0 o mo
   ·rw[e]at mo;cases mo
   ·rw[e]at mo;rw[List.mem_singleton.1 mo];have:=h.wD;omega
  show(s1.al.set 0 _)[o]? = _
  rw[List.getElem?_set_ne (Ne.symm this)]
 ·rcases hn with e | e | e
  ·simp only[Lay.own,e];exact Co
  ·simp only [Lay.own,e,List.append_nil]
   rw[List.nodup_cons,List.nodup_append]
   exact⟨fun m=>n0 (by rcases List.mem_append.1 m with m|m<;>simp[m]),nκ,ns,fun a ma b mb=>NR a ma b (List.mem_append_left _ mb)⟩
  ·simp only [Lay.own,e]
   have dA : ∀ o∈y.own,o≠s.al.length:=fun o mo e=>by have:=h.vM o mo;omega
   rw[List.nodup_cons,List.nodup_append,List.nodup_append]
   refine⟨fun m=>?_,nκ,⟨ns,by simp,fun a ma b mb=>?_⟩,fun a ma b mb=>?_⟩
   ·rcases List.mem_append.1 m with m | m
    ·exact n0 (by simp[m])
    ·rcases List.mem_append.1 m with m | m
     ·exact n0 (by simp[m])
     ·have:=List.mem_singleton.1 m;have:=h.wD;omega
   ·rw[List.mem_singleton.1 mb];exact dA a (by simp[Lay.own,ma])
   ·rcases List.mem_append.1 mb with mb | mb
    ·exact NR a ma b (List.mem_append_left _ mb)
    ·rw[List.mem_singleton.1 mb];exact dA a (by simp[Lay.own,ma])
 ·obtain⟨f1,f2⟩:=h.loc q mq
  refine⟨g f1 (nfr f2).1 (nfr f2).2,fun mo=>?_⟩
  rcases NS q.1 mo with mo|e
  ·exact f2 mo
  ·exact absurd (gX f1) (by rw[e];exact Nat.lt_irrefl _)
end
end Go.Abs
namespace Go.Abs
set_option maxRecDepth 8000
open Go.Proofs
theorem TE (b:Bool) (s:St):aH Tryz.prog kr [.bool b] s (.int .i64 (uP b)) s:=by
 refine aH.pure ?_ rfl rfl s
 generalize h:uP b=R
 simp only[uP]at h
 unfold S0
 refine aH.go M3 rfl fun B Q hB hQ=>?_
 have⟨hD,hZ,gA,gB⟩:=bX
 repeat' (first
 |simp only[go_sem,hD,hZ,gA,gB]
 |(with_reducible first|refine bt fun hc=>?_|refine bu fun hc=>?_|refine bx (fun hc=>?_) fun hc=>?_)<;>(try simp only[hc,bs,↓reduceIte]at h)<;>try simp only[hc]
 |(with_reducible refine aI hQ ?_;exact fS)
 |(cases h;done))
theorem aeB (a:Int) (s:St):aH Tryz.prog tr [.int .i64 a] s (.bool (!(a==0))) s:=by
 refine aH.pure ?_ rfl rfl s
 have e:(a != 0) = !(a==0):=rfl
 unfold S0
 refine aH.go I2 rfl fun B Q hB hQ=>?_
 have⟨hD,hZ,gA,gB⟩:=bX
 repeat' (first
 |simp only[go_sem,hD,hZ,gA,gB,e]
 |(with_reducible first|refine bt fun hc=>?_|refine bu fun hc=>?_|refine bx (fun hc=>?_) fun hc=>?_)<;>(try simp only[hc,bs,↓reduceIte]at h)<;>try simp only[hc]
 |(with_reducible refine aI hQ ?_;(try cases h);simp only[bh,bj,bP,bQ,go_sem,hD,hZ,gA,gB,e];try exact cO)
 |(cases h;done))
abbrev BT (r:Int×Bool):D:= .tuple [.int .i64 r.1, .bool r.2]
theorem amh (op a:Int) (s:St):aH Tryz.prog Bm [.int .i64 op, .int .i64 a] s (BT (Tr op a)) s:=by
 refine aH.pure ?_ rfl rfl s
 generalize h:Tr op a=R
 simp only[Tr,HM]at h
 unfold S0
 refine aH.go MY rfl fun B Q hB hQ=>?_
 have⟨hD,hZ,gA,gB⟩:=bX
 repeat' (first
 |simp only[go_sem,hD,hZ,gA,gB]
 |(with_reducible refine CU (TE _ _) ?_)
 |(with_reducible first|refine bt fun hc=>?_|refine bu fun hc=>?_|refine bx (fun hc=>?_) fun hc=>?_)<;>(try simp only[hc,bs,↓reduceIte]at h)<;>try simp only[hc]
 |(with_reducible refine aI hQ ?_;exact fS)
 |(cases h;done))
theorem ZX (op a b:Int) (s:St):aH Tryz.prog we [.int .i64 op, .int .i64 a, .int .i64 b] s (BT (Ts op a b)) s:=by
 refine aH.pure ?_ rfl rfl s
 generalize h:Ts op a b=R
 simp only[Ts,HM]at h
 unfold S0
 rcases Bool.eq_false_or_eq_true (b==0)with b0|b0
 ·refine aH.go yG rfl fun B Q hB hQ=> ?_
  have⟨hD,hZ,gA,gB⟩:=bX
  repeat' (first
 |simp only[go_sem,hD,hZ,gA,gB]
 |(with_reducible first|refine bt fun hc=>?_|refine bu fun hc=>?_|refine bx (fun hc=>?_) fun hc=>?_)<;>(try simp only[hc,bs,↓reduceIte]at h)<;>try simp only[hc]
 |(with_reducible refine aI hQ ?_;exact fS)
 |(cases h;done))
 ·have hb:b≠0:=by simpa using b0
  refine aH.go yG rfl fun B Q hB hQ=>?_
  have⟨hD,hZ,gA,gB⟩:=bX
  repeat' (first
 |simp only[go_sem,hD,hZ,gA,gB,hb]
 |(with_reducible first|refine bt fun hc=>?_|refine bu fun hc=>?_|refine bx (fun hc=>?_) fun hc=>?_)<;>(try simp only[hc,bs,↓reduceIte]at h)<;>try simp only[hc]
 |(with_reducible refine aI hQ ?_;(try cases h);simp only[bh,bj,bP,bQ,go_sem,hD,hZ,gA,gB,hb];try exact cO)
 |(cases h;done))
theorem WM (op a b:Int) (s:St):aH Tryz.prog uI [.int .i64 op, .int .i64 a, .int .i64 b] s (BT (Tt op a b)) s:=by
 refine aH.pure ?_ rfl rfl s
 have e:(a != b) = !(a==b):=rfl
 generalize h:Tt op a b=R
 simp only[Tt]at h
 unfold S0
 refine aH.go FY rfl fun B Q hB hQ=>?_
 have⟨hD,hZ,gA,gB⟩:=bX
 repeat' (first
 |simp only[go_sem,hD,hZ,gA,gB,e]
 |(with_reducible refine CU (TE _ _) ?_)
 |(with_reducible first|refine bt fun hc=>?_|refine bu fun hc=>?_|refine bx (fun hc=>?_) fun hc=>?_)<;>(try simp only[hc,bs,↓reduceIte]at h)<;>try simp only[hc]
 |(with_reducible refine aI hQ ?_;(try cases h);simp only[bh,bj,bP,bQ,go_sem,hD,hZ,gA,gB,e];try exact cO)
 |(cases h;done))
theorem ami (op a b:Int) (s:St):aH Tryz.prog Bn [.int .i64 op, .int .i64 a, .int .i64 b] s (BT (Tv op a b)) s:=by
 refine aH.pure ?_ rfl rfl s
 have e1:(a != 0) = !(a==0):=rfl
 have e2:(b != 0) = !(b==0):=rfl
 generalize h:Tv op a b=R
 simp only[Tv,HM]at h
 unfold S0
 refine aH.go MZ rfl fun B Q hB hQ=>?_
 have⟨hD,hZ,gA,gB⟩:=bX
 repeat' (first
 |simp only[go_sem,hD,hZ,gA,gB,e1,e2]
 |(with_reducible refine CU (TE _ _) ?_)
 |(with_reducible refine CU (ZX _ _ _ _) ?_)
 |(with_reducible refine CU (WM _ _ _ _) ?_)
 |(with_reducible first|refine bt fun hc=>?_|refine bu fun hc=>?_|refine bx (fun hc=>?_) fun hc=>?_)<;>(try simp only[hc,bs,↓reduceIte]at h)<;>try simp only[hc]
 |(with_reducible refine aI hQ ?_;(try cases h);simp only[bh,bj,bP,bQ,go_sem,hD,hZ,gA,gB,e1,e2];try exact cO)
 |(cases h;done))
def xU (x:Int) (k:Int):List Int→Int
 | []=> -1
 |s::l=>if x==s then k else xU x (k+1) l
theorem Qn (x:Int) : ∀ (l:List Int) (k:Int),0≤k→(xU x k l≥0↔l.contains x=true)
 | [],k,h=>by simp[xU]
 | s::l,k,h=>by
  by_cases e:x=s
  ·simp[xU,e];omega
  ·have e':(x==s)=false:=by simp [e]
   simp only[xU,e',Bool.false_eq_true,if_false,List.contains_cons,Bool.false_or]
   exact Qn x l (k+1) (by omega)
theorem ZY {l:List Int} (hl:l.length<4611686018427387904) (x:Int) (s:St):aH Tryz.prog qF [.slice .shared 1 (l.map cR), .int .i64 x] s (.int .i64 (xU x 0 l)) s:=by
 refine aH.pure ?_ (by simp[D.bM,D.ok,Tag.ok,jH]) rfl s
 generalize h:xU x 0 l=p
 unfold S0
 refine aH.go Bu rfl fun B Q hB hQ=>?_
 have⟨hD,hZ,gA,gB⟩:=bX
 repeat' (first
 |simp only[go_sem,hD,hZ,gA,gB]
 |(with_reducible first|refine bt fun hc=>?_|refine bu fun hc=>?_|refine bx (fun hc=>?_) fun hc=>?_)<;>(try simp only[hc,bs,↓reduceIte]at h)<;>try simp only[hc]
 |(with_reducible refine aI hQ ?_;exact fS)
 |(cases h;done))
 refine fG 0 0 (bp.ind (ι:=List Int×Nat) (fun i=>l.drop i.2=i.1∧xU x (i.2:Int) i.1=p) (fun i=>i.1.length)
  (fun i=> [(0, .slice .shared 1 (l.map cR)),(1, .int .i64 x),(7, .int .i64 (l.length:Int)),(8, .int .i64 (i.2:Int))]) (fun i=>⟨[],[]⟩) ?_ (l,0) ⟨rfl,h⟩)
 rintro⟨rest,k⟩ ⟨h1,h⟩ IH
 dsimp only at h1 h
 cases rest with
 |nil=>
  have hD:=drop_nil h1
  simp only[xU]at h
  repeat' (first
 |simp only[go_sem,hD,hZ,gA,gB]
 |(with_reducible first|refine bt fun hc=>?_|refine bu fun hc=>?_|refine bx (fun hc=>?_) fun hc=>?_)<;>(try simp only[hc,bs,↓reduceIte]at h)<;>try simp only[hc]
 |(with_reducible refine aI hQ ?_;exact fS)
 |(cases h;done))
 |cons a rest=>
  obtain⟨hZ,g2,hD,g4⟩:=drop_cons h1
  have cu:k<4611686018427387904:=by omega
  simp only[xU]at h
  repeat' (first
 |simp only[go_sem,hD,hZ,gA,gB]
 |(with_reducible first|refine bt fun hc=>?_|refine bu fun hc=>?_|refine bx (fun hc=>?_) fun hc=>?_)<;>(try simp only[hc,bs,↓reduceIte]at h)<;>try simp only[hc]
 |(with_reducible refine aI hQ ?_;exact fS)
 |(cases h;done))
  refine fi 0 0 ?_ ?_ (IH (rest,k+1) ⟨g2,h⟩ (Nat.lt_succ_self _))
  ·(simp only[go_sem,hD,hZ,gA,gB,aN cu];try exact bY)
  ·(simp only[go_sem,hD,hZ,gA,gB,aN cu];try exact bY)
theorem Pq {l:List Int} (hl:l.length<4611686018427387904) (x:Int) (s:St):aH Tryz.prog oD [.slice .shared 1 (l.map cR), .int .i64 x] s (.bool (l.contains x)) s:=by
 refine aH.pure ?_ (by simp[D.bM,D.ok,Tag.ok,jH]) rfl s
 have hi:=fun s=>ZY hl x s
 have e:decide (xU x 0 l≥0)=l.contains x:=by
  have:=Qn x l 0 (Int.le_refl 0)
  cases h:l.contains x<;>simp_all
 unfold S0
 refine aH.go ye rfl fun B Q hB hQ=>?_
 have⟨hD,hZ,gA,gB⟩:=bX
 repeat' (first
 |simp only[go_sem,hD,hZ,gA,gB,e]
 |(with_reducible refine CU (hi _) ?_)
 |(with_reducible first|refine bt fun hc=>?_|refine bu fun hc=>?_|refine bx (fun hc=>?_) fun hc=>?_)<;>(try simp only[hc,bs,↓reduceIte]at h)<;>try simp only[hc]
 |(with_reducible refine aI hQ ?_;(try cases h);simp only[bh,bj,bP,bQ,go_sem,hD,hZ,gA,gB,e];try exact cO)
 |(cases h;done))
theorem om (names:List aK) (bI:List Int) (op n:Int) (name:aK) (kids:List Ex):Ex.val names bI ⟨op,n,name,kids⟩=if op==1 then(n,true)else if op==2 then(Tw name names bI,true)else HN op (kids.map (Ex.val names bI)):=by
 have e : ∀ l:List Ex,Ex.Nv names bI l=l.map (Ex.val names bI):=fun l=>by
  induction l with
  |nil=>rfl
  |cons x l ih=>simp only[Ex.Nv,List.map_cons,ih]
 simp only[Ex.val,e]
theorem air {names:List aK} {bI:List Int} (hn:names.length<4611686018427387904) (hv:bI.length<4611686018427387904) : ∀ (n:Nat) (x:Ex),x.dp (n:Int)=true→
 aH Tryz.prog l8 [.agg (cb x), .slice .shared 1 (names.map encStr), .slice .shared 1 (bI.map cR)] S0 (BT (x.val names bI)) S0:=by
 intro n
 induction n with
 |zero=>rintro⟨op,v,name,kids⟩ h;rw[Nd]at h;omega
 | succ n ih=>
  rintro⟨op,v,name,kids⟩ h
  rw[Nd]at h
  obtain⟨_,hk,h⟩:=h
  have Nj:=fun s=>Ew hn name s
  generalize hR:Ex.val names bI ⟨op,v,name,kids⟩=R
  rw[om]at hR
  unfold S0
  by_cases o1:op=1
  ·subst o1
   simp only[beq_self_eq_true,if_true]at hR
   rw[← hR]
   show aH Tryz.prog l8 _ _ (.tuple [.int .i64 v, .bool true]) _
   refine aH.go pY rfl fun B Q hB hQ=>?_
   have⟨hD,hZ,gA,gB⟩:=bX
   repeat' (first
 |simp only[go_sem,hD,hZ,gA,gB,beq_self_eq_true]
 |(with_reducible first|refine bt fun hc=>?_|refine bu fun hc=>?_|refine bx (fun hc=>?_) fun hc=>?_)<;>(try simp only[hc,bs,↓reduceIte]at h)<;>try simp only[hc]
 |(with_reducible refine aI hQ ?_;(try cases h);simp only[bh,bj,bP,bQ,go_sem,hD,hZ,gA,gB,beq_self_eq_true];try exact cO)
 | (cases h;done))
  rw[if_neg o1]at h
  have b1:(op==1)=false:=by simp[o1]
  by_cases o2:op=2
  ·subst o2
   simp only[b1,Bool.false_eq_true,if_false,beq_self_eq_true,if_true,Tw]at hR
   by_cases hi:jV name 0 names≥0
   ·obtain⟨j,hj⟩:=Int.eq_ofNat_of_zero_le hi
    rw[if_pos hi]at hR
    have b2:decide (jV name 0 names≥0)=true:=by simpa using hi
    rw[hj]at b2 hR
    rw[hj]at Nj
    rcases Nat.lt_or_ge j bI.length with hl|hl
    ·have b3:decide ((j:Int)<(bI.length:Int))=true:=by simp [hl]
     have hg:bI[j]? = some (bI.getD j 0):=by rw[List.getD_eq_getElem?_getD,List.getElem?_eq_getElem hl];rfl
     rw[Int.toNat_natCast]at hR
     rw[← hR]
     show aH Tryz.prog l8 _ _ (.tuple [.int .i64 (bI.getD j 0), .bool true]) _
     refine aH.go pY rfl fun B Q hB hQ=>?_
     have⟨hD,hZ,gA,gB⟩:=bX
     repeat' (first
 |simp only[go_sem,hD,hZ,gA,gB,b1,b2,b3,hg,beq_self_eq_true,decide_true]
 |(with_reducible refine CU (Nj _) ?_)
 |(with_reducible first|refine bt fun hc=>?_|refine bu fun hc=>?_|refine bx (fun hc=>?_) fun hc=>?_)<;>(try simp only[hc,bs,↓reduceIte]at h)<;>try simp only[hc]
 |(with_reducible refine aI hQ ?_;(try cases h);simp only[bh,bj,bP,bQ,go_sem,hD,hZ,gA,gB,b1,b2,b3,hg,beq_self_eq_true,decide_true];try exact cO)
 | (cases h;done))
    ·have b3:decide ((j:Int)<(bI.length:Int))=false:=by simp;omega
     rw[Int.toNat_natCast,List.getD_eq_getElem?_getD,List.getElem?_eq_none hl,Option.getD_none]at hR
     rw[← hR]
     show aH Tryz.prog l8 _ _ (.tuple [.int .i64 0, .bool true]) _
     refine aH.go pY rfl fun B Q hB hQ=>?_
     have⟨hD,hZ,gA,gB⟩:=bX
     repeat' (first
 |simp only[go_sem,hD,hZ,gA,gB,b1,b2,b3,beq_self_eq_true,decide_true]
 |(with_reducible refine CU (Nj _) ?_)
 |(with_reducible first|refine bt fun hc=>?_|refine bu fun hc=>?_|refine bx (fun hc=>?_) fun hc=>?_)<;>(try simp only[hc,bs,↓reduceIte]at h)<;>try simp only[hc]
 |(with_reducible refine aI hQ ?_;(try cases h);simp only[bh,bj,bP,bQ,go_sem,hD,hZ,gA,gB,b1,b2,b3,beq_self_eq_true,decide_true];try exact cO)
 | (cases h;done))
   ·rw [if_neg hi]at hR
    have b2:decide (jV name 0 names≥0)=false:=by simpa using hi
    rw[← hR]
    show aH Tryz.prog l8 _ _ (.tuple [.int .i64 0, .bool true]) _
    refine aH.go pY rfl fun B Q hB hQ=>?_
    have⟨hD,hZ,gA,gB⟩:=bX
    repeat' (first
 |simp only[go_sem,hD,hZ,gA,gB,b1,b2,beq_self_eq_true]
 |(with_reducible refine CU (Nj _) ?_)
 |(with_reducible first|refine bt fun hc=>?_|refine bu fun hc=>?_|refine bx (fun hc=>?_) fun hc=>?_)<;>(try simp only[hc,bs,↓reduceIte]at h)<;>try simp only[hc]
 |(with_reducible refine aI hQ ?_;(try cases h);simp only[bh,bj,bP,bQ,go_sem,hD,hZ,gA,gB,b1,b2,beq_self_eq_true];try exact cO)
 | (cases h;done))
  rw[if_neg o2]at h
  have b2:(op==2)=false:=by simp[o2]
  simp only[b1,b2,Bool.false_eq_true,if_false]at hR
  have hd:=h.2.2
  rw[show((n+1:Nat):Int) - 1=(n:Int) by omega]at hd
  have ihs : ∀ {y:Ex},y∈kids→∀ s,aH Tryz.prog l8 [.agg (cb y), .slice .shared 1 (names.map encStr), .slice .shared 1 (bI.map cR)] s (BT (y.val names bI)) s:=fun {y} hy s=>by
   have:y.dp (n:Int)=true:=by
    have key : ∀ l:List Ex,Ex.DH (n:Int) l=true→y∈l→y.dp (n:Int)=true:=fun l=>by
     induction l with
     |nil=>intro _ m;cases m
     | cons z l Wt=>
      intro hz m
      simp only[Ex.DH]at hz
      split at hz
      ·cases hz
      ·rename_i hz'
       rcases List.mem_cons.1 m with rfl|m
       ·simpa using hz'
       ·exact Wt hz m
    exact key kids hd hy
   exact aH.pure (ih y this) (by simp[D.bM,D.ok,Tag.ok,lx,fI,jH]) rfl s
  clear h Nj
  have n1:((1:Nat):Int)=1:=rfl
  have e1:((1:Int)==1)=true:=rfl
  have e2:((2:Int)==1)=false:=rfl
  rename _=R=>h
  cases kids with
  |nil=>simp[pR]at hk;omega
  | cons a kids=>
   have c1:=fun s=>ihs (y:=a) (by simp) s
   cases kids with
   |nil=>
    simp only[List.map_cons,List.map_nil,HN]at h
    refine aH.go pY rfl fun B Q hB hQ=>?_
    have⟨hD,hZ,gA,gB⟩:=bX
    repeat' (first
 |simp only[go_sem,hD,hZ,gA,gB,b1,b2,e1]
 |(with_reducible refine CU (c1 _) ?_)
 |(with_reducible refine CU (amh _ _ _) ?_)
 |(with_reducible first|refine bt fun hc=>?_|refine bu fun hc=>?_|refine bx (fun hc=>?_) fun hc=>?_)<;>(try simp only[hc,bs,↓reduceIte]at h)<;>try simp only[hc]
 |(with_reducible refine aI hQ ?_;(try cases h);simp only[bh,bj,bP,bQ,go_sem,hD,hZ,gA,gB,b1,b2,e1];try exact cO)
 | (cases h;done))
   | cons b kids=>
    cases kids with
    |nil=>
     have c2:=fun s=>ihs (y:=b) (by simp) s
     have e3 : [cb a,cb b][Int.toNat 1]? = some (cb b):=rfl
     simp only[List.map_cons,List.map_nil,HN]at h
     refine aH.go pY rfl fun B Q hB hQ=>?_
     have⟨hD,hZ,gA,gB⟩:=bX
     repeat' (first
 |simp only[go_sem,hD,hZ,gA,gB,b1,b2,e2,e3]
 |(with_reducible refine CU (c1 _) ?_)
 |(with_reducible refine CU (c2 _) ?_)
 |(with_reducible refine CU (aeB _ _) ?_)
 |(with_reducible refine CU (ami _ _ _ _) ?_)
 |(with_reducible first|refine bt fun hc=>?_|refine bu fun hc=>?_|refine bx (fun hc=>?_) fun hc=>?_)<;>(try simp only[hc,bs,↓reduceIte]at h)<;>try simp only[hc]
 |(with_reducible refine aI hQ ?_;(try cases h);simp only[bh,bj,bP,bQ,go_sem,hD,hZ,gA,gB,b1,b2,e2,e3];try exact cO)
 | (cases h;done))
    |cons c kids=>simp[pR]at hk;omega
theorem ZZ {x:Ex} {names:List aK} {bI:List Int} (hx:x.size<4611686018427387904) (ht:x.texts) (hn:names.length<4611686018427387904) (hv:bI.length<4611686018427387904) (s:St) :
 aH Tryz.prog yB [.agg (cb x), .slice .shared 1 (names.map encStr), .slice .shared 1 (bI.map cR)] s (BT (x.bg names bI)) s:=by
 refine aH.pure ?_ (by simp[D.bM,D.ok,Tag.ok,lx,fI,jH]) rfl s
 have hm:=fun s=>Bx hx ht s
 rw[Hw]at hm
 generalize h:x.bg names bI=R
 simp only[Ex.bg]at h
 unfold S0
 rcases Bool.eq_false_or_eq_true x.may with b|b
 ·rw [if_pos b]at h
  have c1:=fun s=>aH.pure (air hn hv 20 x (by rw[show((20:Nat):Int)=20 from rfl,Hw];exact b)) (by simp[D.bM,D.ok,Tag.ok,lx,fI,jH]) rfl s
  rw[h]at c1
  refine aH.go Fh rfl fun B Q hB hQ=>?_
  have⟨hD,hZ,gA,gB⟩:=bX
  repeat' (first
 |simp only[go_sem,hD,hZ,gA,gB,b]
 |(with_reducible refine CU (hm _) ?_)
 |(with_reducible refine CU (c1 _) ?_)
 |(with_reducible first|refine bt fun hc=>?_|refine bu fun hc=>?_|refine bx (fun hc=>?_) fun hc=>?_)<;>(try simp only[hc,bs,↓reduceIte]at h)<;>try simp only[hc]
 |(with_reducible refine aI hQ ?_;(try cases h);simp only[bh,bj,bP,bQ,go_sem,hD,hZ,gA,gB,b];try exact cO)
 |(cases h;done))
 ·rw [if_neg (by simp [b])]at h
  refine aH.go Fh rfl fun B Q hB hQ=>?_
  have⟨hD,hZ,gA,gB⟩:=bX
  repeat' (first
 |simp only[go_sem,hD,hZ,gA,gB,b]
 |(with_reducible refine CU (hm _) ?_)
 |(with_reducible first|refine bt fun hc=>?_|refine bu fun hc=>?_|refine bx (fun hc=>?_) fun hc=>?_)<;>(try simp only[hc,bs,↓reduceIte]at h)<;>try simp only[hc]
 |(with_reducible refine aI hQ ?_;(try cases h);simp only[bh,bj,bP,bQ,go_sem,hD,hZ,gA,gB,b];try exact cO)
 |(cases h;done))
theorem pI {size bytes:Nat} {rows:List (List D)} (h:rows≠ []) (hl:rows.length*(bytes+1)≤bq) {z:Nat} {g:Tag} (o:List (List D)) (T:List (Option Nat)) :
 jo size bytes (.slice .full z []) (.slice g size rows) ⟨o,T⟩=some (.slice (.tok T.length) size rows,⟨o,T++ [some rows.length]⟩):=by
 cases rows with
 |nil=>exact absurd rfl h
 |cons x r=>simp only[List.length_cons]at hl;simp[jo,hl]
theorem qR {size bytes z z':Nat} {g:Tag} (o:List (List D)) (T:List (Option Nat)) :
 jo size bytes (.slice .full z []) (.slice g z' []) ⟨o,T⟩=some (.slice .full z [],⟨o,T⟩):=by simp[jo,bq]
theorem q9 {l:List aK} (hl:l.length≤10000000) (s:St):aH Tryz.prog oE [.slice .shared 1 (l.map encStr)] s (.slice .shared 1 (l.map encStr)) s:=by
 refine aH.pure ?_ (by simp[D.bM,D.ok,fI,Tag.ok]) (by rw[D.ok,fI];rfl) s
 unfold S0
 cases l with
 |nil=>
  simp only[List.map_nil]
  have ha:=fun o T=>qR (size:=1) (bytes:=16) (z:=0) (z':=1) (g:= .shared) o T
  refine aH.go AN rfl fun B Q hB hQ=>?_
  have⟨hD,hZ,gA,gB⟩:=bX
  repeat' (first
 |simp only[go_sem,hD,hZ,gA,gB,ha]
 |(with_reducible first|refine bt fun hc=>?_|refine bu fun hc=>?_|refine bx (fun hc=>?_) fun hc=>?_)<;>(try simp only[hc,bs,↓reduceIte]at h)<;>try simp only[hc]
 |(with_reducible refine aI hQ ?_;(try cases h);simp only[bh,bj,bP,bQ,go_sem,hD,hZ,gA,gB,ha];try exact cO)
 |(cases h;done))
 |cons x l=>
  have ha:=fun o T=>pI (size:=1) (bytes:=16) (rows:=(x::l).map encStr) (by simp) (by simp only[List.length_map];unfold bq;omega) (z:=0) (g:= .shared) o T
  have hf:=MD 0 0 (x::l)
  generalize (x::l).map encStr=R at *
  refine aH.go AN rfl fun B Q hB hQ=>?_
  have⟨hD,hZ,gA,gB⟩:=bX
  repeat' (first
 |simp only[go_sem,hD,hZ,gA,gB,ha,hf]
 |(with_reducible first|refine bt fun hc=>?_|refine bu fun hc=>?_|refine bx (fun hc=>?_) fun hc=>?_)<;>(try simp only[hc,bs,↓reduceIte]at h)<;>try simp only[hc]
 |(with_reducible refine aI hQ ?_;(try cases h);simp only[bh,bj,bP,bQ,go_sem,hD,hZ,gA,gB,ha,hf];try exact cO)
 |(cases h;done))
theorem TF : ∀ n,n<1073741824→∀ x:Ex,x.size≤n→aH Tryz.prog kp [.agg (cb x)] S0 (.agg (cb x)) S0:=by
 intro n
 induction n with
 |zero=>rintro _ ⟨op,m,name,kids⟩ h;simp only[Ex.size]at h;omega
 |succ n ihn=>
 rintro hn ⟨op,m,name,kids⟩ hx
 have hk : ∀ y∈kids,∀ s,aH Tryz.prog kp [.agg (cb y)] s (.agg (cb y)) s:=fun y hy s=>
  (ihn (by omega) y (by simp only[Ex.size]at hx;have:=Ex.da hy;omega)).pure (by simp[D.bM,D.ok,lx]) (by simp[D.ok,lx]) s
 have hlen:kids.length<1073741824:=by simp only[Ex.size]at hx;have:=Ex.dQ kids;omega
 unfold S0
 refine aH.go E0 rfl fun B Q hB hQ=>?_
 have⟨hD,hZ,gA,gB⟩:=bX
 repeat' (first
 |simp only[go_sem,hD,hZ,gA,gB]
 |(with_reducible first|refine bt fun hc=>?_|refine bu fun hc=>?_|refine bx (fun hc=>?_) fun hc=>?_)<;>(try simp only[hc,bs,↓reduceIte]at h)<;>try simp only[hc]
 |(with_reducible refine aI hQ ?_;exact fS)
 |(cases h;done))
 refine bp.zz 2 3 4 rfl rfl ?_
 simp only[go_sem,hD,hZ,gA,gB]
 refine fG 3 1 (bp.ind (ι:=List Ex×Nat×List Ex) (fun i=>kids.drop i.2.1=i.1∧i.2.1=i.2.2.length∧i.2.2++i.1=kids) (fun i=>i.1.length)
  (fun i=> [(1, .ptr 0 0),(2, .ptr 1 0),(3, .ptr 2 0),(14, .int .i64 (kids.length:Int)),(15, .int .i64 (i.2.1:Int))])
  (fun i=>⟨[cb ⟨op,m,name,kids⟩,cb rk,[.int .i64 op, .int .i64 m, .str name, .slice (.tok 0) 4 (i.2.2.map cb)]],[some i.2.1]⟩) ?_ (kids,0,[]) ⟨rfl,rfl,rfl⟩)
 rintro⟨rest,k,acc⟩ ⟨h1,h2,h3⟩ IH
 dsimp only at h1 h2 h3
 subst h2
 cases rest with
 |nil=>
  have hD:=drop_nil h1
  simp only[List.append_nil]at h3
  subst h3
  repeat' (first
 |simp only[go_sem,hD,hZ,gA,gB]
 |(with_reducible first|refine bt fun hc=>?_|refine bu fun hc=>?_|refine bx (fun hc=>?_) fun hc=>?_)<;>(try simp only[hc,bs,↓reduceIte]at h)<;>try simp only[hc]
 |(with_reducible refine aI hQ ?_;exact fS)
 |(cases h;done))
 |cons y rest=>
  obtain⟨hZ,g2,hD,g4⟩:=drop_cons h1
  have ic:(acc.length+1)*57≤bq:=by simp only[bq];omega
  have hy:=hk y (List.mem_of_getElem? hZ)
  have w1:IntKind.wrap .i64 ((acc.length:Int)+1)=((acc.length+1:Nat):Int):=by rw[eB]<;>omega
  repeat' (first
 |simp only[go_sem,hD,hZ,gA,gB,ic,w1]
 |(with_reducible refine CU (hy _) ?_)
 |(with_reducible first|refine bt fun hc=>?_|refine bu fun hc=>?_|refine bx (fun hc=>?_) fun hc=>?_)<;>(try simp only[hc,bs,↓reduceIte]at h)<;>try simp only[hc]
 |(with_reducible refine aI hQ ?_;(try cases h);simp only[bh,bj,bP,bQ,go_sem,hD,hZ,gA,gB,ic,w1];try exact cO)
 |(cases h;done))
  refine fG 3 1 (IH (rest,acc.length+1,acc++ [y]) ⟨g2,by simp,by rw[← h3];simp⟩ (Nat.lt_succ_self _))
theorem HZ {x:Ex} (h:x.size<1073741824) (s:St):aH Tryz.prog kp [.agg (cb x)] s (.agg (cb x)) s:=
 (TF x.size h x (Nat.le_refl _)).pure (by simp[D.bM,D.ok,lx]) (by simp[D.ok,lx]) s
def Sm.bare (v:Sm):Sm:= {v with aP:= [],aM:= []}
theorem D0 {v:Sm} (hv:v.labels.length+v.x.size+Ar.a7 v.args<10000000) (s:St):aH Tryz.prog oB [.agg (bd v)] s (.agg (bd v.bare)) s:=by
 refine aH.pure ?_ (by simp[D.bM,D.ok,pz]) (by simp[D.ok,pz]) s
 obtain⟨id,kind,labels,name,proc,x,has,args,aP,aM⟩:=v
 dsimp only at hv
 have sJ:=Ar.dQ args
 have hx:=fun s=>HZ (x:=x) (by omega) s
 simp only[jh]at hx
 have hL:=fun s=>q9 (l:=labels) (by omega) s
 unfold Sm.bare
 unfold S0
 refine aH.go FZ rfl fun B Q hB hQ=>?_
 have⟨hD,hZ,gA,gB⟩:=bX
 repeat' (first
 |simp only[go_sem,hD,hZ,gA,gB]
 |(with_reducible refine CU (hL _) ?_)
 |(with_reducible refine CU (hx _) ?_)
 |(with_reducible first|refine bt fun hc=>?_|refine bu fun hc=>?_|refine bx (fun hc=>?_) fun hc=>?_)<;>(try simp only[hc,bs,↓reduceIte]at h)<;>try simp only[hc]
 |(with_reducible refine aI hQ ?_;exact fS)
 |(cases h;done))
 refine bp.zz 2 10 6 rfl rfl ?_
 simp only[go_sem,hD,hZ,gA,gB]
 refine fG 3 1 (bp.ind (ι:=List Ar×Nat×List Ar) (fun i=>args.drop i.2.1=i.1∧i.2.1=i.2.2.length∧i.2.2++i.1=args) (fun i=>i.1.length)
  (fun i=> [(1, .ptr 0 0),(2, .ptr 1 0),(3, .ptr 2 0),(24, .slice .shared 6 (args.map fc)),(25, .int .i64 (args.length:Int)),(26, .int .i64 (i.2.1:Int))])
  (fun i=>⟨[bd ⟨id,kind,labels,name,proc,x,has,args,aP,aM⟩,bd JP,[.int .i64 id, .int .i64 kind, .slice .shared 1 (labels.map encStr), .str name, .str proc, .int .i64 x.op, .int .i64 x.n, .str x.name, .slice .shared 4 (x.kids.map cb), .bool has, .slice (.tok 0) 6 (i.2.2.map fc), .slice .full 0 [], .slice .full 0 []]],[some i.2.1]⟩) ?_ (args,0,[]) ⟨rfl,rfl,rfl⟩)
 rintro⟨TG,ka,TH⟩ ⟨j1,j2,j3⟩ IHa
 dsimp only at j1 j2 j3
 subst j2
 cases TG with
 |nil=>
  have hD:=drop_nil j1
  simp only[List.append_nil]at j3
  subst j3
  repeat' (first
 |simp only[go_sem,hD,hZ,gA,gB,dM,List.map_nil]
 |(with_reducible first|refine bt fun hc=>?_|refine bu fun hc=>?_|refine bx (fun hc=>?_) fun hc=>?_)<;>(try simp only[hc,bs,↓reduceIte]at h)<;>try simp only[hc]
 |(with_reducible refine aI hQ ?_;(try cases h);simp only[bh,bj,bP,bQ,go_sem,hD,hZ,gA,gB,dM,List.map_nil];try exact cO)
 |(cases h;done))
 |cons c TG=>
  obtain⟨hZ,g2,hD,g4⟩:=drop_cons j1
  have ha:c.x.size<1073741824:=by have:=Ar.da (List.mem_of_getElem? hZ);omega
  have JH:TH.length<4611686018427387904:=by omega
  have WN:(TH.length+1)*81≤bq:=by simp only[bq];omega
  have hxa:=fun s=>HZ ha s
  simp only[jh]at hxa
  obtain⟨atM,amj,ax⟩:=c
  repeat' (first
 |simp only[go_sem,hD,hZ,gA,gB,WN]
 |(with_reducible refine CU (hxa _) ?_)
 |(with_reducible first|refine bt fun hc=>?_|refine bu fun hc=>?_|refine bx (fun hc=>?_) fun hc=>?_)<;>(try simp only[hc,bs,↓reduceIte]at h)<;>try simp only[hc]
 |(with_reducible refine aI hQ ?_;(try cases h);simp only[bh,bj,bP,bQ,go_sem,hD,hZ,gA,gB,WN];try exact cO)
 |(cases h;done))
  refine fi 3 1 ?_ ?_ (IHa (TG,TH.length+1,TH++ [⟨atM,amj,ax⟩]) ⟨g2,by simp,by rw[← j3];simp⟩ (Nat.lt_succ_self _))
  ·(simp only[go_sem,hD,hZ,gA,gB,aN JH];try exact bY)
  ·(simp only[go_sem,hD,hZ,gA,gB,aN JH];try exact bY)
theorem aH.amk {P:Program} {f:FuncId} {args:List D} {z k:Nat} {rows:List (List D)} (h:aH P f args S0 (.slice (.tok 0) z rows) ⟨[],[some k]⟩) (ha:D.bM 0 0 args=true) (hr:D.jb 0 0 rows=true) (s:St) :
 aH P f args s (.slice (.tok s.aA.length) z rows) ⟨s.al,s.aA++ [some k]⟩:=by
 refine bV.frame [] [] h List.nodup_nil List.nodup_nil (by simp) (by simp) rfl (by simp) rfl (by simp) (by rw[fV _ _ _ ha]) ha ?_
 rintro _ _ ⟨rfl,rfl⟩
 refine⟨by simp[D.back,D.cU,Tag.cU,kE,jY _ _ _ hr], ?_⟩
 simp[St.back,lq]
theorem TI (g:Tag) (z:Nat) (s:St):aH Tryz.prog lF [.slice g z []] s (.slice .full 1 []) s:=by
 refine bV.qA (.cons (Wk.nil _ _ 1) .nil) (aH.pure ?_ rfl rfl s)
 unfold S0
 refine aH.go rm rfl fun B Q hB hQ=>?_
 have⟨hD,hZ,gA,gB⟩:=bX
 repeat' (first
 |simp only[go_sem,hD,hZ,gA,gB]
 |(with_reducible first|refine bt fun hc=>?_|refine bu fun hc=>?_|refine bx (fun hc=>?_) fun hc=>?_)<;>(try simp only[hc,bs,↓reduceIte]at h)<;>try simp only[hc]
 |(with_reducible refine aI hQ ?_;exact fS)
 |(cases h;done))
 refine Yr (fun _=>?_) ?_
 ·repeat' (first
 |simp only[go_sem,hD,hZ,gA,gB,jo,true_or,Nat.zero_le]
 |(with_reducible first|refine bt fun hc=>?_|refine bu fun hc=>?_|refine bx (fun hc=>?_) fun hc=>?_)<;>(try simp only[hc,bs,↓reduceIte]at h)<;>try simp only[hc]
 |(with_reducible refine aI hQ ?_;(try cases h);simp only[bh,bj,bP,bQ,go_sem,hD,hZ,gA,gB,jo,true_or,Nat.zero_le];try exact cO)
 |(cases h;done))
 ·repeat' (first
 |simp only[go_sem,hD,hZ,gA,gB,jo,true_or,Nat.zero_le]
 |(with_reducible first|refine bt fun hc=>?_|refine bu fun hc=>?_|refine bx (fun hc=>?_) fun hc=>?_)<;>(try simp only[hc,bs,↓reduceIte]at h)<;>try simp only[hc]
 |(with_reducible refine aI hQ ?_;(try cases h);simp only[bh,bj,bP,bQ,go_sem,hD,hZ,gA,gB,jo,true_or,Nat.zero_le];try exact cO)
 |(cases h;done))
theorem TJ {l:List aK} (hl:l.length<1073741824) (h0:l≠ []) (s:St):aH Tryz.prog lF [.slice .shared 1 (l.map encStr)] s (.slice (.tok s.aA.length) 1 (l.map encStr)) ⟨s.al,s.aA++ [some l.length]⟩:=by
 refine aH.amk ?_ (by simp[D.bM,D.ok,Tag.ok,fI]) (fI l) s
 unfold S0
 refine aH.goK 0 1 (Nat.zero_le _) (Nat.zero_le _) rm rfl fun B Q hB hQ=>?_
 have⟨hD,hZ,gA,gB⟩:=bX
 have ha:=fun o T=>pI (size:=1) (bytes:=16) (rows:=l.map encStr) (by simpa using h0) (by simp only[List.length_map];unfold bq;omega) (z:=1) (g:= .shared) o T
 cases l with
 |nil=>exact absurd rfl h0
 |cons x l=>
  simp only[List.map_cons,encStr]at ha
  repeat' (first
 |simp only[go_sem,hD,hZ,gA,gB,ha]
 |(with_reducible first|refine bt fun hc=>?_|refine bu fun hc=>?_|refine bx (fun hc=>?_) fun hc=>?_)<;>(try simp only[hc,bs,↓reduceIte]at h)<;>try simp only[hc]
 |(with_reducible refine aI hQ ?_;(try cases h);simp only[bh,bj,bP,bQ,go_sem,hD,hZ,gA,gB,ha];try exact cO)
 |(cases h;done))
theorem Qo {a b:List aK} {n:Nat} (hn:n=a.length) (h:a.length+b.length≤1000000000) {g:Tag} {t:Nat} {s:St} (ht:s.aA[t]? = some (some n)) :
 jo 1 16 (.slice (.tok t) 1 (a.map encStr)) (.slice g 1 (b.map encStr)) s=some (.slice (.tok t) 1 ((a++b).map encStr),⟨s.al,s.aA.set t (some (a++b).length)⟩):=by
 subst hn
 rw[nP (size:=1) (bytes:=16) (by simp only[List.length_map];unfold bq;omega) (by simpa using ht)]
 simp
theorem ais {p:Pg} (h:p.jA) (hb:p.may=true) {name:aK} {f:Pc} (hf:p.find name=some f) (s:St):aH Tryz.prog xv [.agg (bO p), .str name] s (.slice .shared 1 ((p.globals++f.own).map encStr)) s:=by
 refine aH.pure ?_ (by simp[D.bM,D.ok,iy]) (by simp only[D.ok,Tag.ok,fI];rfl) s
 have hm:=fun s=>M9 h.Ti s
 simp only[Ez,hb]at hm
 obtain⟨ui,rn,tD⟩:=h.procs
 simp only[Pg.find]at hf
 unfold S0
 refine aH.go IZ rfl fun B Q hB hQ=>?_
 have⟨hD,hZ,gA,gB⟩:=bX
 repeat' (first
 |simp only[go_sem,hD,hZ,gA,gB]
 |(with_reducible refine CU (hm _) ?_)
 |(with_reducible first|refine bt fun hc=>?_|refine bu fun hc=>?_|refine bx (fun hc=>?_) fun hc=>?_)<;>(try simp only[hc,bs,↓reduceIte]at h)<;>try simp only[hc]
 |(with_reducible refine aI hQ ?_;exact fS)
 |(cases h;done))
 refine fG 1 0 (bp.ind (ι:=List Pc×Nat) (fun i=>p.procs.drop i.2=i.1∧iC name i.1=some f) (fun i=>i.1.length)
  (fun i=> [(1, .str name),(2, .ptr 0 0),(11, .slice .shared 5 (p.procs.map bN)),(12, .int .i64 (p.procs.length:Int)),(13, .int .i64 (i.2:Int))]) (fun i=>⟨[bO p],[]⟩) ?_ (p.procs,0) ⟨rfl,hf⟩)
 rintro⟨rest,k⟩ ⟨h1,h2⟩ IH
 dsimp only at h1 h2
 cases rest with
 |nil=>cases h2
 | cons a rest=>
  obtain⟨hZ,g2,hD,g4⟩:=drop_cons h1
  have cu:k<4611686018427387904:=by omega
  have xL:=h.small (List.mem_of_getElem? hZ)
  simp only[iC]at h2
  rcases Bool.eq_false_or_eq_true (a.name==name)with b1|b1
  ·simp only [b1,if_true]at h2
   cases h2
   have ho:=fun s=>acj (f:=f) xL.par xL.vars s
   have jy:f.own.length<2000000:=by have:=xL.par;have:=xL.vars;simp[Pc.own,Pc.tF];omega
   cases e:p.globals with
   | nil=>
    simp only[List.nil_append]at *
    have c1:=fun g z s=>TI g z s
    cases e2:f.own with
    |nil=>
     rw[e2]at ho hQ
     have ha:=fun o T=>qR (size:=1) (bytes:=16) (z:=1) (z':=1) (g:= .shared) o T
     repeat' (first
 |simp only[go_sem,hD,hZ,gA,gB,b1,ha,e]
 |(with_reducible refine CU (c1 _ _ _) ?_)
 |(with_reducible refine CU (ho _) ?_)
 |(with_reducible first|refine bt fun hc=>?_|refine bu fun hc=>?_|refine bx (fun hc=>?_) fun hc=>?_)<;>(try simp only[hc,bs,↓reduceIte]at h)<;>try simp only[hc]
 |(with_reducible refine aI hQ ?_;(try cases h);simp only[bh,bj,bP,bQ,go_sem,hD,hZ,gA,gB,b1,ha,e];try exact cO)
 | (cases h;done))
    |cons x l=>
     have ha:=fun o T=>pI (size:=1) (bytes:=16) (rows:=f.own.map encStr) (by simp[e2]) (by simp only[List.length_map];unfold bq;omega) (z:=1) (g:= .shared) o T
     repeat' (first
 |simp only[go_sem,hD,hZ,gA,gB,b1,ha,e]
 |(with_reducible refine CU (c1 _ _ _) ?_)
 |(with_reducible refine CU (ho _) ?_)
 |(with_reducible first|refine bt fun hc=>?_|refine bu fun hc=>?_|refine bx (fun hc=>?_) fun hc=>?_)<;>(try simp only[hc,bs,↓reduceIte]at h)<;>try simp only[hc]
 |(with_reducible refine aI hQ ?_;(try cases h);simp only[bh,bj,bP,bQ,go_sem,hD,hZ,gA,gB,b1,ha,e];try exact cO)
 | (cases h;done))
   |cons x l=>
    have c1:=fun s=>TJ (l:=p.globals) (by omega) (by simp[e]) s
    have ha:=fun {s:St} {t:Nat} (ht:s.aA[t]? = some (some p.globals.length))=>Qo (a:=p.globals) (b:=f.own) (g:= .shared) rfl (by omega) ht
    have yp:=fun o=>Qo (a:=p.globals) (b:=f.own) (g:= .shared) (t:=0) (s:=⟨o,[some p.globals.length]⟩) rfl (by omega) rfl
    repeat' (first
 |simp only[go_sem,hD,hZ,gA,gB,b1,yp]
 |(with_reducible refine CU (c1 _) ?_)
 |(with_reducible refine CU (ho _) ?_)
 |(with_reducible first|refine bt fun hc=>?_|refine bu fun hc=>?_|refine bx (fun hc=>?_) fun hc=>?_)<;>(try simp only[hc,bs,↓reduceIte]at h)<;>try simp only[hc]
 |(with_reducible refine aI hQ ?_;(try cases h);simp only[bh,bj,bP,bQ,go_sem,hD,hZ,gA,gB,b1,yp];try exact cO)
 | (cases h;done))
  ·simp only [b1,Bool.false_eq_true,if_false]at h2
   repeat' (first
 |simp only[go_sem,hD,hZ,gA,gB,b1]
 |(with_reducible first|refine bt fun hc=>?_|refine bu fun hc=>?_|refine bx (fun hc=>?_) fun hc=>?_)<;>(try simp only[hc,bs,↓reduceIte]at h)<;>try simp only[hc]
 |(with_reducible refine aI hQ ?_;(try cases h);simp only[bh,bj,bP,bQ,go_sem,hD,hZ,gA,gB,b1];try exact cO)
 | (cases h;done))
   refine fi 1 0 ?_ ?_ (IH (rest,k+1) ⟨g2,h2⟩ (Nat.lt_succ_self _))
   ·(simp only[go_sem,hD,hZ,gA,gB,aN cu];try exact bY)
   ·(simp only[go_sem,hD,hZ,gA,gB,aN cu];try exact bY)
theorem Pr {p:Pg} (hb:p.may=true) {i:Nat} {f:Pc} (hf:p.procs[i]? = some f) : ∃ a b:Int,p.aZ.lo[i]? = some a∧p.aZ.hi[i]? = some b∧(if decide (a<b)=true then a else -1)=dB f.body (-1):=by
 obtain⟨a,b,e,h1,h2,h3,h4⟩:=(kJ p).2 i f hf
 refine⟨_,_,h1,h2, ?_⟩
 cases Em:f.body with
 |nil=>
  rw[Em]at h3
  have:b = []:=by simpa[Sm.cf]using h3
  subst this
  simp[dB]
 | cons s l=>
  rw[Em,Sm.cf,Sm.lz]at h3
  cases b with
  |nil=>simp at h3
  | cons x b=>
   simp only[List.map_cons,List.cons_append,List.cons.injEq]at h3
   have hx:p.pre[a.length]? = some s:=by
    rw[← (kJ p).1,h4]
    simp[h3.1]
   have:=xJ hb hx
   rw[if_pos (by simp;omega)]
   simp only[dB]
   rw[this];omega
theorem aeC {p:Pg} (hb:p.may=true) {i:Nat} {f:Pc} (hf:p.procs[i]? = some f) (s:St):aH Tryz.prog qD [.dR (gj p) 0, .int .i64 (i:Int)] s (.int .i64 (dB f.body (-1))) s:=by
 refine aH.pure ?_ (by simp[D.bM,D.ok,wi]) rfl s
 obtain⟨a,b,h1,h2,h⟩:=Pr hb hf
 generalize dB f.body (-1)=R at h
 unfold S0
 rw[pE]
 refine aH.go Bt rfl fun B Q hB hQ=>?_
 have⟨hD,hZ,gA,gB⟩:=bX
 repeat' (first
 |simp only[go_sem,hD,hZ,gA,gB,h1,h2]
 |(with_reducible first|refine bt fun hc=>?_|refine bu fun hc=>?_|refine bx (fun hc=>?_) fun hc=>?_)<;>(try simp only[hc,bs,↓reduceIte]at h)<;>try simp only[hc]
 |(with_reducible refine aI hQ ?_;(try cases h);simp only[bh,bj,bP,bQ,go_sem,hD,hZ,gA,gB,h1,h2];try exact cO)
 |(cases h;done))
section
variable {p:Pg} {T W:List Int} {y:Lay} {m:Mc} {loc:List (Nat×List D)} {s:St}
theorem kB.row {s:St} {d:D} {cs:List D} (h:kB s d cs) (hn:cs≠ []) : ∃ o g more,d = .dS 1 o g cs.length∧s.al[o]? = some (.int .i64 ((g:Nat):Int)::(cs++more)):=by
 rcases h with ⟨_,h⟩|h
 ·exact absurd h hn
 ·exact h
theorem Inv.Z0 (h:Inv p T W y m loc s) {fr:Fr} {r:List Fr} (jm:m.st=fr::r) : ∃ so g cells o,y.sd = .dS 1 so g (r.length+1)∧s.al[so]? = some (.int .i64 ((g:Nat):Int)::cells)∧cells[r.length]? = some (.ptr o 0)∧s.al[o]? = some (qQ y.κ fr)∧y.φ[0]? = some o:=by
 have iL:=h.uQ
 rw[jm]at iL
 cases hφ:y.φ with
 |nil=>rw[hφ]at iL;simp at iL
 | cons o φ=>
  rw[hφ]at iL
  simp only[List.length_cons]at iL
  obtain⟨so,g,more,h1,h2⟩:=h.stack.row (by simp[hφ])
  refine⟨so,g,_,o, ?_,h2, ?_,(h.frame 0 o fr (by rw[hφ];rfl) (by rw[jm];rfl)).1,rfl⟩
  ·rw[h1];simp[hφ];omega
  ·rw [hφ,List.reverse_cons,List.map_append,List.append_assoc,List.getElem?_append_right (by simp;omega)]
   simp[zY,show r.length - φ.length=0 by omega]
theorem TK (h:Inv p T W y m loc s) {fr:Fr} {r:List Fr} (jm:m.st=fr::r) (hs:r.length<1000000) : ∃ o,y.φ[0]? = some o∧s.al[o]? = some (qQ y.κ fr)∧aH Tryz.prog lO [.ptr 0 0] s (.ptr o 0) s:=by
 obtain⟨so,g,cells,o,h1,h2,h3,h4,h5⟩:=h.Z0 jm
 refine⟨o,h5,h4, ?_⟩
 have hm:=h.kC
 rw[gf,h1]at hm
 have hw:IntKind.wrap .i64 (((r.length+1:Nat):Int) - 1)=((r.length:Nat):Int):=by rw[show((r.length+1:Nat):Int) - 1=(r.length:Int) by omega];exact eB (by omega) (by omega)
 have hl:(r.length<r.length+1)=True:=by simp
 refine bV.wz CD rfl fun B Q hB hQ=>?_
 have⟨hD,hZ,gA,gB⟩:=bX
 repeat' (first
 |simp only[go_sem,hD,hZ,gA,gB,hm,hw,h2,h3,hl,Nat.mul_one]
 |(with_reducible first|refine bt fun hc=>?_|refine bu fun hc=>?_|refine bx (fun hc=>?_) fun hc=>?_)<;>(try simp only[hc,bs,↓reduceIte]at h)<;>try simp only[hc]
 |(with_reducible refine aI hQ ?_;(try cases h);simp only[bh,bj,bP,bQ,go_sem,hD,hZ,gA,gB,hm,hw,h2,h3,hl,Nat.mul_one];try exact cO)
 |(cases h;done))
 (refine iU hQ ?_;simp only[bh,bj,bP,bQ,go_sem])
theorem EK (h:Inv p T W y m loc s) {fr:Fr} {r:List Fr} (jm:m.st=fr::r) (hs:r.length<1000000) (hn:fr.names.length<1000000) {name:aK} {j c:Nat} (hj:jV name 0 fr.names=(j:Int)) (hc:fr.vars[j]? = some c) :
 aH Tryz.prog jC [.ptr 0 0, .str name] s (.ptr (y.κ.getD c 0) 0) s:=by
 obtain⟨o,_,h1,c1⟩:=TK h jm hs
 have c2:=fun s=>Ew (l:=fr.names) (by omega) name s
 rw[hj]at c2
 rw[qQ]at h1
 refine bV.wz Az rfl fun B Q hB hQ=>?_
 have⟨hD,hZ,gA,gB⟩:=bX
 repeat' (first
 |simp only[go_sem,hD,hZ,gA,gB,h1,hc,fX,Option.map_some]
 |(with_reducible refine CU (c1) ?_)
 |(with_reducible refine CU (c2 _) ?_)
 |(with_reducible first|refine bt fun hc=>?_|refine bu fun hc=>?_|refine bx (fun hc=>?_) fun hc=>?_)<;>(try simp only[hc,bs,↓reduceIte]at h)<;>try simp only[hc]
 |(with_reducible refine aI hQ ?_;(try cases h);simp only[bh,bj,bP,bQ,go_sem,hD,hZ,gA,gB,h1,hc,fX,Option.map_some];try exact cO)
 |(cases h;done))
 (refine iU hQ ?_;simp only[bh,bj,bP,bQ,go_sem])
abbrev Rl (p:Pg) (T W:List Int) (d:D) (m':Mc) (X:Lay→Prop) (loc:List (Nat×List D)):D→St→Prop:=fun d' s'=>d'=d∧∃ y',X y'∧Inv p T W y' m' loc s'
theorem Qp (h:Inv p T W y m loc s) (hW:W.length<1000000) (ht:m.trace.length<2000000) (id:Int) (bI:List Int) :
 bV Tryz.prog fu [.ptr 0 0, .int .i64 id, .slice .shared 1 (bI.map cR)] s (Rl p T W (.tuple []) (m.event W id bI) (· = y) loc):=by
 have hm:=h.kC
 rw[gf]at hm
 have hl:=h.wD
 have c1:=fun s=>Pq (l:=W) (by omega) id s
 have fl:jo 2 32 (.slice (.tok 1) 2 (m.trace.map pH)) (.slice .full 2 [[.int .i64 id, .slice .shared 1 (bI.map cR)]]) s=some (.slice (.tok 1) 2 ((m.trace++ [(id,bI)]).map pH),⟨s.al,s.aA.set 1 (some (m.trace.length+1))⟩):=by
  rw[nP (size:=2) (bytes:=32) (by simp only[List.length_map,List.length_singleton];unfold bq;omega) (by simpa using h.t1)]
  simp[pH]
 refine bV.wz AB rfl fun B Q hB hQ=>?_
 have⟨hD,hZ,gA,gB⟩:=bX
 cases hb:W.contains id
 ·repeat' (first
 |simp only[go_sem,hD,hZ,gA,gB,hm,hb]
 |(with_reducible refine CU (c1 _) ?_)
 |(with_reducible first|refine bt fun hc=>?_|refine bu fun hc=>?_|refine bx (fun hc=>?_) fun hc=>?_)<;>(try simp only[hc,bs,↓reduceIte]at h)<;>try simp only[hc]
 |(with_reducible refine aI hQ ?_;(try cases h);simp only[bh,bj,bP,bQ,go_sem,hD,hZ,gA,gB,hm,hb];try exact cO)
 |(cases h;done))
  (refine iU hQ ?_;simp only[bh,bj,bP,bQ,go_sem])
  refine⟨rfl,y,rfl, ?_⟩
  unfold Mc.event
  rw[hb]
  exact h
 ·repeat' (first
 |simp only[go_sem,hD,hZ,gA,gB,hm,hb,fl,hl]
 |(with_reducible refine CU (c1 _) ?_)
 |(with_reducible first|refine bt fun hc=>?_|refine bu fun hc=>?_|refine bx (fun hc=>?_) fun hc=>?_)<;>(try simp only[hc,bs,↓reduceIte]at h)<;>try simp only[hc]
 |(with_reducible refine aI hQ ?_;(try cases h);simp only[bh,bj,bP,bQ,go_sem,hD,hZ,gA,gB,hm,hb,fl,hl];try exact cO)
 | (cases h;done))
  (refine iU hQ ?_;simp only[bh,bj,bP,bQ,go_sem])
  refine⟨rfl,y,rfl, ?_⟩
  have:=h.vX (m':=m.event W id bI) (ts:=s.aA.set 1 (some (m.trace.length+1))) (fz W m id bI).1 (fz W m id bI).2.1 (by rw[(fz W m id bI).2.2.2.2.2,List.getElem?_set_ne (by omega)];exact h.t0) (by
   unfold Mc.event
   rw[hb]
   simp[(List.getElem?_eq_some_iff.1 h.t1).1])
  unfold Mc.event at this ⊢
  rw[hb,if_pos rfl]at this ⊢
  simp only[gf,List.map_append,List.map_cons,List.map_nil]at this
  exact this
theorem Qq (l:List Sm) (hl:l.length<4611686018427387904) (o:Int) (s:St):aH Tryz.prog rP [.slice .shared 13 (l.map bd), .int .i64 o] s (.int .i64 (firstM l o)) s:=by
 refine aH.pure ?_ (by simp[D.bM,D.ok,Tag.ok,nF]) rfl s
 unfold S0
 cases l with
 |nil=>
  have e:decide ((0:Int) > 0)=false:=rfl
  simp only[firstM,dB,List.map_nil]
  refine aH.go Cr rfl fun B Q hB hQ=>?_
  have⟨hD,hZ,gA,gB⟩:=bX
  repeat' (first
 |simp only[go_sem,hD,hZ,gA,gB,e]
 |(with_reducible first|refine bt fun hc=>?_|refine bu fun hc=>?_|refine bx (fun hc=>?_) fun hc=>?_)<;>(try simp only[hc,bs,↓reduceIte]at h)<;>try simp only[hc]
 |(with_reducible refine aI hQ ?_;(try cases h);simp only[bh,bj,bP,bQ,go_sem,hD,hZ,gA,gB,e];try exact cO)
 |(cases h;done))
 |cons a l=>
  have e:decide (((l.length+1:Nat):Int) > 0)=true:=by simp
  simp only[firstM,dB,List.map_cons]
  refine aH.go Cr rfl fun B Q hB hQ=>?_
  have⟨hD,hZ,gA,gB⟩:=bX
  repeat' (first
 |simp only[go_sem,hD,hZ,gA,gB,e]
 |(with_reducible first|refine bt fun hc=>?_|refine bu fun hc=>?_|refine bx (fun hc=>?_) fun hc=>?_)<;>(try simp only[hc,bs,↓reduceIte]at h)<;>try simp only[hc]
 |(with_reducible refine aI hQ ?_;(try cases h);simp only[bh,bj,bP,bQ,go_sem,hD,hZ,gA,gB,e];try exact cO)
 |(cases h;done))
end
end Go.Abs
namespace Go.Abs
set_option maxRecDepth 8000
open Go.Proofs
section
variable {p:Pg} {T W:List Int} {y:Lay} {m:Mc} {loc:List (Nat×List D)} {s:St}
theorem NT {s:St} {o g z bytes:Nat} {t:Tag} {cs more r:List D} {len:Nat} (hs:s.al[o]? = some (.int .i64 (g:Int)::(cs++more))) (hl:cs.length=len*z) (hm:(len+1)*(bytes+1)≤bq) :
 zn z bytes (.dS z o g len) (.slice t z [r]) s=some (.dS z o (g+1) (len+1),⟨s.al.set o (.int .i64 ((g+1:Nat):Int)::(cs++r)),s.aA⟩):=by
 have ha:lQ s o g=some (cs++more):=by unfold lQ;rw[hs];simp
 simp only[zn,ha,List.length_singleton,hm,or_true,and_self,if_true,List.flatten_cons,List.flatten_nil,List.append_nil]
 rw[if_pos (by simp;omega), ← hl,List.take_append_of_le_length (Nat.le_refl _),List.take_length]
theorem Wk.aml (z z':Nat):Wk (.ff z) (.slice .shared z' []):=fun M s v h=>by
 cases h with
 |ff _ a=>cases a with
  |none=>exact .jE _ _ _ rfl trivial
  |some a=>exact .mD _ _ _
theorem aH.amm {P:Program} {f:FuncId} {a b:D} {d:D} {s:St} {v:D} {l:List Int} (hv:kB s v (l.map sB)) (h : ∀ s,aH P f [a,b, .slice .shared 1 (l.map cR)] s d s) (ha:D.ok 0 0 a=true) (hb:D.ok 0 0 b=true) (hd:d.flat=true) :
 aH P f [a,b,v] s d s:=by
 rcases hv with ⟨rfl,e⟩|⟨o,g,more,rfl,e⟩
 ·have:l = []:=by simpa using e
  subst this
  exact bV.qA (.cons (Wk.refl _) (.cons (Wk.refl _) (.cons (Wk.aml 1 1) .nil))) (h s)
 ·have eJ : ∀ l:List Int,(l.map cR).flatten=l.map sB:=fun l=>by
   induction l with
   |nil=>rfl
   |cons x l ih=>simp only[List.map_cons,List.flatten_cons,ih];rfl
  have hlen:(l.map sB).length=(l.map cR).length:=by simp
  rw[hlen]
  have e0:D.kn o g (l.map cR) [a,b, .dS 1 o g (l.map cR).length] = [a,b, .slice .shared 1 (l.map cR)]:=by
   simp only[D.kn,MG _ _ _ a ha,MG _ _ _ b hb,D.gw,and_self,if_true]
  refine aH.aoY (k:=2) (rows:=l.map cR) rfl (by rw[eJ];exact e) (by intro r hr;obtain⟨x,_,rfl⟩:=List.mem_map.1 hr;rfl) ?_ ?_ hd
  ·rw[e0];exact h S0
  ·rw[e0];simp[D.bM,D.ok,Tag.ok,ha,hb,jH]
structure oe (m:Mc) (fr:Fr) (r:List Fr):Prop where
 st:m.st=fr::r
 len:r.length<1000000
 names:fr.names.length<1000000
 vars:fr.vars.length<1000000
theorem oe.top {fr:Fr} {r:List Fr} (h:oe m fr r):m.top=fr:=by simp[Mc.top,h.st]
theorem WQ {fr:Fr} {k c:Nat} {rest:List Nat} (h:fr.vars.drop k=c::rest) (m:Mc):(fr.vars.take (k+1)).map (fun c=>m.mem.getD c 0)=(fr.vars.take k).map (fun c=>m.mem.getD c 0)++ [m.mem.getD c 0]:=by
 have:=(drop_cons h).1
 rw[List.take_add_one,this]
 simp
theorem Gh (h:Inv p T W y m loc s) {fr:Fr} {r:List Fr} (ht:oe m fr r) {x:Ex} (hx:x.size<1000000) (htx:x.texts) :
 bV Tryz.prog kT [.ptr 0 0, .agg (cb x)] s (fun d s'=>Rl p T W (BT (m.bg x).1) (m.bg x).2 (fun y'=>y' = {y with vd:=y'.vd}) loc d s'∧s'.aA=s.aA):=by
 have h1:=h.new (cb x)
 generalize acz:(s.al.length,cb x)::loc=Z1 at h1
 obtain⟨o,ho,WR,c1⟩:=TK h1 ht.st ht.len
 have hm:=h1.kC
 rw[gf]at hm
 have hl:=h1.wD
 simp only at hm hl
 rw[qQ]at WR
 have hvl:=ht.vars
 have UG:=ht.names
 refine bV.wz AA rfl fun B Q hB hQ=>?_
 have⟨hD,hZ,gA,gB⟩:=bX
 -- the rounds
 have loop : ∀ (n k:Nat) (rest:List Nat) (vd:D) (s2:St),s2.aA=s.aA→rest.length=n→fr.vars.drop k=rest→Inv p T W {y with vd:=vd} m Z1 s2→kB s2 vd (((fr.vars.take k).map fun c=>m.mem.getD c 0).map sB)→
  bp Tryz.prog B 64 QR1 (jq 0 (lR (ki Tryz.prog B 64 QRD Q) Q)) [(0, .ptr 0 0),(3, .ptr s.al.length 0),(6, .ptr o 0),(24, .slice .shared 1 (fr.vars.map fun c=>fX (y.κ.getD c 0))),(25, .int .i64 (fr.vars.length:Int)),(26, .int .i64 (k:Int))] s2:=by
  intro n
  induction n with
  | zero=>
   intro k rest vd s2 xj C7 hd h2 ha
   have:rest = []:=List.eq_nil_of_length_eq_zero C7
   subst this
   have hD:=drop_nil hd
   have hk:fr.vars.take k=fr.vars:=List.take_of_length_le (List.drop_eq_nil_iff.1 hd)
   rw[hk]at ha
   have acA:(fr.vars.map fun c=>m.mem.getD c 0)=m.bI:=by unfold Mc.bI;rw[ht.top]
   rw[acA]at ha
   have kx:=h2.kC
   rw[gf]at kx
   have je:=h2.wD
   have D1:=(h2.frame 0 o fr ho (by rw[ht.st];rfl)).1
   rw[qQ]at D1
   have vN:=(h2.loc (s.al.length,cb x) (by rw[← acz];exact List.mem_cons_self ..)).1
   simp only at kx D1 vN
   have c2:aH Tryz.prog yB [.agg (cb x), .slice .shared 1 (fr.names.map encStr),vd] s2 (BT (x.bg fr.names m.bI)) s2:=
    aH.amm ha (fun s=>ZZ (by omega) htx (by omega) (by rw[← acA,List.length_map];omega) s) (by simp[D.ok,lx]) (by simp[D.ok,Tag.ok,fI]) (by simp[D.flat,D.G5])
   have hw:(m.bg x).1=x.bg fr.names m.bI:=by unfold Mc.bg;rw[ht.top]
   generalize hr:x.bg fr.names m.bI=q at *
   have sL:(m.bg x).2=if q.2 then m else {m with fin:=4}:=by unfold Mc.bg;rw[ht.top,hr]
   obtain⟨q1,q2⟩:=q
   have xN:Inv p T W {y with vd:=vd} {m with fin:=4} Z1 ⟨s2.al.set 0 (gf p T W {y with vd:=vd} {m with fin:=4}),s2.aA⟩:=h2.vX (m':= {m with fin:=4}) rfl rfl h2.t0 h2.t1
   rw[gf]at xN
   have oT : ∀ q∈loc,q∈Z1:=fun q mq=>by rw[← acz];exact List.mem_cons_of_mem _ mq
   refine bp.kO ?_
   cases q2
   ·repeat' (first
 |simp only[go_sem,hD,hZ,gA,gB,kx,je,D1,vN]
 |(with_reducible refine CU (c2) ?_)
 |(with_reducible first|refine bt fun hc=>?_|refine bu fun hc=>?_|refine bx (fun hc=>?_) fun hc=>?_)<;>(try simp only[hc,bs,↓reduceIte]at h)<;>try simp only[hc]
 |(with_reducible refine aI hQ ?_;(try cases h);simp only[bh,bj,bP,bQ,go_sem,hD,hZ,gA,gB,kx,je,D1,vN];try exact cO)
 |(cases h;replace h:=hr;clear hr;(try simp only[bs,↓reduceIte]at h))
 | (cases h;done))
    (refine iU hQ ?_;simp only[bh,bj,bP,bQ,go_sem])
    refine⟨⟨by rw[hw],{y with vd:=vd},rfl, ?_⟩,xj⟩
    rw[sL]
    exact xN.sub oT
   ·repeat' (first
 |simp only[go_sem,hD,hZ,gA,gB,kx,je,D1,vN]
 |(with_reducible refine CU (c2) ?_)
 |(with_reducible first|refine bt fun hc=>?_|refine bu fun hc=>?_|refine bx (fun hc=>?_) fun hc=>?_)<;>(try simp only[hc,bs,↓reduceIte]at h)<;>try simp only[hc]
 |(with_reducible refine aI hQ ?_;(try cases h);simp only[bh,bj,bP,bQ,go_sem,hD,hZ,gA,gB,kx,je,D1,vN];try exact cO)
 |(cases h;replace h:=hr;clear hr;(try simp only[bs,↓reduceIte]at h))
 | (cases h;done))
    (refine iU hQ ?_;simp only[bh,bj,bP,bQ,go_sem])
    refine⟨⟨by rw[hw],{y with vd:=vd},rfl, ?_⟩,xj⟩
    rw[sL]
    exact h2.sub oT
  | succ n ih=>
   intro k rest vd s2 xj C7 hd h2 ha
   cases rest with
   |nil=>cases C7
   | cons c rest=>
    obtain⟨hZ,g2,hD,g4⟩:=drop_cons hd
    have cu:k<4611686018427387904:=by omega
    have WS:c<m.mem.length:=(h2.frame 0 o fr ho (by rw[ht.st];rfl)).2.2 c (List.mem_of_getElem? hZ)
    have hκ:y.κ[c]? = some (y.κ.getD c 0):=by
     rw[List.getD_eq_getElem?_getD,List.getElem?_eq_getElem (by have:=h2.len;simp only at this;omega)];rfl
    have iR:=h2.cell c _ _ hκ (by rw[List.getElem?_eq_getElem WS])
    have qw:m.mem[c] = m.mem.getD c 0:=by rw[List.getD_eq_getElem?_getD,List.getElem?_eq_getElem WS];rfl
    rw[qw]at iR
    generalize amn:m.mem.getD c 0=v at iR
    have kx:=h2.kC
    rw[gf]at kx
    have je:=h2.wD
    simp only at kx
    have hlen:k<1000000:=by have:=ht.vars;omega
    have hvt:((fr.vars.take (k+1)).map fun c=>m.mem.getD c 0).map sB=((fr.vars.take k).map fun c=>m.mem.getD c 0).map sB++ [.int .i64 v]:=by
     rw[WQ hd m,amn,List.map_append];rfl
    rcases ha with ⟨rfl,e⟩|⟨vo,g,more,rfl,e⟩
    ·have fl:=FM (z:=1) (bytes:=8) .full [.int .i64 v] s2 (by unfold bq;omega)
     have h3:=h2.TD (vd:= .dS 1 s2.al.length 0 1) (s1:=⟨s2.al++ [[.int .i64 ((0:Nat):Int), .int .i64 v]],s2.aA⟩) (fun o r e _=>by rw[List.getElem?_append_left (gX e)];exact e)
      ⟨[v], .inr ⟨_,0,[],rfl,by simp[sB]⟩⟩ (.inr (.inr rfl)) rfl
     rw[gf]at h3
     simp only at h3
     refine bp.kO ?_
     have hA : ∀ e:List (List D),(s2.al++e)[0]? = s2.al[0]? :=fun e=>List.getElem?_append_left je
     repeat' (first
 |simp only[go_sem,hD,hZ,gA,gB,kx,je,iR,hZ,fX,fl,Option.map_some,hA]
 |(with_reducible first|refine bt fun hc=>?_|refine bu fun hc=>?_|refine bx (fun hc=>?_) fun hc=>?_)<;>(try simp only[hc,bs,↓reduceIte]at h)<;>try simp only[hc]
 |(with_reducible refine aI hQ ?_;(try cases h);simp only[bh,bj,bP,bQ,go_sem,hD,hZ,gA,gB,kx,je,iR,hZ,fX,fl,Option.map_some,hA];try exact cO)
 |(cases h;replace h:=hr;clear hr;(try simp only[bs,↓reduceIte]at h))
 | (cases h;done))
     refine bp.rl ?_ (ih (k+1) rest _ _ xj (by simpa using C7) g2 h3 ?_)
     ·simp only [go_sem,aN cu,fX]
      repeat' (first|exact Ok.out|with_reducible refine jG ?_ ?_)
     ·rw [hvt,e]
      refine .inr ⟨_,0,[],rfl, ?_⟩
      show((s2.al++ [_]).set 0 _)[s2.al.length]? = _
      rw[List.getElem?_set_ne (by omega)]
      simp
    ·have ou:(((fr.vars.take k).map fun c=>m.mem.getD c 0).map sB).length=k:=by simp;omega
     have fl:=NT (t:= .full) (bytes:=8) (r:= [.int .i64 v]) e (len:=k) (z:=1) (by rw[ou,Nat.mul_one]) (by unfold bq;omega)
     rw[ou]at kx h2
     have Kw:0≠vo:=fun e'=>(h2.xS (o:=vo) (by simp[D.arr])) e'.symm
     have dA:kB ⟨s2.al.set vo (.int .i64 ((g+1:Nat):Int)::(((fr.vars.take k).map fun c=>m.mem.getD c 0).map sB++ [.int .i64 v])),s2.aA⟩ (.dS 1 vo (g+1) (k+1)) (((fr.vars.take k).map fun c=>m.mem.getD c 0).map sB++ [.int .i64 v]):=
      .inr ⟨vo,g+1,[],by simp;omega,by simp[gX e]⟩
     have h3:=h2.TD (vd:= .dS 1 vo (g+1) (k+1)) (s1:=⟨s2.al.set vo (.int .i64 ((g+1:Nat):Int)::(((fr.vars.take k).map fun c=>m.mem.getD c 0).map sB++ [.int .i64 v])),s2.aA⟩) (fun o r e hn=>by rw[List.getElem?_set_ne (fun e'=>hn (by rw[← e'];simp[D.arr]))];exact e)
      ⟨(fr.vars.take (k+1)).map fun c=>m.mem.getD c 0,by rw[hvt];exact dA⟩ (.inl rfl) rfl
     rw[gf]at h3
     simp only at h3
     refine bp.kO ?_
     have hA : ∀ e:List D,(s2.al.set vo e)[0]? = s2.al[0]? :=fun e=>List.getElem?_set_ne (Ne.symm Kw)
     repeat' (first
 |simp only[go_sem,hD,hZ,gA,gB,kx,je,iR,hZ,fX,fl,Option.map_some,hA]
 |(with_reducible first|refine bt fun hc=>?_|refine bu fun hc=>?_|refine bx (fun hc=>?_) fun hc=>?_)<;>(try simp only[hc,bs,↓reduceIte]at h)<;>try simp only[hc]
 |(with_reducible refine aI hQ ?_;(try cases h);simp only[bh,bj,bP,bQ,go_sem,hD,hZ,gA,gB,kx,je,iR,hZ,fX,fl,Option.map_some,hA];try exact cO)
 |(cases h;replace h:=hr;clear hr;(try simp only[bs,↓reduceIte]at h))
 |(cases h;done))
     refine bp.rl ?_ (ih (k+1) rest _ _ xj (by simpa using C7) g2 h3 ?_)
     ·simp only [go_sem,aN cu,fX]
      repeat' (first|exact Ok.out|with_reducible refine jG ?_ ?_)
     ·rw [hvt]
      exact dA.keep fun o mo=>by
       have:o=vo:=by simpa[D.arr]using mo
       subst this
       show(List.set _ 0 _)[o]? = _
       rw[List.getElem?_set_ne Kw]
 -- the values' slice is emptied
 obtain⟨l,hv⟩:=h1.bI
 have h0:((s.al++ [cb x])[0]?).isSome=true:=by rw[hm];rfl
 rcases hv with ⟨e,_⟩|⟨vo,g,more,e,e2⟩
 ·rw [e]at hm
  have wk:zm (.ff 1) none (some (.int .i64 0))=some (.ff 1):=by simp[zm,vq,vr]
  have h3:=h1.TD (vd:= .ff 1) (s1:=⟨s.al++ [cb x],s.aA⟩) (fun _ _ e _=>e) ⟨[], .inl ⟨rfl,rfl⟩⟩ (.inl (by rw[e])) rfl
  have D2:=(h3.frame 0 o fr ho (by rw[ht.st];rfl)).1
  rw[gf]at h3 D2
  rw[qQ]at D2
  simp only at h3 D2
  repeat' (first
 |simp only[go_sem,hD,hZ,gA,gB,hm,hl,WR,wk,D2]
 |(with_reducible refine CU (c1) ?_)
 |(with_reducible first|refine bt fun hc=>?_|refine bu fun hc=>?_|refine bx (fun hc=>?_) fun hc=>?_)<;>(try simp only[hc,bs,↓reduceIte]at h)<;>try simp only[hc]
 |(with_reducible refine aI hQ ?_;(try cases h);simp only[bh,bj,bP,bQ,go_sem,hD,hZ,gA,gB,hm,hl,WR,wk,D2];try exact cO)
 |(cases h;replace h:=hr;clear hr;(try simp only[bs,↓reduceIte]at h))
 |(cases h;done))
  refine bp.rl ?_ (loop _ 0 fr.vars _ _ rfl rfl rfl h3 (.inl ⟨rfl,rfl⟩))
  simp only[go_sem,fX]
  repeat' (first|exact Ok.out|with_reducible refine jG ?_ ?_)
 ·rw [List.length_map]at e
  rw[e]at hm
  have Kw:0≠vo:=fun e'=>(h1.xS (o:=vo) (by rw[e];simp[D.arr])) e'.symm
  have wk:zm (.dS 1 vo g l.length) none (some (.int .i64 0))=some (.dS 1 vo g 0):=by simp[zm,vq,vr]
  have h3:=h1.TD (vd:= .dS 1 vo g 0) (s1:=⟨s.al++ [cb x],s.aA⟩) (fun _ _ e _=>e) ⟨[], .inr ⟨vo,g,l.map sB++more,rfl,e2⟩⟩ (.inl (by rw[e];rfl)) rfl
  have D2:=(h3.frame 0 o fr ho (by rw[ht.st];rfl)).1
  rw[gf]at h3 D2
  rw[qQ]at D2
  simp only at h3 D2
  repeat' (first
 |simp only[go_sem,hD,hZ,gA,gB,hm,hl,WR,wk,D2]
 |(with_reducible refine CU (c1) ?_)
 |(with_reducible first|refine bt fun hc=>?_|refine bu fun hc=>?_|refine bx (fun hc=>?_) fun hc=>?_)<;>(try simp only[hc,bs,↓reduceIte]at h)<;>try simp only[hc]
 |(with_reducible refine aI hQ ?_;(try cases h);simp only[bh,bj,bP,bQ,go_sem,hD,hZ,gA,gB,hm,hl,WR,wk,D2];try exact cO)
 |(cases h;replace h:=hr;clear hr;(try simp only[bs,↓reduceIte]at h))
 | (cases h;done))
  refine bp.rl ?_ (loop _ 0 fr.vars _ _ rfl rfl rfl h3 (.inr ⟨vo,g,l.map sB++more,rfl, ?_⟩))
  ·simp only [go_sem,fX]
   repeat' (first|exact Ok.out|with_reducible refine jG ?_ ?_)
  ·show(List.set _ 0 _)[vo]? = _
   rw[List.getElem?_set_ne Kw];exact e2
end
end Go.Abs
namespace Go.Abs
set_option maxRecDepth 8000
open Go.Proofs
section
variable {p:Pg} {T W:List Int} {y:Lay} {m:Mc} {loc:List (Nat×List D)} {s:St}
theorem FG:Wk (.slice .full 0 []) (.slice .shared 1 (([] : List Int).map cR)):=Wk.nil _ _ _
theorem xV (h:Inv p T W y m loc s) (hW:W.length<1000000) (ht:m.trace.length<2000000) (id:Int) :
 bV Tryz.prog fu [.ptr 0 0, .int .i64 id, .slice .full 0 []] s (Rl p T W (.tuple []) (m.event W id []) (· = y) loc):=
 bV.qA (.cons (Wk.refl _) (.cons (Wk.refl _) (.cons FG .nil))) (Qp h hW ht id [])
theorem Gi (h:Inv p T W y m loc s) (hW:W.length<1000000) (ht:m.trace.length<2000000) (id n:Int) :
 bV Tryz.prog fu [.ptr 0 0, .int .i64 id, .slice .full 1 [[.int .i64 n]]] s (Rl p T W (.tuple []) (m.event W id [n]) (· = y) loc):=
 bV.qA (.cons (Wk.refl _) (.cons (Wk.refl _) (.cons (Wk.shared _ _ _) .nil))) (Qp h hW ht id [n])
theorem aeD (h:Inv p T W y m loc s) {fr:Fr} {r:List Fr} (ht:oe m fr r) {v:Sm} (hv:v.oI) (hW:W.length<1000000) (htr:m.trace.length<2000000) :
 bV Tryz.prog qa [.ptr 0 0, .agg (bd v)] s (Rl p T W (.int .i64 (m.fD W v).1) (m.fD W v).2 (fun y'=>y' = {y with vd:=y'.vd}) loc):=by
 have h1:=h.new (bd v)
 have hx:(s.al++ [bd v])[s.al.length]? = some (bd v):=by simp
 have oT : ∀ q∈loc,q∈(s.al.length,bd v)::loc:=fun q mq=>List.mem_cons_of_mem _ mq
 refine bV.wz Ax rfl fun B Q hB hQ=>?_
 have⟨hD,hZ,gA,gB⟩:=bX
 rcases Bool.eq_false_or_eq_true v.has with b|b
 ·have c1:=Gh h1 ht (x:=v.x) (by have:=hv.2.2;omega) hv.1
  repeat' (first
 |simp only[go_sem,hD,hZ,gA,gB,hx,b]
 |(with_reducible first|refine bt fun hc=>?_|refine bu fun hc=>?_|refine bx (fun hc=>?_) fun hc=>?_)<;>(try simp only[hc,bs,↓reduceIte]at h)<;>try simp only[hc]
 |(with_reducible refine aI hQ ?_;(try cases h);simp only[bh,bj,bP,bQ,go_sem,hD,hZ,gA,gB,hx,b];try exact cO)
 | (cases h;done))
  refine CR c1 fun d s2 h2=>?_
  obtain⟨⟨rfl,y2,xW,h2⟩,_⟩:=h2
  have vN:=(h2.loc (s.al.length,bd v) (List.mem_cons_self ..)).1
  have hw:=iO m v.x
  simp only at vN
  rcases Bool.eq_false_or_eq_true (m.bg v.x).1.2 with b2|b2
  ·have c2:=Gi h2 hW (by rw [hw.2.2.2.2.2];exact htr) v.id (m.bg v.x).1.1
   repeat' (first
 |simp only[go_sem,hD,hZ,gA,gB,vN,b2]
 |(with_reducible first|refine bt fun hc=>?_|refine bu fun hc=>?_|refine bx (fun hc=>?_) fun hc=>?_)<;>(try simp only[hc,bs,↓reduceIte]at h)<;>try simp only[hc]
 |(with_reducible refine aI hQ ?_;(try cases h);simp only[bh,bj,bP,bQ,go_sem,hD,hZ,gA,gB,vN,b2];try exact cO)
 | (cases h;done))
   refine CR c2 fun d s3 h3=>?_
   obtain⟨rfl,y3,rfl,h3⟩:=h3
   repeat' (first
 |simp only[go_sem,hD,hZ,gA,gB]
 |(with_reducible first|refine bt fun hc=>?_|refine bu fun hc=>?_|refine bx (fun hc=>?_) fun hc=>?_)<;>(try simp only[hc,bs,↓reduceIte]at h)<;>try simp only[hc]
 |(with_reducible refine aI hQ ?_;exact fS)
 | (cases h;done))
   (refine iU hQ ?_;simp only[bh,bj,bP,bQ,go_sem])
   refine⟨by simp only[Mc.fD,b,if_true],y3,xW, ?_⟩
   simp only[Mc.fD,b,b2,if_true]
   exact h3.sub oT
  ·repeat' (first
 |simp only[go_sem,hD,hZ,gA,gB,vN,b2]
 |(with_reducible first|refine bt fun hc=>?_|refine bu fun hc=>?_|refine bx (fun hc=>?_) fun hc=>?_)<;>(try simp only[hc,bs,↓reduceIte]at h)<;>try simp only[hc]
 |(with_reducible refine aI hQ ?_;(try cases h);simp only[bh,bj,bP,bQ,go_sem,hD,hZ,gA,gB,vN,b2];try exact cO)
 | (cases h;done))
   (refine iU hQ ?_;simp only[bh,bj,bP,bQ,go_sem])
   refine⟨by simp only[Mc.fD,b,if_true],y2,xW, ?_⟩
   simp only[Mc.fD,b,b2,if_true,Bool.false_eq_true,if_false]
   exact h2.sub oT
 ·have c1:=xV h1 hW htr v.id
  repeat' (first
 |simp only[go_sem,hD,hZ,gA,gB,hx,b]
 |(with_reducible first|refine bt fun hc=>?_|refine bu fun hc=>?_|refine bx (fun hc=>?_) fun hc=>?_)<;>(try simp only[hc,bs,↓reduceIte]at h)<;>try simp only[hc]
 |(with_reducible refine aI hQ ?_;(try cases h);simp only[bh,bj,bP,bQ,go_sem,hD,hZ,gA,gB,hx,b];try exact cO)
 |(cases h;done))
  refine CR c1 fun d s2 h2=>?_
  obtain⟨rfl,y2,rfl,h2⟩:=h2
  repeat' (first
 |simp only[go_sem,hD,hZ,gA,gB]
 |(with_reducible first|refine bt fun hc=>?_|refine bu fun hc=>?_|refine bx (fun hc=>?_) fun hc=>?_)<;>(try simp only[hc,bs,↓reduceIte]at h)<;>try simp only[hc]
 |(with_reducible refine aI hQ ?_;exact fS)
 |(cases h;done))
  (refine iU hQ ?_;simp only[bh,bj,bP,bQ,go_sem])
  refine⟨by simp only[Mc.fD,b,Bool.false_eq_true,if_false],y2,rfl, ?_⟩
  simp only[Mc.fD,b,Bool.false_eq_true,if_false]
  exact h2.sub oT
end
end Go.Abs
namespace Go.Abs
set_option maxRecDepth 8000
open Go.Proofs
section
variable {p:Pg} {T W:List Int} {y:Lay} {m:Mc} {loc:List (Nat×List D)} {s:St}
theorem il.setAt : ∀ {l:List (List D)} {i:Nat} {r r':List D},l[i]? = some r→kh r r'→il l (l.set i r')
 |a::l,0,r,r',h,w=>by simp at h;subst h;exact .cons w (il.refl l)
 |a::l,i+1,r,r',h,w=> .cons (kh.refl a) (il.setAt (l:=l) (by simpa using h) w)
def Lay.push (y:Lay) (n K:Nat) (sd:D):Lay:= {y with κ:=y.κ++(List.range K).map (n+2 + ·),φ:=(n+1)::y.φ,sd:=sd}
theorem Z2 {κ:List Nat} {n K j:Nat} (hj:j<K):(κ++(List.range K).map (n+2 + ·)).getD (κ.length+j) 0=n+2+j:=by
 rw[List.getD_eq_getElem?_getD,List.getElem?_append_right (by omega),show κ.length+j - κ.length=j by omega]
 simp[hj]
theorem Gj {κ e:List Nat} {c:Nat} (hc:c<κ.length):(κ++e).getD c 0=κ.getD c 0:=by
 rw[List.getD_eq_getElem?_getD,List.getD_eq_getElem?_getD,List.getElem?_append_left hc]
theorem TL {κ:List Nat} {n:Nat} (h:n≤κ.length):(List.range n).map (fun c=>κ.getD c 0)=κ.take n:=by
 apply List.ext_getElem?
 intro i
 simp only[List.getElem?_map]
 by_cases hi:i<n
 ·rw [List.getElem?_range hi,List.getElem?_take_of_lt hi,List.getElem?_eq_getElem (show i<κ.length by omega)]
  simp[List.getD_eq_getElem?_getD,List.getElem?_eq_getElem (show i<κ.length by omega)]
 ·rw[List.getElem?_eq_none (by simp;omega),List.getElem?_eq_none (by simp;omega)];rfl
theorem Inv.push (h:Inv p T W y m loc s) {K:Nat} {sd:D} {fr:Fr} {s':St} (hg:p.globals.length≤m.mem.length) (hfv : ∀ c∈fr.vars,c<m.mem.length+K)
 (k : ∀ (o:Nat) (r:List D),s.al[o]? = some r→o≠0→o∉y.sd.arr→s'.al[o]? = some r)
 (k0:s'.al[0]? = some (gf p T W (y.push s.al.length K sd) m)) (kc : ∀ j,j<K→s'.al[s.al.length+2+j]? = some [.int .i64 0])
 (kf:s'.al[s.al.length+1]? = some (qQ (y.push s.al.length K sd).κ fr)) (ks:kB s' sd ((y.push s.al.length K sd).φ.reverse.map zY)) (uk:sd.arr=y.sd.arr∨sd.arr = [s.al.length+2+K])
 (t0:s'.aA[0]? = s.aA[0]?) (t1:s'.aA[1]? = s.aA[1]?) :
 Inv p T W (y.push s.al.length K sd) {m with st:=fr::m.st,mem:=m.mem++List.replicate K 0} loc s':=by
 have Co:=h.own
 rw[Lay.own,List.nodup_cons,List.nodup_append,List.nodup_append]at Co
 obtain⟨n0,nκ,⟨ns,nv,nsv⟩,NR⟩:=Co
 have lt:=h.vM
 have ltκ : ∀ c∈y.κ,c<s.al.length:=fun c mc=>lt c (by simp[Lay.own,mc])
 have lts : ∀ c∈y.sd.arr,c<s.al.length:=fun c mc=>lt c (by simp[Lay.own,mc])
 have ltv : ∀ c∈y.vd.arr,c<s.al.length:=fun c mc=>lt c (by simp[Lay.own,mc])
 have wD:=h.wD
 have NS : ∀ o,o∈(y.push s.al.length K sd).own→o∈y.own∨(s.al.length+2≤o∧o≤s.al.length+2+K):=fun o mo=>by
  simp only[Lay.own,Lay.push,List.mem_cons,List.mem_append,List.mem_map,List.mem_range]at mo ⊢
  rcases mo with rfl|(mo|⟨j,hj,rfl⟩)|mo|mo
  ·exact .inl (.inl rfl)
  ·exact .inl (.inr (.inl mo))
  ·exact .inr ⟨by omega,by omega⟩
  ·rcases uk with e | e
   ·rw[e]at mo;exact .inl (.inr (.inr (.inl mo)))
   ·rw[e]at mo;have:=List.mem_singleton.1 mo;exact .inr ⟨by omega,by omega⟩
  ·exact .inl (.inr (.inr (.inr mo)))
 have g : ∀ {o:Nat} {r:List D},s.al[o]? = some r→o∉y.own→s'.al[o]? = some r∧o∉(y.push s.al.length K sd).own:=fun {o r} e hn=>by
  refine⟨k o r e (fun e0=>hn (by rw[e0];simp[Lay.own])) (fun ms=>hn (by simp[Lay.own,ms])),fun mo=>?_⟩
  rcases NS o mo with mo|mo
  ·exact hn mo
  ·have:=gX e;omega
 have hlen:=h.len
 refine⟨k0,by rw[t0];exact h.t0,by rw[t1];exact h.t1,by simp[Lay.push,hlen],fun i c v e1 e2=>?_,by simp[Lay.push,h.uQ],fun i o Qr e1 e2=>?_,ks, ?_, ?_,fun q mq=>g (h.loc q mq).1 (h.loc q mq).2⟩
 ·simp only [Lay.push]at e1
  dsimp only at e2
  rcases Nat.lt_or_ge i y.κ.length with hi|hi
  ·rw [List.getElem?_append_left hi]at e1
   rw[List.getElem?_append_left (by omega)]at e2
   have hc:=List.mem_of_getElem? e1
   exact k c _ (h.cell i c v e1 e2) (h.xS (by simp[hc])) (fun ms=>NR c hc c (List.mem_append_left _ ms) rfl)
  ·rw [List.getElem?_append_right hi]at e1
   rw[List.getElem?_append_right (by omega)]at e2
   have hD:=(List.getElem?_eq_some_iff.1 e1).1
   simp only[List.length_map,List.length_range]at hD
   rw[List.getElem?_map,List.getElem?_range hD]at e1
   rw[List.getElem?_replicate_of_lt (by omega)]at e2
   simp only[Option.map_some,Option.some.injEq]at e1 e2
   subst e1 e2
   exact kc _ hD
 ·cases i with
  |zero=>
   simp only[Lay.push,List.getElem?_cons_zero,Option.some.injEq]at e1 e2
   subst e1 e2
   refine⟨kf,fun mo=>?_,fun c mc=>by simp only[List.length_append,List.length_replicate];exact hfv c mc⟩
   rcases NS _ mo with mo|mo
   ·have:=lt _ mo;omega
   ·omega
  |succ i=>
   simp only[Lay.push,List.getElem?_cons_succ]at e1 e2
   obtain⟨f1,f2,f3⟩:=h.frame i o Qr e1 e2
   obtain⟨f4,f5⟩:=g f1 f2
   exact⟨by simp only[Lay.push];rw[Kv (by rw[hlen];exact f3)];exact f4,f5,fun c mc=>by have:=f3 c mc;simp only[List.length_append];omega⟩
 ·obtain⟨l,hl⟩:=h.bI
  refine⟨l,hl.keep fun o mo=>?_⟩
  rw[List.getElem?_eq_getElem (ltv o mo)]
  exact k o _ (List.getElem?_eq_getElem _) (h.xS (by simp[mo])) (fun ms=>nsv o ms o mo rfl)
 ·have NU:((List.range K).map (s.al.length+2 + ·)).Nodup:=by
   rw[List.nodup_iff_pairwise_ne,List.pairwise_map]
   exact List.Pairwise.imp (fun h=>by omega) (List.nodup_iff_pairwise_ne.1 List.nodup_range)
  have IG : ∀ o∈(List.range K).map (s.al.length+2 + ·),s.al.length+2≤o∧o<s.al.length+2+K:=fun o mo=>by
   obtain⟨j,hj,rfl⟩:=List.mem_map.1 mo
   have:=List.mem_range.1 hj;exact⟨by omega,by omega⟩
  have TN : ∀ o∈sd.arr,(o∈y.sd.arr)∨o=s.al.length+2+K:=fun o mo=>by
   rcases uk with e|e
   ·rw[e]at mo;exact .inl mo
   ·rw[e]at mo;exact .inr (List.mem_singleton.1 mo)
  simp only[Lay.own,Lay.push]
  rw[List.nodup_cons,List.nodup_append,List.nodup_append,List.nodup_append]
  refine⟨fun mo=>?_,⟨nκ,NU,fun a ma b mb e=>?_⟩,⟨?_,nv,fun a ma b mb e=>?_⟩,fun a ma b mb e=>?_⟩
  ·simp only [List.mem_append]at mo
   rcases mo with (mo|mo)|mo|mo
   ·exact n0 (by simp[mo])
   ·have:=IG _ mo;omega
   ·rcases TN _ mo with mo | mo
    ·exact n0 (by simp[mo])
    ·omega
   ·exact n0 (by simp[mo])
  ·have:=ltκ a ma;have:=IG b mb;omega
  ·rcases uk with e | e <;> rw [e]
   ·exact ns
   ·simp
  ·rcases TN a ma with ma | ma
   ·exact nsv a ma b mb e
   ·have:=ltv b mb;omega
  ·rcases List.mem_append.1 ma with ma | ma
   ·rcases List.mem_append.1 mb with mb | mb
    ·rcases TN b mb with mb | mb
     ·exact NR a ma b (List.mem_append_left _ mb) e
     ·have:=ltκ a ma;omega
    ·exact NR a ma b (List.mem_append_right _ mb) e
   ·have:=IG a ma
    rcases List.mem_append.1 mb with mb|mb
    ·rcases TN b mb with mb | mb
     ·have:=lts b mb;omega
     ·omega
    ·have:=ltv b mb;omega
theorem aeE {gl ps:List (List D)} {bytes:Nat} (hb:(gl.length+ps.length)*(bytes+1)≤bq) (ts:List (Option Nat)) : ∃ (g1 g2:Tag) (z1 z2:Nat) (t1 t2:List (Option Nat)),(∀ os,jo 1 bytes (.slice .full 0 []) (.slice .shared 1 gl) ⟨os,ts⟩=some (.slice g1 z1 gl,⟨os,t1⟩))∧
 (∀ os,jo 1 bytes (.slice g1 z1 gl) (.slice .shared 1 ps) ⟨os,t1⟩=some (.slice g2 z2 (gl++ps),⟨os,t2⟩))∧
 ((g2 = .full∧t2=ts∧gl++ps = [])∨(g2 = .tok ts.length∧z2=1∧t2=ts++ [some (gl++ps).length])):=by
 have h1:gl.length*(bytes+1)≤bq:=Nat.le_trans (Nat.mul_le_mul_right _ (Nat.le_add_right _ _)) hb
 have h2:ps.length*(bytes+1)≤bq:=Nat.le_trans (Nat.mul_le_mul_right _ (Nat.le_add_left _ _)) hb
 cases gl with
 |nil=>
  cases ps with
  |nil=>exact⟨.full, .full,0,0,ts,ts,fun os=>qR os ts,fun os=>qR os ts, .inl ⟨rfl,rfl,rfl⟩⟩
  |cons a ps=>exact⟨.full, .tok ts.length,0,1,ts,_,fun os=>qR os ts,fun os=>pI (by simp) h2 os ts, .inr ⟨rfl,rfl,rfl⟩⟩
 |cons a gl=>
  refine⟨.tok ts.length, .tok ts.length,1,1,ts++ [some (a::gl).length],ts++ [some (a::gl++ps).length],fun os=>pI (by simp) h1 os ts,fun os=>?_, .inr ⟨rfl,rfl,rfl⟩⟩
  rw[nP (size:=1) hb (by simp)]
  simp;omega
theorem Qs (h:Inv p T W y m loc s) (hp:p.jA) (hb:p.may=true) {i:Nat} {f:Pc} (hf:p.procs[i]? = some f) (amo:p.find f.name=some f) (jm:m.st.length<1000000) {l:List Nat} (hl : ∀ c∈l,c<m.mem.length) (yT:l.length<1000000)
 (hg:p.globals.length≤m.mem.length) (call:Int) :
 ∃ y' s',aH Tryz.prog jZ [.ptr 0 0, .int .i64 (i:Int), .slice .shared 1 (l.map fun c=>fX (y.κ.getD c 0)), .int .i64 call] s (.int .i64 (m.open p (i:Int) l call).1) s'∧Inv p T W y' (m.open p (i:Int) l call).2 loc s':=by
 have hm:=h.kC
 rw[gf]at hm
 have sE:=h.wD
 obtain⟨ui,rn,tD⟩:=hp.procs
 have xL:=hp.small (List.mem_of_getElem? hf)
 have cV:=fun s=>ais hp hb amo s
 have cF:=fun s=>aeC hb hf s
 have hi:i<p.procs.length:=(List.getElem?_eq_some_iff.1 hf).1
 obtain⟨g1,g2,z1,z2,t1,t2,a1,a2,a3⟩:=aeE (gl:=(y.κ.take p.globals.length).map fX) (ps:=l.map fun c=>fX (y.κ.getD c 0)) (bytes:=8) (by simp only[List.length_map,List.length_take];unfold bq;omega) s.aA
 have hA : ∀ e:List (List D),(s.al++e)[0]? = s.al[0]? :=fun e=>List.getElem?_append_left sE
 have n0 : ∀ e1 e2:List (List D),(s.al++e1++e2)[0]? = s.al[0]? :=fun e1 e2=>by rw[List.append_assoc];exact hA _
 have n1 : ∀ a b:List D,(s.al++ [a]++ [b])[s.al.length+1]? = some b:=fun a b=>by simp
 have n2 : ∀ a b:List D,(s.al++ [a]++ [b])[s.al.length]? = some a:=fun a b=>by simp
 have n3 : ∀ a b c:List D,(s.al++ [a]++ [b]).set (s.al.length+1) c=s.al++ [a]++ [c]:=fun a b c=>by simp[List.append_assoc,List.set_append_right]
 have n4 : ∀ a:List D,(s.al++ [a])[s.al.length]? = some a:=fun a=>by simp
 have n5 : ∀ a b:List D,(s.al++ [a]).set s.al.length b=s.al++ [b]:=fun a b=>by simp
 have hpc:bN f = [.str f.name, .slice .shared 2 (f.params.map iJ), .slice .shared 1 (f.vars.map encStr), .slice .shared 13 (f.body.map bd), .slice .shared 1 (f.fin.map encStr)]:=rfl
 generalize hn:s.al.length=n at *
 have PD:(m.open p (i:Int) l call).1=dB f.body (-1)∧(m.open p (i:Int) l call).2 = {m with st:=⟨(i:Int),p.globals++f.own,List.range p.globals.length++l++(List.range f.vars.length).map (m.mem.length + ·),call⟩::m.st,mem:=m.mem++List.replicate f.vars.length 0}:=by
  unfold Mc.open
  rw[Int.toNat_natCast,hf]
  exact⟨rfl,rfl⟩
 rw[PD.1,PD.2]
 generalize lf:(y.κ.take p.globals.length).map fX++l.map (fun c=>fX (y.κ.getD c 0))=lh at *
 have hgr:lh.length<2000000:=by rw[← lf];simp only[List.length_append,List.length_map,List.length_take];omega
 have hvl:=xL.vars
 -- the states of the rounds
 let fr:Nat→List D:=fun k=> [.int .i64 (i:Int), .slice .shared 1 ((p.globals++f.own).map encStr), .slice (.tok s.aA.length) 1 (lh++(List.range k).map (fun j=>fX (n+2+j))), .int .i64 call]
 obtain⟨O,hO⟩ : ∃ O:Nat→List (List D),∀ k,O k=s.al++ [bN f]++ [fr k]++List.replicate k [.int .i64 0]:=⟨_,fun _=>rfl⟩
 have oL : ∀ k,(O k).length=n+2+k:=fun k=>by rw[hO];simp[hn];omega
 have Z5 : ∀ k o,o<n→(O k)[o]? = s.al[o]? :=fun k o ho=>by rw[hO,List.append_assoc,List.append_assoc,List.getElem?_append_left (by omega)]
 have oF : ∀ k,(O k)[n+1]? = some (fr k):=fun k=>by rw[hO,List.getElem?_append_left (by simp[hn])];simp[hn]
 have oC : ∀ k j,j<k→(O k)[n+2+j]? = some [.int .i64 0]:=fun k j hj=>by
  rw[hO,List.getElem?_append_right (by simp only[List.length_append,List.length_singleton,hn];omega)]
  simp only[List.length_append,List.length_singleton,hn]
  rw[show n+2+j - (n+1+1)=j by omega,List.getElem?_replicate_of_lt hj]
 have oF' : ∀ k e,(O k++e)[n+1]? = some (fr k):=fun k e=>by rw[List.getElem?_append_left (by rw[oL];omega)];exact oF k
 have o0 : ∀ k,(O k)[0]? = s.al[0]? :=fun k=>Z5 k 0 sE
 have o0' : ∀ k e,(O k++e)[0]? = s.al[0]? :=fun k e=>by rw[List.getElem?_append_left (by rw[oL];omega)];exact o0 k
 have oS : ∀ k,(O k++ [[D.int .i64 0]]).set (n+1) (fr (k+1))=O (k+1):=fun k=>by
  rw[hO,hO,List.replicate_succ']
  simp only[List.append_assoc]
  rw[List.set_append_right _ _ (by omega),hn,show n+1 - n=1 by omega]
  rfl
 have BV:(List.range p.globals.length++l++(List.range f.vars.length).map (m.mem.length + ·)).map (fun c=>fX ((y.push n f.vars.length .eW).κ.getD c 0))=lh++(List.range f.vars.length).map (fun j=>fX (n+2+j)):=by
  simp only[List.map_append,List.map_map,Lay.push, ← lf]
  congr 1
  ·congr 1
   ·rw [← TL (by rw [h.len];exact hg),List.map_map]
    exact List.map_congr_left fun c mc=>by simp only[Function.comp];rw[Gj (by rw[h.len];have:=List.mem_range.1 mc;omega)]
   ·exact List.map_congr_left fun c mc=>by rw[Gj (by rw[h.len];exact hl c mc)]
  ·exact List.map_congr_left fun j mj=>by simp only[Function.comp];rw[← h.len,Z2 (List.mem_range.1 mj)]
 have atO:kh (fr f.vars.length) (qQ (y.push n f.vars.length .eW).κ ⟨(i:Int),p.globals++f.own,List.range p.globals.length++l++(List.range f.vars.length).map (m.mem.length + ·),call⟩):=by
  unfold qQ
  dsimp only
  rw[BV]
  exact .cons (Wk.refl _) (.cons (Wk.refl _) (.cons (Wk.shared _ _ _) (.cons (Wk.refl _) .nil)))
 -- the stack
 generalize hK:f.vars.length=K at *
 obtain⟨sd,O',e1,e3,e4,e5,e6⟩ : ∃ (sd:D) (O':List (List D)),(∀ tm:Tm,tm.get 70=y.sd→tm.get 72 = .slice .full 1 [[.ptr (n+1) 0]]→aV (.app 1 8 (.s 70) (.s 72)) tm ⟨O K,s.aA++ [some (lh.length+K)]⟩=some (sd,⟨O',s.aA++ [some (lh.length+K)]⟩))∧
  (∀ (o:Nat) (r:List D),(O K)[o]? = some r→o∉y.sd.arr→O'[o]? = some r)∧kB ⟨O',s.aA⟩ sd (((n+1)::y.φ).reverse.map zY)∧(sd.arr=y.sd.arr∨sd.arr = [n+2+K])∧sd.row=some [sd]:=by
  rcases h.stack with ⟨e,e2⟩|⟨so,g,more,e,e2⟩
  ·have hφ:y.φ = []:=by simpa using e2
   refine⟨.dS 1 (n+2+K) 0 1,O K++ [[.int .i64 ((0:Nat):Int), .ptr (n+1) 0]],fun tm h1 h2=>?_,fun o r e _=>by rw[List.getElem?_append_left (gX (s:=⟨O K,[]⟩) e)];exact e, .inr ⟨n+2+K,0,[],by simp[hφ], ?_⟩, .inr rfl,rfl⟩
   ·simp only [aV,X.ev,h1,h2,e]
    rw[FM _ _ _ (by unfold bq;omega)]
    simp only[oL]
   ·rw [hφ]
    show(O K++ [_])[n+2+K]? = _
    rw[← oL K]
    simp[zY]
  ·have atP:so<n:=by have:=gX e2;omega
   have hlen:(y.φ.reverse.map zY).length=m.st.length:=by simp[h.uQ]
   have WT:(O K)[so]? = some (.int .i64 ((g:Nat):Int)::(y.φ.reverse.map zY++more)):=by rw[Z5 K so atP];exact e2
   rw[hlen]at e
   refine⟨.dS 1 so (g+1) (m.st.length+1),(O K).set so (.int .i64 ((g+1:Nat):Int)::(y.φ.reverse.map zY++ [.ptr (n+1) 0])),fun tm h1 h2=>?_,fun o r e hn=>?_, .inr ⟨so,g+1,[],by simp[h.uQ], ?_⟩, .inl (by rw[e];rfl),rfl⟩
   ·simp only [aV,X.ev,h1,h2,e]
    rw[NT (s:=⟨O K,_⟩) WT (by rw[hlen,Nat.mul_one]) (by unfold bq;omega)]
   ·rw[List.getElem?_set_ne (fun e'=>hn (by rw[‹y.sd=_›, ← e'];simp[D.arr]))];exact e
   ·simp[oL,show so<n+2+K by omega,zY]
 have o'0:O'[0]? = s.al[0]? :=by
  rw[hm]
  exact e3 0 _ (by rw[o0];exact hm) (fun mo=>(h.xS (by simp[mo])) rfl)
 have o'l:0<O'.length:=gX (s:=⟨O',[]⟩) (o'0.trans hm)
 have o'f:O'[n+1]? = some (fr K):=e3 _ _ (oF K) (fun mo=>by have:=h.vM (n+1) (by simp[Lay.own,mo]);omega)
 let row:=gf p T W (y.push n K sd) {m with st:=⟨(i:Int),p.globals++f.own,List.range p.globals.length++l++(List.range K).map (m.mem.length + ·),call⟩::m.st,mem:=m.mem++List.replicate K 0}
 refine⟨y.push n K sd,⟨(O'.set 0 row).set (n+1) (qQ (y.push n K sd).κ ⟨(i:Int),p.globals++f.own,List.range p.globals.length++l++(List.range K).map (m.mem.length + ·),call⟩),s.aA++ [some (lh.length+K)]⟩, ?_, ?_⟩
 case refine_2=>
  subst hn
  have gO : ∀ (o:Nat) (r:List D),O'[o]? = some r→o≠0→o≠s.al.length+1→((O'.set 0 row).set (s.al.length+1) (qQ (y.push s.al.length K sd).κ ⟨(i:Int),p.globals++f.own,List.range p.globals.length++l++(List.range K).map (m.mem.length + ·),call⟩))[o]? = some r:=fun o r e h1 h2=>by
   rw[List.getElem?_set_ne (Ne.symm h2),List.getElem?_set_ne (Ne.symm h1)];exact e
  refine h.push (K:=K) (sd:=sd) hg (fun c mc=>?_) (fun o r e h1 h2=>?_) ?_ (fun j hj=>?_) ?_ (e4.keep fun o mo=>?_) e5 ?_ ?_
  ·simp only [List.mem_append,List.mem_range,List.mem_map]at mc
   rcases mc with (mc|mc)|⟨x,mc,rfl⟩
   ·omega
   ·have:=hl c mc;omega
   ·omega
  ·have:=gX e
   exact gO o r (e3 o r (by rw[Z5 K o this];exact e) h2) h1 (by omega)
  ·rw [List.getElem?_set_ne (by omega)]
   simp[o'l,row]
  ·refine gO _ _ (e3 _ _ (oC K j hj) fun mo=> ?_) (by omega) (by omega)
   have:=h.vM _ (show s.al.length+2+j∈y.own by simp[Lay.own,mo]);omega
  ·have:=gX (s:=⟨O',[]⟩) o'f
   rw[List.getElem?_set_self (by rw[List.length_set];exact this)]
  ·have:o≠0∧o≠s.al.length+1:=by
    rcases e5 with e|e
    ·rw [e]at mo
     have h1:=h.vM o (by simp[Lay.own,mo])
     exact⟨h.xS (by simp[mo]),by omega⟩
    ·rw [e]at mo
     have:=List.mem_singleton.1 mo
     exact⟨by omega,by omega⟩
   show(List.set _ _ _)[o]? = _
   rw[List.getElem?_set_ne (Ne.symm this.2),List.getElem?_set_ne (Ne.symm this.1)]
  ·exact List.getElem?_append_left (List.getElem?_eq_some_iff.1 h.t0).1
  ·exact List.getElem?_append_left (List.getElem?_eq_some_iff.1 h.t1).1
 refine bV.up ?_
 refine bV.wz Br rfl fun B Q hB hQ=>?_
 have⟨hD,hZ,gA,gB⟩:=bX
 have loop : ∀ d k:Nat,k+d=K→bp Tryz.prog B 82 QB4 (jq 0 (lR (ki Tryz.prog B 82 QBB Q) Q))
  [(0, .ptr 0 0),(1, .int .i64 (i:Int)),(10, .ptr (n+1) 0),(52, .int .i64 (K:Int)),(53, .int .i64 (k:Int))] ⟨O k,s.aA++ [some (lh.length+k)]⟩:=by
  intro d
  induction d with
  |zero=>
   intro k hk
   have sC:k=K:=by omega
   subst sC
   have hD:decide ((k:Int)<(k:Int))=false:=by simp
   have kx:=o'0.trans hm
   have D1:=o'f
   have xc : ∀ r,(O'.set 0 r)[0]? = some r:=fun r=>List.getElem?_set_self o'l
   refine bp.kO ?_
   repeat' (first
 |simp only[go_sem,hD,hZ,gA,gB,hm,o0,e1,e6,kx,o'l,xc]
 |(with_reducible refine CU (cF _) ?_)
 |(with_reducible first|refine bt fun hc=>?_|refine bu fun hc=>?_|refine bx (fun hc=>?_) fun hc=>?_)<;>(try simp only[hc,bs,↓reduceIte]at h)<;>try simp only[hc]
 |(with_reducible refine aI hQ ?_;(try cases h);simp only[bh,bj,bP,bQ,go_sem,hD,hZ,gA,gB,hm,o0,e1,e6,kx,o'l,xc];try exact cO)
 | (cases h;done))
   (refine iU hQ ?_;simp only[bh,bj,bP,bQ,go_sem])
   have eJ:row = [.dR (gj p) 0, .slice .shared 1 ((y.κ.take p.globals.length).map fX), .slice .shared 1 (T.map cR), .slice .shared 1 (W.map cR),sd,y.vd,
    .int .i64 m.fin, .int .i64 m.steps, .int .i64 m.reads, .slice (.tok 0) 1 (m.out.map cR), .slice (.tok 1) 2 (m.trace.map pH)]:=by
    simp only[row,gf,Lay.push]
    rw[List.take_append_of_le_length (by rw[h.len];exact hg)]
   refine⟨_,⟨(O'.set 0 row).set (n+1) _,_⟩,Wk.refl _, ?_,rfl,rfl,rfl⟩
   rw[eJ]
   exact il.setAt (by rw[List.getElem?_set_ne (by omega)];exact D1) atO
  | succ d ih=>
   intro k hk
   have hD:decide ((k:Int)<(K:Int))=true:=by simp;omega
   have cu:k<4611686018427387904:=by omega
   have hfk:=oF k
   have Z6:=oF' k [[.int .i64 0]]
   have fl:jo 1 8 (.slice (.tok s.aA.length) 1 (lh++(List.range k).map (fun j=>fX (n+2+j)))) (.slice .full 1 [[.ptr (n+2+k) 0]]) ⟨O k++ [[.int .i64 0]],s.aA++ [some (lh.length+k)]⟩ =
    some (.slice (.tok s.aA.length) 1 (lh++(List.range (k+1)).map (fun j=>fX (n+2+j))),⟨O k++ [[.int .i64 0]],s.aA++ [some (lh.length+(k+1))]⟩):=by
    rw[nP (size:=1) (by simp only[List.length_append,List.length_map,List.length_range,List.length_singleton];unfold bq;omega) (by simp)]
    simp[List.range_succ,fX,Nat.add_assoc]
   have oSk:=oS k
   simp only[fr,List.map_append,List.range_succ,List.map_cons,List.map_nil]at hfk Z6 oSk
   refine bp.kO ?_
   repeat' (first
 |simp only[go_sem,hD,hZ,gA,gB,hfk,Z6,oL,fl,oSk]
 |(with_reducible first|refine bt fun hc=>?_|refine bu fun hc=>?_|refine bx (fun hc=>?_) fun hc=>?_)<;>(try simp only[hc,bs,↓reduceIte]at h)<;>try simp only[hc]
 |(with_reducible refine aI hQ ?_;(try cases h);simp only[bh,bj,bP,bQ,go_sem,hD,hZ,gA,gB,hfk,Z6,oL,fl,oSk];try exact cO)
 | (cases h;done))
   refine bp.rl ?_ (ih (k+1) (by omega))
   simp only[go_sem,aN cu]
   repeat' (first|exact Ok.out|with_reducible refine jG ?_ ?_)
 have l0:=loop K 0 (by omega)
 have hO0:O 0=s.al++ [bN f]++ [fr 0]:=by rw[hO];simp
 rw[hO0]at l0
 repeat' (first
 |simp only[go_sem,hD,hZ,gA,gB,hm,hA,n0,n1,n2,n3,n4,n5,hf,a1,a2,pE, ← Hn,hn]
 |(with_reducible refine CU (cV _) ?_)
 |(with_reducible first|refine bt fun hc=>?_|refine bu fun hc=>?_|refine bx (fun hc=>?_) fun hc=>?_)<;>(try simp only[hc,bs,↓reduceIte]at h)<;>try simp only[hc]
 |(with_reducible refine aI hQ ?_;(try cases h);simp only[bh,bj,bP,bQ,go_sem,hD,hZ,gA,gB,hm,hA,n0,n1,n2,n3,n4,n5,hf,a1,a2,pE, ← Hn,hn];try exact cO)
 |(cases h;done))
 simp only[fr,List.range_zero,List.map_nil,List.append_nil,List.map_append]at l0
 rcases a3 with ⟨rfl,rfl,rfl⟩|⟨rfl,rfl,rfl⟩
 ·refine bp.zz (n+1) 2 1 (n1 _ _) rfl ?_
  simp only[n3,List.set_cons_succ,List.set_cons_zero]
  refine bp.rl ?_ l0
  simp only[go_sem,hK]
  repeat' (first|exact Ok.out|with_reducible refine jG ?_ ?_)
 ·refine bp.rl ?_ l0
  simp only[go_sem,hK]
  repeat' (first|exact Ok.out|with_reducible refine jG ?_ ?_)
end
end Go.Abs
namespace Go.Abs
set_option maxRecDepth 8000
open Go.Proofs
section
variable {p:Pg} {T W:List Int} {y:Lay} {m:Mc} {loc:List (Nat×List D)} {s:St}
def xX (fr:Fr) (name:aK) (c:Nat):Prop:=∃ j:Nat,jV name 0 fr.names=(j:Int)∧fr.vars[j]? = some c
theorem xX.cell {fr:Fr} {name:aK} {c:Nat} (h:xX fr name c) (ht:m.top=fr):m.cell name=c:=by
 obtain⟨j,h1,h2⟩:=h
 unfold Mc.cell
 rw[ht,h1,Int.toNat_natCast,List.getD_eq_getElem?_getD,h2];rfl
theorem Inv.pop (h:Inv p T W y m loc s) {fr:Fr} {r:List Fr} (jm:m.st=fr::r) {so g:Nat} (uk:y.sd = .dS 1 so g (r.length+1)) :
 Inv p T W {y with φ:=y.φ.tail,sd:= .dS 1 so g r.length} {m with st:=r} loc ⟨s.al.set 0 (gf p T W {y with φ:=y.φ.tail,sd:= .dS 1 so g r.length} {m with st:=r}),s.aA⟩:=by
 have jf:(D.dS 1 so g r.length).arr=y.sd.arr:=by rw[uk];rfl
 have TO:Lay.own {y with φ:=y.φ.tail,sd:= .dS 1 so g r.length} = y.own:=by simp only[Lay.own,jf]
 have iL:=h.uQ
 rw[jm]at iL
 have ne : ∀ {q:Nat} {r':List D},s.al[q]? = some r'→q≠0→(s.al.set 0 (gf p T W {y with φ:=y.φ.tail,sd:= .dS 1 so g r.length} {m with st:=r}))[q]? = some r':=fun e hn=>by
  rw[List.getElem?_set_ne (Ne.symm hn)];exact e
 have nf : ∀ {q:Nat},q∉y.own→q≠0:=fun hq e=>hq (by rw[e];simp[Lay.own])
 obtain⟨l,hl⟩:=h.bI
 refine⟨by simp[h.wD],h.t0,h.t1,h.len,fun i c v e1 e2=>ne (h.cell i c v e1 e2) (h.xS (by simp[List.mem_of_getElem? e1])),by simp[iL],fun i o Qr e1 e2=>?_, ?_,⟨l,hl.keep fun o mo=>?_⟩,by rw[TO];exact h.own,fun q mq=>?_⟩
 ·obtain⟨f1,f2,f3⟩:=h.frame (i+1) o Qr (by simpa [List.getElem?_tail]using e1) (by rw [jm];simpa using e2)
  exact⟨ne f1 (nf f2),by rw[TO];exact f2,f3⟩
 ·cases hφ:y.φ with
  |nil=>rw[hφ]at iL;simp at iL
  | cons o φ=>
   rw[hφ]at iL
   rcases h.stack with ⟨e,_⟩|⟨so',g',more,e,e2⟩
   ·rw[e]at uk;cases uk
   ·have e':=e
    rw[uk,D.dS.injEq]at e'
    obtain⟨_,rfl,rfl,_⟩:=e'
    refine .inr ⟨so,g,[.ptr o 0]++more,by simp at iL ⊢;omega,ne ?_ (h.xS (by rw[uk];simp[D.arr]))⟩
    rw[e2,hφ]
    simp[zY]
 ·show(s.al.set 0 _)[o]? = _
  rw[List.getElem?_set_ne (Ne.symm (h.xS (by simp[mo])))]
 ·obtain⟨f1,f2⟩:=h.loc q mq
  exact⟨ne f1 (nf f2),by rw[TO];exact f2⟩
theorem NV {L:List Im} {c:Nat} {it:Im} (h:L[c]? = some it) {a:Int} (ha:a=(c:Int)+1):dX L a=it:=by
 unfold dX
 rw[ha,show((c:Int)+1 - 1).toNat=c by omega,List.getD_eq_getElem?_getD,h];rfl
theorem aeF (h:Inv p T W y m loc s) {fr:Fr} {r:List Fr} (ht:oe m fr r) (hL:p.aZ.L.length<1000000)
 (hc:fr.call=0∨∃ (c:Nat) (it:Im) (wC:Fr) (r2:List Fr),fr.call=(c:Int)+1∧p.aZ.L[c]? = some it∧oe {m with st:=r} wC r2∧(it.s.name≠ []→∃ k,xX wC it.s.name k)) (zX:Int) :
 bV Tryz.prog qb [.ptr 0 0, .int .i64 zX] s (Rl p T W (.int .i64 (m.close p.aZ.L zX).1) (m.close p.aZ.L zX).2 (fun y'=>∃ sd,y' = {y with φ:=y.φ.tail,sd:=sd}) loc):=by
 obtain⟨so,g,cells,o,h1,h2,h3,h4,h5⟩:=h.Z0 ht.st
 obtain⟨o',_,H3,c1⟩:=TK h ht.st ht.len
 have ho:o'=o:=by rw[h5]at *;cases ‹some o=some o'›;rfl
 subst ho
 have hm:=h.kC
 rw[gf,h1]at hm
 have hl:=h.wD
 have hp:=h.pop ht.st h1
 have hpf:=hp.kC
 have hlen:=ht.len
 have hw:IntKind.wrap .i64 (((r.length+1:Nat):Int) - 1)=((r.length:Nat):Int):=by rw[show((r.length+1:Nat):Int) - 1=(r.length:Int) by omega];exact eB (by omega) (by omega)
 have wk:zm (.dS 1 so g (r.length+1)) none (some (.int .i64 (r.length:Int)))=some (.dS 1 so g r.length):=by simp[zm,vq,vr];omega
 have xc : ∀ r,(s.al.set 0 r)[0]? = some r:=fun r=>List.getElem?_set_self hl
 rw[qQ]at H3
 have ou:m.close p.aZ.L zX=if fr.call==0 then(-1,{{m with st:=r}with fin:=1})else((dX p.aZ.L fr.call).next,if(dX p.aZ.L fr.call).s.name == []then {m with st:=r}else({m with st:=r} : Mc).set (dX p.aZ.L fr.call).s.name zX):=by
  unfold Mc.close
  rw[ht.top,ht.st];rfl
 rw[ou]
 rcases hc with hc|⟨c,it,wC,r2,hc,rp,vJ,hn⟩
 ·rw [hc]at H3
  have e0:((0:Int)==0)=true:=rfl
  have h5:=hp.vX (m':= {{m with st:=r}with fin:=1}) rfl rfl hp.t0 hp.t1
  rw[gf]at h5
  simp only[List.set_set]at h5
  rw[hc,if_pos e0]
  refine bV.wz sK rfl fun B Q hB hQ=>?_
  have⟨hD,hZ,gA,gB⟩:=bX
  repeat' (first
 |simp only[go_sem,hD,hZ,gA,gB,hm,hl,hw,wk,xc,H3,e0,List.set_set]
 |(with_reducible refine CU (c1) ?_)
 |(with_reducible first|refine bt fun hc=>?_|refine bu fun hc=>?_|refine bx (fun hc=>?_) fun hc=>?_)<;>(try simp only[hc,bs,↓reduceIte]at h)<;>try simp only[hc]
 |(with_reducible refine aI hQ ?_;(try cases h);simp only[bh,bj,bP,bQ,go_sem,hD,hZ,gA,gB,hm,hl,hw,wk,xc,H3,e0,List.set_set];try exact cO)
 |(cases h;done))
  (refine iU hQ ?_;simp only[bh,bj,bP,bQ,go_sem])
  exact⟨rfl,_,⟨_,rfl⟩,h5⟩
 ·rw [hc]at H3
  have D3:IntKind.wrap .i64 ((c:Int)+1 - 1)=(c:Int):=by
   have:=(List.getElem?_eq_some_iff.1 rp).1
   rw[show(c:Int)+1 - 1=(c:Int) by omega];exact eB (by omega) (by omega)
  have e0:((c:Int)+1==0)=false:=by simp;omega
  have atQ:=NV rp hc
  have hz : ∀ (z:List D) (e:List D),(s.al.set 0 e++ [z]).set s.al.length (dP it)=s.al.set 0 e++ [dP it]:=fun z e=>by simp
  have hg : ∀ z e:List D,(s.al.set 0 e++ [z])[s.al.length]? = some z:=fun z e=>by simp
  have cS:(gj p)[2]? = some (.slice .shared 17 (p.aZ.L.map dP)):=rfl
  have yT : ∀ e:List D,(s.al.set 0 e).length=s.al.length:=fun e=>List.length_set
  have dA:=hp.new (dP it)
  rw[gf]at dA
  simp only[yT]at dA
  have Hz:dP it = [.int .i64 it.s.id, .int .i64 it.s.kind, .slice .shared 1 (it.s.labels.map encStr), .str it.s.name, .str it.s.proc, .int .i64 it.s.x.op, .int .i64 it.s.x.n, .str it.s.x.name, .slice .shared 4 (it.s.x.kids.map cb), .bool it.s.has, .slice .shared 6 (it.s.args.map fc), .slice .shared 13 (it.s.aP.map bd), .slice .shared 13 (it.s.aM.map bd), .int .i64 it.proc, .int .i64 it.up, .int .i64 it.next, .int .i64 it.loop]:=rfl
  have c3:(dP it)[3]? = some (.str it.s.name):=rfl
  rw[hc,if_neg (by rw[e0];simp),show dX p.aZ.L ((c:Int)+1)=it from hc ▸ atQ]
  refine bV.wz sK rfl fun B Q hB hQ=>?_
  have⟨hD,hZ,gA,gB⟩:=bX
  rcases Bool.eq_false_or_eq_true (it.s.name == [])with b|b
  ·repeat' (first
 |simp only[go_sem,hD,hZ,gA,gB,hm,hl,hw,wk,xc,H3,e0,D3,rp,hz,hg,yT,c3,b,cS]
 |(with_reducible refine CU (c1) ?_)
 |(with_reducible first|refine bt fun hc=>?_|refine bu fun hc=>?_|refine bx (fun hc=>?_) fun hc=>?_)<;>(try simp only[hc,bs,↓reduceIte]at h)<;>try simp only[hc]
 |(with_reducible refine aI hQ ?_;(try cases h);simp only[bh,bj,bP,bQ,go_sem,hD,hZ,gA,gB,hm,hl,hw,wk,xc,H3,e0,D3,rp,hz,hg,yT,c3,b,cS];try exact cO)
 | (cases h;done))
   (refine iU hQ ?_;simp only[bh,bj,bP,bQ,go_sem])
   refine⟨rfl,{y with φ:=y.φ.tail,sd:= .dS 1 so g r.length},⟨_,rfl⟩, ?_⟩
   simp only[b,if_true]
   exact dA.sub fun q mq=>List.mem_cons_of_mem _ mq
  ·obtain⟨k,hk⟩:=hn (by intro e;rw [e]at b;cases b)
   have NW:=hk.cell vJ.top
   obtain⟨j,hj,D4⟩:=hk
   have c2:=EK dA vJ.st vJ.len vJ.names hj D4
   have hkm:k<m.mem.length:=by
    have hlp:=hp.uQ
    rw[vJ.st]at hlp
    cases hφ:y.φ.tail with
    |nil=>simp[hφ]at hlp
    |cons o2 φ2=>exact(hp.frame 0 o2 wC (by simp[hφ]) (by rw[vJ.st];rfl)).2.2 k (List.mem_of_getElem? D4)
   have hκ:y.κ[k]? = some (y.κ.getD k 0):=by
    rw[List.getD_eq_getElem?_getD,List.getElem?_eq_getElem (by have:=h.len;omega)];rfl
   have iR:=dA.cell k _ _ hκ (List.getElem?_eq_getElem hkm)
   have xN:=dA.ZW hκ zX
   have j8:=(xN.loc (s.al.length,dP it) (List.mem_cons_self ..)).1
   simp only at iR xN j8 c2
   have hb:(it.s.name != [])=true:=by simp[bne,b]
   repeat' (first
 |simp only[go_sem,hD,hZ,gA,gB,hm,hl,hw,wk,xc,H3,e0,D3,rp,hz,hg,yT,c3,b,cS,iR,j8]
 |(with_reducible refine CU (c1) ?_)
 |(with_reducible refine CU (c2) ?_)
 |(with_reducible first|refine bt fun hc=>?_|refine bu fun hc=>?_|refine bx (fun hc=>?_) fun hc=>?_)<;>(try simp only[hc,bs,↓reduceIte]at h)<;>try simp only[hc]
 |(with_reducible refine aI hQ ?_;(try cases h);simp only[bh,bj,bP,bQ,go_sem,hD,hZ,gA,gB,hm,hl,hw,wk,xc,H3,e0,D3,rp,hz,hg,yT,c3,b,cS,iR,j8];try exact cO)
 | (cases h;done))
   (refine iU hQ ?_;simp only[bh,bj,bP,bQ,go_sem])
   refine⟨rfl,{y with φ:=y.φ.tail,sd:= .dS 1 so g r.length},⟨_,rfl⟩, ?_⟩
   simp only[b,Bool.false_eq_true,if_false,Mc.set,NW]
   exact xN.sub fun q mq=>List.mem_cons_of_mem _ mq
end
end Go.Abs
namespace Go.Abs
set_option maxRecDepth 8000
open Go.Proofs
section
variable {p:Pg} {T W:List Int} {y:Lay} {m:Mc} {loc:List (Nat×List D)} {s:St}
structure aix (p:Pg) (fr:Fr) (it:Im):Prop where
 said:it.s.oI
 brk:it.s.kind=7→∃ (c:Nat) (it2:Im),it.loop=(c:Int)+1∧p.aZ.L[c]? = some it2
 xO:it.s.kind=10→∃ (i:Nat) (f:Pc),it.proc=(i:Int)∧p.procs[i]? = some f
 name:it.s.kind=1∨it.s.kind=2→∃ k,xX fr it.s.name k
 aP:it.s.aP.length<1000000
 aM:it.s.aM.length<1000000
structure Lt (p:Pg) (T W:List Int) (m:Mc):Prop where
 W:W.length<1000000
 T:T.length<1000000
 trace:m.trace.length<2000000
 out:m.out.length<2000000
 L:p.aZ.L.length<1000000
 P:Pc.a7 p.procs<1000000000
 reads:0≤m.reads∧m.reads<2000000
theorem cell_of (h:Inv p T W y m loc s) {fr:Fr} {r:List Fr} (jm:m.st=fr::r) {c j:Nat} (hc:fr.vars[j]? = some c):y.κ[c]? = some (y.κ.getD c 0)∧∃ v,m.mem[c]? = some v∧s.al[y.κ.getD c 0]? = some [.int .i64 v]:=by
 have iL:=h.uQ
 rw[jm]at iL
 cases hφ:y.φ with
 |nil=>simp[hφ]at iL
 | cons o φ=>
  have WS:=(h.frame 0 o fr (by simp[hφ]) (by rw[jm];rfl)).2.2 c (List.mem_of_getElem? hc)
  have hκ:y.κ[c]? = some (y.κ.getD c 0):=by
   rw[List.getD_eq_getElem?_getD,List.getElem?_eq_getElem (by have:=h.len;omega)];rfl
  exact⟨hκ,_,List.getElem?_eq_getElem WS,h.cell c _ _ hκ (List.getElem?_eq_getElem WS)⟩
theorem atS (hp:p.jA) (Z7:p.may=true) (h:Inv p T W y m loc s) {fr:Fr} {r:List Fr} (ht:oe m fr r) (hz:Lt p T W m) {it:Im} (hd:aix p fr it) :
 bV Tryz.prog sr [.ptr 0 0, .agg (dP it)] s (Rl p T W (.int .i64 (m.do p p.aZ.L T W it).1) (m.do p p.aZ.L T W it).2 (fun y'=>∃ vd,y' = {y with vd:=vd}) loc):=by
 have h1:=(h.new (dP it)).new (bd it.s)
 simp only[List.length_append,List.length_singleton]at h1
 have z0 : ∀ z:List D,(s.al++ [z])[s.al.length]? = some z:=fun z=>by simp
 have z1 : ∀ z:List D,(s.al++ [dP it]++ [z]).set (s.al.length+1) (bd it.s)=s.al++ [dP it]++ [bd it.s]:=fun z=>by simp[List.append_assoc,List.set_append_right]
 have z2 : ∀ a z:List D,(s.al++ [a]++ [z])[s.al.length+1]? = some z:=fun a z=>by simp
 have z3 : ∀ a z:List D,(s.al++ [a]++ [z])[s.al.length]? = some a:=fun a z=>by simp
 have z4:=h1.kC
 rw[gf]at z4
 have tC:=h1.wD
 simp only at z4 tC
 have cS:(gj p)[2]? = some (.slice .shared 17 (p.aZ.L.map dP)):=rfl
 have oT : ∀ q∈loc,q∈(s.al.length+1,bd it.s)::(s.al.length,dP it)::loc:=fun q mq=>List.mem_cons_of_mem _ (List.mem_cons_of_mem _ mq)
 generalize hn:s.al.length=n at *
 have j8 : ∀ {y2:Lay} {m2:Mc} {s2:St},Inv p T W y2 m2 ((n+1,bd it.s)::(n,dP it)::loc) s2→s2.al[n]? = some (dP it)∧s2.al[n+1]? = some (bd it.s)∧0<s2.al.length:=fun h2=>
  ⟨(h2.loc (n,dP it) (by simp)).1,(h2.loc (n+1,bd it.s) (by simp)).1,h2.wD⟩
 rcases Bool.eq_false_or_eq_true (it.s.kind==7)with b7|b7
 ·have c1:=xV h1 hz.W hz.trace it.s.id
  obtain⟨c,it2,e1,e2⟩:=hd.brk (by simpa using b7)
  have hw:IntKind.wrap .i64 ((c:Int)+1 - 1)=(c:Int):=by
   have:=(List.getElem?_eq_some_iff.1 e2).1
   have:=hz.L
   rw[show(c:Int)+1 - 1=(c:Int) by omega];exact eB (by omega) (by omega)
  have xZ:m.do p p.aZ.L T W it=(it2.next,m.event W it.s.id []):=by
   unfold Mc.do
   dsimp only
   rw[if_pos b7,NV e2 e1]
  rw[xZ]
  refine bV.wz jj rfl fun B Q hB hQ=>?_
  have⟨hD,hZ,gA,gB⟩:=bX
  repeat' (first
 |simp only[go_sem,hD,hZ,gA,gB,z0,z1,z2,z3,hn,b7]
 |(with_reducible first|refine bt fun hc=>?_|refine bu fun hc=>?_|refine bx (fun hc=>?_) fun hc=>?_)<;>(try simp only[hc,bs,↓reduceIte]at h)<;>try simp only[hc]
 |(with_reducible refine aI hQ ?_;(try cases h);simp only[bh,bj,bP,bQ,go_sem,hD,hZ,gA,gB,z0,z1,z2,z3,hn,b7];try exact cO)
 |(cases h;done))
  refine CR c1 fun d s2 h2=>?_
  obtain⟨rfl,y2,rfl,h2⟩:=h2
  obtain⟨x1,x2,x3⟩:=j8 h2
  have kx:=h2.kC
  rw[gf]at kx
  repeat' (first
 |simp only[go_sem,hD,hZ,gA,gB,x1,x2,kx,cS,e1,hw,e2]
 |(with_reducible first|refine bt fun hc=>?_|refine bu fun hc=>?_|refine bx (fun hc=>?_) fun hc=>?_)<;>(try simp only[hc,bs,↓reduceIte]at h)<;>try simp only[hc]
 |(with_reducible refine aI hQ ?_;(try cases h);simp only[bh,bj,bP,bQ,go_sem,hD,hZ,gA,gB,x1,x2,kx,cS,e1,hw,e2];try exact cO)
 |(cases h;done))
  (refine iU hQ ?_;simp only[bh,bj,bP,bQ,go_sem])
  exact⟨rfl,_,⟨_,rfl⟩,h2.sub oT⟩
 rcases Bool.eq_false_or_eq_true (it.s.kind==8)with b8|b8
 ·have c1:=xV h1 hz.W hz.trace it.s.id
  have xZ:m.do p p.aZ.L T W it=(it.loop,m.event W it.s.id []):=by
   unfold Mc.do
   dsimp only
   rw[if_neg (by simp[b7]),if_pos b8]
  rw[xZ]
  refine bV.wz jj rfl fun B Q hB hQ=>?_
  have⟨hD,hZ,gA,gB⟩:=bX
  repeat' (first
 |simp only[go_sem,hD,hZ,gA,gB,z0,z1,z2,z3,hn,b7,b8]
 |(with_reducible first|refine bt fun hc=>?_|refine bu fun hc=>?_|refine bx (fun hc=>?_) fun hc=>?_)<;>(try simp only[hc,bs,↓reduceIte]at h)<;>try simp only[hc]
 |(with_reducible refine aI hQ ?_;(try cases h);simp only[bh,bj,bP,bQ,go_sem,hD,hZ,gA,gB,z0,z1,z2,z3,hn,b7,b8];try exact cO)
 |(cases h;done))
  refine CR c1 fun d s2 h2=>?_
  obtain⟨rfl,y2,rfl,h2⟩:=h2
  obtain⟨x1,x2,x3⟩:=j8 h2
  repeat' (first
 |simp only[go_sem,hD,hZ,gA,gB,x1,x2]
 |(with_reducible first|refine bt fun hc=>?_|refine bu fun hc=>?_|refine bx (fun hc=>?_) fun hc=>?_)<;>(try simp only[hc,bs,↓reduceIte]at h)<;>try simp only[hc]
 |(with_reducible refine aI hQ ?_;(try cases h);simp only[bh,bj,bP,bQ,go_sem,hD,hZ,gA,gB,x1,x2];try exact cO)
 |(cases h;done))
  (refine iU hQ ?_;simp only[bh,bj,bP,bQ,go_sem])
  exact⟨rfl,_,⟨_,rfl⟩,h2.sub oT⟩
 rcases Bool.eq_false_or_eq_true (it.s.kind==10)with vO|vO
 ·have c1:=xV h1 hz.W hz.trace it.s.id
  obtain⟨i,f,e1,e2⟩:=hd.xO (by simpa using vO)
  have cA:=fun s=>ah7 hp Z7 e2 it.s.name s
  have xZ:m.do p p.aZ.L T W it=((gM f.fin it.s.name (Sm.cf f.body)).1,m.event W it.s.id []):=by
   unfold Mc.do
   dsimp only
   rw[if_neg (by simp[b7]),if_neg (by simp[b8]),if_pos vO,e1,Int.toNat_natCast,e2]
  rw[xZ]
  refine bV.wz jj rfl fun B Q hB hQ=>?_
  have⟨hD,hZ,gA,gB⟩:=bX
  repeat' (first
 |simp only[go_sem,hD,hZ,gA,gB,z0,z1,z2,z3,hn,b7,b8,vO]
 |(with_reducible first|refine bt fun hc=>?_|refine bu fun hc=>?_|refine bx (fun hc=>?_) fun hc=>?_)<;>(try simp only[hc,bs,↓reduceIte]at h)<;>try simp only[hc]
 |(with_reducible refine aI hQ ?_;(try cases h);simp only[bh,bj,bP,bQ,go_sem,hD,hZ,gA,gB,z0,z1,z2,z3,hn,b7,b8,vO];try exact cO)
 |(cases h;done))
  refine CR c1 fun d s2 h2=>?_
  obtain⟨rfl,y2,rfl,h2⟩:=h2
  obtain⟨x1,x2,x3⟩:=j8 h2
  have kx:=h2.kC
  rw[gf]at kx
  repeat' (first
 |simp only[go_sem,hD,hZ,gA,gB,x1,x2,kx,e1]
 |(with_reducible refine CU (cA _) ?_)
 |(with_reducible first|refine bt fun hc=>?_|refine bu fun hc=>?_|refine bx (fun hc=>?_) fun hc=>?_)<;>(try simp only[hc,bs,↓reduceIte]at h)<;>try simp only[hc]
 |(with_reducible refine aI hQ ?_;(try cases h);simp only[bh,bj,bP,bQ,go_sem,hD,hZ,gA,gB,x1,x2,kx,e1];try exact cO)
 |(cases h;done))
  (refine iU hQ ?_;simp only[bh,bj,bP,bQ,go_sem])
  exact⟨rfl,_,⟨_,rfl⟩,h2.sub oT⟩
 rcases Bool.eq_false_or_eq_true (it.s.kind==2)with b2|b2
 ·obtain⟨k,hk⟩:=hd.name (.inr (by simpa using b2))
  have jF:=hz.reads
  have hTl:=hz.T
  have JC:=jF.1
  have aBZ : ∀ r,((s.al++ [dP it]++ [bd it.s]).set 0 r)[0]? = some r:=fun r=>List.getElem?_set_self tC
  cases e:T[m.reads.toNat]? with
  | none=>
   have wv:decide (m.reads≥(T.length:Int))=true:=by have:=List.getElem?_eq_none_iff.1 e;simp;omega
   have xZ:m.do p p.aZ.L T W it=(-1,{m with fin:=3}):=by
    unfold Mc.do
    dsimp only
    rw[if_neg (by simp[b7]),if_neg (by simp[b8]),if_neg (by simp[vO]),if_pos b2,e]
   rw[xZ]
   have h2:=h1.vX (m':= {m with fin:=3}) rfl rfl h1.t0 h1.t1
   rw[gf]at h2
   simp only at h2
   refine bV.wz jj rfl fun B Q hB hQ=>?_
   have⟨hD,hZ,gA,gB⟩:=bX
   repeat' (first
 |simp only[go_sem,hD,hZ,gA,gB,z0,z1,z2,z3,z4,hn,b7,b8,vO,b2,wv,tC]
 |(with_reducible first|refine bt fun hc=>?_|refine bu fun hc=>?_|refine bx (fun hc=>?_) fun hc=>?_)<;>(try simp only[hc,bs,↓reduceIte]at h)<;>try simp only[hc]
 |(with_reducible refine aI hQ ?_;(try cases h);simp only[bh,bj,bP,bQ,go_sem,hD,hZ,gA,gB,z0,z1,z2,z3,z4,hn,b7,b8,vO,b2,wv,tC];try exact cO)
 | (cases h;done))
   (refine iU hQ ?_;simp only[bh,bj,bP,bQ,go_sem])
   exact⟨rfl,_,⟨_,rfl⟩,h2.sub oT⟩
  | some v=>
   have wv:decide (m.reads≥(T.length:Int))=false:=by have:=(List.getElem?_eq_some_iff.1 e).1;simp;omega
   have H5:IntKind.wrap .i64 (m.reads+1)=m.reads+1:=eB (by omega) (by omega)
   have NW:=hk.cell ht.top
   obtain⟨j,hj,D4⟩:=hk
   have xZ:m.do p p.aZ.L T W it=(it.next,(({m with reads:=m.reads+1,mem:=m.mem.set k v} : Mc).event W it.s.id [v])):=by
    unfold Mc.do
    dsimp only
    rw[if_neg (by simp[b7]),if_neg (by simp[b8]),if_neg (by simp[vO]),if_pos b2,e]
    have:({m with reads:=m.reads+1} : Mc).cell it.s.name=k:=NW
    simp only[Mc.set,this]
   rw[xZ]
   have h2:=h1.vX (m':= {m with reads:=m.reads+1}) rfl rfl h1.t0 h1.t1
   have vJ:oe ({m with reads:=m.reads+1} : Mc) fr r:=⟨ht.st,ht.len,ht.names,ht.vars⟩
   have c2:=EK h2 vJ.st vJ.len vJ.names hj D4
   obtain⟨hκ,v0,g1,g2⟩:=cell_of h2 vJ.st D4
   have h3:=h2.ZW hκ v
   have c3:=Gi h3 hz.W hz.trace it.s.id v
   obtain⟨x1,x2,x3⟩:=j8 h3
   obtain⟨x4,x5,x6⟩:=j8 h2
   rw[gf]at c2 g2 c3 x1 x2 x4 x5
   simp only at c2 g2 c3 x1 x2 x4 x5
   refine bV.wz jj rfl fun B Q hB hQ=>?_
   have⟨hD,hZ,gA,gB⟩:=bX
   repeat' (first
 |simp only[go_sem,hD,hZ,gA,gB,z0,z1,z2,z3,z4,hn,b7,b8,vO,b2,wv,tC,e,H5,JC,x1,x2,x4,x5,g2]
 |(with_reducible refine CU (c2) ?_)
 |(with_reducible first|refine bt fun hc=>?_|refine bu fun hc=>?_|refine bx (fun hc=>?_) fun hc=>?_)<;>(try simp only[hc,bs,↓reduceIte]at h)<;>try simp only[hc]
 |(with_reducible refine aI hQ ?_;(try cases h);simp only[bh,bj,bP,bQ,go_sem,hD,hZ,gA,gB,z0,z1,z2,z3,z4,hn,b7,b8,vO,b2,wv,tC,e,H5,JC,x1,x2,x4,x5,g2];try exact cO)
 | (cases h;done))
   refine CR c3 fun d s2 h4=>?_
   obtain⟨rfl,y2,rfl,h4⟩:=h4
   obtain⟨x1,x2,x3⟩:=j8 h4
   repeat' (first
 |simp only[go_sem,hD,hZ,gA,gB,x1,x2]
 |(with_reducible first|refine bt fun hc=>?_|refine bu fun hc=>?_|refine bx (fun hc=>?_) fun hc=>?_)<;>(try simp only[hc,bs,↓reduceIte]at h)<;>try simp only[hc]
 |(with_reducible refine aI hQ ?_;(try cases h);simp only[bh,bj,bP,bQ,go_sem,hD,hZ,gA,gB,x1,x2];try exact cO)
 | (cases h;done))
   (refine iU hQ ?_;simp only[bh,bj,bP,bQ,go_sem])
   exact⟨rfl,_,⟨_,rfl⟩,h4.sub oT⟩
 -- an expression is reckoned
 have hx:it.s.x.size<1000000:=by have:=hd.said.2.2;omega
 have c1:=Gh h1 ht hx hd.said.1
 rcases Bool.eq_false_or_eq_true (m.bg it.s.x).1.2 with bw|bw
 case inr=>
  have xZ:m.do p p.aZ.L T W it=(-1,(m.bg it.s.x).2):=by
   unfold Mc.do
   dsimp only
   rw[if_neg (by simp[b7]),if_neg (by simp[b8]),if_neg (by simp[vO]),if_neg (by simp[b2]),if_neg (by simp[bw])]
  rw[xZ]
  refine bV.wz jj rfl fun B Q hB hQ=>?_
  have⟨hD,hZ,gA,gB⟩:=bX
  repeat' (first
 |simp only[go_sem,hD,hZ,gA,gB,z0,z1,z2,z3,hn,b7,b8,vO,b2]
 |(with_reducible first|refine bt fun hc=>?_|refine bu fun hc=>?_|refine bx (fun hc=>?_) fun hc=>?_)<;>(try simp only[hc,bs,↓reduceIte]at h)<;>try simp only[hc]
 |(with_reducible refine aI hQ ?_;(try cases h);simp only[bh,bj,bP,bQ,go_sem,hD,hZ,gA,gB,z0,z1,z2,z3,hn,b7,b8,vO,b2];try exact cO)
 |(cases h;done))
  refine CR c1 fun d s2 h2=>?_
  obtain⟨⟨rfl,y2,xW,h2⟩,_⟩:=h2
  repeat' (first
 |simp only[go_sem,hD,hZ,gA,gB,bw]
 |(with_reducible first|refine bt fun hc=>?_|refine bu fun hc=>?_|refine bx (fun hc=>?_) fun hc=>?_)<;>(try simp only[hc,bs,↓reduceIte]at h)<;>try simp only[hc]
 |(with_reducible refine aI hQ ?_;(try cases h);simp only[bh,bj,bP,bQ,go_sem,hD,hZ,gA,gB,bw];try exact cO)
 |(cases h;done))
  (refine iU hQ ?_;simp only[bh,bj,bP,bQ,go_sem])
  exact⟨rfl,y2,⟨_,xW⟩,h2.sub oT⟩
 have WU:(m.bg it.s.x).2=m:=by
  unfold Mc.bg
  dsimp only
  rw[if_pos (show(it.s.x.bg m.top.names m.bI).2=true from bw)]
 have xZ:m.do p p.aZ.L T W it=(let m1:=m.event W it.s.id [(m.bg it.s.x).1.1];let n:=(m.bg it.s.x).1.1
  if it.s.kind==1 then(it.next,m1.set it.s.name n)else if it.s.kind==3 then(it.next,{m1 with out:=m1.out++ [n]})
  else if it.s.kind==5 then(if n==0 then firstM it.s.aM it.next else firstM it.s.aP it.next,m1)else if it.s.kind==6 then(if n==0 then it.next else firstM it.s.aP it.s.id,m1)else(it.next,m1)):=by
  unfold Mc.do
  dsimp only
  rw[if_neg (by simp[b7]),if_neg (by simp[b8]),if_neg (by simp[vO]),if_neg (by simp[b2]),if_pos bw,WU]
 rw[xZ]
 rw[WU]at c1
 generalize hR:(m.bg it.s.x).1=R at *
 obtain⟨v,ok⟩:=R
 subst bw
 dsimp only
 have he:=fz W m it.s.id [v]
 have WV:oe (m.event W it.s.id [v]) fr r:=⟨by rw[he.1];exact ht.st,ht.len,ht.names,ht.vars⟩
 have nb:(v != 0) = !(v==0):=rfl
 have fT:=fun o s=>Qq it.s.aP (by have:=hd.aP;omega) o s
 have fE:=fun o s=>Qq it.s.aM (by have:=hd.aM;omega) o s
 refine bV.wz jj rfl fun B Q hB hQ=>?_
 have⟨hD,hZ,gA,gB⟩:=bX
 repeat' (first
 |simp only[go_sem,hD,hZ,gA,gB,z0,z1,z2,z3,hn,b7,b8,vO,b2]
 |(with_reducible first|refine bt fun hc=>?_|refine bu fun hc=>?_|refine bx (fun hc=>?_) fun hc=>?_)<;>(try simp only[hc,bs,↓reduceIte]at h)<;>try simp only[hc]
 |(with_reducible refine aI hQ ?_;(try cases h);simp only[bh,bj,bP,bQ,go_sem,hD,hZ,gA,gB,z0,z1,z2,z3,hn,b7,b8,vO,b2];try exact cO)
 |(cases h;done))
 refine CR c1 fun d s2 h2=>?_
 obtain⟨⟨rfl,y2,xW,h2⟩,_⟩:=h2
 obtain⟨x1,x2,x3⟩:=j8 h2
 have c2:=Gi h2 hz.W hz.trace it.s.id v
 repeat' (first
 |simp only[go_sem,hD,hZ,gA,gB,x1,x2]
 |(with_reducible first|refine bt fun hc=>?_|refine bu fun hc=>?_|refine bx (fun hc=>?_) fun hc=>?_)<;>(try simp only[hc,bs,↓reduceIte]at h)<;>try simp only[hc]
 |(with_reducible refine aI hQ ?_;(try cases h);simp only[bh,bj,bP,bQ,go_sem,hD,hZ,gA,gB,x1,x2];try exact cO)
 |(cases h;done))
 refine CR c2 fun d s3 h3=>?_
 obtain⟨rfl,y3,rfl,h3⟩:=h3
 obtain⟨x1,x2,x3⟩:=j8 h3
 have pT:=h3.kC
 rw[gf]at pT
 rcases Bool.eq_false_or_eq_true (it.s.kind==1)with b1|b1
 ·obtain⟨k,hk⟩:=hd.name (.inl (by simpa using b1))
  have NW:=hk.cell WV.top
  obtain⟨j,hj,D4⟩:=hk
  have c3:=EK h3 WV.st WV.len WV.names hj D4
  obtain⟨hκ,v0,g1,g2⟩:=cell_of h3 WV.st D4
  have h4:=h3.ZW hκ v
  obtain⟨x4,x5,x6⟩:=j8 h4
  simp only at x4 x5
  repeat' (first
 |simp only[go_sem,hD,hZ,gA,gB,x1,x2,b1,g2,x4,x5]
 |(with_reducible refine CU (c3) ?_)
 |(with_reducible first|refine bt fun hc=>?_|refine bu fun hc=>?_|refine bx (fun hc=>?_) fun hc=>?_)<;>(try simp only[hc,bs,↓reduceIte]at h)<;>try simp only[hc]
 |(with_reducible refine aI hQ ?_;(try cases h);simp only[bh,bj,bP,bQ,go_sem,hD,hZ,gA,gB,x1,x2,b1,g2,x4,x5];try exact cO)
 |(cases h;done))
  (refine iU hQ ?_;simp only[bh,bj,bP,bQ,go_sem])
  rw[if_pos b1]
  refine⟨rfl,y3,⟨_,xW⟩, ?_⟩
  simp only[Mc.set,NW]
  exact h4.sub oT
 rw[if_neg (by simp[b1])]at hQ
 rcases Bool.eq_false_or_eq_true (it.s.kind==3)with b3|b3
 ·rw [if_pos b3]at hQ
  have fl:jo 1 8 (.slice (.tok 0) 1 ((m.event W it.s.id [v]).out.map cR)) (.slice .full 1 [[.int .i64 v]]) s3=some (.slice (.tok 0) 1 (((m.event W it.s.id [v]).out++ [v]).map cR),⟨s3.al,s3.aA.set 0 (some ((m.event W it.s.id [v]).out.length+1))⟩):=by
   rw[nP (size:=1) (by simp only[List.length_map,List.length_singleton,he.2.2.2.2.2];have:=hz.out;unfold bq;omega) (by simpa using h3.t0)]
   simp[cR]
  have h4:=h3.vX (m':= {m.event W it.s.id [v]with out:=(m.event W it.s.id [v]).out++ [v]}) (ts:=s3.aA.set 0 (some ((m.event W it.s.id [v]).out.length+1))) rfl rfl (by simp[(List.getElem?_eq_some_iff.1 h3.t0).1]) (by rw[List.getElem?_set_ne (by omega)];exact h3.t1)
  obtain⟨x4,x5,x6⟩:=j8 h4
  rw[gf]at h4 x4 x5
  simp only[List.map_append,List.map_cons,List.map_nil,cR]at h4 x4 x5 fl
  repeat' (first
 |simp only[go_sem,hD,hZ,gA,gB,x1,x2,b1,b3,pT,fl,x3,x4,x5]
 |(with_reducible first|refine bt fun hc=>?_|refine bu fun hc=>?_|refine bx (fun hc=>?_) fun hc=>?_)<;>(try simp only[hc,bs,↓reduceIte]at h)<;>try simp only[hc]
 |(with_reducible refine aI hQ ?_;(try cases h);simp only[bh,bj,bP,bQ,go_sem,hD,hZ,gA,gB,x1,x2,b1,b3,pT,fl,x3,x4,x5];try exact cO)
 |(cases h;done))
  (refine iU hQ ?_;simp only[bh,bj,bP,bQ,go_sem])
  exact⟨rfl,y3,⟨_,xW⟩,h4.sub oT⟩
 rw[if_neg (by simp[b3])]at hQ
 rcases Bool.eq_false_or_eq_true (it.s.kind==5)with b5|b5
 ·rw [if_pos b5]at hQ
  rcases Bool.eq_false_or_eq_true (v==0)with bv|bv
  ·rw [if_pos bv]at hQ
   repeat' (first
 |simp only[go_sem,hD,hZ,gA,gB,x1,x2,b1,b3,b5,nb,bv]
 |(with_reducible refine CU (fT _ _) ?_)
 |(with_reducible refine CU (fE _ _) ?_)
 |(with_reducible first|refine bt fun hc=>?_|refine bu fun hc=>?_|refine bx (fun hc=>?_) fun hc=>?_)<;>(try simp only[hc,bs,↓reduceIte]at h)<;>try simp only[hc]
 |(with_reducible refine aI hQ ?_;(try cases h);simp only[bh,bj,bP,bQ,go_sem,hD,hZ,gA,gB,x1,x2,b1,b3,b5,nb,bv];try exact cO)
 | (cases h;done))
   (refine iU hQ ?_;simp only[bh,bj,bP,bQ,go_sem])
   exact⟨rfl,y3,⟨_,xW⟩,h3.sub oT⟩
  ·rw [if_neg (by simp [bv])]at hQ
   repeat' (first
 |simp only[go_sem,hD,hZ,gA,gB,x1,x2,b1,b3,b5,nb,bv]
 |(with_reducible refine CU (fT _ _) ?_)
 |(with_reducible refine CU (fE _ _) ?_)
 |(with_reducible first|refine bt fun hc=>?_|refine bu fun hc=>?_|refine bx (fun hc=>?_) fun hc=>?_)<;>(try simp only[hc,bs,↓reduceIte]at h)<;>try simp only[hc]
 |(with_reducible refine aI hQ ?_;(try cases h);simp only[bh,bj,bP,bQ,go_sem,hD,hZ,gA,gB,x1,x2,b1,b3,b5,nb,bv];try exact cO)
 | (cases h;done))
   (refine iU hQ ?_;simp only[bh,bj,bP,bQ,go_sem])
   exact⟨rfl,y3,⟨_,xW⟩,h3.sub oT⟩
 rw[if_neg (by simp[b5])]at hQ
 rcases Bool.eq_false_or_eq_true (it.s.kind==6)with b6|b6
 ·rw [if_pos b6]at hQ
  rcases Bool.eq_false_or_eq_true (v==0)with bv|bv
  ·rw [if_pos bv]at hQ
   repeat' (first
 |simp only[go_sem,hD,hZ,gA,gB,x1,x2,b1,b3,b5,b6,nb,bv]
 |(with_reducible refine CU (fT _ _) ?_)
 |(with_reducible refine CU (fE _ _) ?_)
 |(with_reducible first|refine bt fun hc=>?_|refine bu fun hc=>?_|refine bx (fun hc=>?_) fun hc=>?_)<;>(try simp only[hc,bs,↓reduceIte]at h)<;>try simp only[hc]
 |(with_reducible refine aI hQ ?_;(try cases h);simp only[bh,bj,bP,bQ,go_sem,hD,hZ,gA,gB,x1,x2,b1,b3,b5,b6,nb,bv];try exact cO)
 | (cases h;done))
   (refine iU hQ ?_;simp only[bh,bj,bP,bQ,go_sem])
   exact⟨rfl,y3,⟨_,xW⟩,h3.sub oT⟩
  ·rw [if_neg (by simp [bv])]at hQ
   repeat' (first
 |simp only[go_sem,hD,hZ,gA,gB,x1,x2,b1,b3,b5,b6,nb,bv]
 |(with_reducible refine CU (fT _ _) ?_)
 |(with_reducible refine CU (fE _ _) ?_)
 |(with_reducible first|refine bt fun hc=>?_|refine bu fun hc=>?_|refine bx (fun hc=>?_) fun hc=>?_)<;>(try simp only[hc,bs,↓reduceIte]at h)<;>try simp only[hc]
 |(with_reducible refine aI hQ ?_;(try cases h);simp only[bh,bj,bP,bQ,go_sem,hD,hZ,gA,gB,x1,x2,b1,b3,b5,b6,nb,bv];try exact cO)
 | (cases h;done))
   (refine iU hQ ?_;simp only[bh,bj,bP,bQ,go_sem])
   exact⟨rfl,y3,⟨_,xW⟩,h3.sub oT⟩
 rw[if_neg (by simp[b6])]at hQ
 repeat' (first
 |simp only[go_sem,hD,hZ,gA,gB,x1,x2,b1,b3,b5,b6]
 |(with_reducible first|refine bt fun hc=>?_|refine bu fun hc=>?_|refine bx (fun hc=>?_) fun hc=>?_)<;>(try simp only[hc,bs,↓reduceIte]at h)<;>try simp only[hc]
 |(with_reducible refine aI hQ ?_;(try cases h);simp only[bh,bj,bP,bQ,go_sem,hD,hZ,gA,gB,x1,x2,b1,b3,b5,b6];try exact cO)
 |(cases h;done))
 (refine iU hQ ?_;simp only[bh,bj,bP,bQ,go_sem])
 exact⟨rfl,y3,⟨_,xW⟩,h3.sub oT⟩
end
end Go.Abs
namespace Go.Abs
set_option maxRecDepth 8000
open Go.Proofs
section
variable {p:Pg} {T W:List Int} {y:Lay} {m:Mc} {loc:List (Nat×List D)} {s:St}
theorem BX : ∀ (l:List Ar) (m:Mc) (out:List Nat),(Mc.args l m out).2.out=m.out∧(Mc.args l m out).2.trace=m.trace
 | [],m,out=>⟨rfl,rfl⟩
 | a::l,m,out=>by
  have hw:=iO m a.x
  simp only[Mc.args]
  by_cases c:a.ref=true
  ·rw[if_pos c];exact BX l m _
  ·rw [if_neg c]
   by_cases c2:(m.bg a.x).1.2=true
   ·rw [if_pos c2]
    obtain⟨h1,h2⟩:=BX l {(m.bg a.x).2 with mem:=(m.bg a.x).2.mem++ [(m.bg a.x).1.1]} (out++ [(m.bg a.x).2.mem.length])
    exact⟨h1.trans hw.2.2.2.2.1,h2.trans hw.2.2.2.2.2⟩
   ·rw[if_neg c2];exact⟨hw.2.2.2.2.1,hw.2.2.2.2.2⟩
structure WW (p:Pg) (fr:Fr) (v:Sm):Prop where
 said:v.oI
 args : ∀ a∈v.args,a.x.texts∧a.x.size<1000000∧(a.ref=true→∃ k,xX fr a.name k)
 proc : ∃ (j:Nat) (q:Pc),p.at v.proc=(j:Int)∧p.procs[j]? = some q∧p.find q.name=some q
theorem WX (hp:p.jA) (Z7:p.may=true) (h:Inv p T W y m loc s) {fr:Fr} {r:List Fr} (ht:oe m fr r) (hz:Lt p T W m) (hg:p.globals.length≤m.mem.length) {v:Sm} (hd:WW p fr v) :
 bV Tryz.prog qC [.ptr 0 0, .agg (bd v)] s (Rl p T W (.int .i64 (m.call p W v).1) (m.call p W v).2 (fun _=>True) loc):=by
 have h1:=h.new (bd v)
 have LW:2≤s.aA.length:=by have:=(List.getElem?_eq_some_iff.1 h.t1).1;omega
 generalize hn:s.al.length=n at h1
 generalize PH:s.aA.length=tk at LW
 have sJ:v.args.length<1000000:=by have:=hd.said.2.2;have:=Ar.dQ v.args;omega
 have aB0:=ht.st
 refine bV.wz Bs rfl fun B Q hB hQ=>?_
 have⟨hD,hZ,gA,gB⟩:=bX
 have loop : ∀ (rest:List Ar) (k:Nat) (m1:Mc) (out:List Nat) (y1:Lay) (s1:St),v.args.drop k=rest→Mc.args v.args m [] = Mc.args rest m1 out→m1.st=m.st→m1.trace=m.trace∧m1.out=m.out→m.mem.length≤m1.mem.length→out.length=k∧k≤v.args.length→(∀ c∈out,c<m1.mem.length)→
  Inv p T W y1 m1 ((n,bd v)::loc) s1→s1.aA[tk]? = some (some out.length)→
  bp Tryz.prog B 67 QCD (jq 0 (lR (ki Tryz.prog B 67 QCS Q) Q))
   [(0, .ptr 0 0),(3, .ptr n 0),(5, .slice (.tok tk) 1 (out.map fun c=>fX (y1.κ.getD c 0))),(12, .slice .shared 6 (v.args.map fc)),(13, .int .i64 (v.args.length:Int)),(14, .int .i64 (k:Int))] s1:=by
  intro rest
  induction rest with
  | nil=>
   intro k m1 out y1 s1 Dq oJ xb C9 tC yk rf h2 Z8
   have hD:=drop_nil Dq
   have yK:oe m1 fr r:=⟨by rw[xb];exact ht.st,ht.len,ht.names,ht.vars⟩
   obtain⟨so,g,cells,o,e1,e2,e3,e4,e5⟩:=h2.Z0 yK.st
   have kx:=h2.kC
   rw[gf,e1]at kx
   have vN:=(h2.loc (n,bd v) (by simp)).1
   have je:=h2.wD
   have JF:m.call p W v=if m1.st.length > 100 then(-1,{m1 with fin:=5})else(m1.event W v.id []).open p (p.at v.proc) out v.id:=by
    unfold Mc.call
    rw[oJ]
    rfl
   have hlen:m1.st.length=r.length+1:=by rw[yK.st];rfl
   rw[JF,hlen]at hQ
   simp only at vN
   refine bp.kO ?_
   by_cases Zm:r.length+1 > 100
   ·have H6:decide (((r.length+1:Nat):Int) > 100)=true:=by simp;omega
    rw[if_pos Zm]at hQ
    have h3:=h2.vX (m':= {m1 with fin:=5}) rfl rfl h2.t0 h2.t1
    rw[gf,e1]at h3
    simp only at h3
    repeat' (first
 |simp only[go_sem,hD,hZ,gA,gB,kx,vN,H6,je]
 |(with_reducible first|refine bt fun hc=>?_|refine bu fun hc=>?_|refine bx (fun hc=>?_) fun hc=>?_)<;>(try simp only[hc,bs,↓reduceIte]at h)<;>try simp only[hc]
 |(with_reducible refine aI hQ ?_;(try cases h);simp only[bh,bj,bP,bQ,go_sem,hD,hZ,gA,gB,kx,vN,H6,je];try exact cO)
 | (cases h;done))
    (refine iU hQ ?_;simp only[bh,bj,bP,bQ,go_sem])
    exact⟨rfl,y1,trivial,h3.sub fun q mq=>List.mem_cons_of_mem _ mq⟩
   ·have H6:decide (((r.length+1:Nat):Int) > 100)=false:=by simp;omega
    rw[if_neg Zm]at hQ
    have c1:=xV h2 hz.W (by rw[C9.1];exact hz.trace) v.id
    repeat' (first
 |simp only[go_sem,hD,hZ,gA,gB,kx,vN,H6,je]
 |(with_reducible first|refine bt fun hc=>?_|refine bu fun hc=>?_|refine bx (fun hc=>?_) fun hc=>?_)<;>(try simp only[hc,bs,↓reduceIte]at h)<;>try simp only[hc]
 |(with_reducible refine aI hQ ?_;(try cases h);simp only[bh,bj,bP,bQ,go_sem,hD,hZ,gA,gB,kx,vN,H6,je];try exact cO)
 | (cases h;done))
    refine CR c1 fun d s3 h3=>?_
    obtain⟨rfl,y3,rfl,h3⟩:=h3
    have he:=fz W m1 v.id []
    obtain⟨j,q,j1,j2,j3⟩:=hd.proc
    obtain⟨y4,s4,hF,h4⟩:=Qs h3 hp Z7 j2 j3 (by rw[he.1,hlen];have:=ht.len;omega) (l:=out) (by rw[he.2.1];exact rf) (by omega) (by rw[he.2.1];omega) v.id
    have hF':=fun g:Tag=>bV.qA (.cons (Wk.refl _) (.cons (Wk.refl _) (.cons (Wk.shared g 1 _) (kh.refl _)))) hF
    have hF2:aH Tryz.prog jZ [.ptr 0 0, .int .i64 (j:Int), .slice (.tok tk) 1 (out.map fun c=>fX (y3.κ.getD c 0)), .int .i64 v.id] s3 _ s4:=hF' _
    have cP:=fun s=>Ho (p:=p) (by have:=hp.procs.1;omega) v.proc s
    have pT:=h3.kC
    rw[gf]at pT
    have hx3:=(h3.loc (n,bd v) (by simp)).1
    simp only at hx3
    rw[j1]at hQ cP
    repeat' (first
 |simp only[go_sem,hD,hZ,gA,gB,pT,hx3]
 |(with_reducible refine CU (cP _) ?_)
 |(with_reducible refine CU (hF2) ?_)
 |(with_reducible first|refine bt fun hc=>?_|refine bu fun hc=>?_|refine bx (fun hc=>?_) fun hc=>?_)<;>(try simp only[hc,bs,↓reduceIte]at h)<;>try simp only[hc]
 |(with_reducible refine aI hQ ?_;(try cases h);simp only[bh,bj,bP,bQ,go_sem,hD,hZ,gA,gB,pT,hx3];try exact cO)
 | (cases h;done))
    (refine iU hQ ?_;simp only[bh,bj,bP,bQ,go_sem])
    exact⟨rfl,y4,trivial,h4.sub fun q mq=>List.mem_cons_of_mem _ mq⟩
  | cons a rest ih=>
   intro k m1 out y1 s1 Dq oJ xb C9 tC yk rf h2 Z8
   obtain⟨hZ,g2,hD,g4⟩:=drop_cons Dq
   have cu:k<4611686018427387904:=by omega
   obtain⟨a1,a2,a3⟩:=hd.args a (List.mem_of_getElem? hZ)
   have yK:oe m1 fr r:=⟨by rw[xb];exact ht.st,ht.len,ht.names,ht.vars⟩
   have h3:=h2.new (fc a)
   have zq : ∀ z:List D,(s1.al++ [z]).set s1.al.length (fc a)=s1.al++ [fc a]:=fun z=>by simp
   have zg : ∀ z:List D,(s1.al++ [z])[s1.al.length]? = some z:=fun z=>by simp
   have fl : ∀ (x:Nat) (os:List (List D)),jo 1 8 (.slice (.tok tk) 1 (out.map fun c=>fX (y1.κ.getD c 0))) (.slice .full 1 [[.ptr x 0]]) ⟨os,s1.aA⟩=some (.slice (.tok tk) 1 ((out.map fun c=>fX (y1.κ.getD c 0))++ [fX x]),⟨os,s1.aA.set tk (some (out.length+1))⟩):=fun x os=>by
    rw[nP (size:=1) (by simp only[List.length_map,List.length_singleton];unfold bq;omega) (by simpa using Z8)]
    simp[fX]
   have Gk : ∀ k':Nat,(s1.aA.set tk (some k'))[0]? = s1.aA[0]? ∧(s1.aA.set tk (some k'))[1]? = s1.aA[1]? ∧(s1.aA.set tk (some k'))[tk]? = some (some k'):=fun k'=>
    ⟨List.getElem?_set_ne (by omega),List.getElem?_set_ne (by omega),by simp[(List.getElem?_eq_some_iff.1 Z8).1]⟩
   refine bp.kO ?_
   rcases Bool.eq_false_or_eq_true a.ref with b|b
   ·obtain⟨c,hc⟩:=a3 b
    have NW:=hc.cell yK.top
    obtain⟨j,hj,D4⟩:=hc
    have c1:=EK h3 yK.st yK.len yK.names hj D4
    obtain⟨hκ,v0,gm,_⟩:=cell_of h2 yK.st D4
    have Cg:=(List.getElem?_eq_some_iff.1 gm).1
    repeat' (first
 |simp only[go_sem,hD,hZ,gA,gB,hZ,zq,zg,b,fl]
 |(with_reducible refine CU (c1) ?_)
 |(with_reducible first|refine bt fun hc=>?_|refine bu fun hc=>?_|refine bx (fun hc=>?_) fun hc=>?_)<;>(try simp only[hc,bs,↓reduceIte]at h)<;>try simp only[hc]
 |(with_reducible refine aI hQ ?_;(try cases h);simp only[bh,bj,bP,bQ,go_sem,hD,hZ,gA,gB,hZ,zq,zg,b,fl];try exact cO)
 | (cases h;done))
    have:=ih (k+1) m1 (out++ [c]) y1 ⟨s1.al++ [fc a],s1.aA.set tk (some (out.length+1))⟩ g2 (by rw[oJ];simp only[Mc.args,b,if_true,NW]) xb C9 tC ⟨by simp[yk.1],g4⟩ (fun x mx=>by
     rcases List.mem_append.1 mx with mx|mx
     ·exact rf x mx
     ·rw[List.mem_singleton.1 mx];exact Cg) ((h3.sub fun q mq=>List.mem_cons_of_mem _ mq).keep (fun _ _ e=>e) (Gk _).1 (Gk _).2.1) (by simpa using (Gk _).2.2)
    refine bp.rl ?_ this
    simp only[go_sem,aN cu,List.map_append,List.map_cons,List.map_nil]
    repeat' (first|exact Ok.out|with_reducible refine jG ?_ ?_)
   ·have c1:=Gh h3 yK a2 a1
    repeat' (first
 |simp only[go_sem,hD,hZ,gA,gB,hZ,zq,zg,b]
 |(with_reducible first|refine bt fun hc=>?_|refine bu fun hc=>?_|refine bx (fun hc=>?_) fun hc=>?_)<;>(try simp only[hc,bs,↓reduceIte]at h)<;>try simp only[hc]
 |(with_reducible refine aI hQ ?_;(try cases h);simp only[bh,bj,bP,bQ,go_sem,hD,hZ,gA,gB,hZ,zq,zg,b];try exact cO)
 | (cases h;done))
    refine CR c1 fun d s2 h4=>?_
    obtain⟨⟨rfl,y2,xW,h4⟩,xj⟩:=h4
    have hw:=iO m1 a.x
    simp only at xj
    rcases Bool.eq_false_or_eq_true (m1.bg a.x).1.2 with bw|bw
    ·have WU:(m1.bg a.x).2=m1:=by
      unfold Mc.bg
      dsimp only
      rw[if_pos (show(a.x.bg m1.top.names m1.bI).2=true from bw)]
     rw[WU]at h4
     have yq : ∀ z:List D,(s2.al++ [z]).set s2.al.length [.int .i64 (m1.bg a.x).1.1] = s2.al++ [[.int .i64 (m1.bg a.x).1.1]]:=fun z=>by simp
     have yg : ∀ z:List D,(s2.al++ [z])[s2.al.length]? = some z:=fun z=>by simp
     rw[← xj]at fl Gk
     have h5:=h4.atL (m1.bg a.x).1.1 (by omega)
     have hyκ:y2.κ=y1.κ:=by rw[xW]
     have amu:y1.κ.length=m1.mem.length:=h2.len
     repeat' (first
 |simp only[go_sem,hD,hZ,gA,gB,bw,yq,yg,fl]
 |(with_reducible first|refine bt fun hc=>?_|refine bu fun hc=>?_|refine bx (fun hc=>?_) fun hc=>?_)<;>(try simp only[hc,bs,↓reduceIte]at h)<;>try simp only[hc]
 |(with_reducible refine aI hQ ?_;(try cases h);simp only[bh,bj,bP,bQ,go_sem,hD,hZ,gA,gB,bw,yq,yg,fl];try exact cO)
 | (cases h;done))
     have:=ih (k+1) {m1 with mem:=m1.mem++ [(m1.bg a.x).1.1]} (out++ [m1.mem.length]) {y2 with κ:=y2.κ++ [s2.al.length]} ⟨s2.al++ [[.int .i64 (m1.bg a.x).1.1]],s2.aA.set tk (some (out.length+1))⟩ g2
      (by rw [oJ];simp only [Mc.args,b,Bool.false_eq_true,if_false,bw,if_true,WU]) xb C9 (by simp;omega) ⟨by simp [yk.1],g4⟩ (fun x mx=>by
       simp only[List.length_append,List.length_singleton]
       rcases List.mem_append.1 mx with mx|mx
       ·have:=rf x mx;omega
       ·rw[List.mem_singleton.1 mx];omega) ((h5.sub fun q mq=>List.mem_cons_of_mem _ mq).keep (fun _ _ e=>e) (Gk _).1 (Gk _).2.1) (by simpa using (Gk _).2.2)
     refine bp.rl ?_ this
     have atV:(out.map fun c=>fX ((y2.κ++ [s2.al.length]).getD c 0))=out.map fun c=>fX (y1.κ.getD c 0):=List.map_congr_left fun c mc=>by rw[hyκ,Gj (by have:=rf c mc;omega)]
     have dA:(y2.κ++ [s2.al.length]).getD m1.mem.length 0=s2.al.length:=by rw[hyκ, ← amu];simp[List.getD_eq_getElem?_getD]
     simp only[go_sem,aN cu,List.map_append,List.map_cons,List.map_nil,atV,dA]
     repeat' (first|exact Ok.out|with_reducible refine jG ?_ ?_)
    ·repeat' (first
 |simp only[go_sem,hD,hZ,gA,gB,bw]
 |(with_reducible first|refine bt fun hc=>?_|refine bu fun hc=>?_|refine bx (fun hc=>?_) fun hc=>?_)<;>(try simp only[hc,bs,↓reduceIte]at h)<;>try simp only[hc]
 |(with_reducible refine aI hQ ?_;(try cases h);simp only[bh,bj,bP,bQ,go_sem,hD,hZ,gA,gB,bw];try exact cO)
 |(cases h;done))
     (refine iU hQ ?_;simp only[bh,bj,bP,bQ,go_sem])
     have JF:m.call p W v=(-1,(m1.bg a.x).2):=by
      unfold Mc.call
      rw[oJ]
      simp only[Mc.args,b,Bool.false_eq_true,if_false,bw]
     rw[JF]
     exact⟨rfl,y2,trivial,h4.sub fun q mq=>List.mem_cons_of_mem _ (List.mem_cons_of_mem _ mq)⟩
 have hz0:(s.al++ [bd v])[n]? = some (bd v):=by simp[← hn]
 have l0:=loop v.args 0 m [] y ⟨s.al++ [bd v],s.aA++ [some 0]⟩ rfl rfl rfl ⟨rfl,rfl⟩ (Nat.le_refl _) ⟨rfl,Nat.zero_le _⟩ (by simp) (h1.aA _) (by simp[← PH])
 repeat' (first
 |simp only[go_sem,hD,hZ,gA,gB,hz0,hn]
 |(with_reducible first|refine bt fun hc=>?_|refine bu fun hc=>?_|refine bx (fun hc=>?_) fun hc=>?_)<;>(try simp only[hc,bs,↓reduceIte]at h)<;>try simp only[hc]
 |(with_reducible refine aI hQ ?_;(try cases h);simp only[bh,bj,bP,bQ,go_sem,hD,hZ,gA,gB,hz0,hn];try exact cO)
 |(cases h;done))
 refine bp.sq 5 1 rfl ?_
 simp only[go_sem,hD,hZ,gA,gB]
 refine bp.rl ?_ l0
 simp only[go_sem,PH,List.map_nil]
 repeat' (first|exact Ok.out|with_reducible refine jG ?_ ?_)
end
end Go.Abs
namespace Go.Abs
theorem Z9 {v:Sm} (h:v.one=true) (hk:v.kind=1∨v.kind=2):v.name≠ []:=by
 intro e
 have hn:v.hasName=true:=by unfold Sm.hasName;rcases hk with hk|hk<;>simp[hk]
 unfold Sm.one at h
 split at h
 ·cases h
 ·rw [e,hn]at h
  simp[isName]at h
theorem Kx {v:Sm} (hk:v.kind≠10) (hn:v.name≠ []):v.name∈v.said:=by
 unfold Sm.said Sm.vi
 refine wU (.inl ?_)
 rw[if_pos (by simp[hk,hn])]
 simp
theorem tU {name:aK} {f:Pc} : ∀ {l:List Pc},iC name l=some f→f.name=name
 |g::l,h=>by
  simp only[iC]at h
  split at h
  ·rename_i e;cases h;simpa using e
  ·exact tU h
mutual
theorem aiD : ∀ s:Sm,∀ v∈s.pre,v.size≤s.size
 | ⟨id,kind,labels,name,proc,x,has,args,aP,aM⟩,v,m=>by
  rw[Sm.lz]at m
  rcases List.mem_cons.1 m with rfl|m
  ·exact Nat.le_refl _
  ·simp only [Sm.size]
   rcases List.mem_append.1 m with m|m
   ·have:=EL aP v m;omega
   ·have:=EL aM v m;omega
theorem EL : ∀ l:List Sm,∀ v∈Sm.cf l,v.size≤Sm.a7 l
 | [],v,m=>by simp[Sm.cf]at m
 |s::l,v,m=>by
  simp only[Sm.cf,List.mem_append]at m
  simp only[Sm.a7]
  rcases m with m|m
  ·have:=aiD s v m;omega
  ·have:=EL l v m;omega
end
theorem Ji : ∀ l:List Sm,l.length≤Sm.a7 l
 | []=>Nat.le_refl _
 |s::l=>by
  have:=Ji l
  have h1:1≤s.size:=by cases s;simp only[Sm.size];omega
  simp only[Sm.a7,List.length_cons];omega
section
variable {p:Pg} {m:Mc} {a:Int}
theorem NY (hO:p.jA) (h:qP p p.aZ.L a m) (hl:m.st.length≤1000) : ∃ fr r f,oe m fr r∧p.procs[fr.proc.toNat]? = some f∧fr.names=p.globals++f.own∧fr.vars.length=fr.names.length∧m.top=fr:=by
 obtain⟨fr,r,e⟩:=h.st.ne
 have ht:m.top=fr:=by simp[Mc.top,e]
 obtain⟨f,h1,h2,h3,h4,h5⟩:=h.fr fr (by rw[e];exact List.mem_cons_self ..)
 have hf:=List.mem_of_getElem? h1
 have s1:=Pc.da hf
 have s2:=hO.sz
 simp only[Pg.size]at s2
 have hn:fr.names.length<1000000:=by
  rw[h3]
  have s3:=hO.small hf
  simp only[Pc.size]at s1
  simp only[List.length_append,Pc.own,Pc.tF,List.length_map]
  have:=s3.par;have:=s3.vars
  omega
 rw[e]at hl
 exact⟨fr,r,f,⟨e,by simp at hl;omega,hn,by omega⟩,h1,h3,h4,ht⟩
theorem Jj {fr:Fr} (hv:fr.vars.length=fr.names.length) {n:aK} (hn:n∈fr.names) : ∃ k,xX fr n k:=by
 obtain⟨j,h1,h2⟩:=NP (k:=0) hn
 exact⟨_,j,by simpa using h1,List.getElem?_eq_getElem (by omega)⟩
theorem aeG {fr:Fr} (h:qP p p.aZ.L a m) (ht:m.top=fr) (hR:p.Right) (ha:a≠ -1) {f:Pc} (hf:p.procs[fr.proc.toNat]? = some f):BQ p p.aZ.L (dX p.aZ.L a) f∧(dX p.aZ.L a).proc=fr.proc∧dX p.aZ.L a∈p.aZ.L∧
 ∃ c:Nat,a=(c:Int)+1∧p.aZ.L[c]? = some (dX p.aZ.L a):=by
 have hm:=h.at_.resolve_left ha
 have iM:=qO (L:=p.aZ.L) (.inr ⟨hm.1,hm.2.1⟩) ha
 obtain⟨f',o⟩:=(pf hR).im _ iM
 have hp:(dX p.aZ.L a).proc=fr.proc:=by rw[← ht];exact hm.2.2
 have:f'=f:=by have:=o.proc.1;rw[hp,hf]at this;exact(Option.some.inj this).symm
 subst this
 have h1:=hm.1
 have h2:=hm.2.1
 refine⟨o,hp,iM,(a - 1).toNat,by omega, ?_⟩
 unfold dX
 rw[List.getD_eq_getElem?_getD,List.getElem?_eq_getElem (show(a - 1).toNat<p.aZ.L.length by omega)];rfl
theorem Qt (hO:p.jA) (hR:p.Right) {x:Im} {f:Pc} {fr:Fr} (hx:BQ p p.aZ.L x f) (hn:fr.names=p.globals++f.own) (hv:fr.vars.length=fr.names.length):aix p fr x:=by
 have hf:=List.mem_of_getElem? hx.proc.1
 have rH:x.s∈p.pre:=by
  simp only[Pg.pre,List.mem_flatten,List.mem_map];exact⟨_,⟨f,hf,rfl⟩,hx.mem⟩
 have dU:=EL f.body x.s hx.mem
 have s1:=Pc.da hf
 have s2:=hO.sz
 simp only[Pg.size]at s2
 simp only[Pc.size]at s1
 have hs:Sm.a7 x.s.aP+Sm.a7 x.s.aM≤x.s.size:=by
  cases x with
  |mk s _ _ _ _=>cases s;simp only[Sm.size];omega
 refine⟨hO.said hf _ hx.mem,fun hk=>?_,fun hk=>?_,fun hk=>?_, ?_, ?_⟩
 ·have hl:=hx.loop (.inl hk)
  have h1:=hl.1
  have h2:=hl.2.1
  exact⟨(x.loop - 1).toNat,_,by omega,List.getElem?_eq_getElem (by omega)⟩
 ·obtain⟨i,hi⟩:=Int.eq_ofNat_of_zero_le hx.proc.2
  exact⟨i,f,hi,by have:=hx.proc.1;rwa [hi,Int.toNat_natCast]at this⟩
 ·refine Jj hv ?_
  rw[hn]
  exact BR hR hx (Kx (by rcases hk with hk|hk<;>omega) (Z9 (Jc hR.may _ rH) hk))
 ·have:=Ji x.s.aP;omega
 ·have:=Ji x.s.aM;omega
theorem WY (hO:p.jA) (hR:p.Right) {x:Im} {f:Pc} {fr:Fr} (hx:BQ p p.aZ.L x f) (hk:x.s.kind=4) (hn:fr.names=p.globals++f.own) (hv:fr.vars.length=fr.names.length):WW p fr x.s:=by
 have hf:=List.mem_of_getElem? hx.proc.1
 have uk:=hO.said hf _ hx.mem
 have rH:x.s∈p.pre:=by
  simp only[Pg.pre,List.mem_flatten,List.mem_map];exact⟨_,⟨f,hf,rfl⟩,hx.mem⟩
 refine⟨uk,fun b mb=>⟨uk.2.1 b mb, ?_,fun hr=>?_⟩, ?_⟩
 ·have:=uk.2.2
  have key : ∀ l:List Ar,b∈l→b.x.size≤Ar.a7 l:=fun l=>by
   induction l with
   |nil=>intro m;cases m
   |cons c l ih=>
    intro m
    simp only[Ar.a7]
    rcases List.mem_cons.1 m with rfl|m
    ·omega
    ·have:=ih m;omega
  have:=key _ mb
  omega
 ·refine Jj hv ?_
  rw[hn]
  exact BR hR hx (wU (.inr ⟨b,mb,hr,rfl⟩))
 ·have j9:=hR.fits _ rH (by simp [hk])
  obtain⟨q,hq⟩:=Kq j9
  obtain⟨j,h1,h2⟩:=EI (k:=0) hq
  exact⟨j,q,by simpa[Pg.at]using h1,h2,by rw[tU hq];exact hq⟩
theorem TQ (hO:p.jA) (hR:p.Right) (h:qP p p.aZ.L a m) (hl:m.st.length≤1000) {fr:Fr} {r:List Fr} (ht:oe m fr r) :
 fr.call=0∨∃ (c:Nat) (it:Im) (wC:Fr) (r2:List Fr),fr.call=(c:Int)+1∧p.aZ.L[c]? = some it∧oe {m with st:=r} wC r2∧(it.s.name≠ []→∃ k,xX wC it.s.name k):=by
 have hs:=h.st
 have jm:=ht.st
 rw[jm]at hs
 cases r with
 |nil=>exact .inl hs
 | cons wC r2=>
  obtain⟨⟨h1,Ke⟩,h2⟩:=hs
  have e1:=h1.1
  have e2:=h1.2.1
  refine .inr ⟨(fr.call - 1).toNat,dX p.aZ.L fr.call,wC,r2,by omega, ?_, ?_,fun hn=>?_⟩
  ·unfold dX
   rw[List.getD_eq_getElem?_getD,List.getElem?_eq_getElem (show(fr.call - 1).toNat<p.aZ.L.length by omega)];rfl
  ·have h3:qP p p.aZ.L (-1) {m with st:=wC::r2}:=⟨h2,fun q hq=>h.fr q (by rw [jm];exact List.mem_cons_of_mem _ hq), .inl rfl,h.rF⟩
   obtain⟨Qr,r',f',t,_⟩:=NY hO h3 (by rw[jm]at hl;simp at hl ⊢;omega)
   have:=t.st
   cases this
   exact t
  ·obtain⟨f,g1,g2,g3,g4,g5⟩:=h.fr wC (by rw [jm];simp)
   have iM:dX p.aZ.L fr.call∈p.aZ.L:=qO (.inr ⟨e1,e2⟩) (by omega)
   obtain⟨f',o⟩:=(pf hR).im _ iM
   have:f'=f:=by have:=o.proc.1;rw[h1.2.2,g1]at this;exact(Option.some.inj this).symm
   subst this
   refine Jj g4 ?_
   rw[g3]
   exact BR hR o (Kx (by omega) hn)
end
end Go.Abs
namespace Go.Abs
structure zZ (m:Mc):Prop where
 steps:0≤m.steps
 trace:(m.trace.length:Int)≤m.steps
 out:(m.out.length:Int)≤m.steps
 reads:0≤m.reads∧m.reads≤m.steps
 st:m.st.length≤101
structure D6 (m m':Mc):Prop where
 trace:m'.trace.length≤m.trace.length+1
 out:m'.out.length≤m.out.length+1
 reads:m'.reads=m.reads∨m'.reads=m.reads+1
 steps:m'.steps=m.steps
theorem WZ (W:List Int) (m:Mc) (id:Int) (bI:List Int):(m.event W id bI).trace.length≤m.trace.length+1:=by
 unfold Mc.event
 split<;>simp
theorem nJ (W:List Int) (m:Mc) (id:Int) (bI:List Int):D6 m (m.event W id bI):=by
 have h:=fz W m id bI
 exact⟨WZ W m id bI,by rw[h.2.2.2.2.2];omega, .inl h.2.2.2.2.1,h.2.2.2.1⟩
theorem H7 (m:Mc) (x:Ex):D6 m (m.bg x).2:=by
 have h:=iO m x
 exact⟨by rw[h.2.2.2.2.2];omega,by rw[h.2.2.2.2.1];omega, .inl h.2.2.2.1,h.2.2.1⟩
theorem za (p:Pg) (m:Mc) (i:Int) (l:List Nat) (c:Int):(m.open p i l c).2.trace=m.trace∧(m.open p i l c).2.out=m.out∧(m.open p i l c).2.reads=m.reads∧(m.open p i l c).2.steps=m.steps:=by
 unfold Mc.open
 split<;>exact⟨rfl,rfl,rfl,rfl⟩
theorem zb : ∀ (l:List Ar) (m:Mc) (out:List Nat),(Mc.args l m out).2.reads=m.reads∧(Mc.args l m out).2.steps=m.steps
 | [],m,out=>⟨rfl,rfl⟩
 | a::l,m,out=>by
  have hw:=iO m a.x
  simp only[Mc.args]
  by_cases c:a.ref=true
  ·rw[if_pos c];exact zb l m _
  ·rw [if_neg c]
   by_cases c2:(m.bg a.x).1.2=true
   ·rw [if_pos c2]
    obtain⟨h1,h2⟩:=zb l {(m.bg a.x).2 with mem:=(m.bg a.x).2.mem++ [(m.bg a.x).1.1]} (out++ [(m.bg a.x).2.mem.length])
    exact⟨h1.trans hw.2.2.2.1,h2.trans hw.2.2.1⟩
   ·rw[if_neg c2];exact⟨hw.2.2.2.1,hw.2.2.1⟩
theorem W0 (p:Pg) (W:List Int) (m:Mc) (v:Sm):D6 m (m.call p W v).2∧((m.call p W v).2.st.length≤m.st.length∨(m.call p W v).2.st.length≤101):=by
 have h1:=BX v.args m []
 have h2:=zb v.args m []
 have h3:=(wX v.args m []).1
 unfold Mc.call
 generalize Mc.args v.args m [] = r at *
 obtain⟨o,m1⟩:=r
 dsimp only at h1 h2 h3
 cases o with
 |none=>exact⟨⟨by simp[h1.2],by simp[h1.1], .inl h2.1,h2.2⟩, .inl (by simp[h3])⟩
 | some l=>
  dsimp only
  by_cases c:m1.st.length > 100
  ·rw[if_pos c];exact⟨⟨by simp[h1.2],by simp[h1.1], .inl h2.1,h2.2⟩, .inl (by simp[h3])⟩
  ·rw [if_neg c]
   have e1:=nJ W m1 v.id []
   have e2:=za p (m1.event W v.id []) (p.at v.proc) l v.id
   have e3:=(AY p (m1.event W v.id []) (p.at v.proc) l v.id).1
   have e4:=(fz W m1 v.id []).1
   refine⟨⟨by rw[e2.1, ← h1.2];exact e1.trace,by rw[e2.2.1, ← h1.1];exact e1.out, ?_,by rw[e2.2.2.2,e1.steps,h2.2]⟩, .inr (by rw[e4]at e3;omega)⟩
   rw[e2.2.2.1, ← h2.1];exact e1.reads
theorem TR (W:List Int) (m:Mc) (v:Sm):D6 m (m.fD W v).2:=by
 have hw:=iO m v.x
 unfold Mc.fD
 split
 ·dsimp only
  split
  ·have e:=nJ W (m.bg v.x).2 v.id [(m.bg v.x).1.1]
   exact⟨by rw[← hw.2.2.2.2.2];exact e.trace,by rw[← hw.2.2.2.2.1];exact e.out,by rw[← hw.2.2.2.1];exact e.reads,e.steps.trans hw.2.2.1⟩
  ·exact H7 m v.x
 ·exact nJ W m v.id []
theorem aeH (p:Pg) (L:List Im) (T W:List Int) (m:Mc) (it:Im):D6 m (m.do p L T W it).2:=by
 have hw:=iO m it.s.x
 unfold Mc.do
 dsimp only
 split
 ·exact nJ W m _ _
 split
 ·exact nJ W m _ _
 split
 ·exact nJ W m _ _
 split
 ·split
  ·exact⟨by simp,by simp, .inl rfl,rfl⟩
  ·rename_i n _
   have e:=nJ W (({m with reads:=m.reads+1} : Mc).set it.s.name n) it.s.id [n]
   have e2:=(fz W (({m with reads:=m.reads+1} : Mc).set it.s.name n) it.s.id [n])
   exact⟨e.trace,e.out, .inr e2.2.2.2.2.1,e2.2.2.2.1⟩
 split
 ·have e:=nJ W (m.bg it.s.x).2 it.s.id [(m.bg it.s.x).1.1]
  have e2:=fz W (m.bg it.s.x).2 it.s.id [(m.bg it.s.x).1.1]
  have k:D6 m ((m.bg it.s.x).2.event W it.s.id [(m.bg it.s.x).1.1]):=⟨by rw[← hw.2.2.2.2.2];exact e.trace,by rw[← hw.2.2.2.2.1];exact e.out,by rw[← hw.2.2.2.1];exact e.reads,e.steps.trans hw.2.2.1⟩
  split
  ·exact⟨k.trace,k.out,k.reads,k.steps⟩
  split
  ·exact⟨k.trace,by simp[e2.2.2.2.2.2,hw.2.2.2.2.1],k.reads,k.steps⟩
  split
  ·exact k
  split
  ·exact k
  ·exact k
 ·exact H7 m it.s.x
theorem BY (L:List Im) (m:Mc) (g:Int):(m.close L g).2.trace=m.trace∧(m.close L g).2.out=m.out∧(m.close L g).2.reads=m.reads∧(m.close L g).2.steps=m.steps∧(m.close L g).2.st=m.st.tail:=by
 unfold Mc.close
 dsimp only
 split
 ·exact⟨rfl,rfl,rfl,rfl,rfl⟩
 ·split<;>exact⟨rfl,rfl,rfl,rfl,rfl⟩
theorem zZ.less {m m1:Mc} (h:zZ m) (k:D6 {m with steps:=m.steps+1} m1) (hs:m1.st.length≤101):zZ m1:=by
 have h1:=h.steps;have h2:=h.trace;have h3:=h.out;have h4:=h.reads
 have k1:=k.trace;have k2:=k.out;have k3:=k.reads;have k4:=k.steps
 dsimp only at k1 k2 k3 k4
 exact⟨by omega,by omega,by omega,by omega,hs⟩
theorem zZ.close {L:List Im} {m:Mc} (h:zZ m) (g:Int):zZ (m.close L g).2:=by
 obtain⟨h1,h2,h3,h4,h5⟩:=BY L m g
 exact⟨by rw[h4];exact h.steps,by rw[h1,h4];exact h.trace,by rw[h2,h4];exact h.out,by rw[h3,h4];exact h.reads,by rw[h5];have:=h.st;simp;omega⟩
theorem zZ.run {p:Pg} {T W:List Int} {m:Mc} (h:zZ m) (hs:m.steps≤1000000) (hO:p.jA) (hW:W.length<1000000) (hT:T.length<1000000):Lt p T W m:=by
 obtain⟨ui,rn,tD⟩:=hO.procs
 have:=qJ p
 have h2:=h.trace;have h3:=h.out;have h4:=h.reads
 exact⟨hW,hT,by omega,by omega,by omega,by omega,by omega⟩
set_option maxRecDepth 8000
open Go.Proofs
theorem aeI {p:Pg} (h:p.jA) (mS:(p.scope.1==0)=true) (s:St):aH Tryz.prog ti [.agg (bO p)] s (.dR (gj p) 0) s:=by
 refine aH.pure ?_ (by simp[D.bM,D.ok,iy]) (by simp[D.ok,wi]) s
 obtain⟨ui,rn,tD⟩:=h.procs
 have rf:=fun s=>xK h s
 have dA:=fun s=>Ev (p:=p) (by omega) s
 have b0:(p.scope.1 != 0) = !(p.scope.1==0):=rfl
 rw[mS]at b0
 unfold S0
 refine aH.go AL rfl fun B Q hB hQ=>?_
 have⟨hD,hZ,gA,gB⟩:=bX
 repeat' (first
 |simp only[go_sem,hD,hZ,gA,gB,b0,Bool.not_true]
 |(with_reducible refine CU (rf _) ?_)
 |(with_reducible refine CU (dA _) ?_)
 |(with_reducible refine aI hQ ?_;exact bA))
theorem aeJ {p:Pg} (h:p.jA) (mS:(p.scope.1==0)=false) (s:St):aH Tryz.prog ti [.agg (bO p)] s .eW s:=by
 refine aH.pure ?_ (by simp[D.bM,D.ok,iy]) rfl s
 have rf:=fun s=>xK h s
 have b0:(p.scope.1 != 0) = !(p.scope.1==0):=rfl
 rw[mS]at b0
 unfold S0
 refine aH.go AL rfl fun B Q hB hQ=>?_
 have⟨hD,hZ,gA,gB⟩:=bX
 repeat' (first
 |simp only[go_sem,hD,hZ,gA,gB,b0,Bool.not_false]
 |(with_reducible refine CU (rf _) ?_)
 |(with_reducible refine aI hQ ?_;exact bA))
mutual
theorem aac {pr up next loop:Int} : ∀ (s:Sm) (m:Im),m∈s.tJ pr up next loop→m.proc=pr
 | ⟨id,kind,labels,name,pc,x,has,args,aP,aM⟩,m,h=>by
  simp only[Sm.tJ]at h
  rcases List.mem_cons.1 h with rfl|h
  ·rfl
  ·rcases List.mem_append.1 h with h | h
   ·exact zc aP m h
   ·exact zc aM m h
theorem zc {pr up next loop:Int} : ∀ (l:List Sm) (m:Im),m∈Sm.fF pr up next loop l→m.proc=pr
 |s::l,m,h=>by
  simp only[Sm.fF]at h
  rcases List.mem_append.1 h with h|h
  ·exact aac s m h
  ·exact zc l m h
end
theorem z6 : ∀ a b:List Sm,fA (a++b)=fA a++fA b
 | [],b=>rfl
 |v::a,b=>by simp only[List.cons_append,fA,z6 a b,List.append_assoc]
mutual
theorem Ps : ∀ s:Sm,(fA s.pre).length≤s.size
 |⟨id,kind,labels,name,pc,x,has,args,aP,aM⟩=>by
  have:=tV aP;have:=tV aM
  simp only[Sm.pre,fA,z6,List.length_append,Sm.size];omega
theorem tV : ∀ l:List Sm,(fA (Sm.cf l)).length≤Sm.a7 l
 | []=>Nat.le_refl _
 |s::l=>by
  have:=Ps s;have:=tV l
  simp only[Sm.cf,z6,List.length_append,Sm.a7];omega
end
theorem W1 (seen l:List aK):(jP seen l).1.length≤seen.length+l.length:=(Kf l seen).2
theorem aad {p:Pg} (h:p.jA) (s:St):aH Tryz.prog xw [.agg (bO p)] s (.agg [.int .i64 p.jump.1, .int .i64 p.jump.2]) s:=by
 refine aH.pure ?_ (by simp[D.bM,D.ok,iy]) rfl s
 obtain⟨ui,rn,tD⟩:=h.procs
 obtain⟨R,hR⟩ : ∃ R,p.jump=R:=⟨_,rfl⟩
 rw[hR]
 unfold Pg.jump at hR
 unfold S0
 rcases Bool.eq_false_or_eq_true (p.scope.1==0)with mS|mS
 case inr=>
  have hs:=fun s=>aeJ h mS s
  simp only[mS,Bool.false_eq_true,if_false]at hR
  subst hR
  refine aH.go AE rfl fun B Q hB hQ=>?_
  have⟨hD,hZ,gA,gB⟩:=bX
  repeat' (first
 |simp only[go_sem,hD,hZ,gA,gB]
 |(with_reducible refine CU (hs _) ?_)
 |(with_reducible refine aI hQ ?_;exact bA))
 have hs:=fun s=>aeI h mS s
 have hb:=DM mS
 simp only[mS,if_true]at hR
 refine aH.go AE rfl fun B Q hB hQ=>?_
 have⟨hD,hZ,gA,gB⟩:=bX
 repeat' (first
 |simp only[go_sem,hD,hZ,gA,gB]
 |(with_reducible refine CU (hs _) ?_)
 |(with_reducible refine aI hQ ?_;exact bA))
 refine fG 2 0 (bp.ind (ι:=List Pc×Nat) (fun i=>p.procs.drop i.2=i.1∧AX 7 (vk i.1)=R) (fun i=>i.1.length)
  (fun i=> [(1, .ptr 0 0),(2, .ptr 1 0),(3, .dR (gj p) 0),(16, .slice .shared 5 (p.procs.map bN)),(17, .int .i64 (p.procs.length:Int)),(18, .int .i64 (i.2:Int))]) (fun i=>⟨[bO p,[.int .i64 0, .int .i64 0]],[]⟩) ?_ (p.procs,0) ⟨rfl,hR⟩)
 clear hR
 rintro⟨rest,k⟩ ⟨h1,hR⟩ IH
 dsimp only at h1 hR
 cases rest with
 |nil=>
  have hD:=drop_nil h1
  simp only[vk,AX]at hR
  subst hR
  repeat' (first
 |simp only[go_sem,hD,hZ,gA,gB]
 |(with_reducible refine aI hQ ?_;exact bA))
 | cons f rest=>
  obtain⟨hZ,g2,hD,g4⟩:=drop_cons h1
  have cu:k<4611686018427387904:=by omega
  have Cu:=List.mem_of_getElem? hZ
  have yS:=fun s=>ah5 hb hZ (by omega) s
  have rH:=tL (k:Int) 0 (-1) 0 f.body
  have yP:=F9 (k:Int) f
  have amv:=fun m=>zc (pr:=(k:Int)) (up:=0) (next:= -1) (loop:=0) f.body m
  have Nu:=HL h Cu
  have xN:=Kg h Cu
  have aiE:(fA (Sm.cf f.body)).length≤900000:=by
   have h1:=tV f.body
   have h2:=Pc.da Cu
   simp only[Pc.size]at h2
   omega
  rw[← rH]at aiE
  generalize hI:Sm.fF (k:Int) 0 (-1) 0 f.body=I at *
  have hIl:I.length≤900000:=by rw[← rH,List.length_map]at Nu;exact Nu
  simp only[vk, ← yP]at hR
  obtain⟨J,hJ⟩ : ∃ J,vj f.labels f.fin [] (I.map Im.pair)=J:=⟨_,rfl⟩
  rw[hJ]at hR
  have hld:=fun(m:Im) (hm:m∈I) s=>aep h hb hZ m (amv m hm) s
  repeat' (first
 |simp only[go_sem,hD,hZ,gA,gB]
 |(with_reducible refine CU (yS _) ?_)
 | (with_reducible refine aI hQ ?_;exact bA))
  refine bp.sq 6 1 rfl ?_
  simp only[go_sem,hD,hZ,gA,gB]
  refine fG 3 1 (bp.ind (ι:=List Im×Nat×List aK×Nat) (fun i=>I.drop i.2.1=i.1∧vj f.labels f.fin i.2.2.1 (i.1.map Im.pair)=J∧i.2.2.2=i.2.2.1.length∧i.2.2.1.length+(fA (i.1.map Im.s)).length≤900000) (fun i=>i.1.length)
   (fun i=> [(1, .ptr 0 0),(2, .ptr 1 0),(3, .dR (gj p) 0),(5, .ptr 2 0),(6, .slice (.tok 0) 1 (i.2.2.1.map encStr)),(16, .slice .shared 5 (p.procs.map bN)),(17, .int .i64 (p.procs.length:Int)),(18, .int .i64 (k:Int)),
    (25, .slice .shared 17 (I.map dP)),(26, .int .i64 (I.length:Int)),(27, .int .i64 (i.2.1:Int))]) (fun i=>⟨[bO p,[.int .i64 0, .int .i64 0],bN f],[some i.2.2.2]⟩) ?_ (I,0,[],0) ⟨rfl,hJ,rfl,by simpa using aiE⟩)
  clear hJ
  rintro⟨yV,k2,seen,n2⟩ ⟨j1,j2,j3,j4⟩ Hs
  dsimp only at j1 j2 j3 j4
  subst j3
  cases yV with
  | nil=>
   have aiF:=drop_nil j1
   simp only[List.map_nil,vj]at j2
   simp only[List.map_nil,fA,List.length_nil,Nat.add_zero]at j4
   have Ky:=fun {s:St} {t:Nat} (ht:s.aA[t]? = some (some seen.length))=>Wr (seen:=seen) (l:=f.fin) (by omega) ht
   obtain⟨P1,hP1⟩ : ∃ P1,jP seen f.fin=P1:=⟨_,rfl⟩
   rw[hP1]at j2 Ky
   rcases Bool.eq_false_or_eq_true P1.2 with c1|c1
   ·simp only [c1,if_true]at j2
    subst j2
    simp only at hR
    repeat' (first
 |simp only[go_sem,hD,hZ,gA,gB,aiF,c1,Bool.not_true]
 |(with_reducible refine CU (Ky (by with_unfolding_all rfl)) ?_)
 | (with_reducible refine aI hQ ?_;exact bA))
    refine fi 2 0 ?_ ?_ (IH (rest,k+1) ⟨g2,hR⟩ (Nat.lt_succ_self _))
    ·(simp only[go_sem,hD,hZ,gA,gB,aN cu];try exact bY)
    ·(simp only[go_sem,hD,hZ,gA,gB,aN cu];try exact bY)
   ·simp only [c1,Bool.false_eq_true,if_false]at j2
    subst j2
    simp only[AX]at hR
    subst hR
    repeat' (first
 |simp only[go_sem,hD,hZ,gA,gB,aiF,c1,Bool.not_false]
 |(with_reducible refine CU (Ky (by with_unfolding_all rfl)) ?_)
 | (with_reducible refine aI hQ ?_;exact bA))
  | cons m yV=>
   obtain⟨qM,j5,AT,j6⟩:=drop_cons j1
   have AU:k2<4611686018427387904:=by omega
   have Qu:=List.mem_of_getElem? qM
   have hlm:=fun s=>hld m Qu s
   simp only[List.map_cons,Im.pair,vj]at j2
   simp only[List.map_cons,fA,List.length_append]at j4
   have Ky:=fun {s:St} {t:Nat} (ht:s.aA[t]? = some (some seen.length))=>Wr (seen:=seen) (l:=m.s.labels) (by omega) ht
   have hjl:=W1 seen m.s.labels
   obtain⟨P1,hP1⟩ : ∃ P1,jP seen m.s.labels=P1:=⟨_,rfl⟩
   rw[hP1]at j2 Ky hjl
   rcases Bool.eq_false_or_eq_true P1.2 with c1|c1
   ·rcases Bool.eq_false_or_eq_true (ky f.labels m.s m.loop)with c2 | c2
    ·simp only [c1,c2,if_true]at j2
     repeat' (first
 |simp only[go_sem,hD,hZ,gA,gB,qM,AT,c1,c2,Bool.not_true]
 |(with_reducible refine CU (Ky (by with_unfolding_all rfl)) ?_)
 |(with_reducible refine CU (hlm _) ?_)
 | (with_reducible refine aI hQ ?_;exact bA))
     refine fi 3 1 ?_ ?_ (Hs (yV,k2+1,P1.1,P1.1.length) ⟨j5,j2,rfl,by dsimp only;omega⟩ (Nat.lt_succ_self _))
     ·(simp only[go_sem,hD,hZ,gA,gB,aN AU];try exact bY)
     ·(simp only[go_sem,hD,hZ,gA,gB,aN AU];try exact bY)
    ·simp only [c1,c2,if_true,Bool.false_eq_true,if_false]at j2
     subst j2
     simp only[AX]at hR
     subst hR
     repeat' (first
 |simp only[go_sem,hD,hZ,gA,gB,qM,AT,c1,c2,Bool.not_true,Bool.not_false]
 |(with_reducible refine CU (Ky (by with_unfolding_all rfl)) ?_)
 |(with_reducible refine CU (hlm _) ?_)
 | (with_reducible refine aI hQ ?_;exact bA))
   ·simp only [c1,Bool.false_eq_true,if_false]at j2
    subst j2
    simp only[AX]at hR
    subst hR
    repeat' (first
 |simp only[go_sem,hD,hZ,gA,gB,qM,AT,c1,Bool.not_false]
 |(with_reducible refine CU (Ky (by with_unfolding_all rfl)) ?_)
 |(with_reducible refine CU (hlm _) ?_)
 |(with_reducible refine aI hQ ?_;exact bA))
theorem aae (x:It):(gH x)[2]? = some (.slice .shared 1 (x.s.labels.map encStr)):=nd rfl
theorem W2 (x:It):(gH x)[14]? = some (.int .i64 x.bW):=nd rfl
attribute [go_sem] aae W2
end Go.Abs
namespace Go.Abs
set_option maxRecDepth 8000
open Go.Proofs
def Pc.Jk:List Pc→Nat
 | []=>0
 |f::l=>Sm.gn f.body+Pc.Jk l
theorem aaf {p:Pg} (h:p.may=false):p.scope=(1,0):=by unfold Pg.scope;rw[h];rfl
theorem aiH {p:Pg} (h:p.jA) (s:St):aH Tryz.prog zI [.agg (bO p)] s (.agg [.int .i64 p.check.1, .int .i64 p.check.2]) s:=by
 refine aH.pure ?_ (by simp[D.bM,D.ok,iy]) rfl s
 have h1:=fun s=>M9 h.Ti s
 rw[Ez]at h1
 have h2:=fun s=>xK h s
 have h3:=fun s=>Nk h s
 have h4:=fun s=>aad h s
 have h5:=fun s=>WA h s
 obtain⟨R,hR⟩ : ∃ R,p.check=R:=⟨_,rfl⟩
 rw[hR]
 unfold Pg.check at hR
 unfold S0
 rcases Bool.eq_false_or_eq_true p.may with b0|b0
 case inr=>
  have e:((1:Int)==0)=false:=rfl
  rw[aaf b0]at hR
  simp only[e,Bool.false_eq_true,if_false]at hR
  subst hR
  refine aH.go pQ rfl fun B Q hB hQ=>?_
  have⟨hD,hZ,gA,gB⟩:=bX
  repeat' (first
 |simp only[go_sem,hD,hZ,gA,gB,b0,Bool.not_false]
 |(with_reducible refine CU (h1 _) ?_)
 |(with_reducible refine aI hQ ?_;exact bA))
 rcases Bool.eq_false_or_eq_true (p.scope.1==0)with b1|b1
 case inr=>
  simp only[b1,Bool.false_eq_true,if_false]at hR
  subst hR
  refine aH.go pQ rfl fun B Q hB hQ=>?_
  have⟨hD,hZ,gA,gB⟩:=bX
  repeat' (first
 |simp only[go_sem,hD,hZ,gA,gB,b0,b1,Bool.not_true]
 |(with_reducible refine CU (h1 _) ?_)
 |(with_reducible refine CU (h2 _) ?_)
 |(with_reducible refine aI hQ ?_;exact bA))
 simp only[b1,if_true]at hR
 rcases Bool.eq_false_or_eq_true (p.arity.1==0)with b2|b2
 case inr=>
  simp only[b2,Bool.false_eq_true,if_false]at hR
  subst hR
  refine aH.go pQ rfl fun B Q hB hQ=>?_
  have⟨hD,hZ,gA,gB⟩:=bX
  repeat' (first
 |simp only[go_sem,hD,hZ,gA,gB,b0,b1,b2,Bool.not_true]
 |(with_reducible refine CU (h1 _) ?_)
 |(with_reducible refine CU (h2 _) ?_)
 |(with_reducible refine CU (h3 _) ?_)
 |(with_reducible refine aI hQ ?_;exact bA))
 simp only[b2,if_true]at hR
 rcases Bool.eq_false_or_eq_true (p.jump.1==0)with b3|b3
 case inr=>
  simp only[b3,Bool.false_eq_true,if_false]at hR
  subst hR
  refine aH.go pQ rfl fun B Q hB hQ=>?_
  have⟨hD,hZ,gA,gB⟩:=bX
  repeat' (first
 |simp only[go_sem,hD,hZ,gA,gB,b0,b1,b2,b3,Bool.not_true]
 |(with_reducible refine CU (h1 _) ?_)
 |(with_reducible refine CU (h2 _) ?_)
 |(with_reducible refine CU (h3 _) ?_)
 |(with_reducible refine CU (h4 _) ?_)
 |(with_reducible refine aI hQ ?_;exact bA))
 simp only[b3,if_true]at hR
 subst hR
 refine aH.go pQ rfl fun B Q hB hQ=>?_
 have⟨hD,hZ,gA,gB⟩:=bX
 repeat' (first
 |simp only[go_sem,hD,hZ,gA,gB,b0,b1,b2,b3,Bool.not_true]
 |(with_reducible refine CU (h1 _) ?_)
 |(with_reducible refine CU (h2 _) ?_)
 |(with_reducible refine CU (h3 _) ?_)
 |(with_reducible refine CU (h4 _) ?_)
 |(with_reducible refine CU (h5 _) ?_)
 |(with_reducible refine aI hQ ?_;exact bA))
theorem W3 {p:Pg} (h:p.jA) (s:St):aH Tryz.prog ve [.agg (bO p)] s (.bool (p.check.1==0)) s:=by
 refine aH.pure ?_ (by simp[D.bM,D.ok,iy]) rfl s
 have h1:=fun s=>aiH h s
 unfold S0
 refine aH.go KT rfl fun B Q hB hQ=>?_
 have⟨hD,hZ,gA,gB⟩:=bX
 repeat' (first
 |simp only[go_sem,hD,hZ,gA,gB]
 |(with_reducible refine CU (h1 _) ?_)
 |(with_reducible refine aI hQ ?_;exact bA))
def gI (m:Mc):List D:= [.int .i64 m.fin, .int .i64 m.steps, .int .i64 m.reads, .slice .shared 1 (m.out.map cR), .slice .shared 2 (m.trace.map pH)]
theorem aiI (e:Int×List Int):D.bM 0 0 (pH e)=true:=by simp[pH,D.bM,D.ok,Tag.ok,jH]
theorem amw (l:List (Int×List Int)):D.jb 0 0 (l.map pH)=true:=jc aiI l
theorem amx (n m:Nat) (l:List (Int×List Int)):D.lE n m (l.map pH)=l.map pH:=nj aiI n m l
attribute [go_sem] amx
abbrev runT (m:Mc):List D:= [.int .i64 m.fin, .int .i64 m.steps, .int .i64 m.reads, .slice (.tok 0) 1 (m.out.map cR), .slice (.tok 1) 2 (m.trace.map pH)]
section
variable {p:Pg} {T W:List Int} {fuel:Int} {B:gW} {Q:Exit→Tm→St→Prop} {mf:Mc}
theorem Inv.sX {y:Lay} {m:Mc} {s:St} {q:Nat} {r r':List D} {loc:List (Nat×List D)} (h:Inv p T W y m ((q,r)::loc) s) (hq : ∀ x∈loc,x.1≠q) (hr:r.length≠4):Inv p T W y m ((q,r')::loc) ⟨s.al.set q r',s.aA⟩:=by
 obtain⟨h1,h2⟩:=h.loc (q,r) (List.mem_cons_self ..)
 simp only at h1 h2
 have ne : ∀ {o:Nat} {x:List D},s.al[o]? = some x→o≠q→(s.al.set q r')[o]? = some x:=fun e hn=>by rw[List.getElem?_set_ne (Ne.symm hn)];exact e
 have no : ∀ o∈y.own,o≠q:=fun o mo e=>h2 (e ▸ mo)
 have ka : ∀ {d:D} {cs:List D},(∀ o∈d.arr,o∈y.own)→kB s d cs→kB ⟨s.al.set q r',s.aA⟩ d cs:=fun hd ha=>ha.keep fun o mo=>by
  show(s.al.set q r')[o]? = _
  rw[List.getElem?_set_ne (Ne.symm (no o (hd o mo)))]
 obtain⟨l,hl⟩:=h.bI
 refine⟨ne h.kC (no 0 (by simp[Lay.own])),h.t0,h.t1,h.len,fun i c v e1 e2=>ne (h.cell i c v e1 e2) (no c (by simp[Lay.own,List.mem_of_getElem? e1])),h.uQ,fun i o fr e1 e2=>?_,ka (fun o m=>by simp[Lay.own,m]) h.stack,⟨l,ka (fun o m=>by simp[Lay.own,m]) hl⟩,h.own,fun x mx=>?_⟩
 ·obtain⟨f1,f2,f3⟩:=h.frame i o fr e1 e2
  exact⟨ne f1 (PS f1 h1 fun e=>hr (by rw[← e];rfl)),f2,f3⟩
 ·rcases List.mem_cons.1 mx with rfl | mx
  ·exact⟨by simp[gX h1],h2⟩
  ·obtain⟨f1,f2⟩:=h.loc x (List.mem_cons_of_mem _ mx)
   exact⟨ne f1 (hq x mx),f2⟩
abbrev D7:List D:= [.int .i64 0, .int .i64 0, .int .i64 0, .slice .full 0 [], .slice .full 0 []]
structure Jl (p:Pg) (T W:List Int) (fuel:Int):Prop where
 ok:p.jA
 right:p.Right
 W:W.length<1000000
 T:T.length<1000000
 fuel:0≤fuel∧fuel≤1000000
structure At (p:Pg) (T W:List Int) (fuel:Int) (a:Int) (m:Mc) (y:Lay) (q:Nat) (s:St):Prop where
 inv : ∃ r:List D,r.length=17∧Inv p T W y m [(q,r),(2,D7)] s
 ok:qP p p.aZ.L a m
 sz:zZ m
 fin:m.fin=0
 fuel:m.steps≤fuel
abbrev TMr (fuel:Int) (q:Nat) (a:Int):Tm:= [(2, .int .i64 fuel),(8, .ptr 2 0),(10, .ptr 0 0),(11, .ptr q 0),(13, .int .i64 a)]
abbrev JJ (B:gW) (Q:Exit→Tm→St→Prop):=Bc Tryz.prog B 131 Q3W Q
theorem H8 (hQ:rB 0 0 [(8,some (true,5)),(9,none)] (.tuple [.agg (gI mf), .int .i64 0]) ⟨[],[]⟩=Q) {y:Lay} {q:Nat} {r:List D} {s:St} (h:Inv p T W y mf [(q,r),(2,D7)] s) {tm:Tm} (ht:xm tm [(8, .ptr 2 0),(10, .ptr 0 0)]):JJ B Q (.goto 2) tm s:=by
 refine FK (r:= .seq .skip Q3E) rfl (mK.rl ht (mK.kO ?_))
 have hm:=h.kC
 rw[gf]at hm
 have h2:=(h.loc (2,D7) (by simp)).1
 have hl:=gX h2
 have⟨hD,hZ,gA,gB⟩:=bX
 have Cd : ∀ r,(s.al.set 2 r)[2]? = some r:=fun r=>List.getElem?_set_self hl
 simp only[gI]at hQ
 repeat' (first
 |simp only[go_sem,hD,hZ,gA,gB,hm,h2,Cd]
 |(with_reducible first|refine bt fun hc=>?_|refine bu fun hc=>?_|refine bx (fun hc=>?_) fun hc=>?_)<;>(try simp only[hc,bs,↓reduceIte]at h)<;>try simp only[hc]
 |(with_reducible refine aI hQ ?_;(try cases h);simp only[bh,bj,bP,bQ,go_sem,hD,hZ,gA,gB,hm,h2,Cd];try exact cO)
 |(cases h;done))
theorem NZ (hS:Jl p T W fuel) (hQ:rB 0 0 [(8,some (true,5)),(9,none)] (.tuple [.agg (gI mf), .int .i64 0]) ⟨[],[]⟩=Q) {a:Int} {m:Mc} {y:Lay} {q:Nat} {s:St} {g:Int} (h:At p T W fuel a m y q s)
 (aiK:m.back p.aZ.L g=(none,mf)∨∃ a' m',m.back p.aZ.L g=(some a',m')∧∀ y' s' tm,At p T W fuel a' m' y' q s'→xm tm (TMr fuel q a')→JJ B Q (.goto 1) tm s')
 {tm:Tm} (ht:xm tm [(2, .int .i64 fuel),(8, .ptr 2 0),(10, .ptr 0 0),(11, .ptr q 0),(12, .int .i64 g)]):JJ B Q (.goto 0) tm s:=by
 obtain⟨⟨r,hr,hi⟩,qh,dU,xN,hfu⟩:=h
 obtain⟨fr,rs,f,BS,h1,h2,h3,h4⟩:=NY hS.ok qh (by have:=dU.st;omega)
 have Fp:=dU.run (by have:=hS.fuel;omega) hS.ok hS.W hS.T
 have hc:=TQ hS.ok hS.right qh (by have:=dU.st;omega) BS
 have c1:=aeF hi BS Fp.L hc g
 have ou:=BY p.aZ.L m g
 refine FK (r:= .seq .skip Q3H) rfl (mK.rl ht (mK.kO ?_))
 have⟨hD,hZ,gA,gB⟩:=bX
 repeat' (first
 |simp only[go_sem,hD,hZ,gA,gB]
 |(with_reducible first|refine bt fun hc=>?_|refine bu fun hc=>?_|refine bx (fun hc=>?_) fun hc=>?_)<;>(try simp only[hc,bs,↓reduceIte]at h)<;>try simp only[hc]
 |(with_reducible refine aI hQ ?_;exact fS)
 |(cases h;replace h:=hr;clear hr;(try simp only[bs,↓reduceIte]at h))
 |(cases h;done))
 refine CR c1 fun d s2 N0=>?_
 obtain⟨rfl,y2,xW,pb⟩:=N0
 have kx:=pb.kC
 rw[gf]at kx
 have N1:=(pb.loc (2,D7) (by simp)).1
 have je:=gX N1
 have Cd : ∀ r,(s2.al.set 2 r)[2]? = some r:=fun r=>List.getElem?_set_self je
 simp only at N1
 have hb:m.back p.aZ.L g=(if(m.close p.aZ.L g).2.fin==0 then some (m.close p.aZ.L g).1 else none,(m.close p.aZ.L g).2):=rfl
 rcases Bool.eq_false_or_eq_true ((m.close p.aZ.L g).2.fin==0)with b|b
 ·rw [b,if_pos rfl]at hb
  rcases aiK with he|⟨a',m',he,hIH⟩
  ·rw[hb]at he;cases he
  ·have hk:=aex (pf hS.right) qh he
   rw[hb]at he
   cases he
   repeat' (first
 |simp only[go_sem,hD,hZ,gA,gB,kx,b]
 |(with_reducible first|refine bt fun hc=>?_|refine bu fun hc=>?_|refine bx (fun hc=>?_) fun hc=>?_)<;>(try simp only[hc,bs,↓reduceIte]at h)<;>try simp only[hc]
 |(with_reducible refine aI hQ ?_;(try cases h);simp only[bh,bj,bP,bQ,go_sem,hD,hZ,gA,gB,kx,b];try exact cO)
 |(cases h;replace h:=hr;clear hr;(try simp only[bs,↓reduceIte]at h))
 | (cases h;done))
   refine hIH y2 s2 _ ⟨⟨r,hr,pb⟩,hk,dU.close g,by simpa using b,by rw[ou.2.2.2.1];exact hfu⟩ ?_
   simp only[go_sem]
   repeat' (first|exact Ok.out|with_reducible refine jG ?_ ?_)
 ·rw [b,if_neg (by simp)]at hb
  rcases aiK with he|⟨a',m',he,hIH⟩
  ·rw [hb]at he
   cases he
   simp only[gI]at hQ
   repeat' (first
 |simp only[go_sem,hD,hZ,gA,gB,kx,b,N1,Cd]
 |(with_reducible first|refine bt fun hc=>?_|refine bu fun hc=>?_|refine bx (fun hc=>?_) fun hc=>?_)<;>(try simp only[hc,bs,↓reduceIte]at h)<;>try simp only[hc]
 |(with_reducible refine aI hQ ?_;(try cases h);simp only[bh,bj,bP,bQ,go_sem,hD,hZ,gA,gB,kx,b,N1,Cd];try exact cO)
 |(cases h;replace h:=hr;clear hr;(try simp only[bs,↓reduceIte]at h))
 |(cases h;done))
  ·rw[hb]at he;cases he
theorem aag (hS:Jl p T W fuel) (hQ:rB 0 0 [(8,some (true,5)),(9,none)] (.tuple [.agg (gI mf), .int .i64 0]) ⟨[],[]⟩=Q) : ∀ (N:Nat) (a:Int) (m:Mc) (y:Lay) (q:Nat) (s:St),At p T W fuel a m y q s→Mc.go p p.aZ.L T W fuel N a m=some mf→
 Sem Tryz.prog B 131 Q3P (JJ B Q) (TMr fuel q a) s:=by
 intro N
 induction N with
 |zero=>intro a m y q s _ h;cases h
 | succ N ih=>
  intro a m y q s sZ lP
  have IH : ∀ (a':Int) (m':Mc) (y':Lay) (s':St) (tm:Tm),Mc.go p p.aZ.L T W fuel N a' m'=some mf→At p T W fuel a' m' y' q s'→xm tm (TMr fuel q a')→JJ B Q (.goto 1) tm s':=fun a' m' y' s' tm hg hA ht=>
   FK (r:= .seq .skip Q3P) rfl (mK.rl ht (mK.once (Sem.ox (ih a' m' y' q s' hA hg))))
  have atX:=sZ
  obtain⟨⟨r,hr,hi⟩,qh,dU,xN,hfu⟩:=sZ
  simp only[Mc.go]at lP
  refine jz ?_
  have⟨hD,hZ,gA,gB⟩:=bX
  have hm:=hi.kC
  rw[gf]at hm
  have sE:=hi.wD
  rcases Bool.eq_false_or_eq_true (a == -1)with ba|ba
  ·have hn:m.next p p.aZ.L T W fuel a=m.back p.aZ.L 0:=by unfold Mc.next;rw [if_pos ba]
   rw[hn]at lP
   repeat' (first
 |simp only[go_sem,hD,hZ,gA,gB,ba]
 |(with_reducible first|refine bt fun hc=>?_|refine bu fun hc=>?_|refine bx (fun hc=>?_) fun hc=>?_)<;>(try simp only[hc,bs,↓reduceIte]at h)<;>try simp only[hc]
 |(with_reducible refine aI hQ ?_;(try cases h);simp only[bh,bj,bP,bQ,go_sem,hD,hZ,gA,gB,ba];try exact cO)
 |(cases h;replace h:=hr;clear hr;(try simp only[bs,↓reduceIte]at h))
 | (cases h;done))
   refine NZ hS hQ atX (g:=0) ?_ ?_
   ·rcases e:m.back p.aZ.L 0 with ⟨_ | a',m'⟩
    ·rw[e]at lP;cases lP;exact .inl rfl
    ·rw[e]at lP;exact .inr ⟨a',m',rfl,fun y' s' tm h1 h2=>IH a' m' y' s' tm lP h1 h2⟩
   ·simp only [go_sem]
    repeat' (first|exact Ok.out|with_reducible refine jG ?_ ?_)
  rcases Bool.eq_false_or_eq_true (m.steps==fuel)with bf|bf
  ·have hn:m.next p p.aZ.L T W fuel a=(none,{m with fin:=2}):=by unfold Mc.next;rw [if_neg (by simp [ba]),if_pos bf]
   rw[hn]at lP
   cases lP
   have h2:=hi.vX (m':= {m with fin:=2}) rfl rfl hi.t0 hi.t1
   rw[gf]at h2
   simp only at h2
   repeat' (first
 |simp only[go_sem,hD,hZ,gA,gB,ba,bf,hm,sE]
 |(with_reducible first|refine bt fun hc=>?_|refine bu fun hc=>?_|refine bx (fun hc=>?_) fun hc=>?_)<;>(try simp only[hc,bs,↓reduceIte]at h)<;>try simp only[hc]
 |(with_reducible refine aI hQ ?_;(try cases h);simp only[bh,bj,bP,bQ,go_sem,hD,hZ,gA,gB,ba,bf,hm,sE];try exact cO)
 |(cases h;replace h:=hr;clear hr;(try simp only[bs,↓reduceIte]at h))
 | (cases h;done))
   refine H8 hQ h2 ?_
   simp only[go_sem]
   repeat' (first|exact Ok.out|with_reducible refine jG ?_ ?_)
  -- a statement
  obtain⟨fr,rs,f,BS,h1,h2,h3,h4⟩:=NY hS.ok qh (by have:=dU.st;omega)
  have atY:a≠ -1:=by simpa using ba
  obtain⟨hx,yP,iM,c,hac,N2⟩:=aeG qh h4 hS.right atY h1
  have hfb:=hS.fuel
  have Fp:=dU.run (by omega) hS.ok hS.W hS.T
  have aB4:m.steps<fuel:=by
   have h:m.steps≠fuel:=by simpa using bf
   omega
  have xc:=dU.steps
  have H5:IntKind.wrap .i64 (m.steps+1)=m.steps+1:=eB (by omega) (by omega)
  have D3:IntKind.wrap .i64 (a - 1)=(c:Int):=by
   have:=(List.getElem?_eq_some_iff.1 N2).1
   have:=Fp.L
   rw[show a - 1=(c:Int) by omega];exact eB (by omega) (by omega)
  have cS:(gj p)[2]? = some (.slice .shared 17 (p.aZ.L.map dP)):=rfl
  have Qv:=hi.vX (m':= {m with steps:=m.steps+1}) rfl rfl hi.t0 hi.t1
  generalize rp:dX p.aZ.L a=it at *
  have atZ:2≠q:=by
   have e1:=(hi.loc (q,r) (by simp)).1
   have e2:=(hi.loc (2,D7) (by simp)).1
   exact PS e2 e1 fun e=>by have e':D7=r:=e;rw[← e']at hr;cases hr
  have Jm:17≤r.length:=by omega
  have Qw:List.drop 17 r = []:=List.drop_of_length_le (by omega)
  have pb:=Qv.sX (r':=dP it) (by simpa using atZ) (by omega)
  have oJ:=Qv.kC
  have Kz:=(Qv.loc (q,r) (by simp)).1
  have Dj:=(pb.loc (q,dP it) (by simp)).1
  rw[gf]at oJ pb Kz Dj
  simp only at oJ pb Kz Dj
  have hle:q<s.al.length:=gX (hi.loc (q,r) (by simp)).1
  have TT:oe ({m with steps:=m.steps+1} : Mc) fr rs:=⟨BS.st,BS.len,BS.names,BS.vars⟩
  have TU:Lt p T W ({m with steps:=m.steps+1} : Mc):=⟨Fp.W,Fp.T,Fp.trace,Fp.out,Fp.L,Fp.P,Fp.reads⟩
  have N3:qP p p.aZ.L a ({m with steps:=m.steps+1} : Mc):=qh.of rfl (Nat.le_refl _) qh.at_
  have hn:m.next p p.aZ.L T W fuel a=(if it.s.kind==4 then(if(({m with steps:=m.steps+1} : Mc).call p W it.s).2.fin==0 then some (({m with steps:=m.steps+1} : Mc).call p W it.s).1 else none,(({m with steps:=m.steps+1} : Mc).call p W it.s).2)
   else if it.s.kind==9 then(if(({m with steps:=m.steps+1} : Mc).fD W it.s).2.fin==0 then(({m with steps:=m.steps+1} : Mc).fD W it.s).2.back p.aZ.L (({m with steps:=m.steps+1} : Mc).fD W it.s).1 else(none,(({m with steps:=m.steps+1} : Mc).fD W it.s).2))
   else(if(({m with steps:=m.steps+1} : Mc).do p p.aZ.L T W it).2.fin==0 then some (({m with steps:=m.steps+1} : Mc).do p p.aZ.L T W it).1 else none,(({m with steps:=m.steps+1} : Mc).do p p.aZ.L T W it).2)):=by
   unfold Mc.next
   rw[if_neg (by simp[ba]),if_neg (by simp[bf])]
   dsimp only
   rw[rp]
  rw[hn]at lP
  generalize Qu:({m with steps:=m.steps+1} : Mc)=m1 at *
  have at0:m1.fin=0:=by rw[← Qu];exact xN
  have aah:m1.steps=m.steps+1:=by rw[← Qu]
  have TV : ∀ m2:Mc,D6 m1 m2→m2.st.length≤101→zZ m2:=fun m2 hl hs=>dU.less (by rw[Qu];exact hl) hs
  have N4:m1.st=m.st:=by rw[← Qu]
  rcases Bool.eq_false_or_eq_true (it.s.kind==4)with b4|b4
  ·rw [if_pos b4]at lP
   have Ke:it.s.kind=4:=by simpa using b4
   have c1:=WX hS.ok hS.right.may pb TT TU N3.rF (WY hS.ok hS.right hx Ke h2 h3)
   repeat' (first
 |simp only[go_sem,hD,hZ,gA,gB,ba,bf,hm,sE,H5,oJ,D3,N2,cS,Kz,Dj,hle,b4,Jm,Qw,List.append_nil]
 |(with_reducible first|refine bt fun hc=>?_|refine bu fun hc=>?_|refine bx (fun hc=>?_) fun hc=>?_)<;>(try simp only[hc,bs,↓reduceIte]at h)<;>try simp only[hc]
 |(with_reducible refine aI hQ ?_;(try cases h);simp only[bh,bj,bP,bQ,go_sem,hD,hZ,gA,gB,ba,bf,hm,sE,H5,oJ,D3,N2,cS,Kz,Dj,hle,b4,Jm,Qw,List.append_nil];try exact cO)
 |(cases h;replace h:=hr;clear hr;(try simp only[bs,↓reduceIte]at h))
 | (cases h;done))
   refine CR c1 fun d s2 N0=>?_
   obtain⟨rfl,y2,_,Cx⟩:=N0
   have pT:=Cx.kC
   rw[gf]at pT
   have ou:=W0 p W m1 it.s
   have o9:(m1.call p W it.s).2.st.length≤101:=by
    rcases ou.2 with h|h
    ·rw[N4]at h;have:=dU.st;omega
    ·exact h
   rcases Bool.eq_false_or_eq_true ((m1.call p W it.s).2.fin==0)with b|b
   ·rw [b,if_pos rfl]at lP
    repeat' (first
 |simp only[go_sem,hD,hZ,gA,gB,pT,b]
 |(with_reducible first|refine bt fun hc=>?_|refine bu fun hc=>?_|refine bx (fun hc=>?_) fun hc=>?_)<;>(try simp only[hc,bs,↓reduceIte]at h)<;>try simp only[hc]
 |(with_reducible refine aI hQ ?_;(try cases h);simp only[bh,bj,bP,bQ,go_sem,hD,hZ,gA,gB,pT,b];try exact cO)
 |(cases h;replace h:=hr;clear hr;(try simp only[bs,↓reduceIte]at h))
 | (cases h;done))
    refine IH _ _ y2 s2 _ lP ⟨⟨dP it,rfl,Cx⟩,aez hS.right N3 hx Ke (by rw[yP, ← h4];unfold Mc.top;rw[N4]) (by simpa using b) rfl at0,TV _ ou.1 o9,by simpa using b,by rw[ou.1.steps,aah];omega⟩ ?_
    simp only[go_sem]
    repeat' (first|exact Ok.out|with_reducible refine jG ?_ ?_)
   ·rw [b,if_neg (by simp)]at lP
    cases lP
    repeat' (first
 |simp only[go_sem,hD,hZ,gA,gB,pT,b]
 |(with_reducible first|refine bt fun hc=>?_|refine bu fun hc=>?_|refine bx (fun hc=>?_) fun hc=>?_)<;>(try simp only[hc,bs,↓reduceIte]at h)<;>try simp only[hc]
 |(with_reducible refine aI hQ ?_;(try cases h);simp only[bh,bj,bP,bQ,go_sem,hD,hZ,gA,gB,pT,b];try exact cO)
 |(cases h;replace h:=hr;clear hr;(try simp only[bs,↓reduceIte]at h))
 | (cases h;done))
    refine H8 hQ Cx ?_
    simp only[go_sem]
    repeat' (first|exact Ok.out|with_reducible refine jG ?_ ?_)
  rw[if_neg (by simp[b4])]at lP
  rcases Bool.eq_false_or_eq_true (it.s.kind==9)with b9|b9
  ·rw [if_pos b9]at lP
   have c1:=aeD pb TT (Qt hS.ok hS.right hx h2 h3).said TU.W TU.trace
   repeat' (first
 |simp only[go_sem,hD,hZ,gA,gB,ba,bf,hm,sE,H5,oJ,D3,N2,cS,Kz,Dj,hle,b4,b9,Jm,Qw,List.append_nil]
 |(with_reducible first|refine bt fun hc=>?_|refine bu fun hc=>?_|refine bx (fun hc=>?_) fun hc=>?_)<;>(try simp only[hc,bs,↓reduceIte]at h)<;>try simp only[hc]
 |(with_reducible refine aI hQ ?_;(try cases h);simp only[bh,bj,bP,bQ,go_sem,hD,hZ,gA,gB,ba,bf,hm,sE,H5,oJ,D3,N2,cS,Kz,Dj,hle,b4,b9,Jm,Qw,List.append_nil];try exact cO)
 |(cases h;replace h:=hr;clear hr;(try simp only[bs,↓reduceIte]at h))
 | (cases h;done))
   refine CR c1 fun d s2 N0=>?_
   obtain⟨rfl,y2,_,Cx⟩:=N0
   have pT:=Cx.kC
   rw[gf]at pT
   have tD:=TR W m1 it.s
   have hgs:=(BI W m1 it.s).1
   rcases Bool.eq_false_or_eq_true ((m1.fD W it.s).2.fin==0)with b|b
   ·rw [b,if_pos rfl]at lP
    repeat' (first
 |simp only[go_sem,hD,hZ,gA,gB,pT,b]
 |(with_reducible first|refine bt fun hc=>?_|refine bu fun hc=>?_|refine bx (fun hc=>?_) fun hc=>?_)<;>(try simp only[hc,bs,↓reduceIte]at h)<;>try simp only[hc]
 |(with_reducible refine aI hQ ?_;(try cases h);simp only[bh,bj,bP,bQ,go_sem,hD,hZ,gA,gB,pT,b];try exact cO)
 |(cases h;replace h:=hr;clear hr;(try simp only[bs,↓reduceIte]at h))
 | (cases h;done))
    have Wi:m1.mem.length≤(m1.fD W it.s).2.mem.length:=by
     have hw:=iO m1 it.s.x
     unfold Mc.fD
     split
     ·dsimp only
      split
      ·rw[(fz _ _ _ _).2.1,hw.2.1];exact Nat.le_refl _
      ·rw[hw.2.1];exact Nat.le_refl _
     ·rw[(fz _ _ _ _).2.1];exact Nat.le_refl _
    refine NZ (a:=a) (g:=(m1.fD W it.s).1) hS hQ (y:=y2) ⟨⟨dP it,rfl,Cx⟩,N3.of hgs Wi N3.at_,TV _ tD (by rw[hgs,N4];exact dU.st),by simpa using b,by rw[tD.steps,aah];omega⟩ ?_ ?_
    ·rcases e:(m1.fD W it.s).2.back p.aZ.L (m1.fD W it.s).1 with ⟨_ | a',m'⟩
     ·rw[e]at lP;cases lP;exact .inl rfl
     ·rw[e]at lP;exact .inr ⟨a',m',rfl,fun y' s' tm h1 h2=>IH a' m' y' s' tm lP h1 h2⟩
    ·simp only [go_sem]
     repeat' (first|exact Ok.out|with_reducible refine jG ?_ ?_)
   ·rw [b,if_neg (by simp)]at lP
    cases lP
    repeat' (first
 |simp only[go_sem,hD,hZ,gA,gB,pT,b]
 |(with_reducible first|refine bt fun hc=>?_|refine bu fun hc=>?_|refine bx (fun hc=>?_) fun hc=>?_)<;>(try simp only[hc,bs,↓reduceIte]at h)<;>try simp only[hc]
 |(with_reducible refine aI hQ ?_;(try cases h);simp only[bh,bj,bP,bQ,go_sem,hD,hZ,gA,gB,pT,b];try exact cO)
 |(cases h;replace h:=hr;clear hr;(try simp only[bs,↓reduceIte]at h))
 | (cases h;done))
    refine H8 hQ Cx ?_
    simp only[go_sem]
    repeat' (first|exact Ok.out|with_reducible refine jG ?_ ?_)
  rw[if_neg (by simp[b9])]at lP
  have c1:=atS hS.ok hS.right.may pb TT TU (Qt hS.ok hS.right hx h2 h3)
  repeat' (first
 |simp only[go_sem,hD,hZ,gA,gB,ba,bf,hm,sE,H5,oJ,D3,N2,cS,Kz,Dj,hle,b4,b9,Jm,Qw,List.append_nil]
 |(with_reducible first|refine bt fun hc=>?_|refine bu fun hc=>?_|refine bx (fun hc=>?_) fun hc=>?_)<;>(try simp only[hc,bs,↓reduceIte]at h)<;>try simp only[hc]
 |(with_reducible refine aI hQ ?_;(try cases h);simp only[bh,bj,bP,bQ,go_sem,hD,hZ,gA,gB,ba,bf,hm,sE,H5,oJ,D3,N2,cS,Kz,Dj,hle,b4,b9,Jm,Qw,List.append_nil];try exact cO)
 |(cases h;replace h:=hr;clear hr;(try simp only[bs,↓reduceIte]at h))
 | (cases h;done))
  refine CR c1 fun d s2 N0=>?_
  obtain⟨rfl,y2,_,Cx⟩:=N0
  have pT:=Cx.kC
  rw[gf]at pT
  have hdl:=aeH p p.aZ.L T W m1 it
  have Dd:=(Tx p p.aZ.L T W m1 it).1
  rcases Bool.eq_false_or_eq_true ((m1.do p p.aZ.L T W it).2.fin==0)with b|b
  ·rw [b,if_pos rfl]at lP
   repeat' (first
 |simp only[go_sem,hD,hZ,gA,gB,pT,b]
 |(with_reducible first|refine bt fun hc=>?_|refine bu fun hc=>?_|refine bx (fun hc=>?_) fun hc=>?_)<;>(try simp only[hc,bs,↓reduceIte]at h)<;>try simp only[hc]
 |(with_reducible refine aI hQ ?_;(try cases h);simp only[bh,bj,bP,bQ,go_sem,hD,hZ,gA,gB,pT,b];try exact cO)
 |(cases h;replace h:=hr;clear hr;(try simp only[bs,↓reduceIte]at h))
 | (cases h;done))
   refine IH _ _ y2 s2 _ lP ⟨⟨dP it,rfl,Cx⟩,amf hS.right N3 hx (by rw[yP, ← h4];unfold Mc.top;rw[N4]) (by simpa using b),TV _ hdl (by rw[Dd,N4];exact dU.st),by simpa using b,by rw[hdl.steps,aah];omega⟩ ?_
   simp only[go_sem]
   repeat' (first|exact Ok.out|with_reducible refine jG ?_ ?_)
  ·rw [b,if_neg (by simp)]at lP
   cases lP
   repeat' (first
 |simp only[go_sem,hD,hZ,gA,gB,pT,b]
 |(with_reducible first|refine bt fun hc=>?_|refine bu fun hc=>?_|refine bx (fun hc=>?_) fun hc=>?_)<;>(try simp only[hc,bs,↓reduceIte]at h)<;>try simp only[hc]
 |(with_reducible refine aI hQ ?_;(try cases h);simp only[bh,bj,bP,bQ,go_sem,hD,hZ,gA,gB,pT,b];try exact cO)
 |(cases h;replace h:=hr;clear hr;(try simp only[bs,↓reduceIte]at h))
 | (cases h;done))
   refine H8 hQ Cx ?_
   simp only[go_sem]
   repeat' (first|exact Ok.out|with_reducible refine jG ?_ ?_)
end
end Go.Abs
namespace Go.Abs
set_option maxRecDepth 8000
open Go.Proofs
def ofM (p:Pg) (T W:List Int) (fuel:Int):Mc×Int:=
 if decide (fuel<0) ||(decide (fuel > 1000000) || !(p.check.1==0))then(⟨[],[],0,0,0,[],[]⟩,1)else((runM p T W fuel).getD ⟨[],[],0,0,0,[],[]⟩,0)
theorem H9 (m:Mc):D.bM 0 0 (gI m)=true:=by simp[gI,D.bM,D.ok,Tag.ok,jH,amw]
theorem aeK {p:Pg} (hR:p.Right) : ∃ (j:Nat) (q:Pc),p.at iX=(j:Int)∧p.procs[j]? = some q∧p.find q.name=some q∧q.params.length=0:=by
 have h:=hR.main
 unfold Pg.oK at h
 cases e:p.find iX with
 |none=>rw[e]at h;cases h
 |some q=>
  rw[e]at h
  obtain⟨j,h1,h2⟩:=EI (k:=0) e
  refine⟨j,q,by simpa[Pg.at]using h1,h2,by rw[tU e];exact e, ?_⟩
  simp only[decide_eq_false_iff_not]at h
  omega
theorem aiL {p:Pg} (hO:p.jA) {T W:List Int} (hT:T.length<1000000) (hW:W.length<1000000) (fuel:Int) (s:St) :
 aH Tryz.prog xr [.agg (bO p), .slice .shared 1 (T.map cR), .int .i64 fuel, .slice .shared 1 (W.map cR)] s (.tuple [.agg (gI (ofM p T W fuel).1), .int .i64 (ofM p T W fuel).2]) s:=by
 refine aH.pure ?_ (by simp[D.bM,D.ok,Tag.ok,iy,jH]) (by simp only[D.ok,D.bM,H9];rfl) s
 have cM:=fun s=>W3 hO s
 have cN:=fun s=>Ev (p:=p) (by have:=hO.procs;omega) s
 generalize hR:ofM p T W fuel=R
 unfold ofM at hR
 obtain⟨R1,R2⟩:=R
 dsimp only
 unfold S0
 by_cases N6:(decide (fuel<0) ||(decide (fuel > 1000000) || !(p.check.1==0)))=true
 ·rw [if_pos N6]at hR
  cases hR
  simp only[gI,List.map_nil]
  rcases Bool.eq_false_or_eq_true (decide (fuel<0))with b1|b1
  ·refine aH.go wN rfl fun B Q hB hQ=> ?_
   have⟨hD,hZ,gA,gB⟩:=bX
   repeat' (first
 |simp only[go_sem,hD,hZ,gA,gB,b1]
 |(with_reducible first|refine bt fun hc=>?_|refine bu fun hc=>?_|refine bx (fun hc=>?_) fun hc=>?_)<;>(try simp only[hc,bs,↓reduceIte]at h)<;>try simp only[hc]
 |(with_reducible refine aI hQ ?_;(try cases h);simp only[bh,bj,bP,bQ,go_sem,hD,hZ,gA,gB,b1];try exact cO)
 | (cases h;done))
   refine mK.kO ?_
   repeat' (first
 |simp only[go_sem,hD,hZ,gA,gB,b1]
 |(with_reducible first|refine bt fun hc=>?_|refine bu fun hc=>?_|refine bx (fun hc=>?_) fun hc=>?_)<;>(try simp only[hc,bs,↓reduceIte]at h)<;>try simp only[hc]
 |(with_reducible refine aI hQ ?_;(try cases h);simp only[bh,bj,bP,bQ,go_sem,hD,hZ,gA,gB,b1];try exact cO)
 | (cases h;done))
  rcases Bool.eq_false_or_eq_true (decide (fuel > 1000000))with b2|b2
  ·refine aH.go wN rfl fun B Q hB hQ=> ?_
   have⟨hD,hZ,gA,gB⟩:=bX
   repeat' (first
 |simp only[go_sem,hD,hZ,gA,gB,b1,b2]
 |(with_reducible first|refine bt fun hc=>?_|refine bu fun hc=>?_|refine bx (fun hc=>?_) fun hc=>?_)<;>(try simp only[hc,bs,↓reduceIte]at h)<;>try simp only[hc]
 |(with_reducible refine aI hQ ?_;(try cases h);simp only[bh,bj,bP,bQ,go_sem,hD,hZ,gA,gB,b1,b2];try exact cO)
 | (cases h;done))
   refine mK.kO ?_
   repeat' (first
 |simp only[go_sem,hD,hZ,gA,gB,b1,b2]
 |(with_reducible first|refine bt fun hc=>?_|refine bu fun hc=>?_|refine bx (fun hc=>?_) fun hc=>?_)<;>(try simp only[hc,bs,↓reduceIte]at h)<;>try simp only[hc]
 |(with_reducible refine aI hQ ?_;(try cases h);simp only[bh,bj,bP,bQ,go_sem,hD,hZ,gA,gB,b1,b2];try exact cO)
 | (cases h;done))
  ·have b3:(p.check.1==0)=false:=by simpa [b1,b2]using N6
   rw[b3]at cM
   refine aH.go wN rfl fun B Q hB hQ=>?_
   have⟨hD,hZ,gA,gB⟩:=bX
   repeat' (first
 |simp only[go_sem,hD,hZ,gA,gB,b1,b2]
 |(with_reducible refine CU (cM _) ?_)
 |(with_reducible first|refine bt fun hc=>?_|refine bu fun hc=>?_|refine bx (fun hc=>?_) fun hc=>?_)<;>(try simp only[hc,bs,↓reduceIte]at h)<;>try simp only[hc]
 |(with_reducible refine aI hQ ?_;(try cases h);simp only[bh,bj,bP,bQ,go_sem,hD,hZ,gA,gB,b1,b2];try exact cO)
 | (cases h;done))
   refine mK.kO ?_
   repeat' (first
 |simp only[go_sem,hD,hZ,gA,gB,b1,b2]
 |(with_reducible refine CU (cM _) ?_)
 |(with_reducible first|refine bt fun hc=>?_|refine bu fun hc=>?_|refine bx (fun hc=>?_) fun hc=>?_)<;>(try simp only[hc,bs,↓reduceIte]at h)<;>try simp only[hc]
 |(with_reducible refine aI hQ ?_;(try cases h);simp only[bh,bj,bP,bQ,go_sem,hD,hZ,gA,gB,b1,b2];try exact cO)
 |(cases h;done))
 rw[if_neg N6]at hR
 simp only[Bool.or_eq_true,not_or,Bool.not_eq_true,Bool.not_eq_false']at N6
 obtain⟨b1,b2,b3⟩:=N6
 rw[b3]at cM
 have TW:0≤fuel∧fuel≤1000000:=by simp at b1 b2;omega
 obtain⟨mf,hmf⟩:=Kh p T W TW.1
 rw[hmf]at hR
 simp only[Option.getD_some]at hR
 cases hR
 have hRt:=Gd b3
 have hS:Jl p T W fuel:=⟨hO,hRt,hW,hT,TW⟩
 obtain⟨j,q,j1,j2,j3,j4⟩:=aeK hRt
 have cP:=fun s=>(show aH Tryz.prog jt [.dR (gj p) 0, .str [109,97,105,110]] s (.int .i64 (p.at iX)) s from Ho (p:=p) (by have:=hO.procs;omega) iX s)
 rw[j1]at cP
 have tD:=hO.procs.2.2
 refine aH.go wN rfl fun B Q hB hQ=>?_
 have⟨hD,hZ,gA,gB⟩:=bX
 -- from the globals on
 have start : ∀ (y:Lay) (s:St),Inv p T W y (kz p) [(2,D7)] s→Sem Tryz.prog B 131 Q3T (JJ B Q) [(2, .int .i64 fuel),(8, .ptr 2 0),(10, .ptr 0 0)] s:=by
  intro y s hi
  have Qv:=hi.new [.int .i64 0, .int .i64 0, .slice .full 0 [], .str [], .str [], .int .i64 0, .int .i64 0, .str [], .slice .full 0 [], .bool false, .slice .full 0 [], .slice .full 0 [], .slice .full 0 [], .int .i64 0, .int .i64 0, .int .i64 0, .int .i64 0]
  have oJ:=Qv.kC
  rw[gf]at oJ
  simp only at oJ
  obtain⟨y2,s2,hF,pb⟩:=Qs Qv hO hRt.may j2 j3 (by simp[kz]) (l:= []) (by simp) (by simp) (by simp[kz]) 0
  have hF':=bV.qA (.cons (Wk.refl _) (.cons (Wk.refl _) (.cons (Wk.nil .full 0 1) (kh.refl _)))) hF
  have hF2:aH Tryz.prog jZ [.ptr 0 0, .int .i64 (j:Int), .slice .full 0 [], .int .i64 0] _ _ s2:=hF'
  have qh:=Qm (m:=kz p) (pf hRt) j2 (l:= []) (call:=0) (by simp[j4]) (by simp) (by simp[kz]) (by simp[kz]) (.inl ⟨rfl,rfl⟩)
  have lP:=hmf
  unfold runM at lP
  rw[j1]at lP
  dsimp only at lP
  have jy:=za p (kz p) (j:Int) [] 0
  have um:=(AY p (kz p) (j:Int) [] 0).1
  have yS:((kz p).open p (j:Int) [] 0).2.fin=0:=by
   unfold Mc.open
   split<;>rfl
  have aiN:=aag (B:=B) hS hQ _ _ _ y2 s.al.length s2 ⟨⟨_,rfl,pb⟩,qh,⟨by rw[jy.2.2.2];simp[kz],by rw[jy.1,jy.2.2.2];simp[kz],by rw[jy.2.1,jy.2.2.2];simp[kz],by rw[jy.2.2.1,jy.2.2.2];simp[kz],Nat.le_trans um (by simp[kz])⟩,yS,by rw[jy.2.2.2];simp[kz];exact TW.1⟩ lP
  refine Sem.ox ?_
  repeat' (first
 |simp only[go_sem,hD,hZ,gA,gB]
 |(with_reducible first|refine bt fun hc=>?_|refine bu fun hc=>?_|refine bx (fun hc=>?_) fun hc=>?_)<;>(try simp only[hc,bs,↓reduceIte]at h)<;>try simp only[hc]
 |(with_reducible refine aI hQ ?_;exact fS)
 |(cases h;done))
  refine Sem.ox ?_
  repeat' (first
 |simp only[go_sem,hD,hZ,gA,gB]
 |(with_reducible first|refine bt fun hc=>?_|refine bu fun hc=>?_|refine bx (fun hc=>?_) fun hc=>?_)<;>(try simp only[hc,bs,↓reduceIte]at h)<;>try simp only[hc]
 |(with_reducible refine aI hQ ?_;exact fS)
 |(cases h;done))
  refine Sem.ox ?_
  repeat' (first
 |simp only[go_sem,hD,hZ,gA,gB,oJ]
 |(with_reducible refine CU (cP _) ?_)
 |(with_reducible refine CU (hF2) ?_)
 |(with_reducible first|refine bt fun hc=>?_|refine bu fun hc=>?_|refine bx (fun hc=>?_) fun hc=>?_)<;>(try simp only[hc,bs,↓reduceIte]at h)<;>try simp only[hc]
 |(with_reducible refine aI hQ ?_;(try cases h);simp only[bh,bj,bP,bQ,go_sem,hD,hZ,gA,gB,oJ];try exact cO)
 |(cases h;done))
  refine Sem.ox ?_
  repeat' (first
 |simp only[go_sem,hD,hZ,gA,gB]
 |(with_reducible first|refine bt fun hc=>?_|refine bu fun hc=>?_|refine bx (fun hc=>?_) fun hc=>?_)<;>(try simp only[hc,bs,↓reduceIte]at h)<;>try simp only[hc]
 |(with_reducible refine aI hQ ?_;exact fS)
 |(cases h;done))
  refine Sem.rl ?_ aiN
  simp only[go_sem]
  repeat' (first|exact Ok.out|with_reducible refine jG ?_ ?_)
 generalize hG:p.globals.length=G at *
 have hGb:G≤900000:=by rw[← hG];exact hO.procs.2.2
 let row:Nat→List D:=fun k=> [.dR (gj p) 0, .slice (.tok 2) 1 ((List.range k).map fun i=>fX (3+i)), .slice .shared 1 (T.map cR), .slice .shared 1 (W.map cR), .ff 1, .ff 1, .int .i64 0, .int .i64 0, .int .i64 0, .slice (.tok 0) 1 [], .slice (.tok 1) 2 []]
 have loop : ∀ d k:Nat,k+d=G→bp Tryz.prog B 131 Q27 (jq 0 (lR (Sem Tryz.prog B 131 Q3T (JJ B Q)) (JJ B Q))) [(2, .int .i64 fuel),(8, .ptr 2 0),(10, .ptr 0 0),(34, .int .i64 (G:Int)),(35, .int .i64 (k:Int))]
  ⟨row k::bO p::D7::List.replicate k [.int .i64 0],[some 0,some 0,some k]⟩:=by
  intro d
  induction d with
  |zero=>
   intro k hk
   have sC:k=G:=by omega
   subst sC
   have hD:decide ((k:Int)<(k:Int))=false:=by simp
   refine bp.kO ?_
   repeat' (first
 |simp only[go_sem,hD,hZ,gA,gB]
 |(with_reducible first|refine bt fun hc=>?_|refine bu fun hc=>?_|refine bx (fun hc=>?_) fun hc=>?_)<;>(try simp only[hc,bs,↓reduceIte]at h)<;>try simp only[hc]
 |(with_reducible refine aI hQ ?_;exact fS)
 | (cases h;done))
   refine Sem.rl (bJ:= [(2, .int .i64 fuel),(8, .ptr 2 0),(10, .ptr 0 0)]) (by simp only[go_sem];repeat' (first|exact Ok.out|with_reducible refine jG ?_ ?_)) ?_
   have hκ:((List.range k).map (3 + ·)).length=k:=by simp
   have hmp:((List.range k).map fun i=>fX (3+i))=(((List.range k).map (3 + ·)).take k).map fX:=by rw[List.take_of_length_le (by simp),List.map_map];rfl
   refine Sem.wkO (gf p T W ⟨(List.range k).map (3 + ·),[], .ff 1, .ff 1⟩ (kz p)::bO p::D7::List.replicate k [.int .i64 0]) ?_ (start ⟨(List.range k).map (3 + ·),[], .ff 1, .ff 1⟩ _ ?_)
   ·refine .cons ?_ (il.refl _)
    simp only[row,gf,hG, ← hmp,kz,List.map_nil]
    exact Ok.out
   ·have NU:((List.range k).map (3 + ·)).Nodup:=by
     rw[List.nodup_iff_pairwise_ne,List.pairwise_map]
     exact List.Pairwise.imp (fun h=>by omega) (List.nodup_iff_pairwise_ne.1 List.nodup_range)
    refine⟨rfl,rfl,rfl,by simp[kz,hG],fun i c v e1 e2=>?_,rfl,fun i o fr e1 e2=>by simp at e1, .inl ⟨rfl,rfl⟩,⟨[], .inl ⟨rfl,rfl⟩⟩, ?_,fun x mx=>?_⟩
    ·have hD:=(List.getElem?_eq_some_iff.1 e1).1
     simp only[hκ]at hD
     rw[List.getElem?_map,List.getElem?_range hD]at e1
     simp only[kz]at e2
     rw[List.getElem?_replicate_of_lt (by omega)]at e2
     simp only[Option.map_some,Option.some.injEq]at e1 e2
     subst e1 e2
     show(_::_::_::List.replicate k [D.int .i64 0])[3+i]? = _
     rw[show 3+i=i+1+1+1 by omega]
     simp only[List.getElem?_cons_succ]
     exact List.getElem?_replicate_of_lt hD
    ·simp only [Lay.own,D.arr,List.append_nil]
     rw[List.nodup_cons]
     exact⟨by simp,NU⟩
    ·rw [List.mem_singleton.1 mx]
     refine⟨rfl, ?_⟩
     simp only[Lay.own,D.arr,List.append_nil,List.mem_cons,List.mem_map,List.mem_range,not_or]
     exact⟨by omega,by rintro⟨i,_,h⟩;omega⟩
  | succ d ih=>
   intro k hk
   have hD:decide ((k:Int)<(G:Int))=true:=by simp;omega
   have cu:k<4611686018427387904:=by omega
   have fl : ∀ os,jo 1 8 (.slice (.tok 2) 1 ((List.range k).map fun i=>fX (3+i))) (.slice .full 1 [[.ptr (3+k) 0]]) ⟨os,[some 0,some 0,some k]⟩ =
    some (.slice (.tok 2) 1 ((List.range (k+1)).map fun i=>fX (3+i)),⟨os,[some 0,some 0,some (k+1)]⟩):=fun os=>by
    rw[nP (size:=1) (by simp only[List.length_map,List.length_range,List.length_singleton];unfold bq;omega) (by simp)]
    simp[List.range_succ,fX]
   have hln : ∀ a b c:List D,(a::b::c::List.replicate k [D.int .i64 0]).length=3+k:=fun a b c=>by simp;omega
   have aiO : ∀ a b c:List D,a::b::c::List.replicate k [D.int .i64 0]++ [[D.int .i64 0]] = a::b::c::List.replicate (k+1) [D.int .i64 0]:=fun a b c=>by rw[List.replicate_succ'];rfl
   refine bp.kO ?_
   simp only[row]
   repeat' (first
 |simp only[go_sem,hD,hZ,gA,gB,fl,hln,aiO]
 |(with_reducible first|refine bt fun hc=>?_|refine bu fun hc=>?_|refine bx (fun hc=>?_) fun hc=>?_)<;>(try simp only[hc,bs,↓reduceIte]at h)<;>try simp only[hc]
 |(with_reducible refine aI hQ ?_;(try cases h);simp only[bh,bj,bP,bQ,go_sem,hD,hZ,gA,gB,fl,hln,aiO];try exact cO)
 | (cases h;done))
   have:=ih (k+1) (by omega)
   simp only[row,List.range_succ,List.map_append,List.map_cons,List.map_nil]at this
   refine bp.rl ?_ this
   simp only[go_sem,aN cu]
   repeat' (first|exact Ok.out|with_reducible refine jG ?_ ?_)
 repeat' (first
 |simp only[go_sem,hD,hZ,gA,gB,b1,b2]
 |(with_reducible first|refine bt fun hc=>?_|refine bu fun hc=>?_|refine bx (fun hc=>?_) fun hc=>?_)<;>(try simp only[hc,bs,↓reduceIte]at h)<;>try simp only[hc]
 |(with_reducible refine aI hQ ?_;(try cases h);simp only[bh,bj,bP,bQ,go_sem,hD,hZ,gA,gB,b1,b2];try exact cO)
 |(cases h;done))
 refine mK.once (Sem.ox ?_)
 repeat' (first
 |simp only[go_sem,hD,hZ,gA,gB,b1,b2]
 |(with_reducible refine CU (cM _) ?_)
 |(with_reducible first|refine bt fun hc=>?_|refine bu fun hc=>?_|refine bx (fun hc=>?_) fun hc=>?_)<;>(try simp only[hc,bs,↓reduceIte]at h)<;>try simp only[hc]
 |(with_reducible refine aI hQ ?_;(try cases h);simp only[bh,bj,bP,bQ,go_sem,hD,hZ,gA,gB,b1,b2];try exact cO)
 |(cases h;done))
 refine Sem.ox ?_
 repeat' (first
 |simp only[go_sem,hD,hZ,gA,gB]
 |(with_reducible refine CU (cN _) ?_)
 |(with_reducible first|refine bt fun hc=>?_|refine bu fun hc=>?_|refine bx (fun hc=>?_) fun hc=>?_)<;>(try simp only[hc,bs,↓reduceIte]at h)<;>try simp only[hc]
 |(with_reducible refine aI hQ ?_;exact fS)
 |(cases h;done))
 refine Sem.ox ?_
 repeat' (first
 |simp only[go_sem,hD,hZ,gA,gB]
 |(with_reducible first|refine bt fun hc=>?_|refine bu fun hc=>?_|refine bx (fun hc=>?_) fun hc=>?_)<;>(try simp only[hc,bs,↓reduceIte]at h)<;>try simp only[hc]
 |(with_reducible refine aI hQ ?_;exact fS)
 |(cases h;done))
 refine bp.zz 2 9 1 rfl rfl ?_
 refine bp.zz 2 10 2 rfl rfl ?_
 refine bp.zz 2 1 1 rfl rfl ?_
 simp only[List.set_cons_succ,List.set_cons_zero,List.length_nil,List.nil_append,List.length_cons,List.cons_append]
 have l0:=loop G 0 (by omega)
 simp only[row,List.range_zero,List.map_nil,List.replicate_zero]at l0
 refine bp.re [(2, .int .i64 fuel),(8, .ptr 1 0),(10, .ptr 2 0),(34, .int .i64 (G:Int)),(35, .int .i64 ((0:Nat):Int))]
  [bO p,D7,[.dR (gj p) 0, .slice (.tok 2) 1 [], .slice .shared 1 (T.map cR), .slice .shared 1 (W.map cR), .ff 1, .ff 1, .int .i64 0, .int .i64 0, .int .i64 0, .slice (.tok 0) 1 [], .slice (.tok 1) 2 []]] 3 3 (by rw[hB];exact Nat.zero_le _) (by rw[hB];exact Nat.zero_le _) ?_ ?_ ?_
 ·simp only [go_sem,hG]
  repeat' (first|exact Ok.out|with_reducible refine jG ?_ ?_)
 ·simp only [go_sem,ack]
  repeat' (first|exact Ok.out|with_reducible refine jG ?_ ?_)
 have r1 : ∀ os ts,D.fa os ts (gj p)=gj p:=fun os ts=>fV os ts _ (wi p)
 have r2 : ∀ n m,D.bM n m (gj p)=true:=fun n m=>jr (Nat.zero_le n) (Nat.zero_le m) _ (wi p)
 have r3 : ∀ os ts l,D.px os ts (List.map cR l)=List.map cR l:=fun os ts l=>jY os ts _ (jH l)
 have r4 : ∀ n m l,D.jb n m (List.map cR l)=true:=fun n m l=>nN (Nat.zero_le n) (Nat.zero_le m) _ (jH l)
 refine bp.Y0 hB [2,0,1] _ _ (by decide) (by simp) ?_ ?_ l0
 ·simp[zC,D.fa,D.cU,D.px,D.bM,D.jb,D.ok,Tag.cU,Tag.ok,St.cut,r1,r2,r3,r4,Es,G7,D7]
 ·simp[Cm,Tm.get,D.cU,D.ok]
theorem Gl {a b:List Int} (ha:a.length<1000000000) (g:Tag) (s:St):aH Tryz.prog oy [.slice .shared 1 (a.map cR), .slice g 1 (b.map cR)] s (.bool (a==b)) s:=by
 refine bV.qA (.cons (Wk.refl _) (.cons (Wk.shared _ _ _) .nil)) (aH.pure ?_ (by simp[D.bM,D.ok,Tag.ok,jH]) rfl s)
 generalize h:(a==b)=R
 unfold S0
 by_cases hl:a.length=b.length
 ·have e1:((a.length:Int) != (b.length:Int))=false:=by simp [hl]
  refine aH.go xE rfl fun B Q hB hQ=>?_
  have⟨hD,hZ,gA,gB⟩:=bX
  repeat' (first
 |simp only[go_sem,hD,hZ,gA,gB,e1]
 |(with_reducible first|refine bt fun hc=>?_|refine bu fun hc=>?_|refine bx (fun hc=>?_) fun hc=>?_)<;>(try simp only[hc,bs,↓reduceIte]at h)<;>try simp only[hc]
 |(with_reducible refine aI hQ ?_;(try cases h);simp only[bh,bj,bP,bQ,go_sem,hD,hZ,gA,gB,e1];try exact cO)
 | (cases h;done))
  refine fG 0 0 (bp.ind (ι:=List Int×List Int×Nat) (fun i=>a.drop i.2.2=i.1∧b.drop i.2.2=i.2.1∧(i.1==i.2.1)=R) (fun i=>i.1.length)
   (fun i=> [(0, .slice .shared 1 (a.map cR)),(1, .slice .shared 1 (b.map cR)),(12, .int .i64 (a.length:Int)),(13, .int .i64 (i.2.2:Int))]) (fun i=>⟨[],[]⟩) ?_ (a,b,0) ⟨rfl,rfl,h⟩)
  rintro⟨ra,rb,k⟩ ⟨h1,h2,h⟩ IH
  dsimp only at h1 h2 h
  cases ra with
  |nil=>
   have hD:=drop_nil h1
   have:b.drop k = []:=by rw[List.drop_eq_nil_iff]at h1 ⊢;omega
   rw[h2]at this
   subst this
   have h':true=R:=h
   subst h'
   repeat' (first
 |simp only[go_sem,hD,hZ,gA,gB]
 |(with_reducible first|refine bt fun hc=>?_|refine bu fun hc=>?_|refine bx (fun hc=>?_) fun hc=>?_)<;>(try simp only[hc,bs,↓reduceIte]at h)<;>try simp only[hc]
 |(with_reducible refine aI hQ ?_;exact fS)
 | (cases h;done))
  | cons x ra=>
   obtain⟨hZ,g2,hD,g4⟩:=drop_cons h1
   have cu:k<4611686018427387904:=by omega
   cases rb with
   |nil=>rw[List.drop_eq_nil_iff]at h2;omega
   | cons y rb=>
    obtain⟨yo,g2',ah3,g4'⟩:=drop_cons h2
    have e2:(x != y) = !(x==y):=rfl
    simp only[List.cons_beq_cons]at h
    rcases Bool.eq_false_or_eq_true (x==y)with c|c
    ·simp only [c,Bool.true_and]at h
     repeat' (first
 |simp only[go_sem,hD,hZ,gA,gB,e2,c,yo]
 |(with_reducible first|refine bt fun hc=>?_|refine bu fun hc=>?_|refine bx (fun hc=>?_) fun hc=>?_)<;>(try simp only[hc,bs,↓reduceIte]at h)<;>try simp only[hc]
 |(with_reducible refine aI hQ ?_;(try cases h);simp only[bh,bj,bP,bQ,go_sem,hD,hZ,gA,gB,e2,c,yo];try exact cO)
 | (cases h;done))
     refine fi 0 0 ?_ ?_ (IH (ra,rb,k+1) ⟨g2,g2',h⟩ (Nat.lt_succ_self _))
     ·(simp only[go_sem,hD,hZ,gA,gB,aN cu];try exact bY)
     ·(simp only[go_sem,hD,hZ,gA,gB,aN cu];try exact bY)
    ·simp only [c,Bool.false_and]at h
     repeat' (first
 |simp only[go_sem,hD,hZ,gA,gB,e2,c,yo]
 |(with_reducible first|refine bt fun hc=>?_|refine bu fun hc=>?_|refine bx (fun hc=>?_) fun hc=>?_)<;>(try simp only[hc,bs,↓reduceIte]at h)<;>try simp only[hc]
 |(with_reducible refine aI hQ ?_;(try cases h);simp only[bh,bj,bP,bQ,go_sem,hD,hZ,gA,gB,e2,c,yo];try exact cO)
 |(cases h;done))
 ·have e1:((a.length:Int) != (b.length:Int))=true:=by simp;omega
  have:(a==b)=false:=by
   rw[beq_eq_false_iff_ne];intro e;rw[e]at hl;exact hl rfl
  rw[this]at h
  subst h
  refine aH.go xE rfl fun B Q hB hQ=>?_
  have⟨hD,hZ,gA,gB⟩:=bX
  repeat' (first
 |simp only[go_sem,hD,hZ,gA,gB,e1]
 |(with_reducible first|refine bt fun hc=>?_|refine bu fun hc=>?_|refine bx (fun hc=>?_) fun hc=>?_)<;>(try simp only[hc,bs,↓reduceIte]at h)<;>try simp only[hc]
 |(with_reducible refine aI hQ ?_;(try cases h);simp only[bh,bj,bP,bQ,go_sem,hD,hZ,gA,gB,e1];try exact cO)
 |(cases h;done))
structure Mc.Len (m:Mc):Prop where
 out:m.out.length<1000000000
 trace:m.trace.length<1000000000
 bI : ∀ e∈m.trace,e.2.length<1000000000
def B0 (a b:Mc):Bool:=a.fin==b.fin && (a.steps==b.steps && (a.reads==b.reads && a.out==b.out))
def aBs (a b:Mc):Bool:=B0 a b && a.trace==b.trace
theorem aeL {a b:Mc} (ha:a.Len) (s:St):aH Tryz.prog vZ [.agg (gI a), .agg (gI b)] s (.bool (B0 a b)) s:=by
 refine aH.pure ?_ (by simp[D.bM,D.ok,H9]) rfl s
 have cE:=fun g s=>Gl (a:=a.out) (b:=b.out) ha.out g s
 generalize h:B0 a b=R
 simp only[B0]at h
 unfold S0
 simp only[gI]
 rcases Bool.eq_false_or_eq_true (a.fin==b.fin)with c1|c1
 all_goals rcases Bool.eq_false_or_eq_true (a.steps==b.steps)with c2|c2
 all_goals rcases Bool.eq_false_or_eq_true (a.reads==b.reads)with c3|c3
 all_goals
  simp only[c1,c2,c3,Bool.true_and,Bool.false_and]at h
  subst h
  refine aH.go Hd rfl fun B Q hB hQ=>?_
  have⟨hD,hZ,gA,gB⟩:=bX
  repeat' (first
 |simp only[go_sem,hD,hZ,gA,gB,c1,c2,c3]
 |(with_reducible refine CU (cE _ _) ?_)
 |(with_reducible first|refine bt fun hc=>?_|refine bu fun hc=>?_|refine bx (fun hc=>?_) fun hc=>?_)<;>(try simp only[hc,bs,↓reduceIte]at h)<;>try simp only[hc]
 |(with_reducible refine aI hQ ?_;(try cases h);simp only[bh,bj,bP,bQ,go_sem,hD,hZ,gA,gB,c1,c2,c3];try exact cO)
 |(cases h;done))
theorem Jn:gI (ofM tT [] [5,2] 50).1 = [.int .i64 1, .int .i64 7, .int .i64 0, .slice .shared 1 ([5,5].map cR), .slice .shared 2 ([(2,[]),(5,[5])].map pH)]:=by kernel_rfl
theorem amy:(ofM tT [] [5,2] 50).2=0:=by kernel_rfl
theorem aeM:Nat.ble (tT.size+1) 1000=true:=by kernel_rfl
theorem W5 (n:Int):sh (.ofInt .f64) (.int .i64 n) (.int .i64 n)=some (.val (.float .f64 (FloatKind.nearest .f64 n))):=nd rfl
theorem N7 (a b:Nat):sh .Ly (.val (.float .f64 a)) (.val (.float .f64 b))=some (.val (.complex .f64 a b)):=nd rfl
theorem N8 (a b:Nat) (d:D):sh .real (.val (.complex .f64 a b)) d=some (.val (.float .f64 a)):=nd rfl
theorem acF:sh .eq (.val (.float .f64 (FloatKind.nearest .f64 7))) (.val (.float .f64 4619567317775286272))=some (.bool true):=by
 have:FloatKind.nearest .f64 7=4619567317775286272:=by decide +kernel
 rw[this]
 have h:(FloatKind.f64.format.order 4619567317775286272 4619567317775286272==some .eq)=true:=by decide +kernel
 show(if FloatKind.f64=FloatKind.f64 then some (D.bool (FloatKind.f64.format.order 4619567317775286272 4619567317775286272==some .eq))else none)=_
 rw[if_pos rfl,h]
theorem aiP:tT.jA:=by
 have xc:tT.size<100000:=by have:=Nat.le_of_ble_eq_true aeM;omega
 exact⟨J4 (by decide +kernel) (by omega),by omega⟩
theorem aiQ (n k:Nat) (m:Mc):D.iD n k (gI m)=gI m:=jg n k _ (H9 m)
theorem aeN (m:Mc):(gI m).length=5:=nd rfl
theorem aai (m:Mc):List.take 5 (gI m)=gI m:=nd rfl
theorem amz (m:Mc):(gI m)[0]? = some (.int .i64 m.fin):=nd rfl
theorem amA (m:Mc):(gI m)[1]? = some (.int .i64 m.steps):=nd rfl
theorem amB (m:Mc):(gI m)[2]? = some (.int .i64 m.reads):=nd rfl
theorem amC (m:Mc):(gI m)[3]? = some (.slice .shared 1 (m.out.map cR)):=nd rfl
theorem amD (m:Mc):(gI m)[4]? = some (.slice .shared 2 (m.trace.map pH)):=nd rfl
attribute [go_sem] aiQ aeN aai amz amA amB amC amD
theorem aeO (m:Mc) (s:St):aH Tryz.prog zG [.agg (gI m)] s (.val (.complex .f64 (FloatKind.nearest .f64 m.steps) (FloatKind.nearest .f64 m.reads))) s:=by
 refine aH.pure ?_ (by simp[D.bM,D.ok,H9]) rfl s
 unfold S0
 refine aH.go KU rfl fun B Q hB hQ=>?_
 have⟨hD,hZ,gA,gB⟩:=bX
 repeat' (first
 |simp only[go_sem,hD,hZ,gA,gB,gI,W5,N7]
 |(with_reducible first|refine bt fun hc=>?_|refine bu fun hc=>?_|refine bx (fun hc=>?_) fun hc=>?_)<;>(try simp only[hc,bs,↓reduceIte]at h)<;>try simp only[hc]
 |(with_reducible refine aI hQ ?_;(try cases h);simp only[bh,bj,bP,bQ,go_sem,hD,hZ,gA,gB,gI,W5,N7];try exact cO)
 |(cases h;done))
theorem amE (s:St):aH Tryz.prog zE [] s (.bool true) s:=by
 refine aH.pure ?_ rfl rfl s
 have h1:=fun s=>ail s
 have h2:=fun s=>aiL (T:= []) (W:= [5,2]) aiP (by simp) (by simp) 50 s
 have h4:=fun s=>aeO (ofM tT [] [5,2] 50).1 s
 have m1:(ofM tT [] [5,2] 50).1.steps=7:=by have:=congrArg (fun l=>l[1]?) Jn;simpa[gI]using this
 have m2:(ofM tT [] [5,2] 50).1.reads=0:=by have:=congrArg (fun l=>l[2]?) Jn;simpa[gI]using this
 rw[m1,m2]at h4
 rw[Jn]at h2 h4
 rw[amy]at h2
 simp only[List.map_cons,List.map_nil,cR,pH]at h2 h4
 have h3:=fun g s=>Gl (a:= [5,5]) (b:= [5,5]) (by simp) g s
 have h5:=fun g s=>Gl (a:= [5]) (b:= [5]) (by simp) g s
 have e5:(([5,5] : List Int) == [5,5])=true:=rfl
 have e6:(([5] : List Int) == [5])=true:=rfl
 rw[e5]at h3
 rw[e6]at h5
 simp only[List.map_cons,List.map_nil,cR]at h3 h5
 have wx:=fun s=>bV.qA (.cons (Wk.refl _) (.cons (Wk.nil .full 0 1) (.cons (Wk.refl _) (.cons (Wk.shared .full _ _) .nil)))) (h2 s)
 have h2 : ∀ s,aH Tryz.prog xr [.agg (bO tT), .slice .full 0 [], .int .i64 50, .slice .full 1 [[.int .i64 5],[.int .i64 2]]] s _ s:=wx
 clear wx
 have z0 : ∀ x:Int,(x==x)=true:=fun x=>beq_self_eq_true x
 have z2:(((2:Nat):Int)==2)=true:=rfl
 unfold S0
 refine aH.go KR rfl fun B Q hB hQ=>?_
 have⟨hD,hZ,gA,gB⟩:=bX
 repeat' (first
 |simp only[go_sem,hD,hZ,gA,gB,z0,z2,N8,acF,Int.toNat_one,List.getElem?_cons_succ,List.getElem?_cons_zero]
 |(with_reducible refine CU (h1 _) ?_)
 |(with_reducible refine CU (h2 _) ?_)
 |(with_reducible refine CU (h3 _ _) ?_)
 |(with_reducible refine CU (h5 _ _) ?_)
 |(with_reducible refine CU (h4 _) ?_)
 |(with_reducible first|refine bt fun hc=>?_|refine bu fun hc=>?_|refine bx (fun hc=>?_) fun hc=>?_)<;>(try simp only[hc,bs,↓reduceIte]at h)<;>try simp only[hc]
 |(with_reducible refine aI hQ ?_;(try cases h);simp only[bh,bj,bP,bQ,go_sem,hD,hZ,gA,gB,z0,z2,N8,acF,Int.toNat_one,List.getElem?_cons_succ,List.getElem?_cons_zero];try exact cO)
 |(cases h;done))
theorem aeP {p:Pg} (hO:p.jA) (T:List Int) (fuel:Int) (s:St):aH Tryz.prog vY [.agg (bO p), .slice .shared 1 (T.map cR), .int .i64 fuel] s (.bool (p.check.1==0 && (decide (0≤fuel) && (decide (fuel≤400) && decide ((T.length:Int)≤100))))) s:=by
 refine aH.pure ?_ (by simp[D.bM,D.ok,Tag.ok,iy,jH]) rfl s
 have h1:=fun s=>W3 hO s
 have g1:decide (fuel≥0)=decide (0≤fuel):=rfl
 unfold S0
 rcases Bool.eq_false_or_eq_true (p.check.1==0)with b1|b1
 all_goals rcases Bool.eq_false_or_eq_true (decide (0≤fuel))with b2|b2
 all_goals rcases Bool.eq_false_or_eq_true (decide (fuel≤400))with b3|b3
 all_goals rcases Bool.eq_false_or_eq_true (decide ((T.length:Int)≤100))with b4|b4
 all_goals simp only[b1,b2,b3,b4,Bool.true_and,Bool.false_and]
 all_goals rw[b1]at h1
 all_goals rw[b2]at g1
 all_goals
  refine aH.go Hb rfl fun B Q hB hQ=>?_
  have⟨hD,hZ,gA,gB⟩:=bX
  repeat' (first
 |simp only[go_sem,hD,hZ,gA,gB,g1,b3,b4]
 |(with_reducible refine CU (h1 _) ?_)
 |(with_reducible first|refine bt fun hc=>?_|refine bu fun hc=>?_|refine bx (fun hc=>?_) fun hc=>?_)<;>(try simp only[hc,bs,↓reduceIte]at h)<;>try simp only[hc]
 |(with_reducible refine aI hQ ?_;(try cases h);simp only[bh,bj,bP,bQ,go_sem,hD,hZ,gA,gB,g1,b3,b4];try exact cO)
 |(cases h;done))
def Pg.whole (p:Pg) (T:List Int) (fuel:Int):Mc:=(ofM p T (pG 0 p.all) fuel).1
theorem Ia {p:Pg} (hO:p.jA) (yT:p.all.length≤1000) {T:List Int} (hT:T.length<1000000) (fuel:Int) (s:St):aH Tryz.prog rY [.agg (bO p), .slice .shared 1 (T.map cR), .int .i64 fuel] s (.agg (gI (p.whole T fuel))) s:=by
 refine aH.pure ?_ (by simp[D.bM,D.ok,Tag.ok,iy,jH]) (by simp only[D.ok,H9]) s
 have yP:=hO.procs
 have h1:=fun s=>amc (p:=p) (by omega) yT 0 s
 have hW:(pG 0 p.all).length<1000000:=by have:=Gb 0 p.all;omega
 have h2:=fun s=>aiL hO hT hW fuel s
 unfold Pg.whole
 unfold S0
 refine aH.go Hc rfl fun B Q hB hQ=>?_
 have⟨hD,hZ,gA,gB⟩:=bX
 repeat' (first
 |simp only[go_sem,hD,hZ,gA,gB]
 |(with_reducible refine CU (h1 _) ?_)
 |(with_reducible refine CU (h2 _) ?_)
 |(with_reducible first|refine bt fun hc=>?_|refine bu fun hc=>?_|refine bx (fun hc=>?_) fun hc=>?_)<;>(try simp only[hc,bs,↓reduceIte]at h)<;>try simp only[hc]
 |(with_reducible refine aI hQ ?_;exact fS)
 |(cases h;done))
end Go.Abs
namespace Go.Abs
def Reads (n:Nat) (m:Mc):Prop:=0≤m.reads∧m.reads≤(n:Int)∧(m.fin=3→m.reads=(n:Int))
def Sm.tells (s:Sm):Nat:=if s.kind==4 ||(decide (s.kind≥7) && !s.has)then 0 else 1
def Qx (m m':Mc):Prop:=m'.trace=m.trace∧m'.out=m.out∧m'.reads=m.reads
def Qy (T:List Int) (x:Sm) (m m':Mc):Prop:=∃ bI:List Int,m'.trace=m.trace++ [(x.id,bI)]∧m'.out=m.out++(if x.kind==3 then bI else [])∧bI.length=x.tells∧
 (if x.kind==2 then ∃ v,T[m.reads.toNat]? = some v∧bI = [v]∧m'.reads=m.reads+1 else m'.reads=m.reads)
def B1 (T:List Int) (x:Sm) (m m':Mc):Prop:=Qx m m'∨Qy T x m m'
theorem Qz {s:Sm} (h:s.one=true):1≤s.kind∧s.kind≤10∧(s.kind≠9→s.has=false):=by
 unfold Sm.one at h
 split at h
 ·cases h
 ·rename_i c
  simp only[Bool.or_eq_true,not_or,Bool.not_eq_true,Bool.and_eq_false_iff,decide_eq_false_iff_not,bne_eq_false_iff_eq]at c
  obtain⟨⟨⟨⟨⟨c1,c2⟩,_⟩,_⟩,_⟩,c3⟩:=c
  refine⟨by omega,by omega,fun hk=>?_⟩
  rcases c3 with c3|c3
  ·exact c3
  ·exact absurd c3 hk
theorem uR {T W:List Int} {x:Sm} {m m1:Mc} {bI:List Int} (hW:W.contains x.id=true) (e:m1.trace=m.trace) (eo:m1.out=m.out) (er:m1.reads=m.reads) (hv:bI.length=x.tells) (h3:(x.kind==3)=false) (h2:(x.kind==2)=false):Qy T x m (m1.event W x.id bI):=by
 have k:=fz W m1 x.id bI
 refine⟨bI, ?_, ?_,hv, ?_⟩
 ·unfold Mc.event;rw[if_pos hW];dsimp only;rw[e]
 ·rw[h3];simp[k.2.2.2.2.2,eo]
 ·rw[h2];simp[k.2.2.2.2.1,er]
theorem TX {p:Pg} {T W:List Int} {m:Mc} {v:Sm} (hk:(v.kind==4)=true) (hW:W.contains v.id=true):B1 T v m (m.call p W v).2:=by
 have h1:=BX v.args m []
 have h2:=zb v.args m []
 unfold Mc.call
 generalize Mc.args v.args m [] = r at *
 obtain⟨o,m1⟩:=r
 dsimp only at h1 h2
 have k4:v.kind=4:=by simpa using hk
 cases o with
 |none=>exact .inl ⟨h1.2,h1.1,h2.1⟩
 | some l=>
  dsimp only
  by_cases c:m1.st.length > 100
  ·rw[if_pos c];exact .inl ⟨h1.2,h1.1,h2.1⟩
  ·rw [if_neg c]
   have e2:=za p (m1.event W v.id []) (p.at v.proc) l v.id
   obtain⟨bI,g1,g2,g3,g4⟩:=uR (T:=T) (x:=v) (m:=m) (bI:= []) hW h1.2 h1.1 h2.1 (by unfold Sm.tells;rw[hk];rfl) (by rw[k4];rfl) (by rw[k4];rfl)
   exact .inr ⟨bI,e2.1.trans g1,e2.2.1.trans g2,g3,by rw[e2.2.2.1];exact g4⟩
theorem Pv {T W:List Int} {m:Mc} {v:Sm} (hk:(v.kind==9)=true) (hW:W.contains v.id=true):B1 T v m (m.fD W v).2:=by
 have hw:=iO m v.x
 have k9:v.kind=9:=by simpa using hk
 have k4:(v.kind==4)=false:=by rw[k9];rfl
 have k7:decide (v.kind≥7)=true:=by simp[k9]
 unfold Mc.fD
 rcases Bool.eq_false_or_eq_true v.has with c|c
 ·rw [if_pos c]
  dsimp only
  split
  ·exact .inr (uR hW hw.2.2.2.2.2 hw.2.2.2.2.1 hw.2.2.2.1 (by unfold Sm.tells;rw[k4,k7,c];rfl) (by rw[k9];rfl) (by rw[k9];rfl))
  ·exact .inl ⟨hw.2.2.2.2.2,hw.2.2.2.2.1,hw.2.2.2.1⟩
 ·rw [if_neg (by rw [c];exact Bool.false_ne_true)]
  exact .inr (uR hW rfl rfl rfl (by unfold Sm.tells;rw[k4,k7,c];rfl) (by rw[k9];rfl) (by rw[k9];rfl))
theorem aaj {p:Pg} {L:List Im} {T W:List Int} {m:Mc} {it:Im} (h1:it.s.one=true) (k4:(it.s.kind==4)=false) (k9:(it.s.kind==9)=false) (hW:W.contains it.s.id=true):B1 T it.s m (m.do p L T W it).2:=by
 have hw:=iO m it.s.x
 obtain⟨o1,o2,o3⟩:=Qz h1
 have hh:=o3 (by simpa using k9)
 have late:(decide (it.s.kind≥7))=true→it.s.tells=0:=fun e=>by unfold Sm.tells;rw[k4,e,hh];rfl
 have at4:(decide (it.s.kind≥7))=false→it.s.tells=1:=fun e=>by unfold Sm.tells;rw[k4,e];rfl
 unfold Mc.do
 dsimp only
 by_cases c7:(it.s.kind==7)=true
 ·rw [if_pos c7]
  have e:it.s.kind=7:=by simpa using c7
  exact .inr (uR hW rfl rfl rfl (late (by simp[e])).symm (by rw[e];rfl) (by rw[e];rfl))
 rw[if_neg c7]
 by_cases c8:(it.s.kind==8)=true
 ·rw [if_pos c8]
  have e:it.s.kind=8:=by simpa using c8
  exact .inr (uR hW rfl rfl rfl (late (by simp[e])).symm (by rw[e];rfl) (by rw[e];rfl))
 rw[if_neg c8]
 by_cases Ku:(it.s.kind==10)=true
 ·rw [if_pos Ku]
  have e:it.s.kind=10:=by simpa using Ku
  exact .inr (uR hW rfl rfl rfl (late (by simp[e])).symm (by rw[e];rfl) (by rw[e];rfl))
 rw[if_neg Ku]
 have s7:decide (it.s.kind≥7)=false:=by
  simp only[beq_iff_eq]at c7 c8 Ku
  simp only[beq_eq_false_iff_ne,ne_eq]at k9
  simp only[decide_eq_false_iff_not]
  omega
 have one:=at4 s7
 by_cases c2:(it.s.kind==2)=true
 ·rw [if_pos c2]
  have e:it.s.kind=2:=by simpa using c2
  cases ht:T[m.reads.toNat]? with
  |none=>exact .inl ⟨rfl,rfl,rfl⟩
  |some n=>
   dsimp only
   have k:=fz W (({m with reads:=m.reads+1} : Mc).set it.s.name n) it.s.id [n]
   refine .inr ⟨[n], ?_, ?_,by rw[one];rfl, ?_⟩
   ·unfold Mc.event;rw[if_pos hW];rfl
   ·rw[k.2.2.2.2.2,e];simp[Mc.set]
   ·rw[if_pos c2];exact⟨n,ht,rfl,k.2.2.2.2.1⟩
 rw[if_neg c2]
 have N9:(it.s.kind==2)=false:=by simpa using c2
 by_cases cw:(m.bg it.s.x).1.2=true
 ·rw [if_pos cw]
  have k:=fz W (m.bg it.s.x).2 it.s.id [(m.bg it.s.x).1.1]
  have et:((m.bg it.s.x).2.event W it.s.id [(m.bg it.s.x).1.1]).trace=m.trace++ [(it.s.id,[(m.bg it.s.x).1.1])]:=by
   unfold Mc.event;rw[if_pos hW];dsimp only;rw[hw.2.2.2.2.2]
  by_cases c3:(it.s.kind==3)=true
  ·have e:it.s.kind=3:=by simpa using c3
   have n1 : ¬((it.s.kind==1)=true):=by rw[e];decide
   rw[if_neg n1,if_pos c3]
   refine .inr ⟨[(m.bg it.s.x).1.1],et, ?_,by rw[one];rfl, ?_⟩
   ·rw[if_pos c3];dsimp only;rw[k.2.2.2.2.2,hw.2.2.2.2.1]
   ·rw[if_neg c2];dsimp only;rw[k.2.2.2.2.1,hw.2.2.2.1]
  ·have key:Qy T it.s m ((m.bg it.s.x).2.event W it.s.id [(m.bg it.s.x).1.1]):=
    uR hW hw.2.2.2.2.2 hw.2.2.2.2.1 hw.2.2.2.1 (by rw[one];rfl) (by simpa using c3) N9
   rw[if_neg c3]
   split
   ·exact .inr key
   split
   ·exact .inr key
   split
   ·exact .inr key
   ·exact .inr key
 ·rw [if_neg cw]
  exact .inl ⟨hw.2.2.2.2.2,hw.2.2.2.2.1,hw.2.2.2.1⟩
theorem Oa (L:List Im) (m:Mc) (g:Int):Qx m (m.back L g).2:=by
 have h:=BY L m g
 exact⟨h.1,h.2.1,h.2.2.1⟩
theorem B1.sil {T:List Int} {x:Sm} {m m1 m2:Mc} (h:B1 T x m m1) (k:Qx m1 m2):B1 T x m m2:=by
 rcases h with h|⟨v,h1,h2,h3,h4⟩
 ·exact .inl ⟨k.1.trans h.1,k.2.1.trans h.2.1,k.2.2.trans h.2.2⟩
 ·exact .inr ⟨v,k.1.trans h1,k.2.1.trans h2,h3,by rw[k.2.2];exact h4⟩
theorem TY {p:Pg} {L:List Im} {T W:List Int} (hW : ∀ x∈L,W.contains x.s.id=true∧x.s.one=true) {fuel a:Int} {m:Mc} (ha:pF L a) :
 Qx m (m.next p L T W fuel a).2∨∃ x∈L,Qy T x.s m (m.next p L T W fuel a).2:=by
 unfold Mc.next
 by_cases c1:(a == -1)=true
 ·rw[if_pos c1];exact .inl (Oa L m 0)
 rw[if_neg c1]
 by_cases c2:(m.steps==fuel)=true
 ·rw[if_pos c2];exact .inl ⟨rfl,rfl,rfl⟩
 rw[if_neg c2]
 have hm:=qO ha (by simpa using c1)
 obtain⟨w1,w2⟩:=hW _ hm
 dsimp only
 have fin : ∀ {m':Mc},B1 T (dX L a).s {m with steps:=m.steps+1} m'→Qx m m'∨∃ x∈L,Qy T x.s m m':=fun {m'} h=>by
  rcases h with h|h
  ·exact .inl h
  ·exact .inr ⟨_,hm,h⟩
 by_cases c4:((dX L a).s.kind==4)=true
 ·rw[if_pos c4];exact fin (TX c4 w1)
 rw[if_neg c4]
 by_cases c9:((dX L a).s.kind==9)=true
 ·rw [if_pos c9]
  have:=Pv (T:=T) (m:= {m with steps:=m.steps+1}) c9 w1
  split
  ·exact fin (this.sil (Oa ..))
  ·exact fin this
 rw[if_neg c9]
 exact fin (aaj w2 (by simpa using c4) (by simpa using c9) w1)
def pU (f:Int→Sm) (k:Int):List (Int×List Int)→List Int
 | []=> []
 |e::l=>(if(f e.1).kind==k then e.2 else [])++pU f k l
theorem B2 (f:Int→Sm) (k:Int) : ∀ a b,pU f k (a++b)=pU f k a++pU f k b
 | [],b=>rfl
 |e::a,b=>by simp only[List.cons_append,pU,B2 f k a b,List.append_assoc]
structure wo (L:List Im) (f:Int→Sm) (T:List Int) (m:Mc):Prop where
 ev : ∀ e∈m.trace,∃ x∈L,x.s.id=e.1∧e.2.length=x.s.tells
 out:pU f 3 m.trace=m.out
 ins:pU f 2 m.trace=T.take m.reads.toNat
 reads:0≤m.reads∧m.reads≤(T.length:Int)
theorem wo.sil {L:List Im} {f:Int→Sm} {T:List Int} {m m':Mc} (h:wo L f T m) (k:Qx m m'):wo L f T m':=by
 obtain⟨k1,k2,k3⟩:=k
 exact⟨by rw[k1];exact h.ev,by rw[k1,k2];exact h.out,by rw[k1,k3];exact h.ins,by rw[k3];exact h.reads⟩
theorem wo.tel {L:List Im} {f:Int→Sm} {T:List Int} {m m':Mc} {x:Im} (hx:x∈L) (hf:f x.s.id=x.s) (h:wo L f T m) (k:Qy T x.s m m'):wo L f T m':=by
 obtain⟨v,k1,k2,k3,k4⟩:=k
 refine⟨fun e me=>?_, ?_, ?_, ?_⟩
 ·rw [k1]at me
  rcases List.mem_append.1 me with me|me
  ·exact h.ev e me
  ·rw[List.mem_singleton.1 me];exact⟨x,hx,rfl,k3⟩
 ·rw[k1,k2,B2,h.out];simp[pU,hf]
 ·rw [k1,B2,h.ins]
  by_cases c:(x.s.kind==2)=true
  ·rw [if_pos c]at k4
   obtain⟨w,j1,j2,j3⟩:=k4
   have hr:=h.reads.1
   have e:m'.reads.toNat=m.reads.toNat+1:=by rw[j3];omega
   rw[e,List.take_add_one,j1,j2]
   simp[pU,hf,c]
  ·rw [if_neg c]at k4
   rw[k4]
   have c':(x.s.kind==2)=false:=by simpa using c
   simp[pU,hf,c']
 ·by_cases c:(x.s.kind==2)=true
  ·rw [if_pos c]at k4
   obtain⟨w,j1,j2,j3⟩:=k4
   have hr:=h.reads
   have:=(List.getElem?_eq_some_iff.1 j1).1
   omega
  ·rw [if_neg c]at k4
   rw[k4];exact h.reads
theorem QA {p:Pg} {L:List Im} (hL:Cw p L) {f:Int→Sm} (hf : ∀ x∈L,f x.s.id=x.s) {T W:List Int} (hW : ∀ x∈L,W.contains x.s.id=true∧x.s.one=true) {fuel:Int} : ∀ (N:Nat) (a:Int) (m m':Mc),pF L a→qe L m→m.fin=0→(m.trace.length:Int)=m.steps→wo L f T m→
 Mc.go p L T W fuel N a m=some m'→wo L f T m'
 | 0,_,_,_,_,_,_,_,_,h=>by simp[Mc.go]at h
 | N+1,a,m,m',ha,hs,hfi,ht,hl,h=>by
  have hn:=Kk (fuel:=fuel) (tape:=T) hL (fun x mx=>(hW x mx).1) ha hs hfi ht
  have he:=TY (p:=p) (T:=T) (W:=W) (fuel:=fuel) (m:=m) hW ha
  have mF:wo L f T (m.next p L T W fuel a).2:=by
   rcases he with he|⟨x,mx,he⟩
   ·exact hl.sil he
   ·exact hl.tel mx (hf x mx) he
  simp only[Mc.go]at h
  cases e:m.next p L T W fuel a with
  | mk o m1=>
   rw[e]at h hn mF
   cases o with
   |none=>simp only[Option.some.injEq]at h;subst h;exact mF
   |some a1=>
    obtain⟨h1,h2,h3,h4⟩:=hn
    exact QA hL hf hW N a1 m1 m' h1 h2 h3 h4 mF h
theorem W6 {p:Pg} (hL:Cw p p.aZ.L) {f:Int→Sm} (hf : ∀ x∈p.aZ.L,f x.s.id=x.s) {T W:List Int} (hW : ∀ x∈p.aZ.L,W.contains x.s.id=true∧x.s.one=true) {fuel:Int} {m:Mc} (h:runM p T W fuel=some m):wo p.aZ.L f T m:=by
 obtain⟨h1,h2,h3,h4⟩:=Nx hL
 have ho:=za p (kz p) (p.at iX) [] 0
 refine QA hL hf hW _ _ _ _ h1 h2 h3 h4 ?_ h
 have h0:wo p.aZ.L f T (kz p):=⟨fun e me=>by simp[kz]at me,rfl,rfl,by simp[kz]⟩
 exact h0.sil ⟨ho.1,ho.2.1,ho.2.2.1⟩
def aB9 (fuel:Int) (m:Mc):Prop:=m.fin=2→m.steps=fuel
def amG (W:List Int) (l:List (Int×List Int)):List (Int×List Int):=l.filter fun e=>W.contains e.1
def aCa (W:List Int) (m:Mc):Mc:= {m with trace:=amG W m.trace}
theorem Oc : ∀ l:List It,pG 0 l=l.map fun i=>i.s.id
 | []=>rfl
 |i::l=>by simp only[pG,List.map_cons,Oc l];rfl
theorem Od {p:Pg} (hb:p.may=true) : ∀ x∈p.aZ.L,(pG 0 p.all).contains x.s.id=true∧x.s.one=true:=fun x mx=>by
 have h1:x.s∈p.pre:=by rw[← (kJ p).1];exact List.mem_map_of_mem mx
 refine⟨?_,Jc hb _ h1⟩
 rw[Oc,List.contains_iff_mem]
 have e:p.all.map (fun i=>i.s.id)=(p.all.map It.s).map fun s=>s.id:=by rw[List.map_map];rfl
 rw[e,(Bz hb).2]
 exact List.mem_map_of_mem h1
theorem W7 {p:Pg} (hb:p.may=true) {v:Sm} (hv:v∈p.pre):p.EE v.id=v:=by
 obtain⟨h1,h2⟩:=ZS hb ⟨v,hv,rfl⟩
 obtain⟨i,hi⟩:=List.getElem?_of_mem hv
 obtain⟨j,hj⟩:=List.getElem?_of_mem h1
 have e1:=xJ hb hi
 have e2:=xJ hb hj
 have:i=j:=by omega
 subst this
 rw[hi]at hj
 exact(Option.some.inj hj).symm
theorem T1 {p:Pg} {T W:List Int} {fuel:Int} {m:Mc} (h0:0≤fuel) (h:runM p T W fuel=some m):m.steps≤fuel:=by
 have h1:=AY p (kz p) (p.at iX) [] 0
 have e2:(kz p).steps=0:=rfl
 exact Ny p _ T W _ _ _ m (by rw[h1.2,e2];exact h0) h
theorem Ib {f:Int→Sm} {k:Int} : ∀ {l:List (Int×List Int)},(∀ e∈l,e.2.length≤1)→(pU f k l).length≤l.length
 | [],_=>Nat.le_refl _
 |e::l,h=>by
  have h1:=Ib (f:=f) (k:=k) fun e m=>h e (List.mem_cons_of_mem _ m)
  have h2:=h e (List.mem_cons_self ..)
  simp only[pU,List.length_append,List.length_cons]
  split<;>simp<;>omega
theorem aak (s:Sm):s.tells≤1:=by unfold Sm.tells;split<;>omega
structure Run (p:Pg) (T:List Int) (fuel:Int) (m:Mc):Prop where
 run:runM p T (pG 0 p.all) fuel=some m
 of:ofM p T (pG 0 p.all) fuel=(m,0)
 whole:p.whole T fuel=m
 aCb:wo p.aZ.L p.EE T m
 told:ZQ m
 steps:m.steps≤fuel
 len:m.Len
 small:m.trace.length≤fuel.toNat∧m.out.length≤fuel.toNat∧∀ e∈m.trace,e.2.length≤1
theorem W8 {p:Pg} (hc:(p.check.1==0)=true) {T:List Int} {fuel:Int} (h0:0≤fuel) (h1:fuel≤1000000) : ∃ m,Run p T fuel m:=by
 have hR:=Gd hc
 have hb:=hR.may
 obtain⟨m,hm⟩:=Kh p T (pG 0 p.all) h0
 have yS:ofM p T (pG 0 p.all) fuel=(m,0):=by
  unfold ofM
  rw[if_neg,hm];rfl
  simp[hc];omega
 have hl:=WJ hR
 have hlg:=W6 (f:=p.EE) hl (fun x mx=>W7 hb (by rw[← (kJ p).1];exact List.mem_map_of_mem mx)) (Od hb) hm
 have ht:=Wx hl (fun x mx=>(Od hb x mx).1) hm
 have hs:=T1 h0 hm
 have hv : ∀ e∈m.trace,e.2.length≤1:=fun e me=>by
  obtain⟨x,_,_,h⟩:=hlg.ev e me
  rw[h];exact aak _
 have wu:m.trace.length≤fuel.toNat:=by rcases ht with ⟨_,h⟩|⟨_,h⟩<;>omega
 have jy:m.out.length≤fuel.toNat:=by rw[← hlg.out];exact Nat.le_trans (Ib hv) wu
 exact⟨m,hm,yS,by unfold Pg.whole;rw[yS],hlg,ht,hs,⟨by omega,by omega,fun e me=>by have:=hv e me;omega⟩,wu,jy,hv⟩
structure aCc (fuel:Int) (r s:Mc):Prop where
 steps:r.steps=fuel
 trace:(r.trace.length:Int)=fuel
 more:r.steps≤s.steps
 reads:r.reads≤s.reads
 out:(decide ((r.out.length:Int)≤(s.out.length:Int)) && r.out==s.out.take r.out.length)=true
 told:fuel≤(s.trace.length:Int)∧s.trace.take fuel.toNat=r.trace
set_option maxRecDepth 8000
open Go.Proofs
theorem aal {p:Pg} {T:List Int} {fuel:Int} (h:(p.check.1==0 && (decide (0≤fuel) && (decide (fuel≤400) && decide ((T.length:Int)≤100))))=true):(p.check.1==0)=true∧0≤fuel∧fuel≤400∧T.length≤100:=by
 simp only[Bool.and_eq_true,decide_eq_true_eq]at h
 exact⟨h.1,h.2.1,h.2.2.1,by omega⟩
def vl (it:Im) (n:Int):Int:=if it.s.kind==5 then(if n==0 then firstM it.s.aM it.next else firstM it.s.aP it.next)else(if n==0 then it.next else firstM it.s.aP it.s.id)
def T2 (p:Pg) (it:Im):Int:=match p.procs[it.proc.toNat]? with|some f=>(gM f.fin it.s.name (Sm.cf f.body)).1|none=>0
def Lu (L L':List Im) (R:Int→Int→Prop) (c c':Int):Prop:=(c=0∧c'=0)∨(c≠0∧c'≠0∧(dX L' c').s.name=(dX L c).s.name∧R (dX L c).next (dX L' c').next)
def B3 (p q:Pg) (R:Int→Int→Prop) (i i':Int):Prop:=match p.procs[i.toNat]?,q.procs[i'.toNat]? with
 |some f,some f'=>f'.own=f.own∧f'.vars.length=f.vars.length∧R (dB f.body (-1)) (dB f'.body (-1))
 |_,_=>False
structure Alike (p q:Pg) (L L':List Im) (R:Int→Int→Prop) (x x':Im):Prop where
 kind:1≤x.s.kind∧x.s.kind≤10
 plain:x.s.kind=1∨x.s.kind=2∨x.s.kind=3→x'.s.kind=x.s.kind∧x'.s.name=x.s.name∧x'.s.x=x.s.x∧R x.next x'.next
 call:x.s.kind=4→x'.s.kind=4∧x'.s.args=x.s.args∧Lu L L' R x.s.id x'.s.id∧B3 p q R (p.at x.s.proc) (q.at x'.s.proc)
 ret:x.s.kind=9→x'.s.kind=9∧x'.s.has=x.s.has∧x'.s.x=x.s.x
 brk:x.s.kind=7→x'.s.kind=7∧R (dX L x.loop).next (dX L' x'.loop).next
 cont:x.s.kind=8→x'.s.kind=8∧R x.loop x'.loop
 xO:x.s.kind=10→x'.s.kind=10∧R (T2 p x) (T2 q x')
 cond:x.s.kind=5∨x.s.kind=6→(x'.s.kind=5∨x'.s.kind=6)∧∀ names bI,(x'.s.x.bg names bI).2=(x.s.x.bg names bI).2∧((x.s.x.bg names bI).2=true→R (vl x (x.s.x.bg names bI).1) (vl x' (x'.s.x.bg names bI).1))
structure Oe (p q:Pg) (L L':List Im) (R:Int→Int→Prop):Prop where
 globals:q.globals=p.globals
 last:R (-1) (-1)
 nil : ∀ a a',R a a'→(a = -1↔a' = -1)
 step : ∀ a a',R a a'→a≠ -1→Alike p q L L' R (dX L a) (dX L' a')
structure FrR (L L':List Im) (R:Int→Int→Prop) (f f':Fr):Prop where
 names:f'.names=f.names
 vars:f'.vars=f.vars
 call:Lu L L' R f.call f'.call
inductive Ic (P:Fr→Fr→Prop):List Fr→List Fr→Prop
 |nil:Ic P [] []
 |cons {f f':Fr} {l l':List Fr} : P f f'→Ic P l l'→Ic P (f::l) (f'::l')
theorem Ic.len {P:Fr→Fr→Prop} : ∀ {l l'},Ic P l l'→l'.length=l.length
 |_,_, .nil=>rfl
 |_,_, .cons _ h=>by simp only[List.length_cons,h.len]
theorem Ic.tail {P:Fr→Fr→Prop} : ∀ {l l'},Ic P l l'→Ic P l.tail l'.tail
 |_,_, .nil=> .nil
 |_,_, .cons _ h=>h
structure gD (L L':List Im) (R:Int→Int→Prop) (m m':Mc):Prop where
 st:Ic (FrR L L' R) m.st m'.st
 mem:m'.mem=m.mem
 fin:m'.fin=m.fin
 steps:m'.steps=m.steps
 reads:m'.reads=m.reads
 out:m'.out=m.out
variable {p q:Pg} {L L':List Im} {R:Int→Int→Prop} {m m':Mc}
theorem gD.top (h:gD L L' R m m'):FrR L L' R m.top m'.top:=by
 have:=h.st
 unfold Mc.top
 cases m with|mk st _ _ _ _ _ _=>
 cases m' with|mk st' _ _ _ _ _ _=>
 dsimp only at this ⊢
 cases this with
 |nil=>exact⟨rfl,rfl, .inl ⟨rfl,rfl⟩⟩
 |cons hf _=>exact hf
theorem gD.bI (h:gD L L' R m m'):m'.bI=m.bI:=by
 unfold Mc.bI;rw[h.top.vars,h.mem]
theorem gD.cell (h:gD L L' R m m') (name:aK):m'.cell name=m.cell name:=by
 unfold Mc.cell;rw[h.top.vars,h.top.names]
theorem gD.set (h:gD L L' R m m') (name:aK) (v:Int):gD L L' R (m.set name v) (m'.set name v):=
 ⟨h.st,by show m'.mem.set (m'.cell name) v=m.mem.set (m.cell name) v;rw[h.cell,h.mem],h.fin,h.steps,h.reads,h.out⟩
theorem gD.event (h:gD L L' R m m') (W W':List Int) (id id':Int) (bI acH:List Int):gD L L' R (m.event W id bI) (m'.event W' id' acH):=by
 have a:=fz W m id bI
 have b:=fz W' m' id' acH
 exact⟨by rw[a.1,b.1];exact h.st,by rw[a.2.1,b.2.1];exact h.mem,by rw[a.2.2.1,b.2.2.1];exact h.fin,by rw[a.2.2.2.1,b.2.2.2.1];exact h.steps,by rw[a.2.2.2.2.1,b.2.2.2.2.1];exact h.reads,by rw[a.2.2.2.2.2,b.2.2.2.2.2];exact h.out⟩
theorem gD.aam (h:gD L L' R m m') (k:Int):gD L L' R {m with fin:=k} {m' with fin:=k}:=⟨h.st,h.mem,rfl,h.steps,h.reads,h.out⟩
theorem gD.W9 (h:gD L L' R m m') {x x':Ex} (e : ∀ names bI,(x'.bg names bI).2=(x.bg names bI).2):(m'.bg x').1.2=(m.bg x).1.2∧gD L L' R (m.bg x).2 (m'.bg x').2:=by
 have e1:=e m.top.names m.bI
 unfold Mc.bg
 rw[h.top.names,h.bI]
 dsimp only
 rw[e1]
 refine⟨rfl, ?_⟩
 split
 ·exact h
 ·exact h.aam 4
theorem gD.bg (h:gD L L' R m m') (x:Ex):(m'.bg x).1=(m.bg x).1∧gD L L' R (m.bg x).2 (m'.bg x).2:=by
 refine⟨?_,(h.W9 fun _ _=>rfl).2⟩
 unfold Mc.bg
 rw[h.top.names,h.bI]
theorem gD.args : ∀ (l:List Ar) {m m':Mc} (h:gD L L' R m m') (out:List Nat),(Mc.args l m' out).1=(Mc.args l m out).1∧gD L L' R (Mc.args l m out).2 (Mc.args l m' out).2
 | [],_,_,h,out=>⟨rfl,h⟩
 | a::l,m,m',h,out=>by
  obtain⟨w1,w2⟩:=h.bg a.x
  simp only[Mc.args,w1,h.cell,w2.mem]
  by_cases c:a.ref=true
  ·rw[if_pos c,if_pos c];exact gD.args l h _
  ·rw [if_neg c,if_neg c]
   by_cases c2:(m.bg a.x).1.2=true
   ·rw [if_pos c2,if_pos c2]
    exact gD.args l (m:= {(m.bg a.x).2 with mem:=(m.bg a.x).2.mem++ [(m.bg a.x).1.1]}) (m':= {(m'.bg a.x).2 with mem:=(m.bg a.x).2.mem++ [(m.bg a.x).1.1]}) ⟨w2.st,rfl,w2.fin,w2.steps,w2.reads,w2.out⟩ _
   ·rw[if_neg c2,if_neg c2];exact⟨rfl,w2⟩
def Jo (L L':List Im) (R:Int→Int→Prop) (r r':Int×Mc):Prop:=gD L L' R r.2 r'.2∧(r.2.fin=0→R r.1 r'.1)
theorem gD.open (hb:Oe p q L L' R) (h:gD L L' R m m') {i i':Int} (ho:B3 p q R i i') (l:List Nat) {c c':Int} (hc:Lu L L' R c c'):Jo L L' R (m.open p i l c) (m'.open q i' l c'):=by
 unfold B3 at ho
 unfold Mc.open
 cases e:p.procs[i.toNat]? with
 |none=>rw[e]at ho;exact ho.elim
 | some f=>
  cases e':q.procs[i'.toNat]? with
  |none=>rw[e,e']at ho;exact ho.elim
  |some f'=>
   rw[e,e']at ho
   obtain⟨o1,o2,o3⟩:=ho
   dsimp only
   exact⟨⟨.cons ⟨by dsimp only;rw[hb.globals,o1],by dsimp only;rw[hb.globals,o2,h.mem],hc⟩ h.st,by dsimp only;rw[o2,h.mem],h.fin,h.steps,h.reads,h.out⟩,fun _=>o3⟩
def aan (L L':List Im) (R:Int→Int→Prop) (r r':Option Int×Mc):Prop:=gD L L' R r.2 r'.2∧(match r.1,r'.1 with|none,none=>True|some a,some a'=>R a a'|_,_=>False)
theorem Jo.aao {r r':Int×Mc} (h:Jo L L' R r r'):aan L L' R (if r.2.fin==0 then some r.1 else none,r.2) (if r'.2.fin==0 then some r'.1 else none,r'.2):=by
 refine⟨h.1, ?_⟩
 dsimp only
 rw[h.1.fin]
 by_cases c:(r.2.fin==0)=true
 ·rw[if_pos c,if_pos c];exact h.2 (by simpa using c)
 ·rw[if_neg c,if_neg c];trivial
theorem gD.close (h:gD L L' R m m') (g:Int):Jo L L' R (m.close L g) (m'.close L' g):=by
 have ht:=h.top
 have jm:gD L L' R {m with st:=m.st.tail} {m' with st:=m'.st.tail}:=⟨h.st.tail,h.mem,h.fin,h.steps,h.reads,h.out⟩
 unfold Mc.close
 dsimp only
 rcases ht.call with ⟨c1,c2⟩|⟨c1,c2,c3,c4⟩
 ·have HR:(m.top.call==0)=true:=by rw [c1];rfl
  have N9:(m'.top.call==0)=true:=by rw[c2];rfl
  rw[if_pos HR,if_pos N9]
  exact⟨jm.aam 1,fun e=>absurd e (by show(1:Int)≠0;decide)⟩
 ·have HR : ¬((m.top.call==0)=true):=by simpa using c1
  have N9 : ¬((m'.top.call==0)=true):=by simpa using c2
  rw[if_neg HR,if_neg N9,c3]
  by_cases c:((dX L m.top.call).s.name == [])=true
  ·rw[if_pos c,if_pos c];exact⟨jm,fun _=>c4⟩
  ·rw[if_neg c,if_neg c];exact⟨jm.set _ g,fun _=>c4⟩
theorem gD.call (hb:Oe p q L L' R) (h:gD L L' R m m') (W W':List Int) {v v':Sm} (ha:v'.args=v.args) (ho:B3 p q R (p.at v.proc) (q.at v'.proc)) (hc:Lu L L' R v.id v'.id):Jo L L' R (m.call p W v) (m'.call q W' v'):=by
 have h1:=gD.args v.args h []
 unfold Mc.call
 rw[ha]
 generalize Mc.args v.args m [] = r at *
 generalize Mc.args v.args m' [] = r' at *
 obtain⟨o,m1⟩:=r
 obtain⟨o',m1'⟩:=r'
 obtain⟨e,h2⟩:=h1
 dsimp only at e h2
 subst e
 cases o' with
 |none=>
  dsimp only
  exact⟨h2,fun _=>hb.last⟩
 | some l=>
  dsimp only
  rw[h2.st.len]
  by_cases c:m1.st.length > 100
  ·rw[if_pos c,if_pos c];exact⟨h2.aam 5,fun e=>absurd e (by show(5:Int)≠0;decide)⟩
  ·rw [if_neg c,if_neg c]
   exact(h2.event W W' v.id v'.id [] []).open hb ho l hc
theorem gD.fD (h:gD L L' R m m') (W W':List Int) {v v':Sm} (hh:v'.has=v.has) (hx:v'.x=v.x):(m'.fD W' v').1=(m.fD W v).1∧gD L L' R (m.fD W v).2 (m'.fD W' v').2:=by
 obtain⟨w1,w2⟩:=h.bg v.x
 unfold Mc.fD
 rw[hh,hx]
 by_cases c:v.has=true
 ·rw [if_pos c,if_pos c]
  dsimp only
  rw[w1]
  by_cases c2:(m.bg v.x).1.2=true
  ·rw[if_pos c2,if_pos c2];exact⟨rfl,w2.event ..⟩
  ·rw[if_neg c2,if_neg c2];exact⟨rfl,w2⟩
 ·rw[if_neg c,if_neg c];exact⟨rfl,h.event ..⟩
theorem gD.do (hb:Oe p q L L' R) (h:gD L L' R m m') (T W W':List Int) {x x':Im} (ha:Alike p q L L' R x x') (k4:x.s.kind≠4) (k9:x.s.kind≠9):Jo L L' R (m.do p L T W x) (m'.do q L' T W' x'):=by
 obtain⟨ak,ap,ac,ar,ab,Xa,ag,Xb⟩:=ha
 have hk:x.s.kind=1∨x.s.kind=2∨x.s.kind=3∨x.s.kind=5∨x.s.kind=6∨x.s.kind=7∨x.s.kind=8∨x.s.kind=10:=by omega
 rcases hk with k|k|k|k|k|k|k|k
 ·obtain⟨e1,e2,e3,e4⟩:=ap (.inl k)
  rw[k]at e1
  obtain⟨w1,w2⟩:=h.bg x.s.x
  unfold Mc.do
  dsimp only
  simp only[k,e1,show((1:Int)==7)=false from rfl,show((1:Int)==8)=false from rfl,show((1:Int)==10)=false from rfl,show((1:Int)==2)=false from rfl,show((1:Int)==1)=true from rfl,Bool.false_eq_true,if_false,if_true,e2,e3,w1]
  by_cases c:(m.bg x.s.x).1.2=true
  ·rw[if_pos c,if_pos c];exact⟨(w2.event ..).set ..,fun _=>e4⟩
  ·rw[if_neg c,if_neg c];exact⟨w2,fun _=>hb.last⟩
 ·obtain⟨e1,e2,e3,e4⟩:=ap (.inr (.inl k))
  rw[k]at e1
  unfold Mc.do
  dsimp only
  simp only[k,e1,show((2:Int)==7)=false from rfl,show((2:Int)==8)=false from rfl,show((2:Int)==10)=false from rfl,show((2:Int)==2)=true from rfl,Bool.false_eq_true,if_false,if_true,e2,h.reads]
  cases T[m.reads.toNat]? with
  |none=>exact⟨⟨h.st,h.mem,rfl,h.steps,rfl,h.out⟩,fun e=>absurd e (by show(3:Int)≠0;decide)⟩
  |some n=>
   refine⟨gD.event (gD.set (m:= {m with reads:=m.reads+1}) (m':= {m' with reads:=m.reads+1}) ⟨h.st,h.mem,h.fin,h.steps,rfl,h.out⟩ x.s.name n) ..,fun _=>e4⟩
 ·obtain⟨e1,e2,e3,e4⟩:=ap (.inr (.inr k))
  rw[k]at e1
  obtain⟨w1,w2⟩:=h.bg x.s.x
  unfold Mc.do
  dsimp only
  simp only[k,e1,show((3:Int)==7)=false from rfl,show((3:Int)==8)=false from rfl,show((3:Int)==10)=false from rfl,show((3:Int)==2)=false from rfl,show((3:Int)==1)=false from rfl,show((3:Int)==3)=true from rfl,Bool.false_eq_true,if_false,if_true,e3,w1]
  by_cases c:(m.bg x.s.x).1.2=true
  ·rw [if_pos c,if_pos c]
   have hv:=w2.event W W' x.s.id x'.s.id [(m.bg x.s.x).1.1] [(m.bg x.s.x).1.1]
   exact⟨⟨hv.st,hv.mem,hv.fin,hv.steps,hv.reads,by dsimp only;rw[hv.out]⟩,fun _=>e4⟩
  ·rw[if_neg c,if_neg c];exact⟨w2,fun _=>hb.last⟩
 iterate 2
  ·obtain⟨e1,e2⟩:=Xb (by omega)
   have e3:=e2 m.top.names m.bI
   have hw:=h.W9 (x:=x.s.x) (x':=x'.s.x) (fun names bI=>(e2 names bI).1)
   have hd:(m.bg x.s.x).1.2=true→R (vl x (m.bg x.s.x).1.1) (vl x' (m'.bg x'.s.x).1.1):=fun hg=>by
    have:=e3.2 hg
    unfold Mc.bg
    rw[h.top.names,h.bI]
    exact this
   unfold Mc.do
   dsimp only
   rw[hw.1]
   have n1:(x'.s.kind==7)=false:=by simp;omega
   have n2:(x'.s.kind==8)=false:=by simp;omega
   have n3:(x'.s.kind==10)=false:=by simp;omega
   have n4:(x'.s.kind==2)=false:=by simp;omega
   have n5:(x'.s.kind==1)=false:=by simp;omega
   have n6:(x'.s.kind==3)=false:=by simp;omega
   have o1:(x.s.kind==7)=false:=by simp;omega
   have o2:(x.s.kind==8)=false:=by simp;omega
   have o3:(x.s.kind==10)=false:=by simp;omega
   have o4:(x.s.kind==2)=false:=by simp;omega
   have o5:(x.s.kind==1)=false:=by simp;omega
   have o6:(x.s.kind==3)=false:=by simp;omega
   simp only[n1,n2,n3,n4,n5,n6,o1,o2,o3,o4,o5,o6,Bool.false_eq_true,if_false]
   by_cases c:(m.bg x.s.x).1.2=true
   ·rw [if_pos c,if_pos c]
    have hd:=hd c
    have hv:=hw.2.event W W' x.s.id x'.s.id [(m.bg x.s.x).1.1] [(m'.bg x'.s.x).1.1]
    have ed : ∀ {y:Im} {n:Int} {M:Mc},y.s.kind=5∨y.s.kind=6→(if(y.s.kind==5)=true then(if(n==0)=true then firstM y.s.aM y.next else firstM y.s.aP y.next,M)else if(y.s.kind==6)=true then(if(n==0)=true then y.next else firstM y.s.aP y.s.id,M)else(y.next,M))=(vl y n,M):=fun {y n M} hy=>by
     unfold vl
     rcases hy with hy|hy
     ·rw[hy];rfl
     ·rw[hy];rfl
    rw[ed (by omega),ed e1]
    exact⟨hv,fun _=>hd⟩
   ·rw[if_neg c,if_neg c];exact⟨hw.2,fun _=>hb.last⟩
 ·obtain⟨e1,e2⟩:=ab k
  unfold Mc.do
  dsimp only
  simp only[k,e1,show((7:Int)==7)=true from rfl,if_true]
  exact⟨h.event ..,fun _=>e2⟩
 ·obtain⟨e1,e2⟩:=Xa k
  unfold Mc.do
  dsimp only
  simp only[k,e1,show((8:Int)==7)=false from rfl,show((8:Int)==8)=true from rfl,Bool.false_eq_true,if_false,if_true]
  exact⟨h.event ..,fun _=>e2⟩
 ·obtain⟨e1,e2⟩:=ag k
  unfold Mc.do
  dsimp only
  simp only[k,e1,show((10:Int)==7)=false from rfl,show((10:Int)==8)=false from rfl,show((10:Int)==10)=true from rfl,Bool.false_eq_true,if_false,if_true]
  exact⟨h.event ..,fun _=>e2⟩
theorem gD.back (h:gD L L' R m m') (g:Int):aan L L' R (m.back L g) (m'.back L' g):=(h.close g).aao
theorem gD.next (hb:Oe p q L L' R) (h:gD L L' R m m') (T W W':List Int) (fuel:Int) {a a':Int} (ha:R a a'):aan L L' R (m.next p L T W fuel a) (m'.next q L' T W' fuel a'):=by
 have hn:=hb.nil a a' ha
 unfold Mc.next
 by_cases c1:a = -1
 ·have HR:=hn.1 c1
  subst c1 HR
  exact h.back 0
 have HR : ¬((a == -1)=true):=by simpa using c1
 have N9 : ¬((a' == -1)=true):=by simpa using fun e=>c1 (hn.2 e)
 rw[if_neg HR,if_neg N9,h.steps]
 by_cases c2:(m.steps==fuel)=true
 ·rw[if_pos c2,if_pos c2];exact⟨⟨h.st,h.mem,rfl,rfl,h.reads,h.out⟩,trivial⟩
 rw[if_neg c2,if_neg c2]
 have hs:=hb.step a a' ha c1
 have h1:gD L L' R {m with steps:=m.steps+1} {m' with steps:=m.steps+1}:=⟨h.st,h.mem,h.fin,rfl,h.reads,h.out⟩
 generalize dX L a=x at *
 generalize dX L' a'=x' at *
 dsimp only
 by_cases k4:x.s.kind=4
 ·obtain⟨e1,e2,e3,e4⟩:=hs.call k4
  have b4:(x.s.kind==4)=true:=by rw[k4];rfl
  have b4':(x'.s.kind==4)=true:=by rw[e1];rfl
  rw[if_pos b4,if_pos b4']
  exact(gD.call hb h1 W W' e2 e4 e3).aao
 have k4':x'.s.kind≠4:=fun e=>by
  obtain⟨ak,ap,ac,ar,ab,Xa,ag,Xb⟩:=hs
  by_cases q1:x.s.kind=1∨x.s.kind=2∨x.s.kind=3
  ·have:=(ap q1).1;omega
  by_cases q2:x.s.kind=5∨x.s.kind=6
  ·have:=(Xb q2).1;omega
  by_cases q3:x.s.kind=7
  ·have:=(ab q3).1;omega
  by_cases q4:x.s.kind=8
  ·have:=(Xa q4).1;omega
  by_cases q5:x.s.kind=9
  ·have:=(ar q5).1;omega
  ·have:=(ag (by omega)).1;omega
 have b4 : ¬((x.s.kind==4)=true):=by simpa using k4
 have b4' : ¬((x'.s.kind==4)=true):=by simpa using k4'
 rw[if_neg b4,if_neg b4']
 by_cases k9:x.s.kind=9
 ·obtain⟨e1,e2,e3⟩:=hs.ret k9
  obtain⟨g1,g2⟩:=h1.fD W W' e2 e3
  have b9:(x.s.kind==9)=true:=by rw[k9];rfl
  have b9':(x'.s.kind==9)=true:=by rw[e1];rfl
  rw[if_pos b9,if_pos b9',g2.fin,g1]
  by_cases c:((Mc.fD W {m with steps:=m.steps+1} x.s).2.fin==0)=true
  ·rw[if_pos c,if_pos c];exact g2.back _
  ·rw[if_neg c,if_neg c];exact⟨g2,trivial⟩
 have k9':x'.s.kind≠9:=fun e=>by
  obtain⟨ak,ap,ac,ar,ab,Xa,ag,Xb⟩:=hs
  by_cases q1:x.s.kind=1∨x.s.kind=2∨x.s.kind=3
  ·have:=(ap q1).1;omega
  by_cases q2:x.s.kind=5∨x.s.kind=6
  ·have:=(Xb q2).1;omega
  by_cases q3:x.s.kind=7
  ·have:=(ab q3).1;omega
  by_cases q4:x.s.kind=8
  ·have:=(Xa q4).1;omega
  ·have:=(ag (by omega)).1;omega
 have b9 : ¬((x.s.kind==9)=true):=by simpa using k9
 have b9' : ¬((x'.s.kind==9)=true):=by simpa using k9'
 rw[if_neg b9,if_neg b9']
 exact(gD.do hb h1 T W W' hs k4 k9).aao
theorem gD.go (hb:Oe p q L L' R) (T W W':List Int) (fuel:Int) : ∀ (N:Nat) {a a':Int} {m m' k:Mc},gD L L' R m m'→R a a'→Mc.go p L T W fuel N a m=some k→∃ k',Mc.go q L' T W' fuel N a' m'=some k'∧gD L L' R k k'
 | 0,_,_,_,_,_,_,_,h=>by simp[Mc.go]at h
 | N+1,a,a',m,m',k,hm,ha,h=>by
  have hn:=gD.next hb hm T W W' fuel ha
  simp only[Mc.go]at h ⊢
  generalize m.next p L T W fuel a=r at *
  generalize m'.next q L' T W' fuel a'=r' at *
  obtain⟨o,m1⟩:=r
  obtain⟨o',m1'⟩:=r'
  obtain⟨n1,n2⟩:=hn
  dsimp only at n1 n2
  cases o with
  |none=>
   cases o' with
   |none=>simp only[Option.some.injEq]at h;subst h;exact⟨m1',rfl,n1⟩
   |some b=>exact n2.elim
  |some b=>
   cases o' with
   |none=>exact n2.elim
   |some b'=>exact gD.go hb T W W' fuel N n1 n2 h
theorem aap (hb:Oe p q p.aZ.L q.aZ.L R) (ho:B3 p q R (p.at iX) (q.at iX)) {T W W':List Int} {fuel:Int} {k:Mc} (h:runM p T W fuel=some k) : ∃ k',runM q T W' fuel=some k'∧gD p.aZ.L q.aZ.L R k k':=by
 have h0:gD p.aZ.L q.aZ.L R (kz p) (kz q):=⟨.nil,by unfold kz;rw[hb.globals],rfl,rfl,rfl,rfl⟩
 have h1:=gD.open hb h0 ho [] (.inl ⟨rfl,rfl⟩)
 unfold runM at h ⊢
 dsimp only at h ⊢
 refine gD.go hb T W W' fuel _ h1.1 (h1.2 ?_) h
 unfold Mc.open
 split<;>rfl
theorem Xc {k k':Mc} (h:gD L L' R k k'):B0 k k'=true:=by
 unfold B0
 rw[h.fin,h.steps,h.reads,h.out]
 simp
end Go.Abs
namespace Go.Abs
mutual
def Sm.Gn:Sm→Sm
 |⟨id,kind,labels,name,proc,x,has,args,aP,aM⟩=>⟨0,kind,labels,name,proc,x,has,args,Sm.fO aP,Sm.fO aM⟩
def Sm.fO:List Sm→List Sm
 | []=> []
 |s::l=>s.Gn::Sm.fO l
end
mutual
theorem aaq (b:Bool) (n:Nat) : ∀ s:Sm,((Sm.num b n s).1).Gn=s.Gn
 |⟨id,kind,labels,name,proc,x,has,args,aP,aM⟩=>by simp only[Sm.num,Sm.Gn,B4]
theorem B4 (b:Bool) (n:Nat) : ∀ l:List Sm,Sm.fO (Sm.dJ b n l).1=Sm.fO l
 | []=>by simp only[Sm.dJ,Sm.fO]
 |s::l=>by simp only[Sm.dJ,Sm.fO,aaq,B4]
end
structure Ie (s t:Sm):Prop where
 kind:s.kind=t.kind
 labels:s.labels=t.labels
 name:s.name=t.name
 proc:s.proc=t.proc
 x:s.x=t.x
 has:s.has=t.has
 args:s.args=t.args
 aP:Sm.fO s.aP=Sm.fO t.aP
 aM:Sm.fO s.aM=Sm.fO t.aM
theorem QB {s t:Sm} (h:s.Gn=t.Gn):Ie s t:=by
 cases s
 cases t
 simp only[Sm.Gn,Sm.mk.injEq]at h
 obtain⟨_,h1,h2,h3,h4,h5,h6,h7,h8,h9⟩:=h
 exact⟨h1,h2,h3,h4,h5,h6,h7,h8,h9⟩
theorem KA {l:List Sm} (h:Sm.fO l = []):l = []:=by
 cases l with
 |nil=>rfl
 |cons s l=>simp only[Sm.fO]at h;cases h
theorem B5 {l:List Sm} {t:Sm} {T:List Sm} (h:Sm.fO l=Sm.fO (t::T)) : ∃ s r,l=s::r∧Ie s t∧Sm.fO r=Sm.fO T:=by
 cases l with
 |nil=>simp only[Sm.fO]at h;cases h
 |cons s r=>
  simp only[Sm.fO,List.cons.injEq]at h
  exact⟨s,r,rfl,QB h.1,h.2⟩
theorem D8 : ∀ a b:List Sm,Sm.fO (a++b)=Sm.fO a++Sm.fO b
 | [],b=>by simp only[Sm.fO,List.nil_append]
 |s::a,b=>by simp only[List.cons_append,Sm.fO,D8 a b]
theorem D9 : ∀ a:List Sm,(Sm.fO a).length=a.length
 | []=>by simp only[Sm.fO]
 |s::a=>by simp only[Sm.fO,List.length_cons,D9 a]
theorem B6 {c:List Sm} {w t:Sm} {T:List Sm} (h:Sm.fO (c++ [w])=Sm.fO (T++ [t])):Sm.fO c=Sm.fO T∧Ie w t:=by
 rw[D8,D8]at h
 simp only[Sm.fO]at h
 obtain⟨h1,h2⟩:=List.append_inj' h rfl
 simp only[List.cons.injEq,and_true]at h2
 exact⟨h1,QB h2⟩
-- What is made of a statement: 1: an if asks the other way round, 2: a loop's first round stands ahead of it.
mutual
def Sm.Ea (k id:Int):Sm→Sm
 |⟨i,kind,labels,name,proc,x,has,args,aP,aM⟩=>
  if k==1 && i==id then⟨i,kind,labels,name,proc,⟨4,0,[],[x]⟩,has,args,Sm.kg k id aM,Sm.kg k id aP⟩
  else if k==2 && i==id then⟨i,5,labels,name,proc,x,has,args,Sm.kg k id aP++ [⟨i,kind,[],name,proc,x,has,args,Sm.kg k id aP,[]⟩],Sm.kg k id aM⟩
  else⟨i,kind,labels,name,proc,x,has,args,Sm.kg k id aP,Sm.kg k id aM⟩
def Sm.kg (k id:Int):List Sm→List Sm
 | []=> []
 |s::l=>s.Ea k id::Sm.kg k id l
end
def Sp (k id:Int) (s:Sm):Prop:=(k=1∨k=2)∧s.id=id
theorem Eb {k id:Int} {s:Sm} (h : ¬ Sp k id s):s.Ea k id = {s with aP:=Sm.kg k id s.aP,aM:=Sm.kg k id s.aM}:=by
 obtain⟨i,kind,labels,name,proc,x,has,args,aP,aM⟩:=s
 unfold Sp at h
 dsimp only at h
 have c1 : ¬((k==1 && i==id)=true):=by simp only[Bool.and_eq_true,beq_iff_eq];exact fun e=>h ⟨.inl e.1,e.2⟩
 have c2 : ¬((k==2 && i==id)=true):=by simp only[Bool.and_eq_true,beq_iff_eq];exact fun e=>h ⟨.inr e.1,e.2⟩
 rw[Sm.Ea,if_neg c1,if_neg c2]
theorem B7 {id:Int} {s:Sm} (h:s.id=id):s.Ea 1 id = {s with x:=⟨4,0,[],[s.x]⟩,aP:=Sm.kg 1 id s.aM,aM:=Sm.kg 1 id s.aP}:=by
 obtain⟨i,kind,labels,name,proc,x,has,args,aP,aM⟩:=s
 dsimp only at h
 subst h
 rw[Sm.Ea,if_pos (by simp)]
theorem x7 {id:Int} {s:Sm} (h:s.id=id):s.Ea 2 id = {s with kind:=5,aP:=Sm.kg 2 id s.aP++ [{s with labels:= [],aP:=Sm.kg 2 id s.aP,aM:= []}],aM:=Sm.kg 2 id s.aM}:=by
 obtain⟨i,kind,labels,name,proc,x,has,args,aP,aM⟩:=s
 dsimp only at h
 subst h
 rw[Sm.Ea,if_neg (by simp),if_pos (by simp)]
inductive Lk (p q:Pg) (k id:Int):Nat→Nat→Int→Int→List Sm→Int→Int→List Sm→Prop
 |top {i i':Nat} {f f':Pc} : p.procs[i]? = some f→q.procs[i']? = some f'→f'.name=f.name→Lk p q k id i i' (-1) 0 f.body (-1) 0 f'.body
 |tail {i i' n lp s l n' fW s' l'} : Lk p q k id i i' n lp (s::l) n' fW (s'::l')→Lk p q k id i i' n lp l n' fW l'
 |aP {i i' n lp s l n' fW s' l'} : Lk p q k id i i' n lp (s::l) n' fW (s'::l')→¬ Sp k id s→
  Lk p q k id i i' (if s.kind==6 then s.id else dB l n) (if s.kind==6 then s.id else lp) s.aP (if s'.kind==6 then s'.id else dB l' n') (if s'.kind==6 then s'.id else fW) s'.aP
 |aM {i i' n lp s l n' fW s' l'} : Lk p q k id i i' n lp (s::l) n' fW (s'::l')→¬ Sp k id s→
  Lk p q k id i i' (if s.kind==6 then s.id else dB l n) (if s.kind==6 then s.id else lp) s.aM (if s'.kind==6 then s'.id else dB l' n') (if s'.kind==6 then s'.id else fW) s'.aM
 |Ig {i i' n lp s l n' fW s' l'} : Lk p q k id i i' n lp (s::l) n' fW (s'::l')→k=1→s.id=id→Lk p q k id i i' (dB l n) lp s.aP (dB l' n') fW s'.aM
 |Ih {i i' n lp s l n' fW s' l'} : Lk p q k id i i' n lp (s::l) n' fW (s'::l')→k=1→s.id=id→Lk p q k id i i' (dB l n) lp s.aM (dB l' n') fW s'.aP
 |Ii {i i' n lp s l n' fW s' l' c w} : Lk p q k id i i' n lp (s::l) n' fW (s'::l')→k=2→s.id=id→s'.aP=c++ [w]→Lk p q k id i i' s.id s.id s.aP w.id fW c
 |Lv {i i' n lp s l n' fW s' l' c w} : Lk p q k id i i' n lp (s::l) n' fW (s'::l')→k=2→s.id=id→s'.aP=c++ [w]→Lk p q k id i i' s.id s.id s.aP w.id w.id w.aP
def Cy (p q:Pg) (k id a a':Int):Prop:=(a = -1∧a' = -1)∨∃ i i' n lp s l n' fW s' l',Lk p q k id i i' n lp (s::l) n' fW (s'::l')∧a=s.id∧(a'=s'.id∨(k=2∧s.id=id∧∃ c w,s'.aP=c++ [w]∧a'=w.id))
def Cz (l:List Sm):Prop:=∀ v∈Sm.cf l,v.kind≠7∧v.kind≠8∧v.kind≠10∧v.labels = []
def LpR (p q:Pg) (k id a a':Int):Prop:=∃ i i' n lp s l n' fW s' l',Lk p q k id i i' n lp (s::l) n' fW (s'::l')∧a=s.id∧a'=s'.id∧s.kind=6∧¬ Sp k id s
structure LkI (p q:Pg) (k id:Int) (i i':Nat) (n lp:Int) (l:List Sm) (n' fW:Int) (l':List Sm):Prop where
 shape:Sm.fO l'=Sm.fO (Sm.kg k id l)
 next:Cy p q k id n n'
 loop:lp=0∨Cz l∨LpR p q k id lp fW
 sub : ∃ up,∀ x∈Sm.fF i up n lp l,x∈p.aZ.L
 tW : ∃ up,∀ x∈Sm.fF i' up n' fW l',x∈q.aZ.L
structure Made (p q:Pg) (k id:Int):Prop where
 right:p.Right
 right':q.Right
 globals:q.globals=p.globals
 cor : ∀ {i i':Nat} {f f':Pc},p.procs[i]? = some f→q.procs[i']? = some f'→f'.name=f.name→f'.own=f.own∧f'.vars.length=f.vars.length∧f'.fin=f.fin∧Sm.fO f'.body=Sm.fO (Sm.kg k id f.body)
 has : ∀ {i:Nat} {f:Pc},p.procs[i]? = some f→∃ (i':Nat) (f':Pc),q.procs[i']? = some f'∧f'.name=f.name
 aar:k=1→∀ v∈p.pre,v.id=id→v.kind=5
 T3:k=2→∀ v∈p.pre,v.id=id→v.kind=6∧Cz v.aP
theorem Og (proc up n lp:Int) (b:List Sm) : ∀ a:List Sm,Sm.fF proc up n lp (a++b)=Sm.fF proc up (dB b n) lp a++Sm.fF proc up n lp b
 | []=>by simp only[List.nil_append,Sm.fF]
 |s::a=>by
  have e:dB (a++b) n=dB a (dB b n):=by cases a<;>rfl
  simp only[List.cons_append,Sm.fF,Og proc up n lp b a,e,List.append_assoc]
variable {p q:Pg} {k id:Int}
theorem Made.pre (hM:Made p q k id) {i:Nat} {n lp:Int} {s:Sm} {l:List Sm} (h : ∃ up,∀ x∈Sm.fF i up n lp (s::l),x∈p.aZ.L):s∈p.pre:=by
 obtain⟨up,h⟩:=h
 rw[← (kJ p).1]
 exact List.mem_map.2 ⟨⟨s,i,up,dB l n,lp⟩,h _ (by rw[Sm.fF,HJ];exact List.mem_append_left _ (List.mem_cons_self ..)),rfl⟩
theorem nK {i i':Nat} {n lp:Int} {l:List Sm} {n' fW:Int} {l':List Sm} (h:Lk p q k id i i' n lp l n' fW l') (hs:Sm.fO l'=Sm.fO (Sm.kg k id l)) (hn:Cy p q k id n n'):Cy p q k id (dB l n) (dB l' n'):=by
 cases l with
 |nil=>
  have:l' = []:=KA (by rw[hs];simp only[Sm.kg,Sm.fO])
  subst this
  exact hn
 |cons s l=>
  simp only[Sm.kg]at hs
  obtain⟨s',r,rfl,_,_⟩:=B5 hs
  exact .inr ⟨i,i',n,lp,s,l,n',fW,s',r,h,rfl, .inl rfl⟩
theorem Oh {p:Pg} (hb:p.may=true) {i:Nat} {f:Pc} (hf:p.procs[i]? = some f) : ∃ up,∀ x∈Sm.fF i up (-1) 0 f.body,x∈p.aZ.L:=
 ⟨0,fun x hx=>by rw[DW hb];exact Gf p.procs 0 hf (by simpa using hx)⟩
theorem Oi {L:List Im} {i n lp:Int} {s:Sm} {l:List Sm} (h : ∃ up,∀ x∈Sm.fF i up n lp (s::l),x∈L) : ∃ up,∀ x∈Sm.fF i up n lp l,x∈L:=by
 obtain⟨up,h⟩:=h
 exact⟨up,fun x m=>h x (by rw[Sm.fF];exact List.mem_append_right _ m)⟩
theorem pZ {L:List Im} {i n lp:Int} {s:Sm} {l:List Sm} (h : ∃ up,∀ x∈Sm.fF i up n lp (s::l),x∈L) : ∃ up,∀ x∈Sm.fF i up (if s.kind==6 then s.id else dB l n) (if s.kind==6 then s.id else lp) s.aP,x∈L:=by
 obtain⟨up,h⟩:=h
 exact⟨s.id,fun x m=>h x (by rw[Sm.fF,HJ];exact List.mem_append_left _ (List.mem_cons_of_mem _ (List.mem_append_left _ m)))⟩
theorem EM {L:List Im} {i n lp:Int} {s:Sm} {l:List Sm} (h : ∃ up,∀ x∈Sm.fF i up n lp (s::l),x∈L) : ∃ up,∀ x∈Sm.fF i up (if s.kind==6 then s.id else dB l n) (if s.kind==6 then s.id else lp) s.aM,x∈L:=by
 obtain⟨up,h⟩:=h
 exact⟨s.id,fun x m=>h x (by rw[Sm.fF,HJ];exact List.mem_append_left _ (List.mem_cons_of_mem _ (List.mem_append_right _ m)))⟩
theorem sub_self {L:List Im} {i n lp:Int} {s:Sm} {l:List Sm} (h : ∃ up,∀ x∈Sm.fF i up n lp (s::l),x∈L) : ∃ up,(⟨s,i,up,dB l n,lp⟩:Im)∈L:=by
 obtain⟨up,h⟩:=h
 exact⟨up,h _ (by rw[Sm.fF,HJ];exact List.mem_append_left _ (List.mem_cons_self ..))⟩
theorem Gp {L:List Im} {i n lp:Int} {c:List Sm} {w:Sm} (h : ∃ up,∀ x∈Sm.fF i up n lp (c++ [w]),x∈L):(∃ up,∀ x∈Sm.fF i up w.id lp c,x∈L)∧∃ up,∀ x∈Sm.fF i up n lp [w],x∈L:=by
 obtain⟨up,h⟩:=h
 rw[Og]at h
 exact⟨⟨up,fun x m=>h x (List.mem_append_left _ m)⟩,⟨up,fun x m=>h x (List.mem_append_right _ m)⟩⟩
theorem Cz.tail {s:Sm} {l:List Sm} (h:Cz (s::l)):Cz l:=fun v m=>h v (by rw[Sm.cf];exact List.mem_append_right _ m)
theorem Cz.aP {s:Sm} {l:List Sm} (h:Cz (s::l)):Cz s.aP:=fun v m=>h v (by rw[Sm.cf,Sm.lz];exact List.mem_append_left _ (List.mem_cons_of_mem _ (List.mem_append_left _ m)))
theorem Cz.aM {s:Sm} {l:List Sm} (h:Cz (s::l)):Cz s.aM:=fun v m=>h v (by rw[Sm.cf,Sm.lz];exact List.mem_append_left _ (List.mem_cons_of_mem _ (List.mem_append_right _ m)))
theorem LkI.gQ {i i':Nat} {n lp:Int} {s:Sm} {l:List Sm} {n' fW:Int} {s':Sm} {l':List Sm} (h:LkI p q k id i i' n lp (s::l) n' fW (s'::l')):Ie s' (s.Ea k id)∧Sm.fO l'=Sm.fO (Sm.kg k id l):=by
 have:=h.shape
 simp only[Sm.kg]at this
 obtain⟨s2,r,e,h1,h2⟩:=B5 this
 cases e
 exact⟨h1,h2⟩
theorem Made.inv (hM:Made p q k id) {i i':Nat} {n lp:Int} {l:List Sm} {n' fW:Int} {l':List Sm} (h:Lk p q k id i i' n lp l n' fW l'):LkI p q k id i i' n lp l n' fW l':=by
 induction h with
 |top h1 h2 h3=>exact⟨(hM.cor h1 h2 h3).2.2.2, .inl ⟨rfl,rfl⟩, .inl rfl,Oh hM.right.may h1,Oh hM.right'.may h2⟩
 |tail h ih=>exact⟨ih.gQ.2,ih.next,ih.loop.imp_right (·.imp_left (·.tail)),Oi ih.sub,Oi ih.tW⟩
 | @aP n lp s l n' fW s' l' h hs ih=>
  obtain⟨hd,ht⟩:=ih.gQ
  rw[Eb hs]at hd
  have hk:s'.kind=s.kind:=hd.kind
  refine⟨hd.aP, ?_, ?_,pZ ih.sub,pZ ih.tW⟩
  ·rw [hk]
   by_cases c:(s.kind==6)=true
   ·rw[if_pos c,if_pos c];exact .inr ⟨i,i',n,lp,s,l,n',fW,s',l',h,rfl, .inl rfl⟩
   ·rw[if_neg c,if_neg c];exact nK h.tail ht ih.next
  ·rw [hk]
   by_cases c:(s.kind==6)=true
   ·rw[if_pos c,if_pos c];exact .inr (.inr ⟨i,i',n,lp,s,l,n',fW,s',l',h,rfl,rfl,by simpa using c,hs⟩)
   ·rw[if_neg c,if_neg c];exact ih.loop.imp_right (·.imp_left (·.aP))
 | @aM n lp s l n' fW s' l' h hs ih=>
  obtain⟨hd,ht⟩:=ih.gQ
  rw[Eb hs]at hd
  have hk:s'.kind=s.kind:=hd.kind
  refine⟨hd.aM, ?_, ?_,EM ih.sub,EM ih.tW⟩
  ·rw [hk]
   by_cases c:(s.kind==6)=true
   ·rw[if_pos c,if_pos c];exact .inr ⟨i,i',n,lp,s,l,n',fW,s',l',h,rfl, .inl rfl⟩
   ·rw[if_neg c,if_neg c];exact nK h.tail ht ih.next
  ·rw [hk]
   by_cases c:(s.kind==6)=true
   ·rw[if_pos c,if_pos c];exact .inr (.inr ⟨i,i',n,lp,s,l,n',fW,s',l',h,rfl,rfl,by simpa using c,hs⟩)
   ·rw[if_neg c,if_neg c];exact ih.loop.imp_right (·.imp_left (·.aM))
 | @Ig n lp s l n' fW s' l' h hk hs ih=>
  obtain⟨hd,ht⟩:=ih.gQ
  subst hk
  rw[B7 hs]at hd
  have k5:=hM.aar rfl s (hM.pre ih.sub) hs
  have x8:s'.kind=5:=hd.kind.trans k5
  have a:=pZ ih.sub
  have b:=EM ih.tW
  rw[show(s.kind==6)=false by rw[k5];rfl]at a
  rw[show(s'.kind==6)=false by rw[x8];rfl]at b
  exact⟨hd.aM,nK h.tail ht ih.next,ih.loop.imp_right (·.imp_left (·.aP)),a,b⟩
 | @Ih n lp s l n' fW s' l' h hk hs ih=>
  obtain⟨hd,ht⟩:=ih.gQ
  subst hk
  rw[B7 hs]at hd
  have k5:=hM.aar rfl s (hM.pre ih.sub) hs
  have x8:s'.kind=5:=hd.kind.trans k5
  have a:=EM ih.sub
  have b:=pZ ih.tW
  rw[show(s.kind==6)=false by rw[k5];rfl]at a
  rw[show(s'.kind==6)=false by rw[x8];rfl]at b
  exact⟨hd.aP,nK h.tail ht ih.next,ih.loop.imp_right (·.imp_left (·.aM)),a,b⟩
 | @Ii n lp s l n' fW s' l' c w h hk hs hw ih=>
  obtain⟨hd,ht⟩:=ih.gQ
  subst hk
  rw[x7 hs]at hd
  have k6:=hM.T3 rfl s (hM.pre ih.sub) hs
  have x8:s'.kind=5:=hd.kind
  have DT:=hd.aP
  rw[hw]at DT
  obtain⟨g1,g2⟩:=B6 DT
  have a:=pZ ih.sub
  have b:=pZ ih.tW
  rw[show(s.kind==6)=true by rw[k6.1];rfl]at a
  rw[show(s'.kind==6)=false by rw[x8];rfl,hw]at b
  exact⟨g1, .inr ⟨i,i',n,lp,s,l,n',fW,s',l',h,rfl, .inr ⟨rfl,hs,c,w,hw,rfl⟩⟩, .inr (.inl k6.2),a,(Gp b).1⟩
 | @Lv n lp s l n' fW s' l' c w h hk hs hw ih=>
  obtain⟨hd,ht⟩:=ih.gQ
  subst hk
  rw[x7 hs]at hd
  have k6:=hM.T3 rfl s (hM.pre ih.sub) hs
  have x8:s'.kind=5:=hd.kind
  have DT:=hd.aP
  rw[hw]at DT
  obtain⟨g1,g2⟩:=B6 DT
  have a:=pZ ih.sub
  have b:=pZ ih.tW
  rw[show(s.kind==6)=true by rw[k6.1];rfl]at a
  rw[show(s'.kind==6)=false by rw[x8];rfl,hw]at b
  have b2:=pZ (Gp b).2
  have kw:w.kind=6:=g2.kind.trans k6.1
  rw[show(w.kind==6)=true by rw[kw];rfl]at b2
  exact⟨g2.aP, .inr ⟨i,i',n,lp,s,l,n',fW,s',l',h,rfl, .inr ⟨rfl,hs,c,w,hw,rfl⟩⟩, .inr (.inl k6.2),a,b2⟩
end Go.Abs
namespace Go.Abs
variable {p q:Pg} {k id:Int}
theorem mC {p:Pg} (hR:p.Right) {i:Nat} {n lp:Int} {s:Sm} {l:List Sm} (h : ∃ up,∀ x∈Sm.fF i up n lp (s::l),x∈p.aZ.L) :
 ∃ up,dX p.aZ.L s.id = ⟨s,i,up,dB l n,lp⟩∧(⟨s,i,up,dB l n,lp⟩:Im)∈p.aZ.L∧1≤s.id∧s.one=true∧∃ f,BQ p p.aZ.L ⟨s,i,up,dB l n,lp⟩ f:=by
 obtain⟨up,h⟩:=sub_self h
 obtain⟨f,hf⟩:=(pf hR).im _ h
 refine⟨up,hf.self.1,h,hf.self.2.1, ?_,f,hf⟩
 exact Jc hR.may _ (by rw[← (kJ p).1];exact List.mem_map_of_mem h)
theorem Lk.procs {i i':Nat} {n lp:Int} {l:List Sm} {n' fW:Int} {l':List Sm} (h:Lk p q k id i i' n lp l n' fW l') : ∃ f f',p.procs[i]? = some f∧q.procs[i']? = some f'∧f'.name=f.name:=by
 induction h with
 |top h1 h2 h3=>exact⟨_,_,h1,h2,h3⟩
 |tail _ ih=>exact ih
 |aP _ _ ih=>exact ih
 |aM _ _ ih=>exact ih
 |Ig _ _ _ ih=>exact ih
 |Ih _ _ _ ih=>exact ih
 |Ii _ _ _ _ ih=>exact ih
 |Lv _ _ _ _ ih=>exact ih
theorem KB {s:Sm} (h:s.one=true):s.kind≠5→s.aM = []:=fun hk=>by
 unfold Sm.one at h
 split at h
 ·cases h
 ·split at h
  ·cases h
  ·split at h
   ·cases h
   ·split at h
    ·cases h
    ·simp only [Bool.and_eq_true,Bool.or_eq_true,beq_iff_eq]at h
     rcases h.2 with h|h
     ·exact List.eq_nil_of_length_eq_zero (by omega)
     ·exact absurd h hk
theorem Ol {s:Sm} (h:s.one=true) (hx:s.DC=true):s.x.may=true:=by
 unfold Sm.one at h
 split at h
 ·cases h
 ·rename_i c
  rw[hx]at c
  simp only[Bool.or_eq_true,not_or,Bool.true_and,Bool.not_eq_true',Bool.not_eq_false]at c
  exact c.1.1.2
theorem Om {s s':Sm} {id:Int} (hs:s.id=id) (h:Ie s' (s.Ea 2 id)) : ∃ c w,s'.aP=c++ [w]:=by
 rw[x7 hs]at h
 have:=congrArg List.length h.aP
 rw[D9,D9]at this
 simp only[List.length_append,List.length_singleton]at this
 rcases List.eq_nil_or_concat s'.aP with e|⟨c,w,e⟩
 ·rw[e]at this;simp at this
 ·exact⟨c,w,by rw[e];simp⟩
theorem Made.part (hM:Made p q k id) : ∀ (N:Nat) {i i':Nat} {n lp:Int} {l:List Sm} {n' fW:Int} {l':List Sm},Sm.a7 l≤N→Lk p q k id i i' n lp l n' fW l'→∀ v∈Sm.cf l,∃ n lp r n' fW s' r',Lk p q k id i i' n lp (v::r) n' fW (s'::r'):=by
 intro N
 induction N with
 |zero=>
  intro i i' n lp l n' fW l' hN h v m
  cases l with
  |nil=>simp[Sm.cf]at m
  |cons s l=>cases s;simp only[Sm.a7,Sm.size]at hN;omega
 | succ N ih=>
  intro i i' n lp l n' fW l' hN h v m
  have hI:=hM.inv h
  cases l with
  |nil=>simp[Sm.cf]at m
  | cons s l=>
   have hsh:=hI.shape
   simp only[Sm.kg]at hsh
   obtain⟨s',r',rfl,hd,ht⟩:=B5 hsh
   have dU:Sm.a7 s.aP<s.size∧Sm.a7 s.aM<s.size:=by cases s;simp only[Sm.size];omega
   simp only[Sm.a7]at hN
   rw[Sm.cf,Sm.lz]at m
   have hp0:1≤s.size:=by cases s;simp only[Sm.size];omega
   rcases List.mem_append.1 m with m|m
   ·rcases List.mem_cons.1 m with rfl | m
    ·exact⟨_,_,_,_,_,_,_,h⟩
    ·by_cases hs:Sp k id s
     ·obtain⟨hk,hi⟩:=hs
      rcases hk with rfl|rfl
      ·rcases List.mem_append.1 m with m | m
       ·exact ih (by omega) (.Ig h rfl hi) v m
       ·exact ih (by omega) (.Ih h rfl hi) v m
      ·obtain⟨c,w,hw⟩:=Om hi hd
       rcases List.mem_append.1 m with m|m
       ·exact ih (by omega) (.Ii h rfl hi hw) v m
       ·exfalso
        obtain⟨_,_,_,_,ho,_⟩:=mC hM.right hI.sub
        have k6:=(hM.T3 rfl s (hM.pre hI.sub) hi).1
        rw[KB ho (by omega)]at m
        simp[Sm.cf]at m
     ·rcases List.mem_append.1 m with m | m
      ·exact ih (by omega) (.aP h hs) v m
      ·exact ih (by omega) (.aM h hs) v m
   ·exact ih (by omega) (.tail h) v m
theorem Ij (fin:List aK) (mR:aK) : ∀ l:List Sm,(gM fin mR l).2=true→(∃ v∈l,mR∈v.labels∧gM fin mR l=(v.id,true))∨(gM fin mR l=(-1,true)∧mR∈fin)
 | [],h=>by
  simp only[gM]at h ⊢
  split at h
  ·rename_i c;rw[if_pos c];exact .inr ⟨rfl,(fy _ _).1 c⟩
  ·cases h
 | v::l,h=>by
  simp only[gM]at h ⊢
  split at h
  ·rename_i c;rw[if_pos c];exact .inl ⟨v,List.mem_cons_self ..,(fy _ _).1 c,rfl⟩
  ·rename_i c
   rw[if_neg c]
   rcases Ij fin mR l h with ⟨w,m,h1,h2⟩|h1
   ·exact .inl ⟨w,List.mem_cons_of_mem _ m,h1,h2⟩
   ·exact .inr h1
theorem Fq {mR:aK} : ∀ {l:List Sm},mR∈fA l↔∃ v∈l,mR∈v.labels
 | []=>by simp[fA]
 |v::l=>by simp only[fA,List.mem_append,Fq (l:=l),List.mem_cons,exists_eq_or_imp]
theorem On {fin:List aK} {mR:aK} : ∀ {l:List Sm} {v:Sm},(fA l).Nodup→v∈l→mR∈v.labels→(gM fin mR l).1=v.id
 | w::l,v,hn,m,hv=>by
  simp only[fA]at hn
  obtain⟨h1,h2,h3⟩:=List.nodup_append.1 hn
  simp only[gM]
  rcases List.mem_cons.1 m with rfl|m
  ·rw[if_pos ((fy _ _).2 hv)]
  ·rw [if_neg,On h2 m hv]
   intro c
   exact h3 mR ((fy _ _).1 c) mR (Fq.2 ⟨v,m,hv⟩) rfl
theorem Oo {fin:List aK} {mR:aK} : ∀ {l:List Sm},mR∉fA l→mR∈fin→(gM fin mR l).1 = -1
 | [],_,h=>by simp only[gM];rw[if_pos ((fy _ _).2 h)]
 |v::l,hn,h=>by
  simp only[fA,List.mem_append,not_or]at hn
  simp only[gM]
  rw[if_neg fun c=>hn.1 ((fy _ _).1 c),Oo hn.2 h]
theorem T4 {p:Pg} (hR:p.Right) {f:Pc} (hf:f∈p.procs):(fA (Sm.cf f.body)++f.fin).Nodup:=by
 have:=hR.lK f hf
 refine Classical.byContradiction fun h=>?_
 rw[(pe f.labels).2 h]at this
 cases this
theorem T5 (s:Sm):(s.Ea k id).labels=s.labels:=by
 by_cases h:Sp k id s
 ·obtain⟨hk,hi⟩:=h
  rcases hk with rfl|rfl
  ·rw[B7 hi]
  ·rw[x7 hi]
 ·rw[Eb h]
theorem Made.xO (hM:Made p q k id) {i i':Nat} {f f':Pc} (h1:p.procs[i]? = some f) (h2:q.procs[i']? = some f') (h3:f'.name=f.name) {mR:aK} (hb:(gM f.fin mR (Sm.cf f.body)).2=true) :
 Cy p q k id (gM f.fin mR (Sm.cf f.body)).1 (gM f'.fin mR (Sm.cf f'.body)).1:=by
 have hnq:=T4 hM.right' (List.mem_of_getElem? h2)
 obtain⟨n1,n2,n3⟩:=List.nodup_append.1 hnq
 have hc:=hM.cor h1 h2 h3
 rcases Ij f.fin mR _ hb with ⟨v,m,g1,g2⟩|⟨g1,g2⟩
 ·obtain⟨n,lp,r,n',fW,s',r',hl⟩:=hM.part _ (Nat.le_refl _) (.top h1 h2 h3) v m
  have hI:=hM.inv hl
  have hd:=hI.gQ.1
  obtain⟨up,e1,e2,e3,e4,f2,D1⟩:=mC hM.right' hI.tW
  have sI:=D1.proc.1
  have hm:=D1.mem
  dsimp only at sI hm
  rw[Int.toNat_natCast,h2]at sI
  cases sI
  have:(gM f'.fin mR (Sm.cf f'.body)).1=s'.id:=On n1 hm (by rw[hd.labels,T5];exact g1)
  rw[g2,this]
  exact .inr ⟨i,i',n,lp,v,r,n',fW,s',r',hl,rfl, .inl rfl⟩
 ·rw [g1]
  refine .inl ⟨rfl,Oo (fun c=>n3 mR c mR (by rw[hc.2.2.1];exact g2) rfl) (by rw[hc.2.2.1];exact g2)⟩
theorem QC {p:Pg} {f:Pc} (hf:f∈p.procs) : ∃ g,p.find f.name=some g:=by
 unfold Pg.find
 have : ∀ l:List Pc,f∈l→∃ g,iC f.name l=some g:=by
  intro l
  induction l with
  |nil=>intro m;cases m
  | cons a l ih=>
   intro m
   simp only[iC]
   by_cases c:(a.name==f.name)=true
   ·rw[if_pos c];exact⟨a,rfl⟩
   ·rw [if_neg c]
    rcases List.mem_cons.1 m with rfl|m
    ·exact absurd (by simp) c
    ·exact ih m
 exact this _ hf
theorem Made.opens (hM:Made p q k id) {nm:aK} {g:Pc} (hg:p.find nm=some g):B3 p q (Cy p q k id) (p.at nm) (q.at nm):=by
 obtain⟨j,a1,a2⟩:=EI (k:=0) hg
 have hn:=tU hg
 obtain⟨i',f',b1,b2⟩:=hM.has a2
 obtain⟨g',nD⟩:=QC (List.mem_of_getElem? b1)
 rw[b2,hn]at nD
 obtain⟨j',c1,c2⟩:=EI (k:=0) nD
 have rh:=tU nD
 have e1:p.at nm=(j:Int):=by simpa[Pg.at]using a1
 have e2:q.at nm=(j':Int):=by simpa[Pg.at]using c1
 unfold B3
 rw[e1,e2,Int.toNat_natCast,Int.toNat_natCast,a2,c2]
 dsimp only
 obtain⟨d1,d2,d3,d4⟩:=hM.cor a2 c2 (rh.trans hn.symm)
 exact⟨d1,d2,nK (.top a2 c2 (rh.trans hn.symm)) d4 (.inl ⟨rfl,rfl⟩)⟩
theorem Made.aiZ (hM:Made p q k id) {i i':Nat} {n lp:Int} {s:Sm} {l:List Sm} {n' fW:Int} {s':Sm} {l':List Sm} (h:Lk p q k id i i' n lp (s::l) n' fW (s'::l')) (hs : ¬ Sp k id s) :
 Alike p q p.aZ.L q.aZ.L (Cy p q k id) (dX p.aZ.L s.id) (dX q.aZ.L s'.id):=by
 have hI:=hM.inv h
 obtain⟨hd,ht⟩:=hI.gQ
 have yH:=hd
 rw[Eb hs]at hd
 obtain⟨up,e1,e2,e3,e4,f,hf⟩:=mC hM.right hI.sub
 obtain⟨HK,KD,WT,e3',e4',f',JB⟩:=mC hM.right' hI.tW
 obtain⟨g,g',p1,p2,p3⟩:=h.procs
 have VZ:=hf.proc.1
 have aas:=JB.proc.1
 dsimp only at VZ aas
 rw[Int.toNat_natCast,p1]at VZ
 rw[Int.toNat_natCast,p2]at aas
 cases VZ
 cases aas
 obtain⟨o1,o2,_⟩:=Qz e4
 have hk:s'.kind=s.kind:=hd.kind
 have hn:Cy p q k id (dB l n) (dB l' n'):=nK h.tail ht hI.next
 have acI:s.kind=7∨s.kind=8→LpR p q k id lp fW:=fun hk=>by
  rcases hI.loop with h0|h0|h0
  ·have:=(hf.loop hk).1
   dsimp only at this
   omega
  ·have:=h0 s (by rw [Sm.cf,Sm.lz];exact List.mem_append_left _ (List.mem_cons_self ..))
   omega
  ·exact h0
 rw[e1,KD]
 refine⟨⟨o1,o2⟩,fun _=>⟨hk,hd.name,hd.x,hn⟩,fun h4=>⟨hk.trans h4,hd.args, .inr ⟨by dsimp only;omega,by dsimp only;omega, ?_, ?_⟩, ?_⟩,fun h9=>⟨hk.trans h9,hd.has,hd.x⟩,fun h7=>⟨hk.trans h7, ?_⟩,fun h8=>⟨hk.trans h8, ?_⟩,fun h10=>⟨hk.trans h10, ?_⟩,fun Fs=>⟨by rw[← hk]at Fs;exact Fs,fun names bI=>⟨by rw[show s'.x=s.x from hd.x],fun _=>?_⟩⟩⟩
 ·dsimp only;rw[e1,KD];exact hd.name
 ·dsimp only;rw[e1,KD];exact hn
 ·dsimp only at h4 ⊢
  rw[show s'.proc=s.proc from hd.proc]
  have Wd:=hM.right.known f (List.mem_of_getElem? p1) s hf.mem
  simp only[Sm.known,Bool.and_eq_true,Bool.or_eq_true,bne_iff_ne,ne_eq,h4,not_true_eq_false,false_or]at Wd
  have P4:=(fy _ _).1 Wd.2.2
  unfold Pg.pn at P4
  obtain⟨g0,m0,m1⟩:=List.mem_map.1 P4
  obtain⟨g1,uh⟩:=QC m0
  rw[m1]at uh
  exact hM.opens uh
 ·obtain⟨i0,i0',n0,lp0,s0,l0,n0',ai2,s0',l0',q1,q2,q3,q4,q5⟩:=acI (.inl h7)
  have hI0:=hM.inv q1
  obtain⟨u0,w1,_⟩:=mC hM.right hI0.sub
  obtain⟨u0',w1',_⟩:=mC hM.right' hI0.tW
  dsimp only
  rw[q2,q3,w1,w1']
  exact nK q1.tail hI0.gQ.2 hI0.next
 ·obtain⟨i0,i0',n0,lp0,s0,l0,n0',ai2,s0',l0',q1,q2,q3,q4,q5⟩:=acI (.inr h8)
  exact .inr ⟨i0,i0',n0,lp0,s0,l0,n0',ai2,s0',l0',q1,q2, .inl q3⟩
 ·unfold T2
  dsimp only at h10 ⊢
  rw[Int.toNat_natCast,Int.toNat_natCast,p1,p2]
  dsimp only
  rw[show s'.name=s.name from hd.name]
  have hl:=hM.right.leads f (List.mem_of_getElem? p1) (s,lp) (by
   have m:=e2
   rw[DW hM.right.may]at m
   obtain⟨j,f0,j1,j2⟩:=Ge p.procs 0 m
   rw[Nat.zero_add]at j2
   have j3:=(wY (R:=fun _=>True) (j:Int) 0 (-1) 0 f0.body (fun _ _=>trivial) (.inl rfl) (.inl rfl) _ j2).1
   dsimp only at j3
   have j4:i=j:=by omega
   subst j4
   rw[p1]at j1
   cases j1
   rw[← F9 (i:Int) f]
   exact List.mem_map.2 ⟨_,j2,rfl⟩)
  unfold ky at hl
  rw[if_neg (by simp[h10]),if_pos (by simp[h10])]at hl
  exact hM.xO p1 p2 p3 (by rw[yY];exact hl)
 ·have a:=nK (.aP h hs) hd.aP (hM.inv (.aP h hs)).next
  have b:=nK (.aM h hs) hd.aM (hM.inv (.aM h hs)).next
  dsimp only at Fs ⊢
  rw[show s'.x=s.x from hd.x]
  unfold vl
  dsimp only
  rw[hk]at a b ⊢
  rcases Fs with Fs|Fs
  ·rw [show(s.kind==6)=false by rw [Fs];rfl]at a b
   rw[show(s.kind==5)=true by rw[Fs];rfl,if_pos rfl,if_pos rfl]
   split
   ·exact b
   ·exact a
  ·rw [show(s.kind==6)=true by rw [Fs];rfl]at a b
   rw[show(s.kind==5)=false by rw[Fs];rfl,if_neg Bool.false_ne_true,if_neg Bool.false_ne_true]
   split
   ·exact hn
   ·exact a
theorem Xd {x:Ex} (h1:x.may=true) (h2:(⟨4,0,[],[x]⟩:Ex).may=true) (names:List aK) (bI:List Int) :
 ((⟨4,0,[],[x]⟩:Ex).bg names bI).2=(x.bg names bI).2∧((x.bg names bI).2=true→(((⟨4,0,[],[x]⟩:Ex).bg names bI).1==0) = !((x.bg names bI).1==0)):=by
 unfold Ex.bg
 rw[if_pos h1,if_pos h2]
 have e:(⟨4,0,[],[x]⟩:Ex).val names bI=if(x.val names bI).2 then(uP ((x.val names bI).1==0),true)else(0,false):=by
  simp only[Ex.val,Ex.Nv,HN]
  rfl
 rw[e]
 by_cases c:(x.val names bI).2=true
 ·rw [if_pos c]
  refine⟨c.symm,fun _=>?_⟩
  dsimp only
  cases (x.val names bI).1==0<;>rfl
 ·rw [if_neg c]
  exact⟨by simpa using c,fun h=>absurd h c⟩
theorem Made.ai3 (hM:Made p q 1 id) {i i':Nat} {n lp:Int} {s:Sm} {l:List Sm} {n' fW:Int} {s':Sm} {l':List Sm} (h:Lk p q 1 id i i' n lp (s::l) n' fW (s'::l')) (hs:s.id=id) :
 Alike p q p.aZ.L q.aZ.L (Cy p q 1 id) (dX p.aZ.L s.id) (dX q.aZ.L s'.id):=by
 have hI:=hM.inv h
 obtain⟨hd,ht⟩:=hI.gQ
 rw[B7 hs]at hd
 obtain⟨up,e1,e2,e3,e4,f,hf⟩:=mC hM.right hI.sub
 obtain⟨HK,KD,WT,e3',e4',f',JB⟩:=mC hM.right' hI.tW
 have k5:=hM.aar rfl s (hM.pre hI.sub) hs
 have x8:s'.kind=5:=hd.kind.trans k5
 have a:=nK (.Ig h rfl hs) hd.aM (hM.inv (.Ig h rfl hs)).next
 have b:=nK (.Ih h rfl hs) hd.aP (hM.inv (.Ih h rfl hs)).next
 have hx:s'.x = ⟨4,0,[],[s.x]⟩:=hd.x
 have m1:=Ol e4 (by simp[Sm.DC,k5])
 have m2:=Ol e4' (by simp[Sm.DC,x8])
 rw[hx]at m2
 rw[e1,KD]
 refine⟨by dsimp only;omega,fun hk=>?_,fun hk=>?_,fun hk=>?_,fun hk=>?_,fun hk=>?_,fun hk=>?_,fun _=>⟨.inl x8,fun names bI=>?_⟩⟩
 all_goals try (exfalso;dsimp only at hk;omega)
 dsimp only
 rw[hx]
 obtain⟨w1,w2⟩:=Xd m1 m2 names bI
 refine⟨w1,fun hg=>?_⟩
 have w2:=w2 hg
 unfold vl
 dsimp only
 rw[w2,show(s.kind==5)=true by rw[k5];rfl,show(s'.kind==5)=true by rw[x8];rfl,if_pos rfl,if_pos rfl]
 cases ((s.x.bg names bI).1==0)with
 |true=>exact b
 |false=>exact a
theorem Made.Oq (hM:Made p q 2 id) {i i':Nat} {n lp:Int} {s:Sm} {l:List Sm} {n' fW:Int} {s':Sm} {l':List Sm} (h:Lk p q 2 id i i' n lp (s::l) n' fW (s'::l')) (hs:s.id=id) :
 Alike p q p.aZ.L q.aZ.L (Cy p q 2 id) (dX p.aZ.L s.id) (dX q.aZ.L s'.id)∧
 ∀ c w,s'.aP=c++ [w]→1≤w.id∧Alike p q p.aZ.L q.aZ.L (Cy p q 2 id) (dX p.aZ.L s.id) (dX q.aZ.L w.id):=by
 have hI:=hM.inv h
 obtain⟨hd,ht⟩:=hI.gQ
 have yH:=hd
 rw[x7 hs]at hd
 obtain⟨up,e1,e2,e3,e4,f,hf⟩:=mC hM.right hI.sub
 obtain⟨HK,KD,WT,e3',e4',f',JB⟩:=mC hM.right' hI.tW
 obtain⟨k6,knj⟩:=hM.T3 rfl s (hM.pre hI.sub) hs
 have x8:s'.kind=5:=hd.kind
 have hx:s'.x=s.x:=hd.x
 have hn:Cy p q 2 id (dB l n) (dB l' n'):=nK h.tail ht hI.next
 obtain⟨c,w,hw⟩:=Om hs yH
 have DT:=hd.aP
 rw[hw]at DT
 obtain⟨g1,g2⟩:=B6 DT
 have aC:=nK (.Ii h rfl hs hw) g1 (hM.inv (.Ii h rfl hs hw)).next
 have aW:=nK (.Lv h rfl hs hw) g2.aP (hM.inv (.Lv h rfl hs hw)).next
 have kw:w.kind=6:=g2.kind.trans k6
 have hxw:w.x=s.x:=g2.x
 have M8:s'.aM = []:=KA (by rw[hd.aM];show Sm.fO (Sm.kg 2 id s.aM) = [];rw[KB e4 (by omega)];simp only[Sm.kg,Sm.fO])
 have b:=pZ hI.tW
 rw[show(s'.kind==6)=false by rw[x8];rfl,hw]at b
 obtain⟨uw,w1,w2,w3,w4,fw,hfw⟩:=mC hM.right' (Gp b).2
 refine⟨?_,fun c2 w2' sL=>?_⟩
 ·rw [e1,KD]
  refine⟨by dsimp only;omega,fun hk=>?_,fun hk=>?_,fun hk=>?_,fun hk=>?_,fun hk=>?_,fun hk=>?_,fun _=>⟨.inl x8,fun names bI=>?_⟩⟩
  all_goals try (exfalso;dsimp only at hk;omega)
  dsimp only
  rw[hx]
  refine⟨rfl,fun hg=>?_⟩
  unfold vl
  dsimp only
  rw[show(s.kind==5)=false by rw[k6];rfl,show(s'.kind==5)=true by rw[x8];rfl,if_neg Bool.false_ne_true,if_pos rfl,M8,hw]
  have ef:firstM (c++ [w]) (dB l' n')=dB c w.id:=by cases c<;>rfl
  rw[ef]
  split
  ·exact hn
  ·exact aC
 ·rw [hw]at sL
  obtain⟨_,hh⟩:=List.append_inj' sL rfl
  cases hh
  refine⟨w3, ?_⟩
  rw[e1,w1]
  refine⟨by dsimp only;omega,fun hk=>?_,fun hk=>?_,fun hk=>?_,fun hk=>?_,fun hk=>?_,fun hk=>?_,fun _=>⟨.inr kw,fun names bI=>?_⟩⟩
  all_goals try (exfalso;dsimp only at hk;omega)
  dsimp only
  rw[hxw]
  refine⟨rfl,fun hg=>?_⟩
  unfold vl
  dsimp only
  rw[show(s.kind==5)=false by rw[k6];rfl,show(w.kind==5)=false by rw[kw];rfl,if_neg Bool.false_ne_true,if_neg Bool.false_ne_true]
  split
  ·exact hn
  ·exact aW
theorem Made.bis (hM:Made p q k id):Oe p q p.aZ.L q.aZ.L (Cy p q k id):=by
 refine⟨hM.globals, .inl ⟨rfl,rfl⟩,fun a a' h=>?_,fun a a' h hn=>?_⟩
 ·rcases h with ⟨h1,h2⟩ | ⟨i,i',n,lp,s,l,n',fW,s',l',h1,h2,h3⟩
  ·exact⟨fun _=>h2,fun _=>h1⟩
  ·have hI:=hM.inv h1
   obtain⟨up,e1,e2,e3,_⟩:=mC hM.right hI.sub
   obtain⟨HK,KD,WT,e3',_⟩:=mC hM.right' hI.tW
   rcases h3 with h3|⟨rfl,h4,c,w,h5,h6⟩
   ·constructor<;>intro _<;>omega
   ·have:=((hM.Oq h1 h4).2 c w h5).1
    constructor<;>intro _<;>omega
 ·rcases h with ⟨h1,_⟩ | ⟨i,i',n,lp,s,l,n',fW,s',l',h1,h2,h3⟩
  ·exact absurd h1 hn
  ·subst h2
   rcases h3 with rfl|⟨rfl,h4,c,w,h5,rfl⟩
   ·by_cases hs:Sp k id s
    ·obtain⟨rfl | rfl,hi⟩:=hs
     ·exact hM.ai3 h1 hi
     ·exact(hM.Oq h1 hi).1
    ·exact hM.aiZ h1 hs
   ·exact((hM.Oq h1 h4).2 c w h5).2
theorem Made.same (hM:Made p q k id) {T:List Int} {fuel:Int} {m m':Mc} (h:Run p T fuel m) (h':Run q T fuel m'):B0 m m'=true:=by
 have hmn:=hM.right.main
 unfold Pg.oK at hmn
 cases e:p.find iX with
 |none=>rw[e]at hmn;cases hmn
 |some g=>
  obtain⟨k',h1,h2⟩:=aap (W':=pG 0 q.all) hM.bis (hM.opens e) h.run
  rw[h'.run]at h1
  cases h1
  exact Xc h2
end Go.Abs
namespace Go.Abs
def TKs (l:List rj):Prop:=∀ t∈l,(t.kind=1→isName t.text=true)∧(t.kind=2→0≤t.n)
def GK {α:Type} (r:Rd) (o:Option (α×Rd)) (Q:α→Prop):Prop:=∀ p,o=some p→p.2.l=r.l∧(p.2.good=true→r.good=true∧Q p.1)
def GKR (r:Rd) (o:Option Rd):Prop:=∀ p,o=some p→p.l=r.l∧(p.good=true→r.good=true)
def Pt {α:Type} (o:Option α) (Q:α→Prop):Prop:=∀ a,o=some a→Q a
structure at6 (a b:Rd):Prop where
 l:b.l=a.l
 n:b.n=a.n
 g:b.good=true→a.good=true
def SmK (r0:Rd) (p:Sm×Rd):Prop:=at6 r0 p.2∧p.1.aP = []∧p.1.aM = []
structure Num (r:Rd) (k:Nat) (r':Rd):Prop where
 l:r'.l=r.l
 g:r'.good=true→r.good=true
 n:r'.good=true→k=r'.n
 le:r'.good=true→r.n≤200→r'.n≤200
def SmL (s:Sm):Prop:=∀ L,ew L=true→({s with labels:=L} : Sm).one=true
def aBt (s:aK):Bool:=s == [98,114,101,97,107] ||s == [99,111,110,116,105,110,117,101] ||s == [114,101,116,117,114,110] ||s == [103,111,116,111] ||s == [114,101,97,100] ||s == [112,114,105,110,116]
mutual
def Sm.Ec (d:Int):Sm→Prop
 |⟨id,kind,labels,name,proc,x,has,args,aP,aM⟩=>(⟨id,kind,labels,name,proc,x,has,args,aP,aM⟩:Sm).one=true∧d≤12∧Sm.Ed (d+1) aP∧Sm.Ed (d+1) aM
def Sm.Ed (d:Int):List Sm→Prop
 | []=>True
 |s::l=>s.Ec d∧Sm.Ed d l
end
theorem Sm.ai5 (d:Int) (s:Sm):s.Ec d↔s.one=true∧d≤12∧Sm.Ed (d+1) s.aP∧Sm.Ed (d+1) s.aM:=by cases s;simp only[Sm.Ec]
def aCk (d:Int) (s:Sm):Prop:=∀ L,ew L=true→({s with labels:=L} : Sm).Ec d
structure Pc.Ec (f:Pc):Prop where
 name:isName f.name=true
 params:Pm.fP f.params=true∧f.params.length≤8
 vars:ew f.vars=true∧(f.vars.length:Int)≤16
 fin:ew f.fin=true
 body:Sm.Ed 1 f.body
mutual
theorem Sm.QD (b:Bool) (n:Nat) : ∀ s:Sm,(Sm.num b n s).2=n+s.iF
 |⟨_,_,_,_,_,_,_,_,aP,aM⟩=>by
  simp only[Sm.num,Sm.iF]
  rw[Sm.uS b _ aM,Sm.uS b _ aP];omega
theorem Sm.uS (b:Bool) (n:Nat) : ∀ l:List Sm,(Sm.dJ b n l).2=n+Sm.gn l
 | []=>rfl
 |s::l=>by
  simp only[Sm.dJ,Sm.gn]
  rw[Sm.uS b _ l,Sm.QD b _ s];omega
end
theorem Sm.one_num (b:Bool) (n:Nat) (s:Sm):((Sm.num b n s).1).one=s.one:=by
 obtain⟨id,kind,labels,name,proc,x,has,args,aP,aM⟩:=s
 simp only[Sm.num,Sm.one,Sm.DC,Sm.hasName,Sm.xG,Sm.MI]
 rfl
def tX (n:Nat) (oO:List It):Prop:=∀ (j:Nat) (it:It),oO[j]? = some it→it.s.id=((n+j+1:Nat):Int)∧it.deep≤12∧it.s.one=true
theorem tX.app {n k:Nat} {a b:List It} (ha:tX n a) (hk:a.length=k) (hb:tX (n+k) b):tX n (a++b):=by
 intro j it h
 rcases Nat.lt_or_ge j a.length with hj|hj
 ·rw [List.getElem?_append_left hj]at h
  exact ha j it h
 ·rw [List.getElem?_append_right hj]at h
  obtain⟨h1,h2⟩:=hb _ it h
  refine⟨?_,h2⟩
  rw[h1];congr 1;omega
theorem tX.nil (n:Nat):tX n []:=fun j it h=>by simp at h
mutual
theorem Xe : ∀ (s:Sm) (n:Nat) (deep bW:Int) (aM:Bool) (out:List It),s.Ec deep→out.length+s.iF≤200→∃ oO,gL deep bW aM out (Sm.num true n s).1=out++oO∧oO.length=s.iF∧tX n oO
 | ⟨id,kind,labels,name,proc,x,has,args,aP,e⟩,n,deep,bW,aM,out,h,hc=>by
  have h0:=(Sm.ai5 _ _).1 h
  obtain⟨h1,h2,h3,h4⟩:=h0
  dsimp only at h3 h4
  have gP:=Sm.one_num true n ⟨id,kind,labels,name,proc,x,has,args,aP,e⟩
  simp only[Sm.num,↓reduceIte,gL]at gP ⊢
  rw[h1]at gP
  simp only[Sm.iF]at hc
  have hd:decide (deep≤12)=true:=by simp;omega
  simp only[hd,↓reduceIte]
  obtain⟨i1,e1,l1,p1⟩:=ze aP (n+1) (deep+1) ((n+1:Nat):Int) false (out++ [⟨⟨((n+1:Nat):Int),kind,labels,name,proc,x,has,args,(Sm.dJ true (n+1) aP).1,(Sm.dJ true (Sm.dJ true (n+1) aP).2 e).1⟩,deep,bW,aM⟩]) h3 (by simp;omega)
  rw[e1,Sm.uS]
  obtain⟨i2,e2,l2,p2⟩:=ze e (n+1+Sm.gn aP) (deep+1) ((n+1:Nat):Int) true (out++ [⟨⟨((n+1:Nat):Int),kind,labels,name,proc,x,has,args,(Sm.dJ true (n+1) aP).1,(Sm.dJ true (n+1+Sm.gn aP) e).1⟩,deep,bW,aM⟩]++i1) h4 (by simp;omega)
  rw[e2]
  rw[Sm.uS]at gP
  refine⟨_,by rw[List.append_assoc,List.append_assoc], ?_, ?_⟩
  ·simp only[List.length_append,List.length_cons,List.length_nil,Sm.iF];omega
  ·refine tX.app (k:=1) ?_ rfl (tX.app p1 l1 p2)
   intro j it hj
   cases j with
   |zero=>simp at hj;subst hj;exact⟨rfl,h2,gP⟩
   |succ j=>simp at hj
theorem ze : ∀ (l:List Sm) (n:Nat) (deep bW:Int) (aM:Bool) (out:List It),Sm.Ed deep l→out.length+Sm.gn l≤200→∃ oO,dO deep bW aM out (Sm.dJ true n l).1=out++oO∧oO.length=Sm.gn l∧tX n oO
 | [],n,deep,bW,aM,out,h,hc=>⟨[],by simp only[Sm.dJ,dO,List.append_nil],rfl,tX.nil n⟩
 |s::l,n,deep,bW,aM,out,h,hc=>by
  simp only[Sm.gn]at hc
  have hle:decide ((out.length:Int)≤200)=true:=by simp only[decide_eq_true_eq];omega
  simp only[Sm.dJ,dO,hle,↓reduceIte]
  obtain⟨i1,e1,l1,p1⟩:=Xe s n deep bW aM out h.1 (by omega)
  rw[e1,Sm.QD]
  obtain⟨i2,e2,l2,p2⟩:=ze l (n+s.iF) deep bW aM (out++i1) h.2 (by simp;omega)
  rw[e2]
  exact⟨i1++i2,by rw[List.append_assoc],by simp only[List.length_append,Sm.gn];omega,tX.app p1 l1 p2⟩
end
def Pc.qn:List Pc→Nat
 | []=>0
 |f::l=>Sm.gn f.body+Pc.qn l
theorem Ot : ∀ (l:List Pc) (n:Nat) (out:List It),(∀ f∈l,f.Ec)→out.length+Pc.qn l≤200→∃ oO,allM out (Pc.dJ n l)=out++oO∧oO.length=Pc.qn l∧tX n oO
 | [],n,out,_,_=>⟨[],by simp only[Pc.dJ,allM,List.append_nil],rfl,tX.nil n⟩
 |f::l,n,out,h,hc=>by
  simp only[Pc.qn]at hc
  obtain⟨i1,e1,l1,p1⟩:=ze f.body n 1 0 false [] (h f (List.mem_cons_self ..)).body (by simp;omega)
  have ef:Pc.flat {f with body:=(Sm.dJ true n f.body).1} = i1:=by simp only[Pc.flat];rw[e1];rfl
  have hle:decide (((out++i1).length:Int) > 200)=false:=by simp only[List.length_append,decide_eq_false_iff_not];omega
  simp only[Pc.dJ,allM,ef,hle,Bool.false_eq_true,↓reduceIte]
  rw[Sm.uS]
  obtain⟨i2,e2,l2,p2⟩:=Ot l (n+Sm.gn f.body) (out++i1) (fun g hg=>h g (List.mem_cons_of_mem _ hg)) (by simp;omega)
  rw[e2]
  exact⟨i1++i2,by rw[List.append_assoc],by simp only[List.length_append,Pc.qn];omega,tX.app p1 l1 p2⟩
theorem tX.fP : ∀ (l:List It) (n:Nat),tX n l→It.fP n l=true
 | [],_,_=>rfl
 |i::l,n,h=>by
  obtain⟨h1,h2,h3⟩:=h 0 i rfl
  have e1:(i.s.id != ((n+1:Nat):Int))=false:=by rw[h1];simp
  have e2:decide (i.deep > 12)=false:=by simp;omega
  simp only[It.fP,e1,e2,h3,Bool.not_true,Bool.or_self,Bool.false_eq_true,↓reduceIte]
  refine tX.fP l (n+1) fun j it hj=>?_
  have:=h (j+1) it (by simpa using hj)
  refine⟨?_,this.2⟩
  rw[this.1];congr 1;omega
theorem KE : ∀ (l:List Pc) (n:Nat),(∀ f∈l,f.Ec)→Pc.gQ (Pc.dJ n l)=true
 | [],_,_=>rfl
 |f::l,n,h=>by
  have k:=h f (List.mem_cons_self ..)
  have e1:decide ((f.params.length:Int) > 8)=false:=by have:=k.params.2;simp only[decide_eq_false_iff_not];omega
  have e2:decide ((f.vars.length:Int) > 16)=false:=by have:=k.vars.2;simp only[decide_eq_false_iff_not];omega
  simp only[Pc.dJ,Pc.gQ,k.name,e1,e2,k.vars.1,k.fin,k.params.1,Bool.not_true,Bool.or_self,Bool.false_eq_true,↓reduceIte]
  exact KE l _ fun g hg=>h g (List.mem_cons_of_mem _ hg)
theorem Pc.QE : ∀ (l:List Pc) (n:Nat),(Pc.dJ n l).length=l.length
 | [],_=>rfl
 |g::l,n=>by simp only[Pc.dJ,List.length_cons,Pc.QE l]
theorem T6 {p:Pg} (h1:ew p.globals=true) (h2:(p.globals.length:Int)≤16) (h3 : ∀ f∈p.procs,f.Ec) (h4:p.procs.length≤16) (h5:Pc.qn p.procs≤200):p.number.may=true∧p.number.all.length=Pc.qn p.procs:=by
 obtain⟨oO,e,hl,hi⟩:=Ot p.procs 0 [] h3 (by simpa using h5)
 have ea:p.number.all=oO:=by simp only[Pg.all,Pg.number];rw[e];rfl
 have e1:decide ((p.globals.length:Int) > 16)=false:=by simp only[decide_eq_false_iff_not];omega
 have e2:decide (((Pc.dJ 0 p.procs).length:Int) > 16)=false:=by rw[Pc.QE];simp only[decide_eq_false_iff_not];omega
 have e3:decide ((oO.length:Int) > 200)=false:=by simp only[decide_eq_false_iff_not];omega
 refine⟨?_,by rw[ea,hl]⟩
 have e0:p.number.may=(if decide ((p.globals.length:Int) > 16) ||decide (((Pc.dJ 0 p.procs).length:Int) > 16) || !(ew p.globals)then false
  else if !(Pc.gQ (Pc.dJ 0 p.procs))then false else if decide ((p.number.all.length:Int) > 200)then false else It.fP 0 p.number.all):=rfl
 rw[e0,ea]
 simp only[e1,e2,h1,KE _ 0 h3,e3,Bool.not_true,Bool.or_self,Bool.false_eq_true,↓reduceIte]
 exact tX.fP oO 0 hi
end Go.Abs
