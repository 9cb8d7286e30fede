/-
  What is proved here: part 4 of the road to the claim (RunMc, RunI, Ev1, Ev2, Cp1, RunC0, RunC1, RunC2, RunC3, RunC4, RunC5, RunC6, RunC7, RunSt, RunSz, Jm3, Rj1, Ck1, RunC8, RunC9, RunL0, RunL1, RunTp, RunEv, RunWa, RunL2, LawRu2, RunSw, Swap1, Swap3, LawRu8, Glue2, Join, Binds1, Join2).
  No conditions.
-/
import Derived.Test.YtpjadlleefgcpaaGreatRnH3
import Derived.RowKit3
import Derived.WalkKit
import Derived.ProofKit
import Derived.OpenShut
import Derived.ShutString
import Derived.ChangeMaps5
import Derived.ChangeStays

set_option linter.unusedSimpArgs false
set_option linter.unusedVariables false
namespace Go.Abs
section
variable {p:Pg} {L:List Im} {m:Mc}
theorem ab7 {n:az} {k:Nat} (h:E0 p k m.top) (hn:n∈m.top.names):m.cell n<k∧∃ j:Nat,iF n 0 m.top.names=(j:Int)∧m.top.vars[j]? = some (m.cell n):=by
 obtain⟨f,h1,h2,h3,h4,h5⟩:=h
 obtain⟨j,e1,e2⟩:=L4 (k:=0) hn
 have e3:iF n 0 m.top.names=(j:Int):=by simpa using e1
 have e4:m.top.vars[j]? = some (m.cell n):=by
  unfold Mc.cell
  rw[e3,Int.toNat_natCast,List.getD_eq_getElem?_getD,List.getElem?_eq_getElem (by omega)];rfl
 exact⟨h5 _ (List.mem_of_getElem? e4),j,e3,e4⟩
theorem Hw {k:Nat} (hk:p.globals.length≤k) : ∀ (l:List Ar) (m:Mc) (out:List Nat),E0 p m.mem.length m.top→(∀ a∈l,a.ref=true→a.name∈m.top.names)→(∀ c∈out,c<m.mem.length)→
 m.mem.length≤(Mc.args l m out).2.mem.length∧∀ o,(Mc.args l m out).1=some o→o.length=out.length+l.length∧∀ c∈o,c<(Mc.args l m out).2.mem.length
 | [],m,out,h,_,ho=>⟨Nat.le_refl _,fun o e=>by cases e;exact⟨rfl,ho⟩⟩
 | a::l,m,out,h,hn,ho=>by
  simp only[Mc.args]
  by_cases c:a.ref=true
  ·rw [if_pos c]
   obtain⟨g1,g2⟩:=Hw hk l m (out++ [m.cell a.name]) h (fun b mb=>hn b (List.mem_cons_of_mem _ mb)) fun x mx=>by
    rcases List.mem_append.1 mx with mx|mx
    ·exact ho x mx
    ·rw[List.mem_singleton.1 mx];exact(ab7 h (hn a (List.mem_cons_self ..) c)).1
   exact⟨g1,fun o e=>⟨by rw[(g2 o e).1];simp;omega,(g2 o e).2⟩⟩
  ·rw [if_neg c]
   have he:=gR m a.x
   by_cases c2:(m.bu a.x).1.2=true
   ·rw [if_pos c2]
    have ht:({(m.bu a.x).2 with mem:=(m.bu a.x).2.mem++ [(m.bu a.x).1.1]} : Mc).top=m.top:=by unfold Mc.top;rw[he.1]
    have hl:(m.bu a.x).2.mem.length=m.mem.length:=by rw[he.2.1]
    obtain⟨g1,g2⟩:=Hw hk l {(m.bu a.x).2 with mem:=(m.bu a.x).2.mem++ [(m.bu a.x).1.1]} (out++ [(m.bu a.x).2.mem.length]) (by rw[ht];exact h.mono (by simp[hl])) (by rw[ht];exact fun b mb=>hn b (List.mem_cons_of_mem _ mb)) fun x mx=>by
     rcases List.mem_append.1 mx with mx|mx
     ·have:=ho x mx;simp[hl];omega
     ·rw[List.mem_singleton.1 mx];simp
    exact⟨Nat.le_trans (by simp[hl]) g1,fun o e=>⟨by rw[(g2 o e).1];simp;omega,(g2 o e).2⟩⟩
   ·rw [if_neg c2]
    exact⟨by rw[he.2.1];exact Nat.le_refl _,fun o e=>by cases e⟩
theorem Om (hP:UJ p L) {i:Nat} {f:Pc} (hf:p.procs[i]? = some f) {l:List Nat} {call:Int} (hl:l.length=f.params.length) (hc : ∀ c∈l,c<m.mem.length) (hg:p.globals.length≤m.mem.length)
 (sV : ∀ fr∈m.st,E0 p m.mem.length fr) (jy:(m.st = []∧call=0)∨(DD L m.st∧Hm L m.top.proc call∧(fa L call).s.kind=4)):qc p L (m.open p (i:Int) l call).1 (m.open p (i:Int) l call).2:=by
 unfold Mc.open
 rw[Int.toNat_natCast,hf]
 dsimp only
 refine⟨?_,fun fr h=>?_,by exact hP.head i f hf,by simp;omega⟩
 ·rcases jy with ⟨h1,h2⟩ | ⟨h1,h2⟩
  ·rw[h1];exact h2
  ·obtain⟨fr,r,e⟩:=h1.ne
   dsimp only
   rw[e]at h1 ⊢
   have:m.top=fr:=by simp[Mc.top,e]
   rw[this]at h2
   exact⟨h2,h1⟩
 ·rcases List.mem_cons.1 h with rfl | h
  ·refine⟨f,by rw [Int.toNat_natCast];exact hf,Int.natCast_nonneg _,rfl,by simp [Pc.own,Pc.sG,hl],fun c m=> ?_⟩
   simp only[List.mem_append,List.mem_range,List.mem_map]at m
   simp only[List.length_append,List.length_replicate]
   rcases m with (m|m)|⟨x,m,rfl⟩
   ·omega
   ·have:=hc c m;omega
   ·omega
  ·exact(sV fr h).mono (by simp)
theorem ab8 (hP:UJ p L) {a:Int} (h:qc p L a m) {g:Int} {a':Int} {m':Mc} (e:m.back L g=(some a',m')):qc p L a' m':=by
 have hs:=h.st
 unfold Mc.back Mc.close at e
 dsimp only at e
 obtain⟨fr,r,es⟩:=hs.ne
 have ht:m.top=fr:=by simp[Mc.top,es]
 by_cases c:(m.top.call==0)=true
 ·rw[if_pos c]at e;cases e
 ·rw [if_neg c]at e
  rw[es]at hs
  cases r with
  |nil=>rw[ht]at c;exact absurd (beq_iff_eq.2 (show fr.call=0 from hs)) c
  | cons vB r=>
   obtain⟨⟨h1,_⟩,h2⟩:=hs
   have gN:fa L m.top.call∈L:=qa (.inr (by rw[ht];exact⟨h1.1,h1.2.1⟩)) (by have:=h1.1;rw[ht];omega)
   obtain⟨f,o⟩:=hP.im _ gN
   have ho:=o.next
   rw[show(fa L m.top.call).proc=vB.proc by rw[ht];exact h1.2.2]at ho
   rw[ht]at ho
   split at e<;>(dsimp only at e;split at e)<;>first|(cases e;done)|skip
   all_goals
    cases e
    refine⟨by simp only[Mc.set,es,List.tail_cons];exact h2,fun q hq=>?_,by simp only[Mc.set,Mc.top,es,List.tail_cons,List.headD_cons];exact ho,by simp only[Mc.set,List.length_set];exact h.ve⟩
    simp only[Mc.set,List.length_set]at hq ⊢
    exact h.fr q (by rw[es]at hq ⊢;exact List.mem_cons_of_mem _ hq)
end
theorem AY {p:Pg} (hR:p.Right) {x:Im} {f:Pc} (h:C2 p p.bg.L x f) {n:az} (m:n∈x.s.said):n∈p.globals++f.own:=
 XT (hR.known f (List.mem_of_getElem? h.proc.1) x.s h.mem) m
theorem ab9 {p:Pg} (hR:p.Right) {x:Im} {f:Pc} (h:C2 p p.bg.L x f) (hk:x.s.kind=4) : ∃ (j:Nat) (q:Pc),p.at x.s.proc=(j:Int)∧p.procs[j]? = some q∧x.s.args.length=q.params.length:=by
 have qL:x.s∈p.pre:=by
  simp only[Pg.pre,List.mem_flatten,List.mem_map];exact⟨_,⟨f,List.mem_of_getElem? h.proc.1,rfl⟩,h.mem⟩
 have hf:=hR.fits x.s qL (by simp[hk])
 unfold Sm.oD at hf
 simp only[Bool.and_eq_true]at hf
 cases e:p.find x.s.proc with
 |none=>rw[e]at hf;cases hf.2
 |some q=>
  rw[e]at hf
  obtain⟨j,h1,h2⟩:=JU (k:=0) e
  refine⟨j,q,by simpa[Pg.at]using h1,h2, ?_⟩
  have:=hf.2
  simp only[xN]at this
  split at this
  ·rename_i h3;have:=(beq_iff_eq.1 h3);omega
  ·cases this
theorem aca {p:Pg} (hR:p.Right) {m:Mc} {W:List Int} {x:Im} {f:Pc} {a a':Int} {m':Mc} (h:qc p p.bg.L a m) (hx:C2 p p.bg.L x f) (hk:x.s.kind=4) (hp:x.proc=m.top.proc) (L5:(m.call p W x.s).2.fin=0)
 (e:m.call p W x.s=(a',m')) (h0:m.fin=0):qc p p.bg.L a' m':=by
 have hP:=qb hR
 have AZ:=h.fr _ (Mc.ab6 h.st)
 obtain⟨f',t1,t2,t3,t4,t5⟩:=AZ
 have ef:f'=f:=by have:=hx.proc.1;rw[hp,t1]at this;exact Option.some.inj this
 subst ef
 have af4 : ∀ b∈x.s.args,b.ref=true→b.name∈m.top.names:=fun b mb hb=>by
  rw[t3];exact AY hR hx (vS (.inr ⟨b,mb,hb,rfl⟩))
 obtain⟨j,q,c1,c2,c3⟩:=ab9 hR hx hk
 have g1:=Hw h.ve x.s.args m [] ⟨f',t1,t2,t3,t4,t5⟩ af4 (by simp)
 have g2:=vV x.s.args m []
 have g3:=AQ x.s.args m [] h0
 unfold Mc.call at e L5
 generalize Mc.args x.s.args m [] = r at *
 obtain⟨o,m1⟩:=r
 cases o with
 |none=>
  dsimp only at L5 g3
  rw[g3.2]at L5;cases L5
 | some l=>
  dsimp only at e L5 g1 g2 g3
  by_cases c:m1.st.length > 100
  ·rw[if_pos c]at L5;cases L5
  ·rw [if_neg c]at e
   have he:=fh W m1 x.s.id []
   have ht:(m1.event W x.s.id []).top=m.top:=by unfold Mc.top;rw[he.1,g2.1]
   have:=Om (m:=m1.event W x.s.id []) hP c2 (l:=l) (call:=x.s.id) (by rw[(g1.2 l rfl).1,c3];simp) (by rw[he.2.1];exact(g1.2 l rfl).2) (by rw[he.2.1];exact Nat.le_trans h.ve g1.1)
    (by rw[he.1,he.2.1,g2.1];exact fun fr sV=>(h.fr fr sV).mono g1.1) (.inr ⟨by rw[he.1,g2.1];exact h.st,by rw[ht];exact⟨hx.self.2.1,hx.self.2.2,by rw[hx.self.1];exact hp⟩,by rw[hx.self.1];exact hk⟩)
   rw[← c1,e]at this
   exact this
theorem ajK {p:Pg} (hR:p.Right) {m:Mc} {T W:List Int} {x:Im} {f:Pc} {a:Int} (h:qc p p.bg.L a m) (hx:C2 p p.bg.L x f) (hp:x.proc=m.top.proc) :
 ((m.do p p.bg.L T W x).2.fin=0→qc p p.bg.L (m.do p p.bg.L T W x).1 (m.do p p.bg.L T W x).2):=by
 intro h0
 have ev : ∀ (m1:Mc) (id:Int) (bI:List Int),(m1.event W id bI).st=m1.st∧(m1.event W id bI).mem=m1.mem:=fun m1 id bI=>⟨(fh W m1 id bI).1,(fh W m1 id bI).2.1⟩
 have key : ∀ (m1:Mc) (b:Int),m1.st=m.st→m1.mem.length=m.mem.length→AtR (Hm p.bg.L x.proc) b→qc p p.bg.L b m1:=fun m1 b h1 h2 h3=>h.of h1 (Nat.le_of_eq h2.symm) (by rw[← hp];exact h3)
 have hw:=gR m x.s.x
 unfold Mc.do at h0 ⊢
 dsimp only at h0 ⊢
 by_cases c7:(x.s.kind==7)=true
 ·rw [if_pos c7]
  have hk:x.s.kind=7:=by simpa using c7
  have hl:=hx.loop (.inl hk)
  have gN:=qa (L:=p.bg.L) (a:=x.loop) (.inr ⟨hl.1,hl.2.1⟩) (by have:=hl.1;omega)
  obtain⟨g,o⟩:=(qb hR).im _ gN
  refine key _ _ (ev _ _ _).1 (by rw[(ev _ _ _).2]) ?_
  have:=o.next
  rw[hl.2.2]at this;exact this
 rw[if_neg c7]at h0 ⊢
 by_cases c8:(x.s.kind==8)=true
 ·rw [if_pos c8]
  exact key _ _ (ev _ _ _).1 (by rw[(ev _ _ _).2]) (.inr (hx.loop (.inr (by simpa using c8))))
 rw[if_neg c8]at h0 ⊢
 by_cases zO:(x.s.kind==10)=true
 ·rw [if_pos zO]
  refine key _ _ (ev _ _ _).1 (by rw[(ev _ _ _).2]) ?_
  have:=hx.Hu (by simpa using zO)
  rw[hx.proc.1];exact this
 rw[if_neg zO]at h0 ⊢
 by_cases c2:(x.s.kind==2)=true
 ·rw [if_pos c2]at h0 ⊢
  split at h0
  ·cases h0
  ·rename_i n e
   exact key _ _ (ev _ _ _).1 (by rw[(ev _ _ _).2];simp[Mc.set]) hx.next
 rw[if_neg c2]at h0 ⊢
 by_cases cw:(m.bu x.s.x).1.2=true
 ·rw [if_pos cw]at h0 ⊢
  have e1:((m.bu x.s.x).2.event W x.s.id [(m.bu x.s.x).1.1]).st=m.st:=(ev _ _ _).1.trans hw.1
  have e2:((m.bu x.s.x).2.event W x.s.id [(m.bu x.s.x).1.1]).mem.length=m.mem.length:=by rw[(ev _ _ _).2,hw.2.1]
  have fo : ∀ (l:List Sm) (b:Int),AtR (Hm p.bg.L x.proc) (fp l (-1))→AtR (Hm p.bg.L x.proc) b→AtR (Hm p.bg.L x.proc) (firstM l b):=fun l b h1 h2=>by
   cases l with
   |nil=>exact h2
   |cons s l=>exact h1
  split
  ·exact key _ _ e1 (by simp only[Mc.set,List.length_set];exact e2) hx.next
  split
  ·exact key _ _ e1 e2 hx.next
  split
  ·refine key _ _ e1 e2 ?_
   split
   ·exact fo _ _ hx.aP hx.next
   ·exact fo _ _ hx.bb hx.next
  split
  ·refine key _ _ e1 e2 ?_
   split
   ·exact hx.next
   ·exact fo _ _ hx.bb (.inr ⟨hx.self.2.1,hx.self.2.2,by rw[hx.self.1]⟩)
  ·exact key _ _ e1 e2 hx.next
 ·rw [if_neg cw]at h0
  have:(m.bu x.s.x).2.fin=4:=by unfold Mc.bu;dsimp only;rw[if_neg (show ¬ (x.s.x.bu m.top.names m.bI).2=true from cw)]
  rw[this]at h0;cases h0
end Go.Abs
namespace Go.Abs
structure Lay where
 κ:List Nat
 φ:List Nat
 sd:D
 vd:D
def D.arr:D→List Nat
 | .eQ _ o _ _=> [o]
 |_=> []
def Lay.own (y:Lay):List Nat:=0::(y.κ++(y.sd.arr++y.vd.arr))
def fB (o:Nat):List D:= [.ptr o 0]
def qd (κ:List Nat) (f:Fr):List D:= [.int .i64 f.proc, .slice .shared 1 (f.names.map encStr), .slice .shared 1 (f.vars.map fun c=>fB (κ.getD c 0)), .int .i64 f.call]
def gJ (e:Int×List Int):List D:= [.int .i64 e.1, .slice .shared 1 (e.2.map cz)]
abbrev fH (p:Pg) (T W:List Int) (y:Lay) (m:Mc):List D:=
 [.dI (fL p) 0, .slice .shared 1 ((y.κ.take p.globals.length).map fB), .slice .shared 1 (T.map cz), .slice .shared 1 (W.map cz),y.sd,y.vd,
  .int .i64 m.fin, .int .i64 m.steps, .int .i64 m.reads, .slice (.tok 0) 1 (m.out.map cz), .slice (.tok 1) 2 (m.trace.map gJ)]
def rC (n:Int):D:= .int .i64 n
def yI (o:Nat):D:= .ptr o 0
def j7 (s:St) (d:D) (cs:List D):Prop:=(d = .eJ 1∧cs = [])∨∃ o g more,d = .eQ 1 o g cs.length∧s.ah[o]? = some (.int .i64 ((g:Nat):Int)::(cs++more))
structure Inv (p:Pg) (T W:List Int) (y:Lay) (m:Mc) (loc:List (Nat×List D)) (s:St):Prop where
 j8:s.ah[0]? = some (fH p T W y m)
 t0:s.ay[0]? = some (some m.out.length)
 t1:s.ay[1]? = some (some m.trace.length)
 len:y.κ.length=m.mem.length
 cell : ∀ (i c:Nat) (v:Int),y.κ[i]? = some c→m.mem[i]? = some v→s.ah[c]? = some [.int .i64 v]
 tw:y.φ.length=m.st.length
 frame : ∀ (i o:Nat) (fr:Fr),y.φ[i]? = some o→m.st[i]? = some fr→s.ah[o]? = some (qd y.κ fr)∧o∉y.own∧∀ c∈fr.vars,c<m.mem.length
 stack:j7 s y.sd (y.φ.reverse.map yI)
 bI : ∃ l:List Int,j7 s y.vd (l.map rC)
 own:y.own.Nodup
 loc : ∀ q∈loc,s.ah[q.1]? = some q.2∧q.1∉y.own
theorem j7.lt {s:St} {d:D} {cs:List D} (h:j7 s d cs) : ∀ o∈d.arr,o<s.ah.length:=by
 rcases h with ⟨rfl,_⟩|⟨o,g,more,rfl,h⟩
 ·intro o m;simp[D.arr]at m
 ·intro o' m
  have:o'=o:=by simpa[D.arr]using m
  subst this;exact gj h
theorem j7.keep {s s':St} {d:D} {cs:List D} (h:j7 s d cs) (k : ∀ o∈d.arr,s'.ah[o]? = s.ah[o]?):j7 s' d cs:=by
 rcases h with h|⟨o,g,more,rfl,h⟩
 ·exact .inl h
 ·exact .inr ⟨o,g,more,rfl,by rw[k o (by simp[D.arr])];exact h⟩
theorem I8 {κ e:List Nat} {fr:Fr} (h : ∀ c∈fr.vars,c<κ.length):qd (κ++e) fr=qd κ fr:=by
 unfold qd
 rw[List.map_congr_left (g:=fun c=>fB (κ.getD c 0)) fun c m=>by rw[List.getD_eq_getElem?_getD,List.getD_eq_getElem?_getD,List.getElem?_append_left (h c m)]]
section
variable {p:Pg} {T W:List Int} {y:Lay} {m:Mc} {loc:List (Nat×List D)} {s:St}
theorem Inv.uE (h:Inv p T W y m loc s) : ∀ o∈y.own,o<s.ah.length:=by
 intro o mo
 simp only[Lay.own,List.mem_cons,List.mem_append]at mo
 rcases mo with rfl|mo|mo|mo
 ·exact gj h.j8
 ·obtain⟨i,hi⟩:=List.getElem?_of_mem mo
  have hD:=(List.getElem?_eq_some_iff.1 hi).1
  exact gj (h.cell i o _ hi (List.getElem?_eq_getElem (by rw[← h.len];exact hD)))
 ·exact h.stack.lt o mo
 ·obtain⟨l,hl⟩:=h.bI
  exact hl.lt o mo
theorem Inv.vC (h:Inv p T W y m loc s):0<s.ah.length:=gj h.j8
theorem Inv.sub (h:Inv p T W y m loc s) {af5:List (Nat×List D)} (hl : ∀ q∈af5,q∈loc):Inv p T W y m af5 s:= {h with loc:=fun q m=>h.loc q (hl q m)}
theorem Inv.keep (h:Inv p T W y m loc s) {s':St} (k : ∀ (o:Nat) (r:List D),s.ah[o]? = some r→s'.ah[o]? = some r) (k0:s'.ay[0]? = s.ay[0]?) (k1:s'.ay[1]? = s.ay[1]?):Inv p T W y m loc s':=by
 have ka : ∀ {d:D} {cs:List D},j7 s d cs→j7 s' d cs:=fun ha=>ha.keep fun o mo=>by
  rw[List.getElem?_eq_getElem (ha.lt o mo)];exact k o _ (List.getElem?_eq_getElem _)
 obtain⟨l,hl⟩:=h.bI
 exact⟨k _ _ h.j8,by rw[k0];exact h.t0,by rw[k1];exact h.t1,h.len,fun i c v h1 h2=>k _ _ (h.cell i c v h1 h2),h.tw,fun i o fr h1 h2=>⟨k _ _ (h.frame i o fr h1 h2).1,(h.frame i o fr h1 h2).2⟩,
  ka h.stack,⟨l,ka hl⟩,h.own,fun q m=>⟨k _ _ (h.loc q m).1,(h.loc q m).2⟩⟩
theorem Inv.new (h:Inv p T W y m loc s) (row:List D):Inv p T W y m ((s.ah.length,row)::loc) ⟨s.ah++ [row],s.ay⟩:=by
 have h':=h.keep (s':=⟨s.ah++ [row],s.ay⟩) (fun o r e=>by rw[List.getElem?_append_left (gj e)];exact e) rfl rfl
 refine {h' with loc:=fun q mq=>?_}
 rcases List.mem_cons.1 mq with rfl|mq
 ·exact⟨by simp,fun mo=>Nat.lt_irrefl _ (h.uE _ mo)⟩
 ·exact h'.loc q mq
theorem Inv.ay (h:Inv p T W y m loc s) (ts:List (Option Nat)):Inv p T W y m loc ⟨s.ah,s.ay++ts⟩:=
 h.keep (fun _ _ e=>e) (List.getElem?_append_left (List.getElem?_eq_some_iff.1 h.t0).1) (List.getElem?_append_left (List.getElem?_eq_some_iff.1 h.t1).1)
theorem Inv.OS (h:Inv p T W y m loc s) {o:Nat} (ho:o∈y.own) (row:List D) {q:Nat} {r:List D} (hq:s.ah[q]? = some r) (hn:q≠o):(s.ah.set o row)[q]? = some r:=by
 rw[List.getElem?_set_ne (Ne.symm hn)];exact hq
theorem Inv.wU (h:Inv p T W y m loc s) {o:Nat} (ho:o∈y.κ++(y.sd.arr++y.vd.arr)):o≠0:=fun e=>by
 have:=h.own
 rw[Lay.own,List.nodup_cons]at this
 exact this.1 (e ▸ ho)
theorem Inv.uO (h:Inv p T W y m loc s) {m':Mc} (h1:m'.st=m.st) (h2:m'.mem=m.mem) {ts:List (Option Nat)} (k0:ts[0]? = some (some m'.out.length)) (k1:ts[1]? = some (some m'.trace.length)) :
 Inv p T W y m' loc ⟨s.ah.set 0 (fH p T W y m'),ts⟩:=by
 have ne : ∀ {q:Nat} {r:List D},s.ah[q]? = some r→q≠0→(s.ah.set 0 (fH p T W y m'))[q]? = some r:=fun e hn=>h.OS (by simp[Lay.own]) _ e hn
 have nf : ∀ {q:Nat},q∉y.own→q≠0:=fun hq e=>hq (by rw[e];simp[Lay.own])
 have ka : ∀ {d:D} {cs:List D},(∀ o∈d.arr,o∈y.κ++(y.sd.arr++y.vd.arr))→j7 s d cs→j7 ⟨s.ah.set 0 (fH p T W y m'),ts⟩ d cs:=fun hd ha=>ha.keep fun o mo=>by
  show(s.ah.set 0 _)[o]? = _
  rw[List.getElem?_set_ne (Ne.symm (h.wU (hd o mo)))]
 obtain⟨l,hl⟩:=h.bI
 refine⟨by simp[h.vC],k0,k1,by rw[h2];exact h.len,fun i c v e1 e2=>ne (h.cell i c v e1 (by rw[← h2];exact e2)) (h.wU (List.mem_append_left _ (List.mem_of_getElem? e1))),by rw[h1];exact h.tw,fun i o fr e1 e2=>?_,
  ka (fun o m=>by simp[m]) h.stack,⟨l,ka (fun o m=>by simp[m]) hl⟩,h.own,fun q mq=>⟨ne (h.loc q mq).1 (nf (h.loc q mq).2),(h.loc q mq).2⟩⟩
 rw[h1]at e2
 obtain⟨g1,g2,g3⟩:=h.frame i o fr e1 e2
 exact⟨ne g1 (nf g2),g2,by rw[h2];exact g3⟩
theorem Inv.XU (h:Inv p T W y m loc s) {i c:Nat} (hc:y.κ[i]? = some c) (v:Int):Inv p T W y {m with mem:=m.mem.set i v} loc ⟨s.ah.set c [.int .i64 v],s.ay⟩:=by
 have gN:c∈y.κ:=List.mem_of_getElem? hc
 have pA:c<s.ah.length:=h.uE c (by simp[Lay.own,gN])
 have Bq:=h.own
 rw[Lay.own,List.nodup_cons,List.nodup_append]at Bq
 have hκ : ∀ i',y.κ[i']? = some c→i'=i:=fun i' e=>(List.getElem?_inj (List.getElem?_eq_some_iff.1 e).1 Bq.2.1).1 (e.trans hc.symm)
 have ne : ∀ {q:Nat} {r:List D},s.ah[q]? = some r→q≠c→(s.ah.set c [.int .i64 v])[q]? = some r:=fun e hn=>h.OS (o:=c) (by simp[Lay.own,gN]) _ e hn
 have nf : ∀ {q:Nat},q∉y.own→q≠c:=fun hq e=>hq (by rw[e];simp[Lay.own,gN])
 have ka : ∀ {d:D} {cs:List D},(∀ o∈d.arr,o∈y.sd.arr++y.vd.arr)→j7 s d cs→j7 ⟨s.ah.set c [.int .i64 v],s.ay⟩ d cs:=fun hd ha=>ha.keep fun o mo=>by
  show(s.ah.set c _)[o]? = _
  rw[List.getElem?_set_ne (fun e=>Bq.2.2.2 c gN o (hd o mo) e)]
 obtain⟨l,hl⟩:=h.bI
 refine⟨ne h.j8 (fun e=>h.wU (List.mem_append_left _ gN) e.symm),h.t0,h.t1,by rw[h.len,List.length_set],fun i' c' v' e1 e2=>?_,h.tw,fun i' o fr e1 e2=>?_,
  ka (fun o m=>by simp[m]) h.stack,⟨l,ka (fun o m=>by simp[m]) hl⟩,h.own,fun q mq=>⟨ne (h.loc q mq).1 (nf (h.loc q mq).2),(h.loc q mq).2⟩⟩
 ·show(s.ah.set c _)[c']? = _
  simp only[List.getElem?_set]at e2
  by_cases e:i=i'
  ·subst e
   rw[hc]at e1;cases e1
   rw[if_pos rfl]at e2
   split at e2
   ·cases e2;simp[pA]
   ·cases e2
  ·rw [if_neg e]at e2
   have:c'≠c:=fun ec=>e (hκ i' (by rw[e1,ec])).symm
   exact ne (h.cell i' c' v' e1 e2) this
 ·obtain⟨g1,g2,g3⟩:=h.frame i' o fr e1 e2
  exact⟨ne g1 (nf g2),g2,by simpa using g3⟩
theorem Inv.aqU (h:Inv p T W y m loc s) (v:Int) (hg:p.globals.length≤m.mem.length):Inv p T W {y with κ:=y.κ++ [s.ah.length]} {m with mem:=m.mem++ [v]} loc ⟨s.ah++ [[.int .i64 v]],s.ay⟩:=by
 have h':=h.keep (s':=⟨s.ah++ [[.int .i64 v]],s.ay⟩) (fun o r e=>by rw[List.getElem?_append_left (gj e)];exact e) rfl rfl
 have ow:s.ah.length∉y.own:=fun mo=>Nat.lt_irrefl _ (h.uE _ mo)
 have Bq:=h.own
 have ho : ∀ o,o∈Lay.own {y with κ:=y.κ++ [s.ah.length]}→o∈y.own∨o=s.ah.length:=fun o mo=>by
  simp only[Lay.own,List.mem_cons,List.mem_append]at mo ⊢
  rcases mo with rfl|(mo|rfl|mo)|mo|mo
  ·exact .inl (.inl rfl)
  ·exact .inl (.inr (.inl mo))
  ·exact .inr rfl
  ·cases mo
  ·exact .inl (.inr (.inr (.inl mo)))
  ·exact .inl (.inr (.inr (.inr mo)))
 refine⟨by rw[h'.j8];simp only[fH];rw[List.take_append_of_le_length (by rw[h.len];exact hg)],h'.t0,h'.t1,by simp[h.len],fun i c v' e1 e2=>?_,h'.tw,fun i o fr e1 e2=>?_,h'.stack,h'.bI, ?_,fun q mq=>⟨(h'.loc q mq).1,fun mo=>?_⟩⟩
 ·rcases Nat.lt_or_ge i y.κ.length with hi | hi
  ·rw [List.getElem?_append_left hi]at e1
   rw[List.getElem?_append_left (by rw[← h.len];exact hi)]at e2
   exact h'.cell i c v' e1 e2
  ·have iA:i=y.κ.length:=by
    have:=(List.getElem?_eq_some_iff.1 e1).1
    simp at this;omega
   subst iA
   rw[List.getElem?_append_right (Nat.le_refl _)]at e1
   rw[List.getElem?_append_right (by rw[h.len];exact Nat.le_refl _)]at e2
   simp at e1;subst e1
   simp[h.len]at e2;subst e2
   simp
 ·obtain⟨g1,g2,g3⟩:=h'.frame i o fr e1 e2
  refine⟨by rw[I8 (by rw[h.len];exact g3)];exact g1,fun mo=>?_,fun c mc=>by simp only[List.length_append];have:=g3 c mc;omega⟩
  rcases ho o mo with mo|rfl
  ·exact g2 mo
  ·exact absurd (gj (h.frame i _ fr e1 e2).1) (Nat.lt_irrefl _)
 ·have:(Lay.own {y with κ:=y.κ++ [s.ah.length]}).Perm (s.ah.length::y.own):=by
   simp only[Lay.own,List.append_assoc,List.singleton_append]
   exact(List.Perm.cons _ List.perm_middle).trans (List.Perm.swap _ _ _)
  rw[this.nodup_iff,List.nodup_cons]
  exact⟨ow,Bq⟩
 ·rcases ho _ mo with mo | e
  ·exact(h'.loc q mq).2 mo
  ·exact absurd (gj (h.loc q mq).1) (by rw[e];exact Nat.lt_irrefl _)
theorem Inv.Rz (h:Inv p T W y m loc s) {vd:D} {s1:St} (k : ∀ (o:Nat) (r:List D),s.ah[o]? = some r→o∉y.vd.arr→s1.ah[o]? = some r) (hv : ∃ l:List Int,j7 s1 vd (l.map rC)) (hn:vd.arr=y.vd.arr∨vd.arr = []∨vd.arr = [s.ah.length]) (ht:s1.ay=s.ay) :
 Inv p T W {y with vd:=vd} m loc ⟨s1.ah.set 0 (fH p T W {y with vd:=vd} m),s1.ay⟩:=by
 have Bq:=h.own
 have af6:=Bq
 rw[Lay.own,List.nodup_cons,List.nodup_append,List.nodup_append]at af6
 obtain⟨n0,nκ,⟨ns,nv,nsv⟩,L7⟩:=af6
 have v0 : ∀ o∈y.vd.arr,o≠0:=fun o mo=>h.wU (by simp[mo])
 have rE:0<s1.ah.length:=gj (k 0 _ h.j8 fun mo=>v0 0 mo rfl)
 have g : ∀ {o:Nat} {r:List D},s.ah[o]? = some r→o∉y.vd.arr→o≠0→(s1.ah.set 0 (fH p T W {y with vd:=vd} m))[o]? = some r:=fun e hv hn=>by
  rw[List.getElem?_set_ne (Ne.symm hn)];exact k _ _ e hv
 have L8 : ∀ o,o∈Lay.own {y with vd:=vd}→o∈y.own∨o=s.ah.length:=fun o mo=>by
  simp only[Lay.own,List.mem_cons,List.mem_append]at mo ⊢
  rcases mo with rfl|mo|mo|mo
  ·exact .inl (.inl rfl)
  ·exact .inl (.inr (.inl mo))
  ·exact .inl (.inr (.inr (.inl mo)))
  ·rcases hn with e | e | e
   ·rw[e]at mo;exact .inl (.inr (.inr (.inr mo)))
   ·rw[e]at mo;cases mo
   ·rw[e]at mo;exact .inr (List.mem_singleton.1 mo)
 have nk : ∀ o∈y.κ,o∉y.vd.arr:=fun o mo mv=>L7 o mo o (List.mem_append_right _ mv) rfl
 have nsd : ∀ o∈y.sd.arr,o∉y.vd.arr:=fun o mo mv=>nsv o mo o mv rfl
 have nfr : ∀ {o:Nat},o∉y.own→o∉y.vd.arr∧o≠0:=fun ho=>⟨fun mv=>ho (by simp[Lay.own,mv]),fun e=>ho (by rw[e];simp[Lay.own])⟩
 obtain⟨l,hl⟩:=hv
 refine⟨by simp[rE],by rw[ht];exact h.t0,by rw[ht];exact h.t1,h.len,fun i c v e1 e2=>g (h.cell i c v e1 e2) (nk c (List.mem_of_getElem? e1)) (h.wU (by simp[List.mem_of_getElem? e1])),h.tw,fun i o fr e1 e2=>?_, ?_,⟨l, ?_⟩, ?_,fun q mq=>?_⟩
 ·obtain⟨f1,f2,f3⟩:=h.frame i o fr e1 e2
  refine⟨g f1 (nfr f2).1 (nfr f2).2,fun mo=>?_,f3⟩
  rcases L8 o mo with mo|e
  ·exact f2 mo
  ·exact absurd (gj f1) (by rw[e];exact Nat.lt_irrefl _)
 ·refine h.stack.keep fun o mo=> ?_
  rw[List.getElem?_eq_getElem (h.stack.lt o mo)]
  exact g (List.getElem?_eq_getElem _) (nsd o mo) (h.wU (by simp[mo]))
 ·refine hl.keep fun o mo=> ?_
  have:o≠0:=by
   rcases hn with e|e|e
   ·rw[e]at mo;exact v0 o mo
   ·rw[e]at mo;cases mo
   ·rw[e]at mo;rw[List.mem_singleton.1 mo];have:=h.vC;omega
  show(s1.ah.set 0 _)[o]? = _
  rw[List.getElem?_set_ne (Ne.symm this)]
 ·rcases hn with e | e | e
  ·simp only[Lay.own,e];exact Bq
  ·simp only [Lay.own,e,List.append_nil]
   rw[List.nodup_cons,List.nodup_append]
   exact⟨fun m=>n0 (by rcases List.mem_append.1 m with m|m<;>simp[m]),nκ,ns,fun a ma b mb=>L7 a ma b (List.mem_append_left _ mb)⟩
  ·simp only [Lay.own,e]
   have dw : ∀ o∈y.own,o≠s.ah.length:=fun o mo e=>by have:=h.uE o mo;omega
   rw[List.nodup_cons,List.nodup_append,List.nodup_append]
   refine⟨fun m=>?_,nκ,⟨ns,by simp,fun a ma b mb=>?_⟩,fun a ma b mb=>?_⟩
   ·rcases List.mem_append.1 m with m | m
    ·exact n0 (by simp[m])
    ·rcases List.mem_append.1 m with m | m
     ·exact n0 (by simp[m])
     ·have:=List.mem_singleton.1 m;have:=h.vC;omega
   ·rw[List.mem_singleton.1 mb];exact dw a (by simp[Lay.own,ma])
   ·rcases List.mem_append.1 mb with mb | mb
    ·exact L7 a ma b (List.mem_append_left _ mb)
    ·rw[List.mem_singleton.1 mb];exact dw a (by simp[Lay.own,ma])
 ·obtain⟨f1,f2⟩:=h.loc q mq
  refine⟨g f1 (nfr f2).1 (nfr f2).2,fun mo=>?_⟩
  rcases L8 q.1 mo with mo|e
  ·exact f2 mo
  ·exact absurd (gj f1) (by rw[e];exact Nat.lt_irrefl _)
end
end Go.Abs
namespace Go.Abs
set_option maxRecDepth 8000
open Go.Proofs
theorem RA (b:Bool) (s:St):aF Tryz.prog jU [.bool b] s (.int .i64 (vh b)) s:=by
 refine aF.pure ?_ rfl rfl s
 generalize h:vh b=R
 simp only[vh]at h
 unfold S0
 refine aF.go Lc rfl fun B Q hB hQ=>?_
 have⟨hD,hY,hZ,gA⟩:=bN
 repeat' (first
 |simp only[go_sem,hD,hY,hZ,gA]
 |(with_reducible first|refine bk fun hc=>?_|refine bl fun hc=>?_|refine bm (fun hc=>?_) fun hc=>?_)<;>(try simp only[hc,bs,↓reduceIte]at h)<;>try simp only[hc]
 |(with_reducible refine aE hQ ?_;exact fD)
 |(cases h;done))
theorem acb (a:Int) (s:St):aF Tryz.prog sv [.int .i64 a] s (.bool (!(a==0))) s:=by
 refine aF.pure ?_ rfl rfl s
 have e:(a != 0) = !(a==0):=rfl
 unfold S0
 refine aF.go Hi rfl fun B Q hB hQ=>?_
 have⟨hD,hY,hZ,gA⟩:=bN
 repeat' (first
 |simp only[go_sem,hD,hY,hZ,gA,e]
 |(with_reducible first|refine bk fun hc=>?_|refine bl fun hc=>?_|refine bm (fun hc=>?_) fun hc=>?_)<;>(try simp only[hc,bs,↓reduceIte]at h)<;>try simp only[hc]
 |(with_reducible refine aE hQ ?_;(try cases h);simp only[aT,aV,bE,bF,go_sem,hD,hY,hZ,gA,e];try exact cf)
 |(cases h;done))
abbrev A0 (r:Int×Bool):D:= .tuple [.int .i64 r.1, .bool r.2]
theorem ajM (op a:Int) (s:St):aF Tryz.prog Ak [.int .i64 op, .int .i64 a] s (A0 (Rm op a)) s:=by
 refine aF.pure ?_ rfl rfl s
 generalize h:Rm op a=R
 simp only[Rm,Gb]at h
 unfold S0
 refine aF.go La rfl fun B Q hB hQ=>?_
 have⟨hD,hY,hZ,gA⟩:=bN
 repeat' (first
 |simp only[go_sem,hD,hY,hZ,gA]
 |(with_reducible refine CU (RA _ _) ?_)
 |(with_reducible first|refine bk fun hc=>?_|refine bl fun hc=>?_|refine bm (fun hc=>?_) fun hc=>?_)<;>(try simp only[hc,bs,↓reduceIte]at h)<;>try simp only[hc]
 |(with_reducible refine aE hQ ?_;exact fD)
 |(cases h;done))
theorem XV (op a b:Int) (s:St):aF Tryz.prog uZ [.int .i64 op, .int .i64 a, .int .i64 b] s (A0 (Rn op a b)) s:=by
 refine aF.pure ?_ rfl rfl s
 generalize h:Rn op a b=R
 simp only[Rn,Gb]at h
 unfold S0
 rcases Bool.eq_false_or_eq_true (b==0)with b0|b0
 ·refine aF.go xD rfl fun B Q hB hQ=> ?_
  have⟨hD,hY,hZ,gA⟩:=bN
  repeat' (first
 |simp only[go_sem,hD,hY,hZ,gA]
 |(with_reducible first|refine bk fun hc=>?_|refine bl fun hc=>?_|refine bm (fun hc=>?_) fun hc=>?_)<;>(try simp only[hc,bs,↓reduceIte]at h)<;>try simp only[hc]
 |(with_reducible refine aE hQ ?_;exact fD)
 |(cases h;done))
 ·have hb:b≠0:=by simpa using b0
  refine aF.go xD rfl fun B Q hB hQ=>?_
  have⟨hD,hY,hZ,gA⟩:=bN
  repeat' (first
 |simp only[go_sem,hD,hY,hZ,gA,hb]
 |(with_reducible first|refine bk fun hc=>?_|refine bl fun hc=>?_|refine bm (fun hc=>?_) fun hc=>?_)<;>(try simp only[hc,bs,↓reduceIte]at h)<;>try simp only[hc]
 |(with_reducible refine aE hQ ?_;(try cases h);simp only[aT,aV,bE,bF,go_sem,hD,hY,hZ,gA,hb];try exact cf)
 |(cases h;done))
theorem UM (op a b:Int) (s:St):aF Tryz.prog ti [.int .i64 op, .int .i64 a, .int .i64 b] s (A0 (Ro op a b)) s:=by
 refine aF.pure ?_ rfl rfl s
 have e:(a != b) = !(a==b):=rfl
 generalize h:Ro op a b=R
 simp only[Ro]at h
 unfold S0
 refine aF.go EI rfl fun B Q hB hQ=>?_
 have⟨hD,hY,hZ,gA⟩:=bN
 repeat' (first
 |simp only[go_sem,hD,hY,hZ,gA,e]
 |(with_reducible refine CU (RA _ _) ?_)
 |(with_reducible first|refine bk fun hc=>?_|refine bl fun hc=>?_|refine bm (fun hc=>?_) fun hc=>?_)<;>(try simp only[hc,bs,↓reduceIte]at h)<;>try simp only[hc]
 |(with_reducible refine aE hQ ?_;(try cases h);simp only[aT,aV,bE,bF,go_sem,hD,hY,hZ,gA,e];try exact cf)
 |(cases h;done))
theorem ajN (op a b:Int) (s:St):aF Tryz.prog Al [.int .i64 op, .int .i64 a, .int .i64 b] s (A0 (Rp op a b)) s:=by
 refine aF.pure ?_ rfl rfl s
 have e1:(a != 0) = !(a==0):=rfl
 have e2:(b != 0) = !(b==0):=rfl
 generalize h:Rp op a b=R
 simp only[Rp,Gb]at h
 unfold S0
 refine aF.go Lb rfl fun B Q hB hQ=>?_
 have⟨hD,hY,hZ,gA⟩:=bN
 repeat' (first
 |simp only[go_sem,hD,hY,hZ,gA,e1,e2]
 |(with_reducible refine CU (RA _ _) ?_)
 |(with_reducible refine CU (XV _ _ _ _) ?_)
 |(with_reducible refine CU (UM _ _ _ _) ?_)
 |(with_reducible first|refine bk fun hc=>?_|refine bl fun hc=>?_|refine bm (fun hc=>?_) fun hc=>?_)<;>(try simp only[hc,bs,↓reduceIte]at h)<;>try simp only[hc]
 |(with_reducible refine aE hQ ?_;(try cases h);simp only[aT,aV,bE,bF,go_sem,hD,hY,hZ,gA,e1,e2];try exact cf)
 |(cases h;done))
def wV (x:Int) (k:Int):List Int→Int
 | []=> -1
 |s::l=>if x==s then k else wV x (k+1) l
theorem On (x:Int) : ∀ (l:List Int) (k:Int),0≤k→(wV x k l≥0↔l.contains x=true)
 | [],k,h=>by simp[wV]
 | s::l,k,h=>by
  by_cases e:x=s
  ·simp[wV,e];omega
  ·have e':(x==s)=false:=by simp [e]
   simp only[wV,e',Bool.false_eq_true,if_false,List.contains_cons,Bool.false_or]
   exact On x l (k+1) (by omega)
theorem XW {l:List Int} (hl:l.length<4611686018427387904) (x:Int) (s:St):aF Tryz.prog pW [.slice .shared 1 (l.map cz), .int .i64 x] s (.int .i64 (wV x 0 l)) s:=by
 refine aF.pure ?_ (by simp[D.bJ,D.ok,Tag.ok,je]) rfl s
 generalize h:wV x 0 l=p
 unfold S0
 refine aF.go Av rfl fun B Q hB hQ=>?_
 have⟨hD,hY,hZ,gA⟩:=bN
 repeat' (first
 |simp only[go_sem,hD,hY,hZ,gA]
 |(with_reducible first|refine bk fun hc=>?_|refine bl fun hc=>?_|refine bm (fun hc=>?_) fun hc=>?_)<;>(try simp only[hc,bs,↓reduceIte]at h)<;>try simp only[hc]
 |(with_reducible refine aE hQ ?_;exact fD)
 |(cases h;done))
 refine fc 0 0 (br.ind (ι:=List Int×Nat) (fun i=>l.drop i.2=i.1∧wV x (i.2:Int) i.1=p) (fun i=>i.1.length)
  (fun i=> [(0, .slice .shared 1 (l.map cz)),(1, .int .i64 x),(7, .int .i64 (l.length:Int)),(8, .int .i64 (i.2:Int))]) (fun i=>⟨[],[]⟩) ?_ (l,0) ⟨rfl,h⟩)
 rintro⟨rest,k⟩ ⟨h1,h⟩ IH
 dsimp only at h1 h
 cases rest with
 |nil=>
  have hD:=drop_nil h1
  simp only[wV]at h
  repeat' (first
 |simp only[go_sem,hD,hY,hZ,gA]
 |(with_reducible first|refine bk fun hc=>?_|refine bl fun hc=>?_|refine bm (fun hc=>?_) fun hc=>?_)<;>(try simp only[hc,bs,↓reduceIte]at h)<;>try simp only[hc]
 |(with_reducible refine aE hQ ?_;exact fD)
 |(cases h;done))
 |cons a rest=>
  obtain⟨hY,g2,hD,g4⟩:=drop_cons h1
  have bW:k<4611686018427387904:=by omega
  simp only[wV]at h
  repeat' (first
 |simp only[go_sem,hD,hY,hZ,gA]
 |(with_reducible first|refine bk fun hc=>?_|refine bl fun hc=>?_|refine bm (fun hc=>?_) fun hc=>?_)<;>(try simp only[hc,bs,↓reduceIte]at h)<;>try simp only[hc]
 |(with_reducible refine aE hQ ?_;exact fD)
 |(cases h;done))
  refine fe 0 0 ?_ ?_ (IH (rest,k+1) ⟨g2,h⟩ (Nat.lt_succ_self _))
  ·(simp only[go_sem,hD,hY,hZ,gA,aJ bW];try exact cq)
  ·(simp only[go_sem,hD,hY,hZ,gA,aJ bW];try exact cq)
theorem Nh {l:List Int} (hl:l.length<4611686018427387904) (x:Int) (s:St):aF Tryz.prog nQ [.slice .shared 1 (l.map cz), .int .i64 x] s (.bool (l.contains x)) s:=by
 refine aF.pure ?_ (by simp[D.bJ,D.ok,Tag.ok,je]) rfl s
 have hi:=fun s=>XW hl x s
 have e:decide (wV x 0 l≥0)=l.contains x:=by
  have:=On x l 0 (Int.le_refl 0)
  cases h:l.contains x<;>simp_all
 unfold S0
 refine aF.go xb rfl fun B Q hB hQ=>?_
 have⟨hD,hY,hZ,gA⟩:=bN
 repeat' (first
 |simp only[go_sem,hD,hY,hZ,gA,e]
 |(with_reducible refine CU (hi _) ?_)
 |(with_reducible first|refine bk fun hc=>?_|refine bl fun hc=>?_|refine bm (fun hc=>?_) fun hc=>?_)<;>(try simp only[hc,bs,↓reduceIte]at h)<;>try simp only[hc]
 |(with_reducible refine aE hQ ?_;(try cases h);simp only[aT,aV,bE,bF,go_sem,hD,hY,hZ,gA,e];try exact cf)
 |(cases h;done))
theorem nH (names:List az) (bI:List Int) (op n:Int) (name:az) (kids:List Ex):Ex.val names bI ⟨op,n,name,kids⟩=if op==1 then(n,true)else if op==2 then(Dv name names bI,true)else JR op (kids.map (Ex.val names bI)):=by
 have e : ∀ l:List Ex,Ex.CP names bI l=l.map (Ex.val names bI):=fun l=>by
  induction l with
  |nil=>rfl
  |cons x l ih=>simp only[Ex.CP,List.map_cons,ih]
 simp only[Ex.val,e]
theorem af7 {names:List az} {bI:List Int} (hn:names.length<4611686018427387904) (hv:bI.length<4611686018427387904) : ∀ (n:Nat) (x:Ex),x.dp (n:Int)=true→
 aF Tryz.prog lQ [.agg (bS x), .slice .shared 1 (names.map encStr), .slice .shared 1 (bI.map cz)] S0 (A0 (x.val names bI)) S0:=by
 intro n
 induction n with
 |zero=>rintro⟨op,v,name,kids⟩ h;rw[Ln]at h;omega
 | succ n ih=>
  rintro⟨op,v,name,kids⟩ h
  rw[Ln]at h
  obtain⟨_,hk,h⟩:=h
  have Ls:=fun s=>Dq hn name s
  generalize hR:Ex.val names bI ⟨op,v,name,kids⟩=R
  rw[nH]at hR
  unfold S0
  by_cases o1:op=1
  ·subst o1
   simp only[beq_self_eq_true,if_true]at hR
   rw[← hR]
   show aF Tryz.prog lQ _ _ (.tuple [.int .i64 v, .bool true]) _
   refine aF.go o9 rfl fun B Q hB hQ=>?_
   have⟨hD,hY,hZ,gA⟩:=bN
   repeat' (first
 |simp only[go_sem,hD,hY,hZ,gA,beq_self_eq_true]
 |(with_reducible first|refine bk fun hc=>?_|refine bl fun hc=>?_|refine bm (fun hc=>?_) fun hc=>?_)<;>(try simp only[hc,bs,↓reduceIte]at h)<;>try simp only[hc]
 |(with_reducible refine aE hQ ?_;(try cases h);simp only[aT,aV,bE,bF,go_sem,hD,hY,hZ,gA,beq_self_eq_true];try exact cf)
 | (cases h;done))
  rw[if_neg o1]at h
  have b1:(op==1)=false:=by simp[o1]
  by_cases o2:op=2
  ·subst o2
   simp only[b1,Bool.false_eq_true,if_false,beq_self_eq_true,if_true,Dv]at hR
   by_cases hi:iF name 0 names≥0
   ·obtain⟨j,hj⟩:=Int.eq_ofNat_of_zero_le hi
    rw[if_pos hi]at hR
    have b2:decide (iF name 0 names≥0)=true:=by simpa using hi
    rw[hj]at b2 hR
    rw[hj]at Ls
    rcases Nat.lt_or_ge j bI.length with hl|hl
    ·have b3:decide ((j:Int)<(bI.length:Int))=true:=by simp [hl]
     have hg:bI[j]? = some (bI.getD j 0):=by rw[List.getD_eq_getElem?_getD,List.getElem?_eq_getElem hl];rfl
     rw[Int.toNat_natCast]at hR
     rw[← hR]
     show aF Tryz.prog lQ _ _ (.tuple [.int .i64 (bI.getD j 0), .bool true]) _
     refine aF.go o9 rfl fun B Q hB hQ=>?_
     have⟨hD,hY,hZ,gA⟩:=bN
     repeat' (first
 |simp only[go_sem,hD,hY,hZ,gA,b1,b2,b3,hg,beq_self_eq_true,decide_true]
 |(with_reducible refine CU (Ls _) ?_)
 |(with_reducible first|refine bk fun hc=>?_|refine bl fun hc=>?_|refine bm (fun hc=>?_) fun hc=>?_)<;>(try simp only[hc,bs,↓reduceIte]at h)<;>try simp only[hc]
 |(with_reducible refine aE hQ ?_;(try cases h);simp only[aT,aV,bE,bF,go_sem,hD,hY,hZ,gA,b1,b2,b3,hg,beq_self_eq_true,decide_true];try exact cf)
 | (cases h;done))
    ·have b3:decide ((j:Int)<(bI.length:Int))=false:=by simp;omega
     rw[Int.toNat_natCast,List.getD_eq_getElem?_getD,List.getElem?_eq_none hl,Option.getD_none]at hR
     rw[← hR]
     show aF Tryz.prog lQ _ _ (.tuple [.int .i64 0, .bool true]) _
     refine aF.go o9 rfl fun B Q hB hQ=>?_
     have⟨hD,hY,hZ,gA⟩:=bN
     repeat' (first
 |simp only[go_sem,hD,hY,hZ,gA,b1,b2,b3,beq_self_eq_true,decide_true]
 |(with_reducible refine CU (Ls _) ?_)
 |(with_reducible first|refine bk fun hc=>?_|refine bl fun hc=>?_|refine bm (fun hc=>?_) fun hc=>?_)<;>(try simp only[hc,bs,↓reduceIte]at h)<;>try simp only[hc]
 |(with_reducible refine aE hQ ?_;(try cases h);simp only[aT,aV,bE,bF,go_sem,hD,hY,hZ,gA,b1,b2,b3,beq_self_eq_true,decide_true];try exact cf)
 | (cases h;done))
   ·rw [if_neg hi]at hR
    have b2:decide (iF name 0 names≥0)=false:=by simpa using hi
    rw[← hR]
    show aF Tryz.prog lQ _ _ (.tuple [.int .i64 0, .bool true]) _
    refine aF.go o9 rfl fun B Q hB hQ=>?_
    have⟨hD,hY,hZ,gA⟩:=bN
    repeat' (first
 |simp only[go_sem,hD,hY,hZ,gA,b1,b2,beq_self_eq_true]
 |(with_reducible refine CU (Ls _) ?_)
 |(with_reducible first|refine bk fun hc=>?_|refine bl fun hc=>?_|refine bm (fun hc=>?_) fun hc=>?_)<;>(try simp only[hc,bs,↓reduceIte]at h)<;>try simp only[hc]
 |(with_reducible refine aE hQ ?_;(try cases h);simp only[aT,aV,bE,bF,go_sem,hD,hY,hZ,gA,b1,b2,beq_self_eq_true];try exact cf)
 | (cases h;done))
  rw[if_neg o2]at h
  have b2:(op==2)=false:=by simp[o2]
  simp only[b1,b2,Bool.false_eq_true,if_false]at hR
  have hd:=h.2.2
  rw[show((n+1:Nat):Int) - 1=(n:Int) by omega]at hd
  have ihs : ∀ {y:Ex},y∈kids→∀ s,aF Tryz.prog lQ [.agg (bS y), .slice .shared 1 (names.map encStr), .slice .shared 1 (bI.map cz)] s (A0 (y.val names bI)) s:=fun {y} hy s=>by
   have:y.dp (n:Int)=true:=by
    have key : ∀ l:List Ex,Ex.Cv (n:Int) l=true→y∈l→y.dp (n:Int)=true:=fun l=>by
     induction l with
     |nil=>intro _ m;cases m
     | cons z l LD=>
      intro hz m
      simp only[Ex.Cv]at hz
      split at hz
      ·cases hz
      ·rename_i hz'
       rcases List.mem_cons.1 m with rfl|m
       ·simpa using hz'
       ·exact LD hz m
    exact key kids hd hy
   exact aF.pure (ih y this) (by simp[D.bJ,D.ok,Tag.ok,kV,ff,je]) rfl s
  clear h Ls
  have n1:((1:Nat):Int)=1:=rfl
  have e1:((1:Int)==1)=true:=rfl
  have e2:((2:Int)==1)=false:=rfl
  rename _=R=>h
  cases kids with
  |nil=>simp[mV]at hk;omega
  | cons a kids=>
   have c1:=fun s=>ihs (y:=a) (by simp) s
   cases kids with
   |nil=>
    simp only[List.map_cons,List.map_nil,JR]at h
    refine aF.go o9 rfl fun B Q hB hQ=>?_
    have⟨hD,hY,hZ,gA⟩:=bN
    repeat' (first
 |simp only[go_sem,hD,hY,hZ,gA,b1,b2,e1]
 |(with_reducible refine CU (c1 _) ?_)
 |(with_reducible refine CU (ajM _ _ _) ?_)
 |(with_reducible first|refine bk fun hc=>?_|refine bl fun hc=>?_|refine bm (fun hc=>?_) fun hc=>?_)<;>(try simp only[hc,bs,↓reduceIte]at h)<;>try simp only[hc]
 |(with_reducible refine aE hQ ?_;(try cases h);simp only[aT,aV,bE,bF,go_sem,hD,hY,hZ,gA,b1,b2,e1];try exact cf)
 | (cases h;done))
   | cons b kids=>
    cases kids with
    |nil=>
     have c2:=fun s=>ihs (y:=b) (by simp) s
     have e3 : [bS a,bS b][Int.toNat 1]? = some (bS b):=rfl
     simp only[List.map_cons,List.map_nil,JR]at h
     refine aF.go o9 rfl fun B Q hB hQ=>?_
     have⟨hD,hY,hZ,gA⟩:=bN
     repeat' (first
 |simp only[go_sem,hD,hY,hZ,gA,b1,b2,e2,e3]
 |(with_reducible refine CU (c1 _) ?_)
 |(with_reducible refine CU (c2 _) ?_)
 |(with_reducible refine CU (acb _ _) ?_)
 |(with_reducible refine CU (ajN _ _ _ _) ?_)
 |(with_reducible first|refine bk fun hc=>?_|refine bl fun hc=>?_|refine bm (fun hc=>?_) fun hc=>?_)<;>(try simp only[hc,bs,↓reduceIte]at h)<;>try simp only[hc]
 |(with_reducible refine aE hQ ?_;(try cases h);simp only[aT,aV,bE,bF,go_sem,hD,hY,hZ,gA,b1,b2,e2,e3];try exact cf)
 | (cases h;done))
    |cons c kids=>simp[mV]at hk;omega
theorem XX {x:Ex} {names:List az} {bI:List Int} (hx:x.size<4611686018427387904) (ht:x.texts) (hn:names.length<4611686018427387904) (hv:bI.length<4611686018427387904) (s:St) :
 aF Tryz.prog xx [.agg (bS x), .slice .shared 1 (names.map encStr), .slice .shared 1 (bI.map cz)] s (A0 (x.bu names bI)) s:=by
 refine aF.pure ?_ (by simp[D.bJ,D.ok,Tag.ok,kV,ff,je]) rfl s
 have hm:=fun s=>Ay hx ht s
 rw[F2]at hm
 generalize h:x.bu names bI=R
 simp only[Ex.bu]at h
 unfold S0
 rcases Bool.eq_false_or_eq_true x.may with b|b
 ·rw [if_pos b]at h
  have c1:=fun s=>aF.pure (af7 hn hv 20 x (by rw[show((20:Nat):Int)=20 from rfl,F2];exact b)) (by simp[D.bJ,D.ok,Tag.ok,kV,ff,je]) rfl s
  rw[h]at c1
  refine aF.go Eb rfl fun B Q hB hQ=>?_
  have⟨hD,hY,hZ,gA⟩:=bN
  repeat' (first
 |simp only[go_sem,hD,hY,hZ,gA,b]
 |(with_reducible refine CU (hm _) ?_)
 |(with_reducible refine CU (c1 _) ?_)
 |(with_reducible first|refine bk fun hc=>?_|refine bl fun hc=>?_|refine bm (fun hc=>?_) fun hc=>?_)<;>(try simp only[hc,bs,↓reduceIte]at h)<;>try simp only[hc]
 |(with_reducible refine aE hQ ?_;(try cases h);simp only[aT,aV,bE,bF,go_sem,hD,hY,hZ,gA,b];try exact cf)
 |(cases h;done))
 ·rw [if_neg (by simp [b])]at h
  refine aF.go Eb rfl fun B Q hB hQ=>?_
  have⟨hD,hY,hZ,gA⟩:=bN
  repeat' (first
 |simp only[go_sem,hD,hY,hZ,gA,b]
 |(with_reducible refine CU (hm _) ?_)
 |(with_reducible first|refine bk fun hc=>?_|refine bl fun hc=>?_|refine bm (fun hc=>?_) fun hc=>?_)<;>(try simp only[hc,bs,↓reduceIte]at h)<;>try simp only[hc]
 |(with_reducible refine aE hQ ?_;(try cases h);simp only[aT,aV,bE,bF,go_sem,hD,hY,hZ,gA,b];try exact cf)
 |(cases h;done))
theorem A1 {size bytes:Nat} {rows:List (List D)} (h:rows≠ []) (hl:rows.length*(bytes+1)≤bx) {z:Nat} {g:Tag} (o:List (List D)) (T:List (Option Nat)) :
 iP size bytes (.slice .full z []) (.slice g size rows) ⟨o,T⟩=some (.slice (.tok T.length) size rows,⟨o,T++ [some rows.length]⟩):=by
 cases rows with
 |nil=>exact absurd rfl h
 |cons x r=>simp only[List.length_cons]at hl;simp[iP,hl]
theorem A2 {size bytes z z':Nat} {g:Tag} (o:List (List D)) (T:List (Option Nat)) :
 iP size bytes (.slice .full z []) (.slice g z' []) ⟨o,T⟩=some (.slice .full z [],⟨o,T⟩):=by simp[iP,bx]
def Sm.bare (v:Sm):Sm:= {v with bb:= [],aP:= []}
theorem aF.ajO {P:Program} {f:FuncId} {args:List D} {z k:Nat} {rows:List (List D)} (h:aF P f args S0 (.slice (.tok 0) z rows) ⟨[],[some k]⟩) (ha:D.bJ 0 0 args=true) (hr:D.gL 0 0 rows=true) (s:St) :
 aF P f args s (.slice (.tok s.ay.length) z rows) ⟨s.ah,s.ay++ [some k]⟩:=by
 refine bP.frame [] [] h List.nodup_nil List.nodup_nil (by simp) (by simp) rfl (by simp) rfl (by simp) (by rw[fM _ _ _ ha]) ha ?_
 rintro _ _ ⟨rfl,rfl⟩
 refine⟨by simp[D.back,D.dh,Tag.dh,k8,jB _ _ _ hr], ?_⟩
 simp[St.back,lg]
theorem RB (g:Tag) (z:Nat) (s:St):aF Tryz.prog la [.slice g z []] s (.slice .full 1 []) s:=by
 refine bP.sb (.cons (Wk.nil _ _ 1) .nil) (aF.pure ?_ rfl rfl s)
 unfold S0
 refine aF.go qz rfl fun B Q hB hQ=>?_
 have⟨hD,hY,hZ,gA⟩:=bN
 repeat' (first
 |simp only[go_sem,hD,hY,hZ,gA]
 |(with_reducible first|refine bk fun hc=>?_|refine bl fun hc=>?_|refine bm (fun hc=>?_) fun hc=>?_)<;>(try simp only[hc,bs,↓reduceIte]at h)<;>try simp only[hc]
 |(with_reducible refine aE hQ ?_;exact fD)
 |(cases h;done))
 refine Wh (fun _=>?_) ?_
 ·repeat' (first
 |simp only[go_sem,hD,hY,hZ,gA,iP,true_or,Nat.zero_le]
 |(with_reducible first|refine bk fun hc=>?_|refine bl fun hc=>?_|refine bm (fun hc=>?_) fun hc=>?_)<;>(try simp only[hc,bs,↓reduceIte]at h)<;>try simp only[hc]
 |(with_reducible refine aE hQ ?_;(try cases h);simp only[aT,aV,bE,bF,go_sem,hD,hY,hZ,gA,iP,true_or,Nat.zero_le];try exact cf)
 |(cases h;done))
 ·repeat' (first
 |simp only[go_sem,hD,hY,hZ,gA,iP,true_or,Nat.zero_le]
 |(with_reducible first|refine bk fun hc=>?_|refine bl fun hc=>?_|refine bm (fun hc=>?_) fun hc=>?_)<;>(try simp only[hc,bs,↓reduceIte]at h)<;>try simp only[hc]
 |(with_reducible refine aE hQ ?_;(try cases h);simp only[aT,aV,bE,bF,go_sem,hD,hY,hZ,gA,iP,true_or,Nat.zero_le];try exact cf)
 |(cases h;done))
theorem RC {l:List az} (hl:l.length<1073741824) (h0:l≠ []) (s:St):aF Tryz.prog la [.slice .shared 1 (l.map encStr)] s (.slice (.tok s.ay.length) 1 (l.map encStr)) ⟨s.ah,s.ay++ [some l.length]⟩:=by
 refine aF.ajO ?_ (by simp[D.bJ,D.ok,Tag.ok,ff]) (ff l) s
 unfold S0
 refine aF.goK 0 1 (Nat.zero_le _) (Nat.zero_le _) qz rfl fun B Q hB hQ=>?_
 have⟨hD,hY,hZ,gA⟩:=bN
 have ha:=fun o T=>A1 (size:=1) (bytes:=16) (rows:=l.map encStr) (by simpa using h0) (by simp only[List.length_map];unfold bx;omega) (z:=1) (g:= .shared) o T
 cases l with
 |nil=>exact absurd rfl h0
 |cons x l=>
  simp only[List.map_cons,encStr]at ha
  repeat' (first
 |simp only[go_sem,hD,hY,hZ,gA,ha]
 |(with_reducible first|refine bk fun hc=>?_|refine bl fun hc=>?_|refine bm (fun hc=>?_) fun hc=>?_)<;>(try simp only[hc,bs,↓reduceIte]at h)<;>try simp only[hc]
 |(with_reducible refine aE hQ ?_;(try cases h);simp only[aT,aV,bE,bF,go_sem,hD,hY,hZ,gA,ha];try exact cf)
 |(cases h;done))
theorem Oo {a b:List az} {n:Nat} (hn:n=a.length) (h:a.length+b.length≤1000000000) {g:Tag} {t:Nat} {s:St} (ht:s.ay[t]? = some (some n)) :
 iP 1 16 (.slice (.tok t) 1 (a.map encStr)) (.slice g 1 (b.map encStr)) s=some (.slice (.tok t) 1 ((a++b).map encStr),⟨s.ah,s.ay.set t (some (a++b).length)⟩):=by
 subst hn
 rw[ox (size:=1) (bytes:=16) (by simp only[List.length_map];unfold bx;omega) (by simpa using ht)]
 simp
theorem af8 {p:Pg} (h:p.iX) (hb:p.may=true) {name:az} {f:Pc} (hf:p.find name=some f) (s:St):aF Tryz.prog wx [.agg (cB p), .str name] s (.slice .shared 1 ((p.globals++f.own).map encStr)) s:=by
 refine aF.pure ?_ (by simp[D.bJ,D.ok,jq]) (by simp only[D.ok,Tag.ok,ff];rfl) s
 have hm:=fun s=>Lj h.Rc s
 simp only[Ds,hb]at hm
 obtain⟨sR,sE,sD⟩:=h.procs
 simp only[Pg.find]at hf
 unfold S0
 refine aF.go Hf rfl fun B Q hB hQ=>?_
 have⟨hD,hY,hZ,gA⟩:=bN
 repeat' (first
 |simp only[go_sem,hD,hY,hZ,gA]
 |(with_reducible refine CU (hm _) ?_)
 |(with_reducible first|refine bk fun hc=>?_|refine bl fun hc=>?_|refine bm (fun hc=>?_) fun hc=>?_)<;>(try simp only[hc,bs,↓reduceIte]at h)<;>try simp only[hc]
 |(with_reducible refine aE hQ ?_;exact fD)
 |(cases h;done))
 refine fc 1 0 (br.ind (ι:=List Pc×Nat) (fun i=>p.procs.drop i.2=i.1∧iw name i.1=some f) (fun i=>i.1.length)
  (fun i=> [(1, .str name),(2, .ptr 0 0),(11, .slice .shared 5 (p.procs.map cy)),(12, .int .i64 (p.procs.length:Int)),(13, .int .i64 (i.2:Int))]) (fun i=>⟨[cB p],[]⟩) ?_ (p.procs,0) ⟨rfl,hf⟩)
 rintro⟨rest,k⟩ ⟨h1,h2⟩ IH
 dsimp only at h1 h2
 cases rest with
 |nil=>cases h2
 | cons a rest=>
  obtain⟨hY,g2,hD,g4⟩:=drop_cons h1
  have bW:k<4611686018427387904:=by omega
  have wO:=h.small (List.mem_of_getElem? hY)
  simp only[iw]at h2
  rcases Bool.eq_false_or_eq_true (a.name==name)with b1|b1
  ·simp only [b1,if_true]at h2
   cases h2
   have ho:=fun s=>Z0 (f:=f) wO.par wO.vars s
   have jA:f.own.length<2000000:=by have:=wO.par;have:=wO.vars;simp[Pc.own,Pc.sG];omega
   cases e:p.globals with
   | nil=>
    simp only[List.nil_append]at *
    have c1:=fun g z s=>RB g z s
    cases e2:f.own with
    |nil=>
     rw[e2]at ho hQ
     have ha:=fun o T=>A2 (size:=1) (bytes:=16) (z:=1) (z':=1) (g:= .shared) o T
     repeat' (first
 |simp only[go_sem,hD,hY,hZ,gA,b1,ha,e]
 |(with_reducible refine CU (c1 _ _ _) ?_)
 |(with_reducible refine CU (ho _) ?_)
 |(with_reducible first|refine bk fun hc=>?_|refine bl fun hc=>?_|refine bm (fun hc=>?_) fun hc=>?_)<;>(try simp only[hc,bs,↓reduceIte]at h)<;>try simp only[hc]
 |(with_reducible refine aE hQ ?_;(try cases h);simp only[aT,aV,bE,bF,go_sem,hD,hY,hZ,gA,b1,ha,e];try exact cf)
 | (cases h;done))
    |cons x l=>
     have ha:=fun o T=>A1 (size:=1) (bytes:=16) (rows:=f.own.map encStr) (by simp[e2]) (by simp only[List.length_map];unfold bx;omega) (z:=1) (g:= .shared) o T
     repeat' (first
 |simp only[go_sem,hD,hY,hZ,gA,b1,ha,e]
 |(with_reducible refine CU (c1 _ _ _) ?_)
 |(with_reducible refine CU (ho _) ?_)
 |(with_reducible first|refine bk fun hc=>?_|refine bl fun hc=>?_|refine bm (fun hc=>?_) fun hc=>?_)<;>(try simp only[hc,bs,↓reduceIte]at h)<;>try simp only[hc]
 |(with_reducible refine aE hQ ?_;(try cases h);simp only[aT,aV,bE,bF,go_sem,hD,hY,hZ,gA,b1,ha,e];try exact cf)
 | (cases h;done))
   |cons x l=>
    have c1:=fun s=>RC (l:=p.globals) (by omega) (by simp[e]) s
    have ha:=fun {s:St} {t:Nat} (ht:s.ay[t]? = some (some p.globals.length))=>Oo (a:=p.globals) (b:=f.own) (g:= .shared) rfl (by omega) ht
    have xk:=fun o=>Oo (a:=p.globals) (b:=f.own) (g:= .shared) (t:=0) (s:=⟨o,[some p.globals.length]⟩) rfl (by omega) rfl
    repeat' (first
 |simp only[go_sem,hD,hY,hZ,gA,b1,xk]
 |(with_reducible refine CU (c1 _) ?_)
 |(with_reducible refine CU (ho _) ?_)
 |(with_reducible first|refine bk fun hc=>?_|refine bl fun hc=>?_|refine bm (fun hc=>?_) fun hc=>?_)<;>(try simp only[hc,bs,↓reduceIte]at h)<;>try simp only[hc]
 |(with_reducible refine aE hQ ?_;(try cases h);simp only[aT,aV,bE,bF,go_sem,hD,hY,hZ,gA,b1,xk];try exact cf)
 | (cases h;done))
  ·simp only [b1,Bool.false_eq_true,if_false]at h2
   repeat' (first
 |simp only[go_sem,hD,hY,hZ,gA,b1]
 |(with_reducible first|refine bk fun hc=>?_|refine bl fun hc=>?_|refine bm (fun hc=>?_) fun hc=>?_)<;>(try simp only[hc,bs,↓reduceIte]at h)<;>try simp only[hc]
 |(with_reducible refine aE hQ ?_;(try cases h);simp only[aT,aV,bE,bF,go_sem,hD,hY,hZ,gA,b1];try exact cf)
 | (cases h;done))
   refine fe 1 0 ?_ ?_ (IH (rest,k+1) ⟨g2,h2⟩ (Nat.lt_succ_self _))
   ·(simp only[go_sem,hD,hY,hZ,gA,aJ bW];try exact cq)
   ·(simp only[go_sem,hD,hY,hZ,gA,aJ bW];try exact cq)
theorem Ni {p:Pg} (hb:p.may=true) {i:Nat} {f:Pc} (hf:p.procs[i]? = some f) : ∃ a b:Int,p.bg.lo[i]? = some a∧p.bg.hi[i]? = some b∧(if decide (a<b)=true then a else -1)=fp f.body (-1):=by
 obtain⟨a,b,e,h1,h2,h3,h4⟩:=(lR p).2 i f hf
 refine⟨_,_,h1,h2, ?_⟩
 cases Dg:f.body with
 |nil=>
  rw[Dg]at h3
  have:b = []:=by simpa[Sm.cL]using h3
  subst this
  simp[fp]
 | cons s l=>
  rw[Dg,Sm.cL,Sm.nS]at h3
  cases b with
  |nil=>simp at h3
  | cons x b=>
   simp only[List.map_cons,List.cons_append,List.cons.injEq]at h3
   have hx:p.pre[a.length]? = some s:=by
    rw[← (lR p).1,h4]
    simp[h3.1]
   have:=CA hb hx
   rw[if_pos (by simp;omega)]
   simp only[fp]
   rw[this];omega
theorem acd {p:Pg} (hb:p.may=true) {i:Nat} {f:Pc} (hf:p.procs[i]? = some f) (s:St):aF Tryz.prog pU [.dI (fL p) 0, .int .i64 (i:Int)] s (.int .i64 (fp f.body (-1))) s:=by
 refine aF.pure ?_ (by simp[D.bJ,D.ok,vb]) rfl s
 obtain⟨a,b,h1,h2,h⟩:=Ni hb hf
 generalize fp f.body (-1)=R at h
 unfold S0
 rw[oA]
 refine aF.go Au rfl fun B Q hB hQ=>?_
 have⟨hD,hY,hZ,gA⟩:=bN
 repeat' (first
 |simp only[go_sem,hD,hY,hZ,gA,h1,h2]
 |(with_reducible first|refine bk fun hc=>?_|refine bl fun hc=>?_|refine bm (fun hc=>?_) fun hc=>?_)<;>(try simp only[hc,bs,↓reduceIte]at h)<;>try simp only[hc]
 |(with_reducible refine aE hQ ?_;(try cases h);simp only[aT,aV,bE,bF,go_sem,hD,hY,hZ,gA,h1,h2];try exact cf)
 |(cases h;done))
section
variable {p:Pg} {T W:List Int} {y:Lay} {m:Mc} {loc:List (Nat×List D)} {s:St}
theorem j7.row {s:St} {d:D} {cs:List D} (h:j7 s d cs) (hn:cs≠ []) : ∃ o g more,d = .eQ 1 o g cs.length∧s.ah[o]? = some (.int .i64 ((g:Nat):Int)::(cs++more)):=by
 rcases h with ⟨_,h⟩|h
 ·exact absurd h hn
 ·exact h
theorem Inv.XY (h:Inv p T W y m loc s) {fr:Fr} {r:List Fr} (jy:m.st=fr::r) : ∃ so g cells o,y.sd = .eQ 1 so g (r.length+1)∧s.ah[so]? = some (.int .i64 ((g:Nat):Int)::cells)∧cells[r.length]? = some (.ptr o 0)∧s.ah[o]? = some (qd y.κ fr)∧y.φ[0]? = some o:=by
 have iJ:=h.tw
 rw[jy]at iJ
 cases hφ:y.φ with
 |nil=>rw[hφ]at iJ;simp at iJ
 | cons o φ=>
  rw[hφ]at iJ
  simp only[List.length_cons]at iJ
  obtain⟨so,g,more,h1,h2⟩:=h.stack.row (by simp[hφ])
  refine⟨so,g,_,o, ?_,h2, ?_,(h.frame 0 o fr (by rw[hφ];rfl) (by rw[jy];rfl)).1,rfl⟩
  ·rw[h1];simp[hφ];omega
  ·rw [hφ,List.reverse_cons,List.map_append,List.append_assoc,List.getElem?_append_right (by simp;omega)]
   simp[yI,show r.length - φ.length=0 by omega]
theorem RE (h:Inv p T W y m loc s) {fr:Fr} {r:List Fr} (jy:m.st=fr::r) (hs:r.length<1000000) : ∃ o,y.φ[0]? = some o∧s.ah[o]? = some (qd y.κ fr)∧aF Tryz.prog lz [.ptr 0 0] s (.ptr o 0) s:=by
 obtain⟨so,g,cells,o,h1,h2,h3,h4,h5⟩:=h.XY jy
 refine⟨o,h5,h4, ?_⟩
 have hm:=h.j8
 rw[fH,h1]at hm
 have hw:IntKind.wrap .i64 (((r.length+1:Nat):Int) - 1)=((r.length:Nat):Int):=by rw[show((r.length+1:Nat):Int) - 1=(r.length:Int) by omega];exact ek (by omega) (by omega)
 have hl:(r.length<r.length+1)=True:=by simp
 refine bP.vx BA rfl fun B Q hB hQ=>?_
 have⟨hD,hY,hZ,gA⟩:=bN
 repeat' (first
 |simp only[go_sem,hD,hY,hZ,gA,hm,hw,h2,h3,hl,Nat.mul_one]
 |(with_reducible first|refine bk fun hc=>?_|refine bl fun hc=>?_|refine bm (fun hc=>?_) fun hc=>?_)<;>(try simp only[hc,bs,↓reduceIte]at h)<;>try simp only[hc]
 |(with_reducible refine aE hQ ?_;(try cases h);simp only[aT,aV,bE,bF,go_sem,hD,hY,hZ,gA,hm,hw,h2,h3,hl,Nat.mul_one];try exact cf)
 |(cases h;done))
 (refine gW hQ ?_;simp only[aT,aV,bE,bF,go_sem])
theorem DE (h:Inv p T W y m loc s) {fr:Fr} {r:List Fr} (jy:m.st=fr::r) (hs:r.length<1000000) (hn:fr.names.length<1000000) {name:az} {j c:Nat} (hj:iF name 0 fr.names=(j:Int)) (hc:fr.vars[j]? = some c) :
 aF Tryz.prog iZ [.ptr 0 0, .str name] s (.ptr (y.κ.getD c 0) 0) s:=by
 obtain⟨o,_,h1,c1⟩:=RE h jy hs
 have c2:=fun s=>Dq (l:=fr.names) (by omega) name s
 rw[hj]at c2
 rw[qd]at h1
 refine bP.vx zn rfl fun B Q hB hQ=>?_
 have⟨hD,hY,hZ,gA⟩:=bN
 repeat' (first
 |simp only[go_sem,hD,hY,hZ,gA,h1,hc,fB,Option.map_some]
 |(with_reducible refine CU (c1) ?_)
 |(with_reducible refine CU (c2 _) ?_)
 |(with_reducible first|refine bk fun hc=>?_|refine bl fun hc=>?_|refine bm (fun hc=>?_) fun hc=>?_)<;>(try simp only[hc,bs,↓reduceIte]at h)<;>try simp only[hc]
 |(with_reducible refine aE hQ ?_;(try cases h);simp only[aT,aV,bE,bF,go_sem,hD,hY,hZ,gA,h1,hc,fB,Option.map_some];try exact cf)
 |(cases h;done))
 (refine gW hQ ?_;simp only[aT,aV,bE,bF,go_sem])
abbrev Rl (p:Pg) (T W:List Int) (d:D) (m':Mc) (X:Lay→Prop) (loc:List (Nat×List D)):D→St→Prop:=fun d' s'=>d'=d∧∃ y',X y'∧Inv p T W y' m' loc s'
theorem Oq (h:Inv p T W y m loc s) (hW:W.length<1000000) (ht:m.trace.length<2000000) (id:Int) (bI:List Int) :
 bP Tryz.prog eO [.ptr 0 0, .int .i64 id, .slice .shared 1 (bI.map cz)] s (Rl p T W (.tuple []) (m.event W id bI) (· = y) loc):=by
 have hm:=h.j8
 rw[fH]at hm
 have hl:=h.vC
 have c1:=fun s=>Nh (l:=W) (by omega) id s
 have fb:iP 2 32 (.slice (.tok 1) 2 (m.trace.map gJ)) (.slice .full 2 [[.int .i64 id, .slice .shared 1 (bI.map cz)]]) s=some (.slice (.tok 1) 2 ((m.trace++ [(id,bI)]).map gJ),⟨s.ah,s.ay.set 1 (some (m.trace.length+1))⟩):=by
  rw[ox (size:=2) (bytes:=32) (by simp only[List.length_map,List.length_singleton];unfold bx;omega) (by simpa using h.t1)]
  simp[gJ]
 refine bP.vx zp rfl fun B Q hB hQ=>?_
 have⟨hD,hY,hZ,gA⟩:=bN
 cases hb:W.contains id
 ·repeat' (first
 |simp only[go_sem,hD,hY,hZ,gA,hm,hb]
 |(with_reducible refine CU (c1 _) ?_)
 |(with_reducible first|refine bk fun hc=>?_|refine bl fun hc=>?_|refine bm (fun hc=>?_) fun hc=>?_)<;>(try simp only[hc,bs,↓reduceIte]at h)<;>try simp only[hc]
 |(with_reducible refine aE hQ ?_;(try cases h);simp only[aT,aV,bE,bF,go_sem,hD,hY,hZ,gA,hm,hb];try exact cf)
 |(cases h;done))
  (refine gW hQ ?_;simp only[aT,aV,bE,bF,go_sem])
  refine⟨rfl,y,rfl, ?_⟩
  unfold Mc.event
  rw[hb]
  exact h
 ·repeat' (first
 |simp only[go_sem,hD,hY,hZ,gA,hm,hb,fb,hl]
 |(with_reducible refine CU (c1 _) ?_)
 |(with_reducible first|refine bk fun hc=>?_|refine bl fun hc=>?_|refine bm (fun hc=>?_) fun hc=>?_)<;>(try simp only[hc,bs,↓reduceIte]at h)<;>try simp only[hc]
 |(with_reducible refine aE hQ ?_;(try cases h);simp only[aT,aV,bE,bF,go_sem,hD,hY,hZ,gA,hm,hb,fb,hl];try exact cf)
 | (cases h;done))
  (refine gW hQ ?_;simp only[aT,aV,bE,bF,go_sem])
  refine⟨rfl,y,rfl, ?_⟩
  have:=h.uO (m':=m.event W id bI) (ts:=s.ay.set 1 (some (m.trace.length+1))) (fh W m id bI).1 (fh W m id bI).2.1 (by rw[(fh W m id bI).2.2.2.2.2,List.getElem?_set_ne (by omega)];exact h.t0) (by
   unfold Mc.event
   rw[hb]
   simp[(List.getElem?_eq_some_iff.1 h.t1).1])
  unfold Mc.event at this ⊢
  rw[hb,if_pos rfl]at this ⊢
  simp only[fH,List.map_append,List.map_cons,List.map_nil]at this
  exact this
theorem Ot (l:List Sm) (hl:l.length<4611686018427387904) (o:Int) (s:St):aF Tryz.prog qT [.slice .shared 13 (l.map bj), .int .i64 o] s (.int .i64 (firstM l o)) s:=by
 refine aF.pure ?_ (by simp[D.bJ,D.ok,Tag.ok,oy]) rfl s
 unfold S0
 cases l with
 |nil=>
  have e:decide ((0:Int) > 0)=false:=rfl
  simp only[firstM,fp,List.map_nil]
  refine aF.go Br rfl fun B Q hB hQ=>?_
  have⟨hD,hY,hZ,gA⟩:=bN
  repeat' (first
 |simp only[go_sem,hD,hY,hZ,gA,e]
 |(with_reducible first|refine bk fun hc=>?_|refine bl fun hc=>?_|refine bm (fun hc=>?_) fun hc=>?_)<;>(try simp only[hc,bs,↓reduceIte]at h)<;>try simp only[hc]
 |(with_reducible refine aE hQ ?_;(try cases h);simp only[aT,aV,bE,bF,go_sem,hD,hY,hZ,gA,e];try exact cf)
 |(cases h;done))
 |cons a l=>
  have e:decide (((l.length+1:Nat):Int) > 0)=true:=by simp
  simp only[firstM,fp,List.map_cons]
  refine aF.go Br rfl fun B Q hB hQ=>?_
  have⟨hD,hY,hZ,gA⟩:=bN
  repeat' (first
 |simp only[go_sem,hD,hY,hZ,gA,e]
 |(with_reducible first|refine bk fun hc=>?_|refine bl fun hc=>?_|refine bm (fun hc=>?_) fun hc=>?_)<;>(try simp only[hc,bs,↓reduceIte]at h)<;>try simp only[hc]
 |(with_reducible refine aE hQ ?_;(try cases h);simp only[aT,aV,bE,bF,go_sem,hD,hY,hZ,gA,e];try exact cf)
 |(cases h;done))
end
end Go.Abs
namespace Go.Abs
set_option maxRecDepth 8000
open Go.Proofs
section
variable {p:Pg} {T W:List Int} {y:Lay} {m:Mc} {loc:List (Nat×List D)} {s:St}
theorem L9 {s:St} {o g z bytes:Nat} {t:Tag} {cs more r:List D} {len:Nat} (hs:s.ah[o]? = some (.int .i64 (g:Int)::(cs++more))) (hl:cs.length=len*z) (hm:(len+1)*(bytes+1)≤bx) :
 BQ z bytes (.eQ z o g len) (.slice t z [r]) s=some (.eQ z o (g+1) (len+1),⟨s.ah.set o (.int .i64 ((g+1:Nat):Int)::(cs++r)),s.ay⟩):=by
 have ha:oj s o g=some (cs++more):=by unfold oj;rw[hs];simp
 simp only[BQ,ha,List.length_singleton,hm,or_true,and_self,if_true,List.flatten_cons,List.flatten_nil,List.append_nil]
 rw[if_pos (by simp;omega), ← hl,List.take_append_of_le_length (Nat.le_refl _),List.take_length]
theorem Wk.ajP (z z':Nat):Wk (.eJ z) (.slice .shared z' []):=fun M s v h=>by
 cases h with
 |eJ _ a=>cases a with
  |none=>exact .jb _ _ _ rfl trivial
  |some a=>exact .mg _ _ _
theorem aF.ajQ {P:Program} {f:FuncId} {a b:D} {d:D} {s:St} {v:D} {l:List Int} (hv:j7 s v (l.map rC)) (h : ∀ s,aF P f [a,b, .slice .shared 1 (l.map cz)] s d s) (ha:D.ok 0 0 a=true) (hb:D.ok 0 0 b=true) (hd:d.flat=true) :
 aF P f [a,b,v] s d s:=by
 rcases hv with ⟨rfl,e⟩|⟨o,g,more,rfl,e⟩
 ·have:l = []:=by simpa using e
  subst this
  exact bP.sb (.cons (Wk.refl _) (.cons (Wk.refl _) (.cons (Wk.ajP 1 1) .nil))) (h s)
 ·have eH : ∀ l:List Int,(l.map cz).flatten=l.map rC:=fun l=>by
   induction l with
   |nil=>rfl
   |cons x l ih=>simp only[List.map_cons,List.flatten_cons,ih];rfl
  have hlen:(l.map rC).length=(l.map cz).length:=by simp
  rw[hlen]
  have e0:D.jP o g (l.map cz) [a,b, .eQ 1 o g (l.map cz).length] = [a,b, .slice .shared 1 (l.map cz)]:=by
   simp only[D.jP,K0 _ _ _ a ha,K0 _ _ _ b hb,D.fU,and_self,if_true]
  refine aF.amb (k:=2) (rows:=l.map cz) rfl (by rw[eH];exact e) (by intro r hr;obtain⟨x,_,rfl⟩:=List.mem_map.1 hr;rfl) ?_ ?_ hd
  ·rw[e0];exact h S0
  ·rw[e0];simp[D.bJ,D.ok,Tag.ok,ha,hb,je]
structure nC (m:Mc) (fr:Fr) (r:List Fr):Prop where
 st:m.st=fr::r
 len:r.length<1000000
 names:fr.names.length<1000000
 vars:fr.vars.length<1000000
theorem nC.top {fr:Fr} {r:List Fr} (h:nC m fr r):m.top=fr:=by simp[Mc.top,h.st]
theorem UO {fr:Fr} {k c:Nat} {rest:List Nat} (h:fr.vars.drop k=c::rest) (m:Mc):(fr.vars.take (k+1)).map (fun c=>m.mem.getD c 0)=(fr.vars.take k).map (fun c=>m.mem.getD c 0)++ [m.mem.getD c 0]:=by
 have:=(drop_cons h).1
 rw[List.take_add_one,this]
 simp
theorem E1 (h:Inv p T W y m loc s) {fr:Fr} {r:List Fr} (ht:nC m fr r) {x:Ex} (hx:x.size<1000000) (htx:x.texts) :
 bP Tryz.prog ku [.ptr 0 0, .agg (bS x)] s (fun d s'=>Rl p T W (A0 (m.bu x).1) (m.bu x).2 (fun y'=>y' = {y with vd:=y'.vd}) loc d s'∧s'.ay=s.ay):=by
 have h1:=h.new (bS x)
 generalize aae:(s.ah.length,bS x)::loc=XZ at h1
 obtain⟨o,ho,UP,c1⟩:=RE h1 ht.st ht.len
 have hm:=h1.j8
 rw[fH]at hm
 have hl:=h1.vC
 simp only at hm hl
 rw[qd]at UP
 have hvl:=ht.vars
 have Sy:=ht.names
 refine bP.vx zo rfl fun B Q hB hQ=>?_
 have⟨hD,hY,hZ,gA⟩:=bN
 -- the rounds
 have loop : ∀ (n k:Nat) (rest:List Nat) (vd:D) (s2:St),s2.ay=s.ay→rest.length=n→fr.vars.drop k=rest→Inv p T W {y with vd:=vd} m XZ s2→j7 s2 vd (((fr.vars.take k).map fun c=>m.mem.getD c 0).map rC)→
  br Tryz.prog B 64 QTI (lf 0 (oq (kL Tryz.prog B 64 QTU Q) Q)) [(0, .ptr 0 0),(3, .ptr s.ah.length 0),(6, .ptr o 0),(24, .slice .shared 1 (fr.vars.map fun c=>fB (y.κ.getD c 0))),(25, .int .i64 (fr.vars.length:Int)),(26, .int .i64 (k:Int))] s2:=by
  intro n
  induction n with
  | zero=>
   intro k rest vd s2 wk BY hd h2 ha
   have:rest = []:=List.eq_nil_of_length_eq_zero BY
   subst this
   have hD:=drop_nil hd
   have hk:fr.vars.take k=fr.vars:=List.take_of_length_le (List.drop_eq_nil_iff.1 hd)
   rw[hk]at ha
   have aaf:(fr.vars.map fun c=>m.mem.getD c 0)=m.bI:=by unfold Mc.bI;rw[ht.top]
   rw[aaf]at ha
   have jX:=h2.j8
   rw[fH]at jX
   have jc:=h2.vC
   have I9:=(h2.frame 0 o fr ho (by rw[ht.st];rfl)).1
   rw[qd]at I9
   have uF:=(h2.loc (s.ah.length,bS x) (by rw[← aae];exact List.mem_cons_self ..)).1
   simp only at jX I9 uF
   have c2:aF Tryz.prog xx [.agg (bS x), .slice .shared 1 (fr.names.map encStr),vd] s2 (A0 (x.bu fr.names m.bI)) s2:=
    aF.ajQ ha (fun s=>XX (by omega) htx (by omega) (by rw[← aaf,List.length_map];omega) s) (by simp[D.ok,kV]) (by simp[D.ok,Tag.ok,ff]) (by simp[D.flat,D.FB])
   have hw:(m.bu x).1=x.bu fr.names m.bI:=by unfold Mc.bu;rw[ht.top]
   generalize hr:x.bu fr.names m.bI=q at *
   have uv:(m.bu x).2=if q.2 then m else {m with fin:=4}:=by unfold Mc.bu;rw[ht.top,hr]
   obtain⟨q1,q2⟩:=q
   have wQ:Inv p T W {y with vd:=vd} {m with fin:=4} XZ ⟨s2.ah.set 0 (fH p T W {y with vd:=vd} {m with fin:=4}),s2.ay⟩:=h2.uO (m':= {m with fin:=4}) rfl rfl h2.t0 h2.t1
   rw[fH]at wQ
   have n8 : ∀ q∈loc,q∈XZ:=fun q mq=>by rw[← aae];exact List.mem_cons_of_mem _ mq
   refine br.lE ?_
   cases q2
   ·repeat' (first
 |simp only[go_sem,hD,hY,hZ,gA,jX,jc,I9,uF]
 |(with_reducible refine CU (c2) ?_)
 |(with_reducible first|refine bk fun hc=>?_|refine bl fun hc=>?_|refine bm (fun hc=>?_) fun hc=>?_)<;>(try simp only[hc,bs,↓reduceIte]at h)<;>try simp only[hc]
 |(with_reducible refine aE hQ ?_;(try cases h);simp only[aT,aV,bE,bF,go_sem,hD,hY,hZ,gA,jX,jc,I9,uF];try exact cf)
 |(cases h;replace h:=hr;clear hr;(try simp only[bs,↓reduceIte]at h))
 | (cases h;done))
    (refine gW hQ ?_;simp only[aT,aV,bE,bF,go_sem])
    refine⟨⟨by rw[hw],{y with vd:=vd},rfl, ?_⟩,wk⟩
    rw[uv]
    exact wQ.sub n8
   ·repeat' (first
 |simp only[go_sem,hD,hY,hZ,gA,jX,jc,I9,uF]
 |(with_reducible refine CU (c2) ?_)
 |(with_reducible first|refine bk fun hc=>?_|refine bl fun hc=>?_|refine bm (fun hc=>?_) fun hc=>?_)<;>(try simp only[hc,bs,↓reduceIte]at h)<;>try simp only[hc]
 |(with_reducible refine aE hQ ?_;(try cases h);simp only[aT,aV,bE,bF,go_sem,hD,hY,hZ,gA,jX,jc,I9,uF];try exact cf)
 |(cases h;replace h:=hr;clear hr;(try simp only[bs,↓reduceIte]at h))
 | (cases h;done))
    (refine gW hQ ?_;simp only[aT,aV,bE,bF,go_sem])
    refine⟨⟨by rw[hw],{y with vd:=vd},rfl, ?_⟩,wk⟩
    rw[uv]
    exact h2.sub n8
  | succ n ih=>
   intro k rest vd s2 wk BY hd h2 ha
   cases rest with
   |nil=>cases BY
   | cons c rest=>
    obtain⟨hY,g2,hD,g4⟩:=drop_cons hd
    have bW:k<4611686018427387904:=by omega
    have UQ:c<m.mem.length:=(h2.frame 0 o fr ho (by rw[ht.st];rfl)).2.2 c (List.mem_of_getElem? hY)
    have hκ:y.κ[c]? = some (y.κ.getD c 0):=by
     rw[List.getD_eq_getElem?_getD,List.getElem?_eq_getElem (by have:=h2.len;simp only at this;omega)];rfl
    have iV:=h2.cell c _ _ hκ (by rw[List.getElem?_eq_getElem UQ])
    have pf:m.mem[c] = m.mem.getD c 0:=by rw[List.getD_eq_getElem?_getD,List.getElem?_eq_getElem UQ];rfl
    rw[pf]at iV
    generalize ajR:m.mem.getD c 0=v at iV
    have jX:=h2.j8
    rw[fH]at jX
    have jc:=h2.vC
    simp only at jX
    have hlen:k<1000000:=by have:=ht.vars;omega
    have hvt:((fr.vars.take (k+1)).map fun c=>m.mem.getD c 0).map rC=((fr.vars.take k).map fun c=>m.mem.getD c 0).map rC++ [.int .i64 v]:=by
     rw[UO hd m,ajR,List.map_append];rfl
    rcases ha with ⟨rfl,e⟩|⟨vo,g,more,rfl,e⟩
    ·have fb:=KY (z:=1) (bytes:=8) .full [.int .i64 v] s2 (by unfold bx;omega)
     have h3:=h2.Rz (vd:= .eQ 1 s2.ah.length 0 1) (s1:=⟨s2.ah++ [[.int .i64 ((0:Nat):Int), .int .i64 v]],s2.ay⟩) (fun o r e _=>by rw[List.getElem?_append_left (gj e)];exact e)
      ⟨[v], .inr ⟨_,0,[],rfl,by simp[rC]⟩⟩ (.inr (.inr rfl)) rfl
     rw[fH]at h3
     simp only at h3
     refine br.lE ?_
     have hA : ∀ e:List (List D),(s2.ah++e)[0]? = s2.ah[0]? :=fun e=>List.getElem?_append_left jc
     repeat' (first
 |simp only[go_sem,hD,hY,hZ,gA,jX,jc,iV,hY,fB,fb,Option.map_some,hA]
 |(with_reducible first|refine bk fun hc=>?_|refine bl fun hc=>?_|refine bm (fun hc=>?_) fun hc=>?_)<;>(try simp only[hc,bs,↓reduceIte]at h)<;>try simp only[hc]
 |(with_reducible refine aE hQ ?_;(try cases h);simp only[aT,aV,bE,bF,go_sem,hD,hY,hZ,gA,jX,jc,iV,hY,fB,fb,Option.map_some,hA];try exact cf)
 |(cases h;replace h:=hr;clear hr;(try simp only[bs,↓reduceIte]at h))
 | (cases h;done))
     refine br.qy ?_ (ih (k+1) rest _ _ wk (by simpa using BY) g2 h3 ?_)
     ·simp only [go_sem,aJ bW,fB]
      repeat' (first|exact Ok.out|with_reducible refine jn ?_ ?_)
     ·rw [hvt,e]
      refine .inr ⟨_,0,[],rfl, ?_⟩
      show((s2.ah++ [_]).set 0 _)[s2.ah.length]? = _
      rw[List.getElem?_set_ne (by omega)]
      simp
    ·have pA:(((fr.vars.take k).map fun c=>m.mem.getD c 0).map rC).length=k:=by simp;omega
     have fb:=L9 (t:= .full) (bytes:=8) (r:= [.int .i64 v]) e (len:=k) (z:=1) (by rw[pA,Nat.mul_one]) (by unfold bx;omega)
     rw[pA]at jX h2
     have Ja:0≠vo:=fun e'=>(h2.wU (o:=vo) (by simp[D.arr])) e'.symm
     have dw:j7 ⟨s2.ah.set vo (.int .i64 ((g+1:Nat):Int)::(((fr.vars.take k).map fun c=>m.mem.getD c 0).map rC++ [.int .i64 v])),s2.ay⟩ (.eQ 1 vo (g+1) (k+1)) (((fr.vars.take k).map fun c=>m.mem.getD c 0).map rC++ [.int .i64 v]):=
      .inr ⟨vo,g+1,[],by simp;omega,by simp[gj e]⟩
     have h3:=h2.Rz (vd:= .eQ 1 vo (g+1) (k+1)) (s1:=⟨s2.ah.set vo (.int .i64 ((g+1:Nat):Int)::(((fr.vars.take k).map fun c=>m.mem.getD c 0).map rC++ [.int .i64 v])),s2.ay⟩) (fun o r e hn=>by rw[List.getElem?_set_ne (fun e'=>hn (by rw[← e'];simp[D.arr]))];exact e)
      ⟨(fr.vars.take (k+1)).map fun c=>m.mem.getD c 0,by rw[hvt];exact dw⟩ (.inl rfl) rfl
     rw[fH]at h3
     simp only at h3
     refine br.lE ?_
     have hA : ∀ e:List D,(s2.ah.set vo e)[0]? = s2.ah[0]? :=fun e=>List.getElem?_set_ne (Ne.symm Ja)
     repeat' (first
 |simp only[go_sem,hD,hY,hZ,gA,jX,jc,iV,hY,fB,fb,Option.map_some,hA]
 |(with_reducible first|refine bk fun hc=>?_|refine bl fun hc=>?_|refine bm (fun hc=>?_) fun hc=>?_)<;>(try simp only[hc,bs,↓reduceIte]at h)<;>try simp only[hc]
 |(with_reducible refine aE hQ ?_;(try cases h);simp only[aT,aV,bE,bF,go_sem,hD,hY,hZ,gA,jX,jc,iV,hY,fB,fb,Option.map_some,hA];try exact cf)
 |(cases h;replace h:=hr;clear hr;(try simp only[bs,↓reduceIte]at h))
 |(cases h;done))
     refine br.qy ?_ (ih (k+1) rest _ _ wk (by simpa using BY) g2 h3 ?_)
     ·simp only [go_sem,aJ bW,fB]
      repeat' (first|exact Ok.out|with_reducible refine jn ?_ ?_)
     ·rw [hvt]
      exact dw.keep fun o mo=>by
       have:o=vo:=by simpa[D.arr]using mo
       subst this
       show(List.set _ 0 _)[o]? = _
       rw[List.getElem?_set_ne Ja]
 -- the values' slice is emptied
 obtain⟨l,hv⟩:=h1.bI
 have h0:((s.ah++ [bS x])[0]?).isSome=true:=by rw[hm];rfl
 rcases hv with ⟨e,_⟩|⟨vo,g,more,e,e2⟩
 ·rw [e]at hm
  have vi:x7 (.eJ 1) none (some (.int .i64 0))=some (.eJ 1):=by simp[x7,tW,tX]
  have h3:=h1.Rz (vd:= .eJ 1) (s1:=⟨s.ah++ [bS x],s.ay⟩) (fun _ _ e _=>e) ⟨[], .inl ⟨rfl,rfl⟩⟩ (.inl (by rw[e])) rfl
  have C3:=(h3.frame 0 o fr ho (by rw[ht.st];rfl)).1
  rw[fH]at h3 C3
  rw[qd]at C3
  simp only at h3 C3
  repeat' (first
 |simp only[go_sem,hD,hY,hZ,gA,hm,hl,UP,vi,C3]
 |(with_reducible refine CU (c1) ?_)
 |(with_reducible first|refine bk fun hc=>?_|refine bl fun hc=>?_|refine bm (fun hc=>?_) fun hc=>?_)<;>(try simp only[hc,bs,↓reduceIte]at h)<;>try simp only[hc]
 |(with_reducible refine aE hQ ?_;(try cases h);simp only[aT,aV,bE,bF,go_sem,hD,hY,hZ,gA,hm,hl,UP,vi,C3];try exact cf)
 |(cases h;replace h:=hr;clear hr;(try simp only[bs,↓reduceIte]at h))
 |(cases h;done))
  refine br.qy ?_ (loop _ 0 fr.vars _ _ rfl rfl rfl h3 (.inl ⟨rfl,rfl⟩))
  simp only[go_sem,fB]
  repeat' (first|exact Ok.out|with_reducible refine jn ?_ ?_)
 ·rw [List.length_map]at e
  rw[e]at hm
  have Ja:0≠vo:=fun e'=>(h1.wU (o:=vo) (by rw[e];simp[D.arr])) e'.symm
  have vi:x7 (.eQ 1 vo g l.length) none (some (.int .i64 0))=some (.eQ 1 vo g 0):=by simp[x7,tW,tX]
  have h3:=h1.Rz (vd:= .eQ 1 vo g 0) (s1:=⟨s.ah++ [bS x],s.ay⟩) (fun _ _ e _=>e) ⟨[], .inr ⟨vo,g,l.map rC++more,rfl,e2⟩⟩ (.inl (by rw[e];rfl)) rfl
  have C3:=(h3.frame 0 o fr ho (by rw[ht.st];rfl)).1
  rw[fH]at h3 C3
  rw[qd]at C3
  simp only at h3 C3
  repeat' (first
 |simp only[go_sem,hD,hY,hZ,gA,hm,hl,UP,vi,C3]
 |(with_reducible refine CU (c1) ?_)
 |(with_reducible first|refine bk fun hc=>?_|refine bl fun hc=>?_|refine bm (fun hc=>?_) fun hc=>?_)<;>(try simp only[hc,bs,↓reduceIte]at h)<;>try simp only[hc]
 |(with_reducible refine aE hQ ?_;(try cases h);simp only[aT,aV,bE,bF,go_sem,hD,hY,hZ,gA,hm,hl,UP,vi,C3];try exact cf)
 |(cases h;replace h:=hr;clear hr;(try simp only[bs,↓reduceIte]at h))
 | (cases h;done))
  refine br.qy ?_ (loop _ 0 fr.vars _ _ rfl rfl rfl h3 (.inr ⟨vo,g,l.map rC++more,rfl, ?_⟩))
  ·simp only [go_sem,fB]
   repeat' (first|exact Ok.out|with_reducible refine jn ?_ ?_)
  ·show(List.set _ 0 _)[vo]? = _
   rw[List.getElem?_set_ne Ja];exact e2
end
end Go.Abs
namespace Go.Abs
set_option maxRecDepth 8000
open Go.Proofs
section
variable {p:Pg} {T W:List Int} {y:Lay} {m:Mc} {loc:List (Nat×List D)} {s:St}
theorem Ew:Wk (.slice .full 0 []) (.slice .shared 1 (([] : List Int).map cz)):=Wk.nil _ _ _
theorem wW (h:Inv p T W y m loc s) (hW:W.length<1000000) (ht:m.trace.length<2000000) (id:Int) :
 bP Tryz.prog eO [.ptr 0 0, .int .i64 id, .slice .full 0 []] s (Rl p T W (.tuple []) (m.event W id []) (· = y) loc):=
 bP.sb (.cons (Wk.refl _) (.cons (Wk.refl _) (.cons Ew .nil))) (Oq h hW ht id [])
theorem E2 (h:Inv p T W y m loc s) (hW:W.length<1000000) (ht:m.trace.length<2000000) (id n:Int) :
 bP Tryz.prog eO [.ptr 0 0, .int .i64 id, .slice .full 1 [[.int .i64 n]]] s (Rl p T W (.tuple []) (m.event W id [n]) (· = y) loc):=
 bP.sb (.cons (Wk.refl _) (.cons (Wk.refl _) (.cons (Wk.shared _ _ _) .nil))) (Oq h hW ht id [n])
theorem ace (h:Inv p T W y m loc s) {fr:Fr} {r:List Fr} (ht:nC m fr r) {v:Sm} (hv:v.nU) (hW:W.length<1000000) (htr:m.trace.length<2000000) :
 bP Tryz.prog pk [.ptr 0 0, .agg (bj v)] s (Rl p T W (.int .i64 (m.fv W v).1) (m.fv W v).2 (fun y'=>y' = {y with vd:=y'.vd}) loc):=by
 have h1:=h.new (bj v)
 have hx:(s.ah++ [bj v])[s.ah.length]? = some (bj v):=by simp
 have n8 : ∀ q∈loc,q∈(s.ah.length,bj v)::loc:=fun q mq=>List.mem_cons_of_mem _ mq
 refine bP.vx zl rfl fun B Q hB hQ=>?_
 have⟨hD,hY,hZ,gA⟩:=bN
 rcases Bool.eq_false_or_eq_true v.has with b|b
 ·have c1:=E1 h1 ht (x:=v.x) (by have:=hv.2.2;omega) hv.1
  repeat' (first
 |simp only[go_sem,hD,hY,hZ,gA,hx,b]
 |(with_reducible first|refine bk fun hc=>?_|refine bl fun hc=>?_|refine bm (fun hc=>?_) fun hc=>?_)<;>(try simp only[hc,bs,↓reduceIte]at h)<;>try simp only[hc]
 |(with_reducible refine aE hQ ?_;(try cases h);simp only[aT,aV,bE,bF,go_sem,hD,hY,hZ,gA,hx,b];try exact cf)
 | (cases h;done))
  refine CR c1 fun d s2 h2=>?_
  obtain⟨⟨rfl,y2,wX,h2⟩,_⟩:=h2
  have uF:=(h2.loc (s.ah.length,bj v) (List.mem_cons_self ..)).1
  have hw:=gR m v.x
  simp only at uF
  rcases Bool.eq_false_or_eq_true (m.bu v.x).1.2 with b2|b2
  ·have c2:=E2 h2 hW (by rw [hw.2.2.2.2.2];exact htr) v.id (m.bu v.x).1.1
   repeat' (first
 |simp only[go_sem,hD,hY,hZ,gA,uF,b2]
 |(with_reducible first|refine bk fun hc=>?_|refine bl fun hc=>?_|refine bm (fun hc=>?_) fun hc=>?_)<;>(try simp only[hc,bs,↓reduceIte]at h)<;>try simp only[hc]
 |(with_reducible refine aE hQ ?_;(try cases h);simp only[aT,aV,bE,bF,go_sem,hD,hY,hZ,gA,uF,b2];try exact cf)
 | (cases h;done))
   refine CR c2 fun d s3 h3=>?_
   obtain⟨rfl,y3,rfl,h3⟩:=h3
   repeat' (first
 |simp only[go_sem,hD,hY,hZ,gA]
 |(with_reducible first|refine bk fun hc=>?_|refine bl fun hc=>?_|refine bm (fun hc=>?_) fun hc=>?_)<;>(try simp only[hc,bs,↓reduceIte]at h)<;>try simp only[hc]
 |(with_reducible refine aE hQ ?_;exact fD)
 | (cases h;done))
   (refine gW hQ ?_;simp only[aT,aV,bE,bF,go_sem])
   refine⟨by simp only[Mc.fv,b,if_true],y3,wX, ?_⟩
   simp only[Mc.fv,b,b2,if_true]
   exact h3.sub n8
  ·repeat' (first
 |simp only[go_sem,hD,hY,hZ,gA,uF,b2]
 |(with_reducible first|refine bk fun hc=>?_|refine bl fun hc=>?_|refine bm (fun hc=>?_) fun hc=>?_)<;>(try simp only[hc,bs,↓reduceIte]at h)<;>try simp only[hc]
 |(with_reducible refine aE hQ ?_;(try cases h);simp only[aT,aV,bE,bF,go_sem,hD,hY,hZ,gA,uF,b2];try exact cf)
 | (cases h;done))
   (refine gW hQ ?_;simp only[aT,aV,bE,bF,go_sem])
   refine⟨by simp only[Mc.fv,b,if_true],y2,wX, ?_⟩
   simp only[Mc.fv,b,b2,if_true,Bool.false_eq_true,if_false]
   exact h2.sub n8
 ·have c1:=wW h1 hW htr v.id
  repeat' (first
 |simp only[go_sem,hD,hY,hZ,gA,hx,b]
 |(with_reducible first|refine bk fun hc=>?_|refine bl fun hc=>?_|refine bm (fun hc=>?_) fun hc=>?_)<;>(try simp only[hc,bs,↓reduceIte]at h)<;>try simp only[hc]
 |(with_reducible refine aE hQ ?_;(try cases h);simp only[aT,aV,bE,bF,go_sem,hD,hY,hZ,gA,hx,b];try exact cf)
 |(cases h;done))
  refine CR c1 fun d s2 h2=>?_
  obtain⟨rfl,y2,rfl,h2⟩:=h2
  repeat' (first
 |simp only[go_sem,hD,hY,hZ,gA]
 |(with_reducible first|refine bk fun hc=>?_|refine bl fun hc=>?_|refine bm (fun hc=>?_) fun hc=>?_)<;>(try simp only[hc,bs,↓reduceIte]at h)<;>try simp only[hc]
 |(with_reducible refine aE hQ ?_;exact fD)
 |(cases h;done))
  (refine gW hQ ?_;simp only[aT,aV,bE,bF,go_sem])
  refine⟨by simp only[Mc.fv,b,Bool.false_eq_true,if_false],y2,rfl, ?_⟩
  simp only[Mc.fv,b,Bool.false_eq_true,if_false]
  exact h2.sub n8
end
end Go.Abs
namespace Go.Abs
set_option maxRecDepth 8000
open Go.Proofs
section
variable {p:Pg} {T W:List Int} {y:Lay} {m:Mc} {loc:List (Nat×List D)} {s:St}
theorem gM.setAt : ∀ {l:List (List D)} {i:Nat} {r r':List D},l[i]? = some r→jK r r'→gM l (l.set i r')
 |a::l,0,r,r',h,w=>by simp at h;subst h;exact .cons w (gM.refl l)
 |a::l,i+1,r,r',h,w=> .cons (jK.refl a) (gM.setAt (l:=l) (by simpa using h) w)
def Lay.push (y:Lay) (n K:Nat) (sd:D):Lay:= {y with κ:=y.κ++(List.range K).map (n+2 + ·),φ:=(n+1)::y.φ,sd:=sd}
theorem X0 {κ:List Nat} {n K j:Nat} (hj:j<K):(κ++(List.range K).map (n+2 + ·)).getD (κ.length+j) 0=n+2+j:=by
 rw[List.getD_eq_getElem?_getD,List.getElem?_append_right (by omega),show κ.length+j - κ.length=j by omega]
 simp[hj]
theorem E3 {κ e:List Nat} {c:Nat} (hc:c<κ.length):(κ++e).getD c 0=κ.getD c 0:=by
 rw[List.getD_eq_getElem?_getD,List.getD_eq_getElem?_getD,List.getElem?_append_left hc]
theorem RF {κ:List Nat} {n:Nat} (h:n≤κ.length):(List.range n).map (fun c=>κ.getD c 0)=κ.take n:=by
 apply List.ext_getElem?
 intro i
 simp only[List.getElem?_map]
 by_cases hi:i<n
 ·rw [List.getElem?_range hi,List.getElem?_take_of_lt hi,List.getElem?_eq_getElem (show i<κ.length by omega)]
  simp[List.getD_eq_getElem?_getD,List.getElem?_eq_getElem (show i<κ.length by omega)]
 ·rw[List.getElem?_eq_none (by simp;omega),List.getElem?_eq_none (by simp;omega)];rfl
theorem Inv.push (h:Inv p T W y m loc s) {K:Nat} {sd:D} {fr:Fr} {s':St} (hg:p.globals.length≤m.mem.length) (hfv : ∀ c∈fr.vars,c<m.mem.length+K)
 (k : ∀ (o:Nat) (r:List D),s.ah[o]? = some r→o≠0→o∉y.sd.arr→s'.ah[o]? = some r)
 (k0:s'.ah[0]? = some (fH p T W (y.push s.ah.length K sd) m)) (kc : ∀ j,j<K→s'.ah[s.ah.length+2+j]? = some [.int .i64 0])
 (kf:s'.ah[s.ah.length+1]? = some (qd (y.push s.ah.length K sd).κ fr)) (ks:j7 s' sd ((y.push s.ah.length K sd).φ.reverse.map yI)) (sT:sd.arr=y.sd.arr∨sd.arr = [s.ah.length+2+K])
 (t0:s'.ay[0]? = s.ay[0]?) (t1:s'.ay[1]? = s.ay[1]?) :
 Inv p T W (y.push s.ah.length K sd) {m with st:=fr::m.st,mem:=m.mem++List.replicate K 0} loc s':=by
 have Bq:=h.own
 rw[Lay.own,List.nodup_cons,List.nodup_append,List.nodup_append]at Bq
 obtain⟨n0,nκ,⟨ns,nv,nsv⟩,L7⟩:=Bq
 have lt:=h.uE
 have ltκ : ∀ c∈y.κ,c<s.ah.length:=fun c mc=>lt c (by simp[Lay.own,mc])
 have lts : ∀ c∈y.sd.arr,c<s.ah.length:=fun c mc=>lt c (by simp[Lay.own,mc])
 have ltv : ∀ c∈y.vd.arr,c<s.ah.length:=fun c mc=>lt c (by simp[Lay.own,mc])
 have vC:=h.vC
 have L8 : ∀ o,o∈(y.push s.ah.length K sd).own→o∈y.own∨(s.ah.length+2≤o∧o≤s.ah.length+2+K):=fun o mo=>by
  simp only[Lay.own,Lay.push,List.mem_cons,List.mem_append,List.mem_map,List.mem_range]at mo ⊢
  rcases mo with rfl|(mo|⟨j,hj,rfl⟩)|mo|mo
  ·exact .inl (.inl rfl)
  ·exact .inl (.inr (.inl mo))
  ·exact .inr ⟨by omega,by omega⟩
  ·rcases sT with e | e
   ·rw[e]at mo;exact .inl (.inr (.inr (.inl mo)))
   ·rw[e]at mo;have:=List.mem_singleton.1 mo;exact .inr ⟨by omega,by omega⟩
  ·exact .inl (.inr (.inr (.inr mo)))
 have g : ∀ {o:Nat} {r:List D},s.ah[o]? = some r→o∉y.own→s'.ah[o]? = some r∧o∉(y.push s.ah.length K sd).own:=fun {o r} e hn=>by
  refine⟨k o r e (fun e0=>hn (by rw[e0];simp[Lay.own])) (fun ms=>hn (by simp[Lay.own,ms])),fun mo=>?_⟩
  rcases L8 o mo with mo|mo
  ·exact hn mo
  ·have:=gj e;omega
 have hlen:=h.len
 refine⟨k0,by rw[t0];exact h.t0,by rw[t1];exact h.t1,by simp[Lay.push,hlen],fun i c v e1 e2=>?_,by simp[Lay.push,h.tw],fun i o Ou e1 e2=>?_,ks, ?_, ?_,fun q mq=>g (h.loc q mq).1 (h.loc q mq).2⟩
 ·simp only [Lay.push]at e1
  dsimp only at e2
  rcases Nat.lt_or_ge i y.κ.length with hi|hi
  ·rw [List.getElem?_append_left hi]at e1
   rw[List.getElem?_append_left (by omega)]at e2
   have hc:=List.mem_of_getElem? e1
   exact k c _ (h.cell i c v e1 e2) (h.wU (by simp[hc])) (fun ms=>L7 c hc c (List.mem_append_left _ ms) rfl)
  ·rw [List.getElem?_append_right hi]at e1
   rw[List.getElem?_append_right (by omega)]at e2
   have hD:=(List.getElem?_eq_some_iff.1 e1).1
   simp only[List.length_map,List.length_range]at hD
   rw[List.getElem?_map,List.getElem?_range hD]at e1
   rw[List.getElem?_replicate_of_lt (by omega)]at e2
   simp only[Option.map_some,Option.some.injEq]at e1 e2
   subst e1 e2
   exact kc _ hD
 ·cases i with
  |zero=>
   simp only[Lay.push,List.getElem?_cons_zero,Option.some.injEq]at e1 e2
   subst e1 e2
   refine⟨kf,fun mo=>?_,fun c mc=>by simp only[List.length_append,List.length_replicate];exact hfv c mc⟩
   rcases L8 _ mo with mo|mo
   ·have:=lt _ mo;omega
   ·omega
  |succ i=>
   simp only[Lay.push,List.getElem?_cons_succ]at e1 e2
   obtain⟨f1,f2,f3⟩:=h.frame i o Ou e1 e2
   obtain⟨f4,f5⟩:=g f1 f2
   exact⟨by simp only[Lay.push];rw[I8 (by rw[hlen];exact f3)];exact f4,f5,fun c mc=>by have:=f3 c mc;simp only[List.length_append];omega⟩
 ·obtain⟨l,hl⟩:=h.bI
  refine⟨l,hl.keep fun o mo=>?_⟩
  rw[List.getElem?_eq_getElem (ltv o mo)]
  exact k o _ (List.getElem?_eq_getElem _) (h.wU (by simp[mo])) (fun ms=>nsv o ms o mo rfl)
 ·have UR:((List.range K).map (s.ah.length+2 + ·)).Nodup:=by
   rw[List.nodup_iff_pairwise_ne,List.pairwise_map]
   exact List.Pairwise.imp (fun h=>by omega) (List.nodup_iff_pairwise_ne.1 List.nodup_range)
  have GY : ∀ o∈(List.range K).map (s.ah.length+2 + ·),s.ah.length+2≤o∧o<s.ah.length+2+K:=fun o mo=>by
   obtain⟨j,hj,rfl⟩:=List.mem_map.1 mo
   have:=List.mem_range.1 hj;exact⟨by omega,by omega⟩
  have RG : ∀ o∈sd.arr,(o∈y.sd.arr)∨o=s.ah.length+2+K:=fun o mo=>by
   rcases sT with e|e
   ·rw[e]at mo;exact .inl mo
   ·rw[e]at mo;exact .inr (List.mem_singleton.1 mo)
  simp only[Lay.own,Lay.push]
  rw[List.nodup_cons,List.nodup_append,List.nodup_append,List.nodup_append]
  refine⟨fun mo=>?_,⟨nκ,UR,fun a ma b mb e=>?_⟩,⟨?_,nv,fun a ma b mb e=>?_⟩,fun a ma b mb e=>?_⟩
  ·simp only [List.mem_append]at mo
   rcases mo with (mo|mo)|mo|mo
   ·exact n0 (by simp[mo])
   ·have:=GY _ mo;omega
   ·rcases RG _ mo with mo | mo
    ·exact n0 (by simp[mo])
    ·omega
   ·exact n0 (by simp[mo])
  ·have:=ltκ a ma;have:=GY b mb;omega
  ·rcases sT with e | e <;> rw [e]
   ·exact ns
   ·simp
  ·rcases RG a ma with ma | ma
   ·exact nsv a ma b mb e
   ·have:=ltv b mb;omega
  ·rcases List.mem_append.1 ma with ma | ma
   ·rcases List.mem_append.1 mb with mb | mb
    ·rcases RG b mb with mb | mb
     ·exact L7 a ma b (List.mem_append_left _ mb) e
     ·have:=ltκ a ma;omega
    ·exact L7 a ma b (List.mem_append_right _ mb) e
   ·have:=GY a ma
    rcases List.mem_append.1 mb with mb|mb
    ·rcases RG b mb with mb | mb
     ·have:=lts b mb;omega
     ·omega
    ·have:=ltv b mb;omega
theorem acf {gl ps:List (List D)} {bytes:Nat} (hb:(gl.length+ps.length)*(bytes+1)≤bx) (ts:List (Option Nat)) : ∃ (g1 g2:Tag) (z1 z2:Nat) (t1 t2:List (Option Nat)),(∀ os,iP 1 bytes (.slice .full 0 []) (.slice .shared 1 gl) ⟨os,ts⟩=some (.slice g1 z1 gl,⟨os,t1⟩))∧
 (∀ os,iP 1 bytes (.slice g1 z1 gl) (.slice .shared 1 ps) ⟨os,t1⟩=some (.slice g2 z2 (gl++ps),⟨os,t2⟩))∧
 ((g2 = .full∧t2=ts∧gl++ps = [])∨(g2 = .tok ts.length∧z2=1∧t2=ts++ [some (gl++ps).length])):=by
 have h1:gl.length*(bytes+1)≤bx:=Nat.le_trans (Nat.mul_le_mul_right _ (Nat.le_add_right _ _)) hb
 have h2:ps.length*(bytes+1)≤bx:=Nat.le_trans (Nat.mul_le_mul_right _ (Nat.le_add_left _ _)) hb
 cases gl with
 |nil=>
  cases ps with
  |nil=>exact⟨.full, .full,0,0,ts,ts,fun os=>A2 os ts,fun os=>A2 os ts, .inl ⟨rfl,rfl,rfl⟩⟩
  |cons a ps=>exact⟨.full, .tok ts.length,0,1,ts,_,fun os=>A2 os ts,fun os=>A1 (by simp) h2 os ts, .inr ⟨rfl,rfl,rfl⟩⟩
 |cons a gl=>
  refine⟨.tok ts.length, .tok ts.length,1,1,ts++ [some (a::gl).length],ts++ [some (a::gl++ps).length],fun os=>A1 (by simp) h1 os ts,fun os=>?_, .inr ⟨rfl,rfl,rfl⟩⟩
  rw[ox (size:=1) hb (by simp)]
  simp;omega
theorem Ov (h:Inv p T W y m loc s) (hp:p.iX) (hb:p.may=true) {i:Nat} {f:Pc} (hf:p.procs[i]? = some f) (ajS:p.find f.name=some f) (jy:m.st.length<1000000) {l:List Nat} (hl : ∀ c∈l,c<m.mem.length) (xO:l.length<1000000)
 (hg:p.globals.length≤m.mem.length) (call:Int) :
 ∃ y' s',aF Tryz.prog jD [.ptr 0 0, .int .i64 (i:Int), .slice .shared 1 (l.map fun c=>fB (y.κ.getD c 0)), .int .i64 call] s (.int .i64 (m.open p (i:Int) l call).1) s'∧Inv p T W y' (m.open p (i:Int) l call).2 loc s':=by
 have hm:=h.j8
 rw[fH]at hm
 have rE:=h.vC
 obtain⟨sR,sE,sD⟩:=hp.procs
 have wO:=hp.small (List.mem_of_getElem? hf)
 have cV:=fun s=>af8 hp hb ajS s
 have cF:=fun s=>acd hb hf s
 have hi:i<p.procs.length:=(List.getElem?_eq_some_iff.1 hf).1
 obtain⟨g1,g2,z1,z2,t1,t2,a1,a2,a3⟩:=acf (gl:=(y.κ.take p.globals.length).map fB) (ps:=l.map fun c=>fB (y.κ.getD c 0)) (bytes:=8) (by simp only[List.length_map,List.length_take];unfold bx;omega) s.ay
 have hA : ∀ e:List (List D),(s.ah++e)[0]? = s.ah[0]? :=fun e=>List.getElem?_append_left rE
 have n0 : ∀ e1 e2:List (List D),(s.ah++e1++e2)[0]? = s.ah[0]? :=fun e1 e2=>by rw[List.append_assoc];exact hA _
 have n1 : ∀ a b:List D,(s.ah++ [a]++ [b])[s.ah.length+1]? = some b:=fun a b=>by simp
 have n2 : ∀ a b:List D,(s.ah++ [a]++ [b])[s.ah.length]? = some a:=fun a b=>by simp
 have n3 : ∀ a b c:List D,(s.ah++ [a]++ [b]).set (s.ah.length+1) c=s.ah++ [a]++ [c]:=fun a b c=>by simp[List.append_assoc,List.set_append_right]
 have n4 : ∀ a:List D,(s.ah++ [a])[s.ah.length]? = some a:=fun a=>by simp
 have n5 : ∀ a b:List D,(s.ah++ [a]).set s.ah.length b=s.ah++ [b]:=fun a b=>by simp
 have hpc:cy f = [.str f.name, .slice .shared 2 (f.params.map il), .slice .shared 1 (f.vars.map encStr), .slice .shared 13 (f.body.map bj), .slice .shared 1 (f.fin.map encStr)]:=rfl
 generalize hn:s.ah.length=n at *
 have Nt:(m.open p (i:Int) l call).1=fp f.body (-1)∧(m.open p (i:Int) l call).2 = {m with st:=⟨(i:Int),p.globals++f.own,List.range p.globals.length++l++(List.range f.vars.length).map (m.mem.length + ·),call⟩::m.st,mem:=m.mem++List.replicate f.vars.length 0}:=by
  unfold Mc.open
  rw[Int.toNat_natCast,hf]
  exact⟨rfl,rfl⟩
 rw[Nt.1,Nt.2]
 generalize kN:(y.κ.take p.globals.length).map fB++l.map (fun c=>fB (y.κ.getD c 0))=kP at *
 have hgr:kP.length<2000000:=by rw[← kN];simp only[List.length_append,List.length_map,List.length_take];omega
 have hvl:=wO.vars
 -- the states of the rounds
 let fr:Nat→List D:=fun k=> [.int .i64 (i:Int), .slice .shared 1 ((p.globals++f.own).map encStr), .slice (.tok s.ay.length) 1 (kP++(List.range k).map (fun j=>fB (n+2+j))), .int .i64 call]
 obtain⟨O,hO⟩ : ∃ O:Nat→List (List D),∀ k,O k=s.ah++ [cy f]++ [fr k]++List.replicate k [.int .i64 0]:=⟨_,fun _=>rfl⟩
 have oL : ∀ k,(O k).length=n+2+k:=fun k=>by rw[hO];simp[hn];omega
 have X2 : ∀ k o,o<n→(O k)[o]? = s.ah[o]? :=fun k o ho=>by rw[hO,List.append_assoc,List.append_assoc,List.getElem?_append_left (by omega)]
 have oF : ∀ k,(O k)[n+1]? = some (fr k):=fun k=>by rw[hO,List.getElem?_append_left (by simp[hn])];simp[hn]
 have oC : ∀ k j,j<k→(O k)[n+2+j]? = some [.int .i64 0]:=fun k j hj=>by
  rw[hO,List.getElem?_append_right (by simp only[List.length_append,List.length_singleton,hn];omega)]
  simp only[List.length_append,List.length_singleton,hn]
  rw[show n+2+j - (n+1+1)=j by omega,List.getElem?_replicate_of_lt hj]
 have oF' : ∀ k e,(O k++e)[n+1]? = some (fr k):=fun k e=>by rw[List.getElem?_append_left (by rw[oL];omega)];exact oF k
 have o0 : ∀ k,(O k)[0]? = s.ah[0]? :=fun k=>X2 k 0 rE
 have o0' : ∀ k e,(O k++e)[0]? = s.ah[0]? :=fun k e=>by rw[List.getElem?_append_left (by rw[oL];omega)];exact o0 k
 have oS : ∀ k,(O k++ [[D.int .i64 0]]).set (n+1) (fr (k+1))=O (k+1):=fun k=>by
  rw[hO,hO,List.replicate_succ']
  simp only[List.append_assoc]
  rw[List.set_append_right _ _ (by omega),hn,show n+1 - n=1 by omega]
  rfl
 have A4:(List.range p.globals.length++l++(List.range f.vars.length).map (m.mem.length + ·)).map (fun c=>fB ((y.push n f.vars.length .ew).κ.getD c 0))=kP++(List.range f.vars.length).map (fun j=>fB (n+2+j)):=by
  simp only[List.map_append,List.map_map,Lay.push, ← kN]
  congr 1
  ·congr 1
   ·rw [← RF (by rw [h.len];exact hg),List.map_map]
    exact List.map_congr_left fun c mc=>by simp only[Function.comp];rw[E3 (by rw[h.len];have:=List.mem_range.1 mc;omega)]
   ·exact List.map_congr_left fun c mc=>by rw[E3 (by rw[h.len];exact hl c mc)]
  ·exact List.map_congr_left fun j mj=>by simp only[Function.comp];rw[← h.len,X0 (List.mem_range.1 mj)]
 have aqX:jK (fr f.vars.length) (qd (y.push n f.vars.length .ew).κ ⟨(i:Int),p.globals++f.own,List.range p.globals.length++l++(List.range f.vars.length).map (m.mem.length + ·),call⟩):=by
  unfold qd
  dsimp only
  rw[A4]
  exact .cons (Wk.refl _) (.cons (Wk.refl _) (.cons (Wk.shared _ _ _) (.cons (Wk.refl _) .nil)))
 -- the stack
 generalize hK:f.vars.length=K at *
 obtain⟨sd,O',e1,e3,e4,e5,e6⟩ : ∃ (sd:D) (O':List (List D)),(∀ tm:Tm,tm.get 70=y.sd→tm.get 72 = .slice .full 1 [[.ptr (n+1) 0]]→aM (.app 1 8 (.s 70) (.s 72)) tm ⟨O K,s.ay++ [some (kP.length+K)]⟩=some (sd,⟨O',s.ay++ [some (kP.length+K)]⟩))∧
  (∀ (o:Nat) (r:List D),(O K)[o]? = some r→o∉y.sd.arr→O'[o]? = some r)∧j7 ⟨O',s.ay⟩ sd (((n+1)::y.φ).reverse.map yI)∧(sd.arr=y.sd.arr∨sd.arr = [n+2+K])∧sd.row=some [sd]:=by
  rcases h.stack with ⟨e,e2⟩|⟨so,g,more,e,e2⟩
  ·have hφ:y.φ = []:=by simpa using e2
   refine⟨.eQ 1 (n+2+K) 0 1,O K++ [[.int .i64 ((0:Nat):Int), .ptr (n+1) 0]],fun tm h1 h2=>?_,fun o r e _=>by rw[List.getElem?_append_left (gj (s:=⟨O K,[]⟩) e)];exact e, .inr ⟨n+2+K,0,[],by simp[hφ], ?_⟩, .inr rfl,rfl⟩
   ·simp only [aM,X.ev,h1,h2,e]
    rw[KY _ _ _ (by unfold bx;omega)]
    simp only[oL]
   ·rw [hφ]
    show(O K++ [_])[n+2+K]? = _
    rw[← oL K]
    simp[yI]
  ·have aqY:so<n:=by have:=gj e2;omega
   have hlen:(y.φ.reverse.map yI).length=m.st.length:=by simp[h.tw]
   have e2':(O K)[so]? = some (.int .i64 ((g:Nat):Int)::(y.φ.reverse.map yI++more)):=by rw[X2 K so aqY];exact e2
   rw[hlen]at e
   refine⟨.eQ 1 so (g+1) (m.st.length+1),(O K).set so (.int .i64 ((g+1:Nat):Int)::(y.φ.reverse.map yI++ [.ptr (n+1) 0])),fun tm h1 h2=>?_,fun o r e hn=>?_, .inr ⟨so,g+1,[],by simp[h.tw], ?_⟩, .inl (by rw[e];rfl),rfl⟩
   ·simp only [aM,X.ev,h1,h2,e]
    rw[L9 (s:=⟨O K,_⟩) e2' (by rw[hlen,Nat.mul_one]) (by unfold bx;omega)]
   ·rw[List.getElem?_set_ne (fun e'=>hn (by rw[‹y.sd=_›, ← e'];simp[D.arr]))];exact e
   ·simp[oL,show so<n+2+K by omega,yI]
 have o'0:O'[0]? = s.ah[0]? :=by
  rw[hm]
  exact e3 0 _ (by rw[o0];exact hm) (fun mo=>(h.wU (by simp[mo])) rfl)
 have o'l:0<O'.length:=gj (s:=⟨O',[]⟩) (o'0.trans hm)
 have o'f:O'[n+1]? = some (fr K):=e3 _ _ (oF K) (fun mo=>by have:=h.uE (n+1) (by simp[Lay.own,mo]);omega)
 let row:=fH p T W (y.push n K sd) {m with st:=⟨(i:Int),p.globals++f.own,List.range p.globals.length++l++(List.range K).map (m.mem.length + ·),call⟩::m.st,mem:=m.mem++List.replicate K 0}
 refine⟨y.push n K sd,⟨(O'.set 0 row).set (n+1) (qd (y.push n K sd).κ ⟨(i:Int),p.globals++f.own,List.range p.globals.length++l++(List.range K).map (m.mem.length + ·),call⟩),s.ay++ [some (kP.length+K)]⟩, ?_, ?_⟩
 case refine_2=>
  subst hn
  have gO : ∀ (o:Nat) (r:List D),O'[o]? = some r→o≠0→o≠s.ah.length+1→((O'.set 0 row).set (s.ah.length+1) (qd (y.push s.ah.length K sd).κ ⟨(i:Int),p.globals++f.own,List.range p.globals.length++l++(List.range K).map (m.mem.length + ·),call⟩))[o]? = some r:=fun o r e h1 h2=>by
   rw[List.getElem?_set_ne (Ne.symm h2),List.getElem?_set_ne (Ne.symm h1)];exact e
  refine h.push (K:=K) (sd:=sd) hg (fun c mc=>?_) (fun o r e h1 h2=>?_) ?_ (fun j hj=>?_) ?_ (e4.keep fun o mo=>?_) e5 ?_ ?_
  ·simp only [List.mem_append,List.mem_range,List.mem_map]at mc
   rcases mc with (mc|mc)|⟨x,mc,rfl⟩
   ·omega
   ·have:=hl c mc;omega
   ·omega
  ·have:=gj e
   exact gO o r (e3 o r (by rw[X2 K o this];exact e) h2) h1 (by omega)
  ·rw [List.getElem?_set_ne (by omega)]
   simp[o'l,row]
  ·refine gO _ _ (e3 _ _ (oC K j hj) fun mo=> ?_) (by omega) (by omega)
   have:=h.uE _ (show s.ah.length+2+j∈y.own by simp[Lay.own,mo]);omega
  ·have:=gj (s:=⟨O',[]⟩) o'f
   rw[List.getElem?_set_self (by rw[List.length_set];exact this)]
  ·have:o≠0∧o≠s.ah.length+1:=by
    rcases e5 with e|e
    ·rw [e]at mo
     have h1:=h.uE o (by simp[Lay.own,mo])
     exact⟨h.wU (by simp[mo]),by omega⟩
    ·rw [e]at mo
     have:=List.mem_singleton.1 mo
     exact⟨by omega,by omega⟩
   show(List.set _ _ _)[o]? = _
   rw[List.getElem?_set_ne (Ne.symm this.2),List.getElem?_set_ne (Ne.symm this.1)]
  ·exact List.getElem?_append_left (List.getElem?_eq_some_iff.1 h.t0).1
  ·exact List.getElem?_append_left (List.getElem?_eq_some_iff.1 h.t1).1
 refine bP.up ?_
 refine bP.vx Aq rfl fun B Q hB hQ=>?_
 have⟨hD,hY,hZ,gA⟩:=bN
 have loop : ∀ d k:Nat,k+d=K→br Tryz.prog B 82 QCN (lf 0 (oq (kL Tryz.prog B 82 QCU Q) Q))
  [(0, .ptr 0 0),(1, .int .i64 (i:Int)),(10, .ptr (n+1) 0),(52, .int .i64 (K:Int)),(53, .int .i64 (k:Int))] ⟨O k,s.ay++ [some (kP.length+k)]⟩:=by
  intro d
  induction d with
  |zero=>
   intro k hk
   have vl:k=K:=by omega
   subst vl
   have hD:decide ((k:Int)<(k:Int))=false:=by simp
   have jX:=o'0.trans hm
   have I9:=o'f
   have wb : ∀ r,(O'.set 0 r)[0]? = some r:=fun r=>List.getElem?_set_self o'l
   refine br.lE ?_
   repeat' (first
 |simp only[go_sem,hD,hY,hZ,gA,hm,o0,e1,e6,jX,o'l,wb]
 |(with_reducible refine CU (cF _) ?_)
 |(with_reducible first|refine bk fun hc=>?_|refine bl fun hc=>?_|refine bm (fun hc=>?_) fun hc=>?_)<;>(try simp only[hc,bs,↓reduceIte]at h)<;>try simp only[hc]
 |(with_reducible refine aE hQ ?_;(try cases h);simp only[aT,aV,bE,bF,go_sem,hD,hY,hZ,gA,hm,o0,e1,e6,jX,o'l,wb];try exact cf)
 | (cases h;done))
   (refine gW hQ ?_;simp only[aT,aV,bE,bF,go_sem])
   have eH:row = [.dI (fL p) 0, .slice .shared 1 ((y.κ.take p.globals.length).map fB), .slice .shared 1 (T.map cz), .slice .shared 1 (W.map cz),sd,y.vd,
    .int .i64 m.fin, .int .i64 m.steps, .int .i64 m.reads, .slice (.tok 0) 1 (m.out.map cz), .slice (.tok 1) 2 (m.trace.map gJ)]:=by
    simp only[row,fH,Lay.push]
    rw[List.take_append_of_le_length (by rw[h.len];exact hg)]
   refine⟨_,⟨(O'.set 0 row).set (n+1) _,_⟩,Wk.refl _, ?_,rfl,rfl,rfl⟩
   rw[eH]
   exact gM.setAt (by rw[List.getElem?_set_ne (by omega)];exact I9) aqX
  | succ d ih=>
   intro k hk
   have hD:decide ((k:Int)<(K:Int))=true:=by simp;omega
   have bW:k<4611686018427387904:=by omega
   have hfk:=oF k
   have X3:=oF' k [[.int .i64 0]]
   have fb:iP 1 8 (.slice (.tok s.ay.length) 1 (kP++(List.range k).map (fun j=>fB (n+2+j)))) (.slice .full 1 [[.ptr (n+2+k) 0]]) ⟨O k++ [[.int .i64 0]],s.ay++ [some (kP.length+k)]⟩ =
    some (.slice (.tok s.ay.length) 1 (kP++(List.range (k+1)).map (fun j=>fB (n+2+j))),⟨O k++ [[.int .i64 0]],s.ay++ [some (kP.length+(k+1))]⟩):=by
    rw[ox (size:=1) (by simp only[List.length_append,List.length_map,List.length_range,List.length_singleton];unfold bx;omega) (by simp)]
    simp[List.range_succ,fB,Nat.add_assoc]
   have oSk:=oS k
   simp only[fr,List.map_append,List.range_succ,List.map_cons,List.map_nil]at hfk X3 oSk
   refine br.lE ?_
   repeat' (first
 |simp only[go_sem,hD,hY,hZ,gA,hfk,X3,oL,fb,oSk]
 |(with_reducible first|refine bk fun hc=>?_|refine bl fun hc=>?_|refine bm (fun hc=>?_) fun hc=>?_)<;>(try simp only[hc,bs,↓reduceIte]at h)<;>try simp only[hc]
 |(with_reducible refine aE hQ ?_;(try cases h);simp only[aT,aV,bE,bF,go_sem,hD,hY,hZ,gA,hfk,X3,oL,fb,oSk];try exact cf)
 | (cases h;done))
   refine br.qy ?_ (ih (k+1) (by omega))
   simp only[go_sem,aJ bW]
   repeat' (first|exact Ok.out|with_reducible refine jn ?_ ?_)
 have l0:=loop K 0 (by omega)
 have hO0:O 0=s.ah++ [cy f]++ [fr 0]:=by rw[hO];simp
 rw[hO0]at l0
 repeat' (first
 |simp only[go_sem,hD,hY,hZ,gA,hm,hA,n0,n1,n2,n3,n4,n5,hf,a1,a2,oA, ← FT,hn]
 |(with_reducible refine CU (cV _) ?_)
 |(with_reducible first|refine bk fun hc=>?_|refine bl fun hc=>?_|refine bm (fun hc=>?_) fun hc=>?_)<;>(try simp only[hc,bs,↓reduceIte]at h)<;>try simp only[hc]
 |(with_reducible refine aE hQ ?_;(try cases h);simp only[aT,aV,bE,bF,go_sem,hD,hY,hZ,gA,hm,hA,n0,n1,n2,n3,n4,n5,hf,a1,a2,oA, ← FT,hn];try exact cf)
 |(cases h;done))
 simp only[fr,List.range_zero,List.map_nil,List.append_nil,List.map_append]at l0
 rcases a3 with ⟨rfl,rfl,rfl⟩|⟨rfl,rfl,rfl⟩
 ·refine br.wm (n+1) 2 1 (n1 _ _) rfl ?_
  simp only[n3,List.set_cons_succ,List.set_cons_zero]
  refine br.qy ?_ l0
  simp only[go_sem,hK]
  repeat' (first|exact Ok.out|with_reducible refine jn ?_ ?_)
 ·refine br.qy ?_ l0
  simp only[go_sem,hK]
  repeat' (first|exact Ok.out|with_reducible refine jn ?_ ?_)
end
end Go.Abs
namespace Go.Abs
set_option maxRecDepth 8000
open Go.Proofs
section
variable {p:Pg} {T W:List Int} {y:Lay} {m:Mc} {loc:List (Nat×List D)} {s:St}
def wY (fr:Fr) (name:az) (c:Nat):Prop:=∃ j:Nat,iF name 0 fr.names=(j:Int)∧fr.vars[j]? = some c
theorem wY.cell {fr:Fr} {name:az} {c:Nat} (h:wY fr name c) (ht:m.top=fr):m.cell name=c:=by
 obtain⟨j,h1,h2⟩:=h
 unfold Mc.cell
 rw[ht,h1,Int.toNat_natCast,List.getD_eq_getElem?_getD,h2];rfl
theorem Inv.pop (h:Inv p T W y m loc s) {fr:Fr} {r:List Fr} (jy:m.st=fr::r) {so g:Nat} (sT:y.sd = .eQ 1 so g (r.length+1)) :
 Inv p T W {y with φ:=y.φ.tail,sd:= .eQ 1 so g r.length} {m with st:=r} loc ⟨s.ah.set 0 (fH p T W {y with φ:=y.φ.tail,sd:= .eQ 1 so g r.length} {m with st:=r}),s.ay⟩:=by
 have iB:(D.eQ 1 so g r.length).arr=y.sd.arr:=by rw[sT];rfl
 have RH:Lay.own {y with φ:=y.φ.tail,sd:= .eQ 1 so g r.length} = y.own:=by simp only[Lay.own,iB]
 have iJ:=h.tw
 rw[jy]at iJ
 have ne : ∀ {q:Nat} {r':List D},s.ah[q]? = some r'→q≠0→(s.ah.set 0 (fH p T W {y with φ:=y.φ.tail,sd:= .eQ 1 so g r.length} {m with st:=r}))[q]? = some r':=fun e hn=>by
  rw[List.getElem?_set_ne (Ne.symm hn)];exact e
 have nf : ∀ {q:Nat},q∉y.own→q≠0:=fun hq e=>hq (by rw[e];simp[Lay.own])
 obtain⟨l,hl⟩:=h.bI
 refine⟨by simp[h.vC],h.t0,h.t1,h.len,fun i c v e1 e2=>ne (h.cell i c v e1 e2) (h.wU (by simp[List.mem_of_getElem? e1])),by simp[iJ],fun i o Ou e1 e2=>?_, ?_,⟨l,hl.keep fun o mo=>?_⟩,by rw[RH];exact h.own,fun q mq=>?_⟩
 ·obtain⟨f1,f2,f3⟩:=h.frame (i+1) o Ou (by simpa [List.getElem?_tail]using e1) (by rw [jy];simpa using e2)
  exact⟨ne f1 (nf f2),by rw[RH];exact f2,f3⟩
 ·cases hφ:y.φ with
  |nil=>rw[hφ]at iJ;simp at iJ
  | cons o φ=>
   rw[hφ]at iJ
   rcases h.stack with ⟨e,_⟩|⟨so',g',more,e,e2⟩
   ·rw[e]at sT;cases sT
   ·have e':=e
    rw[sT,D.eQ.injEq]at e'
    obtain⟨_,rfl,rfl,_⟩:=e'
    refine .inr ⟨so,g,[.ptr o 0]++more,by simp at iJ ⊢;omega,ne ?_ (h.wU (by rw[sT];simp[D.arr]))⟩
    rw[e2,hφ]
    simp[yI]
 ·show(s.ah.set 0 _)[o]? = _
  rw[List.getElem?_set_ne (Ne.symm (h.wU (by simp[mo])))]
 ·obtain⟨f1,f2⟩:=h.loc q mq
  exact⟨ne f1 (nf f2),by rw[RH];exact f2⟩
theorem Ma {L:List Im} {c:Nat} {it:Im} (h:L[c]? = some it) {a:Int} (ha:a=(c:Int)+1):fa L a=it:=by
 unfold fa
 rw[ha,show((c:Int)+1 - 1).toNat=c by omega,List.getD_eq_getElem?_getD,h];rfl
theorem acg (h:Inv p T W y m loc s) {fr:Fr} {r:List Fr} (ht:nC m fr r) (hL:p.bg.L.length<1000000)
 (hc:fr.call=0∨∃ (c:Nat) (it:Im) (vB:Fr) (r2:List Fr),fr.call=(c:Int)+1∧p.bg.L[c]? = some it∧nC {m with st:=r} vB r2∧(it.s.name≠ []→∃ k,wY vB it.s.name k)) (yG:Int) :
 bP Tryz.prog po [.ptr 0 0, .int .i64 yG] s (Rl p T W (.int .i64 (m.close p.bg.L yG).1) (m.close p.bg.L yG).2 (fun y'=>∃ sd,y' = {y with φ:=y.φ.tail,sd:=sd}) loc):=by
 obtain⟨so,g,cells,o,h1,h2,h3,h4,h5⟩:=h.XY ht.st
 obtain⟨o',_,Gt,c1⟩:=RE h ht.st ht.len
 have ho:o'=o:=by rw[h5]at *;cases ‹some o=some o'›;rfl
 subst ho
 have hm:=h.j8
 rw[fH,h1]at hm
 have hl:=h.vC
 have hp:=h.pop ht.st h1
 have hpf:=hp.j8
 have hlen:=ht.len
 have hw:IntKind.wrap .i64 (((r.length+1:Nat):Int) - 1)=((r.length:Nat):Int):=by rw[show((r.length+1:Nat):Int) - 1=(r.length:Int) by omega];exact ek (by omega) (by omega)
 have vi:x7 (.eQ 1 so g (r.length+1)) none (some (.int .i64 (r.length:Int)))=some (.eQ 1 so g r.length):=by simp[x7,tW,tX];omega
 have wb : ∀ r,(s.ah.set 0 r)[0]? = some r:=fun r=>List.getElem?_set_self hl
 rw[qd]at Gt
 have pA:m.close p.bg.L yG=if fr.call==0 then(-1,{{m with st:=r}with fin:=1})else((fa p.bg.L fr.call).next,if(fa p.bg.L fr.call).s.name == []then {m with st:=r}else({m with st:=r} : Mc).set (fa p.bg.L fr.call).s.name yG):=by
  unfold Mc.close
  rw[ht.top,ht.st];rfl
 rw[pA]
 rcases hc with hc|⟨c,it,vB,r2,hc,qA,ux,hn⟩
 ·rw [hc]at Gt
  have e0:((0:Int)==0)=true:=rfl
  have h5:=hp.uO (m':= {{m with st:=r}with fin:=1}) rfl rfl hp.t0 hp.t1
  rw[fH]at h5
  simp only[List.set_set]at h5
  rw[hc,if_pos e0]
  refine bP.vx rI rfl fun B Q hB hQ=>?_
  have⟨hD,hY,hZ,gA⟩:=bN
  repeat' (first
 |simp only[go_sem,hD,hY,hZ,gA,hm,hl,hw,vi,wb,Gt,e0,List.set_set]
 |(with_reducible refine CU (c1) ?_)
 |(with_reducible first|refine bk fun hc=>?_|refine bl fun hc=>?_|refine bm (fun hc=>?_) fun hc=>?_)<;>(try simp only[hc,bs,↓reduceIte]at h)<;>try simp only[hc]
 |(with_reducible refine aE hQ ?_;(try cases h);simp only[aT,aV,bE,bF,go_sem,hD,hY,hZ,gA,hm,hl,hw,vi,wb,Gt,e0,List.set_set];try exact cf)
 |(cases h;done))
  (refine gW hQ ?_;simp only[aT,aV,bE,bF,go_sem])
  exact⟨rfl,_,⟨_,rfl⟩,h5⟩
 ·rw [hc]at Gt
  have C4:IntKind.wrap .i64 ((c:Int)+1 - 1)=(c:Int):=by
   have:=(List.getElem?_eq_some_iff.1 qA).1
   rw[show(c:Int)+1 - 1=(c:Int) by omega];exact ek (by omega) (by omega)
  have e0:((c:Int)+1==0)=false:=by simp;omega
  have aqZ:=Ma qA hc
  have hz : ∀ (z:List D) (e:List D),(s.ah.set 0 e++ [z]).set s.ah.length (dF it)=s.ah.set 0 e++ [dF it]:=fun z e=>by simp
  have hg : ∀ z e:List D,(s.ah.set 0 e++ [z])[s.ah.length]? = some z:=fun z e=>by simp
  have cS:(fL p)[2]? = some (.slice .shared 17 (p.bg.L.map dF)):=rfl
  have xO : ∀ e:List D,(s.ah.set 0 e).length=s.ah.length:=fun e=>List.length_set
  have dw:=hp.new (dF it)
  rw[fH]at dw
  simp only[xO]at dw
  have F5:dF it = [.int .i64 it.s.id, .int .i64 it.s.kind, .slice .shared 1 (it.s.labels.map encStr), .str it.s.name, .str it.s.proc, .int .i64 it.s.x.op, .int .i64 it.s.x.n, .str it.s.x.name, .slice .shared 4 (it.s.x.kids.map bS), .bool it.s.has, .slice .shared 6 (it.s.args.map eC), .slice .shared 13 (it.s.bb.map bj), .slice .shared 13 (it.s.aP.map bj), .int .i64 it.proc, .int .i64 it.up, .int .i64 it.next, .int .i64 it.loop]:=rfl
  have c3:(dF it)[3]? = some (.str it.s.name):=rfl
  rw[hc,if_neg (by rw[e0];simp),show fa p.bg.L ((c:Int)+1)=it from hc ▸ aqZ]
  refine bP.vx rI rfl fun B Q hB hQ=>?_
  have⟨hD,hY,hZ,gA⟩:=bN
  rcases Bool.eq_false_or_eq_true (it.s.name == [])with b|b
  ·repeat' (first
 |simp only[go_sem,hD,hY,hZ,gA,hm,hl,hw,vi,wb,Gt,e0,C4,qA,hz,hg,xO,c3,b,cS]
 |(with_reducible refine CU (c1) ?_)
 |(with_reducible first|refine bk fun hc=>?_|refine bl fun hc=>?_|refine bm (fun hc=>?_) fun hc=>?_)<;>(try simp only[hc,bs,↓reduceIte]at h)<;>try simp only[hc]
 |(with_reducible refine aE hQ ?_;(try cases h);simp only[aT,aV,bE,bF,go_sem,hD,hY,hZ,gA,hm,hl,hw,vi,wb,Gt,e0,C4,qA,hz,hg,xO,c3,b,cS];try exact cf)
 | (cases h;done))
   (refine gW hQ ?_;simp only[aT,aV,bE,bF,go_sem])
   refine⟨rfl,{y with φ:=y.φ.tail,sd:= .eQ 1 so g r.length},⟨_,rfl⟩, ?_⟩
   simp only[b,if_true]
   exact dw.sub fun q mq=>List.mem_cons_of_mem _ mq
  ·obtain⟨k,hk⟩:=hn (by intro e;rw [e]at b;cases b)
   have Mb:=hk.cell ux.top
   obtain⟨j,hj,C5⟩:=hk
   have c2:=DE dw ux.st ux.len ux.names hj C5
   have hkm:k<m.mem.length:=by
    have hlp:=hp.tw
    rw[ux.st]at hlp
    cases hφ:y.φ.tail with
    |nil=>simp[hφ]at hlp
    |cons o2 φ2=>exact(hp.frame 0 o2 vB (by simp[hφ]) (by rw[ux.st];rfl)).2.2 k (List.mem_of_getElem? C5)
   have hκ:y.κ[k]? = some (y.κ.getD k 0):=by
    rw[List.getD_eq_getElem?_getD,List.getElem?_eq_getElem (by have:=h.len;omega)];rfl
   have iV:=dw.cell k _ _ hκ (List.getElem?_eq_getElem hkm)
   have wQ:=dw.XU hκ yG
   have jH:=(wQ.loc (s.ah.length,dF it) (List.mem_cons_self ..)).1
   simp only at iV wQ jH c2
   have hb:(it.s.name != [])=true:=by simp[bne,b]
   repeat' (first
 |simp only[go_sem,hD,hY,hZ,gA,hm,hl,hw,vi,wb,Gt,e0,C4,qA,hz,hg,xO,c3,b,cS,iV,jH]
 |(with_reducible refine CU (c1) ?_)
 |(with_reducible refine CU (c2) ?_)
 |(with_reducible first|refine bk fun hc=>?_|refine bl fun hc=>?_|refine bm (fun hc=>?_) fun hc=>?_)<;>(try simp only[hc,bs,↓reduceIte]at h)<;>try simp only[hc]
 |(with_reducible refine aE hQ ?_;(try cases h);simp only[aT,aV,bE,bF,go_sem,hD,hY,hZ,gA,hm,hl,hw,vi,wb,Gt,e0,C4,qA,hz,hg,xO,c3,b,cS,iV,jH];try exact cf)
 | (cases h;done))
   (refine gW hQ ?_;simp only[aT,aV,bE,bF,go_sem])
   refine⟨rfl,{y with φ:=y.φ.tail,sd:= .eQ 1 so g r.length},⟨_,rfl⟩, ?_⟩
   simp only[b,Bool.false_eq_true,if_false,Mc.set,Mb]
   exact wQ.sub fun q mq=>List.mem_cons_of_mem _ mq
end
end Go.Abs
namespace Go.Abs
set_option maxRecDepth 8000
open Go.Proofs
section
variable {p:Pg} {T W:List Int} {y:Lay} {m:Mc} {loc:List (Nat×List D)} {s:St}
structure agd (p:Pg) (fr:Fr) (it:Im):Prop where
 said:it.s.nU
 brk:it.s.kind=7→∃ (c:Nat) (it2:Im),it.loop=(c:Int)+1∧p.bg.L[c]? = some it2
 Hu:it.s.kind=10→∃ (i:Nat) (f:Pc),it.proc=(i:Int)∧p.procs[i]? = some f
 name:it.s.kind=1∨it.s.kind=2→∃ k,wY fr it.s.name k
 bb:it.s.bb.length<1000000
 aP:it.s.aP.length<1000000
structure JV (p:Pg) (T W:List Int) (m:Mc):Prop where
 W:W.length<1000000
 T:T.length<1000000
 trace:m.trace.length<2000000
 out:m.out.length<2000000
 L:p.bg.L.length<1000000
 P:Pc.a7 p.procs<1000000000
 reads:0≤m.reads∧m.reads<2000000
theorem cell_of (h:Inv p T W y m loc s) {fr:Fr} {r:List Fr} (jy:m.st=fr::r) {c j:Nat} (hc:fr.vars[j]? = some c):y.κ[c]? = some (y.κ.getD c 0)∧∃ v,m.mem[c]? = some v∧s.ah[y.κ.getD c 0]? = some [.int .i64 v]:=by
 have iJ:=h.tw
 rw[jy]at iJ
 cases hφ:y.φ with
 |nil=>simp[hφ]at iJ
 | cons o φ=>
  have UQ:=(h.frame 0 o fr (by simp[hφ]) (by rw[jy];rfl)).2.2 c (List.mem_of_getElem? hc)
  have hκ:y.κ[c]? = some (y.κ.getD c 0):=by
   rw[List.getD_eq_getElem?_getD,List.getElem?_eq_getElem (by have:=h.len;omega)];rfl
  exact⟨hκ,_,List.getElem?_eq_getElem UQ,h.cell c _ _ hκ (List.getElem?_eq_getElem UQ)⟩
theorem aq0 (hp:p.iX) (HA:p.may=true) (h:Inv p T W y m loc s) {fr:Fr} {r:List Fr} (ht:nC m fr r) (hz:JV p T W m) {it:Im} (hd:agd p fr it) :
 bP Tryz.prog rp [.ptr 0 0, .agg (dF it)] s (Rl p T W (.int .i64 (m.do p p.bg.L T W it).1) (m.do p p.bg.L T W it).2 (fun y'=>∃ vd,y' = {y with vd:=vd}) loc):=by
 have h1:=(h.new (dF it)).new (bj it.s)
 simp only[List.length_append,List.length_singleton]at h1
 have z0 : ∀ z:List D,(s.ah++ [z])[s.ah.length]? = some z:=fun z=>by simp
 have z1 : ∀ z:List D,(s.ah++ [dF it]++ [z]).set (s.ah.length+1) (bj it.s)=s.ah++ [dF it]++ [bj it.s]:=fun z=>by simp[List.append_assoc,List.set_append_right]
 have z2 : ∀ a z:List D,(s.ah++ [a]++ [z])[s.ah.length+1]? = some z:=fun a z=>by simp
 have z3 : ∀ a z:List D,(s.ah++ [a]++ [z])[s.ah.length]? = some a:=fun a z=>by simp
 have z4:=h1.j8
 rw[fH]at z4
 have wK:=h1.vC
 simp only at z4 wK
 have cS:(fL p)[2]? = some (.slice .shared 17 (p.bg.L.map dF)):=rfl
 have n8 : ∀ q∈loc,q∈(s.ah.length+1,bj it.s)::(s.ah.length,dF it)::loc:=fun q mq=>List.mem_cons_of_mem _ (List.mem_cons_of_mem _ mq)
 generalize hn:s.ah.length=n at *
 have jH : ∀ {y2:Lay} {m2:Mc} {s2:St},Inv p T W y2 m2 ((n+1,bj it.s)::(n,dF it)::loc) s2→s2.ah[n]? = some (dF it)∧s2.ah[n+1]? = some (bj it.s)∧0<s2.ah.length:=fun h2=>
  ⟨(h2.loc (n,dF it) (by simp)).1,(h2.loc (n+1,bj it.s) (by simp)).1,h2.vC⟩
 rcases Bool.eq_false_or_eq_true (it.s.kind==7)with b7|b7
 ·have c1:=wW h1 hz.W hz.trace it.s.id
  obtain⟨c,it2,e1,e2⟩:=hd.brk (by simpa using b7)
  have hw:IntKind.wrap .i64 ((c:Int)+1 - 1)=(c:Int):=by
   have:=(List.getElem?_eq_some_iff.1 e2).1
   have:=hz.L
   rw[show(c:Int)+1 - 1=(c:Int) by omega];exact ek (by omega) (by omega)
  have zP:m.do p p.bg.L T W it=(it2.next,m.event W it.s.id []):=by
   unfold Mc.do
   dsimp only
   rw[if_pos b7,Ma e2 e1]
  rw[zP]
  refine bP.vx iE rfl fun B Q hB hQ=>?_
  have⟨hD,hY,hZ,gA⟩:=bN
  repeat' (first
 |simp only[go_sem,hD,hY,hZ,gA,z0,z1,z2,z3,hn,b7]
 |(with_reducible first|refine bk fun hc=>?_|refine bl fun hc=>?_|refine bm (fun hc=>?_) fun hc=>?_)<;>(try simp only[hc,bs,↓reduceIte]at h)<;>try simp only[hc]
 |(with_reducible refine aE hQ ?_;(try cases h);simp only[aT,aV,bE,bF,go_sem,hD,hY,hZ,gA,z0,z1,z2,z3,hn,b7];try exact cf)
 |(cases h;done))
  refine CR c1 fun d s2 h2=>?_
  obtain⟨rfl,y2,rfl,h2⟩:=h2
  obtain⟨x1,x2,x3⟩:=jH h2
  have jX:=h2.j8
  rw[fH]at jX
  repeat' (first
 |simp only[go_sem,hD,hY,hZ,gA,x1,x2,jX,cS,e1,hw,e2]
 |(with_reducible first|refine bk fun hc=>?_|refine bl fun hc=>?_|refine bm (fun hc=>?_) fun hc=>?_)<;>(try simp only[hc,bs,↓reduceIte]at h)<;>try simp only[hc]
 |(with_reducible refine aE hQ ?_;(try cases h);simp only[aT,aV,bE,bF,go_sem,hD,hY,hZ,gA,x1,x2,jX,cS,e1,hw,e2];try exact cf)
 |(cases h;done))
  (refine gW hQ ?_;simp only[aT,aV,bE,bF,go_sem])
  exact⟨rfl,_,⟨_,rfl⟩,h2.sub n8⟩
 rcases Bool.eq_false_or_eq_true (it.s.kind==8)with b8|b8
 ·have c1:=wW h1 hz.W hz.trace it.s.id
  have zP:m.do p p.bg.L T W it=(it.loop,m.event W it.s.id []):=by
   unfold Mc.do
   dsimp only
   rw[if_neg (by simp[b7]),if_pos b8]
  rw[zP]
  refine bP.vx iE rfl fun B Q hB hQ=>?_
  have⟨hD,hY,hZ,gA⟩:=bN
  repeat' (first
 |simp only[go_sem,hD,hY,hZ,gA,z0,z1,z2,z3,hn,b7,b8]
 |(with_reducible first|refine bk fun hc=>?_|refine bl fun hc=>?_|refine bm (fun hc=>?_) fun hc=>?_)<;>(try simp only[hc,bs,↓reduceIte]at h)<;>try simp only[hc]
 |(with_reducible refine aE hQ ?_;(try cases h);simp only[aT,aV,bE,bF,go_sem,hD,hY,hZ,gA,z0,z1,z2,z3,hn,b7,b8];try exact cf)
 |(cases h;done))
  refine CR c1 fun d s2 h2=>?_
  obtain⟨rfl,y2,rfl,h2⟩:=h2
  obtain⟨x1,x2,x3⟩:=jH h2
  repeat' (first
 |simp only[go_sem,hD,hY,hZ,gA,x1,x2]
 |(with_reducible first|refine bk fun hc=>?_|refine bl fun hc=>?_|refine bm (fun hc=>?_) fun hc=>?_)<;>(try simp only[hc,bs,↓reduceIte]at h)<;>try simp only[hc]
 |(with_reducible refine aE hQ ?_;(try cases h);simp only[aT,aV,bE,bF,go_sem,hD,hY,hZ,gA,x1,x2];try exact cf)
 |(cases h;done))
  (refine gW hQ ?_;simp only[aT,aV,bE,bF,go_sem])
  exact⟨rfl,_,⟨_,rfl⟩,h2.sub n8⟩
 rcases Bool.eq_false_or_eq_true (it.s.kind==10)with uG|uG
 ·have c1:=wW h1 hz.W hz.trace it.s.id
  obtain⟨i,f,e1,e2⟩:=hd.Hu (by simpa using uG)
  have cA:=fun s=>afJ hp HA e2 it.s.name s
  have zP:m.do p p.bg.L T W it=((jk f.fin it.s.name (Sm.cL f.body)).1,m.event W it.s.id []):=by
   unfold Mc.do
   dsimp only
   rw[if_neg (by simp[b7]),if_neg (by simp[b8]),if_pos uG,e1,Int.toNat_natCast,e2]
  rw[zP]
  refine bP.vx iE rfl fun B Q hB hQ=>?_
  have⟨hD,hY,hZ,gA⟩:=bN
  repeat' (first
 |simp only[go_sem,hD,hY,hZ,gA,z0,z1,z2,z3,hn,b7,b8,uG]
 |(with_reducible first|refine bk fun hc=>?_|refine bl fun hc=>?_|refine bm (fun hc=>?_) fun hc=>?_)<;>(try simp only[hc,bs,↓reduceIte]at h)<;>try simp only[hc]
 |(with_reducible refine aE hQ ?_;(try cases h);simp only[aT,aV,bE,bF,go_sem,hD,hY,hZ,gA,z0,z1,z2,z3,hn,b7,b8,uG];try exact cf)
 |(cases h;done))
  refine CR c1 fun d s2 h2=>?_
  obtain⟨rfl,y2,rfl,h2⟩:=h2
  obtain⟨x1,x2,x3⟩:=jH h2
  have jX:=h2.j8
  rw[fH]at jX
  repeat' (first
 |simp only[go_sem,hD,hY,hZ,gA,x1,x2,jX,e1]
 |(with_reducible refine CU (cA _) ?_)
 |(with_reducible first|refine bk fun hc=>?_|refine bl fun hc=>?_|refine bm (fun hc=>?_) fun hc=>?_)<;>(try simp only[hc,bs,↓reduceIte]at h)<;>try simp only[hc]
 |(with_reducible refine aE hQ ?_;(try cases h);simp only[aT,aV,bE,bF,go_sem,hD,hY,hZ,gA,x1,x2,jX,e1];try exact cf)
 |(cases h;done))
  (refine gW hQ ?_;simp only[aT,aV,bE,bF,go_sem])
  exact⟨rfl,_,⟨_,rfl⟩,h2.sub n8⟩
 rcases Bool.eq_false_or_eq_true (it.s.kind==2)with b2|b2
 ·obtain⟨k,hk⟩:=hd.name (.inr (by simpa using b2))
  have jO:=hz.reads
  have hTl:=hz.T
  have HY:=jO.1
  have azc : ∀ r,((s.ah++ [dF it]++ [bj it.s]).set 0 r)[0]? = some r:=fun r=>List.getElem?_set_self wK
  cases e:T[m.reads.toNat]? with
  | none=>
   have vq:decide (m.reads≥(T.length:Int))=true:=by have:=List.getElem?_eq_none_iff.1 e;simp;omega
   have zP:m.do p p.bg.L T W it=(-1,{m with fin:=3}):=by
    unfold Mc.do
    dsimp only
    rw[if_neg (by simp[b7]),if_neg (by simp[b8]),if_neg (by simp[uG]),if_pos b2,e]
   rw[zP]
   have h2:=h1.uO (m':= {m with fin:=3}) rfl rfl h1.t0 h1.t1
   rw[fH]at h2
   simp only at h2
   refine bP.vx iE rfl fun B Q hB hQ=>?_
   have⟨hD,hY,hZ,gA⟩:=bN
   repeat' (first
 |simp only[go_sem,hD,hY,hZ,gA,z0,z1,z2,z3,z4,hn,b7,b8,uG,b2,vq,wK]
 |(with_reducible first|refine bk fun hc=>?_|refine bl fun hc=>?_|refine bm (fun hc=>?_) fun hc=>?_)<;>(try simp only[hc,bs,↓reduceIte]at h)<;>try simp only[hc]
 |(with_reducible refine aE hQ ?_;(try cases h);simp only[aT,aV,bE,bF,go_sem,hD,hY,hZ,gA,z0,z1,z2,z3,z4,hn,b7,b8,uG,b2,vq,wK];try exact cf)
 | (cases h;done))
   (refine gW hQ ?_;simp only[aT,aV,bE,bF,go_sem])
   exact⟨rfl,_,⟨_,rfl⟩,h2.sub n8⟩
  | some v=>
   have vq:decide (m.reads≥(T.length:Int))=false:=by have:=(List.getElem?_eq_some_iff.1 e).1;simp;omega
   have Gu:IntKind.wrap .i64 (m.reads+1)=m.reads+1:=ek (by omega) (by omega)
   have Mb:=hk.cell ht.top
   obtain⟨j,hj,C5⟩:=hk
   have zP:m.do p p.bg.L T W it=(it.next,(({m with reads:=m.reads+1,mem:=m.mem.set k v} : Mc).event W it.s.id [v])):=by
    unfold Mc.do
    dsimp only
    rw[if_neg (by simp[b7]),if_neg (by simp[b8]),if_neg (by simp[uG]),if_pos b2,e]
    have:({m with reads:=m.reads+1} : Mc).cell it.s.name=k:=Mb
    simp only[Mc.set,this]
   rw[zP]
   have h2:=h1.uO (m':= {m with reads:=m.reads+1}) rfl rfl h1.t0 h1.t1
   have ux:nC ({m with reads:=m.reads+1} : Mc) fr r:=⟨ht.st,ht.len,ht.names,ht.vars⟩
   have c2:=DE h2 ux.st ux.len ux.names hj C5
   obtain⟨hκ,v0,g1,g2⟩:=cell_of h2 ux.st C5
   have h3:=h2.XU hκ v
   have c3:=E2 h3 hz.W hz.trace it.s.id v
   obtain⟨x1,x2,x3⟩:=jH h3
   obtain⟨x4,x5,x6⟩:=jH h2
   rw[fH]at c2 g2 c3 x1 x2 x4 x5
   simp only at c2 g2 c3 x1 x2 x4 x5
   refine bP.vx iE rfl fun B Q hB hQ=>?_
   have⟨hD,hY,hZ,gA⟩:=bN
   repeat' (first
 |simp only[go_sem,hD,hY,hZ,gA,z0,z1,z2,z3,z4,hn,b7,b8,uG,b2,vq,wK,e,Gu,HY,x1,x2,x4,x5,g2]
 |(with_reducible refine CU (c2) ?_)
 |(with_reducible first|refine bk fun hc=>?_|refine bl fun hc=>?_|refine bm (fun hc=>?_) fun hc=>?_)<;>(try simp only[hc,bs,↓reduceIte]at h)<;>try simp only[hc]
 |(with_reducible refine aE hQ ?_;(try cases h);simp only[aT,aV,bE,bF,go_sem,hD,hY,hZ,gA,z0,z1,z2,z3,z4,hn,b7,b8,uG,b2,vq,wK,e,Gu,HY,x1,x2,x4,x5,g2];try exact cf)
 | (cases h;done))
   refine CR c3 fun d s2 h4=>?_
   obtain⟨rfl,y2,rfl,h4⟩:=h4
   obtain⟨x1,x2,x3⟩:=jH h4
   repeat' (first
 |simp only[go_sem,hD,hY,hZ,gA,x1,x2]
 |(with_reducible first|refine bk fun hc=>?_|refine bl fun hc=>?_|refine bm (fun hc=>?_) fun hc=>?_)<;>(try simp only[hc,bs,↓reduceIte]at h)<;>try simp only[hc]
 |(with_reducible refine aE hQ ?_;(try cases h);simp only[aT,aV,bE,bF,go_sem,hD,hY,hZ,gA,x1,x2];try exact cf)
 | (cases h;done))
   (refine gW hQ ?_;simp only[aT,aV,bE,bF,go_sem])
   exact⟨rfl,_,⟨_,rfl⟩,h4.sub n8⟩
 -- an expression is reckoned
 have hx:it.s.x.size<1000000:=by have:=hd.said.2.2;omega
 have c1:=E1 h1 ht hx hd.said.1
 rcases Bool.eq_false_or_eq_true (m.bu it.s.x).1.2 with bw|bw
 case inr=>
  have zP:m.do p p.bg.L T W it=(-1,(m.bu it.s.x).2):=by
   unfold Mc.do
   dsimp only
   rw[if_neg (by simp[b7]),if_neg (by simp[b8]),if_neg (by simp[uG]),if_neg (by simp[b2]),if_neg (by simp[bw])]
  rw[zP]
  refine bP.vx iE rfl fun B Q hB hQ=>?_
  have⟨hD,hY,hZ,gA⟩:=bN
  repeat' (first
 |simp only[go_sem,hD,hY,hZ,gA,z0,z1,z2,z3,hn,b7,b8,uG,b2]
 |(with_reducible first|refine bk fun hc=>?_|refine bl fun hc=>?_|refine bm (fun hc=>?_) fun hc=>?_)<;>(try simp only[hc,bs,↓reduceIte]at h)<;>try simp only[hc]
 |(with_reducible refine aE hQ ?_;(try cases h);simp only[aT,aV,bE,bF,go_sem,hD,hY,hZ,gA,z0,z1,z2,z3,hn,b7,b8,uG,b2];try exact cf)
 |(cases h;done))
  refine CR c1 fun d s2 h2=>?_
  obtain⟨⟨rfl,y2,wX,h2⟩,_⟩:=h2
  repeat' (first
 |simp only[go_sem,hD,hY,hZ,gA,bw]
 |(with_reducible first|refine bk fun hc=>?_|refine bl fun hc=>?_|refine bm (fun hc=>?_) fun hc=>?_)<;>(try simp only[hc,bs,↓reduceIte]at h)<;>try simp only[hc]
 |(with_reducible refine aE hQ ?_;(try cases h);simp only[aT,aV,bE,bF,go_sem,hD,hY,hZ,gA,bw];try exact cf)
 |(cases h;done))
  (refine gW hQ ?_;simp only[aT,aV,bE,bF,go_sem])
  exact⟨rfl,y2,⟨_,wX⟩,h2.sub n8⟩
 have US:(m.bu it.s.x).2=m:=by
  unfold Mc.bu
  dsimp only
  rw[if_pos (show(it.s.x.bu m.top.names m.bI).2=true from bw)]
 have zP:m.do p p.bg.L T W it=(let m1:=m.event W it.s.id [(m.bu it.s.x).1.1];let n:=(m.bu it.s.x).1.1
  if it.s.kind==1 then(it.next,m1.set it.s.name n)else if it.s.kind==3 then(it.next,{m1 with out:=m1.out++ [n]})
  else if it.s.kind==5 then(if n==0 then firstM it.s.aP it.next else firstM it.s.bb it.next,m1)else if it.s.kind==6 then(if n==0 then it.next else firstM it.s.bb it.s.id,m1)else(it.next,m1)):=by
  unfold Mc.do
  dsimp only
  rw[if_neg (by simp[b7]),if_neg (by simp[b8]),if_neg (by simp[uG]),if_neg (by simp[b2]),if_pos bw,US]
 rw[zP]
 rw[US]at c1
 generalize hR:(m.bu it.s.x).1=R at *
 obtain⟨v,ok⟩:=R
 subst bw
 dsimp only
 have he:=fh W m it.s.id [v]
 have UT:nC (m.event W it.s.id [v]) fr r:=⟨by rw[he.1];exact ht.st,ht.len,ht.names,ht.vars⟩
 have nb:(v != 0) = !(v==0):=rfl
 have fT:=fun o s=>Ot it.s.bb (by have:=hd.bb;omega) o s
 have fE:=fun o s=>Ot it.s.aP (by have:=hd.aP;omega) o s
 refine bP.vx iE rfl fun B Q hB hQ=>?_
 have⟨hD,hY,hZ,gA⟩:=bN
 repeat' (first
 |simp only[go_sem,hD,hY,hZ,gA,z0,z1,z2,z3,hn,b7,b8,uG,b2]
 |(with_reducible first|refine bk fun hc=>?_|refine bl fun hc=>?_|refine bm (fun hc=>?_) fun hc=>?_)<;>(try simp only[hc,bs,↓reduceIte]at h)<;>try simp only[hc]
 |(with_reducible refine aE hQ ?_;(try cases h);simp only[aT,aV,bE,bF,go_sem,hD,hY,hZ,gA,z0,z1,z2,z3,hn,b7,b8,uG,b2];try exact cf)
 |(cases h;done))
 refine CR c1 fun d s2 h2=>?_
 obtain⟨⟨rfl,y2,wX,h2⟩,_⟩:=h2
 obtain⟨x1,x2,x3⟩:=jH h2
 have c2:=E2 h2 hz.W hz.trace it.s.id v
 repeat' (first
 |simp only[go_sem,hD,hY,hZ,gA,x1,x2]
 |(with_reducible first|refine bk fun hc=>?_|refine bl fun hc=>?_|refine bm (fun hc=>?_) fun hc=>?_)<;>(try simp only[hc,bs,↓reduceIte]at h)<;>try simp only[hc]
 |(with_reducible refine aE hQ ?_;(try cases h);simp only[aT,aV,bE,bF,go_sem,hD,hY,hZ,gA,x1,x2];try exact cf)
 |(cases h;done))
 refine CR c2 fun d s3 h3=>?_
 obtain⟨rfl,y3,rfl,h3⟩:=h3
 obtain⟨x1,x2,x3⟩:=jH h3
 have oZ:=h3.j8
 rw[fH]at oZ
 rcases Bool.eq_false_or_eq_true (it.s.kind==1)with b1|b1
 ·obtain⟨k,hk⟩:=hd.name (.inl (by simpa using b1))
  have Mb:=hk.cell UT.top
  obtain⟨j,hj,C5⟩:=hk
  have c3:=DE h3 UT.st UT.len UT.names hj C5
  obtain⟨hκ,v0,g1,g2⟩:=cell_of h3 UT.st C5
  have h4:=h3.XU hκ v
  obtain⟨x4,x5,x6⟩:=jH h4
  simp only at x4 x5
  repeat' (first
 |simp only[go_sem,hD,hY,hZ,gA,x1,x2,b1,g2,x4,x5]
 |(with_reducible refine CU (c3) ?_)
 |(with_reducible first|refine bk fun hc=>?_|refine bl fun hc=>?_|refine bm (fun hc=>?_) fun hc=>?_)<;>(try simp only[hc,bs,↓reduceIte]at h)<;>try simp only[hc]
 |(with_reducible refine aE hQ ?_;(try cases h);simp only[aT,aV,bE,bF,go_sem,hD,hY,hZ,gA,x1,x2,b1,g2,x4,x5];try exact cf)
 |(cases h;done))
  (refine gW hQ ?_;simp only[aT,aV,bE,bF,go_sem])
  rw[if_pos b1]
  refine⟨rfl,y3,⟨_,wX⟩, ?_⟩
  simp only[Mc.set,Mb]
  exact h4.sub n8
 rw[if_neg (by simp[b1])]at hQ
 rcases Bool.eq_false_or_eq_true (it.s.kind==3)with b3|b3
 ·rw [if_pos b3]at hQ
  have fb:iP 1 8 (.slice (.tok 0) 1 ((m.event W it.s.id [v]).out.map cz)) (.slice .full 1 [[.int .i64 v]]) s3=some (.slice (.tok 0) 1 (((m.event W it.s.id [v]).out++ [v]).map cz),⟨s3.ah,s3.ay.set 0 (some ((m.event W it.s.id [v]).out.length+1))⟩):=by
   rw[ox (size:=1) (by simp only[List.length_map,List.length_singleton,he.2.2.2.2.2];have:=hz.out;unfold bx;omega) (by simpa using h3.t0)]
   simp[cz]
  have h4:=h3.uO (m':= {m.event W it.s.id [v]with out:=(m.event W it.s.id [v]).out++ [v]}) (ts:=s3.ay.set 0 (some ((m.event W it.s.id [v]).out.length+1))) rfl rfl (by simp[(List.getElem?_eq_some_iff.1 h3.t0).1]) (by rw[List.getElem?_set_ne (by omega)];exact h3.t1)
  obtain⟨x4,x5,x6⟩:=jH h4
  rw[fH]at h4 x4 x5
  simp only[List.map_append,List.map_cons,List.map_nil,cz]at h4 x4 x5 fb
  repeat' (first
 |simp only[go_sem,hD,hY,hZ,gA,x1,x2,b1,b3,oZ,fb,x3,x4,x5]
 |(with_reducible first|refine bk fun hc=>?_|refine bl fun hc=>?_|refine bm (fun hc=>?_) fun hc=>?_)<;>(try simp only[hc,bs,↓reduceIte]at h)<;>try simp only[hc]
 |(with_reducible refine aE hQ ?_;(try cases h);simp only[aT,aV,bE,bF,go_sem,hD,hY,hZ,gA,x1,x2,b1,b3,oZ,fb,x3,x4,x5];try exact cf)
 |(cases h;done))
  (refine gW hQ ?_;simp only[aT,aV,bE,bF,go_sem])
  exact⟨rfl,y3,⟨_,wX⟩,h4.sub n8⟩
 rw[if_neg (by simp[b3])]at hQ
 rcases Bool.eq_false_or_eq_true (it.s.kind==5)with b5|b5
 ·rw [if_pos b5]at hQ
  rcases Bool.eq_false_or_eq_true (v==0)with bv|bv
  ·rw [if_pos bv]at hQ
   repeat' (first
 |simp only[go_sem,hD,hY,hZ,gA,x1,x2,b1,b3,b5,nb,bv]
 |(with_reducible refine CU (fT _ _) ?_)
 |(with_reducible refine CU (fE _ _) ?_)
 |(with_reducible first|refine bk fun hc=>?_|refine bl fun hc=>?_|refine bm (fun hc=>?_) fun hc=>?_)<;>(try simp only[hc,bs,↓reduceIte]at h)<;>try simp only[hc]
 |(with_reducible refine aE hQ ?_;(try cases h);simp only[aT,aV,bE,bF,go_sem,hD,hY,hZ,gA,x1,x2,b1,b3,b5,nb,bv];try exact cf)
 | (cases h;done))
   (refine gW hQ ?_;simp only[aT,aV,bE,bF,go_sem])
   exact⟨rfl,y3,⟨_,wX⟩,h3.sub n8⟩
  ·rw [if_neg (by simp [bv])]at hQ
   repeat' (first
 |simp only[go_sem,hD,hY,hZ,gA,x1,x2,b1,b3,b5,nb,bv]
 |(with_reducible refine CU (fT _ _) ?_)
 |(with_reducible refine CU (fE _ _) ?_)
 |(with_reducible first|refine bk fun hc=>?_|refine bl fun hc=>?_|refine bm (fun hc=>?_) fun hc=>?_)<;>(try simp only[hc,bs,↓reduceIte]at h)<;>try simp only[hc]
 |(with_reducible refine aE hQ ?_;(try cases h);simp only[aT,aV,bE,bF,go_sem,hD,hY,hZ,gA,x1,x2,b1,b3,b5,nb,bv];try exact cf)
 | (cases h;done))
   (refine gW hQ ?_;simp only[aT,aV,bE,bF,go_sem])
   exact⟨rfl,y3,⟨_,wX⟩,h3.sub n8⟩
 rw[if_neg (by simp[b5])]at hQ
 rcases Bool.eq_false_or_eq_true (it.s.kind==6)with b6|b6
 ·rw [if_pos b6]at hQ
  rcases Bool.eq_false_or_eq_true (v==0)with bv|bv
  ·rw [if_pos bv]at hQ
   repeat' (first
 |simp only[go_sem,hD,hY,hZ,gA,x1,x2,b1,b3,b5,b6,nb,bv]
 |(with_reducible refine CU (fT _ _) ?_)
 |(with_reducible refine CU (fE _ _) ?_)
 |(with_reducible first|refine bk fun hc=>?_|refine bl fun hc=>?_|refine bm (fun hc=>?_) fun hc=>?_)<;>(try simp only[hc,bs,↓reduceIte]at h)<;>try simp only[hc]
 |(with_reducible refine aE hQ ?_;(try cases h);simp only[aT,aV,bE,bF,go_sem,hD,hY,hZ,gA,x1,x2,b1,b3,b5,b6,nb,bv];try exact cf)
 | (cases h;done))
   (refine gW hQ ?_;simp only[aT,aV,bE,bF,go_sem])
   exact⟨rfl,y3,⟨_,wX⟩,h3.sub n8⟩
  ·rw [if_neg (by simp [bv])]at hQ
   repeat' (first
 |simp only[go_sem,hD,hY,hZ,gA,x1,x2,b1,b3,b5,b6,nb,bv]
 |(with_reducible refine CU (fT _ _) ?_)
 |(with_reducible refine CU (fE _ _) ?_)
 |(with_reducible first|refine bk fun hc=>?_|refine bl fun hc=>?_|refine bm (fun hc=>?_) fun hc=>?_)<;>(try simp only[hc,bs,↓reduceIte]at h)<;>try simp only[hc]
 |(with_reducible refine aE hQ ?_;(try cases h);simp only[aT,aV,bE,bF,go_sem,hD,hY,hZ,gA,x1,x2,b1,b3,b5,b6,nb,bv];try exact cf)
 | (cases h;done))
   (refine gW hQ ?_;simp only[aT,aV,bE,bF,go_sem])
   exact⟨rfl,y3,⟨_,wX⟩,h3.sub n8⟩
 rw[if_neg (by simp[b6])]at hQ
 repeat' (first
 |simp only[go_sem,hD,hY,hZ,gA,x1,x2,b1,b3,b5,b6]
 |(with_reducible first|refine bk fun hc=>?_|refine bl fun hc=>?_|refine bm (fun hc=>?_) fun hc=>?_)<;>(try simp only[hc,bs,↓reduceIte]at h)<;>try simp only[hc]
 |(with_reducible refine aE hQ ?_;(try cases h);simp only[aT,aV,bE,bF,go_sem,hD,hY,hZ,gA,x1,x2,b1,b3,b5,b6];try exact cf)
 |(cases h;done))
 (refine gW hQ ?_;simp only[aT,aV,bE,bF,go_sem])
 exact⟨rfl,y3,⟨_,wX⟩,h3.sub n8⟩
end
end Go.Abs
namespace Go.Abs
set_option maxRecDepth 8000
open Go.Proofs
section
variable {p:Pg} {T W:List Int} {y:Lay} {m:Mc} {loc:List (Nat×List D)} {s:St}
theorem A7 : ∀ (l:List Ar) (m:Mc) (out:List Nat),(Mc.args l m out).2.out=m.out∧(Mc.args l m out).2.trace=m.trace
 | [],m,out=>⟨rfl,rfl⟩
 | a::l,m,out=>by
  have hw:=gR m a.x
  simp only[Mc.args]
  by_cases c:a.ref=true
  ·rw[if_pos c];exact A7 l m _
  ·rw [if_neg c]
   by_cases c2:(m.bu a.x).1.2=true
   ·rw [if_pos c2]
    obtain⟨h1,h2⟩:=A7 l {(m.bu a.x).2 with mem:=(m.bu a.x).2.mem++ [(m.bu a.x).1.1]} (out++ [(m.bu a.x).2.mem.length])
    exact⟨h1.trans hw.2.2.2.2.1,h2.trans hw.2.2.2.2.2⟩
   ·rw[if_neg c2];exact⟨hw.2.2.2.2.1,hw.2.2.2.2.2⟩
structure UU (p:Pg) (fr:Fr) (v:Sm):Prop where
 said:v.nU
 args : ∀ a∈v.args,a.x.texts∧a.x.size<1000000∧(a.ref=true→∃ k,wY fr a.name k)
 proc : ∃ (j:Nat) (q:Pc),p.at v.proc=(j:Int)∧p.procs[j]? = some q∧p.find q.name=some q
theorem UW (hp:p.iX) (HA:p.may=true) (h:Inv p T W y m loc s) {fr:Fr} {r:List Fr} (ht:nC m fr r) (hz:JV p T W m) (hg:p.globals.length≤m.mem.length) {v:Sm} (hd:UU p fr v) :
 bP Tryz.prog pT [.ptr 0 0, .agg (bj v)] s (Rl p T W (.int .i64 (m.call p W v).1) (m.call p W v).2 (fun _=>True) loc):=by
 have h1:=h.new (bj v)
 have Kh:2≤s.ay.length:=by have:=(List.getElem?_eq_some_iff.1 h.t1).1;omega
 generalize hn:s.ah.length=n at h1
 generalize Nx:s.ay.length=tk at Kh
 have vw:v.args.length<1000000:=by have:=hd.said.2.2;have:=Ar.dS v.args;omega
 have azd:=ht.st
 refine bP.vx As rfl fun B Q hB hQ=>?_
 have⟨hD,hY,hZ,gA⟩:=bN
 have loop : ∀ (rest:List Ar) (k:Nat) (m1:Mc) (out:List Nat) (y1:Lay) (s1:St),v.args.drop k=rest→Mc.args v.args m [] = Mc.args rest m1 out→m1.st=m.st→m1.trace=m.trace∧m1.out=m.out→m.mem.length≤m1.mem.length→out.length=k∧k≤v.args.length→(∀ c∈out,c<m1.mem.length)→
  Inv p T W y1 m1 ((n,bj v)::loc) s1→s1.ay[tk]? = some (some out.length)→
  br Tryz.prog B 67 QDW (lf 0 (oq (kL Tryz.prog B 67 QEB Q) Q))
   [(0, .ptr 0 0),(3, .ptr n 0),(5, .slice (.tok tk) 1 (out.map fun c=>fB (y1.κ.getD c 0))),(12, .slice .shared 6 (v.args.map eC)),(13, .int .i64 (v.args.length:Int)),(14, .int .i64 (k:Int))] s1:=by
  intro rest
  induction rest with
  | nil=>
   intro k m1 out y1 s1 Ix nV wa B2 wK xg qv h2 X4
   have hD:=drop_nil Ix
   have xG:nC m1 fr r:=⟨by rw[wa];exact ht.st,ht.len,ht.names,ht.vars⟩
   obtain⟨so,g,cells,o,e1,e2,e3,e4,e5⟩:=h2.XY xG.st
   have jX:=h2.j8
   rw[fH,e1]at jX
   have uF:=(h2.loc (n,bj v) (by simp)).1
   have jc:=h2.vC
   have H2:m.call p W v=if m1.st.length > 100 then(-1,{m1 with fin:=5})else(m1.event W v.id []).open p (p.at v.proc) out v.id:=by
    unfold Mc.call
    rw[nV]
    rfl
   have hlen:m1.st.length=r.length+1:=by rw[xG.st];rfl
   rw[H2,hlen]at hQ
   simp only at uF
   refine br.lE ?_
   by_cases Xd:r.length+1 > 100
   ·have Gv:decide (((r.length+1:Nat):Int) > 100)=true:=by simp;omega
    rw[if_pos Xd]at hQ
    have h3:=h2.uO (m':= {m1 with fin:=5}) rfl rfl h2.t0 h2.t1
    rw[fH,e1]at h3
    simp only at h3
    repeat' (first
 |simp only[go_sem,hD,hY,hZ,gA,jX,uF,Gv,jc]
 |(with_reducible first|refine bk fun hc=>?_|refine bl fun hc=>?_|refine bm (fun hc=>?_) fun hc=>?_)<;>(try simp only[hc,bs,↓reduceIte]at h)<;>try simp only[hc]
 |(with_reducible refine aE hQ ?_;(try cases h);simp only[aT,aV,bE,bF,go_sem,hD,hY,hZ,gA,jX,uF,Gv,jc];try exact cf)
 | (cases h;done))
    (refine gW hQ ?_;simp only[aT,aV,bE,bF,go_sem])
    exact⟨rfl,y1,trivial,h3.sub fun q mq=>List.mem_cons_of_mem _ mq⟩
   ·have Gv:decide (((r.length+1:Nat):Int) > 100)=false:=by simp;omega
    rw[if_neg Xd]at hQ
    have c1:=wW h2 hz.W (by rw[B2.1];exact hz.trace) v.id
    repeat' (first
 |simp only[go_sem,hD,hY,hZ,gA,jX,uF,Gv,jc]
 |(with_reducible first|refine bk fun hc=>?_|refine bl fun hc=>?_|refine bm (fun hc=>?_) fun hc=>?_)<;>(try simp only[hc,bs,↓reduceIte]at h)<;>try simp only[hc]
 |(with_reducible refine aE hQ ?_;(try cases h);simp only[aT,aV,bE,bF,go_sem,hD,hY,hZ,gA,jX,uF,Gv,jc];try exact cf)
 | (cases h;done))
    refine CR c1 fun d s3 h3=>?_
    obtain⟨rfl,y3,rfl,h3⟩:=h3
    have he:=fh W m1 v.id []
    obtain⟨j,q,j1,j2,j3⟩:=hd.proc
    obtain⟨y4,s4,hF,h4⟩:=Ov h3 hp HA j2 j3 (by rw[he.1,hlen];have:=ht.len;omega) (l:=out) (by rw[he.2.1];exact qv) (by omega) (by rw[he.2.1];omega) v.id
    have hF':=fun g:Tag=>bP.sb (.cons (Wk.refl _) (.cons (Wk.refl _) (.cons (Wk.shared g 1 _) (jK.refl _)))) hF
    have hF2:aF Tryz.prog jD [.ptr 0 0, .int .i64 (j:Int), .slice (.tok tk) 1 (out.map fun c=>fB (y3.κ.getD c 0)), .int .i64 v.id] s3 _ s4:=hF' _
    have cP:=fun s=>FU (p:=p) (by have:=hp.procs.1;omega) v.proc s
    have oZ:=h3.j8
    rw[fH]at oZ
    have hx3:=(h3.loc (n,bj v) (by simp)).1
    simp only at hx3
    rw[j1]at hQ cP
    repeat' (first
 |simp only[go_sem,hD,hY,hZ,gA,oZ,hx3]
 |(with_reducible refine CU (cP _) ?_)
 |(with_reducible refine CU (hF2) ?_)
 |(with_reducible first|refine bk fun hc=>?_|refine bl fun hc=>?_|refine bm (fun hc=>?_) fun hc=>?_)<;>(try simp only[hc,bs,↓reduceIte]at h)<;>try simp only[hc]
 |(with_reducible refine aE hQ ?_;(try cases h);simp only[aT,aV,bE,bF,go_sem,hD,hY,hZ,gA,oZ,hx3];try exact cf)
 | (cases h;done))
    (refine gW hQ ?_;simp only[aT,aV,bE,bF,go_sem])
    exact⟨rfl,y4,trivial,h4.sub fun q mq=>List.mem_cons_of_mem _ mq⟩
  | cons a rest ih=>
   intro k m1 out y1 s1 Ix nV wa B2 wK xg qv h2 X4
   obtain⟨hY,g2,hD,g4⟩:=drop_cons Ix
   have bW:k<4611686018427387904:=by omega
   obtain⟨a1,a2,a3⟩:=hd.args a (List.mem_of_getElem? hY)
   have xG:nC m1 fr r:=⟨by rw[wa];exact ht.st,ht.len,ht.names,ht.vars⟩
   have h3:=h2.new (eC a)
   have zq : ∀ z:List D,(s1.ah++ [z]).set s1.ah.length (eC a)=s1.ah++ [eC a]:=fun z=>by simp
   have zg : ∀ z:List D,(s1.ah++ [z])[s1.ah.length]? = some z:=fun z=>by simp
   have fb : ∀ (x:Nat) (os:List (List D)),iP 1 8 (.slice (.tok tk) 1 (out.map fun c=>fB (y1.κ.getD c 0))) (.slice .full 1 [[.ptr x 0]]) ⟨os,s1.ay⟩=some (.slice (.tok tk) 1 ((out.map fun c=>fB (y1.κ.getD c 0))++ [fB x]),⟨os,s1.ay.set tk (some (out.length+1))⟩):=fun x os=>by
    rw[ox (size:=1) (by simp only[List.length_map,List.length_singleton];unfold bx;omega) (by simpa using X4)]
    simp[fB]
   have E4 : ∀ k':Nat,(s1.ay.set tk (some k'))[0]? = s1.ay[0]? ∧(s1.ay.set tk (some k'))[1]? = s1.ay[1]? ∧(s1.ay.set tk (some k'))[tk]? = some (some k'):=fun k'=>
    ⟨List.getElem?_set_ne (by omega),List.getElem?_set_ne (by omega),by simp[(List.getElem?_eq_some_iff.1 X4).1]⟩
   refine br.lE ?_
   rcases Bool.eq_false_or_eq_true a.ref with b|b
   ·obtain⟨c,hc⟩:=a3 b
    have Mb:=hc.cell xG.top
    obtain⟨j,hj,C5⟩:=hc
    have c1:=DE h3 xG.st xG.len xG.names hj C5
    obtain⟨hκ,v0,gm,_⟩:=cell_of h2 xG.st C5
    have Bl:=(List.getElem?_eq_some_iff.1 gm).1
    repeat' (first
 |simp only[go_sem,hD,hY,hZ,gA,hY,zq,zg,b,fb]
 |(with_reducible refine CU (c1) ?_)
 |(with_reducible first|refine bk fun hc=>?_|refine bl fun hc=>?_|refine bm (fun hc=>?_) fun hc=>?_)<;>(try simp only[hc,bs,↓reduceIte]at h)<;>try simp only[hc]
 |(with_reducible refine aE hQ ?_;(try cases h);simp only[aT,aV,bE,bF,go_sem,hD,hY,hZ,gA,hY,zq,zg,b,fb];try exact cf)
 | (cases h;done))
    have:=ih (k+1) m1 (out++ [c]) y1 ⟨s1.ah++ [eC a],s1.ay.set tk (some (out.length+1))⟩ g2 (by rw[nV];simp only[Mc.args,b,if_true,Mb]) wa B2 wK ⟨by simp[xg.1],g4⟩ (fun x mx=>by
     rcases List.mem_append.1 mx with mx|mx
     ·exact qv x mx
     ·rw[List.mem_singleton.1 mx];exact Bl) ((h3.sub fun q mq=>List.mem_cons_of_mem _ mq).keep (fun _ _ e=>e) (E4 _).1 (E4 _).2.1) (by simpa using (E4 _).2.2)
    refine br.qy ?_ this
    simp only[go_sem,aJ bW,List.map_append,List.map_cons,List.map_nil]
    repeat' (first|exact Ok.out|with_reducible refine jn ?_ ?_)
   ·have c1:=E1 h3 xG a2 a1
    repeat' (first
 |simp only[go_sem,hD,hY,hZ,gA,hY,zq,zg,b]
 |(with_reducible first|refine bk fun hc=>?_|refine bl fun hc=>?_|refine bm (fun hc=>?_) fun hc=>?_)<;>(try simp only[hc,bs,↓reduceIte]at h)<;>try simp only[hc]
 |(with_reducible refine aE hQ ?_;(try cases h);simp only[aT,aV,bE,bF,go_sem,hD,hY,hZ,gA,hY,zq,zg,b];try exact cf)
 | (cases h;done))
    refine CR c1 fun d s2 h4=>?_
    obtain⟨⟨rfl,y2,wX,h4⟩,wk⟩:=h4
    have hw:=gR m1 a.x
    simp only at wk
    rcases Bool.eq_false_or_eq_true (m1.bu a.x).1.2 with bw|bw
    ·have US:(m1.bu a.x).2=m1:=by
      unfold Mc.bu
      dsimp only
      rw[if_pos (show(a.x.bu m1.top.names m1.bI).2=true from bw)]
     rw[US]at h4
     have yq : ∀ z:List D,(s2.ah++ [z]).set s2.ah.length [.int .i64 (m1.bu a.x).1.1] = s2.ah++ [[.int .i64 (m1.bu a.x).1.1]]:=fun z=>by simp
     have yg : ∀ z:List D,(s2.ah++ [z])[s2.ah.length]? = some z:=fun z=>by simp
     rw[← wk]at fb E4
     have h5:=h4.aqU (m1.bu a.x).1.1 (by omega)
     have hyκ:y2.κ=y1.κ:=by rw[wX]
     have ajW:y1.κ.length=m1.mem.length:=h2.len
     repeat' (first
 |simp only[go_sem,hD,hY,hZ,gA,bw,yq,yg,fb]
 |(with_reducible first|refine bk fun hc=>?_|refine bl fun hc=>?_|refine bm (fun hc=>?_) fun hc=>?_)<;>(try simp only[hc,bs,↓reduceIte]at h)<;>try simp only[hc]
 |(with_reducible refine aE hQ ?_;(try cases h);simp only[aT,aV,bE,bF,go_sem,hD,hY,hZ,gA,bw,yq,yg,fb];try exact cf)
 | (cases h;done))
     have:=ih (k+1) {m1 with mem:=m1.mem++ [(m1.bu a.x).1.1]} (out++ [m1.mem.length]) {y2 with κ:=y2.κ++ [s2.ah.length]} ⟨s2.ah++ [[.int .i64 (m1.bu a.x).1.1]],s2.ay.set tk (some (out.length+1))⟩ g2
      (by rw [nV];simp only [Mc.args,b,Bool.false_eq_true,if_false,bw,if_true,US]) wa B2 (by simp;omega) ⟨by simp [xg.1],g4⟩ (fun x mx=>by
       simp only[List.length_append,List.length_singleton]
       rcases List.mem_append.1 mx with mx|mx
       ·have:=qv x mx;omega
       ·rw[List.mem_singleton.1 mx];omega) ((h5.sub fun q mq=>List.mem_cons_of_mem _ mq).keep (fun _ _ e=>e) (E4 _).1 (E4 _).2.1) (by simpa using (E4 _).2.2)
     refine br.qy ?_ this
     have aq2:(out.map fun c=>fB ((y2.κ++ [s2.ah.length]).getD c 0))=out.map fun c=>fB (y1.κ.getD c 0):=List.map_congr_left fun c mc=>by rw[hyκ,E3 (by have:=qv c mc;omega)]
     have dw:(y2.κ++ [s2.ah.length]).getD m1.mem.length 0=s2.ah.length:=by rw[hyκ, ← ajW];simp[List.getD_eq_getElem?_getD]
     simp only[go_sem,aJ bW,List.map_append,List.map_cons,List.map_nil,aq2,dw]
     repeat' (first|exact Ok.out|with_reducible refine jn ?_ ?_)
    ·repeat' (first
 |simp only[go_sem,hD,hY,hZ,gA,bw]
 |(with_reducible first|refine bk fun hc=>?_|refine bl fun hc=>?_|refine bm (fun hc=>?_) fun hc=>?_)<;>(try simp only[hc,bs,↓reduceIte]at h)<;>try simp only[hc]
 |(with_reducible refine aE hQ ?_;(try cases h);simp only[aT,aV,bE,bF,go_sem,hD,hY,hZ,gA,bw];try exact cf)
 |(cases h;done))
     (refine gW hQ ?_;simp only[aT,aV,bE,bF,go_sem])
     have H2:m.call p W v=(-1,(m1.bu a.x).2):=by
      unfold Mc.call
      rw[nV]
      simp only[Mc.args,b,Bool.false_eq_true,if_false,bw]
     rw[H2]
     exact⟨rfl,y2,trivial,h4.sub fun q mq=>List.mem_cons_of_mem _ (List.mem_cons_of_mem _ mq)⟩
 have hz0:(s.ah++ [bj v])[n]? = some (bj v):=by simp[← hn]
 have l0:=loop v.args 0 m [] y ⟨s.ah++ [bj v],s.ay++ [some 0]⟩ rfl rfl rfl ⟨rfl,rfl⟩ (Nat.le_refl _) ⟨rfl,Nat.zero_le _⟩ (by simp) (h1.ay _) (by simp[← Nx])
 repeat' (first
 |simp only[go_sem,hD,hY,hZ,gA,hz0,hn]
 |(with_reducible first|refine bk fun hc=>?_|refine bl fun hc=>?_|refine bm (fun hc=>?_) fun hc=>?_)<;>(try simp only[hc,bs,↓reduceIte]at h)<;>try simp only[hc]
 |(with_reducible refine aE hQ ?_;(try cases h);simp only[aT,aV,bE,bF,go_sem,hD,hY,hZ,gA,hz0,hn];try exact cf)
 |(cases h;done))
 refine br.rn 5 1 rfl ?_
 simp only[go_sem,hD,hY,hZ,gA]
 refine br.qy ?_ l0
 simp only[go_sem,Nx,List.map_nil]
 repeat' (first|exact Ok.out|with_reducible refine jn ?_ ?_)
end
end Go.Abs
namespace Go.Abs
theorem X5 {v:Sm} (h:v.one=true) (hk:v.kind=1∨v.kind=2):v.name≠ []:=by
 intro e
 have hn:v.hasName=true:=by unfold Sm.hasName;rcases hk with hk|hk<;>simp[hk]
 unfold Sm.one at h
 split at h
 ·cases h
 ·rw [e,hn]at h
  simp[isName]at h
theorem Jb {v:Sm} (hk:v.kind≠10) (hn:v.name≠ []):v.name∈v.said:=by
 unfold Sm.said Sm.sF
 refine vS (.inl ?_)
 rw[if_pos (by simp[hk,hn])]
 simp
theorem A8 {name:az} {f:Pc} : ∀ {l:List Pc},iw name l=some f→f.name=name
 |g::l,h=>by
  simp only[iw]at h
  split at h
  ·rename_i e;cases h;simpa using e
  ·exact A8 h
mutual
theorem agl : ∀ s:Sm,∀ v∈s.pre,v.size≤s.size
 | ⟨id,kind,labels,name,proc,x,has,args,bb,aP⟩,v,m=>by
  rw[Sm.nS]at m
  rcases List.mem_cons.1 m with rfl|m
  ·exact Nat.le_refl _
  ·simp only [Sm.size]
   rcases List.mem_append.1 m with m|m
   ·have:=DF bb v m;omega
   ·have:=DF aP v m;omega
theorem DF : ∀ l:List Sm,∀ v∈Sm.cL l,v.size≤Sm.a7 l
 | [],v,m=>by simp[Sm.cL]at m
 |s::l,v,m=>by
  simp only[Sm.cL,List.mem_append]at m
  simp only[Sm.a7]
  rcases m with m|m
  ·have:=agl s v m;omega
  ·have:=DF l v m;omega
end
theorem HD : ∀ l:List Sm,l.length≤Sm.a7 l
 | []=>Nat.le_refl _
 |s::l=>by
  have:=HD l
  have h1:1≤s.size:=by cases s;simp only[Sm.size];omega
  simp only[Sm.a7,List.length_cons];omega
section
variable {p:Pg} {m:Mc} {a:Int}
theorem Md (hO:p.iX) (h:qc p p.bg.L a m) (hl:m.st.length≤1000) : ∃ fr r f,nC m fr r∧p.procs[fr.proc.toNat]? = some f∧fr.names=p.globals++f.own∧fr.vars.length=fr.names.length∧m.top=fr:=by
 obtain⟨fr,r,e⟩:=h.st.ne
 have ht:m.top=fr:=by simp[Mc.top,e]
 obtain⟨f,h1,h2,h3,h4,h5⟩:=h.fr fr (by rw[e];exact List.mem_cons_self ..)
 have hf:=List.mem_of_getElem? h1
 have s1:=Pc.df hf
 have s2:=hO.sz
 simp only[Pg.size]at s2
 have hn:fr.names.length<1000000:=by
  rw[h3]
  have s3:=hO.small hf
  simp only[Pc.size]at s1
  simp only[List.length_append,Pc.own,Pc.sG,List.length_map]
  have:=s3.par;have:=s3.vars
  omega
 rw[e]at hl
 exact⟨fr,r,f,⟨e,by simp at hl;omega,hn,by omega⟩,h1,h3,h4,ht⟩
theorem HE {fr:Fr} (hv:fr.vars.length=fr.names.length) {n:az} (hn:n∈fr.names) : ∃ k,wY fr n k:=by
 obtain⟨j,h1,h2⟩:=L4 (k:=0) hn
 exact⟨_,j,by simpa using h1,List.getElem?_eq_getElem (by omega)⟩
theorem ach {fr:Fr} (h:qc p p.bg.L a m) (ht:m.top=fr) (hR:p.Right) (ha:a≠ -1) {f:Pc} (hf:p.procs[fr.proc.toNat]? = some f):C2 p p.bg.L (fa p.bg.L a) f∧(fa p.bg.L a).proc=fr.proc∧fa p.bg.L a∈p.bg.L∧
 ∃ c:Nat,a=(c:Int)+1∧p.bg.L[c]? = some (fa p.bg.L a):=by
 have hm:=h.at_.resolve_left ha
 have gN:=qa (L:=p.bg.L) (.inr ⟨hm.1,hm.2.1⟩) ha
 obtain⟨f',o⟩:=(qb hR).im _ gN
 have hp:(fa p.bg.L a).proc=fr.proc:=by rw[← ht];exact hm.2.2
 have:f'=f:=by have:=o.proc.1;rw[hp,hf]at this;exact(Option.some.inj this).symm
 subst this
 have h1:=hm.1
 have h2:=hm.2.1
 refine⟨o,hp,gN,(a - 1).toNat,by omega, ?_⟩
 unfold fa
 rw[List.getD_eq_getElem?_getD,List.getElem?_eq_getElem (show(a - 1).toNat<p.bg.L.length by omega)];rfl
theorem Ow (hO:p.iX) (hR:p.Right) {x:Im} {f:Pc} {fr:Fr} (hx:C2 p p.bg.L x f) (hn:fr.names=p.globals++f.own) (hv:fr.vars.length=fr.names.length):agd p fr x:=by
 have hf:=List.mem_of_getElem? hx.proc.1
 have qL:x.s∈p.pre:=by
  simp only[Pg.pre,List.mem_flatten,List.mem_map];exact⟨_,⟨f,hf,rfl⟩,hx.mem⟩
 have dP:=DF f.body x.s hx.mem
 have s1:=Pc.df hf
 have s2:=hO.sz
 simp only[Pg.size]at s2
 simp only[Pc.size]at s1
 have hs:Sm.a7 x.s.bb+Sm.a7 x.s.aP≤x.s.size:=by
  cases x with
  |mk s _ _ _ _=>cases s;simp only[Sm.size];omega
 refine⟨hO.said hf _ hx.mem,fun hk=>?_,fun hk=>?_,fun hk=>?_, ?_, ?_⟩
 ·have hl:=hx.loop (.inl hk)
  have h1:=hl.1
  have h2:=hl.2.1
  exact⟨(x.loop - 1).toNat,_,by omega,List.getElem?_eq_getElem (by omega)⟩
 ·obtain⟨i,hi⟩:=Int.eq_ofNat_of_zero_le hx.proc.2
  exact⟨i,f,hi,by have:=hx.proc.1;rwa [hi,Int.toNat_natCast]at this⟩
 ·refine HE hv ?_
  rw[hn]
  exact AY hR hx (Jb (by rcases hk with hk|hk<;>omega) (X5 (Og hR.may _ qL) hk))
 ·have:=HD x.s.bb;omega
 ·have:=HD x.s.aP;omega
theorem UX (hO:p.iX) (hR:p.Right) {x:Im} {f:Pc} {fr:Fr} (hx:C2 p p.bg.L x f) (hk:x.s.kind=4) (hn:fr.names=p.globals++f.own) (hv:fr.vars.length=fr.names.length):UU p fr x.s:=by
 have hf:=List.mem_of_getElem? hx.proc.1
 have sT:=hO.said hf _ hx.mem
 have qL:x.s∈p.pre:=by
  simp only[Pg.pre,List.mem_flatten,List.mem_map];exact⟨_,⟨f,hf,rfl⟩,hx.mem⟩
 refine⟨sT,fun b mb=>⟨sT.2.1 b mb, ?_,fun hr=>?_⟩, ?_⟩
 ·have:=sT.2.2
  have key : ∀ l:List Ar,b∈l→b.x.size≤Ar.a7 l:=fun l=>by
   induction l with
   |nil=>intro m;cases m
   |cons c l ih=>
    intro m
    simp only[Ar.a7]
    rcases List.mem_cons.1 m with rfl|m
    ·omega
    ·have:=ih m;omega
  have:=key _ mb
  omega
 ·refine HE hv ?_
  rw[hn]
  exact AY hR hx (vS (.inr ⟨b,mb,hr,rfl⟩))
 ·have jI:=hR.fits _ qL (by simp [hk])
  obtain⟨q,hq⟩:=IX jI
  obtain⟨j,h1,h2⟩:=JU (k:=0) hq
  exact⟨j,q,by simpa[Pg.at]using h1,h2,by rw[A8 hq];exact hq⟩
theorem RJ (hO:p.iX) (hR:p.Right) (h:qc p p.bg.L a m) (hl:m.st.length≤1000) {fr:Fr} {r:List Fr} (ht:nC m fr r) :
 fr.call=0∨∃ (c:Nat) (it:Im) (vB:Fr) (r2:List Fr),fr.call=(c:Int)+1∧p.bg.L[c]? = some it∧nC {m with st:=r} vB r2∧(it.s.name≠ []→∃ k,wY vB it.s.name k):=by
 have hs:=h.st
 have jy:=ht.st
 rw[jy]at hs
 cases r with
 |nil=>exact .inl hs
 | cons vB r2=>
  obtain⟨⟨h1,II⟩,h2⟩:=hs
  have e1:=h1.1
  have e2:=h1.2.1
  refine .inr ⟨(fr.call - 1).toNat,fa p.bg.L fr.call,vB,r2,by omega, ?_, ?_,fun hn=>?_⟩
  ·unfold fa
   rw[List.getD_eq_getElem?_getD,List.getElem?_eq_getElem (show(fr.call - 1).toNat<p.bg.L.length by omega)];rfl
  ·have h3:qc p p.bg.L (-1) {m with st:=vB::r2}:=⟨h2,fun q hq=>h.fr q (by rw [jy];exact List.mem_cons_of_mem _ hq), .inl rfl,h.ve⟩
   obtain⟨Ou,r',f',t,_⟩:=Md hO h3 (by rw[jy]at hl;simp at hl ⊢;omega)
   have:=t.st
   cases this
   exact t
  ·obtain⟨f,g1,g2,g3,g4,g5⟩:=h.fr vB (by rw [jy];simp)
   have gN:fa p.bg.L fr.call∈p.bg.L:=qa (.inr ⟨e1,e2⟩) (by omega)
   obtain⟨f',o⟩:=(qb hR).im _ gN
   have:f'=f:=by have:=o.proc.1;rw[h1.2.2,g1]at this;exact(Option.some.inj this).symm
   subst this
   refine HE g4 ?_
   rw[g3]
   exact AY hR o (Jb (by omega) hn)
end
end Go.Abs
namespace Go.Abs
structure yK (m:Mc):Prop where
 steps:0≤m.steps
 trace:(m.trace.length:Int)≤m.steps
 out:(m.out.length:Int)≤m.steps
 reads:0≤m.reads∧m.reads≤m.steps
 st:m.st.length≤101
structure C6 (m m':Mc):Prop where
 trace:m'.trace.length≤m.trace.length+1
 out:m'.out.length≤m.out.length+1
 reads:m'.reads=m.reads∨m'.reads=m.reads+1
 steps:m'.steps=m.steps
theorem UY (W:List Int) (m:Mc) (id:Int) (bI:List Int):(m.event W id bI).trace.length≤m.trace.length+1:=by
 unfold Mc.event
 split<;>simp
theorem mZ (W:List Int) (m:Mc) (id:Int) (bI:List Int):C6 m (m.event W id bI):=by
 have h:=fh W m id bI
 exact⟨UY W m id bI,by rw[h.2.2.2.2.2];omega, .inl h.2.2.2.2.1,h.2.2.2.1⟩
theorem Gw (m:Mc) (x:Ex):C6 m (m.bu x).2:=by
 have h:=gR m x
 exact⟨by rw[h.2.2.2.2.2];omega,by rw[h.2.2.2.2.1];omega, .inl h.2.2.2.1,h.2.2.1⟩
theorem xV (p:Pg) (m:Mc) (i:Int) (l:List Nat) (c:Int):(m.open p i l c).2.trace=m.trace∧(m.open p i l c).2.out=m.out∧(m.open p i l c).2.reads=m.reads∧(m.open p i l c).2.steps=m.steps:=by
 unfold Mc.open
 split<;>exact⟨rfl,rfl,rfl,rfl⟩
theorem xW : ∀ (l:List Ar) (m:Mc) (out:List Nat),(Mc.args l m out).2.reads=m.reads∧(Mc.args l m out).2.steps=m.steps
 | [],m,out=>⟨rfl,rfl⟩
 | a::l,m,out=>by
  have hw:=gR m a.x
  simp only[Mc.args]
  by_cases c:a.ref=true
  ·rw[if_pos c];exact xW l m _
  ·rw [if_neg c]
   by_cases c2:(m.bu a.x).1.2=true
   ·rw [if_pos c2]
    obtain⟨h1,h2⟩:=xW l {(m.bu a.x).2 with mem:=(m.bu a.x).2.mem++ [(m.bu a.x).1.1]} (out++ [(m.bu a.x).2.mem.length])
    exact⟨h1.trans hw.2.2.2.1,h2.trans hw.2.2.1⟩
   ·rw[if_neg c2];exact⟨hw.2.2.2.1,hw.2.2.1⟩
theorem UZ (p:Pg) (W:List Int) (m:Mc) (v:Sm):C6 m (m.call p W v).2∧((m.call p W v).2.st.length≤m.st.length∨(m.call p W v).2.st.length≤101):=by
 have h1:=A7 v.args m []
 have h2:=xW v.args m []
 have h3:=(vV v.args m []).1
 unfold Mc.call
 generalize Mc.args v.args m [] = r at *
 obtain⟨o,m1⟩:=r
 dsimp only at h1 h2 h3
 cases o with
 |none=>exact⟨⟨by simp[h1.2],by simp[h1.1], .inl h2.1,h2.2⟩, .inl (by simp[h3])⟩
 | some l=>
  dsimp only
  by_cases c:m1.st.length > 100
  ·rw[if_pos c];exact⟨⟨by simp[h1.2],by simp[h1.1], .inl h2.1,h2.2⟩, .inl (by simp[h3])⟩
  ·rw [if_neg c]
   have e1:=mZ W m1 v.id []
   have e2:=xV p (m1.event W v.id []) (p.at v.proc) l v.id
   have e3:=(zK p (m1.event W v.id []) (p.at v.proc) l v.id).1
   have e4:=(fh W m1 v.id []).1
   refine⟨⟨by rw[e2.1, ← h1.2];exact e1.trace,by rw[e2.2.1, ← h1.1];exact e1.out, ?_,by rw[e2.2.2.2,e1.steps,h2.2]⟩, .inr (by rw[e4]at e3;omega)⟩
   rw[e2.2.2.1, ← h2.1];exact e1.reads
theorem RK (W:List Int) (m:Mc) (v:Sm):C6 m (m.fv W v).2:=by
 have hw:=gR m v.x
 unfold Mc.fv
 split
 ·dsimp only
  split
  ·have e:=mZ W (m.bu v.x).2 v.id [(m.bu v.x).1.1]
   exact⟨by rw[← hw.2.2.2.2.2];exact e.trace,by rw[← hw.2.2.2.2.1];exact e.out,by rw[← hw.2.2.2.1];exact e.reads,e.steps.trans hw.2.2.1⟩
  ·exact Gw m v.x
 ·exact mZ W m v.id []
theorem aci (p:Pg) (L:List Im) (T W:List Int) (m:Mc) (it:Im):C6 m (m.do p L T W it).2:=by
 have hw:=gR m it.s.x
 unfold Mc.do
 dsimp only
 split
 ·exact mZ W m _ _
 split
 ·exact mZ W m _ _
 split
 ·exact mZ W m _ _
 split
 ·split
  ·exact⟨by simp,by simp, .inl rfl,rfl⟩
  ·rename_i n _
   have e:=mZ W (({m with reads:=m.reads+1} : Mc).set it.s.name n) it.s.id [n]
   have e2:=(fh W (({m with reads:=m.reads+1} : Mc).set it.s.name n) it.s.id [n])
   exact⟨e.trace,e.out, .inr e2.2.2.2.2.1,e2.2.2.2.1⟩
 split
 ·have e:=mZ W (m.bu it.s.x).2 it.s.id [(m.bu it.s.x).1.1]
  have e2:=fh W (m.bu it.s.x).2 it.s.id [(m.bu it.s.x).1.1]
  have k:C6 m ((m.bu it.s.x).2.event W it.s.id [(m.bu it.s.x).1.1]):=⟨by rw[← hw.2.2.2.2.2];exact e.trace,by rw[← hw.2.2.2.2.1];exact e.out,by rw[← hw.2.2.2.1];exact e.reads,e.steps.trans hw.2.2.1⟩
  split
  ·exact⟨k.trace,k.out,k.reads,k.steps⟩
  split
  ·exact⟨k.trace,by simp[e2.2.2.2.2.2,hw.2.2.2.2.1],k.reads,k.steps⟩
  split
  ·exact k
  split
  ·exact k
  ·exact k
 ·exact Gw m it.s.x
theorem A9 (L:List Im) (m:Mc) (g:Int):(m.close L g).2.trace=m.trace∧(m.close L g).2.out=m.out∧(m.close L g).2.reads=m.reads∧(m.close L g).2.steps=m.steps∧(m.close L g).2.st=m.st.tail:=by
 unfold Mc.close
 dsimp only
 split
 ·exact⟨rfl,rfl,rfl,rfl,rfl⟩
 ·split<;>exact⟨rfl,rfl,rfl,rfl,rfl⟩
theorem yK.less {m m1:Mc} (h:yK m) (k:C6 {m with steps:=m.steps+1} m1) (hs:m1.st.length≤101):yK m1:=by
 have h1:=h.steps;have h2:=h.trace;have h3:=h.out;have h4:=h.reads
 have k1:=k.trace;have k2:=k.out;have k3:=k.reads;have k4:=k.steps
 dsimp only at k1 k2 k3 k4
 exact⟨by omega,by omega,by omega,by omega,hs⟩
theorem yK.close {L:List Im} {m:Mc} (h:yK m) (g:Int):yK (m.close L g).2:=by
 obtain⟨h1,h2,h3,h4,h5⟩:=A9 L m g
 exact⟨by rw[h4];exact h.steps,by rw[h1,h4];exact h.trace,by rw[h2,h4];exact h.out,by rw[h3,h4];exact h.reads,by rw[h5];have:=h.st;simp;omega⟩
theorem yK.run {p:Pg} {T W:List Int} {m:Mc} (h:yK m) (hs:m.steps≤1000000) (hO:p.iX) (hW:W.length<1000000) (hT:T.length<1000000):JV p T W m:=by
 obtain⟨sR,sE,sD⟩:=hO.procs
 have:=p6 p
 have h2:=h.trace;have h3:=h.out;have h4:=h.reads
 exact⟨hW,hT,by omega,by omega,by omega,by omega,by omega⟩
set_option maxRecDepth 8000
open Go.Proofs
theorem acj {p:Pg} (h:p.iX) (kv:(p.scope.1==0)=true) (s:St):aF Tryz.prog sn [.agg (cB p)] s (.dI (fL p) 0) s:=by
 refine aF.pure ?_ (by simp[D.bJ,D.ok,jq]) (by simp[D.ok,vb]) s
 obtain⟨sR,sE,sD⟩:=h.procs
 have qv:=fun s=>wN h s
 have dw:=fun s=>Dp (p:=p) (by omega) s
 have b0:(p.scope.1 != 0) = !(p.scope.1==0):=rfl
 rw[kv]at b0
 unfold S0
 refine aF.go zw rfl fun B Q hB hQ=>?_
 have⟨hD,hY,hZ,gA⟩:=bN
 repeat' (first
 |simp only[go_sem,hD,hY,hZ,gA,b0,Bool.not_true]
 |(with_reducible refine CU (qv _) ?_)
 |(with_reducible refine CU (dw _) ?_)
 |(with_reducible refine aE hQ ?_;exact bo))
theorem ack {p:Pg} (h:p.iX) (kv:(p.scope.1==0)=false) (s:St):aF Tryz.prog sn [.agg (cB p)] s .ew s:=by
 refine aF.pure ?_ (by simp[D.bJ,D.ok,jq]) rfl s
 have qv:=fun s=>wN h s
 have b0:(p.scope.1 != 0) = !(p.scope.1==0):=rfl
 rw[kv]at b0
 unfold S0
 refine aF.go zw rfl fun B Q hB hQ=>?_
 have⟨hD,hY,hZ,gA⟩:=bN
 repeat' (first
 |simp only[go_sem,hD,hY,hZ,gA,b0,Bool.not_false]
 |(with_reducible refine CU (qv _) ?_)
 |(with_reducible refine aE hQ ?_;exact bo))
mutual
theorem X6 {pr up next loop:Int} : ∀ (s:Sm) (m:Im),m∈s.qB pr up next loop→m.proc=pr
 | ⟨id,kind,labels,name,pc,x,has,args,bb,aP⟩,m,h=>by
  simp only[Sm.qB]at h
  rcases List.mem_cons.1 h with rfl|h
  ·rfl
  ·rcases List.mem_append.1 h with h | h
   ·exact xX bb m h
   ·exact xX aP m h
theorem xX {pr up next loop:Int} : ∀ (l:List Sm) (m:Im),m∈Sm.iG pr up next loop l→m.proc=pr
 |s::l,m,h=>by
  simp only[Sm.iG]at h
  rcases List.mem_append.1 h with h|h
  ·exact X6 s m h
  ·exact xX l m h
end
theorem yL : ∀ a b:List Sm,gu (a++b)=gu a++gu b
 | [],b=>rfl
 |v::a,b=>by simp only[List.cons_append,gu,yL a b,List.append_assoc]
mutual
theorem Nj : ∀ s:Sm,(gu s.pre).length≤s.size
 |⟨id,kind,labels,name,pc,x,has,args,bb,aP⟩=>by
  have:=sO bb;have:=sO aP
  simp only[Sm.pre,gu,yL,List.length_append,Sm.size];omega
theorem sO : ∀ l:List Sm,(gu (Sm.cL l)).length≤Sm.a7 l
 | []=>Nat.le_refl _
 |s::l=>by
  have:=Nj s;have:=sO l
  simp only[Sm.cL,yL,List.length_append,Sm.a7];omega
end
theorem U0 (seen l:List az):(ib seen l).1.length≤seen.length+l.length:=(IJ l seen).2
theorem X7 {p:Pg} (h:p.iX) (s:St):aF Tryz.prog wy [.agg (cB p)] s (.agg [.int .i64 p.jump.1, .int .i64 p.jump.2]) s:=by
 refine aF.pure ?_ (by simp[D.bJ,D.ok,jq]) rfl s
 obtain⟨sR,sE,sD⟩:=h.procs
 obtain⟨R,hR⟩ : ∃ R,p.jump=R:=⟨_,rfl⟩
 rw[hR]
 unfold Pg.jump at hR
 unfold S0
 rcases Bool.eq_false_or_eq_true (p.scope.1==0)with kv|kv
 case inr=>
  have hs:=fun s=>ack h kv s
  simp only[kv,Bool.false_eq_true,if_false]at hR
  subst hR
  refine aF.go zr rfl fun B Q hB hQ=>?_
  have⟨hD,hY,hZ,gA⟩:=bN
  repeat' (first
 |simp only[go_sem,hD,hY,hZ,gA]
 |(with_reducible refine CU (hs _) ?_)
 |(with_reducible refine aE hQ ?_;exact bo))
 have hs:=fun s=>acj h kv s
 have hb:=CC kv
 simp only[kv,if_true]at hR
 refine aF.go zr rfl fun B Q hB hQ=>?_
 have⟨hD,hY,hZ,gA⟩:=bN
 repeat' (first
 |simp only[go_sem,hD,hY,hZ,gA]
 |(with_reducible refine CU (hs _) ?_)
 |(with_reducible refine aE hQ ?_;exact bo))
 refine fc 2 0 (br.ind (ι:=List Pc×Nat) (fun i=>p.procs.drop i.2=i.1∧zJ 7 (pI i.1)=R) (fun i=>i.1.length)
  (fun i=> [(1, .ptr 0 0),(2, .ptr 1 0),(3, .dI (fL p) 0),(16, .slice .shared 5 (p.procs.map cy)),(17, .int .i64 (p.procs.length:Int)),(18, .int .i64 (i.2:Int))]) (fun i=>⟨[cB p,[.int .i64 0, .int .i64 0]],[]⟩) ?_ (p.procs,0) ⟨rfl,hR⟩)
 clear hR
 rintro⟨rest,k⟩ ⟨h1,hR⟩ IH
 dsimp only at h1 hR
 cases rest with
 |nil=>
  have hD:=drop_nil h1
  simp only[pI,zJ]at hR
  subst hR
  repeat' (first
 |simp only[go_sem,hD,hY,hZ,gA]
 |(with_reducible refine aE hQ ?_;exact bo))
 | cons f rest=>
  obtain⟨hY,g2,hD,g4⟩:=drop_cons h1
  have bW:k<4611686018427387904:=by omega
  have Bu:=List.mem_of_getElem? hY
  have xL:=fun s=>afH hb hY (by omega) s
  have qL:=sI (k:Int) 0 (-1) 0 f.body
  have xJ:=LB (k:Int) f
  have ajX:=fun m=>xX (pr:=(k:Int)) (up:=0) (next:= -1) (loop:=0) f.body m
  have LF:=Ga h Bu
  have wQ:=IK h Bu
  have agm:(gu (Sm.cL f.body)).length≤900000:=by
   have h1:=sO f.body
   have h2:=Pc.df Bu
   simp only[Pc.size]at h2
   omega
  rw[← qL]at agm
  generalize hI:Sm.iG (k:Int) 0 (-1) 0 f.body=I at *
  have hIl:I.length≤900000:=by rw[← qL,List.length_map]at LF;exact LF
  simp only[pI, ← xJ]at hR
  obtain⟨J,hJ⟩ : ∃ J,oH f.labels f.fin [] (I.map Im.pair)=J:=⟨_,rfl⟩
  rw[hJ]at hR
  have hld:=fun(m:Im) (hm:m∈I) s=>ab1 h hb hY m (ajX m hm) s
  repeat' (first
 |simp only[go_sem,hD,hY,hZ,gA]
 |(with_reducible refine CU (xL _) ?_)
 | (with_reducible refine aE hQ ?_;exact bo))
  refine br.rn 6 1 rfl ?_
  simp only[go_sem,hD,hY,hZ,gA]
  refine fc 3 1 (br.ind (ι:=List Im×Nat×List az×Nat) (fun i=>I.drop i.2.1=i.1∧oH f.labels f.fin i.2.2.1 (i.1.map Im.pair)=J∧i.2.2.2=i.2.2.1.length∧i.2.2.1.length+(gu (i.1.map Im.s)).length≤900000) (fun i=>i.1.length)
   (fun i=> [(1, .ptr 0 0),(2, .ptr 1 0),(3, .dI (fL p) 0),(5, .ptr 2 0),(6, .slice (.tok 0) 1 (i.2.2.1.map encStr)),(16, .slice .shared 5 (p.procs.map cy)),(17, .int .i64 (p.procs.length:Int)),(18, .int .i64 (k:Int)),
    (25, .slice .shared 17 (I.map dF)),(26, .int .i64 (I.length:Int)),(27, .int .i64 (i.2.1:Int))]) (fun i=>⟨[cB p,[.int .i64 0, .int .i64 0],cy f],[some i.2.2.2]⟩) ?_ (I,0,[],0) ⟨rfl,hJ,rfl,by simpa using agm⟩)
  clear hJ
  rintro⟨xQ,k2,seen,n2⟩ ⟨j1,j2,j3,j4⟩ FY
  dsimp only at j1 j2 j3 j4
  subst j3
  cases xQ with
  | nil=>
   have agn:=drop_nil j1
   simp only[List.map_nil,oH]at j2
   simp only[List.map_nil,gu,List.length_nil,Nat.add_zero]at j4
   have Jc:=fun {s:St} {t:Nat} (ht:s.ay[t]? = some (some seen.length))=>Ur (seen:=seen) (l:=f.fin) (by omega) ht
   obtain⟨P1,hP1⟩ : ∃ P1,ib seen f.fin=P1:=⟨_,rfl⟩
   rw[hP1]at j2 Jc
   rcases Bool.eq_false_or_eq_true P1.2 with c1|c1
   ·simp only [c1,if_true]at j2
    subst j2
    simp only at hR
    repeat' (first
 |simp only[go_sem,hD,hY,hZ,gA,agn,c1,Bool.not_true]
 |(with_reducible refine CU (Jc (by with_unfolding_all rfl)) ?_)
 | (with_reducible refine aE hQ ?_;exact bo))
    refine fe 2 0 ?_ ?_ (IH (rest,k+1) ⟨g2,hR⟩ (Nat.lt_succ_self _))
    ·(simp only[go_sem,hD,hY,hZ,gA,aJ bW];try exact cq)
    ·(simp only[go_sem,hD,hY,hZ,gA,aJ bW];try exact cq)
   ·simp only [c1,Bool.false_eq_true,if_false]at j2
    subst j2
    simp only[zJ]at hR
    subst hR
    repeat' (first
 |simp only[go_sem,hD,hY,hZ,gA,agn,c1,Bool.not_false]
 |(with_reducible refine CU (Jc (by with_unfolding_all rfl)) ?_)
 | (with_reducible refine aE hQ ?_;exact bo))
  | cons m xQ=>
   obtain⟨p9,j5,zE,j6⟩:=drop_cons j1
   have zF:k2<4611686018427387904:=by omega
   have Ox:=List.mem_of_getElem? p9
   have Z3:=fun s=>hld m Ox s
   simp only[List.map_cons,Im.pair,oH]at j2
   simp only[List.map_cons,gu,List.length_append]at j4
   have Jc:=fun {s:St} {t:Nat} (ht:s.ay[t]? = some (some seen.length))=>Ur (seen:=seen) (l:=m.s.labels) (by omega) ht
   have YU:=U0 seen m.s.labels
   obtain⟨P1,hP1⟩ : ∃ P1,ib seen m.s.labels=P1:=⟨_,rfl⟩
   rw[hP1]at j2 Jc YU
   rcases Bool.eq_false_or_eq_true P1.2 with c1|c1
   ·rcases Bool.eq_false_or_eq_true (oG f.labels m.s m.loop)with c2 | c2
    ·simp only [c1,c2,if_true]at j2
     repeat' (first
 |simp only[go_sem,hD,hY,hZ,gA,p9,zE,c1,c2,Bool.not_true]
 |(with_reducible refine CU (Jc (by with_unfolding_all rfl)) ?_)
 |(with_reducible refine CU (Z3 _) ?_)
 | (with_reducible refine aE hQ ?_;exact bo))
     refine fe 3 1 ?_ ?_ (FY (xQ,k2+1,P1.1,P1.1.length) ⟨j5,j2,rfl,by dsimp only;omega⟩ (Nat.lt_succ_self _))
     ·(simp only[go_sem,hD,hY,hZ,gA,aJ zF];try exact cq)
     ·(simp only[go_sem,hD,hY,hZ,gA,aJ zF];try exact cq)
    ·simp only [c1,c2,if_true,Bool.false_eq_true,if_false]at j2
     subst j2
     simp only[zJ]at hR
     subst hR
     repeat' (first
 |simp only[go_sem,hD,hY,hZ,gA,p9,zE,c1,c2,Bool.not_true,Bool.not_false]
 |(with_reducible refine CU (Jc (by with_unfolding_all rfl)) ?_)
 |(with_reducible refine CU (Z3 _) ?_)
 | (with_reducible refine aE hQ ?_;exact bo))
   ·simp only [c1,Bool.false_eq_true,if_false]at j2
    subst j2
    simp only[zJ]at hR
    subst hR
    repeat' (first
 |simp only[go_sem,hD,hY,hZ,gA,p9,zE,c1,Bool.not_false]
 |(with_reducible refine CU (Jc (by with_unfolding_all rfl)) ?_)
 |(with_reducible refine CU (Z3 _) ?_)
 |(with_reducible refine aE hQ ?_;exact bo))
theorem X8 (x:It):(fW x)[2]? = some (.slice .shared 1 (x.s.labels.map encStr)):=nd rfl
theorem U1 (x:It):(fW x)[14]? = some (.int .i64 x.cu):=nd rfl
attribute [go_sem] X8 U1
end Go.Abs
namespace Go.Abs
set_option maxRecDepth 8000
open Go.Proofs
def Pc.aq4:List Pc→Nat
 | []=>0
 |f::l=>Sm.jr f.body+Pc.aq4 l
theorem X9 {p:Pg} (h:p.may=false):p.scope=(1,0):=by unfold Pg.scope;rw[h];rfl
theorem agp {p:Pg} (h:p.iX) (s:St):aF Tryz.prog yp [.agg (cB p)] s (.agg [.int .i64 p.check.1, .int .i64 p.check.2]) s:=by
 refine aF.pure ?_ (by simp[D.bJ,D.ok,jq]) rfl s
 have h1:=fun s=>Lj h.Rc s
 rw[Ds]at h1
 have h2:=fun s=>wN h s
 have h3:=fun s=>Lt h s
 have h4:=fun s=>X7 h s
 have h5:=fun s=>Uy h s
 obtain⟨R,hR⟩ : ∃ R,p.check=R:=⟨_,rfl⟩
 rw[hR]
 unfold Pg.check at hR
 unfold S0
 rcases Bool.eq_false_or_eq_true p.may with b0|b0
 case inr=>
  have e:((1:Int)==0)=false:=rfl
  rw[X9 b0]at hR
  simp only[e,Bool.false_eq_true,if_false]at hR
  subst hR
  refine aF.go oT rfl fun B Q hB hQ=>?_
  have⟨hD,hY,hZ,gA⟩:=bN
  repeat' (first
 |simp only[go_sem,hD,hY,hZ,gA,b0,Bool.not_false]
 |(with_reducible refine CU (h1 _) ?_)
 |(with_reducible refine aE hQ ?_;exact bo))
 rcases Bool.eq_false_or_eq_true (p.scope.1==0)with b1|b1
 case inr=>
  simp only[b1,Bool.false_eq_true,if_false]at hR
  subst hR
  refine aF.go oT rfl fun B Q hB hQ=>?_
  have⟨hD,hY,hZ,gA⟩:=bN
  repeat' (first
 |simp only[go_sem,hD,hY,hZ,gA,b0,b1,Bool.not_true]
 |(with_reducible refine CU (h1 _) ?_)
 |(with_reducible refine CU (h2 _) ?_)
 |(with_reducible refine aE hQ ?_;exact bo))
 simp only[b1,if_true]at hR
 rcases Bool.eq_false_or_eq_true (p.arity.1==0)with b2|b2
 case inr=>
  simp only[b2,Bool.false_eq_true,if_false]at hR
  subst hR
  refine aF.go oT rfl fun B Q hB hQ=>?_
  have⟨hD,hY,hZ,gA⟩:=bN
  repeat' (first
 |simp only[go_sem,hD,hY,hZ,gA,b0,b1,b2,Bool.not_true]
 |(with_reducible refine CU (h1 _) ?_)
 |(with_reducible refine CU (h2 _) ?_)
 |(with_reducible refine CU (h3 _) ?_)
 |(with_reducible refine aE hQ ?_;exact bo))
 simp only[b2,if_true]at hR
 rcases Bool.eq_false_or_eq_true (p.jump.1==0)with b3|b3
 case inr=>
  simp only[b3,Bool.false_eq_true,if_false]at hR
  subst hR
  refine aF.go oT rfl fun B Q hB hQ=>?_
  have⟨hD,hY,hZ,gA⟩:=bN
  repeat' (first
 |simp only[go_sem,hD,hY,hZ,gA,b0,b1,b2,b3,Bool.not_true]
 |(with_reducible refine CU (h1 _) ?_)
 |(with_reducible refine CU (h2 _) ?_)
 |(with_reducible refine CU (h3 _) ?_)
 |(with_reducible refine CU (h4 _) ?_)
 |(with_reducible refine aE hQ ?_;exact bo))
 simp only[b3,if_true]at hR
 subst hR
 refine aF.go oT rfl fun B Q hB hQ=>?_
 have⟨hD,hY,hZ,gA⟩:=bN
 repeat' (first
 |simp only[go_sem,hD,hY,hZ,gA,b0,b1,b2,b3,Bool.not_true]
 |(with_reducible refine CU (h1 _) ?_)
 |(with_reducible refine CU (h2 _) ?_)
 |(with_reducible refine CU (h3 _) ?_)
 |(with_reducible refine CU (h4 _) ?_)
 |(with_reducible refine CU (h5 _) ?_)
 |(with_reducible refine aE hQ ?_;exact bo))
theorem U2 {p:Pg} (h:p.iX) (s:St):aF Tryz.prog tP [.agg (cB p)] s (.bool (p.check.1==0)) s:=by
 refine aF.pure ?_ (by simp[D.bJ,D.ok,jq]) rfl s
 have h1:=fun s=>agp h s
 unfold S0
 refine aF.go Jm rfl fun B Q hB hQ=>?_
 have⟨hD,hY,hZ,gA⟩:=bN
 repeat' (first
 |simp only[go_sem,hD,hY,hZ,gA]
 |(with_reducible refine CU (h1 _) ?_)
 |(with_reducible refine aE hQ ?_;exact bo))
def fu (m:Mc):List D:= [.int .i64 m.fin, .int .i64 m.steps, .int .i64 m.reads, .slice .shared 1 (m.out.map cz), .slice .shared 2 (m.trace.map gJ)]
theorem agq (e:Int×List Int):D.bJ 0 0 (gJ e)=true:=by simp[gJ,D.bJ,D.ok,Tag.ok,je]
theorem aai (l:List (Int×List Int)):D.gL 0 0 (l.map gJ)=true:=ig agq l
theorem ajY (n m:Nat) (l:List (Int×List Int)):D.kZ n m (l.map gJ)=l.map gJ:=mI agq n m l
attribute [go_sem] ajY
abbrev runT (m:Mc):List D:= [.int .i64 m.fin, .int .i64 m.steps, .int .i64 m.reads, .slice (.tok 0) 1 (m.out.map cz), .slice (.tok 1) 2 (m.trace.map gJ)]
section
variable {p:Pg} {T W:List Int} {fuel:Int} {B:gi} {Q:Exit→Tm→St→Prop} {mf:Mc}
theorem Inv.rX {y:Lay} {m:Mc} {s:St} {q:Nat} {r r':List D} {loc:List (Nat×List D)} (h:Inv p T W y m ((q,r)::loc) s) (hq : ∀ x∈loc,x.1≠q) (hr:r.length≠4):Inv p T W y m ((q,r')::loc) ⟨s.ah.set q r',s.ay⟩:=by
 obtain⟨h1,h2⟩:=h.loc (q,r) (List.mem_cons_self ..)
 simp only at h1 h2
 have ne : ∀ {o:Nat} {x:List D},s.ah[o]? = some x→o≠q→(s.ah.set q r')[o]? = some x:=fun e hn=>by rw[List.getElem?_set_ne (Ne.symm hn)];exact e
 have no : ∀ o∈y.own,o≠q:=fun o mo e=>h2 (e ▸ mo)
 have ka : ∀ {d:D} {cs:List D},(∀ o∈d.arr,o∈y.own)→j7 s d cs→j7 ⟨s.ah.set q r',s.ay⟩ d cs:=fun hd ha=>ha.keep fun o mo=>by
  show(s.ah.set q r')[o]? = _
  rw[List.getElem?_set_ne (Ne.symm (no o (hd o mo)))]
 obtain⟨l,hl⟩:=h.bI
 refine⟨ne h.j8 (no 0 (by simp[Lay.own])),h.t0,h.t1,h.len,fun i c v e1 e2=>ne (h.cell i c v e1 e2) (no c (by simp[Lay.own,List.mem_of_getElem? e1])),h.tw,fun i o fr e1 e2=>?_,ka (fun o m=>by simp[Lay.own,m]) h.stack,⟨l,ka (fun o m=>by simp[Lay.own,m]) hl⟩,h.own,fun x mx=>?_⟩
 ·obtain⟨f1,f2,f3⟩:=h.frame i o fr e1 e2
  exact⟨ne f1 (NF f1 h1 fun e=>hr (by rw[← e];rfl)),f2,f3⟩
 ·rcases List.mem_cons.1 mx with rfl | mx
  ·exact⟨by simp[gj h1],h2⟩
  ·obtain⟨f1,f2⟩:=h.loc x (List.mem_cons_of_mem _ mx)
   exact⟨ne f1 (hq x mx),f2⟩
abbrev C7:List D:= [.int .i64 0, .int .i64 0, .int .i64 0, .slice .full 0 [], .slice .full 0 []]
structure HF (p:Pg) (T W:List Int) (fuel:Int):Prop where
 ok:p.iX
 right:p.Right
 W:W.length<1000000
 T:T.length<1000000
 fuel:0≤fuel∧fuel≤1000000
structure At (p:Pg) (T W:List Int) (fuel:Int) (a:Int) (m:Mc) (y:Lay) (q:Nat) (s:St):Prop where
 inv : ∃ r:List D,r.length=17∧Inv p T W y m [(q,r),(2,C7)] s
 ok:qc p p.bg.L a m
 sz:yK m
 fin:m.fin=0
 fuel:m.steps≤fuel
abbrev TMr (fuel:Int) (q:Nat) (a:Int):Tm:= [(2, .int .i64 fuel),(8, .ptr 2 0),(10, .ptr 0 0),(11, .ptr q 0),(13, .int .i64 a)]
abbrev JJ (B:gi) (Q:Exit→Tm→St→Prop):=Ad Tryz.prog B 131 Q3W Q
theorem Gx (hQ:qE 0 0 [(8,some (true,5)),(9,none)] (.tuple [.agg (fu mf), .int .i64 0]) ⟨[],[]⟩=Q) {y:Lay} {q:Nat} {r:List D} {s:St} (h:Inv p T W y mf [(q,r),(2,C7)] s) {tm:Tm} (ht:wq tm [(8, .ptr 2 0),(10, .ptr 0 0)]):JJ B Q (.goto 2) tm s:=by
 refine EC (r:= .seq .skip Q3E) rfl (mw.qy ht (mw.lE ?_))
 have hm:=h.j8
 rw[fH]at hm
 have h2:=(h.loc (2,C7) (by simp)).1
 have hl:=gj h2
 have⟨hD,hY,hZ,gA⟩:=bN
 have Bi : ∀ r,(s.ah.set 2 r)[2]? = some r:=fun r=>List.getElem?_set_self hl
 simp only[fu]at hQ
 repeat' (first
 |simp only[go_sem,hD,hY,hZ,gA,hm,h2,Bi]
 |(with_reducible first|refine bk fun hc=>?_|refine bl fun hc=>?_|refine bm (fun hc=>?_) fun hc=>?_)<;>(try simp only[hc,bs,↓reduceIte]at h)<;>try simp only[hc]
 |(with_reducible refine aE hQ ?_;(try cases h);simp only[aT,aV,bE,bF,go_sem,hD,hY,hZ,gA,hm,h2,Bi];try exact cf)
 |(cases h;done))
theorem Me (hS:HF p T W fuel) (hQ:qE 0 0 [(8,some (true,5)),(9,none)] (.tuple [.agg (fu mf), .int .i64 0]) ⟨[],[]⟩=Q) {a:Int} {m:Mc} {y:Lay} {q:Nat} {s:St} {g:Int} (h:At p T W fuel a m y q s)
 (ags:m.back p.bg.L g=(none,mf)∨∃ a' m',m.back p.bg.L g=(some a',m')∧∀ y' s' tm,At p T W fuel a' m' y' q s'→wq tm (TMr fuel q a')→JJ B Q (.goto 1) tm s')
 {tm:Tm} (ht:wq tm [(2, .int .i64 fuel),(8, .ptr 2 0),(10, .ptr 0 0),(11, .ptr q 0),(12, .int .i64 g)]):JJ B Q (.goto 0) tm s:=by
 obtain⟨⟨r,hr,hi⟩,qw,dP,wQ,hfu⟩:=h
 obtain⟨fr,rs,f,AZ,h1,h2,h3,h4⟩:=Md hS.ok qw (by have:=dP.st;omega)
 have Ek:=dP.run (by have:=hS.fuel;omega) hS.ok hS.W hS.T
 have hc:=RJ hS.ok hS.right qw (by have:=dP.st;omega) AZ
 have c1:=acg hi AZ Ek.L hc g
 have pA:=A9 p.bg.L m g
 refine EC (r:= .seq .skip Q3H) rfl (mw.qy ht (mw.lE ?_))
 have⟨hD,hY,hZ,gA⟩:=bN
 repeat' (first
 |simp only[go_sem,hD,hY,hZ,gA]
 |(with_reducible first|refine bk fun hc=>?_|refine bl fun hc=>?_|refine bm (fun hc=>?_) fun hc=>?_)<;>(try simp only[hc,bs,↓reduceIte]at h)<;>try simp only[hc]
 |(with_reducible refine aE hQ ?_;exact fD)
 |(cases h;replace h:=hr;clear hr;(try simp only[bs,↓reduceIte]at h))
 |(cases h;done))
 refine CR c1 fun d s2 Mf=>?_
 obtain⟨rfl,y2,wX,og⟩:=Mf
 have jX:=og.j8
 rw[fH]at jX
 have hz2:=(og.loc (2,C7) (by simp)).1
 have jc:=gj hz2
 have Bi : ∀ r,(s2.ah.set 2 r)[2]? = some r:=fun r=>List.getElem?_set_self jc
 simp only at hz2
 have hb:m.back p.bg.L g=(if(m.close p.bg.L g).2.fin==0 then some (m.close p.bg.L g).1 else none,(m.close p.bg.L g).2):=rfl
 rcases Bool.eq_false_or_eq_true ((m.close p.bg.L g).2.fin==0)with b|b
 ·rw [b,if_pos rfl]at hb
  rcases ags with he|⟨a',m',he,hIH⟩
  ·rw[hb]at he;cases he
  ·have hk:=ab8 (qb hS.right) qw he
   rw[hb]at he
   cases he
   repeat' (first
 |simp only[go_sem,hD,hY,hZ,gA,jX,b]
 |(with_reducible first|refine bk fun hc=>?_|refine bl fun hc=>?_|refine bm (fun hc=>?_) fun hc=>?_)<;>(try simp only[hc,bs,↓reduceIte]at h)<;>try simp only[hc]
 |(with_reducible refine aE hQ ?_;(try cases h);simp only[aT,aV,bE,bF,go_sem,hD,hY,hZ,gA,jX,b];try exact cf)
 |(cases h;replace h:=hr;clear hr;(try simp only[bs,↓reduceIte]at h))
 | (cases h;done))
   refine hIH y2 s2 _ ⟨⟨r,hr,og⟩,hk,dP.close g,by simpa using b,by rw[pA.2.2.2.1];exact hfu⟩ ?_
   simp only[go_sem]
   repeat' (first|exact Ok.out|with_reducible refine jn ?_ ?_)
 ·rw [b,if_neg (by simp)]at hb
  rcases ags with he|⟨a',m',he,hIH⟩
  ·rw [hb]at he
   cases he
   simp only[fu]at hQ
   repeat' (first
 |simp only[go_sem,hD,hY,hZ,gA,jX,b,hz2,Bi]
 |(with_reducible first|refine bk fun hc=>?_|refine bl fun hc=>?_|refine bm (fun hc=>?_) fun hc=>?_)<;>(try simp only[hc,bs,↓reduceIte]at h)<;>try simp only[hc]
 |(with_reducible refine aE hQ ?_;(try cases h);simp only[aT,aV,bE,bF,go_sem,hD,hY,hZ,gA,jX,b,hz2,Bi];try exact cf)
 |(cases h;replace h:=hr;clear hr;(try simp only[bs,↓reduceIte]at h))
 |(cases h;done))
  ·rw[hb]at he;cases he
theorem Ya (hS:HF p T W fuel) (hQ:qE 0 0 [(8,some (true,5)),(9,none)] (.tuple [.agg (fu mf), .int .i64 0]) ⟨[],[]⟩=Q) : ∀ (N:Nat) (a:Int) (m:Mc) (y:Lay) (q:Nat) (s:St),At p T W fuel a m y q s→Mc.go p p.bg.L T W fuel N a m=some mf→
 Sem Tryz.prog B 131 Q3P (JJ B Q) (TMr fuel q a) s:=by
 intro N
 induction N with
 |zero=>intro a m y q s _ h;cases h
 | succ N ih=>
  intro a m y q s rZ lB
  have IH : ∀ (a':Int) (m':Mc) (y':Lay) (s':St) (tm:Tm),Mc.go p p.bg.L T W fuel N a' m'=some mf→At p T W fuel a' m' y' q s'→wq tm (TMr fuel q a')→JJ B Q (.goto 1) tm s':=fun a' m' y' s' tm hg hA ht=>
   EC (r:= .seq .skip Q3P) rfl (mw.qy ht (mw.once (Sem.nN (ih a' m' y' q s' hA hg))))
  have aq5:=rZ
  obtain⟨⟨r,hr,hi⟩,qw,dP,wQ,hfu⟩:=rZ
  simp only[Mc.go]at lB
  refine iW ?_
  have⟨hD,hY,hZ,gA⟩:=bN
  have hm:=hi.j8
  rw[fH]at hm
  have rE:=hi.vC
  rcases Bool.eq_false_or_eq_true (a == -1)with ba|ba
  ·have hn:m.next p p.bg.L T W fuel a=m.back p.bg.L 0:=by unfold Mc.next;rw [if_pos ba]
   rw[hn]at lB
   repeat' (first
 |simp only[go_sem,hD,hY,hZ,gA,ba]
 |(with_reducible first|refine bk fun hc=>?_|refine bl fun hc=>?_|refine bm (fun hc=>?_) fun hc=>?_)<;>(try simp only[hc,bs,↓reduceIte]at h)<;>try simp only[hc]
 |(with_reducible refine aE hQ ?_;(try cases h);simp only[aT,aV,bE,bF,go_sem,hD,hY,hZ,gA,ba];try exact cf)
 |(cases h;replace h:=hr;clear hr;(try simp only[bs,↓reduceIte]at h))
 | (cases h;done))
   refine Me hS hQ aq5 (g:=0) ?_ ?_
   ·rcases e:m.back p.bg.L 0 with ⟨_ | a',m'⟩
    ·rw[e]at lB;cases lB;exact .inl rfl
    ·rw[e]at lB;exact .inr ⟨a',m',rfl,fun y' s' tm h1 h2=>IH a' m' y' s' tm lB h1 h2⟩
   ·simp only [go_sem]
    repeat' (first|exact Ok.out|with_reducible refine jn ?_ ?_)
  rcases Bool.eq_false_or_eq_true (m.steps==fuel)with bf|bf
  ·have hn:m.next p p.bg.L T W fuel a=(none,{m with fin:=2}):=by unfold Mc.next;rw [if_neg (by simp [ba]),if_pos bf]
   rw[hn]at lB
   cases lB
   have h2:=hi.uO (m':= {m with fin:=2}) rfl rfl hi.t0 hi.t1
   rw[fH]at h2
   simp only at h2
   repeat' (first
 |simp only[go_sem,hD,hY,hZ,gA,ba,bf,hm,rE]
 |(with_reducible first|refine bk fun hc=>?_|refine bl fun hc=>?_|refine bm (fun hc=>?_) fun hc=>?_)<;>(try simp only[hc,bs,↓reduceIte]at h)<;>try simp only[hc]
 |(with_reducible refine aE hQ ?_;(try cases h);simp only[aT,aV,bE,bF,go_sem,hD,hY,hZ,gA,ba,bf,hm,rE];try exact cf)
 |(cases h;replace h:=hr;clear hr;(try simp only[bs,↓reduceIte]at h))
 | (cases h;done))
   refine Gx hQ h2 ?_
   simp only[go_sem]
   repeat' (first|exact Ok.out|with_reducible refine jn ?_ ?_)
  -- a statement
  obtain⟨fr,rs,f,AZ,h1,h2,h3,h4⟩:=Md hS.ok qw (by have:=dP.st;omega)
  have aq6:a≠ -1:=by simpa using ba
  obtain⟨hx,xJ,gN,c,hac,Mg⟩:=ach qw h4 hS.right aq6 h1
  have hfb:=hS.fuel
  have Ek:=dP.run (by omega) hS.ok hS.W hS.T
  have azh:m.steps<fuel:=by
   have h:m.steps≠fuel:=by simpa using bf
   omega
  have wb:=dP.steps
  have Gu:IntKind.wrap .i64 (m.steps+1)=m.steps+1:=ek (by omega) (by omega)
  have C4:IntKind.wrap .i64 (a - 1)=(c:Int):=by
   have:=(List.getElem?_eq_some_iff.1 Mg).1
   have:=Ek.L
   rw[show a - 1=(c:Int) by omega];exact ek (by omega) (by omega)
  have cS:(fL p)[2]? = some (.slice .shared 17 (p.bg.L.map dF)):=rfl
  have Oy:=hi.uO (m':= {m with steps:=m.steps+1}) rfl rfl hi.t0 hi.t1
  generalize qA:fa p.bg.L a=it at *
  have aq7:2≠q:=by
   have e1:=(hi.loc (q,r) (by simp)).1
   have e2:=(hi.loc (2,C7) (by simp)).1
   exact NF e2 e1 fun e=>by have e':C7=r:=e;rw[← e']at hr;cases hr
  have HG:17≤r.length:=by omega
  have Oz:List.drop 17 r = []:=List.drop_of_length_le (by omega)
  have og:=Oy.rX (r':=dF it) (by simpa using aq7) (by omega)
  have nV:=Oy.j8
  have Jd:=(Oy.loc (q,r) (by simp)).1
  have Cc:=(og.loc (q,dF it) (by simp)).1
  rw[fH]at nV og Jd Cc
  simp only at nV og Jd Cc
  have hle:q<s.ah.length:=gj (hi.loc (q,r) (by simp)).1
  have RM:nC ({m with steps:=m.steps+1} : Mc) fr rs:=⟨AZ.st,AZ.len,AZ.names,AZ.vars⟩
  have RN:JV p T W ({m with steps:=m.steps+1} : Mc):=⟨Ek.W,Ek.T,Ek.trace,Ek.out,Ek.L,Ek.P,Ek.reads⟩
  have Mh:qc p p.bg.L a ({m with steps:=m.steps+1} : Mc):=qw.of rfl (Nat.le_refl _) qw.at_
  have hn:m.next p p.bg.L T W fuel a=(if it.s.kind==4 then(if(({m with steps:=m.steps+1} : Mc).call p W it.s).2.fin==0 then some (({m with steps:=m.steps+1} : Mc).call p W it.s).1 else none,(({m with steps:=m.steps+1} : Mc).call p W it.s).2)
   else if it.s.kind==9 then(if(({m with steps:=m.steps+1} : Mc).fv W it.s).2.fin==0 then(({m with steps:=m.steps+1} : Mc).fv W it.s).2.back p.bg.L (({m with steps:=m.steps+1} : Mc).fv W it.s).1 else(none,(({m with steps:=m.steps+1} : Mc).fv W it.s).2))
   else(if(({m with steps:=m.steps+1} : Mc).do p p.bg.L T W it).2.fin==0 then some (({m with steps:=m.steps+1} : Mc).do p p.bg.L T W it).1 else none,(({m with steps:=m.steps+1} : Mc).do p p.bg.L T W it).2)):=by
   unfold Mc.next
   rw[if_neg (by simp[ba]),if_neg (by simp[bf])]
   dsimp only
   rw[qA]
  rw[hn]at lB
  generalize Ox:({m with steps:=m.steps+1} : Mc)=m1 at *
  have aq8:m1.fin=0:=by rw[← Ox];exact wQ
  have Yb:m1.steps=m.steps+1:=by rw[← Ox]
  have RO : ∀ m2:Mc,C6 m1 m2→m2.st.length≤101→yK m2:=fun m2 hl hs=>dP.less (by rw[Ox];exact hl) hs
  have Mi:m1.st=m.st:=by rw[← Ox]
  rcases Bool.eq_false_or_eq_true (it.s.kind==4)with b4|b4
  ·rw [if_pos b4]at lB
   have II:it.s.kind=4:=by simpa using b4
   have c1:=UW hS.ok hS.right.may og RM RN Mh.ve (UX hS.ok hS.right hx II h2 h3)
   repeat' (first
 |simp only[go_sem,hD,hY,hZ,gA,ba,bf,hm,rE,Gu,nV,C4,Mg,cS,Jd,Cc,hle,b4,HG,Oz,List.append_nil]
 |(with_reducible first|refine bk fun hc=>?_|refine bl fun hc=>?_|refine bm (fun hc=>?_) fun hc=>?_)<;>(try simp only[hc,bs,↓reduceIte]at h)<;>try simp only[hc]
 |(with_reducible refine aE hQ ?_;(try cases h);simp only[aT,aV,bE,bF,go_sem,hD,hY,hZ,gA,ba,bf,hm,rE,Gu,nV,C4,Mg,cS,Jd,Cc,hle,b4,HG,Oz,List.append_nil];try exact cf)
 |(cases h;replace h:=hr;clear hr;(try simp only[bs,↓reduceIte]at h))
 | (cases h;done))
   refine CR c1 fun d s2 Mf=>?_
   obtain⟨rfl,y2,_,C8⟩:=Mf
   have oZ:=C8.j8
   rw[fH]at oZ
   have pA:=UZ p W m1 it.s
   have oe:(m1.call p W it.s).2.st.length≤101:=by
    rcases pA.2 with h|h
    ·rw[Mi]at h;have:=dP.st;omega
    ·exact h
   rcases Bool.eq_false_or_eq_true ((m1.call p W it.s).2.fin==0)with b|b
   ·rw [b,if_pos rfl]at lB
    repeat' (first
 |simp only[go_sem,hD,hY,hZ,gA,oZ,b]
 |(with_reducible first|refine bk fun hc=>?_|refine bl fun hc=>?_|refine bm (fun hc=>?_) fun hc=>?_)<;>(try simp only[hc,bs,↓reduceIte]at h)<;>try simp only[hc]
 |(with_reducible refine aE hQ ?_;(try cases h);simp only[aT,aV,bE,bF,go_sem,hD,hY,hZ,gA,oZ,b];try exact cf)
 |(cases h;replace h:=hr;clear hr;(try simp only[bs,↓reduceIte]at h))
 | (cases h;done))
    refine IH _ _ y2 s2 _ lB ⟨⟨dF it,rfl,C8⟩,aca hS.right Mh hx II (by rw[xJ, ← h4];unfold Mc.top;rw[Mi]) (by simpa using b) rfl aq8,RO _ pA.1 oe,by simpa using b,by rw[pA.1.steps,Yb];omega⟩ ?_
    simp only[go_sem]
    repeat' (first|exact Ok.out|with_reducible refine jn ?_ ?_)
   ·rw [b,if_neg (by simp)]at lB
    cases lB
    repeat' (first
 |simp only[go_sem,hD,hY,hZ,gA,oZ,b]
 |(with_reducible first|refine bk fun hc=>?_|refine bl fun hc=>?_|refine bm (fun hc=>?_) fun hc=>?_)<;>(try simp only[hc,bs,↓reduceIte]at h)<;>try simp only[hc]
 |(with_reducible refine aE hQ ?_;(try cases h);simp only[aT,aV,bE,bF,go_sem,hD,hY,hZ,gA,oZ,b];try exact cf)
 |(cases h;replace h:=hr;clear hr;(try simp only[bs,↓reduceIte]at h))
 | (cases h;done))
    refine Gx hQ C8 ?_
    simp only[go_sem]
    repeat' (first|exact Ok.out|with_reducible refine jn ?_ ?_)
  rw[if_neg (by simp[b4])]at lB
  rcases Bool.eq_false_or_eq_true (it.s.kind==9)with b9|b9
  ·rw [if_pos b9]at lB
   have c1:=ace og RM (Ow hS.ok hS.right hx h2 h3).said RN.W RN.trace
   repeat' (first
 |simp only[go_sem,hD,hY,hZ,gA,ba,bf,hm,rE,Gu,nV,C4,Mg,cS,Jd,Cc,hle,b4,b9,HG,Oz,List.append_nil]
 |(with_reducible first|refine bk fun hc=>?_|refine bl fun hc=>?_|refine bm (fun hc=>?_) fun hc=>?_)<;>(try simp only[hc,bs,↓reduceIte]at h)<;>try simp only[hc]
 |(with_reducible refine aE hQ ?_;(try cases h);simp only[aT,aV,bE,bF,go_sem,hD,hY,hZ,gA,ba,bf,hm,rE,Gu,nV,C4,Mg,cS,Jd,Cc,hle,b4,b9,HG,Oz,List.append_nil];try exact cf)
 |(cases h;replace h:=hr;clear hr;(try simp only[bs,↓reduceIte]at h))
 | (cases h;done))
   refine CR c1 fun d s2 Mf=>?_
   obtain⟨rfl,y2,_,C8⟩:=Mf
   have oZ:=C8.j8
   rw[fH]at oZ
   have sD:=RK W m1 it.s
   have hgs:=(AP W m1 it.s).1
   rcases Bool.eq_false_or_eq_true ((m1.fv W it.s).2.fin==0)with b|b
   ·rw [b,if_pos rfl]at lB
    repeat' (first
 |simp only[go_sem,hD,hY,hZ,gA,oZ,b]
 |(with_reducible first|refine bk fun hc=>?_|refine bl fun hc=>?_|refine bm (fun hc=>?_) fun hc=>?_)<;>(try simp only[hc,bs,↓reduceIte]at h)<;>try simp only[hc]
 |(with_reducible refine aE hQ ?_;(try cases h);simp only[aT,aV,bE,bF,go_sem,hD,hY,hZ,gA,oZ,b];try exact cf)
 |(cases h;replace h:=hr;clear hr;(try simp only[bs,↓reduceIte]at h))
 | (cases h;done))
    have Ui:m1.mem.length≤(m1.fv W it.s).2.mem.length:=by
     have hw:=gR m1 it.s.x
     unfold Mc.fv
     split
     ·dsimp only
      split
      ·rw[(fh _ _ _ _).2.1,hw.2.1];exact Nat.le_refl _
      ·rw[hw.2.1];exact Nat.le_refl _
     ·rw[(fh _ _ _ _).2.1];exact Nat.le_refl _
    refine Me (a:=a) (g:=(m1.fv W it.s).1) hS hQ (y:=y2) ⟨⟨dF it,rfl,C8⟩,Mh.of hgs Ui Mh.at_,RO _ sD (by rw[hgs,Mi];exact dP.st),by simpa using b,by rw[sD.steps,Yb];omega⟩ ?_ ?_
    ·rcases e:(m1.fv W it.s).2.back p.bg.L (m1.fv W it.s).1 with ⟨_ | a',m'⟩
     ·rw[e]at lB;cases lB;exact .inl rfl
     ·rw[e]at lB;exact .inr ⟨a',m',rfl,fun y' s' tm h1 h2=>IH a' m' y' s' tm lB h1 h2⟩
    ·simp only [go_sem]
     repeat' (first|exact Ok.out|with_reducible refine jn ?_ ?_)
   ·rw [b,if_neg (by simp)]at lB
    cases lB
    repeat' (first
 |simp only[go_sem,hD,hY,hZ,gA,oZ,b]
 |(with_reducible first|refine bk fun hc=>?_|refine bl fun hc=>?_|refine bm (fun hc=>?_) fun hc=>?_)<;>(try simp only[hc,bs,↓reduceIte]at h)<;>try simp only[hc]
 |(with_reducible refine aE hQ ?_;(try cases h);simp only[aT,aV,bE,bF,go_sem,hD,hY,hZ,gA,oZ,b];try exact cf)
 |(cases h;replace h:=hr;clear hr;(try simp only[bs,↓reduceIte]at h))
 | (cases h;done))
    refine Gx hQ C8 ?_
    simp only[go_sem]
    repeat' (first|exact Ok.out|with_reducible refine jn ?_ ?_)
  rw[if_neg (by simp[b9])]at lB
  have c1:=aq0 hS.ok hS.right.may og RM RN (Ow hS.ok hS.right hx h2 h3)
  repeat' (first
 |simp only[go_sem,hD,hY,hZ,gA,ba,bf,hm,rE,Gu,nV,C4,Mg,cS,Jd,Cc,hle,b4,b9,HG,Oz,List.append_nil]
 |(with_reducible first|refine bk fun hc=>?_|refine bl fun hc=>?_|refine bm (fun hc=>?_) fun hc=>?_)<;>(try simp only[hc,bs,↓reduceIte]at h)<;>try simp only[hc]
 |(with_reducible refine aE hQ ?_;(try cases h);simp only[aT,aV,bE,bF,go_sem,hD,hY,hZ,gA,ba,bf,hm,rE,Gu,nV,C4,Mg,cS,Jd,Cc,hle,b4,b9,HG,Oz,List.append_nil];try exact cf)
 |(cases h;replace h:=hr;clear hr;(try simp only[bs,↓reduceIte]at h))
 | (cases h;done))
  refine CR c1 fun d s2 Mf=>?_
  obtain⟨rfl,y2,_,C8⟩:=Mf
  have oZ:=C8.j8
  rw[fH]at oZ
  have hdl:=aci p p.bg.L T W m1 it
  have B5:=(Rq p p.bg.L T W m1 it).1
  rcases Bool.eq_false_or_eq_true ((m1.do p p.bg.L T W it).2.fin==0)with b|b
  ·rw [b,if_pos rfl]at lB
   repeat' (first
 |simp only[go_sem,hD,hY,hZ,gA,oZ,b]
 |(with_reducible first|refine bk fun hc=>?_|refine bl fun hc=>?_|refine bm (fun hc=>?_) fun hc=>?_)<;>(try simp only[hc,bs,↓reduceIte]at h)<;>try simp only[hc]
 |(with_reducible refine aE hQ ?_;(try cases h);simp only[aT,aV,bE,bF,go_sem,hD,hY,hZ,gA,oZ,b];try exact cf)
 |(cases h;replace h:=hr;clear hr;(try simp only[bs,↓reduceIte]at h))
 | (cases h;done))
   refine IH _ _ y2 s2 _ lB ⟨⟨dF it,rfl,C8⟩,ajK hS.right Mh hx (by rw[xJ, ← h4];unfold Mc.top;rw[Mi]) (by simpa using b),RO _ hdl (by rw[B5,Mi];exact dP.st),by simpa using b,by rw[hdl.steps,Yb];omega⟩ ?_
   simp only[go_sem]
   repeat' (first|exact Ok.out|with_reducible refine jn ?_ ?_)
  ·rw [b,if_neg (by simp)]at lB
   cases lB
   repeat' (first
 |simp only[go_sem,hD,hY,hZ,gA,oZ,b]
 |(with_reducible first|refine bk fun hc=>?_|refine bl fun hc=>?_|refine bm (fun hc=>?_) fun hc=>?_)<;>(try simp only[hc,bs,↓reduceIte]at h)<;>try simp only[hc]
 |(with_reducible refine aE hQ ?_;(try cases h);simp only[aT,aV,bE,bF,go_sem,hD,hY,hZ,gA,oZ,b];try exact cf)
 |(cases h;replace h:=hr;clear hr;(try simp only[bs,↓reduceIte]at h))
 | (cases h;done))
   refine Gx hQ C8 ?_
   simp only[go_sem]
   repeat' (first|exact Ok.out|with_reducible refine jn ?_ ?_)
end
end Go.Abs
namespace Go.Abs
set_option maxRecDepth 8000
open Go.Proofs
def ofM (p:Pg) (T W:List Int) (fuel:Int):Mc×Int:=
 if decide (fuel<0) ||(decide (fuel > 1000000) || !(p.check.1==0))then(⟨[],[],0,0,0,[],[]⟩,1)else((runM p T W fuel).getD ⟨[],[],0,0,0,[],[]⟩,0)
theorem DG (m:Mc):D.bJ 0 0 (fu m)=true:=by simp[fu,D.bJ,D.ok,Tag.ok,je,aai]
theorem acm {p:Pg} (hR:p.Right) : ∃ (j:Nat) (q:Pc),p.at dG=(j:Int)∧p.procs[j]? = some q∧p.find q.name=some q∧q.params.length=0:=by
 have h:=hR.main
 unfold Pg.p8 at h
 cases e:p.find dG with
 |none=>rw[e]at h;cases h
 |some q=>
  rw[e]at h
  obtain⟨j,h1,h2⟩:=JU (k:=0) e
  refine⟨j,q,by simpa[Pg.at]using h1,h2,by rw[A8 e];exact e, ?_⟩
  simp only[decide_eq_false_iff_not]at h
  omega
theorem agt {p:Pg} (hO:p.iX) {T W:List Int} (hT:T.length<1000000) (hW:W.length<1000000) (fuel:Int) (s:St) :
 aF Tryz.prog wv [.agg (cB p), .slice .shared 1 (T.map cz), .int .i64 fuel, .slice .shared 1 (W.map cz)] s (.tuple [.agg (fu (ofM p T W fuel).1), .int .i64 (ofM p T W fuel).2]) s:=by
 refine aF.pure ?_ (by simp[D.bJ,D.ok,Tag.ok,jq,je]) (by simp only[D.ok,D.bJ,DG];rfl) s
 have cM:=fun s=>U2 hO s
 have cN:=fun s=>Dp (p:=p) (by have:=hO.procs;omega) s
 generalize hR:ofM p T W fuel=R
 unfold ofM at hR
 obtain⟨R1,R2⟩:=R
 dsimp only
 unfold S0
 by_cases EZ:(decide (fuel<0) ||(decide (fuel > 1000000) || !(p.check.1==0)))=true
 ·rw [if_pos EZ]at hR
  cases hR
  simp only[fu,List.map_nil]
  rcases Bool.eq_false_or_eq_true (decide (fuel<0))with b1|b1
  ·refine aF.go vK rfl fun B Q hB hQ=> ?_
   have⟨hD,hY,hZ,gA⟩:=bN
   repeat' (first
 |simp only[go_sem,hD,hY,hZ,gA,b1]
 |(with_reducible first|refine bk fun hc=>?_|refine bl fun hc=>?_|refine bm (fun hc=>?_) fun hc=>?_)<;>(try simp only[hc,bs,↓reduceIte]at h)<;>try simp only[hc]
 |(with_reducible refine aE hQ ?_;(try cases h);simp only[aT,aV,bE,bF,go_sem,hD,hY,hZ,gA,b1];try exact cf)
 | (cases h;done))
   refine mw.lE ?_
   repeat' (first
 |simp only[go_sem,hD,hY,hZ,gA,b1]
 |(with_reducible first|refine bk fun hc=>?_|refine bl fun hc=>?_|refine bm (fun hc=>?_) fun hc=>?_)<;>(try simp only[hc,bs,↓reduceIte]at h)<;>try simp only[hc]
 |(with_reducible refine aE hQ ?_;(try cases h);simp only[aT,aV,bE,bF,go_sem,hD,hY,hZ,gA,b1];try exact cf)
 | (cases h;done))
  rcases Bool.eq_false_or_eq_true (decide (fuel > 1000000))with b2|b2
  ·refine aF.go vK rfl fun B Q hB hQ=> ?_
   have⟨hD,hY,hZ,gA⟩:=bN
   repeat' (first
 |simp only[go_sem,hD,hY,hZ,gA,b1,b2]
 |(with_reducible first|refine bk fun hc=>?_|refine bl fun hc=>?_|refine bm (fun hc=>?_) fun hc=>?_)<;>(try simp only[hc,bs,↓reduceIte]at h)<;>try simp only[hc]
 |(with_reducible refine aE hQ ?_;(try cases h);simp only[aT,aV,bE,bF,go_sem,hD,hY,hZ,gA,b1,b2];try exact cf)
 | (cases h;done))
   refine mw.lE ?_
   repeat' (first
 |simp only[go_sem,hD,hY,hZ,gA,b1,b2]
 |(with_reducible first|refine bk fun hc=>?_|refine bl fun hc=>?_|refine bm (fun hc=>?_) fun hc=>?_)<;>(try simp only[hc,bs,↓reduceIte]at h)<;>try simp only[hc]
 |(with_reducible refine aE hQ ?_;(try cases h);simp only[aT,aV,bE,bF,go_sem,hD,hY,hZ,gA,b1,b2];try exact cf)
 | (cases h;done))
  ·have b3:(p.check.1==0)=false:=by simpa [b1,b2]using EZ
   rw[b3]at cM
   refine aF.go vK rfl fun B Q hB hQ=>?_
   have⟨hD,hY,hZ,gA⟩:=bN
   repeat' (first
 |simp only[go_sem,hD,hY,hZ,gA,b1,b2]
 |(with_reducible refine CU (cM _) ?_)
 |(with_reducible first|refine bk fun hc=>?_|refine bl fun hc=>?_|refine bm (fun hc=>?_) fun hc=>?_)<;>(try simp only[hc,bs,↓reduceIte]at h)<;>try simp only[hc]
 |(with_reducible refine aE hQ ?_;(try cases h);simp only[aT,aV,bE,bF,go_sem,hD,hY,hZ,gA,b1,b2];try exact cf)
 | (cases h;done))
   refine mw.lE ?_
   repeat' (first
 |simp only[go_sem,hD,hY,hZ,gA,b1,b2]
 |(with_reducible refine CU (cM _) ?_)
 |(with_reducible first|refine bk fun hc=>?_|refine bl fun hc=>?_|refine bm (fun hc=>?_) fun hc=>?_)<;>(try simp only[hc,bs,↓reduceIte]at h)<;>try simp only[hc]
 |(with_reducible refine aE hQ ?_;(try cases h);simp only[aT,aV,bE,bF,go_sem,hD,hY,hZ,gA,b1,b2];try exact cf)
 |(cases h;done))
 rw[if_neg EZ]at hR
 simp only[Bool.or_eq_true,not_or,Bool.not_eq_true,Bool.not_eq_false']at EZ
 obtain⟨b1,b2,b3⟩:=EZ
 rw[b3]at cM
 have RP:0≤fuel∧fuel≤1000000:=by simp at b1 b2;omega
 obtain⟨mf,hmf⟩:=IL p T W RP.1
 rw[hmf]at hR
 simp only[Option.getD_some]at hR
 cases hR
 have hRt:=AX b3
 have hS:HF p T W fuel:=⟨hO,hRt,hW,hT,RP⟩
 obtain⟨j,q,j1,j2,j3,j4⟩:=acm hRt
 have cP:=fun s=>(show aF Tryz.prog iR [.dI (fL p) 0, .str [109,97,105,110]] s (.int .i64 (p.at dG)) s from FU (p:=p) (by have:=hO.procs;omega) dG s)
 rw[j1]at cP
 have sD:=hO.procs.2.2
 refine aF.go vK rfl fun B Q hB hQ=>?_
 have⟨hD,hY,hZ,gA⟩:=bN
 -- from the globals on
 have start : ∀ (y:Lay) (s:St),Inv p T W y (jZ p) [(2,C7)] s→Sem Tryz.prog B 131 Q3T (JJ B Q) [(2, .int .i64 fuel),(8, .ptr 2 0),(10, .ptr 0 0)] s:=by
  intro y s hi
  have Oy:=hi.new [.int .i64 0, .int .i64 0, .slice .full 0 [], .str [], .str [], .int .i64 0, .int .i64 0, .str [], .slice .full 0 [], .bool false, .slice .full 0 [], .slice .full 0 [], .slice .full 0 [], .int .i64 0, .int .i64 0, .int .i64 0, .int .i64 0]
  have nV:=Oy.j8
  rw[fH]at nV
  simp only at nV
  obtain⟨y2,s2,hF,og⟩:=Ov Oy hO hRt.may j2 j3 (by simp[jZ]) (l:= []) (by simp) (by simp) (by simp[jZ]) 0
  have hF':=bP.sb (.cons (Wk.refl _) (.cons (Wk.refl _) (.cons (Wk.nil .full 0 1) (jK.refl _)))) hF
  have hF2:aF Tryz.prog jD [.ptr 0 0, .int .i64 (j:Int), .slice .full 0 [], .int .i64 0] _ _ s2:=hF'
  have qw:=Om (m:=jZ p) (qb hRt) j2 (l:= []) (call:=0) (by simp[j4]) (by simp) (by simp[jZ]) (by simp[jZ]) (.inl ⟨rfl,rfl⟩)
  have lB:=hmf
  unfold runM at lB
  rw[j1]at lB
  dsimp only at lB
  have jA:=xV p (jZ p) (j:Int) [] 0
  have vr:=(zK p (jZ p) (j:Int) [] 0).1
  have xL:((jZ p).open p (j:Int) [] 0).2.fin=0:=by
   unfold Mc.open
   split<;>rfl
  have agv:=Ya (B:=B) hS hQ _ _ _ y2 s.ah.length s2 ⟨⟨_,rfl,og⟩,qw,⟨by rw[jA.2.2.2];simp[jZ],by rw[jA.1,jA.2.2.2];simp[jZ],by rw[jA.2.1,jA.2.2.2];simp[jZ],by rw[jA.2.2.1,jA.2.2.2];simp[jZ],Nat.le_trans vr (by simp[jZ])⟩,xL,by rw[jA.2.2.2];simp[jZ];exact RP.1⟩ lB
  refine Sem.nN ?_
  repeat' (first
 |simp only[go_sem,hD,hY,hZ,gA]
 |(with_reducible first|refine bk fun hc=>?_|refine bl fun hc=>?_|refine bm (fun hc=>?_) fun hc=>?_)<;>(try simp only[hc,bs,↓reduceIte]at h)<;>try simp only[hc]
 |(with_reducible refine aE hQ ?_;exact fD)
 |(cases h;done))
  refine Sem.nN ?_
  repeat' (first
 |simp only[go_sem,hD,hY,hZ,gA]
 |(with_reducible first|refine bk fun hc=>?_|refine bl fun hc=>?_|refine bm (fun hc=>?_) fun hc=>?_)<;>(try simp only[hc,bs,↓reduceIte]at h)<;>try simp only[hc]
 |(with_reducible refine aE hQ ?_;exact fD)
 |(cases h;done))
  refine Sem.nN ?_
  repeat' (first
 |simp only[go_sem,hD,hY,hZ,gA,nV]
 |(with_reducible refine CU (cP _) ?_)
 |(with_reducible refine CU (hF2) ?_)
 |(with_reducible first|refine bk fun hc=>?_|refine bl fun hc=>?_|refine bm (fun hc=>?_) fun hc=>?_)<;>(try simp only[hc,bs,↓reduceIte]at h)<;>try simp only[hc]
 |(with_reducible refine aE hQ ?_;(try cases h);simp only[aT,aV,bE,bF,go_sem,hD,hY,hZ,gA,nV];try exact cf)
 |(cases h;done))
  refine Sem.nN ?_
  repeat' (first
 |simp only[go_sem,hD,hY,hZ,gA]
 |(with_reducible first|refine bk fun hc=>?_|refine bl fun hc=>?_|refine bm (fun hc=>?_) fun hc=>?_)<;>(try simp only[hc,bs,↓reduceIte]at h)<;>try simp only[hc]
 |(with_reducible refine aE hQ ?_;exact fD)
 |(cases h;done))
  refine Sem.qy ?_ agv
  simp only[go_sem]
  repeat' (first|exact Ok.out|with_reducible refine jn ?_ ?_)
 generalize hG:p.globals.length=G at *
 have hGb:G≤900000:=by rw[← hG];exact hO.procs.2.2
 let row:Nat→List D:=fun k=> [.dI (fL p) 0, .slice (.tok 2) 1 ((List.range k).map fun i=>fB (3+i)), .slice .shared 1 (T.map cz), .slice .shared 1 (W.map cz), .eJ 1, .eJ 1, .int .i64 0, .int .i64 0, .int .i64 0, .slice (.tok 0) 1 [], .slice (.tok 1) 2 []]
 have loop : ∀ d k:Nat,k+d=G→br Tryz.prog B 131 Q27 (lf 0 (oq (Sem Tryz.prog B 131 Q3T (JJ B Q)) (JJ B Q))) [(2, .int .i64 fuel),(8, .ptr 2 0),(10, .ptr 0 0),(34, .int .i64 (G:Int)),(35, .int .i64 (k:Int))]
  ⟨row k::cB p::C7::List.replicate k [.int .i64 0],[some 0,some 0,some k]⟩:=by
  intro d
  induction d with
  |zero=>
   intro k hk
   have vl:k=G:=by omega
   subst vl
   have hD:decide ((k:Int)<(k:Int))=false:=by simp
   refine br.lE ?_
   repeat' (first
 |simp only[go_sem,hD,hY,hZ,gA]
 |(with_reducible first|refine bk fun hc=>?_|refine bl fun hc=>?_|refine bm (fun hc=>?_) fun hc=>?_)<;>(try simp only[hc,bs,↓reduceIte]at h)<;>try simp only[hc]
 |(with_reducible refine aE hQ ?_;exact fD)
 | (cases h;done))
   refine Sem.qy (bD:= [(2, .int .i64 fuel),(8, .ptr 2 0),(10, .ptr 0 0)]) (by simp only[go_sem];repeat' (first|exact Ok.out|with_reducible refine jn ?_ ?_)) ?_
   have hκ:((List.range k).map (3 + ·)).length=k:=by simp
   have hmp:((List.range k).map fun i=>fB (3+i))=(((List.range k).map (3 + ·)).take k).map fB:=by rw[List.take_of_length_le (by simp),List.map_map];rfl
   refine Sem.wkO (fH p T W ⟨(List.range k).map (3 + ·),[], .eJ 1, .eJ 1⟩ (jZ p)::cB p::C7::List.replicate k [.int .i64 0]) ?_ (start ⟨(List.range k).map (3 + ·),[], .eJ 1, .eJ 1⟩ _ ?_)
   ·refine .cons ?_ (gM.refl _)
    simp only[row,fH,hG, ← hmp,jZ,List.map_nil]
    exact Ok.out
   ·have UR:((List.range k).map (3 + ·)).Nodup:=by
     rw[List.nodup_iff_pairwise_ne,List.pairwise_map]
     exact List.Pairwise.imp (fun h=>by omega) (List.nodup_iff_pairwise_ne.1 List.nodup_range)
    refine⟨rfl,rfl,rfl,by simp[jZ,hG],fun i c v e1 e2=>?_,rfl,fun i o fr e1 e2=>by simp at e1, .inl ⟨rfl,rfl⟩,⟨[], .inl ⟨rfl,rfl⟩⟩, ?_,fun x mx=>?_⟩
    ·have hD:=(List.getElem?_eq_some_iff.1 e1).1
     simp only[hκ]at hD
     rw[List.getElem?_map,List.getElem?_range hD]at e1
     simp only[jZ]at e2
     rw[List.getElem?_replicate_of_lt (by omega)]at e2
     simp only[Option.map_some,Option.some.injEq]at e1 e2
     subst e1 e2
     show(_::_::_::List.replicate k [D.int .i64 0])[3+i]? = _
     rw[show 3+i=i+1+1+1 by omega]
     simp only[List.getElem?_cons_succ]
     exact List.getElem?_replicate_of_lt hD
    ·simp only [Lay.own,D.arr,List.append_nil]
     rw[List.nodup_cons]
     exact⟨by simp,UR⟩
    ·rw [List.mem_singleton.1 mx]
     refine⟨rfl, ?_⟩
     simp only[Lay.own,D.arr,List.append_nil,List.mem_cons,List.mem_map,List.mem_range,not_or]
     exact⟨by omega,by rintro⟨i,_,h⟩;omega⟩
  | succ d ih=>
   intro k hk
   have hD:decide ((k:Int)<(G:Int))=true:=by simp;omega
   have bW:k<4611686018427387904:=by omega
   have fb : ∀ os,iP 1 8 (.slice (.tok 2) 1 ((List.range k).map fun i=>fB (3+i))) (.slice .full 1 [[.ptr (3+k) 0]]) ⟨os,[some 0,some 0,some k]⟩ =
    some (.slice (.tok 2) 1 ((List.range (k+1)).map fun i=>fB (3+i)),⟨os,[some 0,some 0,some (k+1)]⟩):=fun os=>by
    rw[ox (size:=1) (by simp only[List.length_map,List.length_range,List.length_singleton];unfold bx;omega) (by simp)]
    simp[List.range_succ,fB]
   have hln : ∀ a b c:List D,(a::b::c::List.replicate k [D.int .i64 0]).length=3+k:=fun a b c=>by simp;omega
   have agw : ∀ a b c:List D,a::b::c::List.replicate k [D.int .i64 0]++ [[D.int .i64 0]] = a::b::c::List.replicate (k+1) [D.int .i64 0]:=fun a b c=>by rw[List.replicate_succ'];rfl
   refine br.lE ?_
   simp only[row]
   repeat' (first
 |simp only[go_sem,hD,hY,hZ,gA,fb,hln,agw]
 |(with_reducible first|refine bk fun hc=>?_|refine bl fun hc=>?_|refine bm (fun hc=>?_) fun hc=>?_)<;>(try simp only[hc,bs,↓reduceIte]at h)<;>try simp only[hc]
 |(with_reducible refine aE hQ ?_;(try cases h);simp only[aT,aV,bE,bF,go_sem,hD,hY,hZ,gA,fb,hln,agw];try exact cf)
 | (cases h;done))
   have:=ih (k+1) (by omega)
   simp only[row,List.range_succ,List.map_append,List.map_cons,List.map_nil]at this
   refine br.qy ?_ this
   simp only[go_sem,aJ bW]
   repeat' (first|exact Ok.out|with_reducible refine jn ?_ ?_)
 repeat' (first
 |simp only[go_sem,hD,hY,hZ,gA,b1,b2]
 |(with_reducible first|refine bk fun hc=>?_|refine bl fun hc=>?_|refine bm (fun hc=>?_) fun hc=>?_)<;>(try simp only[hc,bs,↓reduceIte]at h)<;>try simp only[hc]
 |(with_reducible refine aE hQ ?_;(try cases h);simp only[aT,aV,bE,bF,go_sem,hD,hY,hZ,gA,b1,b2];try exact cf)
 |(cases h;done))
 refine mw.once (Sem.nN ?_)
 repeat' (first
 |simp only[go_sem,hD,hY,hZ,gA,b1,b2]
 |(with_reducible refine CU (cM _) ?_)
 |(with_reducible first|refine bk fun hc=>?_|refine bl fun hc=>?_|refine bm (fun hc=>?_) fun hc=>?_)<;>(try simp only[hc,bs,↓reduceIte]at h)<;>try simp only[hc]
 |(with_reducible refine aE hQ ?_;(try cases h);simp only[aT,aV,bE,bF,go_sem,hD,hY,hZ,gA,b1,b2];try exact cf)
 |(cases h;done))
 refine Sem.nN ?_
 repeat' (first
 |simp only[go_sem,hD,hY,hZ,gA]
 |(with_reducible refine CU (cN _) ?_)
 |(with_reducible first|refine bk fun hc=>?_|refine bl fun hc=>?_|refine bm (fun hc=>?_) fun hc=>?_)<;>(try simp only[hc,bs,↓reduceIte]at h)<;>try simp only[hc]
 |(with_reducible refine aE hQ ?_;exact fD)
 |(cases h;done))
 refine Sem.nN ?_
 repeat' (first
 |simp only[go_sem,hD,hY,hZ,gA]
 |(with_reducible first|refine bk fun hc=>?_|refine bl fun hc=>?_|refine bm (fun hc=>?_) fun hc=>?_)<;>(try simp only[hc,bs,↓reduceIte]at h)<;>try simp only[hc]
 |(with_reducible refine aE hQ ?_;exact fD)
 |(cases h;done))
 refine br.wm 2 9 1 rfl rfl ?_
 refine br.wm 2 10 2 rfl rfl ?_
 refine br.wm 2 1 1 rfl rfl ?_
 simp only[List.set_cons_succ,List.set_cons_zero,List.length_nil,List.nil_append,List.length_cons,List.cons_append]
 have l0:=loop G 0 (by omega)
 simp only[row,List.range_zero,List.map_nil,List.replicate_zero]at l0
 refine br.re [(2, .int .i64 fuel),(8, .ptr 1 0),(10, .ptr 2 0),(34, .int .i64 (G:Int)),(35, .int .i64 ((0:Nat):Int))]
  [cB p,C7,[.dI (fL p) 0, .slice (.tok 2) 1 [], .slice .shared 1 (T.map cz), .slice .shared 1 (W.map cz), .eJ 1, .eJ 1, .int .i64 0, .int .i64 0, .int .i64 0, .slice (.tok 0) 1 [], .slice (.tok 1) 2 []]] 3 3 (by rw[hB];exact Nat.zero_le _) (by rw[hB];exact Nat.zero_le _) ?_ ?_ ?_
 ·simp only [go_sem,hG]
  repeat' (first|exact Ok.out|with_reducible refine jn ?_ ?_)
 ·simp only [go_sem,Z1]
  repeat' (first|exact Ok.out|with_reducible refine jn ?_ ?_)
 have r1 : ∀ os ts,D.fk os ts (fL p)=fL p:=fun os ts=>fM os ts _ (vb p)
 have r2 : ∀ n m,D.bJ n m (fL p)=true:=fun n m=>iQ (Nat.zero_le n) (Nat.zero_le m) _ (vb p)
 have r3 : ∀ os ts l,D.ov os ts (List.map cz l)=List.map cz l:=fun os ts l=>jB os ts _ (je l)
 have r4 : ∀ n m l,D.gL n m (List.map cz l)=true:=fun n m l=>ng (Nat.zero_le n) (Nat.zero_le m) _ (je l)
 refine br.ame hB [2,0,1] _ _ (by decide) (by simp) ?_ ?_ l0
 ·simp[Ch,D.fk,D.dh,D.ov,D.bJ,D.gL,D.ok,Tag.dh,Tag.ok,St.cut,r1,r2,r3,r4,NG,TG,C7]
 ·simp[Ea,Tm.get,D.dh,D.ok]
theorem Ba {a b:List Int} (ha:a.length<1000000000) (g:Tag) (s:St):aF Tryz.prog l7 [.slice .shared 1 (a.map cz), .slice g 1 (b.map cz)] s (.bool (a==b)) s:=by
 refine bP.sb (.cons (Wk.refl _) (.cons (Wk.shared _ _ _) .nil)) (aF.pure ?_ (by simp[D.bJ,D.ok,Tag.ok,je]) rfl s)
 generalize h:(a==b)=R
 unfold S0
 by_cases hl:a.length=b.length
 ·have e1:((a.length:Int) != (b.length:Int))=false:=by simp [hl]
  refine aF.go wF rfl fun B Q hB hQ=>?_
  have⟨hD,hY,hZ,gA⟩:=bN
  repeat' (first
 |simp only[go_sem,hD,hY,hZ,gA,e1]
 |(with_reducible first|refine bk fun hc=>?_|refine bl fun hc=>?_|refine bm (fun hc=>?_) fun hc=>?_)<;>(try simp only[hc,bs,↓reduceIte]at h)<;>try simp only[hc]
 |(with_reducible refine aE hQ ?_;(try cases h);simp only[aT,aV,bE,bF,go_sem,hD,hY,hZ,gA,e1];try exact cf)
 | (cases h;done))
  refine fc 0 0 (br.ind (ι:=List Int×List Int×Nat) (fun i=>a.drop i.2.2=i.1∧b.drop i.2.2=i.2.1∧(i.1==i.2.1)=R) (fun i=>i.1.length)
   (fun i=> [(0, .slice .shared 1 (a.map cz)),(1, .slice .shared 1 (b.map cz)),(12, .int .i64 (a.length:Int)),(13, .int .i64 (i.2.2:Int))]) (fun i=>⟨[],[]⟩) ?_ (a,b,0) ⟨rfl,rfl,h⟩)
  rintro⟨ra,rb,k⟩ ⟨h1,h2,h⟩ IH
  dsimp only at h1 h2 h
  cases ra with
  |nil=>
   have hD:=drop_nil h1
   have:b.drop k = []:=by rw[List.drop_eq_nil_iff]at h1 ⊢;omega
   rw[h2]at this
   subst this
   have h':true=R:=h
   subst h'
   repeat' (first
 |simp only[go_sem,hD,hY,hZ,gA]
 |(with_reducible first|refine bk fun hc=>?_|refine bl fun hc=>?_|refine bm (fun hc=>?_) fun hc=>?_)<;>(try simp only[hc,bs,↓reduceIte]at h)<;>try simp only[hc]
 |(with_reducible refine aE hQ ?_;exact fD)
 | (cases h;done))
  | cons x ra=>
   obtain⟨hY,g2,hD,g4⟩:=drop_cons h1
   have bW:k<4611686018427387904:=by omega
   cases rb with
   |nil=>rw[List.drop_eq_nil_iff]at h2;omega
   | cons y rb=>
    obtain⟨mR,g2',XF,g4'⟩:=drop_cons h2
    have e2:(x != y) = !(x==y):=rfl
    simp only[List.cons_beq_cons]at h
    rcases Bool.eq_false_or_eq_true (x==y)with c|c
    ·simp only [c,Bool.true_and]at h
     repeat' (first
 |simp only[go_sem,hD,hY,hZ,gA,e2,c,mR]
 |(with_reducible first|refine bk fun hc=>?_|refine bl fun hc=>?_|refine bm (fun hc=>?_) fun hc=>?_)<;>(try simp only[hc,bs,↓reduceIte]at h)<;>try simp only[hc]
 |(with_reducible refine aE hQ ?_;(try cases h);simp only[aT,aV,bE,bF,go_sem,hD,hY,hZ,gA,e2,c,mR];try exact cf)
 | (cases h;done))
     refine fe 0 0 ?_ ?_ (IH (ra,rb,k+1) ⟨g2,g2',h⟩ (Nat.lt_succ_self _))
     ·(simp only[go_sem,hD,hY,hZ,gA,aJ bW];try exact cq)
     ·(simp only[go_sem,hD,hY,hZ,gA,aJ bW];try exact cq)
    ·simp only [c,Bool.false_and]at h
     repeat' (first
 |simp only[go_sem,hD,hY,hZ,gA,e2,c,mR]
 |(with_reducible first|refine bk fun hc=>?_|refine bl fun hc=>?_|refine bm (fun hc=>?_) fun hc=>?_)<;>(try simp only[hc,bs,↓reduceIte]at h)<;>try simp only[hc]
 |(with_reducible refine aE hQ ?_;(try cases h);simp only[aT,aV,bE,bF,go_sem,hD,hY,hZ,gA,e2,c,mR];try exact cf)
 |(cases h;done))
 ·have e1:((a.length:Int) != (b.length:Int))=true:=by simp;omega
  have:(a==b)=false:=by
   rw[beq_eq_false_iff_ne];intro e;rw[e]at hl;exact hl rfl
  rw[this]at h
  subst h
  refine aF.go wF rfl fun B Q hB hQ=>?_
  have⟨hD,hY,hZ,gA⟩:=bN
  repeat' (first
 |simp only[go_sem,hD,hY,hZ,gA,e1]
 |(with_reducible first|refine bk fun hc=>?_|refine bl fun hc=>?_|refine bm (fun hc=>?_) fun hc=>?_)<;>(try simp only[hc,bs,↓reduceIte]at h)<;>try simp only[hc]
 |(with_reducible refine aE hQ ?_;(try cases h);simp only[aT,aV,bE,bF,go_sem,hD,hY,hZ,gA,e1];try exact cf)
 |(cases h;done))
theorem U5 {a b:List (Int×List Int)} (ha:a.length<1000000000) (hv : ∀ e∈a,e.2.length<1000000000) (s:St):aF Tryz.prog si [.slice .shared 2 (a.map gJ), .slice .shared 2 (b.map gJ)] s (.bool (a==b)) s:=by
 refine aF.pure ?_ (by simp[D.bJ,D.ok,Tag.ok,aai]) rfl s
 generalize h:(a==b)=R
 unfold S0
 by_cases hl:a.length=b.length
 ·have e1:((a.length:Int) != (b.length:Int))=false:=by simp [hl]
  refine aF.go vy rfl fun B Q hB hQ=>?_
  have⟨hD,hY,hZ,gA⟩:=bN
  repeat' (first
 |simp only[go_sem,hD,hY,hZ,gA,e1]
 |(with_reducible first|refine bk fun hc=>?_|refine bl fun hc=>?_|refine bm (fun hc=>?_) fun hc=>?_)<;>(try simp only[hc,bs,↓reduceIte]at h)<;>try simp only[hc]
 |(with_reducible refine aE hQ ?_;(try cases h);simp only[aT,aV,bE,bF,go_sem,hD,hY,hZ,gA,e1];try exact cf)
 | (cases h;done))
  refine fc 0 0 (br.ind (ι:=List (Int×List Int)×List (Int×List Int)×Nat) (fun i=>a.drop i.2.2=i.1∧b.drop i.2.2=i.2.1∧(i.1==i.2.1)=R) (fun i=>i.1.length)
   (fun i=> [(0, .slice .shared 2 (a.map gJ)),(1, .slice .shared 2 (b.map gJ)),(12, .int .i64 (a.length:Int)),(13, .int .i64 (i.2.2:Int))]) (fun i=>⟨[],[]⟩) ?_ (a,b,0) ⟨rfl,rfl,h⟩)
  rintro⟨ra,rb,k⟩ ⟨h1,h2,h⟩ IH
  dsimp only at h1 h2 h
  cases ra with
  |nil=>
   have hD:=drop_nil h1
   have:b.drop k = []:=by rw[List.drop_eq_nil_iff]at h1 ⊢;omega
   rw[h2]at this
   subst this
   have h':true=R:=h
   subst h'
   repeat' (first
 |simp only[go_sem,hD,hY,hZ,gA]
 |(with_reducible first|refine bk fun hc=>?_|refine bl fun hc=>?_|refine bm (fun hc=>?_) fun hc=>?_)<;>(try simp only[hc,bs,↓reduceIte]at h)<;>try simp only[hc]
 |(with_reducible refine aE hQ ?_;exact fD)
 | (cases h;done))
  | cons x ra=>
   obtain⟨hY,g2,hD,g4⟩:=drop_cons h1
   have bW:k<4611686018427387904:=by omega
   cases rb with
   |nil=>rw[List.drop_eq_nil_iff]at h2;omega
   |cons y rb=>
    obtain⟨mR,g2',XF,g4'⟩:=drop_cons h2
    obtain⟨x1,x2⟩:=x
    obtain⟨y1,y2⟩:=y
    have e2:(x1 != y1) = !(x1==y1):=rfl
    have hb:((x1,x2)==(y1,y2))=(x1==y1 && x2==y2):=rfl
    have cE:=fun g s=>Ba (a:=x2) (b:=y2) (hv _ (List.mem_of_getElem? hY)) g s
    simp only[List.cons_beq_cons,hb]at h
    rcases Bool.eq_false_or_eq_true (x1==y1)with c|c<;>rcases Bool.eq_false_or_eq_true (x2==y2)with c2|c2<;>simp only[c,c2,Bool.true_and,Bool.false_and]at h
    ·repeat' (first
 |simp only[go_sem,hD,hY,hZ,gA,e2,c,c2,mR,gJ]
 |(with_reducible refine CU (cE _ _) ?_)
 |(with_reducible first|refine bk fun hc=>?_|refine bl fun hc=>?_|refine bm (fun hc=>?_) fun hc=>?_)<;>(try simp only[hc,bs,↓reduceIte]at h)<;>try simp only[hc]
 |(with_reducible refine aE hQ ?_;(try cases h);simp only[aT,aV,bE,bF,go_sem,hD,hY,hZ,gA,e2,c,c2,mR,gJ];try exact cf)
 | (cases h;done))
     refine fe 0 0 ?_ ?_ (IH (ra,rb,k+1) ⟨g2,g2',h⟩ (Nat.lt_succ_self _))
     ·(simp only[go_sem,hD,hY,hZ,gA,aJ bW,gJ];try exact cq)
     ·(simp only[go_sem,hD,hY,hZ,gA,aJ bW,gJ];try exact cq)
    ·repeat' (first
 |simp only[go_sem,hD,hY,hZ,gA,e2,c,c2,mR,gJ]
 |(with_reducible refine CU (cE _ _) ?_)
 |(with_reducible first|refine bk fun hc=>?_|refine bl fun hc=>?_|refine bm (fun hc=>?_) fun hc=>?_)<;>(try simp only[hc,bs,↓reduceIte]at h)<;>try simp only[hc]
 |(with_reducible refine aE hQ ?_;(try cases h);simp only[aT,aV,bE,bF,go_sem,hD,hY,hZ,gA,e2,c,c2,mR,gJ];try exact cf)
 | (cases h;done))
    ·repeat' (first
 |simp only[go_sem,hD,hY,hZ,gA,e2,c,c2,mR,gJ]
 |(with_reducible refine CU (cE _ _) ?_)
 |(with_reducible first|refine bk fun hc=>?_|refine bl fun hc=>?_|refine bm (fun hc=>?_) fun hc=>?_)<;>(try simp only[hc,bs,↓reduceIte]at h)<;>try simp only[hc]
 |(with_reducible refine aE hQ ?_;(try cases h);simp only[aT,aV,bE,bF,go_sem,hD,hY,hZ,gA,e2,c,c2,mR,gJ];try exact cf)
 | (cases h;done))
    ·repeat' (first
 |simp only[go_sem,hD,hY,hZ,gA,e2,c,c2,mR,gJ]
 |(with_reducible refine CU (cE _ _) ?_)
 |(with_reducible first|refine bk fun hc=>?_|refine bl fun hc=>?_|refine bm (fun hc=>?_) fun hc=>?_)<;>(try simp only[hc,bs,↓reduceIte]at h)<;>try simp only[hc]
 |(with_reducible refine aE hQ ?_;(try cases h);simp only[aT,aV,bE,bF,go_sem,hD,hY,hZ,gA,e2,c,c2,mR,gJ];try exact cf)
 |(cases h;done))
 ·have e1:((a.length:Int) != (b.length:Int))=true:=by simp;omega
  have:(a==b)=false:=by
   rw[beq_eq_false_iff_ne];intro e;rw[e]at hl;exact hl rfl
  rw[this]at h
  subst h
  refine aF.go vy rfl fun B Q hB hQ=>?_
  have⟨hD,hY,hZ,gA⟩:=bN
  repeat' (first
 |simp only[go_sem,hD,hY,hZ,gA,e1]
 |(with_reducible first|refine bk fun hc=>?_|refine bl fun hc=>?_|refine bm (fun hc=>?_) fun hc=>?_)<;>(try simp only[hc,bs,↓reduceIte]at h)<;>try simp only[hc]
 |(with_reducible refine aE hQ ?_;(try cases h);simp only[aT,aV,bE,bF,go_sem,hD,hY,hZ,gA,e1];try exact cf)
 |(cases h;done))
structure Mc.Len (m:Mc):Prop where
 out:m.out.length<1000000000
 trace:m.trace.length<1000000000
 bI : ∀ e∈m.trace,e.2.length<1000000000
def DH (a b:Mc):Bool:=a.fin==b.fin && (a.steps==b.steps && (a.reads==b.reads && a.out==b.out))
def DI (a b:Mc):Bool:=DH a b && a.trace==b.trace
theorem aco {a b:Mc} (ha:a.Len) (s:St):aF Tryz.prog uT [.agg (fu a), .agg (fu b)] s (.bool (DH a b)) s:=by
 refine aF.pure ?_ (by simp[D.bJ,D.ok,DG]) rfl s
 have cE:=fun g s=>Ba (a:=a.out) (b:=b.out) ha.out g s
 generalize h:DH a b=R
 simp only[DH]at h
 unfold S0
 simp only[fu]
 rcases Bool.eq_false_or_eq_true (a.fin==b.fin)with c1|c1
 all_goals rcases Bool.eq_false_or_eq_true (a.steps==b.steps)with c2|c2
 all_goals rcases Bool.eq_false_or_eq_true (a.reads==b.reads)with c3|c3
 all_goals
  simp only[c1,c2,c3,Bool.true_and,Bool.false_and]at h
  subst h
  refine aF.go FJ rfl fun B Q hB hQ=>?_
  have⟨hD,hY,hZ,gA⟩:=bN
  repeat' (first
 |simp only[go_sem,hD,hY,hZ,gA,c1,c2,c3]
 |(with_reducible refine CU (cE _ _) ?_)
 |(with_reducible first|refine bk fun hc=>?_|refine bl fun hc=>?_|refine bm (fun hc=>?_) fun hc=>?_)<;>(try simp only[hc,bs,↓reduceIte]at h)<;>try simp only[hc]
 |(with_reducible refine aE hQ ?_;(try cases h);simp only[aT,aV,bE,bF,go_sem,hD,hY,hZ,gA,c1,c2,c3];try exact cf)
 |(cases h;done))
theorem acp {a b:Mc} (ha:a.Len) (s:St):aF Tryz.prog uR [.agg (fu a), .agg (fu b)] s (.bool (DI a b)) s:=by
 refine aF.pure ?_ (by simp[D.bJ,D.ok,DG]) rfl s
 have c1:=fun s=>aco (b:=b) ha s
 have c2:=fun s=>U5 (a:=a.trace) (b:=b.trace) ha.trace ha.bI s
 have e : ∀ m:Mc,(fu m).length=5:=fun m=>rfl
 have e0 : ∀ m:Mc,List.take 5 (fu m)=fu m:=fun m=>rfl
 have e4 : ∀ m:Mc,(fu m)[4]? = some (.slice .shared 2 (m.trace.map gJ)):=fun m=>rfl
 generalize h:DI a b=R
 simp only[DI]at h
 unfold S0
 rcases Bool.eq_false_or_eq_true (DH a b)with b1|b1
 all_goals
  simp only[b1,Bool.true_and,Bool.false_and]at h
  subst h
  refine aF.go FG rfl fun B Q hB hQ=>?_
  have⟨hD,hY,hZ,gA⟩:=bN
  repeat' (first
 |simp only[go_sem,hD,hY,hZ,gA,b1,e,e0,e4]
 |(with_reducible refine CU (c1 _) ?_)
 |(with_reducible refine CU (c2 _) ?_)
 |(with_reducible first|refine bk fun hc=>?_|refine bl fun hc=>?_|refine bm (fun hc=>?_) fun hc=>?_)<;>(try simp only[hc,bs,↓reduceIte]at h)<;>try simp only[hc]
 |(with_reducible refine aE hQ ?_;(try cases h);simp only[aT,aV,bE,bF,go_sem,hD,hY,hZ,gA,b1,e,e0,e4];try exact cf)
 |(cases h;done))
theorem HH:fu (ofM sN [] [5,2] 50).1 = [.int .i64 1, .int .i64 7, .int .i64 0, .slice .shared 1 ([5,5].map cz), .slice .shared 2 ([(2,[]),(5,[5])].map gJ)]:=by kernel_rfl
theorem ajZ:(ofM sN [] [5,2] 50).2=0:=by kernel_rfl
theorem acq:Nat.ble (sN.size+1) 1000=true:=by kernel_rfl
theorem U6 (n:Int):rh (.ofInt .f64) (.int .i64 n) (.int .i64 n)=some (.val (.float .f64 (FloatKind.nearest .f64 n))):=nd rfl
theorem Mj (a b:Nat):rh .JW (.val (.float .f64 a)) (.val (.float .f64 b))=some (.val (.complex .f64 a b)):=nd rfl
theorem Mk (a b:Nat) (d:D):rh .real (.val (.complex .f64 a b)) d=some (.val (.float .f64 a)):=nd rfl
theorem aal:rh .eq (.val (.float .f64 (FloatKind.nearest .f64 7))) (.val (.float .f64 4619567317775286272))=some (.bool true):=by
 have:FloatKind.nearest .f64 7=4619567317775286272:=by decide +kernel
 rw[this]
 have h:(FloatKind.f64.format.order 4619567317775286272 4619567317775286272==some .eq)=true:=by decide +kernel
 show(if FloatKind.f64=FloatKind.f64 then some (D.bool (FloatKind.f64.format.order 4619567317775286272 4619567317775286272==some .eq))else none)=_
 rw[if_pos rfl,h]
theorem agz:sN.iX:=by
 have wb:sN.size<100000:=by have:=Nat.le_of_ble_eq_true acq;omega
 exact⟨Iw (by decide +kernel) (by omega),by omega⟩
theorem agA (n k:Nat) (m:Mc):D.gH n k (fu m)=fu m:=iC n k _ (DG m)
theorem acr (m:Mc):(fu m).length=5:=nd rfl
theorem Yf (m:Mc):List.take 5 (fu m)=fu m:=nd rfl
theorem aj0 (m:Mc):(fu m)[0]? = some (.int .i64 m.fin):=nd rfl
theorem aj1 (m:Mc):(fu m)[1]? = some (.int .i64 m.steps):=nd rfl
theorem aj2 (m:Mc):(fu m)[2]? = some (.int .i64 m.reads):=nd rfl
theorem aj3 (m:Mc):(fu m)[3]? = some (.slice .shared 1 (m.out.map cz)):=nd rfl
theorem aj4 (m:Mc):(fu m)[4]? = some (.slice .shared 2 (m.trace.map gJ)):=nd rfl
attribute [go_sem] agA acr Yf aj0 aj1 aj2 aj3 aj4
theorem acs (m:Mc) (s:St):aF Tryz.prog yn [.agg (fu m)] s (.val (.complex .f64 (FloatKind.nearest .f64 m.steps) (FloatKind.nearest .f64 m.reads))) s:=by
 refine aF.pure ?_ (by simp[D.bJ,D.ok,DG]) rfl s
 unfold S0
 refine aF.go Jo rfl fun B Q hB hQ=>?_
 have⟨hD,hY,hZ,gA⟩:=bN
 repeat' (first
 |simp only[go_sem,hD,hY,hZ,gA,fu,U6,Mj]
 |(with_reducible first|refine bk fun hc=>?_|refine bl fun hc=>?_|refine bm (fun hc=>?_) fun hc=>?_)<;>(try simp only[hc,bs,↓reduceIte]at h)<;>try simp only[hc]
 |(with_reducible refine aE hQ ?_;(try cases h);simp only[aT,aV,bE,bF,go_sem,hD,hY,hZ,gA,fu,U6,Mj];try exact cf)
 |(cases h;done))
theorem aj5 (s:St):aF Tryz.prog yk [] s (.bool true) s:=by
 refine aF.pure ?_ rfl rfl s
 have h1:=fun s=>af0 s
 have h2:=fun s=>agt (T:= []) (W:= [5,2]) agz (by simp) (by simp) 50 s
 have h4:=fun s=>acs (ofM sN [] [5,2] 50).1 s
 have m1:(ofM sN [] [5,2] 50).1.steps=7:=by have:=congrArg (fun l=>l[1]?) HH;simpa[fu]using this
 have m2:(ofM sN [] [5,2] 50).1.reads=0:=by have:=congrArg (fun l=>l[2]?) HH;simpa[fu]using this
 rw[m1,m2]at h4
 rw[HH]at h2 h4
 rw[ajZ]at h2
 simp only[List.map_cons,List.map_nil,cz,gJ]at h2 h4
 have h3:=fun g s=>Ba (a:= [5,5]) (b:= [5,5]) (by simp) g s
 have h5:=fun g s=>Ba (a:= [5]) (b:= [5]) (by simp) g s
 have e5:(([5,5] : List Int) == [5,5])=true:=rfl
 have e6:(([5] : List Int) == [5])=true:=rfl
 rw[e5]at h3
 rw[e6]at h5
 simp only[List.map_cons,List.map_nil,cz]at h3 h5
 have vt:=fun s=>bP.sb (.cons (Wk.refl _) (.cons (Wk.nil .full 0 1) (.cons (Wk.refl _) (.cons (Wk.shared .full _ _) .nil)))) (h2 s)
 have h2 : ∀ s,aF Tryz.prog wv [.agg (cB sN), .slice .full 0 [], .int .i64 50, .slice .full 1 [[.int .i64 5],[.int .i64 2]]] s _ s:=vt
 clear vt
 have z0 : ∀ x:Int,(x==x)=true:=fun x=>beq_self_eq_true x
 have z2:(((2:Nat):Int)==2)=true:=rfl
 unfold S0
 refine aF.go Jk rfl fun B Q hB hQ=>?_
 have⟨hD,hY,hZ,gA⟩:=bN
 repeat' (first
 |simp only[go_sem,hD,hY,hZ,gA,z0,z2,Mk,aal,Int.toNat_one,List.getElem?_cons_succ,List.getElem?_cons_zero]
 |(with_reducible refine CU (h1 _) ?_)
 |(with_reducible refine CU (h2 _) ?_)
 |(with_reducible refine CU (h3 _ _) ?_)
 |(with_reducible refine CU (h5 _ _) ?_)
 |(with_reducible refine CU (h4 _) ?_)
 |(with_reducible first|refine bk fun hc=>?_|refine bl fun hc=>?_|refine bm (fun hc=>?_) fun hc=>?_)<;>(try simp only[hc,bs,↓reduceIte]at h)<;>try simp only[hc]
 |(with_reducible refine aE hQ ?_;(try cases h);simp only[aT,aV,bE,bF,go_sem,hD,hY,hZ,gA,z0,z2,Mk,aal,Int.toNat_one,List.getElem?_cons_succ,List.getElem?_cons_zero];try exact cf)
 |(cases h;done))
theorem acu {p:Pg} (hO:p.iX) (T:List Int) (fuel:Int) (s:St):aF Tryz.prog uS [.agg (cB p), .slice .shared 1 (T.map cz), .int .i64 fuel] s (.bool (p.check.1==0 && (decide (0≤fuel) && (decide (fuel≤400) && decide ((T.length:Int)≤100))))) s:=by
 refine aF.pure ?_ (by simp[D.bJ,D.ok,Tag.ok,jq,je]) rfl s
 have h1:=fun s=>U2 hO s
 have g1:decide (fuel≥0)=decide (0≤fuel):=rfl
 unfold S0
 rcases Bool.eq_false_or_eq_true (p.check.1==0)with b1|b1
 all_goals rcases Bool.eq_false_or_eq_true (decide (0≤fuel))with b2|b2
 all_goals rcases Bool.eq_false_or_eq_true (decide (fuel≤400))with b3|b3
 all_goals rcases Bool.eq_false_or_eq_true (decide ((T.length:Int)≤100))with b4|b4
 all_goals simp only[b1,b2,b3,b4,Bool.true_and,Bool.false_and]
 all_goals rw[b1]at h1
 all_goals rw[b2]at g1
 all_goals
  refine aF.go FH rfl fun B Q hB hQ=>?_
  have⟨hD,hY,hZ,gA⟩:=bN
  repeat' (first
 |simp only[go_sem,hD,hY,hZ,gA,g1,b3,b4]
 |(with_reducible refine CU (h1 _) ?_)
 |(with_reducible first|refine bk fun hc=>?_|refine bl fun hc=>?_|refine bm (fun hc=>?_) fun hc=>?_)<;>(try simp only[hc,bs,↓reduceIte]at h)<;>try simp only[hc]
 |(with_reducible refine aE hQ ?_;(try cases h);simp only[aT,aV,bE,bF,go_sem,hD,hY,hZ,gA,g1,b3,b4];try exact cf)
 |(cases h;done))
def Pg.whole (p:Pg) (T:List Int) (fuel:Int):Mc:=(ofM p T (nY 0 p.all) fuel).1
theorem Gy {p:Pg} (hO:p.iX) (xO:p.all.length≤1000) {T:List Int} (hT:T.length<1000000) (fuel:Int) (s:St):aF Tryz.prog q5 [.agg (cB p), .slice .shared 1 (T.map cz), .int .i64 fuel] s (.agg (fu (p.whole T fuel))) s:=by
 refine aF.pure ?_ (by simp[D.bJ,D.ok,Tag.ok,jq,je]) (by simp only[D.ok,DG]) s
 have xJ:=hO.procs
 have h1:=fun s=>ajH (p:=p) (by omega) xO 0 s
 have hW:(nY 0 p.all).length<1000000:=by have:=EX 0 p.all;omega
 have h2:=fun s=>agt hO hT hW fuel s
 unfold Pg.whole
 unfold S0
 refine aF.go FI rfl fun B Q hB hQ=>?_
 have⟨hD,hY,hZ,gA⟩:=bN
 repeat' (first
 |simp only[go_sem,hD,hY,hZ,gA]
 |(with_reducible refine CU (h1 _) ?_)
 |(with_reducible refine CU (h2 _) ?_)
 |(with_reducible first|refine bk fun hc=>?_|refine bl fun hc=>?_|refine bm (fun hc=>?_) fun hc=>?_)<;>(try simp only[hc,bs,↓reduceIte]at h)<;>try simp only[hc]
 |(with_reducible refine aE hQ ?_;exact fD)
 |(cases h;done))
end Go.Abs
namespace Go.Abs
def Reads (n:Nat) (m:Mc):Prop:=0≤m.reads∧m.reads≤(n:Int)∧(m.fin=3→m.reads=(n:Int))
def Sm.tells (s:Sm):Nat:=if s.kind==4 ||(decide (s.kind≥7) && !s.has)then 0 else 1
def OA (m m':Mc):Prop:=m'.trace=m.trace∧m'.out=m.out∧m'.reads=m.reads
def OB (T:List Int) (x:Sm) (m m':Mc):Prop:=∃ bI:List Int,m'.trace=m.trace++ [(x.id,bI)]∧m'.out=m.out++(if x.kind==3 then bI else [])∧bI.length=x.tells∧
 (if x.kind==2 then ∃ v,T[m.reads.toNat]? = some v∧bI = [v]∧m'.reads=m.reads+1 else m'.reads=m.reads)
def Bb (T:List Int) (x:Sm) (m m':Mc):Prop:=OA m m'∨OB T x m m'
theorem acv {s:Sm} (h:s.one=true):1≤s.kind∧s.kind≤10∧(s.kind≠9→s.has=false):=by
 unfold Sm.one at h
 split at h
 ·cases h
 ·rename_i c
  simp only[Bool.or_eq_true,not_or,Bool.not_eq_true,Bool.and_eq_false_iff,decide_eq_false_iff_not,bne_eq_false_iff_eq]at c
  obtain⟨⟨⟨⟨⟨c1,c2⟩,_⟩,_⟩,_⟩,c3⟩:=c
  refine⟨by omega,by omega,fun hk=>?_⟩
  rcases c3 with c3|c3
  ·exact c3
  ·exact absurd c3 hk
theorem tx {T W:List Int} {x:Sm} {m m1:Mc} {bI:List Int} (hW:W.contains x.id=true) (e:m1.trace=m.trace) (eo:m1.out=m.out) (er:m1.reads=m.reads) (hv:bI.length=x.tells) (h3:(x.kind==3)=false) (h2:(x.kind==2)=false):OB T x m (m1.event W x.id bI):=by
 have k:=fh W m1 x.id bI
 refine⟨bI, ?_, ?_,hv, ?_⟩
 ·unfold Mc.event;rw[if_pos hW];dsimp only;rw[e]
 ·rw[h3];simp[k.2.2.2.2.2,eo]
 ·rw[h2];simp[k.2.2.2.2.1,er]
theorem RQ {p:Pg} {T W:List Int} {m:Mc} {v:Sm} (hk:(v.kind==4)=true) (hW:W.contains v.id=true):Bb T v m (m.call p W v).2:=by
 have h1:=A7 v.args m []
 have h2:=xW v.args m []
 unfold Mc.call
 generalize Mc.args v.args m [] = r at *
 obtain⟨o,m1⟩:=r
 dsimp only at h1 h2
 have k4:v.kind=4:=by simpa using hk
 cases o with
 |none=>exact .inl ⟨h1.2,h1.1,h2.1⟩
 | some l=>
  dsimp only
  by_cases c:m1.st.length > 100
  ·rw[if_pos c];exact .inl ⟨h1.2,h1.1,h2.1⟩
  ·rw [if_neg c]
   have e2:=xV p (m1.event W v.id []) (p.at v.proc) l v.id
   obtain⟨bI,g1,g2,g3,g4⟩:=tx (T:=T) (x:=v) (m:=m) (bI:= []) hW h1.2 h1.1 h2.1 (by unfold Sm.tells;rw[hk];rfl) (by rw[k4];rfl) (by rw[k4];rfl)
   exact .inr ⟨bI,e2.1.trans g1,e2.2.1.trans g2,g3,by rw[e2.2.2.1];exact g4⟩
theorem Nk {T W:List Int} {m:Mc} {v:Sm} (hk:(v.kind==9)=true) (hW:W.contains v.id=true):Bb T v m (m.fv W v).2:=by
 have hw:=gR m v.x
 have k9:v.kind=9:=by simpa using hk
 have k4:(v.kind==4)=false:=by rw[k9];rfl
 have k7:decide (v.kind≥7)=true:=by simp[k9]
 unfold Mc.fv
 rcases Bool.eq_false_or_eq_true v.has with c|c
 ·rw [if_pos c]
  dsimp only
  split
  ·exact .inr (tx hW hw.2.2.2.2.2 hw.2.2.2.2.1 hw.2.2.2.1 (by unfold Sm.tells;rw[k4,k7,c];rfl) (by rw[k9];rfl) (by rw[k9];rfl))
  ·exact .inl ⟨hw.2.2.2.2.2,hw.2.2.2.2.1,hw.2.2.2.1⟩
 ·rw [if_neg (by rw [c];exact Bool.false_ne_true)]
  exact .inr (tx hW rfl rfl rfl (by unfold Sm.tells;rw[k4,k7,c];rfl) (by rw[k9];rfl) (by rw[k9];rfl))
theorem Yg {p:Pg} {L:List Im} {T W:List Int} {m:Mc} {it:Im} (h1:it.s.one=true) (k4:(it.s.kind==4)=false) (k9:(it.s.kind==9)=false) (hW:W.contains it.s.id=true):Bb T it.s m (m.do p L T W it).2:=by
 have hw:=gR m it.s.x
 obtain⟨o1,o2,o3⟩:=acv h1
 have hh:=o3 (by simpa using k9)
 have late:(decide (it.s.kind≥7))=true→it.s.tells=0:=fun e=>by unfold Sm.tells;rw[k4,e,hh];rfl
 have arb:(decide (it.s.kind≥7))=false→it.s.tells=1:=fun e=>by unfold Sm.tells;rw[k4,e];rfl
 unfold Mc.do
 dsimp only
 by_cases c7:(it.s.kind==7)=true
 ·rw [if_pos c7]
  have e:it.s.kind=7:=by simpa using c7
  exact .inr (tx hW rfl rfl rfl (late (by simp[e])).symm (by rw[e];rfl) (by rw[e];rfl))
 rw[if_neg c7]
 by_cases c8:(it.s.kind==8)=true
 ·rw [if_pos c8]
  have e:it.s.kind=8:=by simpa using c8
  exact .inr (tx hW rfl rfl rfl (late (by simp[e])).symm (by rw[e];rfl) (by rw[e];rfl))
 rw[if_neg c8]
 by_cases zO:(it.s.kind==10)=true
 ·rw [if_pos zO]
  have e:it.s.kind=10:=by simpa using zO
  exact .inr (tx hW rfl rfl rfl (late (by simp[e])).symm (by rw[e];rfl) (by rw[e];rfl))
 rw[if_neg zO]
 have s7:decide (it.s.kind≥7)=false:=by
  simp only[beq_iff_eq]at c7 c8 zO
  simp only[beq_eq_false_iff_ne,ne_eq]at k9
  simp only[decide_eq_false_iff_not]
  omega
 have one:=arb s7
 by_cases c2:(it.s.kind==2)=true
 ·rw [if_pos c2]
  have e:it.s.kind=2:=by simpa using c2
  cases ht:T[m.reads.toNat]? with
  |none=>exact .inl ⟨rfl,rfl,rfl⟩
  |some n=>
   dsimp only
   have k:=fh W (({m with reads:=m.reads+1} : Mc).set it.s.name n) it.s.id [n]
   refine .inr ⟨[n], ?_, ?_,by rw[one];rfl, ?_⟩
   ·unfold Mc.event;rw[if_pos hW];rfl
   ·rw[k.2.2.2.2.2,e];simp[Mc.set]
   ·rw[if_pos c2];exact⟨n,ht,rfl,k.2.2.2.2.1⟩
 rw[if_neg c2]
 have c2':(it.s.kind==2)=false:=by simpa using c2
 by_cases cw:(m.bu it.s.x).1.2=true
 ·rw [if_pos cw]
  have k:=fh W (m.bu it.s.x).2 it.s.id [(m.bu it.s.x).1.1]
  have et:((m.bu it.s.x).2.event W it.s.id [(m.bu it.s.x).1.1]).trace=m.trace++ [(it.s.id,[(m.bu it.s.x).1.1])]:=by
   unfold Mc.event;rw[if_pos hW];dsimp only;rw[hw.2.2.2.2.2]
  by_cases c3:(it.s.kind==3)=true
  ·have e:it.s.kind=3:=by simpa using c3
   have n1 : ¬((it.s.kind==1)=true):=by rw[e];decide
   rw[if_neg n1,if_pos c3]
   refine .inr ⟨[(m.bu it.s.x).1.1],et, ?_,by rw[one];rfl, ?_⟩
   ·rw[if_pos c3];dsimp only;rw[k.2.2.2.2.2,hw.2.2.2.2.1]
   ·rw[if_neg c2];dsimp only;rw[k.2.2.2.2.1,hw.2.2.2.1]
  ·have key:OB T it.s m ((m.bu it.s.x).2.event W it.s.id [(m.bu it.s.x).1.1]):=
    tx hW hw.2.2.2.2.2 hw.2.2.2.2.1 hw.2.2.2.1 (by rw[one];rfl) (by simpa using c3) c2'
   rw[if_neg c3]
   split
   ·exact .inr key
   split
   ·exact .inr key
   split
   ·exact .inr key
   ·exact .inr key
 ·rw [if_neg cw]
  exact .inl ⟨hw.2.2.2.2.2,hw.2.2.2.2.1,hw.2.2.2.1⟩
theorem Ml (L:List Im) (m:Mc) (g:Int):OA m (m.back L g).2:=by
 have h:=A9 L m g
 exact⟨h.1,h.2.1,h.2.2.1⟩
theorem Bb.sil {T:List Int} {x:Sm} {m m1 m2:Mc} (h:Bb T x m m1) (k:OA m1 m2):Bb T x m m2:=by
 rcases h with h|⟨v,h1,h2,h3,h4⟩
 ·exact .inl ⟨k.1.trans h.1,k.2.1.trans h.2.1,k.2.2.trans h.2.2⟩
 ·exact .inr ⟨v,k.1.trans h1,k.2.1.trans h2,h3,by rw[k.2.2];exact h4⟩
theorem RS {p:Pg} {L:List Im} {T W:List Int} (hW : ∀ x∈L,W.contains x.s.id=true∧x.s.one=true) {fuel a:Int} {m:Mc} (ha:oI L a) :
 OA m (m.next p L T W fuel a).2∨∃ x∈L,OB T x.s m (m.next p L T W fuel a).2:=by
 unfold Mc.next
 by_cases c1:(a == -1)=true
 ·rw[if_pos c1];exact .inl (Ml L m 0)
 rw[if_neg c1]
 by_cases c2:(m.steps==fuel)=true
 ·rw[if_pos c2];exact .inl ⟨rfl,rfl,rfl⟩
 rw[if_neg c2]
 have hm:=qa ha (by simpa using c1)
 obtain⟨w1,w2⟩:=hW _ hm
 dsimp only
 have fin : ∀ {m':Mc},Bb T (fa L a).s {m with steps:=m.steps+1} m'→OA m m'∨∃ x∈L,OB T x.s m m':=fun {m'} h=>by
  rcases h with h|h
  ·exact .inl h
  ·exact .inr ⟨_,hm,h⟩
 by_cases c4:((fa L a).s.kind==4)=true
 ·rw[if_pos c4];exact fin (RQ c4 w1)
 rw[if_neg c4]
 by_cases c9:((fa L a).s.kind==9)=true
 ·rw [if_pos c9]
  have:=Nk (T:=T) (m:= {m with steps:=m.steps+1}) c9 w1
  split
  ·exact fin (this.sil (Ml ..))
  ·exact fin this
 rw[if_neg c9]
 exact fin (Yg w2 (by simpa using c4) (by simpa using c9) w1)
def o4 (f:Int→Sm) (k:Int):List (Int×List Int)→List Int
 | []=> []
 |e::l=>(if(f e.1).kind==k then e.2 else [])++o4 f k l
theorem Bc (f:Int→Sm) (k:Int) : ∀ a b,o4 f k (a++b)=o4 f k a++o4 f k b
 | [],b=>rfl
 |e::a,b=>by simp only[List.cons_append,o4,Bc f k a b,List.append_assoc]
structure vj (L:List Im) (f:Int→Sm) (T:List Int) (m:Mc):Prop where
 ev : ∀ e∈m.trace,∃ x∈L,x.s.id=e.1∧e.2.length=x.s.tells
 out:o4 f 3 m.trace=m.out
 ins:o4 f 2 m.trace=T.take m.reads.toNat
 reads:0≤m.reads∧m.reads≤(T.length:Int)
theorem vj.sil {L:List Im} {f:Int→Sm} {T:List Int} {m m':Mc} (h:vj L f T m) (k:OA m m'):vj L f T m':=by
 obtain⟨k1,k2,k3⟩:=k
 exact⟨by rw[k1];exact h.ev,by rw[k1,k2];exact h.out,by rw[k1,k3];exact h.ins,by rw[k3];exact h.reads⟩
theorem vj.tel {L:List Im} {f:Int→Sm} {T:List Int} {m m':Mc} {x:Im} (hx:x∈L) (hf:f x.s.id=x.s) (h:vj L f T m) (k:OB T x.s m m'):vj L f T m':=by
 obtain⟨v,k1,k2,k3,k4⟩:=k
 refine⟨fun e me=>?_, ?_, ?_, ?_⟩
 ·rw [k1]at me
  rcases List.mem_append.1 me with me|me
  ·exact h.ev e me
  ·rw[List.mem_singleton.1 me];exact⟨x,hx,rfl,k3⟩
 ·rw[k1,k2,Bc,h.out];simp[o4,hf]
 ·rw [k1,Bc,h.ins]
  by_cases c:(x.s.kind==2)=true
  ·rw [if_pos c]at k4
   obtain⟨w,j1,j2,j3⟩:=k4
   have hr:=h.reads.1
   have e:m'.reads.toNat=m.reads.toNat+1:=by rw[j3];omega
   rw[e,List.take_add_one,j1,j2]
   simp[o4,hf,c]
  ·rw [if_neg c]at k4
   rw[k4]
   have c':(x.s.kind==2)=false:=by simpa using c
   simp[o4,hf,c']
 ·by_cases c:(x.s.kind==2)=true
  ·rw [if_pos c]at k4
   obtain⟨w,j1,j2,j3⟩:=k4
   have hr:=h.reads
   have:=(List.getElem?_eq_some_iff.1 j1).1
   omega
  ·rw [if_neg c]at k4
   rw[k4];exact h.reads
theorem OC {p:Pg} {L:List Im} (hL:Bw p L) {f:Int→Sm} (hf : ∀ x∈L,f x.s.id=x.s) {T W:List Int} (hW : ∀ x∈L,W.contains x.s.id=true∧x.s.one=true) {fuel:Int} : ∀ (N:Nat) (a:Int) (m m':Mc),oI L a→py L m→m.fin=0→(m.trace.length:Int)=m.steps→vj L f T m→
 Mc.go p L T W fuel N a m=some m'→vj L f T m'
 | 0,_,_,_,_,_,_,_,_,h=>by simp[Mc.go]at h
 | N+1,a,m,m',ha,hs,hfi,ht,hl,h=>by
  have hn:=IP (fuel:=fuel) (tape:=T) hL (fun x mx=>(hW x mx).1) ha hs hfi ht
  have he:=RS (p:=p) (T:=T) (W:=W) (fuel:=fuel) (m:=m) hW ha
  have mN:vj L f T (m.next p L T W fuel a).2:=by
   rcases he with he|⟨x,mx,he⟩
   ·exact hl.sil he
   ·exact hl.tel mx (hf x mx) he
  simp only[Mc.go]at h
  cases e:m.next p L T W fuel a with
  | mk o m1=>
   rw[e]at h hn mN
   cases o with
   |none=>simp only[Option.some.injEq]at h;subst h;exact mN
   |some a1=>
    obtain⟨h1,h2,h3,h4⟩:=hn
    exact OC hL hf hW N a1 m1 m' h1 h2 h3 h4 mN h
theorem U7 {p:Pg} (hL:Bw p p.bg.L) {f:Int→Sm} (hf : ∀ x∈p.bg.L,f x.s.id=x.s) {T W:List Int} (hW : ∀ x∈p.bg.L,W.contains x.s.id=true∧x.s.one=true) {fuel:Int} {m:Mc} (h:runM p T W fuel=some m):vj p.bg.L f T m:=by
 obtain⟨h1,h2,h3,h4⟩:=LH hL
 have ho:=xV p (jZ p) (p.at dG) [] 0
 refine OC hL hf hW _ _ _ _ h1 h2 h3 h4 ?_ h
 have h0:vj p.bg.L f T (jZ p):=⟨fun e me=>by simp[jZ]at me,rfl,rfl,by simp[jZ]⟩
 exact h0.sil ⟨ho.1,ho.2.1,ho.2.2.1⟩
def azl (fuel:Int) (m:Mc):Prop:=m.fin=2→m.steps=fuel
def aj6 (W:List Int) (l:List (Int×List Int)):List (Int×List Int):=l.filter fun e=>W.contains e.1
def azm (W:List Int) (m:Mc):Mc:= {m with trace:=aj6 W m.trace}
theorem Bd : ∀ l:List It,nY 0 l=l.map fun i=>i.s.id
 | []=>rfl
 |i::l=>by simp only[nY,List.map_cons,Bd l];rfl
theorem Mm {p:Pg} (hb:p.may=true) : ∀ x∈p.bg.L,(nY 0 p.all).contains x.s.id=true∧x.s.one=true:=fun x mx=>by
 have h1:x.s∈p.pre:=by rw[← (lR p).1];exact List.mem_map_of_mem mx
 refine⟨?_,Og hb _ h1⟩
 rw[Bd,List.contains_iff_mem]
 have e:p.all.map (fun i=>i.s.id)=(p.all.map It.s).map fun s=>s.id:=by rw[List.map_map];rfl
 rw[e,(AA hb).2]
 exact List.mem_map_of_mem h1
theorem U8 {p:Pg} (hb:p.may=true) {v:Sm} (hv:v∈p.pre):p.Dy v.id=v:=by
 obtain⟨h1,h2⟩:=XN hb ⟨v,hv,rfl⟩
 obtain⟨i,hi⟩:=List.getElem?_of_mem hv
 obtain⟨j,hj⟩:=List.getElem?_of_mem h1
 have e1:=CA hb hi
 have e2:=CA hb hj
 have:i=j:=by omega
 subst this
 rw[hi]at hj
 exact(Option.some.inj hj).symm
theorem RU {p:Pg} {T W:List Int} {fuel:Int} {m:Mc} (h0:0≤fuel) (h:runM p T W fuel=some m):m.steps≤fuel:=by
 have h1:=zK p (jZ p) (p.at dG) [] 0
 have e2:(jZ p).steps=0:=rfl
 exact LI p _ T W _ _ _ m (by rw[h1.2,e2];exact h0) h
theorem Gz {f:Int→Sm} {k:Int} : ∀ {l:List (Int×List Int)},(∀ e∈l,e.2.length≤1)→(o4 f k l).length≤l.length
 | [],_=>Nat.le_refl _
 |e::l,h=>by
  have h1:=Gz (f:=f) (k:=k) fun e m=>h e (List.mem_cons_of_mem _ m)
  have h2:=h e (List.mem_cons_self ..)
  simp only[o4,List.length_append,List.length_cons]
  split<;>simp<;>omega
theorem Yh (s:Sm):s.tells≤1:=by unfold Sm.tells;split<;>omega
structure Run (p:Pg) (T:List Int) (fuel:Int) (m:Mc):Prop where
 run:runM p T (nY 0 p.all) fuel=some m
 of:ofM p T (nY 0 p.all) fuel=(m,0)
 whole:p.whole T fuel=m
 azn:vj p.bg.L p.Dy T m
 told:XK m
 steps:m.steps≤fuel
 len:m.Len
 small:m.trace.length≤fuel.toNat∧m.out.length≤fuel.toNat∧∀ e∈m.trace,e.2.length≤1
theorem agB {p:Pg} (hc:(p.check.1==0)=true) {T:List Int} {fuel:Int} (h0:0≤fuel) (h1:fuel≤1000000) : ∃ m,Run p T fuel m:=by
 have hR:=AX hc
 have hb:=hR.may
 obtain⟨m,hm⟩:=IL p T (nY 0 p.all) h0
 have xL:ofM p T (nY 0 p.all) fuel=(m,0):=by
  unfold ofM
  rw[if_neg,hm];rfl
  simp[hc];omega
 have hl:=UK hR
 have hlg:=U7 (f:=p.Dy) hl (fun x mx=>U8 hb (by rw[← (lR p).1];exact List.mem_map_of_mem mx)) (Mm hb) hm
 have ht:=Uv hl (fun x mx=>(Mm hb x mx).1) hm
 have hs:=RU h0 hm
 have hv : ∀ e∈m.trace,e.2.length≤1:=fun e me=>by
  obtain⟨x,_,_,h⟩:=hlg.ev e me
  rw[h];exact Yh _
 have vn:m.trace.length≤fuel.toNat:=by rcases ht with ⟨_,h⟩|⟨_,h⟩<;>omega
 have jA:m.out.length≤fuel.toNat:=by rw[← hlg.out];exact Nat.le_trans (Gz hv) vn
 exact⟨m,hm,xL,by unfold Pg.whole;rw[xL],hlg,ht,hs,⟨by omega,by omega,fun e me=>by have:=hv e me;omega⟩,vn,jA,hv⟩
theorem RV (m:Mc):DI m m=true:=by
 unfold DI DH
 simp
structure azo (fuel:Int) (r s:Mc):Prop where
 steps:r.steps=fuel
 trace:(r.trace.length:Int)=fuel
 more:r.steps≤s.steps
 reads:r.reads≤s.reads
 out:(decide ((r.out.length:Int)≤(s.out.length:Int)) && r.out==s.out.take r.out.length)=true
 told:fuel≤(s.trace.length:Int)∧s.trace.take fuel.toNat=r.trace
set_option maxRecDepth 8000
open Go.Proofs
theorem Yi {p:Pg} {T:List Int} {fuel:Int} (h:(p.check.1==0 && (decide (0≤fuel) && (decide (fuel≤400) && decide ((T.length:Int)≤100))))=true):(p.check.1==0)=true∧0≤fuel∧fuel≤400∧T.length≤100:=by
 simp only[Bool.and_eq_true,decide_eq_true_eq]at h
 exact⟨h.1,h.2.1,h.2.2.1,by omega⟩
variable {a b:az}
theorem HI (x:az) : ∀ (l:List az) (k:Int),iF (cj a b x) k (l.map (cj a b))=iF x k l
 | [],_=>rfl
 |s::l,k=>by simp only[List.map_cons,iF,zL,HI x l]
theorem Yj (x:az) (names:List az) (bI:List Int):Dv (cj a b x) (names.map (cj a b)) bI=Dv x names bI:=by
 unfold Dv;rw[HI]
mutual
theorem OD (names:List az) (bI:List Int) : ∀ x:Ex,(x.swap a b).val (names.map (cj a b)) bI=x.val names bI
 |⟨op,n,name,kids⟩=>by
  simp only[Ex.swap,Ex.val,Yj,Mn names bI kids]
theorem Mn (names:List az) (bI:List Int) : ∀ l:List Ex,Ex.CP (names.map (cj a b)) bI (Ex.dn a b l)=Ex.CP names bI l
 | []=>by simp only[Ex.dn,Ex.CP]
 |x::l=>by simp only[Ex.dn,Ex.CP,OD names bI x,Mn names bI l]
end
def Fr.sw (a b:az) (fr:Fr):Fr:=⟨fr.proc,fr.names.map (cj a b),fr.vars,fr.call⟩
def Mc.sw (a b:az) (m:Mc):Mc:= {m with st:=m.st.map (Fr.sw a b)}
theorem GC (m:Mc):(m.sw a b).top=m.top.sw a b:=by
 unfold Mc.sw Mc.top
 cases m.st<;>rfl
theorem acw (m:Mc):(m.sw a b).bI=m.bI:=by
 unfold Mc.bI;rw[GC];rfl
theorem OE (m:Mc) (name:az):(m.sw a b).cell (cj a b name)=m.cell name:=by
 unfold Mc.cell;rw[GC]
 show m.top.vars.getD (iF (cj a b name) 0 (m.top.names.map (cj a b))).toNat 0=_
 rw[HI]
theorem Mp (m:Mc) (name:az) (v:Int):(m.sw a b).set (cj a b name) v=(m.set name v).sw a b:=by
 unfold Mc.set;rw[OE];rfl
theorem qe (W:List Int) (m:Mc) (id:Int) (bI:List Int):(m.sw a b).event W id bI=(m.event W id bI).sw a b:=by
 unfold Mc.event;split<;>rfl
theorem Mq (fin:List az) (Ig:az) : ∀ l:List Sm,jk (fin.map (cj a b)) (cj a b Ig) (l.map (Sm.swap a b))=jk fin Ig l
 | []=>by simp only[List.map_nil,jk,oJ]
 |v::l=>by simp only[List.map_cons,jk,yH,oJ,qu,Mq fin Ig l]
theorem OF (l:List Sm) (o:Int):fp (Sm.dn a b l) o=fp l o:=by
 cases l with
 |nil=>rfl
 |cons s l=>simp only[Sm.dn,fp,qu]
theorem aan (p:Pg) (name:az):(p.swap a b).at (cj a b name)=p.at name:=by
 unfold Pg.at Pg.swap
 have : ∀ (l:List Pc) (k:Int),kJ (fun f:Pc=>f.name==cj a b name) k (l.map (Pc.swap a b))=kJ (fun f:Pc=>f.name==name) k l:=by
  intro l
  induction l with
  |nil=>intro k;rfl
  |cons f l ih=>
   intro k
   have:((f.swap a b).name==cj a b name)=(f.name==name):=zL
   simp only[List.map_cons,kJ,this,ih]
 exact this p.procs 0
section
variable (ha:isName a=true) (hb:isName b=true)
include ha hb
theorem E5 (m:Mc) (x:Ex):(m.sw a b).bu (x.swap a b)=((m.bu x).1,(m.bu x).2.sw a b):=by
 have e:(x.swap a b).bu (m.sw a b).top.names (m.sw a b).bI=x.bu m.top.names m.bI:=by
  unfold Ex.bu
  rw[Gc ha hb,acw,GC]
  show(if x.may then(x.swap a b).val (m.top.names.map (cj a b)) m.bI else _)=_
  rw[OD]
 unfold Mc.bu
 dsimp only
 rw[e]
 split<;>rfl
theorem HJ : ∀ (l:List Ar) (m:Mc) (out:List Nat),Mc.args (l.map (Ar.swap a b)) (m.sw a b) out=((Mc.args l m out).1,(Mc.args l m out).2.sw a b)
 | [],m,out=>rfl
 | y::l,m,out=>by
  have e1:(y.swap a b).ref=y.ref:=rfl
  have e2:(y.swap a b).x=y.x.swap a b:=rfl
  have e3:(y.swap a b).name=cj a b y.name:=rfl
  simp only[List.map_cons,Mc.args,e1,e2,e3,E5 ha hb,OE]
  split
  ·exact HJ l m _
  ·split
   ·exact HJ l {(m.bu y.x).2 with mem:=(m.bu y.x).2.mem++ [(m.bu y.x).1.1]} _
   ·rfl
omit ha hb in
theorem OG (p:Pg) (m:Mc) (i:Int) (l:List Nat) (c:Int):(m.sw a b).open (p.swap a b) i l c=((m.open p i l c).1,(m.open p i l c).2.sw a b):=by
 have e:(p.swap a b).procs[i.toNat]? = (p.procs[i.toNat]?).map (Pc.swap a b):=by unfold Pg.swap;rw[List.getElem?_map]
 unfold Mc.open
 rw[e]
 cases p.procs[i.toNat]? with
 |none=>rfl
 |some f=>
  have e1:(f.swap a b).body=Sm.dn a b f.body:=rfl
  have e2:(f.swap a b).vars.length=f.vars.length:=List.length_map ..
  have e3:(p.swap a b).globals.length=p.globals.length:=List.length_map ..
  have e4:(p.swap a b).globals=p.globals.map (cj a b):=rfl
  simp only[Option.map_some,e1,OF,e2,e4,List.length_map,Oi]
  rw[← List.map_append]
  rfl
theorem agD:D9.swap a b=D9:=by
 have h:cj a b [] = []:=by
  have:=tv ha hb []
  simpa using this
 simp[D9,qS,Sm.swap,Sm.dn,Ex.swap,Ex.dn,h]
theorem HK (L:List Im) (id:Int):fa (L.map fun m=> {m with s:=m.s.swap a b}) id = {fa L id with s:=(fa L id).s.swap a b}:=by
 unfold fa
 rw[List.getD_eq_getElem?_getD,List.getD_eq_getElem?_getD,List.getElem?_map]
 cases L[(id - 1).toNat]? with
 |none=>simp only[Option.map_none,Option.getD_none,agD ha hb]
 |some x=>rfl
theorem Yk (L:List Im) (m:Mc) (g:Int):(m.sw a b).close (L.map fun m=> {m with s:=m.s.swap a b}) g=((m.close L g).1,(m.close L g).2.sw a b):=by
 unfold Mc.close
 rw[GC]
 have e:(m.top.sw a b).call=m.top.call:=rfl
 have et:(m.sw a b).st.tail=m.st.tail.map (Fr.sw a b):=by
  show(m.st.map (Fr.sw a b)).tail=_
  rw[List.map_tail]
 dsimp only
 rw[e,HK ha hb,et]
 dsimp only
 rw[uB,tv ha hb]
 split
 ·rfl
 ·split
  ·rfl
  ·have:=Mp (a:=a) (b:=b) {m with st:=m.st.tail} (fa L m.top.call).s.name g
   exact congrArg (Prod.mk (fa L m.top.call).next) this
theorem Yl (W:List Int) (m:Mc) (s:Sm):(m.sw a b).fv W (s.swap a b)=((m.fv W s).1,(m.fv W s).2.sw a b):=by
 have e:(s.swap a b).has=s.has:=by cases s;rfl
 have hw:=E5 ha hb m s.x
 unfold Mc.fv
 rw[e,LX,qu]
 dsimp only
 rw[hw]
 split
 ·dsimp only
  split
  ·rw[qe]
  ·rfl
 ·rw[qe]
theorem acx (p:Pg) (W:List Int) (m:Mc) (s:Sm):(m.sw a b).call (p.swap a b) W (s.swap a b)=((m.call p W s).1,(m.call p W s).2.sw a b):=by
 unfold Mc.call
 rw[xU,HJ ha hb]
 generalize Mc.args s.args m [] = r
 obtain⟨o,m1⟩:=r
 cases o with
 |none=>rfl
 |some l=>
  have e:(m1.sw a b).st.length=m1.st.length:=List.length_map ..
  dsimp only
  rw[e,qu,uC,aan]
  by_cases c:m1.st.length > 100
  ·rw[if_pos c,if_pos c];rfl
  ·rw[if_neg c,if_neg c,qe,OG]
theorem aj7 (p:Pg) (L:List Im) (T W:List Int) (m:Mc) (it:Im):(m.sw a b).do (p.swap a b) (L.map fun m=> {m with s:=m.s.swap a b}) T W {it with s:=it.s.swap a b} = ((m.do p L T W it).1,(m.do p L T W it).2.sw a b):=by
 have er:(m.sw a b).reads=m.reads:=rfl
 have hw:=E5 ha hb m it.s.x
 have ep:(p.swap a b).procs[it.proc.toNat]? = (p.procs[it.proc.toNat]?).map (Pc.swap a b):=by unfold Pg.swap;rw[List.getElem?_map]
 have e2 : ∀ {l:List Sm} {o:Int},firstM (Sm.dn a b l) o=firstM l o:=fun {l o}=>OF l o
 have et:(it.s.swap a b).bb=Sm.dn a b it.s.bb:=by cases it.s;rfl
 have ee:(it.s.swap a b).aP=Sm.dn a b it.s.aP:=by cases it.s;rfl
 unfold Mc.do
 dsimp only
 rw[er,LX,hw,mY,qu,uB,HK ha hb,et,ee,e2,e2,e2]
 generalize m.bu it.s.x=r
 by_cases c7:(it.s.kind==7)=true
 ·rw[if_pos c7,if_pos c7,qe]
 rw[if_neg c7,if_neg c7]
 by_cases c8:(it.s.kind==8)=true
 ·rw[if_pos c8,if_pos c8,qe]
 rw[if_neg c8,if_neg c8]
 by_cases zO:(it.s.kind==10)=true
 ·rw [if_pos zO,if_pos zO,qe,ep]
  cases p.procs[it.proc.toNat]? with
  |none=>rfl
  |some f=>
   have e:(jk (f.fin.map (cj a b)) (cj a b it.s.name) (Sm.cL (Sm.dn a b f.body))).1=(jk f.fin it.s.name (Sm.cL f.body)).1:=by rw[lV,Mq]
   exact congrArg (fun z=>(z,(m.event W it.s.id []).sw a b)) e
 rw[if_neg zO,if_neg zO]
 by_cases c2:(it.s.kind==2)=true
 ·rw [if_pos c2,if_pos c2]
  cases T[m.reads.toNat]? with
  |none=>rfl
  |some n=>
   dsimp only
   have:=Mp (a:=a) (b:=b) {m with reads:=m.reads+1} it.s.name n
   rw[← qe, ← this];rfl
 rw[if_neg c2,if_neg c2]
 dsimp only
 rw[qe]
 by_cases cw:r.1.2=true
 ·rw [if_pos cw,if_pos cw]
  by_cases d1:(it.s.kind==1)=true
  ·rw[if_pos d1,if_pos d1,Mp]
  rw[if_neg d1,if_neg d1]
  by_cases d1:(it.s.kind==3)=true
  ·rw[if_pos d1,if_pos d1];rfl
  rw[if_neg d1,if_neg d1]
  by_cases d1:(it.s.kind==5)=true
  ·rw[if_pos d1,if_pos d1]
  rw[if_neg d1,if_neg d1]
  by_cases d1:(it.s.kind==6)=true
  ·rw[if_pos d1,if_pos d1]
  rw[if_neg d1,if_neg d1]
 ·rw[if_neg cw,if_neg cw]
theorem acy (p:Pg) (L:List Im) (T W:List Int) (fuel x:Int) (m:Mc) :
 (m.sw a b).next (p.swap a b) (L.map fun m=> {m with s:=m.s.swap a b}) T W fuel x=((m.next p L T W fuel x).1,(m.next p L T W fuel x).2.sw a b):=by
 have back : ∀ (m:Mc) (g:Int),(m.sw a b).back (L.map fun m=> {m with s:=m.s.swap a b}) g=((m.back L g).1,(m.back L g).2.sw a b):=fun m g=>by
  unfold Mc.back
  simp only[Yk ha hb]
  rfl
 have es:(m.sw a b).steps=m.steps:=rfl
 have ef : ∀ m:Mc,(m.sw a b).fin=m.fin:=fun _=>rfl
 unfold Mc.next
 rw[es]
 by_cases c1:(x == -1)=true
 ·rw[if_pos c1,if_pos c1];exact back m 0
 rw[if_neg c1,if_neg c1]
 by_cases c2:(m.steps==fuel)=true
 ·rw[if_pos c2,if_pos c2];rfl
 rw[if_neg c2,if_neg c2]
 have e1:({m.sw a b with steps:=m.steps+1} : Mc)=Mc.sw a b {m with steps:=m.steps+1}:=rfl
 dsimp only
 rw[e1,HK ha hb]
 dsimp only
 rw[mY]
 by_cases c4:((fa L x).s.kind==4)=true
 ·rw[if_pos c4,if_pos c4,acx ha hb];rfl
 rw[if_neg c4,if_neg c4]
 by_cases c9:((fa L x).s.kind==9)=true
 ·rw [if_pos c9,if_pos c9,Yl ha hb]
  dsimp only
  rw[ef]
  split
  ·exact back _ _
  ·rfl
 rw[if_neg c9,if_neg c9,aj7 ha hb];rfl
theorem aao (p:Pg) (L:List Im) (T W:List Int) (fuel:Int) : ∀ (N:Nat) (x:Int) (m m':Mc),Mc.go p L T W fuel N x m=some m'→Mc.go (p.swap a b) (L.map fun m=> {m with s:=m.s.swap a b}) T W fuel N x (m.sw a b)=some (m'.sw a b)
 | 0,_,_,_,h=>by simp[Mc.go]at h
 | N+1,x,m,m',h=>by
  simp only[Mc.go]at h ⊢
  rw[acy ha hb]
  cases e:m.next p L T W fuel x with
  |mk o m1=>
   rw[e]at h
   cases o with
   |none=>simp only[Option.some.injEq]at h;subst h;rfl
   |some a1=>exact aao p L T W fuel N a1 m1 m' h
omit ha hb in
theorem OH : ∀ (l:List Pc) (k:Nat),oE k (l.map (Pc.swap a b))=(oE k l).map fun m=> {m with s:=m.s.swap a b}
 | [],_=>rfl
 |f::l,k=>by
  simp only[List.map_cons,oE,List.map_append,OH l]
  congr 1
  exact CX _ _ _ _ f.body
theorem Ym {p:Pg} (hp:p.may=true):(p.swap a b).bg.L=p.bg.L.map fun m=> {m with s:=m.s.swap a b}:=by
 rw[CM hp,CM (by rw[EW ha hb];exact hp)]
 exact OH p.procs 0
theorem acz {p:Pg} (hp:p.may=true) (h1:a≠dG) (h2:b≠dG) {T W:List Int} {fuel:Int} {m:Mc} (h:runM p T W fuel=some m):runM (p.swap a b) T W fuel=some (m.sw a b):=by
 unfold runM at h ⊢
 dsimp only at h ⊢
 have e0:cj a b dG=dG:=by
  unfold cj
  rw[if_neg (by simp;exact fun e=>h1 e.symm),if_neg (by simp;exact fun e=>h2 e.symm)]
 have e1:(p.swap a b).at dG=p.at dG:=by
  have:=aan (a:=a) (b:=b) p dG
  rwa [e0]at this
 have e2:jZ (p.swap a b)=(jZ p).sw a b:=by
  unfold jZ Mc.sw Pg.swap
  simp
 rw[e1,e2,OG,Ym ha hb hp]
 exact aao ha hb p _ T W fuel _ _ _ m h
omit ha hb in
theorem agE (p:Pg):nY 0 (p.swap a b).all=nY 0 p.all:=by
 have e:(p.swap a b).all=p.all.map (It.swap a b):=EV a b p.procs []
 rw[e,Bd,Bd,List.map_map]
 congr 1
 funext i
 exact qu i.s
theorem Yn {p:Pg} (hc:(p.check.1==0)=true) (h1:a≠dG) (h2:b≠dG) {T:List Int} {fuel:Int} (h0:0≤fuel) (hf:fuel≤1000000) {m:Mc} (h:Run p T fuel m):(p.swap a b).whole T fuel=m.sw a b:=by
 have:=acz ha hb (AX hc).may h1 h2 h.run
 unfold Pg.whole ofM
 rw[agE,if_neg,this];rfl
 rw[UH ha hb h1 h2]
 simp[hc];omega
end
end Go.Abs
namespace Go.Abs
set_option maxRecDepth 8000
open Go.Proofs
theorem DJ (a b t:az) (s:St):aF Tryz.prog jR [.str t, .str a, .str b] s (.str (cj a b t)) s:=by
 refine aF.pure ?_ rfl rfl s
 unfold S0 cj
 cases c1:t==a with
 |true=>
  rw[if_pos rfl]
  refine aF.go tq rfl fun B Q hB hQ=>?_
  have⟨hD,hY,hZ,gA⟩:=bN
  repeat' (first
 |simp only[go_sem,hD,hY,hZ,gA,c1]
 |(with_reducible first|refine bk fun hc=>?_|refine bl fun hc=>?_|refine bm (fun hc=>?_) fun hc=>?_)<;>(try simp only[hc,bs,↓reduceIte]at h)<;>try simp only[hc]
 |(with_reducible refine aE hQ ?_;(try cases h);simp only[aT,aV,bE,bF,go_sem,hD,hY,hZ,gA,c1];try exact cf)
 |(cases h;done))
 | false=>
  rw[if_neg (by simp)]
  cases c2:t==b with
  |true=>
   rw[if_pos rfl]
   refine aF.go tq rfl fun B Q hB hQ=>?_
   have⟨hD,hY,hZ,gA⟩:=bN
   repeat' (first
 |simp only[go_sem,hD,hY,hZ,gA,c1,c2]
 |(with_reducible first|refine bk fun hc=>?_|refine bl fun hc=>?_|refine bm (fun hc=>?_) fun hc=>?_)<;>(try simp only[hc,bs,↓reduceIte]at h)<;>try simp only[hc]
 |(with_reducible refine aE hQ ?_;(try cases h);simp only[aT,aV,bE,bF,go_sem,hD,hY,hZ,gA,c1,c2];try exact cf)
 | (cases h;done))
  |false=>
   rw[if_neg (by simp)]
   refine aF.go tq rfl fun B Q hB hQ=>?_
   have⟨hD,hY,hZ,gA⟩:=bN
   repeat' (first
 |simp only[go_sem,hD,hY,hZ,gA,c1,c2]
 |(with_reducible first|refine bk fun hc=>?_|refine bl fun hc=>?_|refine bm (fun hc=>?_) fun hc=>?_)<;>(try simp only[hc,bs,↓reduceIte]at h)<;>try simp only[hc]
 |(with_reducible refine aE hQ ?_;(try cases h);simp only[aT,aV,bE,bF,go_sem,hD,hY,hZ,gA,c1,c2];try exact cf)
 |(cases h;done))
theorem tU (a b:az) {l:List az} (hl:l.length≤10000000) (s:St):aF Tryz.prog kA [.slice .shared 1 (l.map encStr), .str a, .str b] s (.slice .shared 1 ((l.map (cj a b)).map encStr)) s:=by
 refine aF.pure ?_ (by simp[D.bJ,D.ok,ff,Tag.ok]) (by rw[D.ok,ff];rfl) s
 have ho:=fun t s=>DJ a b t s
 unfold S0
 generalize hR:l.map (cj a b)=R
 refine aF.go Co rfl fun B Q hB hQ=>?_
 have⟨hD,hY,hZ,gA⟩:=bN
 repeat' (first
 |simp only[go_sem,hD,hY,hZ,gA]
 |(with_reducible first|refine bk fun hc=>?_|refine bl fun hc=>?_|refine bm (fun hc=>?_) fun hc=>?_)<;>(try simp only[hc,bs,↓reduceIte]at h)<;>try simp only[hc]
 |(with_reducible refine aE hQ ?_;exact fD)
 |(cases h;done))
 refine br.rn 7 1 rfl ?_
 simp only[go_sem,hD,hY,hZ,gA]
 refine fc 0 1 (br.ind (ι:=List az×Nat×List az) (fun i=>l.drop i.2.1=i.1∧i.2.1=i.2.2.length∧i.2.2++i.1.map (cj a b)=R) (fun i=>i.1.length)
  (fun i=> [(1, .str a),(2, .str b),(7, .slice (.tok 0) 1 (i.2.2.map encStr)),(10, .slice .shared 1 (l.map encStr)),(11, .int .i64 (l.length:Int)),(12, .int .i64 (i.2.1:Int))]) (fun i=>⟨[],[some i.2.1]⟩) ?_ (l,0,[]) ⟨rfl,rfl,hR⟩)
 rintro⟨rest,k,acc⟩ ⟨h1,h2,h3⟩ IH
 dsimp only at h1 h2 h3
 subst h2
 cases rest with
 |nil=>
  have hD:=drop_nil h1
  simp only[List.map_nil,List.append_nil]at h3
  subst h3
  repeat' (first
 |simp only[go_sem,hD,hY,hZ,gA]
 |(with_reducible first|refine bk fun hc=>?_|refine bl fun hc=>?_|refine bm (fun hc=>?_) fun hc=>?_)<;>(try simp only[hc,bs,↓reduceIte]at h)<;>try simp only[hc]
 |(with_reducible refine aE hQ ?_;exact fD)
 |(cases h;done))
 |cons t rest=>
  obtain⟨hY,g2,hD,g4⟩:=drop_cons h1
  have hZ:(acc.length+1)*17≤bx:=by unfold bx;omega
  have w1:IntKind.wrap .i64 ((acc.length:Int)+1)=((acc.length+1:Nat):Int):=by rw[ek]<;>omega
  repeat' (first
 |simp only[go_sem,hD,hY,hZ,gA,w1]
 |(with_reducible refine CU (ho _ _) ?_)
 |(with_reducible first|refine bk fun hc=>?_|refine bl fun hc=>?_|refine bm (fun hc=>?_) fun hc=>?_)<;>(try simp only[hc,bs,↓reduceIte]at h)<;>try simp only[hc]
 |(with_reducible refine aE hQ ?_;(try cases h);simp only[aT,aV,bE,bF,go_sem,hD,hY,hZ,gA,w1];try exact cf)
 |(cases h;done))
  refine fc 0 1 (IH (rest,acc.length+1,acc++ [cj a b t]) ⟨g2,by simp,by rw[← h3];simp⟩ (by simp))
theorem RW (a b:az) : ∀ n,n<1073741824→∀ x:Ex,x.size≤n→aF Tryz.prog jS [.agg (bS x), .str a, .str b] S0 (.agg (bS (x.swap a b))) S0:=by
 intro n
 induction n with
 |zero=>rintro _ ⟨op,m,name,kids⟩ h;simp only[Ex.size]at h;omega
 |succ n ihn=>
 rintro hn ⟨op,m,name,kids⟩ hx
 have hk : ∀ y∈kids,∀ s,aF Tryz.prog jS [.agg (bS y), .str a, .str b] s (.agg (bS (y.swap a b))) s:=fun y hy s=>
  (ihn (by omega) y (by simp only[Ex.size]at hx;have:=Ex.df hy;omega)).pure (by simp[D.bJ,D.ok,kV]) (by simp[D.ok,kV]) s
 have hlen:kids.length<1073741824:=by simp only[Ex.size]at hx;have:=Ex.dS kids;omega
 have ho:=fun t s=>DJ a b t s
 have e:Ex.swap a b ⟨op,m,name,kids⟩ = ⟨op,m,cj a b name,kids.map (Ex.swap a b)⟩:=by simp only[Ex.swap,CT]
 rw[e]
 generalize hR:kids.map (Ex.swap a b)=R
 unfold S0
 refine aF.go DO rfl fun B Q hB hQ=>?_
 have⟨hD,hY,hZ,gA⟩:=bN
 repeat' (first
 |simp only[go_sem,hD,hY,hZ,gA]
 |(with_reducible refine CU (ho _ _) ?_)
 |(with_reducible first|refine bk fun hc=>?_|refine bl fun hc=>?_|refine bm (fun hc=>?_) fun hc=>?_)<;>(try simp only[hc,bs,↓reduceIte]at h)<;>try simp only[hc]
 |(with_reducible refine aE hQ ?_;exact fD)
 |(cases h;done))
 refine br.wm 2 3 4 rfl rfl ?_
 simp only[go_sem,hD,hY,hZ,gA]
 refine fc 3 1 (br.ind (ι:=List Ex×Nat×List Ex) (fun i=>kids.drop i.2.1=i.1∧i.2.1=i.2.2.length∧i.2.2++i.1.map (Ex.swap a b)=R) (fun i=>i.1.length)
  (fun i=> [(1, .str a),(2, .str b),(3, .ptr 0 0),(6, .ptr 1 0),(7, .ptr 2 0),(21, .int .i64 (kids.length:Int)),(22, .int .i64 (i.2.1:Int))])
  (fun i=>⟨[bS ⟨op,m,name,kids⟩,bS qS,[.int .i64 op, .int .i64 m, .str (cj a b name), .slice (.tok 0) 4 (i.2.2.map bS)]],[some i.2.1]⟩) ?_ (kids,0,[]) ⟨rfl,rfl,hR⟩)
 rintro⟨rest,k,acc⟩ ⟨h1,h2,h3⟩ IH
 dsimp only at h1 h2 h3
 subst h2
 cases rest with
 |nil=>
  have hD:=drop_nil h1
  simp only[List.map_nil,List.append_nil]at h3
  subst h3
  repeat' (first
 |simp only[go_sem,hD,hY,hZ,gA]
 |(with_reducible first|refine bk fun hc=>?_|refine bl fun hc=>?_|refine bm (fun hc=>?_) fun hc=>?_)<;>(try simp only[hc,bs,↓reduceIte]at h)<;>try simp only[hc]
 |(with_reducible refine aE hQ ?_;exact fD)
 |(cases h;done))
 |cons y rest=>
  obtain⟨hY,g2,hD,g4⟩:=drop_cons h1
  have kY:(acc.length+1)*57≤bx:=by simp only[bx];omega
  have hy:=hk y (List.mem_of_getElem? hY)
  have w1:IntKind.wrap .i64 ((acc.length:Int)+1)=((acc.length+1:Nat):Int):=by rw[ek]<;>omega
  repeat' (first
 |simp only[go_sem,hD,hY,hZ,gA,kY,w1]
 |(with_reducible refine CU (hy _) ?_)
 |(with_reducible first|refine bk fun hc=>?_|refine bl fun hc=>?_|refine bm (fun hc=>?_) fun hc=>?_)<;>(try simp only[hc,bs,↓reduceIte]at h)<;>try simp only[hc]
 |(with_reducible refine aE hQ ?_;(try cases h);simp only[aT,aV,bE,bF,go_sem,hD,hY,hZ,gA,kY,w1];try exact cf)
 |(cases h;done))
  refine fc 3 1 (IH (rest,acc.length+1,acc++ [y.swap a b]) ⟨g2,by simp,by rw[← h3];simp⟩ (Nat.lt_succ_self _))
theorem GD (a b:az) {x:Ex} (h:x.size<1073741824) (s:St):aF Tryz.prog jS [.agg (bS x), .str a, .str b] s (.agg (bS (x.swap a b))) s:=
 (RW a b x.size h x (Nat.le_refl _)).pure (by simp[D.bJ,D.ok,kV]) (by simp[D.ok,kV]) s
abbrev U9 (a b:az) (N:Nat):Prop:=∀ l:List Sm,Sm.a7 l<N→∀ s:St,aF Tryz.prog jt [.slice .shared 13 (l.map bj), .str a, .str b] s (.slice .shared 13 ((Sm.dn a b l).map bj)) s
theorem Va (a b:az) {N:Nat} (hN:N<10000000) (ih:U9 a b N) (l:List Sm) (hl:Sm.a7 l<N+1) :
 aF Tryz.prog jt [.slice .shared 13 (l.map bj), .str a, .str b] S0 (.slice .shared 13 ((Sm.dn a b l).map bj)) S0:=by
 have hlen:l.length<10000001:=by have:=Sm.dS l;omega
 have ho:=fun t s=>DJ a b t s
 generalize hR:Sm.dn a b l=R
 unfold S0
 refine aF.go Cp rfl fun B Q hB hQ=>?_
 have⟨hD,hY,hZ,gA⟩:=bN
 repeat' (first
 |simp only[go_sem,hD,hY,hZ,gA]
 |(with_reducible first|refine bk fun hc=>?_|refine bl fun hc=>?_|refine bm (fun hc=>?_) fun hc=>?_)<;>(try simp only[hc,bs,↓reduceIte]at h)<;>try simp only[hc]
 |(with_reducible refine aE hQ ?_;exact fD)
 |(cases h;done))
 refine br.rn 7 13 rfl ?_
 simp only[go_sem,hD,hY,hZ,gA]
 refine fc 0 1 (br.ind (ι:=List Sm×Nat×List Sm) (fun i=>l.drop i.2.1=i.1∧i.2.1=i.2.2.length∧i.2.2++Sm.dn a b i.1=R) (fun i=>i.1.length)
  (fun i=> [(1, .str a),(2, .str b),(7, .slice (.tok 0) 13 (i.2.2.map bj)),(13, .slice .shared 13 (l.map bj)),(14, .int .i64 (l.length:Int)),(15, .int .i64 (i.2.1:Int))])
  (fun i=>⟨[],[some i.2.1]⟩) ?_ (l,0,[]) ⟨rfl,rfl,hR⟩)
 rintro⟨rest,k,acc⟩ ⟨h1,h2,h3⟩ IH
 dsimp only at h1 h2 h3
 subst h2
 cases rest with
 |nil=>
  have hD:=drop_nil h1
  simp only[Sm.dn,List.append_nil]at h3
  subst h3
  repeat' (first
 |simp only[go_sem,hD,hY,hZ,gA]
 |(with_reducible first|refine bk fun hc=>?_|refine bl fun hc=>?_|refine bm (fun hc=>?_) fun hc=>?_)<;>(try simp only[hc,bs,↓reduceIte]at h)<;>try simp only[hc]
 |(with_reducible refine aE hQ ?_;exact fD)
 |(cases h;done))
 |cons y rest=>
  obtain⟨hY,g2,hD,g4⟩:=drop_cons h1
  have hk:acc.length<4611686018427387904:=by omega
  have dP:y.size≤N:=by have:=Sm.df (List.mem_of_getElem? hY);omega
  obtain⟨id,kind,labels,name,proc,x,has,args,bb,aP⟩:=y
  simp only[Sm.size]at dP
  have kY:(acc.length+1)*209≤bx:=by simp only[bx];omega
  have vw:=Ar.dS args
  have hx:=fun s=>GD a b (x:=x) (by omega) s
  simp only[iD]at hx
  have hL:=fun s=>tU a b (l:=labels) (by omega) s
  repeat' (first
 |simp only[go_sem,hD,hY,hZ,gA]
 |(with_reducible refine CU (hL _) ?_)
 |(with_reducible refine CU (ho _ _) ?_)
 |(with_reducible refine CU (hx _) ?_)
 |(with_reducible first|refine bk fun hc=>?_|refine bl fun hc=>?_|refine bm (fun hc=>?_) fun hc=>?_)<;>(try simp only[hc,bs,↓reduceIte]at h)<;>try simp only[hc]
 |(with_reducible refine aE hQ ?_;exact fD)
 | (cases h;done))
  refine br.wm 1 10 6 rfl rfl ?_
  simp only[go_sem,hD,hY,hZ,gA]
  generalize hLB:labels.map (cj a b)=DA
  generalize hX:x.swap a b=x'
  refine fc 2 2 (br.ind (ι:=List Ar×Nat×List Ar) (fun i=>args.drop i.2.1=i.1∧i.2.1=i.2.2.length∧i.2.2++i.1.map (Ar.swap a b)=args.map (Ar.swap a b)) (fun i=>i.1.length)
   (fun i=> [(1, .str a),(2, .str b),(7, .slice (.tok 0) 13 (acc.map bj)),(9, .ptr 0 0),(10, .ptr 1 0),(13, .slice .shared 13 (l.map bj)),(14, .int .i64 (l.length:Int)),(15, .int .i64 (acc.length:Int)),
    (47, .slice .shared 6 (args.map eC)),(48, .int .i64 (args.length:Int)),(49, .int .i64 (i.2.1:Int))])
   (fun i=>⟨[bj ⟨id,kind,labels,name,proc,x,has,args,bb,aP⟩,[.int .i64 id, .int .i64 kind, .slice .shared 1 (DA.map encStr), .str (cj a b name), .str (cj a b proc), .int .i64 x'.op, .int .i64 x'.n, .str x'.name, .slice .shared 4 (x'.kids.map bS), .bool has, .slice (.tok 1) 6 (i.2.2.map eC), .slice .full 0 [], .slice .full 0 []]],[some acc.length,some i.2.1]⟩) ?_ (args,0,[]) ⟨rfl,rfl,rfl⟩)
  rintro⟨Be,ka,vk⟩ ⟨j1,j2,j3⟩ IHa
  dsimp only at j1 j2 j3
  subst j2
  cases Be with
  |nil=>
   have hD:=drop_nil j1
   simp only[List.map_nil,List.append_nil]at j3
   have c1:=ih bb (by omega)
   have c2:=ih aP (by omega)
   have e:Sm.swap a b ⟨id,kind,labels,name,proc,x,has,args,bb,aP⟩ = ⟨id,kind,DA,cj a b name,cj a b proc,x',has,vk,Sm.dn a b bb,Sm.dn a b aP⟩:=by simp only[Sm.swap,hLB,hX,j3]
   repeat' (first
 |simp only[go_sem,hD,hY,hZ,gA,kY]
 |(with_reducible refine CU (c1 _) ?_)
 |(with_reducible refine CU (c2 _) ?_)
 |(with_reducible first|refine bk fun hc=>?_|refine bl fun hc=>?_|refine bm (fun hc=>?_) fun hc=>?_)<;>(try simp only[hc,bs,↓reduceIte]at h)<;>try simp only[hc]
 |(with_reducible refine aE hQ ?_;(try cases h);simp only[aT,aV,bE,bF,go_sem,hD,hY,hZ,gA,kY];try exact cf)
 | (cases h;done))
   refine fe 0 1 ?_ ?_ (IH (rest,acc.length+1,acc++ [Sm.swap a b ⟨id,kind,labels,name,proc,x,has,args,bb,aP⟩]) ⟨g2,by simp,by rw[← h3];simp[Sm.dn]⟩ (Nat.lt_succ_self _))
   ·(simp only[go_sem,hD,hY,hZ,gA,aJ hk,e];try exact cq)
   ·(simp only[go_sem,hD,hY,hZ,gA,aJ hk,e];try exact cq)
  | cons c Be=>
   obtain⟨hY,g2,hD,g4⟩:=drop_cons j1
   have ha:c.x.size<1073741824:=by have:=Ar.df (List.mem_of_getElem? hY);omega
   have B6:vk.length<4611686018427387904:=by
    have:=congrArg List.length j3
    simp at this;omega
   have C9:(vk.length+1)*81≤bx:=by
    have:=congrArg List.length j3
    simp at this;simp only[bx];omega
   have hxa:=fun s=>GD a b ha s
   simp only[iD]at hxa
   obtain⟨arc,aj8,ax⟩:=c
   repeat' (first
 |simp only[go_sem,hD,hY,hZ,gA,C9]
 |(with_reducible refine CU (hxa _) ?_)
 |(with_reducible refine CU (ho _ _) ?_)
 |(with_reducible first|refine bk fun hc=>?_|refine bl fun hc=>?_|refine bm (fun hc=>?_) fun hc=>?_)<;>(try simp only[hc,bs,↓reduceIte]at h)<;>try simp only[hc]
 |(with_reducible refine aE hQ ?_;(try cases h);simp only[aT,aV,bE,bF,go_sem,hD,hY,hZ,gA,C9];try exact cf)
 | (cases h;done))
   refine fe 2 2 ?_ ?_ (IHa (Be,vk.length+1,vk++ [⟨arc,cj a b aj8,ax.swap a b⟩]) ⟨g2,by simp,by simp only[List.append_assoc,List.cons_append,List.nil_append];exact j3⟩ (Nat.lt_succ_self _))
   ·(simp only[go_sem,hD,hY,hZ,gA,aJ B6];try exact cq)
   ·(simp only[go_sem,hD,hY,hZ,gA,aJ B6];try exact cq)
theorem Yo (a b:az) : ∀ N,N<10000000→U9 a b N:=by
 intro N
 induction N with
 |zero=>intro _ l hl;exact absurd hl (Nat.not_lt_zero _)
 |succ N ih=>
  intro hN l hl s
  exact(Va a b (by omega) (ih (by omega)) l hl).pure (by simp[D.bJ,D.ok,Tag.ok,oy]) (by simp[D.bJ,D.ok,Tag.ok,oy]) s
theorem Nl (a b:az) {l:List Sm} (h:Sm.a7 l<9000000) (s:St):aF Tryz.prog jt [.slice .shared 13 (l.map bj), .str a, .str b] s (.slice .shared 13 ((Sm.dn a b l).map bj)) s:=
 Yo a b 9999999 (by omega) l (by omega) s
theorem agG (a b:az) {p:Pg} (hp:p.size<1000000) (st:St):aF Tryz.prog ym [.agg (cB p), .str a, .str b] st (.agg (cB (p.swap a b))) st:=by
 refine aF.pure ?_ (by simp[D.bJ,D.ok,jq]) (by simp[D.ok,jq]) st
 obtain⟨globals,procs⟩:=p
 simp only[Pg.size]at hp
 have hlen:procs.length<1000000:=by have:=Pc.dS procs;omega
 have hG:=fun s=>tU a b (l:=globals) (by omega) s
 have ho:=fun t s=>DJ a b t s
 have e:Pg.swap a b ⟨globals,procs⟩ = ⟨globals.map (cj a b),procs.map (Pc.swap a b)⟩:=rfl
 rw[e]
 generalize hR:procs.map (Pc.swap a b)=R
 unfold S0
 refine aF.go Jn rfl fun B Q hB hQ=>?_
 have⟨hD,hY,hZ,gA⟩:=bN
 repeat' (first
 |simp only[go_sem,hD,hY,hZ,gA]
 |(with_reducible refine CU (hG _) ?_)
 |(with_reducible first|refine bk fun hc=>?_|refine bl fun hc=>?_|refine bm (fun hc=>?_) fun hc=>?_)<;>(try simp only[hc,bs,↓reduceIte]at h)<;>try simp only[hc]
 |(with_reducible refine aE hQ ?_;exact fD)
 |(cases h;done))
 generalize globals.map (cj a b)=Mr at *
 refine br.wm 2 1 5 rfl rfl ?_
 simp only[go_sem,hD,hY,hZ,gA]
 refine fc 3 1 (br.ind (ι:=List Pc×Nat×List Pc) (fun i=>procs.drop i.2.1=i.1∧i.2.1=i.2.2.length∧i.2.2++i.1.map (Pc.swap a b)=R) (fun i=>i.1.length)
  (fun i=> [(1, .str a),(2, .str b),(6, .ptr 1 0),(7, .ptr 2 0),(20, .slice .shared 5 (procs.map cy)),(21, .int .i64 (procs.length:Int)),(22, .int .i64 (i.2.1:Int))])
  (fun i=>⟨[cB ⟨globals,procs⟩,cB Ts,[.slice .shared 1 (Mr.map encStr), .slice (.tok 0) 5 (i.2.2.map cy)]],[some i.2.1]⟩) ?_ (procs,0,[]) ⟨rfl,rfl,hR⟩)
 rintro⟨rest,k,acc⟩ ⟨h1,h2,h3⟩ IH
 dsimp only at h1 h2 h3
 subst h2
 cases rest with
 |nil=>
  have hD:=drop_nil h1
  simp only[List.map_nil,List.append_nil]at h3
  subst h3
  repeat' (first
 |simp only[go_sem,hD,hY,hZ,gA]
 |(with_reducible first|refine bk fun hc=>?_|refine bl fun hc=>?_|refine bm (fun hc=>?_) fun hc=>?_)<;>(try simp only[hc,bs,↓reduceIte]at h)<;>try simp only[hc]
 |(with_reducible refine aE hQ ?_;exact fD)
 |(cases h;done))
 |cons y rest=>
  obtain⟨hY,g2,hD,g4⟩:=drop_cons h1
  have dP:=Pc.df (List.mem_of_getElem? hY)
  obtain⟨name,params,vars,body,fin⟩:=y
  simp only[Pc.size]at dP
  have hk:acc.length<4611686018427387904:=by omega
  have kY:(acc.length+1)*113≤bx:=by simp only[bx];omega
  have c1:=fun s=>tU a b (l:=vars) (by omega) s
  have c2:=fun s=>tU a b (l:=fin) (by omega) s
  have c3:=fun s=>Nl a b (l:=body) (by omega) s
  repeat' (first
 |simp only[go_sem,hD,hY,hZ,gA]
 |(with_reducible refine CU (c1 _) ?_)
 |(with_reducible refine CU (c2 _) ?_)
 |(with_reducible refine CU (c3 _) ?_)
 |(with_reducible refine CU (ho _ _) ?_)
 |(with_reducible first|refine bk fun hc=>?_|refine bl fun hc=>?_|refine bm (fun hc=>?_) fun hc=>?_)<;>(try simp only[hc,bs,↓reduceIte]at h)<;>try simp only[hc]
 |(with_reducible refine aE hQ ?_;exact fD)
 | (cases h;done))
  generalize hV:vars.map (cj a b)=vars'
  generalize hF:fin.map (cj a b)=agH
  refine br.wm 4 1 2 rfl rfl ?_
  simp only[go_sem,hD,hY,hZ,gA]
  refine fc 5 2 (br.ind (ι:=List Pm×Nat×List Pm) (fun i=>params.drop i.2.1=i.1∧i.2.1=i.2.2.length∧i.2.2++i.1.map (Pm.swap a b)=params.map (Pm.swap a b)) (fun i=>i.1.length)
   (fun i=> [(1, .str a),(2, .str b),(6, .ptr 1 0),(7, .ptr 2 0),(10, .ptr 4 0),(20, .slice .shared 5 (procs.map cy)),(21, .int .i64 (procs.length:Int)),(22, .int .i64 (acc.length:Int)),
    (48, .slice .shared 2 (params.map il)),(49, .int .i64 (params.length:Int)),(50, .int .i64 (i.2.1:Int))])
   (fun i=>⟨[cB ⟨globals,procs⟩,cB Ts,[.slice .shared 1 (Mr.map encStr), .slice (.tok 0) 5 (acc.map cy)],cy ⟨name,params,vars,body,fin⟩,
    [.str (cj a b name), .slice (.tok 1) 2 (i.2.2.map il), .slice .shared 1 (vars'.map encStr), .slice .shared 13 ((Sm.dn a b body).map bj), .slice .shared 1 (agH.map encStr)]],[some acc.length,some i.2.1]⟩) ?_ (params,0,[]) ⟨rfl,rfl,rfl⟩)
  rintro⟨Be,ka,vk⟩ ⟨j1,j2,j3⟩ IHa
  dsimp only at j1 j2 j3
  subst j2
  cases Be with
  |nil=>
   have hD:=drop_nil j1
   simp only[List.map_nil,List.append_nil]at j3
   have e2:Pc.swap a b ⟨name,params,vars,body,fin⟩ = ⟨cj a b name,vk,vars',Sm.dn a b body,agH⟩:=by simp only[Pc.swap,hV,hF,j3]
   repeat' (first
 |simp only[go_sem,hD,hY,hZ,gA,kY]
 |(with_reducible first|refine bk fun hc=>?_|refine bl fun hc=>?_|refine bm (fun hc=>?_) fun hc=>?_)<;>(try simp only[hc,bs,↓reduceIte]at h)<;>try simp only[hc]
 |(with_reducible refine aE hQ ?_;(try cases h);simp only[aT,aV,bE,bF,go_sem,hD,hY,hZ,gA,kY];try exact cf)
 | (cases h;done))
   refine fe 3 1 ?_ ?_ (IH (rest,acc.length+1,acc++ [Pc.swap a b ⟨name,params,vars,body,fin⟩]) ⟨g2,by simp,by rw[← h3];simp⟩ (Nat.lt_succ_self _))
   ·(simp only[go_sem,hD,hY,hZ,gA,aJ hk,e2];try exact cq)
   ·(simp only[go_sem,hD,hY,hZ,gA,aJ hk,e2];try exact cq)
  | cons c Be=>
   obtain⟨hY,g2,hD,g4⟩:=drop_cons j1
   have jc:vk.length+1≤params.length:=by
    have:=congrArg List.length j3
    simp at this;omega
   have B6:vk.length<4611686018427387904:=by omega
   have C9:(vk.length+1)*25≤bx:=by simp only[bx];omega
   obtain⟨aj9,ard⟩:=c
   repeat' (first
 |simp only[go_sem,hD,hY,hZ,gA,C9]
 |(with_reducible refine CU (ho _ _) ?_)
 |(with_reducible first|refine bk fun hc=>?_|refine bl fun hc=>?_|refine bm (fun hc=>?_) fun hc=>?_)<;>(try simp only[hc,bs,↓reduceIte]at h)<;>try simp only[hc]
 |(with_reducible refine aE hQ ?_;(try cases h);simp only[aT,aV,bE,bF,go_sem,hD,hY,hZ,gA,C9];try exact cf)
 | (cases h;done))
   refine fe 5 2 ?_ ?_ (IHa (Be,vk.length+1,vk++ [⟨cj a b aj9,ard⟩]) ⟨g2,by simp,by simp only[List.append_assoc,List.cons_append,List.nil_append];exact j3⟩ (Nat.lt_succ_self _))
   ·(simp only[go_sem,hD,hY,hZ,gA,aJ B6];try exact cq)
   ·(simp only[go_sem,hD,hY,hZ,gA,aJ B6];try exact cq)
theorem Vb (t:az) (s:St):aF Tryz.prog mU [.str t] s (.bool (isName t)) s:=by
 by_cases hl:t.length<9
 ·exact zC t (by omega) s
 ·refine aF.pure ?_ rfl rfl s
  cases t with
  |nil=>simp at hl
  |cons c r=>
   simp only[List.length_cons]at hl
   have l1:decide (((r.length+1:Nat):Int)<1)=false:=by simp;omega
   have c8:decide (((r.length+1:Nat):Int) > 8)=true:=by simp;omega
   have h:isName (c::r)=false:=by simp only[isName,c8,Bool.true_or,↓reduceIte]
   rw[h]
   unfold S0
   refine aF.go mz rfl fun B Q hB hQ=>?_
   have⟨hD,hY,hZ,gA⟩:=bN
   repeat' (first
 |simp only[go_sem,hD,hY,hZ,gA,l1,c8]
 |(with_reducible first|refine bk fun hc=>?_|refine bl fun hc=>?_|refine bm (fun hc=>?_) fun hc=>?_)<;>(try simp only[hc,bs,↓reduceIte]at h)<;>try simp only[hc]
 |(with_reducible refine aE hQ ?_;(try cases h);simp only[aT,aV,bE,bF,go_sem,hD,hY,hZ,gA,l1,c8];try exact cf)
 |(cases h;done))
theorem RX (t:az) (s:St):aF Tryz.prog o8 [.agg [.int .i64 2, .int .i64 0, .str t, .slice .full 0 []], .int .i64 20] s (.bool (isName t)) s:=by
 refine aF.pure ?_ (by simp[D.bJ,D.ok,D.gL,Tag.ok]) rfl s
 have hn:=fun s=>Vb t s
 have hk:=fun s=>Hp 2 s
 have e1:decide ((20:Int)<1)=false:=rfl
 have e2:((((0:Nat):Int)) != mV 2)=false:=rfl
 have e6:(((0:Int)) != mV 2)=false:=rfl
 have e3:((2:Int)==1)=false:=rfl
 have e4:((2:Int)==2)=true:=rfl
 have e5:((0:Int)==0)=true:=rfl
 unfold S0
 refine aF.go u7 rfl fun B Q hB hQ=>?_
 have⟨hD,hY,hZ,gA⟩:=bN
 repeat' (first
 |simp only[go_sem,hD,hY,hZ,gA,e1,e2,e3,e4,e5,e6]
 |(with_reducible refine CU (hk _) ?_)
 |(with_reducible refine CU (hn _) ?_)
 |(with_reducible first|refine bk fun hc=>?_|refine bl fun hc=>?_|refine bm (fun hc=>?_) fun hc=>?_)<;>(try simp only[hc,bs,↓reduceIte]at h)<;>try simp only[hc]
 |(with_reducible refine aE hQ ?_;(try cases h);simp only[aT,aV,bE,bF,go_sem,hD,hY,hZ,gA,e1,e2,e3,e4,e5,e6];try exact cf)
 |(cases h;done))
theorem Vc (t:az) (s:St):aF Tryz.prog jC [.agg [.int .i64 2, .int .i64 0, .str t, .slice .full 0 []]] s (.bool (isName t)) s:=by
 refine aF.pure ?_ (by simp[D.bJ,D.ok,D.gL,Tag.ok]) rfl s
 have hd:=fun s=>RX t s
 unfold S0
 refine aF.go wG rfl fun B Q hB hQ=>?_
 have⟨hD,hY,hZ,gA⟩:=bN
 repeat' (first
 |simp only[go_sem,hD,hY,hZ,gA]
 |(with_reducible refine CU (hd _) ?_)
 |(with_reducible first|refine bk fun hc=>?_|refine bl fun hc=>?_|refine bm (fun hc=>?_) fun hc=>?_)<;>(try simp only[hc,bs,↓reduceIte]at h)<;>try simp only[hc]
 |(with_reducible refine aE hQ ?_;exact fD)
 |(cases h;done))
theorem Nn (p:Pg) (T:List Int) (fuel:Int) (a b:az) (s:St):aF Tryz.prog xw [.agg (cB p), .slice .shared 1 (T.map cz), .int .i64 fuel, .str a, .str b] s (.bool true) s:=by
 refine aF.pure ?_ (by simp[D.bJ,D.ok,Tag.ok,jq,je]) rfl s
 have h1:=fun s=>aj5 s
 have h2:=fun s=>afW p s
 have sX:=fun t s=>Vc t s
 unfold S0
 rcases Bool.eq_false_or_eq_true (decide (p.Dz≤20000))with hw|hw
 case inr=>
  simp only[hw]at h2
  refine aF.go iS rfl fun B Q hB hQ=>?_
  have⟨hD,hY,hZ,gA⟩:=bN
  repeat' (first
 |simp only[go_sem,hD,hY,hZ,gA]
 |(with_reducible refine CU (h1 _) ?_)
 |(with_reducible refine CU (h2 _) ?_)
 |(with_reducible first|refine bk fun hc=>?_|refine bl fun hc=>?_|refine bm (fun hc=>?_) fun hc=>?_)<;>(try simp only[hc,bs,↓reduceIte]at h)<;>try simp only[hc]
 |(with_reducible refine aE hQ ?_;exact fD)
 |(cases h;done))
 simp only[hw]at h2
 obtain⟨dP,aka⟩:=Ru (of_decide_eq_true hw)
 have ho:p.iX:=⟨aka,by omega⟩
 have h3:=fun s=>acu ho T fuel s
 rcases Bool.eq_false_or_eq_true (p.check.1==0 && (decide (0≤fuel) && (decide (fuel≤400) && decide ((T.length:Int)≤100))))with b1|b1
 case inr=>
  rw[b1]at h3
  refine aF.go iS rfl fun B Q hB hQ=>?_
  have⟨hD,hY,hZ,gA⟩:=bN
  repeat' (first
 |simp only[go_sem,hD,hY,hZ,gA]
 |(with_reducible refine CU (h1 _) ?_)
 |(with_reducible refine CU (h2 _) ?_)
 |(with_reducible refine CU (h3 _) ?_)
 |(with_reducible first|refine bk fun hc=>?_|refine bl fun hc=>?_|refine bm (fun hc=>?_) fun hc=>?_)<;>(try simp only[hc,bs,↓reduceIte]at h)<;>try simp only[hc]
 |(with_reducible refine aE hQ ?_;exact fD)
 |(cases h;done))
 rw[b1]at h3
 obtain⟨hc,f0,f1,hT1⟩:=Yi b1
 rcases Bool.eq_false_or_eq_true (a == [109,97,105,110])with c1|c1
 ·refine aF.go iS rfl fun B Q hB hQ=> ?_
  have⟨hD,hY,hZ,gA⟩:=bN
  repeat' (first
 |simp only[go_sem,hD,hY,hZ,gA,c1]
 |(with_reducible refine CU (h1 _) ?_)
 |(with_reducible refine CU (h2 _) ?_)
 |(with_reducible refine CU (h3 _) ?_)
 |(with_reducible first|refine bk fun hc=>?_|refine bl fun hc=>?_|refine bm (fun hc=>?_) fun hc=>?_)<;>(try simp only[hc,bs,↓reduceIte]at h)<;>try simp only[hc]
 |(with_reducible refine aE hQ ?_;(try cases h);simp only[aT,aV,bE,bF,go_sem,hD,hY,hZ,gA,c1];try exact cf)
 |(cases h;done))
 rcases Bool.eq_false_or_eq_true (b == [109,97,105,110])with c2|c2
 ·refine aF.go iS rfl fun B Q hB hQ=> ?_
  have⟨hD,hY,hZ,gA⟩:=bN
  repeat' (first
 |simp only[go_sem,hD,hY,hZ,gA,c1,c2]
 |(with_reducible refine CU (h1 _) ?_)
 |(with_reducible refine CU (h2 _) ?_)
 |(with_reducible refine CU (h3 _) ?_)
 |(with_reducible first|refine bk fun hc=>?_|refine bl fun hc=>?_|refine bm (fun hc=>?_) fun hc=>?_)<;>(try simp only[hc,bs,↓reduceIte]at h)<;>try simp only[hc]
 |(with_reducible refine aE hQ ?_;(try cases h);simp only[aT,aV,bE,bF,go_sem,hD,hY,hZ,gA,c1,c2];try exact cf)
 |(cases h;done))
 rcases Bool.eq_false_or_eq_true (isName a)with ca|ca
 case inr=>
  refine aF.go iS rfl fun B Q hB hQ=>?_
  have⟨hD,hY,hZ,gA⟩:=bN
  repeat' (first
 |simp only[go_sem,hD,hY,hZ,gA,ca,c1,c2,Bool.not_false]
 |(with_reducible refine CU (h1 _) ?_)
 |(with_reducible refine CU (h2 _) ?_)
 |(with_reducible refine CU (h3 _) ?_)
 |(with_reducible refine CU (sX _ _) ?_)
 |(with_reducible first|refine bk fun hc=>?_|refine bl fun hc=>?_|refine bm (fun hc=>?_) fun hc=>?_)<;>(try simp only[hc,bs,↓reduceIte]at h)<;>try simp only[hc]
 |(with_reducible refine aE hQ ?_;(try cases h);simp only[aT,aV,bE,bF,go_sem,hD,hY,hZ,gA,ca,c1,c2,Bool.not_false];try exact cf)
 |(cases h;done))
 rcases Bool.eq_false_or_eq_true (isName b)with cb|cb
 case inr=>
  refine aF.go iS rfl fun B Q hB hQ=>?_
  have⟨hD,hY,hZ,gA⟩:=bN
  repeat' (first
 |simp only[go_sem,hD,hY,hZ,gA,ca,cb,c1,c2,Bool.not_true,Bool.not_false]
 |(with_reducible refine CU (h1 _) ?_)
 |(with_reducible refine CU (h2 _) ?_)
 |(with_reducible refine CU (h3 _) ?_)
 |(with_reducible refine CU (sX _ _) ?_)
 |(with_reducible first|refine bk fun hc=>?_|refine bl fun hc=>?_|refine bm (fun hc=>?_) fun hc=>?_)<;>(try simp only[hc,bs,↓reduceIte]at h)<;>try simp only[hc]
 |(with_reducible refine aE hQ ?_;(try cases h);simp only[aT,aV,bE,bF,go_sem,hD,hY,hZ,gA,ca,cb,c1,c2,Bool.not_true,Bool.not_false];try exact cf)
 |(cases h;done))
 have eW : ∀ {t:az},(t == [109,97,105,110])=false→t≠dG:=fun h e=>by subst e;exact absurd h (by decide)
 obtain⟨m,hm⟩:=agB (T:=T) hc f0 (by omega)
 have HA:=(AX hc).may
 have xO:p.all.length≤1000:=by have:=(zD HA).1;omega
 have h4:=fun s=>Gy ho xO (T:=T) (by omega) fuel s
 rw[hm.whole]at h4
 obtain⟨w1,_⟩:=Ge a b p
 have w5:=EW ca cb p
 rw[HA]at w5
 have hsw:=fun s=>agG a b (p:=p) (by omega) s
 have hoq:(p.swap a b).iX:=⟨Iw w5 (by omega),by omega⟩
 have hlq:(p.swap a b).all.length≤1000:=by have:=(zD w5).1;omega
 have h5:=fun s=>Gy hoq hlq (T:=T) (by omega) fuel s
 rw[Yn ca cb hc (eW c1) (eW c2) f0 (by omega) hm]at h5
 have h6:=fun s=>acp (a:=m) (b:=m.sw a b) hm.len s
 have e6:DI m (m.sw a b)=true:=RV m
 rw[e6]at h6
 generalize p.swap a b=q at *
 generalize m.sw a b=m' at *
 refine aF.go iS rfl fun B Q hB hQ=>?_
 have⟨hD,hY,hZ,gA⟩:=bN
 repeat' (first
 |simp only[go_sem,hD,hY,hZ,gA,ca,cb,c1,c2,Bool.not_true,Bool.not_false]
 |(with_reducible refine CU (h1 _) ?_)
 |(with_reducible refine CU (h2 _) ?_)
 |(with_reducible refine CU (h3 _) ?_)
 |(with_reducible refine CU (sX _ _) ?_)
 |(with_reducible refine CU (h4 _) ?_)
 |(with_reducible refine CU (hsw _) ?_)
 |(with_reducible refine CU (h5 _) ?_)
 |(with_reducible refine CU (h6 _) ?_)
 |(with_reducible first|refine bk fun hc=>?_|refine bl fun hc=>?_|refine bm (fun hc=>?_) fun hc=>?_)<;>(try simp only[hc,bs,↓reduceIte]at h)<;>try simp only[hc]
 |(with_reducible refine aE hQ ?_;(try cases h);simp only[aT,aV,bE,bF,go_sem,hD,hY,hZ,gA,ca,cb,c1,c2,Bool.not_true,Bool.not_false];try exact cf)
 |(cases h;done))
def M0:Map:=⟨fun _ _=>none,fun _=>(0, .any),fun _=>none⟩
def Kept (w w':World):Prop:=w.keptBut w' (fun _=>False)∧∀ a:Addr,a.block<w.heap.size→w'.frozen? a=w.frozen? a
theorem Kept.frame {w w':World} (h:Kept w w') (may:MemPlace→Prop):w.keptBut w' may:=World.keptBut_mono (fun _ f=>f.elim) h.1
theorem Ext.agI {M M':Map} {s':St} {w w':World} (e:Ext M S0 w M' s' w'):Kept w w':=by
 have hh : ∀ b,b<w.heap.size→w'.heap[b]? = w.heap[b]? :=fun b hb=>
  e.kept b hb (fun o ho=>by simp[S0]at ho) (fun t c z hl=>by obtain⟨n,hn⟩:=hl;simp[S0]at hn)
 refine⟨⟨e.os,e.output,fun i hi=>?_⟩,fun a ha=>?_⟩
 ·rw [hh i hi]
  exact(World.keptBut_refl w (fun _=>False)).2.2 i hi
 ·simp only[World.frozen?,hh _ ha]
theorem arh (G:Nat→Nat→Option Value) (w:World) (h : ∀ b o v,G b o=some v→w.cell? ⟨b,o,none⟩=some v∧v.oneCell'=true):Rel ⟨G,fun _=>(0, .any),fun _=>none⟩ S0 w:=
 ⟨h,fun o ds e=>by simp [S0]at e,fun o ho=>by simp [S0]at ho,fun o o' ho=>by simp [S0]at ho,fun t n e=>by simp [S0]at e,
  fun t b c z o hl=>by obtain⟨n,hn⟩:=hl;simp[S0]at hn,fun t t' b c z c' z' hl=>by obtain⟨n,hn⟩:=hl;simp[S0]at hn⟩
def RY (w:World):Prop:=∀ g cs,acS g=some cs→∃ T fr,w.heap[g]? = some (.cells cs T fr)
theorem akb (G:Nat→Nat→Option Value) {w:World} (h:RY w):Laid ⟨G,fun _=>(0, .any),fun _=>none⟩ S0 w:=
 fun g cs hg=>⟨h g cs hg,fun o ho=>by simp[S0]at ho,fun t c z hl=>by obtain⟨n,hn⟩:=hl;simp[S0]at hn⟩
theorem Vd {P:Program} {f:FuncId} {args:List D} {fS:Array Value} {w:World} {G:Nat→Nat→Option Value} (h:bP P f args S0 fun d _=>d = .bool true)
 (hG : ∀ b o v,G b o=some v→w.cell? ⟨b,o,none⟩=some v∧v.oneCell'=true) (hl:fS.size=args.length)
 (ha : ∀ (i:Nat) (d:D) (v:Value),args[i]? = some d→fS[i]? = some v→RD ⟨G,fun _=>(0, .any),fun _=>none⟩ S0 d v) (k6:RY w) :
 Calls P f fS w fun e w'=>e = .returned (.bool true)∧Kept w w':=by
 refine(h _ w fS (arh G w hG) (akb G k6) hl ha).mono fun e w' hw=>?_
 obtain⟨M',d,v,s',rfl,rfl,he,_,hv⟩:=hw
 rw[hv.oo]
 exact⟨rfl,he.agI⟩
section
variable {P:Program} {H:Type} {enc:TypeId×Value→H}
theorem Mt {f:Func} {s:ChangeSpec} {apart fresh handsOn again:Bool} {W W':World} {args:Array Value} {v:Value} {ds gs:List (DataW H)} {before pa pv:List MemPlace}
 (hW:DataW.Whole enc P f.params.toList s.vars apart W args.toList ds gs before)
 (agJ : ∀ (b:Nat) (sp:Nat→Bool) (hd:Bool),DataW.TrodAll enc P W' b sp hd f.resultTypes.toList (v.resultList f.resultTypes.size) (s.fn H (ds++gs)).results [])
 (Ae : ∀ sp:Nat→Bool,(∀ p∈before,sp p.block=true)→DataW.TrodAll enc P W' 0 sp true f.params.toList args.toList (s.fn H (ds++gs)).args pa)
 (A4 : ∀ sp:Nat→Bool,(∀ p∈before,sp p.block=true)→DataW.TrodVars enc P W' sp s.vars (s.fn H (ds++gs)).vars pv)
 (sE:before=pa++pv) (hk:Kept W W')
 (qw : ∀ (j:Nat) (t:TypeId) (r:Value),f.resultTypes[j]? = some t→(v.resultList f.resultTypes.size)[j]? = some r→Value.okWide P W' .any 0 t r) :
 s.post enc P f apart fresh handsOn again W args v W':=by
 have hD : ∀ p∈before,p.block<W.heap.size:=fun p hp=>hW.lt p hp
 have hold : ∀ p∈before,(fun b=>decide (b<W.heap.size)) p.block=true:=fun p hp=>by simpa using hD p hp
 refine⟨ds,gs,before,[],pa,pv,hW,agJ _ _ _,Ae _ hold,A4 _ hold,World.keptBut_mono (fun p hp=>⟨hp, ?_⟩) (hk.frame (· ∈before)),fun _=>?_⟩
 ·rw [sE,List.mem_append]at hp
  exact Or.inr hp
 ·obtain⟨_,_,_,_,_,hz,hn⟩:=hW
  refine⟨qw,_,_,([]++pa)++pv,⟨[]++pa,pv,ChangeShapes.trodAll_append (Ae _ (fun _ _=>rfl)) (agJ _ _ _),A4 _ (fun _ _=>rfl),rfl, ?_, ?_⟩, ?_⟩
  ·intro b off hp
   have nD:MemPlace.cell b off∈before:=by rw[sE];simpa using hp
   rw[hk.2 _ (hD _ nD)]
   exact hz b off nD
  ·intro ha
   have:=hn ha
   rw[sE]at this
   simpa using this
  ·intro p hp _
   rw[sE]
   simpa using hp
end
end Go.Abs
namespace Go.Abs
open Go.RowKit Go.ChangeShapes Go.WideShapes
def Da (w:World) (b o:Nat):Option Value:=
 match w.cell? ⟨b,o,none⟩with
 |some v=>if v.oneCell'=true then some v else none
 |none=>none
theorem OI {w:World} (b o:Nat) (v:Value) (h:Da w b o=some v):w.cell? ⟨b,o,none⟩=some v∧v.oneCell'=true:=by
 unfold Da at h
 split at h
 ·split at h
  ·cases h;exact⟨‹_›, ‹_›⟩
  ·cases h
 ·cases h
def tz (w:World):Map:=⟨Da w,fun _=>(0, .any),fun _=>none⟩
theorem Kept.sameAt {w w':World} (h:Kept w w') {p:MemPlace} (hp:p.block<w.heap.size):w.sameAt w' p:=by
 have hk:=h.1.2.2 p.block hp
 cases p with
 | cell b off=>
  simp only[MemPlace.block]at hk hp
  simp only[World.sameAt,World.cell?]
  split at hk
  ·rename_i c t fr c' t' Ou e e'
   rw[e,e']
   simp only[hk.2.2.2 off (fun f=>f)]
  ·rename_i es clock B4 agK e e'
   rw[e,e']
  ·rw[hk]
 | map b=>
  simp only[MemPlace.block]at hk hp
  simp only[World.sameAt]
  split at hk
  ·rename_i c t fr c' t' Ou e e'
   rw[e,e']
   obtain⟨rfl,rfl,hs,hc⟩:=hk
   have:c'=c:=by
    apply Array.ext_getElem?
    intro i
    exact hc i (fun f=>f)
   rw[this]
  ·rename_i es clock B4 agK e e'
   rcases hk with f|⟨rfl,rfl⟩
   ·exact f.elim
   ·rw[e,e']
  ·exact hk
section
variable {P:Program} {H:Type} {enc:TypeId×Value→H} {T:TypeId→Prop}
theorem GF (K:Kids P T) (hz : ∀ {t e:TypeId},T t→P.underlying t=some (.slice e)→0<P.cellsOf e) {W W':World} (hk:Kept W W') {sp:Nat→Bool} :
 ∀ {ts:List TypeId} {vs:List Value} {ds:List (DataW H)} {ps:List MemPlace},(∀ t∈ts,T t)→(∀ p∈ps,p.block<W.heap.size)→(∀ p∈ps,sp p.block=true)→
  DataW.TrodAll enc P W 0 (fun _=>true) true ts vs ds ps→DataW.TrodAll enc P W' 0 sp true ts vs ds ps
 | [],[],[],_,_,_,_,h=>h
 |t::ts,v::vs,d::ds,ps,hT,hD,hs,⟨p,q,⟨n,h1⟩,h2,e⟩=>by
  subst e
  refine⟨p,q,⟨n,DataW.trod_stays K hz (fun f=>by cases f) (hT t (List.mem_cons_self ..)) h1 (fun x hx=>hk.sameAt (hD x (List.mem_append_left _ hx))) (fun x hx=>hs x (List.mem_append_left _ hx))⟩, ?_,rfl⟩
  exact GF K hz hk (fun t ht=>hT t (List.mem_cons_of_mem _ ht)) (fun x hx=>hD x (List.mem_append_right _ hx)) (fun x hx=>hs x (List.mem_append_right _ hx)) h2
 | [],[],_::_,_,_,_,_,h=>h.elim
 | [],_::_,_,_,_,_,_,h=>h.elim
 |_::_,[],_,_,_,_,_,h=>h.elim
 |_::_,_::_,[],_,_,_,_,h=>h.elim
theorem Yq (K:Kids P T) (hz : ∀ {t e:TypeId},T t→P.underlying t=some (.slice e)→0<P.cellsOf e) {f:Func} {s:ChangeSpec} {apart fresh handsOn again:Bool} {tb:TypeId} {W W':World} {args:Array Value} {ds gs:List (DataW H)} {before:List MemPlace}
 (hT : ∀ t∈f.params.toList,T t) (hb:P.underlying tb=some .bool) (hr:f.resultTypes = #[tb]) (A4:s.vars = []) (hW:DataW.Whole enc P f.params.toList s.vars apart W args.toList ds gs before)
 (Bv:s.fn H (ds++gs) = {results:= [.lit (.bool true)],args:=ds}) (hk:Kept W W'):s.post enc P f apart fresh handsOn again W args (.bool true) W':=by
 have hW':=hW
 have hD : ∀ p∈before,p.block<W.heap.size:=fun p hp=>hW.lt p hp
 obtain⟨p,q,hA,hV,rfl,hfz,UR⟩:=hW
 rw[A4]at hV
 obtain⟨rfl,rfl⟩:=trodVars_none hV
 simp only[List.append_nil]at hD Bv
 refine Mt (pa:=p) (pv:= []) hW' (fun b sp hd=>?_) (fun sp D6=>?_) (fun sp D6=>?_) rfl hk (ok_one hr rfl (okWide_bool_mk hb _))
 ·rw [List.append_nil,Bv,hr]
  exact trodAll_cons_mk (shut_bool hb _) trodAll_mk0
 ·rw [List.append_nil,Bv]
  simp only[List.append_nil]at D6
  exact GF K hz hk hT hD D6 hA
 ·rw [List.append_nil,Bv,A4]
  rfl
theorem acB {f:FuncId} {args:List D} {fS:Array Value} {w:World} (h:bP P f args S0 fun d _=>d = .bool true) (hl:fS.size=args.length)
 (ha : ∀ (i:Nat) (d:D) (v:Value),args[i]? = some d→fS[i]? = some v→RD (tz w) S0 d v) (k6:RY w):Calls P f fS w fun e w'=>e = .returned (.bool true)∧Kept w w':=
 Vd (G:=Da w) h OI hl ha k6
end
end Go.Abs
namespace Go.Abs
open Go.Proofs
def qf (n:Int):List D:= [.int .i64 n]
theorem akc (n:Int):D.bJ 0 0 (qf n)=true:=rfl
theorem agM (n m:Nat) (l:List Int):D.kZ n m (l.map qf)=l.map qf:=mI akc n m l
attribute [go_sem] qf agM
def akd (op:Int):az:=
 if op=5 then [42]else if op=6 then [47]else if op=7 then [37]else if op=8 then [43]else if op=9 then [45]else if op=10 then [60]else if op=11 then [60,61]
 else if op=12 then [62]else if op=13 then [62,61]else if op=14 then [61,61]else if op=15 then [33,61]else if op=16 then [38,38]else [124,124]
def ayF (op:Int):Int:=(afa (akd op)).1
def Ve:Nat→List az
 | 0=> []
 |n+1=>Ve n++ [[UInt8.ofNat (97+n)]]
end Go.Abs
namespace Go.Abs
open Go.RowKit Go.ChangeShapes Go.WideShapes
theorem acC {W:World} {a:Addr} {len cap:Nat} {zs:List Int} (hl:len≤cap) (hz:len≤zs.length) (hc : ∀ i,i<zs.length→W.cell? (a.add i)=some (.int .i64 (zs.getD i 0))) :
 RD (tz W) S0 (.slice .shared 1 ((zs.take len).map qf)) (.slice (some a) len cap):=by
 by_cases h0:len=0
 ·subst h0
  exact .mg _ _ _
 ·obtain⟨b,off,rfl,iV⟩:=Go.ints_at hc (by omega)
  have hlen:((zs.take len).map qf).length=len:=by simp;omega
  have e:((zs.take len).map qf).length=len:=hlen
  have key : ∀ (i:Nat) (row:List D) (j:Nat) (d:D),((zs.take len).map qf)[i]? = some row→row[j]? = some d→(tz W).G b (off+(i*1+j))=some (.int .i64 (zs.getD i 0))∧d = .int .i64 (zs.getD i 0):=by
   intro i row j d h1 h2
   rw[List.getElem?_map,Option.map_eq_some_iff]at h1
   obtain⟨n,h1,rfl⟩:=h1
   rw[List.getElem?_take]at h1
   split at h1
   ·rename_i hi
    have hd:zs.getD i 0=n:=by rw[List.getD_eq_getElem?_getD,h1];rfl
    have og:i<zs.length:=(List.getElem?_eq_some_iff.1 h1).1
    cases j with
    |zero=>
     simp[qf]at h2
     subst h2
     refine⟨?_,by rw[hd]⟩
     have:=iV i og
     show Da W b (off+(i*1+0))=_
     unfold Da
     rw[show off+(i*1+0)=off+i by omega,this]
     rfl
    |succ j=>simp[qf]at h2
   ·cases h1
  have:=RD.slice (M:=tz W) (s:=S0) .shared 1 ((zs.take len).map qf) b off cap (by omega) (fun row hr=>by obtain⟨n,_,rfl⟩:=List.mem_map.1 hr;rfl)
   (fun i row j d h1 h2=>⟨_,(key i row j d h1 h2).1⟩) (fun i row j d u h1 h2 hu=>by
    obtain⟨k1,k2⟩:=key i row j d h1 h2
    rw[k1]at hu
    cases hu
    rw[k2]
    exact .int _ _) trivial
  rw[hlen]at this
  exact this
end Go.Abs
