/-
  What is proved here: part 1 of the road to the claim (Frame, Frame2, Walk, Par, Par1, Par2, Par3, Step, Wp, Types, Mir, MirTree, Cnt, MirFlat).
  No conditions.
-/
import Derived.Test.YtiopamakecmpkaaGreatCxT0
import Derived.Attr
import Derived.KernelRfl

set_option linter.unusedSimpArgs false
set_option linter.unusedVariables false
namespace Go.Abs
def Tag.ok (m:Nat):Tag→Bool
 | .tok t _=>decide (t<m)
 |_=>true
def Tag.dv (ts:List Nat):Tag→Tag
 | .tok t y=>match ts[t]? with|some t'=> .tok t' y|none=> .shared
 |g=>g
mutual
def D.ok (n m:Nat):D→Bool
 | .ptr o _=>decide (o<n)
 | .dJ row _=>D.bP n m row
 | .slice g _ rows=>g.ok m && D.jw n m rows
 | .agg cs=>D.bP n m cs
 | .tuple ds=>D.bP n m ds
 | .fC _ o=>decide (o<n)
 | .gK _ cs=>D.bP n m cs
 | .gH o=>decide (o<n)
 | .jD _ o _ _=>decide (o<n)
 | .iT o _ _=>decide (o<n)
 |_=>true
def D.bP (n m:Nat):List D→Bool
 | []=>true
 |d::r=>D.ok n m d && D.bP n m r
def D.jw (n m:Nat):List (List D)→Bool
 | []=>true
 |d::r=>D.bP n m d && D.jw n m r
end
mutual
def D.dv (os ts:List Nat):D→D
 | .ptr o off=>match os[o]? with|some o'=> .ptr o' off|none=> .junk
 | .dJ row off=> .dJ (D.gf os ts row) off
 | .slice g z rows=> .slice (g.dv ts) z (D.s3 os ts rows)
 | .agg cs=> .agg (D.gf os ts cs)
 | .tuple ds=> .tuple (D.gf os ts ds)
 | .junk=> .junk
 | .int k x=> .int k x
 | .bool b=> .bool b
 | .str l=> .str l
 | .fx=> .fx
 | .val v=> .val v
 | .fC T o=>match os[o]? with|some o'=> .fC T o'|none=> .junk
 | .gK f cs=> .gK f (D.gf os ts cs)
 | .gH o=>match os[o]? with|some o'=> .gH o'|none=> .junk
 | .jD z o g len=>match os[o]? with|some o'=> .jD z o' g len|none=> .junk
 | .iT o g off=>match os[o]? with|some o'=> .iT o' g off|none=> .junk
 | .jK z=> .jK z
def D.gf (os ts:List Nat):List D→List D
 | []=> []
 |d::r=>D.dv os ts d::D.gf os ts r
def D.s3 (os ts:List Nat):List (List D)→List (List D)
 | []=> []
 |d::r=>D.gf os ts d::D.s3 os ts r
end
theorem fD (os ts:List Nat) : ∀ l,D.gf os ts l=l.map (D.dv os ts)
 | []=>by simp[D.gf]
 |d::r=>by simp[D.gf,fD os ts r]
theorem A3 (os ts:List Nat) : ∀ l,D.s3 os ts l=l.map (D.gf os ts)
 | []=>by simp[D.s3]
 |d::r=>by simp[D.s3,A3 os ts r]
theorem zS (n m:Nat) : ∀ l,D.bP n m l=l.all (D.ok n m)
 | []=>by simp[D.bP]
 |d::r=>by simp[D.bP,zS n m r]
theorem C9 (n m:Nat) : ∀ l,D.jw n m l=l.all (D.bP n m)
 | []=>by simp[D.jw]
 |d::r=>by simp[D.jw,C9 n m r]
theorem uy {n m:Nat} {l:List D} (h:D.bP n m l=true) {i:Nat} {d:D} (e:l[i]? = some d):D.ok n m d=true:=by
 rw[zS]at h;exact za0.1 h d (zae e)
theorem YD {n m:Nat} {l:List (List D)} (h:D.jw n m l=true) {i:Nat} {d:List D} (e:l[i]? = some d):D.bP n m d=true:=by
 rw[C9]at h;exact za0.1 h d (zae e)
section
variable {M M0:Map} {s s0:St} {os ts:List Nat}
theorem iM.Hr (kC : ∀ (i:Nat) t,ts[i]? = some t→M0.be i=M.be t) (ht : ∀ (i t:Nat),ts[i]? = some t→s0.aE[i]? = s.aE[t]?) (hlen:s0.aE.length=ts.length) {g:Tag} {z len cap:Nat} {base:Option (Nat×Nat)} (oE:g.ok ts.length=true) (h:iM M s (g.dv ts) z len base cap):iM M0 s0 g z len base cap:=by
 cases g with
 |full=>exact h
 |shared=>exact h
 |tok t y=>
  have hC:t<ts.length:=by simpa[Tag.ok]using oE
  have e:ts[t]? = some ts[t]:=zap hC
  simp only[Tag.dv,e]at h
  obtain⟨h1,h2⟩:=h
  refine⟨by omega,fun n hn=>?_⟩
  rw[ht t _ e]at hn
  rw[kC t _ e]
  exact h2 n hn
theorem RD.Hr (hG:M0.G=M.G) (p7 : ∀ (i:Nat) o,os[i]? = some o→M0.loc i=M.loc o) (ow:s0.aw.length=os.length)
 (kC : ∀ (i:Nat) t,ts[i]? = some t→M0.be i=M.be t) (ht : ∀ (i t:Nat),ts[i]? = some t→s0.aE[i]? = s.aE[t]?) (hlen:s0.aE.length=ts.length) {d:D} {v:Value} (h:RD M s d v) :
 ∀ d0:D,d0.dv os ts=d→d0.ok os.length ts.length=true→RD M0 s0 d0 v:=by
 have nJ : ∀ (i:Nat) o,os[i]? = some o→M0.mu i=M.mu o:=fun i o h=>congrArg Prod.fst (p7 i o h)
 have tag:=fun {g z len cap base}=>@iM.Hr M M0 s s0 ts kC ht hlen g z len cap base
 induction h with
 | junk v=>
  intro d0 e ok
  cases d0<;>simp only[D.dv]at e<;>try (cases e;done)
  ·exact .junk v
  ·rename_i o off
   have hC:o<os.length:=by simpa[D.ok]using ok
   rw[zap hC]at e;cases e
  ·rename_i T o
   have hC:o<os.length:=by simpa[D.ok]using ok
   rw[zap hC]at e;cases e
  ·rename_i o
   have hC:o<os.length:=by simpa[D.ok]using ok
   rw[zap hC]at e;cases e
  ·rename_i z o g len
   have hC:o<os.length:=by simpa[D.ok]using ok
   rw[zap hC]at e;cases e
  ·rename_i o g off
   have hC:o<os.length:=by simpa[D.ok]using ok
   rw[zap hC]at e;cases e
 |jK z a=>intro d0 e ok;cases d0<;>simp only[D.dv]at e<;>first|(cases e;exact .jK _ _)|(split at e<;>cases e)|cases e
 |jD z o g len b cap A ho hm ha hl=>
  intro d0 e ok
  cases d0<;>simp only[D.dv]at e<;>first|(cases e;done)|skip
  all_goals try (split at e<;>cases e;done)
  rename_i z0 o0 g0 aa6
  have hC:o0<os.length:=by simpa[D.ok]using ok
  rw[zap hC]at e
  cases e
  exact RD.jD (s:=s0) z o0 g len b cap A (by omega) ((congrArg Prod.snd (p7 o0 _ (zap hC))).trans hm) ha hl
 |iT z o g off b cap A ho hm ha=>
  intro d0 e ok
  cases d0<;>simp only[D.dv]at e<;>first|(cases e;done)|skip
  all_goals try (split at e<;>cases e;done)
  rename_i o0 g0 Uq
  have hC:o0<os.length:=by simpa[D.ok]using ok
  rw[zap hC]at e
  cases e
  exact RD.iT (s:=s0) z o0 g off b cap A (by omega) ((congrArg Prod.snd (p7 o0 _ (zap hC))).trans hm) ha
 |val v hv=>intro d0 e ok;cases d0<;>simp only[D.dv]at e<;>first|(cases e;exact .val _ hv)|(split at e<;>cases e)|cases e
 |fC T o v ho ht hv=>
  intro d0 e ok
  cases d0<;>simp only[D.dv]at e<;>first|(split at e<;>cases e;done)|skip
  all_goals try (cases e;done)
  rename_i T0 o0
  have hC:o0<os.length:=by simpa[D.ok]using ok
  rw[zap hC]at e
  cases e
  have hl:=p7 o0 _ (zap hC)
  exact .fC _ o0 v (by omega) ((congrArg (fun x=>x.2.ty?) hl).trans ht) (by rw[nJ o0 _ (zap hC)];exact hv)
 |int k x=>intro d0 e ok;cases d0<;>simp only[D.dv]at e<;>first|(cases e;exact .int _ _)|(split at e<;>cases e)|cases e
 |bool b=>intro d0 e ok;cases d0<;>simp only[D.dv]at e<;>first|(cases e;exact .bool _)|(split at e<;>cases e)|cases e
 |str l=>intro d0 e ok;cases d0<;>simp only[D.dv]at e<;>first|(cases e;exact .str _)|(split at e<;>cases e)|cases e
 |fx=>intro d0 e ok;cases d0<;>simp only[D.dv]at e<;>first|(cases e;exact .fx)|(split at e<;>cases e)|cases e
 |gH o ho hm=>
  intro d0 e ok
  cases d0<;>simp only[D.dv]at e<;>first|(cases e;done)|skip
  all_goals try (split at e<;>cases e;done)
  rename_i o0
  have hC:o0<os.length:=by simpa[D.ok]using ok
  rw[zap hC]at e
  cases e
  rw[← nJ o0 _ (zap hC)]
  exact RD.gH (s:=s0) o0 (by omega) ((congrArg Prod.snd (p7 o0 _ (zap hC))).trans hm)
 |gK f ds vs hl _ ih=>
  intro d0 e ok
  cases d0<;>simp only[D.dv]at e<;>first|(split at e<;>cases e;done)|skip
  all_goals try (cases e;done)
  rename_i f0 QO
  simp only[D.gK.injEq]at e
  obtain⟨rfl,rfl⟩:=e
  simp only[D.ok]at ok
  rw[fD]at hl ih
  refine .gK _ QO vs (by simpa using hl) (fun i d v e1 e2=>ih i _ v (by rw[zat,e1];rfl) e2 d rfl (uy ok e1))
 |ptr o off ho hm=>
  intro d0 e ok
  cases d0<;>simp only[D.dv]at e<;>first|(cases e;done)|skip
  all_goals try (split at e<;>cases e;done)
  rename_i o0 Uq
  have hC:o0<os.length:=by simpa[D.ok]using ok
  rw[zap hC]at e
  cases e
  rw[← nJ o0 _ (zap hC)]
  exact RD.ptr (s:=s0) o0 _ (by omega) (by rw[show M0.ob o0=_ from congrArg Prod.snd (p7 o0 _ (zap hC))];exact hm)
 |dJ row off b k h1 h2 ih=>
  intro d0 e ok
  cases d0<;>simp only[D.dv]at e<;>first|(split at e<;>cases e;done)|skip
  all_goals try (cases e;done)
  rename_i ahh Uq
  simp only[D.dJ.injEq]at e
  obtain⟨rfl,rfl⟩:=e
  simp only[D.ok]at ok
  rw[fD]at h1 ih
  refine .dJ ahh Uq b k (fun i d e=>?_) (fun i d u e eu=>?_)
  ·rw[hG];exact h1 i _ (by rw[zat,e];rfl)
  ·rw[hG]at eu;exact ih i _ u (by rw[zat,e];rfl) eu d rfl (uy ok e)
 |jX g z cap hc mA=>
  intro d0 e ok
  cases d0<;>simp only[D.dv]at e<;>first|(split at e<;>cases e;done)|skip
  all_goals try (cases e;done)
  rename_i g0 z0 tL
  simp only[D.slice.injEq]at e
  obtain⟨rfl,rfl,e⟩:=e
  have:tL = []:=by cases tL<;>simp[D.s3]at e;rfl
  subst this
  simp only[D.ok,zaq]at ok
  exact .jX g0 z0 cap hc (tag ok.1 mA)
 | nX z a cap=>
  intro d0 e ok
  cases d0<;>simp only[D.dv]at e<;>first|(split at e<;>cases e;done)|skip
  all_goals try (cases e;done)
  rename_i g0 z0 tL
  simp only[D.slice.injEq]at e
  obtain⟨hg,rfl,e⟩:=e
  have:tL = []:=by cases tL<;>simp[D.s3]at e;rfl
  subst this
  simp only[D.ok,zaq]at ok
  have:g0 = .shared:=by
   cases g0 with
   |tok t y=>
    have ht:t<ts.length:=by simpa[Tag.ok]using ok.1
    simp[Tag.dv,ht]at hg
   |shared=>rfl
   |_=>simp[Tag.dv]at hg
  subst this
  exact .nX _ a cap
 | slice g z rows b k cap hl hs h1 h2 mA ih=>
  intro d0 e ok
  cases d0<;>simp only[D.dv]at e<;>first|(split at e<;>cases e;done)|skip
  all_goals try (cases e;done)
  rename_i g0 z0 tL
  simp only[D.slice.injEq]at e
  obtain⟨rfl,rfl,rfl⟩:=e
  simp only[D.ok,zaq]at ok
  rw[A3]at hl hs h1 ih mA
  simp only[A3,zaC]at hl mA ⊢
  have eD : ∀ (i:Nat) (row:List D),tL[i]? = some row→(tL.map (D.gf os ts))[i]? = some (D.gf os ts row):=fun i row e=>by rw[zat,e];rfl
  have AY : ∀ (row:List D) (j:Nat) (d:D),row[j]? = some d→(D.gf os ts row)[j]? = some (D.dv os ts d):=fun row j d e=>by rw[fD,zat,e];rfl
  refine .slice g0 z0 tL b k cap hl (fun row hr=>?_) (fun i row j d e1 e2=>?_) (fun i row j d u e1 e2 eu=>?_) (tag ok.1 mA)
  ·have:=hs (D.gf os ts row) (zbh.2 ⟨row,hr,rfl⟩)
   rwa [fD,zaC]at this
  ·rw[hG];exact h1 i _ j _ (eD i row e1) (AY row j d e2)
  ·rw[hG]at eu;exact ih i _ j _ u (eD i row e1) (AY row j d e2) eu d rfl (uy (YD ok.2 e1) e2)
 |agg cells vs hl h1 _ ih=>
  intro d0 e ok
  cases d0<;>simp only[D.dv]at e<;>first|(split at e<;>cases e;done)|skip
  all_goals try (cases e;done)
  rename_i QO
  simp only[D.agg.injEq]at e
  subst e
  simp only[D.ok]at ok
  rw[fD]at hl ih
  refine .agg QO vs (by simpa using hl) h1 (fun i d v e1 e2=>ih i _ v (by rw[zat,e1];rfl) e2 d rfl (uy ok e1))
 |tuple ds vs hl _ ih=>
  intro d0 e ok
  cases d0<;>simp only[D.dv]at e<;>first|(split at e<;>cases e;done)|skip
  all_goals try (cases e;done)
  rename_i QO
  simp only[D.tuple.injEq]at e
  subst e
  simp only[D.ok]at ok
  rw[fD]at hl ih
  refine .tuple QO vs (by simpa using hl) (fun i d v e1 e2=>ih i _ v (by rw[zat,e1];rfl) e2 d rfl (uy ok e1))
theorem RD.dv (hG:M0.G=M.G) (p7 : ∀ i,i<s0.aw.length→∃ o,os[i]? = some o∧o<s.aw.length∧M.loc o=M0.loc i)
 (kC : ∀ i,i<s0.aE.length→∃ t,ts[i]? = some t∧t<s.aE.length∧s.aE[t]? = s0.aE[i]? ∧M.be t=M0.be i) {d:D} {v:Value} (h:RD M0 s0 d v):RD M s (d.dv os ts) v:=by
 have tag : ∀ {g:Tag} {z len cap:Nat} {base:Option (Nat×Nat)},iM M0 s0 g z len base cap→iM M s (g.dv ts) z len base cap:=by
  intro g z len cap base h
  cases g with
  |full=>exact h
  |shared=>exact h
  |tok t y=>
   obtain⟨h1,h2⟩:=h
   obtain⟨t',e,hC,QF,hb⟩:=kC t h1
   simp only[Tag.dv,e]
   refine⟨hC,fun n hn=>?_⟩
   rw[hb]
   exact h2 n (QF ▸ hn)
 induction h with
 |junk v=>simp only[D.dv];exact .junk v
 |int k x=>simp only[D.dv];exact .int k x
 |bool b=>simp only[D.dv];exact .bool b
 |str l=>simp only[D.dv];exact .str l
 |fx=>simp only[D.dv];exact .fx
 |ptr o off ho hk=>
  obtain⟨o',e,hC,hm⟩:=p7 o ho
  simp only[D.dv,e]
  have hb:M.ob o'=M0.ob o:=congrArg Prod.snd hm
  have hm:M.mu o'=M0.mu o:=congrArg Prod.fst hm
  rw[← hm]
  exact .ptr o' off hC (by rw[hb];exact hk)
 |gH o ho hk=>
  obtain⟨o',e,hC,hm⟩:=p7 o ho
  simp only[D.dv,e]
  have hb:M.ob o'=M0.ob o:=congrArg Prod.snd hm
  have hm:M.mu o'=M0.mu o:=congrArg Prod.fst hm
  rw[← hm]
  exact .gH o' hC (by rw[hb];exact hk)
 |jK z a=>simp only[D.dv];exact .jK z a
 |jD z o g len b cap A ho hk ha hl=>
  obtain⟨o',e,hC,hm⟩:=p7 o ho
  simp only[D.dv,e]
  exact .jD z o' g len b cap A hC ((congrArg Prod.snd hm).trans hk) ha hl
 |iT z o g off b cap A ho hk ha=>
  obtain⟨o',e,hC,hm⟩:=p7 o ho
  simp only[D.dv,e]
  exact .iT z o' g off b cap A hC ((congrArg Prod.snd hm).trans hk) ha
 |gK f ds vs hl _ ih=>
  simp only[D.dv,fD]
  refine .gK f _ vs (by simpa using hl) (fun i d v e1 e2=>?_)
  simp only[zat,zaz]at e1
  obtain⟨d',e1,rfl⟩:=e1
  exact ih i d' v e1 e2
 |val v hv=>simp only[D.dv];exact .val v hv
 |fC T o v ho ht hv=>
  obtain⟨o',e,hC,hm⟩:=p7 o ho
  simp only[D.dv,e]
  have h1:M.mu o'=M0.mu o:=congrArg Prod.fst hm
  have h2:M.ty o'=M0.ty o:=congrArg (fun x=>x.2.ty?) hm
  exact .fC T o' v hC (by rw[h2];exact ht) (by rw[h1];exact hv)
 | dJ row off b k h1 h2 ih=>
  simp only[D.dv,fD]
  refine .dJ _ off b k (fun i d e=>?_) (fun i d u e eu=>?_)
  ·simp only [zat,zaz]at e
   obtain⟨d',e,rfl⟩:=e
   rw[← hG];exact h1 i d' e
  ·simp only [zat,zaz]at e
   obtain⟨d',e,rfl⟩:=e
   rw[← hG]at eu;exact ih i d' u e eu
 |jX g z cap hc ht=>simp only[D.dv,D.s3];exact .jX _ z cap hc (tag ht)
 |nX z a cap=>simp only[D.dv,D.s3,Tag.dv];exact .nX z a cap
 | slice g z rows b k cap hl hs h1 h2 ht ih=>
  simp only[D.dv,A3]
  have hlen:(rows.map (D.gf os ts)).length=rows.length:=by simp
  have key:=RD.slice (M:=M) (s:=s) (g.dv ts) z (rows.map (D.gf os ts)) b k cap (by rw[hlen];exact hl) (fun row hr=>by
   obtain⟨kJ,h',rfl⟩:=zbh.1 hr
   rw[fD,zaC];exact hs kJ h')
   (fun i row j d e1 e2=>by
    simp only[zat,zaz]at e1
    obtain⟨kJ,e1,rfl⟩:=e1
    rw[fD]at e2
    simp only[zat,zaz]at e2
    obtain⟨d',e2,rfl⟩:=e2
    rw[← hG];exact h1 i kJ j d' e1 e2)
   (fun i row j d u e1 e2 eu=>by
    simp only[zat,zaz]at e1
    obtain⟨kJ,e1,rfl⟩:=e1
    rw[fD]at e2
    simp only[zat,zaz]at e2
    obtain⟨d',e2,rfl⟩:=e2
    rw[← hG]at eu;exact ih i kJ j d' u e1 e2 eu)
   (by rw[hlen];exact tag ht)
  rw[hlen]at key
  exact key
 |agg cells vs hl h1 _ ih=>
  simp only[D.dv,fD]
  refine .agg _ vs (by simpa using hl) h1 (fun i d v e1 e2=>?_)
  simp only[zat,zaz]at e1
  obtain⟨d',e1,rfl⟩:=e1
  exact ih i d' v e1 e2
 |tuple ds vs hl _ ih=>
  simp only[D.dv,fD]
  refine .tuple _ vs (by simpa using hl) (fun i d v e1 e2=>?_)
  simp only[zat,zaz]at e1
  obtain⟨d',e1,rfl⟩:=e1
  exact ih i d' v e1 e2
def kA {α:Type} : List Nat→List α→List α→List α
 | [],new,l=>l++new
 |_::_,[],l=>l
 |o::os,x::xs,l=>kA os xs (l.set o x)
def kr (os:List Nat) (n k:Nat):List Nat:=os++(List.range k).map (n + ·)
theorem wj {α:Type} : ∀ (os:List Nat) (xs l:List α),os.length≤xs.length→(kA os xs l).length=l.length+(xs.length - os.length)
 | [],xs,l,_=>by simp[kA]
 |o::os,[],l,h=>by simp at h
 |o::os,x::xs,l,h=>by
  simp only[kA]
  rw[wj os xs _ (by simpa using h)]
  simp
theorem Cb {α:Type} : ∀ (os:List Nat) (xs l:List α),os.length≤xs.length→os.Nodup→(∀ o∈os,o<l.length)→
 (∀ (i:Nat) (o:Nat),os[i]? = some o→(kA os xs l)[o]? = xs[i]?)∧(∀ o,o<l.length→o∉os→(kA os xs l)[o]? = l[o]?)∧
 (∀ k,(kA os xs l)[l.length+k]? = xs[os.length+k]?)
 | [],xs,l,_,_,_=>by
  refine⟨by simp,fun o ho _=>by simp only[kA];rw[zar ho],fun k=>by simp only[kA];rw[zav (by omega)];simp⟩
 |o::os,[],l,h,_,_=>by simp at h
 | o::os,x::xs,l,h,hn,hC=>by
  simp only[List.nodup_cons]at hn
  have yU : ∀ q∈os,q<(l.set o x).length:=fun q hq=>by simpa using hC q (by simp[hq])
  obtain⟨h1,h2,h3⟩:=Cb os xs (l.set o x) (by simpa using h) hn.2 yU
  have ho:o<l.length:=hC o (by simp)
  simp only[kA]
  refine⟨fun i q e=>?_,fun q hq Da=>?_,fun k=>?_⟩
  ·cases i with
   |zero=>
    simp only[zbe,Option.some.injEq]at e
    subst e
    rw[h2 o (by simpa using ho) hn.1]
    simp[ho]
   |succ i=>simpa using h1 i q (by simpa using e)
  ·have uu:q≠o:=fun e=>Da (by simp [e])
   rw[h2 q (by simpa using hq) (fun h=>Da (by simp[h])),List.getElem?_set_ne (Ne.symm uu)]
  ·have:=h3 k
   simp only[List.length_set]at this
   rw[this]
   simp only[zal]
   rw[show os.length+1+k=(os.length+k)+1 by omega];simp
theorem BG (os:List Nat) (n k i:Nat):(kr os n k)[i]? = if i<os.length then os[i]? else if i<os.length+k then some (n+(i - os.length))else none:=by
 unfold kr
 split
 ·rename_i h;rw[zar h]
 ·rename_i h
  rw[zav (by omega)]
  split
  ·rename_i h2
   rw[zat,List.getElem?_range (by omega)];rfl
  ·rename_i h2
   rw[List.getElem?_eq_none]
   simp;omega
def posOf:List Nat→Nat→Option Nat
 | [],_=>none
 |x::r,o=>if x=o then some 0 else(posOf r o).map (· + 1)
theorem iO : ∀ {l:List Nat} {o i:Nat},posOf l o=some i→l[i]? = some o
 | x::r,o,i,h=>by
  simp only[posOf]at h
  split at h
  ·rename_i e;cases h;simp[e]
  ·cases hp:posOf r o with
   |none=>rw[hp]at h;cases h
   |some j=>rw[hp]at h;cases h;simpa using iO hp
theorem lS : ∀ {l:List Nat} {o i:Nat},l.Nodup→l[i]? = some o→posOf l o=some i
 | x::r,o,i,hn,h=>by
  simp only[List.nodup_cons]at hn
  simp only[posOf]
  cases i with
  |zero=>simp at h;simp[h]
  |succ i=>
   simp at h
   have:x≠o:=fun e=>hn.1 (by rw[e];exact zae h)
   rw[if_neg this,lS hn.2 h];rfl
end
end Go.Abs
namespace Go.Abs
theorem yV {l:List Nat} {n k:Nat} (h:l.Nodup) (hl : ∀ o∈l,o<n):(kr l n k).Nodup:=by
 unfold kr
 rw[List.nodup_append]
 refine⟨h, ?_,fun a ha b hb=>?_⟩
 ·rw [List.nodup_iff_pairwise_ne,List.pairwise_map]
  exact List.Pairwise.imp (fun h=>by omega) (List.nodup_iff_pairwise_ne.1 List.nodup_range)
 ·obtain⟨c,hc,rfl⟩:=zbh.1 hb
  have:=hl a ha
  omega
def kE (M:Map) (os ts:List Nat):Map:=⟨M.G,fun i=>M.loc (os.getD i 0),fun i=>M.be (ts.getD i 0)⟩
def xd (M M0:Map) (os ts:List Nat):Map:=
 ⟨M0.G,fun o=>match posOf os o with|some i=>M0.loc i|none=>M.loc o,fun t=>match posOf ts t with|some i=>M0.be i|none=>M.be t⟩
section
variable {P:Program} {M:Map} {s s0:St} {w:World} {os ts:List Nat}
theorem A4 {l:List Nat} {i o:Nat} (h:l[i]? = some o):l.getD i 0=o:=by simp[List.getD,h]
theorem Rel.sub (r:Rel M s w) (FI:os.Nodup) (Ie:ts.Nodup) (ow : ∀ o∈os,o<s.aw.length)
 (ho:s0.aw.length=os.length) (Ur : ∀ (i o:Nat) (ds:List D),os[i]? = some o→s0.aw[i]? = some ds→s.aw[o]? = some (D.gf os ts ds)∧D.bP os.length ts.length ds=true)
 (ht:s0.aE.length=ts.length) (nY : ∀ (i t:Nat),ts[i]? = some t→s0.aE[i]? = s.aE[t]?):Rel (kE M os ts) s0 w:=by
 have nth : ∀ i,i<s0.aw.length→∃ o,os[i]? = some o∧o<s.aw.length:=fun i hi=>⟨os[i],zap (by omega),ow _ (List.getElem_mem _)⟩
 have loc : ∀ (i:Nat) o,os[i]? = some o→(kE M os ts).loc i=M.loc o:=fun i o h=>by simp only[kE,A4 h]
 have mu : ∀ (i:Nat) o,os[i]? = some o→(kE M os ts).mu i=M.mu o:=fun i o h=>congrArg Prod.fst (loc i o h)
 have be : ∀ (i:Nat) t,ts[i]? = some t→(kE M os ts).be i=M.be t:=fun i t h=>by simp only[kE,A4 h]
 have XK : ∀ t,s0.live t→∃ t',ts[t]? = some t'∧s.live t':=fun t ⟨n,hn⟩=>by
  have hC:=(zai.1 hn).1
  have e:ts[t]? = some ts[t]:=zap (by omega)
  exact⟨_,e,n,by rw[← nY t _ e];exact hn⟩
 refine⟨r.comm,fun i ds e=>?_,fun i hi off=>?_,fun i i' hi ib e=>?_,fun t n e=>?_,fun t b c z i hl e hi=>?_,fun t t' b c z c' z' h h' e e'=>?_⟩
 ·obtain⟨o,h1,_⟩:=nth i (zai.1 e).1
  obtain⟨h2,h3⟩:=Ur i o ds h1 e
  obtain⟨vs,T,g1,g2,g3,g4⟩:=r.obj o _ h2
  refine⟨vs,T,by rw[loc i o h1];exact g1,by rw[fD]at g2;simpa using g2,⟨g3.1,by rw[show(kE M os ts).ty i=M.ty o from congrArg (fun x=>x.2.ty?) (loc i o h1)];exact g3.2⟩,fun j d v e1 e2=>?_⟩
  exact RD.Hr (M:=M) (M0:=kE M os ts) (s:=s) rfl loc ho be nY ht (g4 j (d.dv os ts) v (by rw[fD,zat,e1];rfl) e2) d rfl (uy h3 e1)
 ·obtain⟨o,h1,h2⟩:=nth i hi
  rw[mu i o h1];exact r.jY o h2 off
 ·obtain⟨o,h1,h2⟩:=nth i hi
  obtain⟨o',pw,sx⟩:=nth i' ib
  rw[mu i o h1,mu i' o' pw]at e
  have:=r.inj o o' h2 sx e
  subst this
  have a:=lS FI h1
  have b:=lS FI pw
  rw[a]at b;cases b;rfl
 ·obtain⟨t',h1,h2⟩:=XK t ⟨n,e⟩
  rw[be t t' h1]
  exact r.tok t' n (by rw[← nY t t' h1];exact e)
 ·obtain⟨t',h1,h2⟩:=XK t hl
  obtain⟨o,h3,h4⟩:=nth i hi
  rw[be t t' h1]at e
  rw[mu i o h3]
  exact r.eP t' b c z o h2 e h4
 ·obtain⟨q,h1,h2⟩:=XK t h
  obtain⟨q',pw,sx⟩:=XK t' h'
  rw[be t q h1]at e
  rw[be t' q' pw]at e'
  have:=r.fM q q' b c z c' z' h2 sx e e'
  subst this
  have a:=lS Ie h1
  have b:=lS Ie pw
  rw[a]at b;cases b;rfl
end
def St.back (s:St) (os ts:List Nat) (s':St):St:=
 ⟨kA os (s'.aw.map (D.gf (kr os s.aw.length (s'.aw.length - os.length)) (kr ts s.aE.length (s'.aE.length - ts.length)))) s.aw,kA ts s'.aE s.aE⟩
def D.back (s:St) (os ts:List Nat) (s':St) (d:D):D:=
 d.dv (kr os s.aw.length (s'.aw.length - os.length)) (kr ts s.aE.length (s'.aE.length - ts.length))
theorem dG.frame {P:Program} {f:FuncId} {Nl args:List D} {s s0:St} {Q0 Q:D→St→Prop} (os ts:List Nat) (h:dG P f Nl s0 Q0) (FI:os.Nodup) (Ie:ts.Nodup) (ow : ∀ o∈os,o<s.aw.length) (Fx : ∀ t∈ts,t<s.aE.length)
 (ho:s0.aw.length=os.length) (Ur : ∀ (i o:Nat) (ds:List D),os[i]? = some o→s0.aw[i]? = some ds→s.aw[o]? = some (D.gf os ts ds)∧D.bP os.length ts.length ds=true)
 (ht:s0.aE.length=ts.length) (nY : ∀ (i t:Nat),ts[i]? = some t→s0.aE[i]? = s.aE[t]?)
 (Hs:args=D.gf os ts Nl) (oE:D.bP os.length ts.length Nl=true) (k : ∀ d s',Q0 d s'→Q (d.back s os ts s') (s.back os ts s')):dG P f args s Q:=by
 intro M w fJ r kp dz ha
 have r0:=r.sub FI Ie ow ho Ur ht nY
 have loc : ∀ (i:Nat) o,os[i]? = some o→(kE M os ts).loc i=M.loc o:=fun i o h=>by simp only[kE,A4 h]
 have mu : ∀ (i:Nat) o,os[i]? = some o→(kE M os ts).mu i=M.mu o:=fun i o h=>congrArg Prod.fst (loc i o h)
 have be : ∀ (i:Nat) t,ts[i]? = some t→(kE M os ts).be i=M.be t:=fun i t h=>by simp only[kE,A4 h]
 subst Hs
 have aa7:Laid (kE M os ts) s0 w:=by
  intro g cs hg
  obtain⟨h1,h2,h3⟩:=kp g cs hg
  refine⟨h1,fun o hC=>?_,fun t c z hl hb=>?_⟩
  ·obtain⟨o',my⟩ : ∃ o',os[o]? = some o':=⟨_,zap (by omega)⟩
   rw[mu o o' my]
   exact h2 o' (ow o' (zae my))
  ·obtain⟨n,hn⟩:=hl
   have hC:=(zai.1 hn).1
   obtain⟨t',mB⟩ : ∃ t',ts[t]? = some t':=⟨_,zap (by omega)⟩
   rw[be t t' mB]at hb
   exact h3 t' c z ⟨n,by rw[← nY t t' mB];exact hn⟩ hb
 have hc:=h (kE M os ts) w fJ r0 aa7 (by rw[dz,fD,zaC]) (fun i d v e1 e2=>
  RD.Hr (M:=M) (M0:=kE M os ts) (s:=s) rfl loc ho be nY ht (ha i (d.dv os ts) v (by rw[fD,zat,e1];rfl) e2) d rfl (uy oE e1))
 refine hc.mono ?_
 rintro en w' ⟨xe,d,v,s',rfl,hq,e,r',hv⟩
 have yS:=e.le.n
 have CW:=e.le.t
 generalize Nn:kr os s.aw.length (s'.aw.length - os.length)=lF
 generalize No:kr ts s.aE.length (s'.aE.length - ts.length)=oF
 have nd:lF.Nodup:=by rw[← Nn];exact yV FI ow
 have ndt:oF.Nodup:=by rw[← No];exact yV Ie Fx
 have Np : ∀ i,lF[i]? = if i<os.length then os[i]? else if i<s'.aw.length then some (s.aw.length+(i - os.length))else none:=fun i=>by
  rw[← Nn,BG];split
  ·rfl
  ·rw[show os.length+(s'.aw.length - os.length)=s'.aw.length by omega]
 have Nq : ∀ i,oF[i]? = if i<ts.length then ts[i]? else if i<s'.aE.length then some (s.aE.length+(i - ts.length))else none:=fun i=>by
  rw[← No,BG];split
  ·rfl
  ·rw[show ts.length+(s'.aE.length - ts.length)=s'.aE.length by omega]
 have hsb:s.back os ts s' = ⟨kA os (s'.aw.map (D.gf lF oF)) s.aw,kA ts s'.aE s.aE⟩:=by simp only[St.back,Nn,No]
 have hdb:d.back s os ts s'=d.dv lF oF:=by simp only[D.back,Nn,No]
 have pj:=k d s' hq
 rw[hsb,hdb]at pj
 obtain⟨p1,p2,p3⟩:=Cb os (s'.aw.map (D.gf lF oF)) s.aw (by simp;omega) FI ow
 obtain⟨q1,q2,q3⟩:=Cb ts s'.aE s.aE (by omega) Ie Fx
 have Ig:=wj os (s'.aw.map (D.gf lF oF)) s.aw (by simp;omega)
 have Ih:=wj ts s'.aE s.aE (by omega)
 simp only[zaC]at Ig
 generalize FB:(⟨kA os (s'.aw.map (D.gf lF oF)) s.aw,kA ts s'.aE s.aE⟩:St)=s2 at pj
 have so:s2.aw=kA os (s'.aw.map (D.gf lF oF)) s.aw:=by rw[← FB]
 have st:s2.aE=kA ts s'.aE s.aE:=by rw[← FB]
 -- the framed objects
 have fo : ∀ (i o:Nat),lF[i]? = some o→o<s2.aw.length∧s2.aw[o]? = (s'.aw[i]?).map (D.gf lF oF)∧i<s'.aw.length∧(i<os.length→o<s.aw.length∧os[i]? = some o)∧(os.length≤i→s.aw.length≤o):=by
  intro i o hi
  rw[Np]at hi
  split at hi
  ·rename_i h1
   have hC:=ow o (zae hi)
   refine⟨by rw[so,Ig];omega,by rw[so,p1 i o hi,zat],by omega,fun _=>⟨hC,hi⟩,fun h=>by omega⟩
  ·split at hi
   ·rename_i h1 h2
    cases hi
    refine⟨by rw[so,Ig];omega, ?_,h2,fun h=>by omega,fun _=>by omega⟩
    rw[so,p3,zat,show os.length+(i - os.length)=i by omega]
   ·cases hi
 have ft : ∀ (i t:Nat),oF[i]? = some t→t<s2.aE.length∧s2.aE[t]? = s'.aE[i]? ∧i<s'.aE.length∧(i<ts.length→t<s.aE.length∧ts[i]? = some t)∧(ts.length≤i→s.aE.length≤t):=by
  intro i t hi
  rw[Nq]at hi
  split at hi
  ·rename_i h1
   have hC:=Fx t (zae hi)
   refine⟨by rw[st,Ih];omega,by rw[st,q1 i t hi],by omega,fun _=>⟨hC,hi⟩,fun h=>by omega⟩
  ·split at hi
   ·rename_i h1 h2
    cases hi
    refine⟨by rw[st,Ih];omega, ?_,h2,fun h=>by omega,fun _=>by omega⟩
    rw[st,q3,show ts.length+(i - ts.length)=i by omega]
   ·cases hi
 -- all others
 have uo : ∀ o,o<s2.aw.length→posOf lF o=none→o<s.aw.length∧o∉os∧s2.aw[o]? = s.aw[o]? :=by
  intro o hC hp
  have oG : ∀ i,lF[i]? ≠some o:=fun i hi=>by rw[lS nd hi]at hp;cases hp
  have h1:o<s.aw.length:=by
   rcases zaF o s.aw.length with h|h
   ·exact h
   ·exfalso
    rw[so,Ig]at hC
    refine oG (os.length+(o - s.aw.length)) ?_
    rw[Np,if_neg (by omega),if_pos (by omega)]
    congr 1;omega
  have h2:o∉os:=fun hm=>by
   obtain⟨i,hi⟩:=List.mem_iff_getElem?.1 hm
   have px:=(zai.1 hi).1
   exact oG i (by rw[Np,if_pos px];exact hi)
  exact⟨h1,h2,by rw[so,p2 o h1 h2]⟩
 have ut : ∀ t,t<s2.aE.length→posOf oF t=none→t<s.aE.length∧t∉ts∧s2.aE[t]? = s.aE[t]? :=by
  intro t hC hp
  have oG : ∀ i,oF[i]? ≠some t:=fun i hi=>by rw[lS ndt hi]at hp;cases hp
  have h1:t<s.aE.length:=by
   rcases zaF t s.aE.length with h|h
   ·exact h
   ·exfalso
    rw[st,Ih]at hC
    refine oG (ts.length+(t - s.aE.length)) ?_
    rw[Nq,if_neg (by omega),if_pos (by omega)]
    congr 1;omega
  have h2:t∉ts:=fun hm=>by
   obtain⟨i,hi⟩:=List.mem_iff_getElem?.1 hm
   have px:=(zai.1 hi).1
   exact oG i (by rw[Nq,if_pos px];exact hi)
  exact⟨h1,h2,by rw[st,q2 t h1 h2]⟩
 generalize QQ:xd M xe lF oF=M2
 have mG:xe.G=M2.G:=by rw[← QQ];rfl
 have lo : ∀ (i o:Nat),lF[i]? = some o→M2.loc o=xe.loc i:=fun i o hi=>by rw[← QQ];simp only[xd,lS nd hi]
 have XL : ∀ o,posOf lF o=none→M2.loc o=M.loc o:=fun o hp=>by rw[← QQ];simp only[xd,hp]
 have mo : ∀ (i o:Nat),lF[i]? = some o→M2.mu o=xe.mu i:=fun i o hi=>congrArg Prod.fst (lo i o hi)
 have Ii : ∀ o,posOf lF o=none→M2.mu o=M.mu o:=fun o hp=>congrArg Prod.fst (XL o hp)
 have mt : ∀ (i t:Nat),oF[i]? = some t→M2.be t=xe.be i:=fun i t hi=>by rw[← QQ];simp only[xd,lS ndt hi]
 have Ij : ∀ t,posOf oF t=none→M2.be t=M.be t:=fun t hp=>by rw[← QQ];simp only[xd,hp]
 have le:Le M s M2 s2:=by
  refine⟨fun b o v hg=>by rw[← mG];exact e.le.G b o v hg,by rw[so,Ig];omega,fun o hC=>?_,by rw[st,Ih];omega,fun t n' hC oz=>?_⟩
  ·cases hp:posOf lF o with
   |none=>rw[XL o hp];exact .refl _
   | some i=>
    have hi:=iO hp
    rw[lo i o hi]
    obtain⟨_,_,_,h1,h2⟩:=fo i o hi
    have px:i<os.length:=by
     rcases zaF i os.length with h|h
     ·exact h
     ·have:=h2 h;omega
    have h3:=e.le.loc i (by omega)
    rw[loc i o (h1 px).2]at h3
    exact h3
  ·cases hp:posOf oF t with
   |none=>
    obtain⟨_,_,h3⟩:=ut t (by rw[st,Ih];omega) hp
    rw[h3]at oz
    exact⟨n',oz,zaj _,fun _=>Ij t hp⟩
   | some i=>
    have hi:=iO hp
    obtain⟨_,g1,_,h1,h2⟩:=ft i t hi
    have px:i<ts.length:=by
     rcases zaF i ts.length with h|h
     ·exact h
     ·have:=h2 h;omega
    rw[g1]at oz
    obtain⟨n,h3,h4,h5⟩:=e.le.tk i n' (by omega) oz
    refine⟨n,by rw[← nY i t (h1 px).2];exact h3,h4,fun eq=>?_⟩
    rw[mt i t hi,h5 eq,be i t (h1 px).2]
 have aa8 : ∀ {d:D} {v:Value},RD xe s' d v→RD M2 s2 (d.dv lF oF) v:=fun hd=>RD.dv mG
  (fun i hi=>by
   obtain⟨o,ho⟩ : ∃ o,lF[i]? = some o:=by
    rw[Np];split
    ·rename_i h1;exact⟨_,zap h1⟩
    ·exact⟨_,rfl⟩
   exact⟨o,ho,(fo i o ho).1,lo i o ho⟩)
  (fun i hi=>by
   obtain⟨t,ht⟩ : ∃ t,oF[i]? = some t:=by
    rw[Nq];split
    ·rename_i h1;exact⟨_,zap h1⟩
    ·exact⟨_,rfl⟩
   exact⟨t,ht,(ft i t ht).1,(ft i t ht).2.1,mt i t ht⟩) hd
 -- blocks that the callee did not know
 have Ht : ∀ i,s0.live i→∃ t,ts[i]? = some t∧s.live t:=fun i ⟨n,hn⟩=>by
  have hC:=(zai.1 hn).1
  have e1:ts[i]? = some ts[i]:=zap (by omega)
  exact⟨_,e1,n,by rw[← nY i _ e1];exact hn⟩
 have Nr : ∀ b,b<w.heap.size→(∀ (i o:Nat),os[i]? = some o→M.mu o≠b)→(∀ (i t:Nat) c z,ts[i]? = some t→s.live t→M.be t≠some (b,c,z))→
  w'.heap[b]? = w.heap[b]? ∧∀ off,xe.G b off=M.G b off:=by
  intro b hb h1 h2
  refine⟨e.kept b hb (fun i hi=>?_) (fun i c z hl=>?_),fun off=>?_⟩
  ·have e1:os[i]? = some os[i]:=zap (by omega)
   rw[mu i _ e1];exact h1 i _ e1
  ·obtain⟨t,e1,hC⟩:=Ht i hl
   rw[be i t e1];exact h2 i t c z e1 hC
  ·apply Classical.byContradiction
   intro eF
   rcases e.sT b off eF with h3|⟨i,c,z,hl,h3⟩
   ·omega
   ·obtain⟨t,e1,hC⟩:=Ht i hl
    rw[be i t e1]at h3
    exact h2 i t c z e1 hC h3
 have XM : ∀ o,o<s.aw.length→o∉os→w'.heap[M.mu o]? = w.heap[M.mu o]? ∧∀ off,xe.G (M.mu o) off=M.G (M.mu o) off:=fun o hC oG=>
  Nr _ (r.pT hC) (fun i o' h1 h2=>oG (by rw[← r.inj o' o (ow o' (zae h1)) hC h2];exact zae h1))
   (fun i t c z _ hl h2=>r.eP t _ c z o hl h2 hC rfl)
 have aeo : ∀ t b c z,s.live t→t∉ts→M.be t=some (b,c,z)→w'.heap[b]? = w.heap[b]? ∧∀ off,xe.G b off=M.G b off:=fun t b c z hl oG hb=>
  Nr b (r.rT hl hb) (fun i o h1=>r.eP t b c z o hl hb (ow o (zae h1)))
   (fun i t' c' z' h1 jP h2=>oG (by rw[r.fM t t' b c z c' z' hl jP hb h2];exact zae h1))
 have lv : ∀ t,s2.live t→(∃ i,oF[i]? = some t∧s'.live i)∨(posOf oF t=none∧s.live t∧t∉ts):=by
  rintro t ⟨n,hn⟩
  cases hp:posOf oF t with
  |none=>
   obtain⟨h1,h2,h3⟩:=ut t (zai.1 hn).1 hp
   exact .inr ⟨rfl,⟨n,by rw[← h3];exact hn⟩,h2⟩
  |some i=>
   have hi:=iO hp
   exact .inl ⟨i,hi,n,by rw[← (ft i t hi).2.1];exact hn⟩
 -- where a framed object lies
 have XN : ∀ (i o:Nat),lF[i]? = some o→(o<s.aw.length∧o∈os∧xe.mu i=M.mu o)∨w.heap.size≤xe.mu i:=by
  intro i o hi
  obtain⟨_,_,h1,h2,h3⟩:=fo i o hi
  rcases e.mo h1 with ⟨h4,h5⟩|h4
  ·have h:i<os.length:=by omega
   exact .inl ⟨(h2 h).1,zae (h2 h).2,by rw[h5,mu i o (h2 h).2]⟩
  ·exact .inr h4
 have XO : ∀ (i t b c z:Nat),oF[i]? = some t→s'.live i→xe.be i=some (b,c,z)→(s.live t∧t∈ts∧∃ c' z',M.be t=some (b,c',z'))∨w.heap.size≤b:=by
  intro i t b c z hi hl hb
  rcases e.qA i b c z hl hb with ⟨h1,c',z',h2⟩|h1
  ·obtain⟨t',e1,hC⟩:=Ht i h1
   have px:=(zai.1 e1).1
   obtain⟨_,_,_,h3,_⟩:=ft i t hi
   have:=(h3 px).2
   rw[e1]at this;cases this
   rw[be i _ e1]at h2
   exact .inl ⟨hC,zae e1,c',z',h2⟩
  ·exact .inr h1
 refine⟨M2,d.dv lF oF,v,s2,rfl,pj, ?_, ?_,aa8 hv⟩
 ·-- Ext
  refine⟨le,fun b hb h1 h2=>?_,fun o h1 h2=>?_,fun t b c z hl hb=>?_,fun b off eF=>?_,e.size,e.os,e.tape,e.output⟩
  ·exact(Nr b hb (fun i o h3=>h1 o (ow o (zae h3))) (fun i t c z _ hl=>h2 t c z hl)).1
  ·cases hp:posOf lF o with
   |none=>
    have:=(uo o h2 hp).1
    rcases h1 with h1|h1
    ·omega
    ·exact(h1 (Ii o hp)).elim
   | some i=>
    have hi:=iO hp
    rw[mo i o hi]at h1 ⊢
    rcases XN i o hi with ⟨h3,_,h5⟩|h3
    ·rcases h1 with h1 | h1
     ·omega
     ·exact(h1 h5).elim
    ·exact h3
  ·rcases lv t hl with ⟨i,hi,jP⟩ | ⟨hp,jP,_⟩
   ·rw [mt i t hi]at hb
    rcases XO i t b c z hi jP hb with ⟨h1,_,h2⟩|h1
    ·exact .inl ⟨h1,h2⟩
    ·exact .inr h1
   ·rw [Ij t hp]at hb
    exact .inl ⟨jP,c,z,hb⟩
  ·rw [← mG]at eF
   rcases e.sT b off eF with h1|⟨i,c,z,hl,hb⟩
   ·exact .inl h1
   ·obtain⟨t,e1,hC⟩:=Ht i hl
    rw[be i t e1]at hb
    exact .inr ⟨t,c,z,hC,hb⟩
 ·-- Rel
  refine⟨fun b o v hg=>r'.comm b o v (by rw[mG];exact hg),fun o ds C7=>?_,fun o hC off=>?_,fun o o' hC yU heq=>?_,fun t n hn=>?_,fun t b c z o hl hb hC=>?_,fun t t' b c z c' z' hl jP hb ld=>?_⟩
  ·cases hp:posOf lF o with
   |some i=>
    have hi:=iO hp
    obtain⟨_,g1,_⟩:=fo i o hi
    rw[g1]at C7
    obtain⟨rn,h1,rfl⟩:=zaz.1 C7
    obtain⟨vs,T,h2,h3,h4,h5⟩:=r'.obj i rn h1
    refine⟨vs,T,by rw[lo i o hi];exact h2,by rw[fD];simpa using h3,⟨h4.1,by rw[show M2.ty o=xe.ty i from congrArg (fun x=>x.2.ty?) (lo i o hi)];exact h4.2⟩,fun j d v e1 e2=>?_⟩
    rw[fD]at e1
    simp only[zat,zaz]at e1
    obtain⟨d',e1,rfl⟩:=e1
    exact aa8 (h5 j d' v e1 e2)
   |none=>
    obtain⟨h1,h2,h3⟩:=uo o (zai.1 C7).1 hp
    rw[h3]at C7
    obtain⟨vs,T,g1,g2,g3,g4⟩:=r.obj o ds C7
    exact⟨vs,T,by rw[XL o hp];exact g1.keep (XM o h1 h2).1,g2,⟨g3.1,by rw[show M2.ty o=M.ty o from congrArg (fun x=>x.2.ty?) (XL o hp)];exact g3.2⟩,fun j d v e1 e2=>(g4 j d v e1 e2).mono le⟩
  ·cases hp:posOf lF o with
   |some i=>
    have hi:=iO hp
    rw[mo i o hi, ← mG];exact r'.jY i (fo i o hi).2.2.1 off
   |none=>
    obtain⟨h1,h2,h3⟩:=uo o hC hp
    rw[Ii o hp, ← mG,(XM o h1 h2).2 off];exact r.jY o h1 off
  ·cases hp:posOf lF o with
   | some i=>
    have hi:=iO hp
    rw[mo i o hi]at heq
    cases mI:posOf lF o' with
    |some i'=>
     have ib:=iO mI
     rw[mo i' o' ib]at heq
     have:=r'.inj i i' (fo i o hi).2.2.1 (fo i' o' ib).2.2.1 heq
     subst this
     rw[hi]at ib;cases ib;rfl
    | none=>
     obtain⟨h1,h2,_⟩:=uo o' yU mI
     rw[Ii o' mI]at heq
     rcases XN i o hi with ⟨h3,h4,h5⟩|h3
     ·rw [h5]at heq
      have:=r.inj o o' h3 h1 heq
      subst this;exact(h2 h4).elim
     ·have:=r.pT h1;omega
   | none=>
    obtain⟨h1,h2,_⟩:=uo o hC hp
    rw[Ii o hp]at heq
    cases mI:posOf lF o' with
    | some i'=>
     have ib:=iO mI
     rw[mo i' o' ib]at heq
     rcases XN i' o' ib with ⟨h3,h4,h5⟩|h3
     ·rw [h5]at heq
      have:=r.inj o o' h1 h3 heq
      subst this;exact(h2 h4).elim
     ·have:=r.pT h1;omega
    |none=>
     obtain⟨pw,_,_⟩:=uo o' yU mI
     rw[Ii o' mI]at heq
     exact r.inj o o' h1 pw heq
  ·rcases lv t ⟨n,hn⟩with ⟨i,hi,hl⟩ | ⟨hp,hl,oG⟩
   ·rw [mt i t hi, ← mG]
    exact r'.tok i n (by rw[← (ft i t hi).2.1];exact hn)
   ·obtain⟨_,_,h3⟩:=ut t (zai.1 hn).1 hp
    rw[h3]at hn
    rw[Ij t hp]
    rcases r.tok t n hn with h4|⟨b,cap,size,vs,T,g1,g2,g3,g4,g5⟩
    ·exact .inl h4
    ·obtain⟨k1,k2⟩:=aeo t b cap size hl oG g1
     exact .inr ⟨b,cap,size,vs,T,g1,by rw[k1];exact g2,g3,g4,fun off ho=>by rw[← mG,k2 off];exact g5.1 off ho,g5.2⟩
  ·rcases lv t hl with ⟨i,hi,jP⟩ | ⟨hp,jP,oG⟩
   ·rw [mt i t hi]at hb
    cases Ik:posOf lF o with
    |some j=>
     have hj:=iO Ik
     rw[mo j o hj]
     exact r'.eP i b c z j jP hb (fo j o hj).2.2.1
    |none=>
     obtain⟨h1,h2,_⟩:=uo o hC Ik
     rw[Ii o Ik]
     rcases XO i t b c z hi jP hb with ⟨h3,_,c',z',h4⟩|h3
     ·exact r.eP t b c' z' o h3 h4 h1
     ·have:=r.pT h1;omega
   ·rw [Ij t hp]at hb
    cases Ik:posOf lF o with
    |some j=>
     have hj:=iO Ik
     rw[mo j o hj]
     rcases XN j o hj with ⟨h3,_,h5⟩|h3
     ·rw[h5];exact r.eP t b c z o jP hb h3
     ·have:=r.rT jP hb;omega
    |none=>
     obtain⟨h1,_,_⟩:=uo o hC Ik
     rw[Ii o Ik];exact r.eP t b c z o jP hb h1
  ·rcases lv t hl with ⟨i,hi,yW⟩ | ⟨hp,hC,oG⟩
   ·rw [mt i t hi]at hb
    rcases lv t' jP with ⟨i',ib,Ut⟩|⟨mI,yU,XP⟩
    ·rw [mt i' t' ib]at ld
     have:=r'.fM i i' b c z c' z' yW Ut hb ld
     subst this
     rw[hi]at ib;cases ib;rfl
    ·rw [Ij t' mI]at ld
     rcases XO i t b c z hi yW hb with ⟨h3,h4,c2,z2,h5⟩|h3
     ·have:=r.fM t t' b c2 z2 c' z' h3 yU h5 ld
      subst this;exact(XP h4).elim
     ·have:=r.rT yU ld;omega
   ·rw [Ij t hp]at hb
    rcases lv t' jP with ⟨i',ib,Ut⟩|⟨mI,yU,XP⟩
    ·rw [mt i' t' ib]at ld
     rcases XO i' t' b c' z' ib Ut ld with ⟨h3,h4,c2,z2,h5⟩|h3
     ·have:=r.fM t t' b c z c2 z2 hC h3 hb h5
      subst this;exact(oG h4).elim
     ·have:=r.rT hC hb;omega
    ·rw [Ij t' mI]at ld
     exact r.fM t t' b c z c' z' hC yU hb ld
end Go.Abs
namespace Go.Abs
def Wk (d d':D):Prop:=∀ (M:Map) (s:St) (v:Value),RD M s d v→RD M s d' v
inductive mC:List D→List D→Prop where
 |nil:mC [] []
 |cons {d d':D} {l l':List D} (h:Wk d d') (t:mC l l'):mC (d::l) (d'::l')
inductive iE:List (List D)→List (List D)→Prop where
 |nil:iE [] []
 |cons {r r':List D} {l l':List (List D)} (h:mC r r') (t:iE l l'):iE (r::l) (r'::l')
theorem Wk.refl (d:D):Wk d d:=fun _ _ _ h=>h
theorem Wk.trans {a b c:D} (h:Wk a b) (k:Wk b c):Wk a c:=fun M s v r=>k M s v (h M s v r)
theorem Wk.junk (d:D):Wk d .junk:=fun _ _ v _=> .junk v
theorem mC.refl : ∀ l,mC l l
 | []=> .nil
 |d::l=> .cons (Wk.refl d) (mC.refl l)
theorem iE.refl : ∀ l,iE l l
 | []=> .nil
 |d::l=> .cons (mC.refl d) (iE.refl l)
theorem mC.len {l l':List D} (h:mC l l'):l.length=l'.length:=by
 induction h with
 |nil=>rfl
 |cons _ _ ih=>simp[ih]
theorem iE.len {l l':List (List D)} (h:iE l l'):l.length=l'.length:=by
 induction h with
 |nil=>rfl
 |cons _ _ ih=>simp[ih]
theorem mC.get {l l':List D} (h:mC l l') : ∀ {i:Nat} {d':D},l'[i]? = some d'→∃ d,l[i]? = some d∧Wk d d':=by
 induction h with
 |nil=>intro i d' e;simp at e
 |cons hd _ ih=>
  intro i d' e
  cases i with
  |zero=>simp at e;subst e;exact⟨_,rfl,hd⟩
  |succ i=>simp at e;simpa using ih e
theorem iE.get {l l':List (List D)} (h:iE l l') : ∀ {i:Nat} {d':List D},l'[i]? = some d'→∃ d,l[i]? = some d∧mC d d':=by
 induction h with
 |nil=>intro i d' e;simp at e
 |cons hd _ ih=>
  intro i d' e
  cases i with
  |zero=>simp at e;subst e;exact⟨_,rfl,hd⟩
  |succ i=>simp at e;simpa using ih e
theorem iE.append {a a' b b':List (List D)} (h:iE a a') (k:iE b b'):iE (a++b) (a'++b'):=by
 induction h with
 |nil=>exact k
 |cons hd _ ih=>exact .cons hd ih
theorem Wk.agg {l l':List D} (h:mC l l'):Wk (.agg l) (.agg l'):=by
 intro M s v r
 cases r with
 |agg _ vs hl h1 hr=>
  refine .agg _ vs (by rw[← hl,h.len]) h1 fun i d' u e e2=>?_
  obtain⟨d,e1,hw⟩:=h.get e
  exact hw M s u (hr i d u e1 e2)
theorem Wk.tuple {l l':List D} (h:mC l l'):Wk (.tuple l) (.tuple l'):=by
 intro M s v r
 cases r with
 |tuple _ vs hl hr=>
  refine .tuple _ vs (by rw[← hl,h.len]) fun i d' u e e2=>?_
  obtain⟨d,e1,hw⟩:=h.get e
  exact hw M s u (hr i d u e1 e2)
theorem Wk.rows {g:Tag} {z:Nat} {l l':List (List D)} (h:iE l l'):Wk (.slice g z l) (.slice g z l'):=by
 intro M s v r
 cases r with
 |jX _ _ cap hc ht=>cases h;exact .jX _ _ _ hc ht
 |nX _ a cap=>cases h;exact .nX _ a cap
 | slice _ _ _ b k cap hl hs h1 h2 ht=>
  rw[h.len]
  refine .slice g z l' b k cap (by rw[← h.len];exact hl) (fun row hm=>?_) (fun i row j d e e2=>?_) (fun i row j d u e e2 eu=>?_) (by rw[← h.len];exact ht)
  ·obtain⟨i,hi,he⟩:=List.mem_iff_getElem.1 hm
   obtain⟨r0,g1,g2⟩:=h.get (i:=i) (by rw[zap hi,he])
   rw[← g2.len];exact hs r0 (zae g1)
  ·obtain⟨r0,g1,g2⟩:=h.get e
   obtain⟨d0,g3,_⟩:=g2.get e2
   exact h1 i r0 j d0 g1 g3
  ·obtain⟨r0,g1,g2⟩:=h.get e
   obtain⟨d0,g3,g4⟩:=g2.get e2
   exact g4 M s u (h2 i r0 j d0 u g1 g3 eu)
theorem Wk.shared (g:Tag) (z:Nat) (l:List (List D)):Wk (.slice g z l) (.slice .shared z l):=by
 intro M s v r
 cases r with
 |jX _ _ cap hc ht=>exact .jX _ _ _ hc trivial
 |nX _ a cap=>exact .nX _ a cap
 |slice _ _ _ b k cap hl hs h1 h2 ht=>exact .slice _ _ _ b k cap hl hs h1 h2 trivial
theorem Wk.slice {g:Tag} {z:Nat} {l l':List (List D)} (h:iE l l'):Wk (.slice g z l) (.slice .shared z l'):=(Wk.shared g z l).trans (Wk.rows h)
theorem Wk.nil (g:Tag) (z z':Nat):Wk (.slice g z []) (.slice .shared z' []):=by
 intro M s v r
 cases r with
 |jX _ _ cap hc ht=>exact .jX _ _ _ hc trivial
 |nX _ a cap=>exact .nX _ a cap
 |slice _ _ _ b k cap hl hs h1 h2 ht=>exact .slice _ _ [] b k cap hl (by simp) (by simp) (by simp) trivial
theorem Wk.ahi (z z':Nat):Wk (.slice .full z []) (.slice .full z' []):=by
 intro M s v r
 cases r with
 |jX _ _ cap hc ht=>exact .jX _ _ _ hc ht
 |slice _ _ _ b k cap hl hs h1 h2 ht=>exact .slice _ _ [] b k cap hl (by simp) (by simp) (by simp) ht
theorem Rel.zT {M:Map} {s:St} {w:World} {aw:List (List D)} (r:Rel M s w) (h:iE s.aw aw):Rel M ⟨aw,s.aE⟩ w∧Le M s M ⟨aw,s.aE⟩:=by
 have le:Le M s M ⟨aw,s.aE⟩:=⟨fun _ _ _ h=>h,Nat.le_of_eq h.len,fun _ _=> .refl _,zaj _,fun t n' _ e=>⟨n',e,zaj _,fun _=>rfl⟩⟩
 have hl:=h.len
 refine⟨⟨r.comm,fun o ds e=>?_,fun o ho=>r.jY o (by rw[hl];exact ho),fun o o' ho my=>r.inj o o' (by rw[hl];exact ho) (by rw[hl];exact my),r.tok,
  fun t b c z o hv e ho=>r.eP t b c z o hv e (by rw[hl];exact ho),r.fM⟩,le⟩
 obtain⟨ds0,g1,g2⟩:=h.get e
 obtain⟨vs,T,h1,h2,h3,h4⟩:=r.obj o ds0 g1
 refine⟨vs,T,h1,by rw[h2,g2.len],h3,fun i d v e1 e2=>?_⟩
 obtain⟨d0,k1,k2⟩:=g2.get e1
 exact(k2 _ _ _ (h4 i d0 v k1 e2)).mono le
theorem Rel.blank {M:Map} {s:St} {w:World} (r:Rel M s w) :
 Rel (M.eG s.aE.length none) {s with aE:=s.aE++ [some 0]} w∧Le M s (M.eG s.aE.length none) {s with aE:=s.aE++ [some 0]}:=by
 have ix : ∀ t,St.live {s with aE:=s.aE++ [some 0]} t→s.live t∨t=s.aE.length:=by
  rintro t ⟨k,hk⟩
  rcases zaF t s.aE.length with h|h
  ·rw[zar h]at hk;exact .inl ⟨k,hk⟩
  ·have:=(zai.1 hk).1
   simp at this;exact .inr (by omega)
 have hC : ∀ t,s.live t→t<s.aE.length:=fun t ⟨k,hk⟩=>(zai.1 hk).1
 have hold : ∀ t,t<s.aE.length→(M.eG s.aE.length none).be t=M.be t:=fun t h=>by simp[Map.eG];omega
 have dK:(M.eG s.aE.length none).be s.aE.length=none:=by simp[Map.eG]
 have le:Le M s (M.eG s.aE.length none) {s with aE:=s.aE++ [some 0]}:=
  ⟨fun _ _ _ h=>h,zaj _,fun _ _=> .refl _,by simp,fun t k h e=>by
   rw[zar h]at e
   exact⟨k,e,zaj _,fun _=>hold t h⟩⟩
 refine⟨⟨r.comm,fun o ds e=>?_,r.jY,r.inj,fun t k e=>?_,fun t b' c z o hl e my=>?_,fun t t' b' c z c' z' h h' e e'=>?_⟩,le⟩
 ·obtain⟨fe,T',h3,h4,h5,h6⟩:=r.obj o ds e
  exact⟨fe,T',h3,h4,h5,fun i d v e1 e2=>(h6 i d v e1 e2).mono le⟩
 ·rcases zaF t s.aE.length with h | h
  ·rw [zar h]at e
   rw[hold t h];exact r.tok t k e
  ·have:=(zai.1 e).1
   simp at this
   have:t=s.aE.length:=by omega
   subst this
   simp at e;subst e
   exact .inl ⟨dK,rfl⟩
 ·rcases ix t hl with h | h
  ·rw[hold t (hC t h)]at e;exact r.eP t b' c z o h e my
  ·subst h;rw[dK]at e;cases e
 ·rcases ix t h with h | h <;> rcases ix t' h' with h' | h'
  ·rw[hold t (hC t h)]at e;rw[hold t' (hC t' h')]at e';exact r.fM t t' b' c z c' z' h h' e e'
  ·subst h';rw[dK]at e';cases e'
  ·subst h;rw[dK]at e;cases e
  ·omega
theorem RD.own {M:Map} {s:St} {z z':Nat} {v:Value} (h:RD M s (.slice .full z []) v):RD (M.eG s.aE.length none) {s with aE:=s.aE++ [some 0]} (.slice (.tok s.aE.length) z' []) v:=by
 have key : ∀ base:Option (Nat×Nat),iM (M.eG s.aE.length none) {s with aE:=s.aE++ [some 0]} (.tok s.aE.length) z' 0 base 0:=by
  intro base
  refine⟨by simp,fun n e=>?_⟩
  simp at e
  subst e
  exact⟨zaj _,fun _=> .inl ⟨by simp[Map.eG],rfl,fun h=>by cases h⟩⟩
 cases h with
 |jX _ _ cap hc ht=>subst hc;exact .jX _ _ _ rfl (key none)
 |slice _ _ _ b k cap hl hs h1 h2 ht=>
  have:cap=0:=ht
  subst this
  exact .slice _ _ [] b k 0 (zaj _) (by simp) (by simp) (by simp) (key _)
section
variable {P:Program} {B:eQ} {nt:Nat} {Q:Exit→Tm→St→Prop} {tm:Tm} {s:St}
theorem zU {M0 M:Map} {s0 s:St} {w0 w:World} (e:Ext M0 s0 w0 M s w) (le:Le M s (M.eG s.aE.length none) {s with aE:=s.aE++ [some 0]}) :
 Ext M0 s0 w0 (M.eG s.aE.length none) {s with aE:=s.aE++ [some 0]} w:=by
 refine e.trans ⟨le,fun _ _ _ _=>rfl,fun o h1 h2=>h1.elim (fun h1=>absurd h2 (Nat.not_lt.2 h1)) (fun h1=>(h1 rfl).elim),fun t b c z hl eq=>?_,fun _ _ h=>(h rfl).elim,zaj _,rfl,rfl,rfl⟩
 obtain⟨k,hk⟩:=hl
 rcases zaF t s.aE.length with h|h
 ·refine .inl ⟨⟨k,by rw [zar h]at hk;exact hk⟩,c,z, ?_⟩
  have:(M.eG s.aE.length none).be t=M.be t:=by simp[Map.eG];omega
  rw[← this];exact eq
 ·have:=(zai.1 hk).1
  simp at this
  have:t=s.aE.length:=by omega
  subst this
  simp[Map.eG]at eq
theorem Sem.gY {ac:AC} (t z':Nat) {z:Nat} (hw:tm.get t = .slice .full z []) (h:Sem P B nt ac Q (tm.set t (.slice (.tok s.aE.length) z' [])) {s with aE:=s.aE++ [some 0]}):Sem P B nt ac Q tm s:=by
 intro c hc act w ⟨M,e,r,ht,h1,h2⟩
 obtain⟨r',le⟩:=r.blank
 refine h c hc act w ⟨_,zU e le,r',fun k=>?_,h1,h2⟩
 rw[Tm.A0]
 split
 ·rename_i hk;subst hk;have:=ht k;rw[hw]at this;exact this.own
 ·exact(ht k).mono le
end
def aC (P:Program) (f:Nat) (args:List D) (s:St) (d:D) (s':St):Prop:=dG P f args s fun x y=>x=d∧y=s'
def gZ (n m:Nat) (res:List (Nat×Option (Bool×Nat))) (d:D) (s':St):Exit→Tm→St→Prop
 | .normal,tm,s| .ret,tm,s=>∃ l,bp res tm s=some l∧Wk ((bq l).fg n m) d∧iE (s.cut n m).aw s'.aw∧(s.cut n m).aE=s'.aE
 |_,_,_=>False
theorem dG.zT {P:Program} {f:FuncId} {args lT:List D} {s:St} {Q:D→St→Prop} (ha:mC args lT) (h:dG P f lT s Q):dG P f args s Q:=
 fun M w fJ r kp hl hr=>h M w fJ r kp (by rw[hl,ha.len]) fun i d v e1 e2=>by
  obtain⟨d0,g1,g2⟩:=ha.get e1
  exact g2 _ _ _ (hr i d0 v g1 e2)
theorem dG.XQ {P:Program} {f:FuncId} {args:List D} {s:St} {Q Q':D→St→Prop} (h:dG P f args s Q) (hq : ∀ d s1,Q d s1→∃ d' s',Wk d d'∧iE s1.aw s'.aw∧s1.aE=s'.aE∧Q' d' s'):dG P f args s Q':=
 fun M w fJ r kp hl ha=>(h M w fJ r kp hl ha).mono fun _ _ ⟨M',d,v,s1,h1,h2,h3,h4,h5⟩=>by
  obtain⟨d',s',g1,g2,g3,g4⟩:=hq d s1 h2
  obtain⟨r',le⟩:=h4.zT g2
  have hs:(⟨s'.aw,s1.aE⟩:St)=s':=by rw[g3]
  rw[hs]at r' le
  refine⟨M',d',v,s',h1,g4,h3.trans ⟨le,fun _ _ _ _=>rfl,fun o h1 h2=>?_,fun t b c z hl e=> .inl ⟨by obtain⟨n,hn⟩:=hl;exact⟨n,by rw[g3];exact hn⟩,c,z,e⟩,fun _ _ h=>(h rfl).elim,zaj _,rfl,rfl,rfl⟩,r',(g1 _ _ _ h5).mono le⟩
  rw[← g2.len]at h2
  exact h1.elim (fun h1=>absurd h2 (Nat.not_lt.2 h1)) fun h1=>(h1 rfl).elim
theorem aC.intro {P:Program} {f:FuncId} {af:AF} {args:List D} {s:St} {d:D} {s':St} (h0 : ∃ fn,P.funcs[f]? = some fn∧cF P fn=some af) (hl:args.length≤af.ntmps)
 (h : ∀ B:eQ,B.s=s→Sem P B af.ntmps af.body (gZ s.aw.length s.aE.length af.results d s') (ny 0 args) s):aC P f args s d s':=by
 obtain⟨fn,hf,hc⟩:=h0
 refine dG.XQ (dG.intro (Q:=fun d1 s1=>Wk d1 d∧iE s1.aw s'.aw∧s1.aE=s'.aE) hf hc hl fun B hB=>(h B hB).mono fun e tm s1 hr=>?_) fun d1 s1 ⟨h1,h2,h3⟩=>⟨d,s',h1,h2,h3,rfl,rfl⟩
 subst hB
 cases e with
 |normal=>obtain⟨l,h1,h2,h3,h4⟩:=hr;exact⟨l,h1,_,_,zaj _,zaj _,h2,h3,h4⟩
 |ret=>obtain⟨l,h1,h2,h3,h4⟩:=hr;exact⟨l,h1,_,_,zaj _,zaj _,h2,h3,h4⟩
 |exit id=>exact hr.elim
 |goto l=>exact hr.elim
 |panic ch=>exact hr.elim
 |outgrown=>exact hr.elim
theorem aC.use {P:Program} {f:FuncId} {args:List D} {s:St} {d:D} {s':St} {Q:D→St→Prop} (h:aC P f args s d s') (hq:Q d s'):dG P f args s Q:=
 dG.mono h fun x y ⟨h1,h2⟩=>by subst h1;subst h2;exact hq
mutual
theorem rH (os ts:List Nat) : ∀ d,D.ok 0 0 d=true→D.dv os ts d=d
 | .junk,_=>by simp[D.dv]
 | .int k n,_=>by simp[D.dv]
 | .bool b,_=>by simp[D.dv]
 | .str l,_=>by simp[D.dv]
 | .fx,_=>by simp[D.dv]
 | .val v,_=>by simp[D.dv]
 | .fC T o,h=>by simp[D.ok]at h
 | .gH o,h=>by simp[D.ok]at h
 | .jD z o g len,h=>by simp[D.ok]at h
 | .iT o g off,h=>by simp[D.ok]at h
 | .jK z,_=>by simp[D.dv]
 | .gK f cs,h=>by
  simp only[D.ok]at h
  simp only[D.dv,fc os ts cs h]
 | .ptr o f,h=>by simp[D.ok]at h
 | .dJ r f,h=>by
  simp only[D.ok]at h
  simp only[D.dv,fc os ts r h]
 | .slice g z rows,h=>by
  simp only[D.ok,zaq]at h
  simp only[D.dv,jx os ts rows h.2]
  cases g with
  |tok t y=>simp[Tag.ok]at h
  |full=>rfl
  |shared=>rfl
 | .agg cs,h=>by
  simp only[D.ok]at h
  simp only[D.dv,fc os ts cs h]
 | .tuple cs,h=>by
  simp only[D.ok]at h
  simp only[D.dv,fc os ts cs h]
theorem fc (os ts:List Nat) : ∀ l,D.bP 0 0 l=true→D.gf os ts l=l
 | [],_=>by simp[D.gf]
 |d::r,h=>by
  simp only[D.bP,zaq]at h
  simp only[D.gf,rH os ts d h.1,fc os ts r h.2]
theorem jx (os ts:List Nat) : ∀ l,D.jw 0 0 l=true→D.s3 os ts l=l
 | [],_=>by simp[D.s3]
 |d::r,h=>by
  simp only[D.jw,zaq]at h
  simp only[D.s3,fc os ts d h.1,jx os ts r h.2]
end
mutual
theorem EA {n m n' m':Nat} (hn:n≤n') (hm:m≤m') : ∀ d,D.ok n m d=true→D.ok n' m' d=true
 | .junk,_=>rfl
 | .int k n,_=>rfl
 | .bool b,_=>rfl
 | .str l,_=>rfl
 | .fx,_=>rfl
 | .val v,_=>rfl
 | .fC T o,h=>by simp[D.ok]at h ⊢;omega
 | .gH o,h=>by simp[D.ok]at h ⊢;omega
 | .jD z o g len,h=>by simp[D.ok]at h ⊢;omega
 | .iT o g off,h=>by simp[D.ok]at h ⊢;omega
 | .jK z,_=>rfl
 | .gK f cs,h=>by
  simp only[D.ok]at h ⊢
  exact ik hn hm cs h
 | .ptr o f,h=>by simp only[D.ok,decide_eq_true_eq]at h ⊢;omega
 | .dJ r f,h=>by
  simp only[D.ok]at h ⊢
  exact ik hn hm r h
 | .slice g z rows,h=>by
  simp only[D.ok,zaq]at h ⊢
  refine⟨?_,nz hn hm rows h.2⟩
  cases g with
  |tok t y=>simp only[Tag.ok,decide_eq_true_eq]at h ⊢;omega
  |full=>rfl
  |shared=>rfl
 | .agg cs,h=>by
  simp only[D.ok]at h ⊢
  exact ik hn hm cs h
 | .tuple cs,h=>by
  simp only[D.ok]at h ⊢
  exact ik hn hm cs h
theorem ik {n m n' m':Nat} (hn:n≤n') (hm:m≤m') : ∀ l,D.bP n m l=true→D.bP n' m' l=true
 | [],_=>rfl
 |d::r,h=>by
  simp only[D.bP,zaq]at h ⊢
  exact⟨EA hn hm d h.1,ik hn hm r h.2⟩
theorem nz {n m n' m':Nat} (hn:n≤n') (hm:m≤m') : ∀ l,D.jw n m l=true→D.jw n' m' l=true
 | [],_=>rfl
 |d::r,h=>by
  simp only[D.jw,zaq]at h ⊢
  exact⟨ik hn hm d h.1,nz hn hm r h.2⟩
end
def S0:St:=⟨[],[]⟩
section
variable {P:Program} {f:Nat}
theorem aC.pure {args:List D} {d:D} (h:aC P f args S0 d S0) (ha:D.bP 0 0 args=true) (hd:D.ok 0 0 d=true) (s:St):aC P f args s d s:=by
 refine dG.frame [] [] h List.nodup_nil List.nodup_nil (by simp) (by simp) rfl (by simp) rfl (by simp) (by rw[fc _ _ _ ha]) ha ?_
 rintro _ _ ⟨rfl,rfl⟩
 refine⟨rH _ _ _ hd, ?_⟩
 simp[St.back,kA,S0]
theorem aC.fy {args row kJ:List D} {d:D} (h:aC P f (.ptr 0 0::args) ⟨[row],[]⟩ d ⟨[kJ],[]⟩) (ha:D.bP 0 0 args=true) (hr:D.bP 0 0 row=true) (vj:D.bP 0 0 kJ=true) (hd:D.ok 0 0 d=true)
 {s:St} {o:Nat} (ho:s.aw[o]? = some row):aC P f (.ptr o 0::args) s d ⟨s.aw.set o kJ,s.aE⟩:=by
 refine dG.frame [o] [] h (by simp) List.nodup_nil (by simpa using (zai.1 ho).1) (by simp) rfl (fun i o' ds e1 e2=>?_) rfl (by simp) (by simp[D.gf,D.dv,fc _ _ _ ha])
  (by simp[D.bP,D.ok,ik (zau 1) (zaj 0) _ ha]) ?_
 ·cases i with
  |zero=>simp at e1 e2;subst e1;subst e2;exact⟨by rw[fc _ _ _ hr];exact ho,ik (zau 1) (zaj 0) _ hr⟩
  |succ i=>simp at e1
 ·rintro _ _ ⟨rfl,rfl⟩
  refine⟨rH _ _ _ hd, ?_⟩
  simp[St.back,kA,fc _ _ _ vj]
end
end Go.Abs
namespace Go.Abs
theorem X.cm {x:X} {tm cb:Tm} (h : ∀ t∈x.reads,tm.get t=cb.get t):x.ev tm=x.ev cb:=by
 cases x with
 |s t=>exact h t (by simp[X.reads])
 |k d=>rfl
theorem qJ {t:Nat} {x:X} : ∀ {l:List X},x∈l→t∈x.reads→t∈nH l
 | [],h,_=>by cases h
 |y::r,h,ht=>by
  simp only[nH,zaB]
  rcases zaw.1 h with rfl|h
  ·exact .inl ht
  ·exact .inr (qJ h ht)
theorem vo {x:Option X} {tm cb:Tm} (h : ∀ t∈zw x,tm.get t=cb.get t):x.map (·.ev tm)=x.map (·.ev cb):=by
 cases x with
 |none=>rfl
 |some y=>simp only[zbx];rw[X.cm h]
theorem BH {o:AO} {tm cb:Tm} {s:St} (h : ∀ t∈o.reads,tm.get t=cb.get t):a6 o tm s=a6 o cb s:=by
 cases o with
 |mv x=>
  have hx:x.ev tm=x.ev cb:=X.cm fun t ht=>h t (by simp[AO.reads,ht])
  simp only[a6,hx]
 |pick c a b=>
  have hc:c.ev tm=c.ev cb:=X.cm fun t ht=>h t (by simp[AO.reads,ht])
  have ha:a.ev tm=a.ev cb:=X.cm fun t ht=>h t (by simp[AO.reads,ht])
  have hb:b.ev tm=b.ev cb:=X.cm fun t ht=>h t (by simp[AO.reads,ht])
  simp only[a6,hc,ha,hb]
 |alloc z=>
  rfl
 |sg z T=>rfl
 |zr x T=>
  have hx:x.ev tm=x.ev cb:=X.cm fun t ht=>h t (by simp[AO.reads,ht])
  simp only[a6,hx]
 |zt x y=>
  have hx:x.ev tm=x.ev cb:=X.cm fun t ht=>h t (by simp[AO.reads,ht])
  have hy:y.ev tm=y.ev cb:=X.cm fun t ht=>h t (by simp[AO.reads,ht])
  simp only[a6,hx,hy]
 |apps x y=>
  have hx:x.ev tm=x.ev cb:=X.cm fun t ht=>h t (by simp[AO.reads,ht])
  have hy:y.ev tm=y.ev cb:=X.cm fun t ht=>h t (by simp[AO.reads,ht])
  simp only[a6,hx,hy]
 |box x=>
  have hx:x.ev tm=x.ev cb:=X.cm fun t ht=>h t (by simp[AO.reads,ht])
  simp only[a6,hx]
 |zp x=>
  have hx:x.ev tm=x.ev cb:=X.cm fun t ht=>h t (by simp[AO.reads,ht])
  simp only[a6,hx]
 |load x g n=>
  have hx:x.ev tm=x.ev cb:=X.cm fun t ht=>h t (by simp[AO.reads,ht])
  simp only[a6,hx]
 |store p x n=>
  have hp:p.ev tm=p.ev cb:=X.cm fun t ht=>h t (by simp[AO.reads,ht])
  have hx:x.ev tm=x.ev cb:=X.cm fun t ht=>h t (by simp[AO.reads,ht])
  simp only[a6,hp,hx]
 |CI x=>
  have hx:x.ev tm=x.ev cb:=X.cm fun t ht=>h t (by simp[AO.reads,ht])
  simp only[a6,hx]
 |bin op x y=>
  have hx:x.ev tm=x.ev cb:=X.cm fun t ht=>h t (by simp[AO.reads,ht])
  have hy:y.ev tm=y.ev cb:=X.cm fun t ht=>h t (by simp[AO.reads,ht])
  simp only[a6,hx,hy]
 |HJ n x y=>
  have hx:x.ev tm=x.ev cb:=X.cm fun t ht=>h t (by simp[AO.reads,ht])
  have hy:y.ev tm=y.ev cb:=X.cm fun t ht=>h t (by simp[AO.reads,ht])
  simp only[a6,hx,hy]
 |eqs n ks x y=>
  have hx:x.ev tm=x.ev cb:=X.cm fun t ht=>h t (by simp[AO.reads,ht])
  have hy:y.ev tm=y.ev cb:=X.cm fun t ht=>h t (by simp[AO.reads,ht])
  simp only[a6,hx,hy]
 |HK n x y=>
  have hx:x.ev tm=x.ev cb:=X.cm fun t ht=>h t (by simp[AO.reads,ht])
  have hy:y.ev tm=y.ev cb:=X.cm fun t ht=>h t (by simp[AO.reads,ht])
  simp only[a6,hx,hy]
 |un op x=>
  have hx:x.ev tm=x.ev cb:=X.cm fun t ht=>h t (by simp[AO.reads,ht])
  simp only[a6,hx]
 |conv k x=>
  have hx:x.ev tm=x.ev cb:=X.cm fun t ht=>h t (by simp[AO.reads,ht])
  simp only[a6,hx]
 |CJ x=>
  have hx:x.ev tm=x.ev cb:=X.cm fun t ht=>h t (by simp[AO.reads,ht])
  simp only[a6,hx]
 |wO x=>
  have hx:x.ev tm=x.ev cb:=X.cm fun t ht=>h t (by simp[AO.reads,ht])
  simp only[a6,hx]
 |CK x n=>
  have hx:x.ev tm=x.ev cb:=X.cm fun t ht=>h t (by simp[AO.reads,ht])
  simp only[a6,hx]
 |Qi x n g m=>
  have hx:x.ev tm=x.ev cb:=X.cm fun t ht=>h t (by simp[AO.reads,ht])
  simp only[a6,hx]
 |CM x i n=>
  have hx:x.ev tm=x.ev cb:=X.cm fun t ht=>h t (by simp[AO.reads,ht])
  have hi:i.ev tm=i.ev cb:=X.cm fun t ht=>h t (by simp[AO.reads,ht])
  simp only[a6,hx,hi]
 |HM x i=>
  have hx:x.ev tm=x.ev cb:=X.cm fun t ht=>h t (by simp[AO.reads,ht])
  have hi:i.ev tm=i.ev cb:=X.cm fun t ht=>h t (by simp[AO.reads,ht])
  simp only[a6,hx,hi]
 |ext x i=>
  have hx:x.ev tm=x.ev cb:=X.cm fun t ht=>h t (by simp[AO.reads,ht])
  simp only[a6,hx]
 |len x=>
  have hx:x.ev tm=x.ev cb:=X.cm fun t ht=>h t (by simp[AO.reads,ht])
  simp only[a6,hx]
 |Ep x=>
  have hx:x.ev tm=x.ev cb:=X.cm fun t ht=>h t (by simp[AO.reads,ht])
  simp only[a6,hx]
 |app a b x y=>
  have hx:x.ev tm=x.ev cb:=X.cm fun t ht=>h t (by simp[AO.reads,ht])
  have hy:y.ev tm=y.ev cb:=X.cm fun t ht=>h t (by simp[AO.reads,ht])
  simp only[a6,hx,hy]
 |mm b x y=>
  have hx:x.ev tm=x.ev cb:=X.cm fun t ht=>h t (by simp[AO.reads,ht])
  have hy:y.ev tm=y.ev cb:=X.cm fun t ht=>h t (by simp[AO.reads,ht])
  simp only[a6,hx,hy]
 | build z ps=>
  have hp:(ps.map fun p=>(p.1,p.2.1,p.2.2.ev tm))=ps.map fun p=>(p.1,p.2.1,p.2.2.ev cb):=List.map_congr_left fun p hp=>by
   have:p.2.2.ev tm=p.2.2.ev cb:=X.cm fun t ht=>h t (by simp only[AO.reads];exact qJ (zaT hp) ht)
   rw[this]
  simp only[a6,hp]
 | om z m n ps=>
  have hp:(ps.map fun p=>(p.1,p.2.ev tm))=ps.map fun p=>(p.1,p.2.ev cb):=List.map_congr_left fun p hp=>by
   have:p.2.ev tm=p.2.ev cb:=X.cm fun t ht=>h t (by simp only[AO.reads];exact qJ (zaT hp) ht)
   rw[this]
  simp only[a6,hp]
 | ud z m n ps=>
  have hp:(ps.map fun p=>(p.1,p.2.ev tm))=ps.map fun p=>(p.1,p.2.ev cb):=List.map_congr_left fun p hp=>by
   have:p.2.ev tm=p.2.ev cb:=X.cm fun t ht=>h t (by simp only[AO.reads];exact qJ (zaT hp) ht)
   rw[this]
  simp only[a6,hp]
 |Qh n x lo hi=>
  have hx:x.ev tm=x.ev cb:=X.cm fun t ht=>h t (by simp[AO.reads,ht])
  have hl:lo.map (·.ev tm)=lo.map (·.ev cb):=vo fun t ht=>h t (by simp[AO.reads,ht])
  have hh:hi.map (·.ev tm)=hi.map (·.ev cb):=vo fun t ht=>h t (by simp[AO.reads,ht])
  simp only[a6,hx,hl,hh]
 |HL x lo hi=>
  have hx:x.ev tm=x.ev cb:=X.cm fun t ht=>h t (by simp[AO.reads,ht])
  have hl:lo.map (·.ev tm)=lo.map (·.ev cb):=vo fun t ht=>h t (by simp[AO.reads,ht])
  have hh:hi.map (·.ev tm)=hi.map (·.ev cb):=vo fun t ht=>h t (by simp[AO.reads,ht])
  simp only[a6,hx,hl,hh]
 |AV f xs=>
  have hp:(xs.map fun x=>x.ev tm)=xs.map fun x=>x.ev cb:=List.map_congr_left fun x hx=>X.cm fun t ht=>h t (by simp only[AO.reads];exact qJ hx ht)
  simp only[a6,hp]
 |vb=>rfl
 |zu m k v=>
  have hm:m.ev tm=m.ev cb:=X.cm fun t ht=>h t (by simp[AO.reads,ht])
  have hk:k.ev tm=k.ev cb:=X.cm fun t ht=>h t (by simp[AO.reads,ht])
  have hv:v.ev tm=v.ev cb:=X.cm fun t ht=>h t (by simp[AO.reads,ht])
  simp only[a6,hm,hk,hv]
 |zv a b z l c=>
  have hl:l.ev tm=l.ev cb:=X.cm fun t ht=>h t (by simp[AO.reads,ht])
  have hk:c.ev tm=c.ev cb:=X.cm fun t ht=>h t (by simp[AO.reads,ht])
  simp only[a6,hl,hk]
 |sh o x y=>
  have hx:x.ev tm=x.ev cb:=X.cm fun t ht=>h t (by simp[AO.reads,ht])
  have hy:y.ev tm=y.ev cb:=X.cm fun t ht=>h t (by simp[AO.reads,ht])
  simp only[a6,hx,hy]
 |x4 m k z=>
  have hm:m.ev tm=m.ev cb:=X.cm fun t ht=>h t (by simp[AO.reads,ht])
  have hk:k.ev tm=k.ev cb:=X.cm fun t ht=>h t (by simp[AO.reads,ht])
  simp only[a6,hm,hk]
theorem Ko {x d:D} {agg:Bool} {size:Nat} {s s':St} (h:AW x agg size s=some (d,s')):s'=s:=by
 unfold AW at h
 (repeat' (split at h))<;>first|(cases h;rfl)|cases h
theorem Kp {o:AO} (ho:gn o.kind=false) {tm:Tm} {s s':St} {d:D} (h:a6 o tm s=some (d,s')):s'=s:=by
 cases o<;>simp only[AO.kind,gn]at ho<;>first|cases ho|skip
 all_goals
  simp only[a6]at h
  first
   |(cases h;rfl)
   |(repeat' (split at h))<;>first|exact Ko h|(cases h;rfl)|cases h
theorem Ns {o:AO} (ho:o.kind = .pure) {tm:Tm} {s s':St} : (a6 o tm s).map (·.1)=(a6 o tm s').map (·.1):=by
 cases o<;>simp only[AO.kind]at ho<;>first|cases ho|skip
 all_goals
  simp only[a6]
  first
   |rfl
   |(repeat' split)<;>rfl
def jG (ai:AI) (tm:Tm) (s:St):Option D:=
 match ai with
 | .op _ none o=>(a6 o tm s).map (·.1)
 | .op _ (some (t,want)) o=>
  match tm.get t with
  | .bool b=>if b=want then(a6 o tm s).map (·.1)else some (.tuple [])
  | .tuple _=>some (.tuple [])
  |_=>none
 |_=>none
def rY (P:Program) (ai:AI) (tm:Tm) (s:St) (d:D) (s':St):Prop:=
 match ai with
 | .op _ g o=>guarded g tm (a6 o tm s=some (d,s')) (d = .tuple []∧s'=s)
 | .call _ g f xs=>guarded g tm (dG P f (xs.map (·.ev tm)) s fun x y=>x=d∧y=s') (d = .tuple []∧s'=s)
 | .nil .. =>False
 | .jT .. =>False
def kK (P:Program) (is:List AI) (K:Tm→St→Prop):List (Nat×Nat)→List St→Tm→St→Prop
 | [],_,tm,s=>K tm s
 | (q,b)::r,bU,tm,s=>
  match is[q]? with
  |none=>False
  |some ai=>
   match gn ai.kind with
   |true=>∃ d s',rY P ai tm s d s'∧kK P is K r (s::bU) (tm.put ai.dst d) s'
   |false=>∃ d,jG ai tm s=some d∧(ai.kind = .load→∀ s'∈bU.take b,jG ai tm s'=some d)∧kK P is K r bU (tm.put ai.dst d) s
def Tm.eqv (a b:Tm):Prop:=∀ t,a.get t=b.get t
theorem Tm.k8 (tm:Tm) (dst:Option Nat) (d:D) (t:Nat):(tm.put dst d).get t=if dst=some t then d else tm.get t:=by
 cases dst with
 |none=>simp[Tm.put]
 |some u=>
  simp only[Tm.put,Tm.A0,Option.some.injEq]
  by_cases h:t=u
  ·subst h;simp
  ·rw[if_neg h,if_neg (fun e=>h e.symm)]
theorem Tm.eqv.put {a b:Tm} (h:a.eqv b) (dst:Option Nat) (d:D):(a.put dst d).eqv (b.put dst d):=fun t=>by
 rw[Tm.k8,Tm.k8,h t]
theorem Tm.Il (tm:Tm) {x y:Option Nat} (h : ∀ t,x=some t→y≠some t) (d e:D):((tm.put x d).put y e).eqv ((tm.put y e).put x d):=fun t=>by
 simp only[Tm.k8]
 by_cases h1:x=some t
 ·simp only[h1,h t h1,if_true,if_false]
 ·simp only[h1,if_false]
theorem yX {g:Option (Nat×Bool)} {tm cb:Tm} {A A' C:Prop} (h : ∀ t∈uf g,tm.get t=cb.get t) (ha:A→A') (hh:guarded g tm A C):guarded g cb A' C:=by
 cases g with
 |none=>exact ha hh
 | some p=>
  obtain⟨t,want⟩:=p
  unfold guarded at *
  simp only at *
  rw[← h t (by simp[uf])]
  split
  ·rename_i b hb
   rw[hb]at hh
   exact⟨fun e=>ha (hh.1 e),hh.2⟩
  ·rename_i hb
   rw[hb]at hh
   exact hh
  ·rename_i x h1 h2
   split at hh
   ·exact h1 _ ‹_›
   ·exact h2 _ ‹_›
   ·exact hh
theorem FJ {tm cb:Tm} : ∀ {l:List X},(∀ t∈nH l,tm.get t=cb.get t)→l.map (·.ev tm)=l.map (·.ev cb)
 | [],_=>rfl
 |x::r,h=>by
  simp only[zaf]
  rw[X.cm fun t ht=>h t (by simp[nH,ht]),FJ (l:=r) fun t ht=>h t (by simp[nH,ht])]
theorem wk {P:Program} {ai:AI} {tm cb:Tm} {s s':St} {d:D} (h : ∀ t∈ai.reads,tm.get t=cb.get t) (hh:rY P ai tm s d s'):rY P ai cb s d s':=by
 cases ai with
 |op dst g o=>
  simp only[AI.reads,zaB]at h
  exact yX (fun t ht=>h t (.inl ht)) (fun e=>by rw[← BH fun t ht=>h t (.inr ht)];exact e) hh
 |call dst g f xs=>
  simp only[AI.reads,zaB]at h
  exact yX (fun t ht=>h t (.inl ht)) (fun e=>by rw[← FJ fun t ht=>h t (.inr ht)];exact e) hh
 |nil dst g n x=>exact hh
 |jT dst g t xs=>exact hh
theorem qj {ai:AI} {tm cb:Tm} {s:St} (h : ∀ t∈ai.reads,tm.get t=cb.get t):jG ai tm s=jG ai cb s:=by
 cases ai with
 | op dst g o=>
  simp only[AI.reads,zaB]at h
  have he:=BH (s:=s) fun t ht=>h t (.inr ht)
  cases g with
  |none=>simp only[jG,he]
  |some p=>
   obtain⟨t,want⟩:=p
   simp only[jG,he,h t (.inl (by simp[uf]))]
 |call dst g f xs=>rfl
 |nil dst g n x=>rfl
 |jT dst g t xs=>rfl
theorem Ly {dst:Option Nat} {g:Option (Nat×Bool)} {o:AO} (h:gn (AI.op dst g o).kind=false):(AI.op dst g o).kind=o.kind:=by
 unfold AI.kind at *
 split at h
 ·cases h
 ·rename_i heq;cases heq;rfl
 ·cases h
theorem Uu {ai:AI} (hk:ai.kind = .pure) {tm:Tm} {s s':St} : jG ai tm s=jG ai tm s':=by
 cases ai with
 |op dst g o=>
  have ho:o.kind = .pure:=by rw[← hk];exact(Ly (by rw[hk];rfl)).symm
  have he:=Ns ho (tm:=tm) (s:=s) (s':=s')
  cases g with
  |none=>simp only[jG,he]
  |some p=>simp only[jG,he]
 |call dst g f xs=>rfl
 |nil dst g n x=>rfl
 |jT dst g t xs=>rfl
theorem apart_spec {a q:AI} (h:a.apart q=true):(∀ t,a.dst=some t→t∉q.reads)∧(∀ t,q.dst=some t→t∉a.reads)∧(∀ t,a.dst=some t→q.dst≠some t):=by
 unfold AI.apart at h
 simp only[zaq]at h
 obtain⟨⟨h1,h2⟩,h3⟩:=h
 refine⟨fun t e=>?_,fun t e=>?_,fun t e e'=>?_⟩
 ·rw[e]at h1;simpa[CO]using h1
 ·rw[e]at h2;simpa[CO]using h2
 ·rw[e,e']at h3;simp at h3
theorem rZ {tm:Tm} {dst:Option Nat} {d:D} {l:List Nat} (h : ∀ t,dst=some t→t∉l) : ∀ t∈l,tm.get t=(tm.put dst d).get t:=fun t ht=>by
 rw[Tm.k8,if_neg fun e=>h t e ht]
section
variable {P:Program} {is:List AI} {K:Tm→St→Prop}
theorem r5 (hK : ∀ tm cb s,Tm.eqv tm cb→K tm s→K cb s) : ∀ (R:List (Nat×Nat)) (bU:List St) (tm cb:Tm) (s:St),tm.eqv cb→kK P is K R bU tm s→kK P is K R bU cb s
 | [],_,tm,cb,s,e,h=>hK tm cb s e h
 | (q,b)::R,bU,tm,cb,s,e,h=>by
  unfold kK at *
  split at h
  ·exact h.elim
  ·rename_i ai vn
   split at h
   ·rename_i hc
    obtain⟨d,s',h1,h2⟩:=h
    exact⟨d,s',wk (fun t _=>e t) h1,r5 hK R _ _ _ _ (e.put _ d) h2⟩
   ·rename_i hc
    obtain⟨d,h1,h2,h3⟩:=h
    refine⟨d, ?_,fun hl s' ox=>?_,r5 hK R _ _ _ _ (e.put _ d) h3⟩
    ·rw[← qj fun t _=>e t];exact h1
    ·rw[← qj fun t _=>e t];exact h2 hl s' ox
theorem Io (i:Nat) (l:List Nat):jn is (i::l)=(if gn (jb is i)then 1 else 0)+jn is l:=by
 unfold jn
 rw[List.filter_cons]
 split<;>simp<;>omega
theorem wo (hK : ∀ tm cb s,Tm.eqv tm cb→K tm s→K cb s) {q b:Nat} {ai:AI} (hq:is[q]? = some ai) (hm:gn ai.kind=false) (Y:List (Nat×Nat)) :
 ∀ (X:List (Nat×Nat)) (bU:List St) (tm:Tm) (s:St),(∀ a∈X,kX is a.1 q=true)→(ai.kind = .load→jn is (X.map (·.1))≤b)→
  kK P is K (X++(q,b)::Y) bU tm s→
  ∃ d,jG ai tm s=some d∧(ai.kind = .load→∀ s'∈bU.take (b - jn is (X.map (·.1))),jG ai tm s'=some d)∧kK P is K (X++Y) bU (tm.put ai.dst d) s
 | [],bU,tm,s,_,_,h=>by
  simp only[zaR,kK,hq,hm]at h
  obtain⟨d,h1,h2,h3⟩:=h
  exact⟨d,h1,fun hl s' ox=>h2 hl s' (by simpa[jn]using ox),h3⟩
 | (a,c)::X,bU,tm,s,cY,hb,h=>by
  have Nt:=cY (a,c) (by simp)
  unfold kX at Nt
  split at Nt
  ·rename_i ia iq hia tv
   rw[hq]at tv
   cases tv
   obtain⟨p1,p2,p3⟩:=apart_spec Nt
   have FF:jb is a=ia.kind:=by simp[jb,hia]
   have Hq : ∀ x∈X,kX is x.1 q=true:=fun x hx=>cY x (zaA _ hx)
   rw[zaf,Io,FF]at hb ⊢
   simp only[zaH,kK,hia]at h ⊢
   cases hc:gn ia.kind
   ·simp only [hc,zaa,if_false,za3]at h hb ⊢
    obtain⟨d,h1,h2,h3⟩:=h
    obtain⟨e,g1,g2,g3⟩:=wo hK hq hm Y X bU _ s Hq hb h3
    have cg : ∀ s,jG ai tm s=jG ai (tm.put ia.dst d) s:=fun s=>qj (rZ p1)
    have cg' : ∀ s,jG ia tm s=jG ia (tm.put ai.dst e) s:=fun s=>qj (rZ p2)
    refine⟨e,by rw[cg];exact g1,fun hl s' ox=>by rw[cg];exact g2 hl s' ox,d,by rw[← cg'];exact h1,fun hl s' ox=>by rw[← cg'];exact h2 hl s' ox, ?_⟩
    exact r5 hK _ _ _ _ _ (Tm.Il tm p3 d e) g3
   ·simp only [hc,if_true]at h hb ⊢
    obtain⟨d,s1,h1,h3⟩:=h
    obtain⟨e,g1,g2,g3⟩:=wo hK hq hm Y X (s::bU) _ s1 Hq (fun hl=>by have:=hb hl;omega) h3
    have cg : ∀ s,jG ai tm s=jG ai (tm.put ia.dst d) s:=fun s=>qj (rZ p1)
    have pV:jG ai tm s=some e:=by
     cases hk:ai.kind with
     |pure=>rw[cg,Uu hk (s':=s1)];exact g1
     |load=>
      have:=hb hk
      rw[cg]
      refine g2 hk s ?_
      rw[show b - jn is (X.map (·.1))=(b - (1+jn is (X.map (·.1))))+1 by omega,zbp]
      exact zaE
     |alloc=>rw[hk]at hm;cases hm
     |core=>rw[hk]at hm;cases hm
    refine⟨e,pV,fun hl s' ox=>?_,d,s1,wk (rZ p2) h1,r5 hK _ _ _ _ _ (Tm.Il tm p3 d e) g3⟩
    have:=hb hl
    rw[cg]
    refine g2 hl s' ?_
    rw[show b - jn is (X.map (·.1))=(b - (1+jn is (X.map (·.1))))+1 by omega,zbp]
    exact zaA _ ox
  ·cases Nt
end
end Go.Abs
namespace Go.Abs
section
variable {P:Program}
theorem QS {o:Oper} {z:List D} (h:CT P o=some (.alloc z)) : ∃ t,o.op = .alloc t∧zeroOf P t=some z:=by
 obtain⟨dst,op,type,pos,after,guard⟩:=o
 unfold CT at h
 simp only at h
 split at h
 case h_4 t=>
  split at h
  ·obtain⟨z',h1,h2⟩:=map_some h;cases h2
  ·obtain⟨z',h1,h2⟩:=map_some h;cases h2;exact⟨t,rfl,h1⟩
 all_goals
  first
   |(rw[zaz]at h;obtain⟨_,_,h⟩:=h;cases h)
   |skip
 all_goals
  (repeat' (split at h))<;>first|(cases h;done)|(rw[zaz]at h;obtain⟨_,_,h⟩:=h;cases h)
theorem zV {nt:Nat} {ops:Array Oper} {o:Oper} {ai:AI} (h:cI P nt ops o=some ai) :
 ∃ g,uh ops o.guard=some g∧(∀ t,o.dst=some t→t<nt)∧rS P ops o g=some ai:=by
 have h2:=xc h
 unfold cI at h
 split at h
 ·cases h
 ·rename_i g hg
  split at h
  ·exact⟨g,hg,h2,h⟩
  ·cases h
theorem sy {ops:Array Oper} {o:Oper} {g:Option (Nat×Bool)} {ai:AI} (h:rS P ops o g=some ai):ai.dst=o.dst:=by
 unfold rS at h
 split at h
 ·split at h
  ·obtain⟨xs,_,rfl⟩:=map_some h;rfl
  ·cases h
 ·obtain⟨xs,_,rfl⟩:=map_some h;rfl
 ·split at h
  ·cases h;rfl
  ·split at h
   ·cases h;rfl
   ·cases h;rfl
   ·cases h
theorem sA {nt:Nat} {ops:Array Oper} {o:Oper} {ai:AI} (h:cI P nt ops o=some ai):ai.dst=o.dst:=by
 obtain⟨g,_,_,h⟩:=zV h
 exact sy h
theorem wq {nt:Nat} {ops:Array Oper} {i:Nat} {o:Oper} {ai:AI} (hi:ops[i]? = some o) (hc:cI P nt ops o=some ai)
 {M:Map} {s:St} {w:World} {tm:Tm} {act:Act} (r:Rel M s w) (kp:Laid M s w) (ht:lM M s tm act.tmps) {K':Tm→St→Prop} (h:iR P [ai] K' tm s)
 {K:Act→World→Prop} {Q:Exit→Act→World→Prop}
 (hK : ∀ d v s1 w1 M1,K' (tm.put ai.dst d) s1→Ext M s w M1 s1 w1→Rel M1 s1 w1→RD M1 s1 d v→K (act.put o.dst v) w1):wpOp P ops Q i K act w:=by
 obtain⟨g,hg,_,hb⟩:=zV hc
 rw[sy hb]at hK
 simp only[wpOp,hi]
 have skip:K' (tm.put o.dst (.tuple [])) s→K (act.put o.dst Go.undef) w:=fun hk=>hK _ _ _ _ _ hk (Ext.refl M s w) r .undef
 unfold rS at hb
 split at hb
 ·rename_i f args mz lE
  split at hb
  ·rename_i yf
   obtain⟨xs,n8,rfl⟩:=map_some hb
   simp only[iR]at h
   rcases jU hg ht h with ⟨hw,hA⟩|⟨hw,hB⟩
   ·simp only [hw,if_true]
    left
    have hex:(execOp act.eval o).run P w = .ok (.enter f (args.map act.eval)) w:=by
     obtain⟨dst,op,type,pos,after,guard⟩:=o
     simp only at lE
     subst lE
     exact wi act.eval dst f args mz type pos after guard rfl yf w
    obtain⟨c1,c2⟩:=vm ht n8
    unfold Oper.wp
    rw[hex,Oper.upon_enter]
    refine(hA M w (args.map act.eval) r kp (by simp[c1]) (fun i d v e1 e2=>c2 i d v e1 (by simpa using e2))).mono ?_
    rintro en w' ⟨M',d,v,s',rfl,hk,e',r',hv⟩
    exact hK _ _ _ _ _ hk e' r' hv
   ·simp only [hw]
    exact skip hB
  ·cases hb
 ·rename_i t args mz lE
  obtain⟨xs,n8,rfl⟩:=map_some hb
  simp only[iR]at h
  rcases jU hg ht h with ⟨hw,hA⟩|⟨hw,hB⟩
  ·simp only [hw,if_true]
   left
   split at hA
   ·rename_i f nn w9
    obtain⟨yf,hA⟩:=hA
    have QJ:=ht t
    rw[w9]at QJ
    obtain⟨vs,oB,hlen,C8⟩:=QJ.Lr
    have hex:(execOp act.eval o).run P w = .ok (.enter f (args.map act.eval++vs)) w:=by
     obtain⟨dst,op,type,pos,after,guard⟩:=o
     simp only at lE
     subst lE
     exact zO act.eval dst (.tmp t) f vs args mz type pos after guard oB yf w
    have cc:=FG n8 ht hlen C8
    unfold Oper.wp
    rw[hex,Oper.upon_enter]
    refine(hA M w (args.map act.eval++vs) r kp cc.1 cc.2).mono ?_
    rintro en w' ⟨M',d,v,s',rfl,hk,e',r',hv⟩
    exact hK _ _ _ _ _ hk e' r' hv
   ·exact hA.elim
  ·simp only [hw]
   exact skip hB
 ·split at hb
  ·rename_i neg x H9
   cases hb
   simp only[iR]at h
   rcases jU hg ht h with ⟨hw,hA⟩|⟨hw,hB⟩
   ·simp only [hw,if_true]
    left
    split at hA
    ·rename_i g' z rows hx
     obtain⟨b,hb,hex⟩:=yT (w:=w) H9 ht hx
     unfold Oper.wp
     rw[hex,Oper.upon_value]
     exact hK _ _ _ _ _ (hA b hb) (Ext.refl M s w) r (.bool _)
    ·exact hA.elim
   ·simp only [hw]
    exact skip hB
  ·have fin : ∀ ao,ai = .op o.dst g ao→(∀ d s',a6 ao tm s=some (d,s')→cH P M s w (execOp act.eval o) d s')→
    (if Region.wanted o (yielded ops act.tmps)=true then o.wp P act w K Q∨(o.asks P act w∧LetsOut Q)else K (act.put o.dst Go.undef) w):=by
    intro ao vn hdo
    subst vn
    simp only[iR]at h
    rcases jU hg ht h with ⟨hw,hA⟩|⟨hw,hB⟩
    ·simp only [hw,if_true]
     left
     split at hA
     ·rename_i d s' qi
      obtain⟨v,w',M',c7,r',hv,e'⟩:=hdo d s' qi
      unfold Oper.wp
      rcases c7 with c7|⟨c7,rfl⟩
      ·rw [c7,Oper.upon_value]
       exact hK _ _ _ _ _ hA e' r' hv
      ·rw [c7,Oper.upon_skip]
       exact hK _ _ _ _ _ hA e' r' hv
     ·exact hA.elim
    ·simp only [hw]
     exact skip hB
   split at hb
   ·rename_i z k n ps nL
    cases hb
    refine fin _ rfl (fun d s' qi=>?_)
    split at qi
    ·exact ye nL r ht qi
    ·exact rW nL r ht qi
   ·rename_i ao nL
    cases hb
    exact fin _ rfl (fun d s' qi=>rW nL r ht qi)
   ·cases hb
structure Lz (M:Map) (s:St) (b:Nat):Prop where
 o : ∀ o,o<s.aw.length→M.mu o≠b
 t : ∀ t c z,s.live t→M.be t≠some (b,c,z)
 g : ∀ off,M.G b off=none
theorem Lz.mono {M M':Map} {s s':St} {w w':World} {b:Nat} (h:Lz M s b) (e:Ext M s w M' s' w') (hb:b<w.heap.size):Lz M' s' b:=by
 refine⟨fun o ho=>?_,fun t c z hl he=>?_,fun off=>?_⟩
 ·rcases e.mo ho with ⟨h1,h2⟩ | h1
  ·rw[h2];exact h.o o h1
  ·omega
 ·rcases e.qA t b c z hl he with ⟨h1,c',z',h2⟩ | h1
  ·exact h.t t c' z' h1 h2
  ·omega
 ·by_cases hg:M'.G b off=M.G b off
  ·rw[hg];exact h.g off
  ·rcases e.sT b off hg with h1 | ⟨t,c,z,h1,h2⟩
   ·omega
   ·exact(h.t t c z h1 h2).elim
theorem Rel.idle {M:Map} {s:St} {w:World} (r:Rel M s w) (x:Obj):Rel M s (w.alloc x)∧Ext M s w M s (w.alloc x)∧Lz M s w.heap.size:=by
 refine⟨⟨fun b o v e=>?_,fun o ds e=>?_,r.jY,r.inj,fun t n e=>?_,r.eP,r.fM⟩, ?_,⟨fun o ho=>?_,fun t c z hl e=>?_,fun off=>r.MI (zaj _) off⟩⟩
 ·obtain⟨h3,h4⟩:=r.comm b o v e
  refine⟨?_,h4⟩
  rw[World.cell?_alloc_lt]
  ·exact h3
  ·exact r.B0 e
 ·obtain⟨vs,T,h3,h4,h5,h6⟩:=r.obj o ds e
  exact⟨vs,T,h3.keep (heap_alloc_old w _ _ h3.lt),h4,h5,h6⟩
 ·rcases r.tok t n e with h3 | ⟨b,cap,size,fe,T',h3,h4,h5⟩
  ·exact .inl h3
  ·exact .inr ⟨b,cap,size,fe,T',h3,by rw[heap_alloc_old w _ _ (kI h4)];exact h4,h5⟩
 ·exact⟨Le.refl M s,fun b hb _ _=>heap_alloc_old w _ b hb,fun o h3 h4=>by rcases h3 with h3|h3;omega;exact(h3 rfl).elim,fun t b c z h e=> .inl ⟨h,c,z,e⟩,fun _ _ h=>(h rfl).elim,by simp,rfl,rfl,rfl⟩
 ·have:=r.pT ho;omega
 ·have:=r.rT hl e;omega
theorem Rel.aep {M:Map} {s:St} {w:World} (r:Rel M s w) {B:eQ} (e:Ext B.M B.s B.w M s w) {b:Nat} (u:Lz M s b) (hb:B.w.heap.size≤b)
 (ds:List D) (vs:Array Value) (T:TypeId) (hh:w.heap[b]? = some (.cells vs T (0,0))) (hl:vs.size=ds.length) (h1 : ∀ v∈vs,v.oneCell'=true)
 (h2 : ∀ (i:Nat) (d:D) (v:Value),ds[i]? = some d→vs[i]? = some v→RD M s d v) :
 Rel (M.dF s.aw.length b) {s with aw:=s.aw++ [ds]} w∧Ext B.M B.s B.w (M.dF s.aw.length b) {s with aw:=s.aw++ [ds]} w∧
 Le M s (M.dF s.aw.length b) {s with aw:=s.aw++ [ds]}:=by
 have le:=rC (M:=M) s b ds
 have nJ : ∀ o,o<s.aw.length→(M.dF s.aw.length b).mu o=M.mu o:=fun o ho=>congrArg Prod.fst (si M b .any ho)
 have dK:(M.dF s.aw.length b).mu s.aw.length=b:=by simp[Map.dF,Map.mu]
 refine⟨⟨r.comm,fun o rn e'=>?_,fun o ho off=>?_,fun o o' ho my e'=>?_,r.tok,fun t b' c z o hl e' ho=>?_,r.fM⟩, ?_,le⟩
 ·rcases zaF o s.aw.length with ho | ho
  ·rw [zar ho]at e'
   obtain⟨fe,T',h3,h4,h5,h6⟩:=r.obj o rn e'
   refine⟨fe,T', ?_,h4,⟨h5.1,by rw[le.ty o ho];exact h5.2⟩,fun i d v e1 e2=>(h6 i d v e1 e2).mono le⟩
   rw[si M b .any ho];exact h3
  ·rw [zav ho]at e'
   have:o=s.aw.length:=by
    have:=(zai.1 e').1
    simp at this;omega
   subst this
   simp at e';subst e'
   refine⟨vs,T, ?_,hl,⟨h1,fun T' h=>by simp[Map.dF,Map.ty,Ob.ty?]at h⟩,fun i d v e1 e2=>(h2 i d v e1 e2).mono le⟩
   have hl:(M.dF s.aw.length b).loc s.aw.length=(b, .any):=by simp[Map.dF]
   rw[hl];exact iu.of hh trivial
 ·simp at ho
  rcases zaF o s.aw.length with h3|h3
  ·rw[nJ o h3];exact r.jY o h3 off
  ·have:o=s.aw.length:=by omega
   subst this
   rw[dK];exact u.g off
 ·simp at ho my
  rcases zaF o s.aw.length with h3|h3<;>rcases zaF o' s.aw.length with h4|h4
  ·rw[nJ o h3,nJ o' h4]at e';exact r.inj o o' h3 h4 e'
  ·have:o'=s.aw.length:=by omega
   subst this
   rw[nJ o h3,dK]at e'
   exact(u.o o h3 e').elim
  ·have:o=s.aw.length:=by omega
   subst this
   rw[nJ o' h4,dK]at e'
   exact(u.o o' h4 e'.symm).elim
  ·omega
 ·simp at ho
  rcases zaF o s.aw.length with h3|h3
  ·rw[nJ o h3];exact r.eP t b' c z o hl e' h3
  ·have:o=s.aw.length:=by omega
   subst this
   rw[dK]
   intro he
   subst he
   exact u.t t c z hl e'
 ·refine⟨e.le.trans le,e.kept,fun o h3 h4=> ?_,e.qA,e.sT,e.size,e.os,e.tape,e.output⟩
  simp at h4
  rcases zaF o s.aw.length with h5|h5
  ·rw[nJ o h5]at h3 ⊢;exact e.uc o h3 h5
  ·have:o=s.aw.length:=by omega
   subst this
   rw[dK];exact hb
theorem Kq {nt:Nat} {ops:Array Oper} {i:Nat} {o:Oper} {t:Nat} {z:List D} (hi:ops[i]? = some o) (hc:cI P nt ops o=some (.op (some t) none (.alloc z)))
 {w:World} {act:Act} {K:Act→World→Prop} {Q:Exit→Act→World→Prop}
 (hK : ∀ vs T,vs.size=z.length→(∀ v∈vs,v.oneCell'=true)→(∀ (M:Map) (s:St) (i:Nat) (d:D) (v:Value),z[i]? = some d→vs[i]? = some v→RD M s d v)→
  K (act.put (some t) (.pointer (some ⟨w.heap.size,0,none⟩))) (w.alloc (.cells vs T))):wpOp P ops Q i K act w:=by
 obtain⟨g,hg,_,hb⟩:=zV hc
 have p9:=sy hb
 simp only[AI.dst]at p9
 simp only[wpOp,hi]
 have lE:g=none∧CT P o=some (.alloc z):=by
  unfold rS at hb
  split at hb
  ·split at hb
   ·obtain⟨xs,_,h⟩:=map_some hb;cases h
   ·cases hb
  ·obtain⟨xs,_,h⟩:=map_some hb;cases h
  ·split at hb
   ·cases hb
   ·split at hb
    ·rename_i nL
     simp only[Option.some.injEq,AI.op.injEq]at hb
     obtain⟨_,_,h⟩:=hb
     split at h<;>cases h
    ·rename_i ao nL
     simp only[Option.some.injEq,AI.op.injEq]at hb
     obtain⟨_,h1,h2⟩:=hb
     subst h2
     exact⟨h1,nL⟩
    ·cases hb
 obtain⟨rfl,nL⟩:=lE
 obtain⟨T,hT,hz⟩:=QS nL
 have hw:Region.wanted o (yielded ops act.tmps)=true:=by
  have:o.guard=none:=by
   cases Fz:o.guard with
   |none=>rfl
   |some p=>
    obtain⟨j,b⟩:=p
    rw[Fz]at hg
    unfold uh at hg
    simp only at hg
    split at hg<;>cases hg
  simp[Region.wanted,this]
 simp only[hw,if_true]
 left
 unfold zeroOf at hz
 split at hz
 ·rename_i inf Ni
  split at hz
  ·rename_i v hv
   split at hz
   ·have c7:(execOp act.eval o).run P w = .ok (.value (.pointer (some ⟨w.heap.size,0,none⟩))) (w.alloc (.cells v.cells T)):=by
     obtain⟨dst,op,type,pos,after,guard⟩:=o
     simp only at hT
     subst hT
     simp[execOp,Instr.alloc,zeroValue,fG P Ni,hv,newVar,newRow]
    have h3:=fun M s=>k6 (M:=M) (s:=s) hz
    obtain⟨h1,h2,_⟩:=h3 ⟨fun _ _=>none,fun _=>(0, .any),fun _=>none⟩ ⟨[],[]⟩
    unfold Oper.wp
    rw[c7,Oper.upon_value, ← p9]
    exact hK _ _ (by rw[h1];simp) (fun u hu=>h2 u (by simpa using hu)) (fun M s i d u e1 e2=>(h3 M s).2.2 i d u e1 (by simpa using e2))
   ·cases hz
  ·cases hz
 ·cases hz
end
end Go.Abs
namespace Go.Abs
section
variable {is:List AI} {af pt:List (List Nat)}
theorem yY {pq:List Nat} {l l':List Nat} (h:l'.Sublist l) (hb:kS is pq l=true):kS is pq l'=true:=by
 induction h with
 |slnil=>rfl
 |cons a h ih=>
  simp only[kS,zaq]at hb
  exact ih hb.2
 |cons_cons a h ih=>
  simp only[kS,zaq,zay]at hb ⊢
  refine⟨hb.1.imp id fun h1=>?_,ih hb.2⟩
  rw[za0]at h1 ⊢
  exact fun x hx=>h1 x (h.subset hx)
theorem A5 {f:Nat→Bool} {l l':List Nat} (h:l'.Sublist l) (ha:l.all f=true):l'.all f=true:=by
 rw[za0]at ha ⊢
 exact fun x hx=>ha x (h.subset hx)
theorem Kr {l l':List Nat} (h:l'.Sublist l):jn is l'≤jn is l:=(h.filter _).length_le
theorem Nu {pre EB:List Nat} {q b:Nat} (h:EB.Sublist pre) (hs:oo is pt pre q b=true):oo is pt EB q b=true:=by
 unfold oo at *
 split at hs
 ·exact A5 h hs
 ·exact A5 h hs
 ·simp only [zaq]at hs ⊢
  exact⟨A5 h hs.1,yY h hs.2⟩
 ·simp only [zaq,decide_eq_true_eq]at hs ⊢
  exact⟨⟨A5 h hs.1.1,yY h hs.1.2⟩,zaN (Kr (h.filter _)) hs.2⟩
theorem Ip : ∀ {R:List (Nat×Nat)} {pre EB:List Nat},EB.Sublist pre→tj is af pt pre R=true→tj is af pt EB R=true
 | [],_,_,_,_=>rfl
 |(q,b)::R,pre,EB,h,ho=>by
  simp only[tj,zaq,zaG]at ho ⊢
  obtain⟨⟨⟨h1,h2⟩,h3⟩,h4⟩:=ho
  refine⟨⟨⟨Nu h h1, ?_⟩,h3⟩,Ip (h.cons_cons q) h4⟩
  rw[← zbA,za2]at h2 ⊢
  exact fun hm=>h2 (h.subset hm)
theorem EC : ∀ {X:List (Nat×Nat)} {e:Nat×Nat} {Y:List (Nat×Nat)} {pre:List Nat},tj is af pt pre (X++e::Y)=true→tj is af pt pre (X++Y)=true
 | [],(q,b),Y,pre,h=>by
  simp only[zaR,tj,zaq]at h
  exact Ip (List.sublist_cons_self q pre) h.2
 |(a,c)::X,e,Y,pre,h=>by
  simp only[zaH,tj,zaq]at h ⊢
  obtain⟨⟨⟨h1,h2⟩,h3⟩,h4⟩:=h
  refine⟨⟨⟨h1,h2⟩, ?_⟩,EC h4⟩
  rw[za0]at h3 ⊢
  intro j hj
  have:=h3 j hj
  simp only[zaq,zaG]at this ⊢
  refine⟨this.1, ?_⟩
  have h5:=this.2
  rw[← zbA,za2]at h5 ⊢
  refine fun hm=>h5 ?_
  simp only[zag,zaf,zaB,zaw]at hm ⊢
  exact hm.imp id .inr
theorem sB : ∀ {X:List (Nat×Nat)} {q b:Nat} {Y:List (Nat×Nat)} {pre:List Nat},tj is af pt pre (X++(q,b)::Y)=true→
 oo is pt ((X.map (·.1)).reverse++pre) q b=true∧q∉X.map (·.1)∧q∉pre∧(∀ j∈gQ af q,j≠q∧j∉Y.map (·.1))∧tj is af pt (q::((X.map (·.1)).reverse++pre)) Y=true
 | [],q,b,Y,pre,h=>by
  simp only[zaR,tj,zaq,zaG]at h
  obtain⟨⟨⟨h1,h2⟩,h3⟩,h4⟩:=h
  rw[← zbA,za2]at h2
  refine⟨h1,by simp,h2,fun j hj=>?_,h4⟩
  rw[za0]at h3
  have:=h3 j hj
  simp only[zaq,bne_iff_ne,zaG, ← zbA,za2]at this
  exact this
 |(a,c)::X,q,b,Y,pre,h=>by
  simp only[zaH,tj,zaq]at h
  obtain⟨_,h4⟩:=h
  obtain⟨g1,g2,g3,g4,g5⟩:=sB h4
  simp only[zaf,List.reverse_cons,zaD,List.singleton_append]
  refine⟨g1, ?_,fun h=>g3 (zaA _ h),g4,g5⟩
  intro hm
  rcases zaw.1 hm with rfl|hm
  ·exact g3 (by simp)
  ·exact g2 hm
theorem A6 : ∀ {Y:List (Nat×Nat)} {pre:List Nat},tj is af pt pre Y=true→∀ x∈Y,x.1∉pre∧(jb is x.1 = .alloc→∀ a∈pre,kX is a x.1=true)
 | [],_,_,x,hx=>by cases hx
 | (q,b)::Y,pre,h,x,hx=>by
  simp only[tj,zaq,zaG]at h
  obtain⟨⟨⟨h1,h2⟩,_⟩,h4⟩:=h
  rw[← zbA,za2]at h2
  rcases zaw.1 hx with rfl|hx
  ·refine⟨h2,fun hk a ha=> ?_⟩
   unfold oo at h1
   simp only[hk]at h1
   rw[za0]at h1
   exact h1 a ha
  ·obtain⟨g1,g2⟩:=A6 h4 x hx
   exact⟨fun h=>g1 (zaA _ h),fun hk a ha=>g2 hk a (zaA _ ha)⟩
theorem BI : ∀ {n:Nat},wP af pt n=true→∀ i,i<n→∀ j∈gQ pt i,j∈gQ af i∨∃ k∈gQ af i,j∈gQ pt k
 | 0,_,i,hi=>by omega
 | n+1,h,i,hi=>by
  simp only[wP,zaq]at h
  rcases zaF i n with h1|h1
  ·exact BI h.2 i h1
  ·have:i=n:=by omega
   subst this
   intro j hj
   have:=h.1
   rw[za0]at this
   have:=this j hj
   simp only[zay,za2,List.any_eq_true]at this
   exact this
theorem xf {pq:List Nat} : ∀ {l:List Nat},kS is pq l=true→∀ (x:Nat) (l1 l2:List Nat),l=l1++x::l2→jb is x = .alloc→x∈pq→∀ y∈l2,y∈pq
 | [],_,x,l1,l2,h=>by simp at h
 | a::l,hb,x,l1,l2,h=>by
  simp only[kS,zaq,zay,zaG,Bool.and_eq_false_iff]at hb
  intro hk hx y hy
  cases l1 with
  | nil=>
   simp only[zaR,List.cons.injEq]at h
   obtain⟨rfl,rfl⟩:=h
   rcases hb.1 with h1|h1
   ·rcases h1 with h1 | h1
    ·simp[hk]at h1
    ·rw [← zbA,za2]at h1
     exact(h1 hx).elim
   ·rw [za0]at h1
    have:=h1 y hy
    rwa [za2]at this
  |cons b l1=>
   simp only[zaH,List.cons.injEq]at h
   exact xf hb.2 x l1 l2 h.2 hk hx y hy
end
structure Pd where
 q:Nat
 t:Nat
 z:List D
 b:Nat
structure aa9 (is:List AI) (R:List (Nat×Nat)) (B:eQ) (M:Map) (s:St) (act:Act) (w:World) (p:Pd):Prop where
 mem:p.q∈R.map (·.1)
 ai:is[p.q]? = some (.op (some p.t) none (.alloc p.z))
 cells : ∃ (vs:Array Value) (T:TypeId),w.heap[p.b]? = some (.cells vs T (0,0))∧vs.size=p.z.length∧(∀ v∈vs,v.oneCell'=true)∧
  ∀ (M:Map) (s:St) (i:Nat) (d:D) (v:Value),p.z[i]? = some d→vs[i]? = some v→RD M s d v
 unk:Lz M s p.b
 base:B.w.heap.size≤p.b
 slot:act.tmps.getD p.t Go.undef = .pointer (some ⟨p.b,0,none⟩)
def yh (P:Program) (is:List AI) (K:Tm→St→Prop) (B:eQ) (nt:Nat) (R:List (Nat×Nat)) (dV:List Pd) (act:Act) (w:World):Prop:=
 ∃ (M:Map) (s:St) (tm sC:Tm) (bU:List St),Ext B.M B.s B.w M s w∧Rel M s w∧lM M s sC act.tmps∧(∀ t,(∀ p∈dV,p.t≠t)→sC.get t=tm.get t)∧
  act.tmps.size=nt∧act.defers = []∧kK P is K R bU tm s∧(∀ p∈dV,aa9 is R B M s act w p)∧
  (∀ p∈dV,∀ p'∈dV,p.q=p'.q∨p.t=p'.t∨p.b=p'.b→p=p')
structure qK (is:List AI) (af pt:List (List Nat)) (c9:Array Bool) (R:List (Nat×Nat)) (dV:List Pd):Prop where
 ok:tj is af pt [] R=true
 FK : ∀ i,i<is.length→(c9.getD i false=true↔(i∉R.map (·.1)∨∃ p∈dV,p.q=i))
 cl : ∀ i,i<is.length→c9.getD i false=true→∀ j∈gQ pt i,c9.getD j false=true
 size:c9.size=is.length
 lt : ∀ x∈R,x.1<is.length
section
variable {P:Program} {is:List AI} {af pt:List (List Nat)} {K:Tm→St→Prop} {B:eQ} {nt:Nat}
theorem abb {c9:Array Bool} {q b:Nat} {R:List (Nat×Nat)} {dV:List Pd} {act:Act} {w:World} (hs:qK is af pt c9 ((q,b)::R) dV) (h:yh P is K B nt ((q,b)::R) dV act w)
 {p:Pd} (hp:p∈dV) (tw:p.q=q) :
 qK is af pt c9 R (dV.filter fun p'=>decide (p'.q≠q))∧yh P is K B nt R (dV.filter fun p'=>decide (p'.q≠q)) act w:=by
 have pE : ∀ p',p'∈(dV.filter fun p'=>decide (p'.q≠q))↔p'∈dV∧p'.q≠q:=fun p'=>by simp
 constructor
 ·have oE:=hs.ok
  have Cc:=sB (X:= []) oE
  refine⟨EC (X:= []) oE,fun i hi=>?_,hs.cl,hs.size,fun x hx=>hs.lt x (zaA _ hx)⟩
  rw[hs.FK i hi]
  simp only[zaf,zaw,not_or]
  have hqR:q∉R.map (·.1):=fun hm=>by
   obtain⟨x,hx,rfl⟩:=zbh.1 hm
   exact(A6 Cc.2.2.2.2 x hx).1 (by simp)
  constructor
  ·rintro(⟨h1,h2⟩ | ⟨p',h1,h2⟩)
   ·exact .inl h2
   ·by_cases hq:i=q
    ·subst hq;exact .inl hqR
    ·exact .inr ⟨p',(pE p').2 ⟨h1,by rw[h2];exact hq⟩,h2⟩
  ·rintro(h1 | ⟨p',h1,h2⟩)
   ·by_cases hq:i=q
    ·subst hq;exact .inr ⟨p,hp,tw⟩
    ·exact .inl ⟨hq,h1⟩
   ·exact .inr ⟨p',((pE p').1 h1).1,h2⟩
 ·obtain⟨M,s,tm,sC,bU,e,r,ht,pV,hn,hd,hg,vq,r6⟩:=h
  have hk:=vq p hp
  obtain⟨vs,T,hh,hl,h1,h2⟩:=hk.cells
  have vn:=hk.ai
  rw[tw]at vn
  simp only[kK,vn,AI.kind,gn]at hg
  obtain⟨d,s',sj,hg⟩:=hg
  have qi:a6 (.alloc p.z) tm s=some (d,s'):=sj
  simp only[a6,Option.some.injEq,Prod.mk.injEq]at qi
  obtain⟨rfl,rfl⟩:=qi
  obtain⟨r',e',le⟩:=r.aep e hk.unk hk.base p.z vs T hh hl h1 (h2 M s)
  refine⟨_,_,_,sC.put (some p.t) (.ptr s.aw.length 0),_,e',r',fun u=>?_,fun t htn=>?_,hn,hd,hg,fun p' mI=>?_,fun p1 h1 p2 h2=>r6 p1 ((pE p1).1 h1).1 p2 ((pE p2).1 h2).1⟩
  ·rw [Tm.k8]
   split
   ·rename_i heq
    cases heq
    rw[hk.slot]
    have:(M.dF s.aw.length p.b).mu s.aw.length=p.b:=by simp[Map.dF,Map.mu]
    have h5:=RD.ptr (M:=M.dF s.aw.length p.b) (s:= {s with aw:=s.aw++ [p.z]}) s.aw.length 0 (by simp) (by simp[Map.dF,Map.ob,Ob.plain])
    rw[this]at h5
    exact h5
   ·exact(ht u).mono le
  ·simp only [AI.dst]
   rw[Tm.k8,Tm.k8]
   split
   ·rfl
   ·rename_i eF
    refine pV t fun p' mI=>?_
    by_cases hq:p'.q=q
    ·have:=r6 p' mI p hp (.inl (hq.trans tw.symm))
     subst this
     exact fun h=>eF (by rw[h])
    ·exact htn p' ((pE p').2 ⟨mI,hq⟩)
  ·obtain⟨hp1,hp2⟩:=(pE p').1 mI
   have mw:=vq p' hp1
   refine⟨?_,mw.ai,mw.cells,⟨fun o ho=>?_,mw.unk.t,mw.unk.g⟩,mw.base,mw.slot⟩
   ·have:=mw.mem
    simp only[zaf,zaw]at this
    exact this.resolve_left hp2
   ·simp at ho
    rcases zaF o s.aw.length with h5|h5
    ·rw[show(M.dF s.aw.length p.b).mu o=M.mu o from congrArg Prod.fst (si M p.b .any h5)];exact mw.unk.o o h5
    ·have:o=s.aw.length:=by omega
     subst this
     have:(M.dF s.aw.length p.b).mu s.aw.length=p.b:=by simp[Map.dF,Map.mu]
     rw[this]
     intro hb
     have:=r6 p hp p' hp1 (.inr (.inr hb))
     subst this
     exact hp2 tw
theorem norm {c9:Array Bool} {act:Act} {w:World} : ∀ (R:List (Nat×Nat)) (dV:List Pd),qK is af pt c9 R dV→yh P is K B nt R dV act w→
 ∃ R' vr,qK is af pt c9 R' vr∧yh P is K B nt R' vr act w∧∀ x l,R'=x::l→∀ p∈vr,p.q≠x.1
 | [],dV,hs,h=>⟨[],dV,hs,h,fun _ _ he=>by cases he⟩
 | (q,b)::R,dV,hs,h=>by
  by_cases hp : ∃ p∈dV,p.q=q
  ·obtain⟨p,hp,tw⟩:=hp
   obtain⟨h1,h2⟩:=abb hs h hp tw
   exact norm R _ h1 h2
  ·refine⟨(q,b)::R,dV,hs,h,fun x l he p hpm tw=>hp ⟨p,hpm, ?_⟩⟩
   cases he
   exact tw
theorem XR {ops:Array Oper} {q:Nat} {o:Oper} {ai:AI} (hi:ops[q]? = some o) (hc:cI P nt ops o=some ai) {R R':List (Nat×Nat)} {dV:List Pd} {act:Act} {w:World} {M:Map} {s s1:St} {tm sC:Tm} {d:D} {XS:List St}
 (e:Ext B.M B.s B.w M s w) (r:Rel M s w) (ht:lM M s sC act.tmps) (pV : ∀ t,(∀ p∈dV,p.t≠t)→sC.get t=tm.get t) (hn:act.tmps.size=nt) (hd:act.defers = [])
 (vq : ∀ p∈dV,aa9 is R B M s act w p) (r6 : ∀ p∈dV,∀ p'∈dV,p.q=p'.q∨p.t=p'.t∨p.b=p'.b→p=p')
 (hv:iR P [ai] (fun a b=>a=sC.put ai.dst d∧b=s1) sC s) (hg:kK P is K R' XS (tm.put ai.dst d) s1)
 (pE : ∀ p∈dV,p.q∈R'.map (·.1)) (p9 : ∀ p∈dV,ai.dst≠some p.t) {Q:Exit→Act→World→Prop} :
 wpOp P ops Q q (yh P is K B nt R' dV) act w:=by
 refine wq hi hc r (B.laid.ext e) ht hv fun d' v s2 w1 M1 hk e1 r1 j8=>?_
 obtain⟨fj,rfl⟩:=hk
 have hde:=sA hc
 have hC : ∀ t,o.dst=some t→t<act.tmps.size:=fun t h=>by rw[hn];exact xc hc t h
 refine⟨M1,s2,tm.put ai.dst d,sC.put ai.dst d,XS,e.trans e1,r1, ?_,fun t htn=>?_, ?_, ?_,hg,fun p hp=>?_,r6⟩
 ·rw [← fj,hde]
  exact(ht.mono e1.le).put hC j8
 ·rw[Tm.k8,Tm.k8,pV t htn]
 ·cases ho:o.dst<;>simp[Act.put,hn]
 ·cases ho:o.dst<;>simp[Act.put,hd]
 ·have hk:=vq p hp
  obtain⟨vs,T,hh,hl,h1,h2⟩:=hk.cells
  have hb:=kI hh
  refine⟨pE p hp,hk.ai,⟨vs,T,by rw[e1.kept p.b hb hk.unk.o hk.unk.t];exact hh,hl,h1,h2⟩,hk.unk.mono e1 hb,hk.base, ?_⟩
  rw[← hk.slot]
  have:=p9 p hp
  rw[hde]at this
  cases ho:o.dst with
  |none=>rfl
  |some t=>
   rw[ho]at this
   have eF:t≠p.t:=fun h=>this (by rw[h])
   simp[Act.put,zbw eF]
theorem Nv {ai:AI} (hm:gn ai.kind=false) {tm:Tm} {s:St} {d:D} (h:jG ai tm s=some d):iR P [ai] (fun a b=>a=tm.put ai.dst d∧b=s) tm s:=by
 cases ai with
 | op dst g o=>
  have hko:=Ly hm
  have key : ∀ {d},(a6 o tm s).map (·.1)=some d→a6 o tm s=some (d,s):=by
   intro d h
   cases he:a6 o tm s with
   |none=>rw[he]at h;cases h
   |some p=>
    obtain⟨d',s'⟩:=p
    rw[he]at h
    simp only[zbx,Option.some.injEq]at h
    subst h
    rw[Kp (by rw[← hko];exact hm) he]
  simp only[iR,AI.dst]
  cases g with
  |none=>
   simp only[jG]at h
   simp only[guarded,key h,and_self]
  | some p=>
   obtain⟨t,want⟩:=p
   simp only[jG]at h
   simp only[guarded]
   split at h
   ·rename_i b hb
    simp only[hb]
    split at h
    ·rename_i heq
     refine⟨fun _=>by simp only[key h,and_self],fun eF=>?_⟩
     subst heq
     cases b<;>cases eF
    ·rename_i eF
     cases h
     exact⟨fun heq=>(eF heq).elim,fun _=>by simp⟩
   ·rename_i ds hb
    cases h
    simp only[hb,and_self]
   ·cases h
 |call dst g f xs=>cases hm
 |nil dst g n x=>cases hm
 |jT dst g t xs=>cases hm
theorem zW {g:Option (Nat×Bool)} {tm:Tm} {A A' C C':Prop} (ha:A→A') (hc:C→C') (hh:guarded g tm A C):guarded g tm A' C':=by
 cases g with
 |none=>exact ha hh
 | some p=>
  obtain⟨t,want⟩:=p
  unfold guarded at *
  simp only at *
  split
  ·rename_i b hb;rw[hb]at hh;exact⟨fun e=>ha (hh.1 e),fun e=>hc (hh.2 e)⟩
  ·rename_i hb;rw[hb]at hh;exact hc hh
  ·rename_i x h1 h2
   split at hh
   ·exact h1 _ ‹_›
   ·exact h2 _ ‹_›
   ·exact hh
theorem Iq {ai:AI} {tm:Tm} {s s1:St} {d:D} (h:rY P ai tm s d s1):iR P [ai] (fun a b=>a=tm.put ai.dst d∧b=s1) tm s:=by
 cases ai with
 |op dst g o=>
  refine zW (fun e=>?_) (fun e=>?_) h
  ·rw[e];exact⟨rfl,rfl⟩
  ·obtain⟨rfl,rfl⟩:=e;exact⟨rfl,rfl⟩
 |call dst g f xs=>
  refine zW (fun e=>?_) (fun e=>?_) h
  ·exact e.mono fun x y hxy=>by obtain⟨rfl,rfl⟩:=hxy;exact⟨rfl,rfl⟩
  ·obtain⟨rfl,rfl⟩:=e;exact⟨rfl,rfl⟩
 |nil dst g n x=>exact h.elim
 |jT dst g t xs=>exact h.elim
end
end Go.Abs
namespace Go.Abs
section
variable {P:Program} {is:List AI} {af pt:List (List Nat)} {K:Tm→St→Prop} {B:eQ} {nt:Nat}
theorem A7 {ops:Array Oper} : ∀ {ol:List Oper} {is:List AI},pK P nt ops ol=some is→is.length=ol.length∧∀ (i:Nat) (o:Oper),ol[i]? = some o→∃ ai,is[i]? = some ai∧cI P nt ops o=some ai
 | [],is,h=>by cases h;exact⟨rfl,by simp⟩
 | o::ol,is,h=>by
  unfold pK at h
  split at h
  ·rename_i ai QI h1 h2
   cases h
   obtain⟨g1,g2⟩:=A7 h2
   refine⟨by simp[g1],fun i o' ho=>?_⟩
   cases i with
   |zero=>simp at ho;subst ho;exact⟨ai,rfl,h1⟩
   |succ i=>exact g2 i o' (by simpa using ho)
  ·cases h
theorem r7 {c9:Array Bool} {i:Nat} (h:i<c9.size):c9.getD i true=c9.getD i false:=by
 simp[h]
theorem qK.done {c9:Array Bool} {X Y:List (Nat×Nat)} {q b:Nat} {dV:List Pd} (hs:qK is af pt c9 (X++(q,b)::Y) dV) (hq:q<is.length)
 (FM : ∀ j∈gQ pt q,c9.getD j false=true):qK is af pt (c9.setIfInBounds q true) (X++Y) dV:=by
 obtain⟨g1,g2,g3,g4,g5⟩:=sB hs.ok
 have hqY:q∉Y.map (·.1):=fun hm=>by
  obtain⟨x,hx,rfl⟩:=zbh.1 hm
  exact(A6 g5 x hx).1 (by simp)
 refine⟨EC hs.ok,fun i hi=>?_,fun i hi hl j hj=>?_,by simp[hs.size],fun x hx=>hs.lt x (by simp at hx ⊢;exact hx.imp id .inr)⟩
 ·by_cases tv:i=q
  ·subst tv
   have:i<c9.size:=by rw[hs.size];exact hq
   simp only[zag,zaB,g2,hqY,or_self,not_false_eq_true,true_or,iff_true]
   simp[this]
  ·rw [getD_set_ne false (Ne.symm tv),hs.FK i hi]
   simp[tv]
 ·by_cases tv:i=q
  ·subst tv;exact getD_set_true (FM j hj)
  ·rw [getD_set_ne false (Ne.symm tv)]at hl
   exact getD_set_true (hs.cl i hi hl j hj)
theorem qK.flag {c9:Array Bool} {R:List (Nat×Nat)} {dV:List Pd} (hs:qK is af pt c9 R dV) {p:Pd} (hq:p.q<is.length)
 (FM : ∀ j∈gQ pt p.q,c9.getD j false=true):qK is af pt (c9.setIfInBounds p.q true) R (p::dV):=by
 refine⟨hs.ok,fun i hi=>?_,fun i hi hl j hj=>?_,by simp[hs.size],hs.lt⟩
 ·by_cases tv:i=p.q
  ·subst tv
   have:p.q<c9.size:=by rw[hs.size];exact hq
   simp[this]
  ·rw [getD_set_ne false (Ne.symm tv),hs.FK i hi]
   have eF:p.q≠i:=fun h=>tv h.symm
   simp[eF]
 ·by_cases tv:i=p.q
  ·subst tv;exact getD_set_true (FM j hj)
  ·rw [getD_set_ne false (Ne.symm tv)]at hl
   exact getD_set_true (hs.cl i hi hl j hj)
theorem Nw {ai:AI} (h:ai.kind = .alloc) : ∃ t z,ai = .op (some t) none (.alloc z):=by
 cases ai with
 | op dst g o=>
  unfold AI.kind at h
  split at h
  ·rename_i heq;cases heq;exact⟨_,_,rfl⟩
  ·rename_i heq
   cases heq
   exfalso
   revert h
   cases o<;>simp[AO.kind]
  ·cases h
 |call dst g f xs=>cases h
 |nil dst g n x=>cases h
 |jT dst g t xs=>cases h
theorem Nx {ops:Array Oper} (wu:pK P nt ops ops.toList=some is) (Ny:wP af pt is.length=true)
 (hK : ∀ tm cb s,Tm.eqv tm cb→K tm s→K cb s) {c9:Array Bool} {R:List (Nat×Nat)} {dV:List Pd} {act:Act} {w:World} (hs:qK is af pt c9 R dV) (h:yh P is K B nt R dV act w)
 (aeq : ∀ x l,R=x::l→∀ p∈dV,p.q≠x.1) {q:Nat} (hq:q<is.length) (Dc:c9.getD q false=false) (j8 : ∀ j∈gQ af q,j<is.length∧c9.getD j false=true)
 {Q:Exit→Act→World→Prop} {K2:Act→World→Prop} (QU : ∀ R' vr a' w',qK is af pt (c9.setIfInBounds q true) R' vr→yh P is K B nt R' vr a' w'→K2 a' w'):wpOp P ops Q q K2 act w:=by
 obtain⟨hlen,hE⟩:=A7 wu
 have uu:q<ops.size:=by rw[hlen]at hq;simpa using hq
 obtain⟨ai,vn,QV⟩:=hE q ops[q] (by simp[uu])
 have hi:ops[q]? = some ops[q]:=by simp[uu]
 have FM : ∀ j∈gQ pt q,c9.getD j false=true:=fun j hj=>by
  rcases BI Ny q hq j hj with h1|⟨k,h1,h2⟩
  ·exact(j8 j h1).2
  ·exact hs.cl k (j8 k h1).1 (j8 k h1).2 j h2
 have QW : ∀ p∈dV,p.q≠q:=fun p hp tw=>by
  have:=(hs.FK q hq).2 (.inr ⟨p,hp,tw⟩)
  rw[Dc]at this;cases this
 have hqR:q∈R.map (·.1):=by
  by_cases hm:q∈R.map (·.1)
  ·exact hm
  ·have:=(hs.FK q hq).2 (.inl hm)
   rw[Dc]at this;cases this
 obtain⟨⟨q',b⟩,hx,hqq⟩:=zbh.1 hqR
 simp only at hqq
 subst hqq
 obtain⟨X,Y,rfl⟩:=List.append_of_mem hx
 obtain⟨g1,g2,g3,g4,g5⟩:=sB hs.ok
 rw[zaJ]at g1 g5
 obtain⟨M,s,tm,sC,bU,e,r,ht,pV,hn,hd,hg,vq,r6⟩:=h
 have QX:jb is q'=ai.kind:=by simp[jb,vn]
 -- what must have come up ahead of it, is not here any more, but for what was allocated early
 have XT : ∀ a∈X.map (·.1),a∈gQ pt q'→∃ p∈dV,p.q=a:=fun a ha cY=>by
  have h1:=FM a cY
  obtain⟨x,hxX,rfl⟩:=zbh.1 ha
  rcases(hs.FK x.1 (hs.lt x (by simp[hxX]))).1 h1 with h2|h2
  ·exact(h2 (by simp;exact .inl ⟨x.2,hxX⟩)).elim
  ·exact h2
 have XU : ∀ x l,X=x::l→x.1∉gQ pt q':=fun x l hX hxp=>by
  obtain⟨p,hp,tw⟩:=XT x.1 (by simp[hX]) hxp
  exact aeq x (l++(q',b)::Y) (by simp[hX]) p hp tw
 have hpk : ∀ p∈dV,jb is p.q = .alloc:=fun p hp=>by simp[jb,(vq p hp).ai,AI.kind]
 have Cc : ∀ p∈dV,(p.q∈X.map (·.1)→kX is p.q q'=true)→(∀ t,ai.dst=some t→t≠p.t)∧p.t∉ai.reads:=fun p hp hX=>by
  have hk:=vq p hp
  have hm:=hk.mem
  simp only[zag,zaf,zaB,zaw]at hm
  rcases hm with hm|hm|hm
  ·have:=hX hm
   simp only[kX,hk.ai,vn]at this
   obtain⟨p1,p2,p3⟩:=apart_spec this
   exact⟨fun t ht he=>p3 p.t rfl (by rw[ht,he]),p1 p.t rfl⟩
  ·exact(QW p hp hm).elim
  ·obtain⟨x,hxY,XV⟩:=zbh.1 hm
   have:=(A6 g5 x hxY).2 (by rw[XV];exact hpk p hp) q' (by simp)
   rw[XV]at this
   simp only[kX,hk.ai,vn]at this
   obtain⟨p1,p2,p3⟩:=apart_spec this
   exact⟨fun t ht he=>p3 t ht (by rw[he];rfl),p2 p.t rfl⟩
 have QY:(∀ p∈dV,p.t∉ai.reads)→∀ t∈ai.reads,tm.get t=sC.get t:=fun hp t ht=>(pV t fun p hpm he=>hp p hpm (by rw[he];exact ht)).symm
 have XW : ∀ p∈dV,p.q∈(X++Y).map (·.1):=fun p hp=>by
  have hm:=(vq p hp).mem
  have:=QW p hp
  simp only[zag,zaf,zaB,zaw]at hm ⊢
  rcases hm with hm|hm|hm
  ·exact .inl hm
  ·exact(this hm).elim
  ·exact .inr hm
 by_cases rr:ai.kind = .alloc
 ·-- an allocation
  obtain⟨t,z,rfl⟩:=Nw rr
  have cY : ∀ a∈X.map (·.1),kX is a q'=true:=fun a ha=>by
   unfold oo at g1
   rw[QX,rr]at g1
   simp only[List.all_reverse,za0]at g1
   exact g1 a ha
  have FN:=fun p hp=>Cc p hp (cY p.q)
  refine Kq hi QV fun vs T hl h1 h2=>?_
  obtain⟨r1,e1,u1⟩:=r.idle (.cells vs T)
  have abi:t<act.tmps.size:=by
   rw[hn]
   exact xc QV t (by rw[← sA QV];rfl)
  have:=hs.flag (p:=⟨q',t,z,w.heap.size⟩) hq FM
  refine QU _ _ _ _ this ⟨M,s,tm,sC.put (some t) .junk,bU,e.trans e1,r1,lM.put ht (dst:=some t) (fun u hu=>by cases hu;exact abi) (.junk _),fun u hu=>?_,by simp[Act.put,hn],by simp[Act.put,hd],hg,fun p hp=>?_,fun p hp p' mI he=>?_⟩
  ·have h3:=hu ⟨q',t,z,w.heap.size⟩ (by simp)
   rw[Tm.k8,if_neg (by simpa using h3)]
   exact pV u fun p hp=>hu p (zaA _ hp)
  ·rcases zaw.1 hp with rfl | hp
   ·refine⟨by simp,vn,⟨vs,T,heap_alloc_new w _,hl,h1,h2⟩,u1,e.size, ?_⟩
    simp[Act.put,abi]
   ·have hk:=vq p hp
    obtain⟨fe,T',jQ,jP,pw,sx⟩:=hk.cells
    refine⟨hk.mem,hk.ai,⟨fe,T',by rw[heap_alloc_old w _ _ (kI jQ)];exact jQ,jP,pw,sx⟩,hk.unk,hk.base, ?_⟩
    rw[← hk.slot]
    have eF:t≠p.t:=(FN p hp).1 t rfl
    simp[Act.put,zbw eF]
  ·have dK : ∀ p∈dV,¬ (q'=p.q∨t=p.t∨w.heap.size=p.b):=fun p hp h=>by
    rcases h with h|h|h
    ·exact QW p hp h.symm
    ·exact(FN p hp).1 t rfl h
    ·obtain⟨fe,T',jQ,_⟩:=(vq p hp).cells
     have:=kI jQ
     omega
   rcases zaw.1 hp with rfl|hp<;>rcases zaw.1 mI with rfl|mI
   ·rfl
   ·exact(dK p' mI he).elim
   ·exact(dK p hp (he.imp Eq.symm (Or.imp Eq.symm Eq.symm))).elim
   ·exact r6 p hp p' mI he
 ·by_cases nL:gn ai.kind=true
  ·-- a step that changes something: it stands first
   have hkc:ai.kind = .core:=by
    cases hk:ai.kind<;>simp_all [gn]
   have hX:X = []:=by
    cases X with
    |nil=>rfl
    |cons x l=>
     refine(XU x l rfl ?_).elim
     unfold oo at g1
     rw[QX,hkc]at g1
     simp only[List.all_reverse,za0]at g1
     have:=g1 x.1 (by simp)
     rwa [za2]at this
   subst hX
   have FN:=fun p hp=>Cc p hp (fun h=>by simp at h)
   simp only[zaR,kK,vn,nL]at hg
   obtain⟨d,s1,sj,hg⟩:=hg
   have ahj:=wk (QY fun p hp=>(FN p hp).2) sj
   refine wpOp_mono (fun a' w' hr=>QU _ _ _ _ (hs.done hq FM) hr) ?_
   exact XR hi QV e r ht pV hn hd vq r6 (Iq ahj) hg XW (fun p hp he=>(FN p hp).1 _ he rfl)
  ·-- a step that changes nothing
   have hm:gn ai.kind=false:=by simpa using nL
   have oG : ∀ a∈X.map (·.1),a∉gQ pt q':=fun a ha cY=>by
    obtain⟨p,hp,tw⟩:=XT a ha cY
    have FF:jb is a = .alloc:=by rw[← tw];exact hpk p hp
    have kC:kS is (gQ pt q') (X.map (·.1)).reverse=true:=by
     unfold oo at g1
     rw[QX]at g1
     cases hk:ai.kind with
     |pure=>simp only[hk,zaq]at g1;exact g1.2
     |load=>simp only[hk,zaq]at g1;exact g1.1.2
     |alloc=>exact(rr hk).elim
     |core=>rw[hk]at hm;cases hm
    cases X with
    |nil=>simp at ha
    | cons x l=>
     have ha2:a∈((x::l).map (·.1)).reverse:=List.mem_reverse.2 ha
     obtain⟨l1,l2,oH⟩:=List.append_of_mem ha2
     have rI:=xf kC a l1 l2 oH FF cY
     refine XU x l rfl ?_
     cases ew:l2.reverse with
     |nil=>
      have h3:l2 = []:=by simpa using ew
      subst h3
      have:=congrArg List.reverse oH
      simp at this
      rw[this.1];exact cY
     |cons y l3=>
      have:=congrArg List.reverse oH
      simp only[List.reverse_reverse,zaf,List.reverse_append,List.reverse_cons,List.reverse_nil,zaD,ew,zaH,zaR,List.cons.injEq]at this
      rw[this.1]
      exact rI y (by rw[← List.mem_reverse,ew];simp)
   have cY : ∀ a∈X,kX is a.1 q'=true:=fun a ha=>by
    have h3 : ∀ x∈(X.map (·.1)).reverse,((gQ pt q').contains x ||kX is x q')=true:=by
     unfold oo at g1
     rw[QX]at g1
     cases hk:ai.kind with
     |pure=>simp only[hk,zaq]at g1;exact za0.1 g1.1
     |load=>simp only[hk,zaq]at g1;exact za0.1 g1.1.1
     |alloc=>exact(rr hk).elim
     |core=>rw[hk]at hm;cases hm
    have:=h3 a.1 (List.mem_reverse.2 (zaT ha))
    simp only[zay,za2]at this
    exact this.resolve_left (oG a.1 (zaT ha))
   have abj:ai.kind = .load→jn is (X.map (·.1))≤b:=fun hk=>by
    unfold oo at g1
    rw[QX,hk]at g1
    simp only[zaq,decide_eq_true_eq]at g1
    have h3:=g1.2
    have h4:(X.map (·.1)).reverse.filter (fun a=> !(gQ pt q').contains a)=(X.map (·.1)).reverse:=by
     rw[List.filter_eq_self]
     intro a ha
     have:=oG a (List.mem_reverse.1 ha)
     simpa using this
    rw[h4]at h3
    unfold jn at h3 ⊢
    rw[List.filter_reverse,List.length_reverse]at h3
    exact h3
   have FN:=fun p hp=>Cc p hp (fun h=>by
    obtain⟨x,hx,XV⟩:=zbh.1 h
    rw[← XV];exact cY x hx)
   obtain⟨d,h1,_,lQ⟩:=wo hK vn hm Y X bU tm s cY abj hg
   have pw:jG ai sC s=some d:=by rw[← qj (QY fun p hp=>(FN p hp).2)];exact h1
   refine wpOp_mono (fun a' w' hr=>QU _ _ _ _ (hs.done hq FM) hr) ?_
   exact XR hi QV e r ht pV hn hd vq r6 (Nv hm pw) lQ XW (fun p hp he=>(FN p hp).1 _ he rfl)
theorem BJ {o:Oper} {j:Nat} : j∈kY o↔∃ e∈o.after,Region.binds .any e=true∧e.on=j:=by
 simp only[kY,zbh,List.mem_filter,zaQ]
 constructor
 ·rintro⟨e,⟨h1,h2⟩,h3⟩;exact⟨e,h1,h2,h3⟩
 ·rintro⟨e,h1,h2,h3⟩;exact⟨e,⟨h1,h2⟩,h3⟩
theorem NA {ops:Array Oper} (wu:pK P nt ops ops.toList=some is) (Ny:wP (ops.toList.map kY) pt is.length=true)
 (abk : ∀ i,i<is.length→∀ j∈gQ (ops.toList.map kY) i,j<is.length) {Q:Exit→Tm→St→Prop} (hK : ∀ tm cb s,Tm.eqv tm cb→K tm s→K cb s)
 (hKQ : ∀ tm s act w,K tm s→Holds B nt tm s act w→pD B nt Q .normal act w) :
 ∀ (fuel:Nat) (c9:Array Bool) (R:List (Nat×Nat)) (dV:List Pd) (act:Act) (w:World) (U:List Nat),U.length≤fuel→(∀ j,j<is.length→c9.getD j false=false→j∈U)→
  qK is (ops.toList.map kY) pt c9 R dV→yh P is K B nt R dV act w→wpAny P .any ops (pD B nt Q) fuel c9 act w:=by
 obtain⟨hlen,_⟩:=A7 wu
 have rV:is.length=ops.size:=by rw[hlen];simp
 have abl : ∀ (j:Nat) (o:Oper),ops[j]? = some o→gQ (ops.toList.map kY) j=kY o:=fun j o h=>by
  simp[gQ,List.getD,h]
 have fin : ∀ {c9:Array Bool} {dV:List Pd} {act:Act} {w:World},yh P is K B nt [] dV act w→pD B nt Q .normal act w:=by
  intro c9 dV act w h
  obtain⟨M,s,tm,sC,bU,e,r,ht,pV,hn,hd,hg,vq,r6⟩:=h
  have H9 : ∀ p∈dV,False:=fun p hp=>by have:=(vq p hp).mem;simp at this
  exact hKQ sC s act w (hK tm sC s (fun t=>(pV t fun p hp=>(H9 p hp).elim).symm) hg) ⟨M,e,r,ht,hn,hd⟩
 have QZ : ∀ {c9:Array Bool} {R:List (Nat×Nat)} {dV:List Pd} {x:Nat×Nat} {l:List (Nat×Nat)},qK is (ops.toList.map kY) pt c9 R dV→R=x::l→(∀ p∈dV,p.q≠x.1)→
  x.1∈Region.ready .any ops c9:=by
  intro c9 R dV x l hs hR QW
  subst hR
  have hx:=hs.lt x (by simp)
  rw[mem_ready]
  have Dc:c9.getD x.1 false=false:=by
   cases hl:c9.getD x.1 false with
   |false=>rfl
   |true=>
    rcases(hs.FK x.1 hx).1 hl with h1|⟨p,hp,tw⟩
    ·exact(h1 (by simp)).elim
    ·exact(QW p hp tw).elim
  have hxo:x.1<ops.size:=by rw[← rV];exact hx
  refine⟨by rw[r7 (by rw[hs.size];exact hx)];exact Dc,ops[x.1],by simp[hxo],fun e he hb=>?_⟩
  have hm:e.on∈gQ (ops.toList.map kY) x.1:=by rw[abl x.1 ops[x.1] (by simp[hxo])];exact BJ.2 ⟨e,he,hb,rfl⟩
  obtain⟨_,_,_,g4,_⟩:=sB (X:= []) (q:=x.1) (b:=x.2) hs.ok
  obtain⟨h1,h2⟩:=g4 _ hm
  refine(hs.FK e.on (abk x.1 hx _ hm)).2 (.inl ?_)
  simp only[zaf,zaw,not_or]
  exact⟨h1,h2⟩
 intro fuel
 induction fuel with
 | zero=>
  intro c9 R dV act w U hU Dc hs h
  obtain⟨R',vr,ox,h',hn⟩:=norm R dV hs h
  have hUn:U = []:=List.length_eq_zero_iff.1 (by omega)
  have rI : ∀ j,j<is.length→c9.getD j false=true:=fun j hj=>by
   cases hl:c9.getD j false with
   |true=>rfl
   |false=>have:=Dc j hj hl;rw[hUn]at this;cases this
  have hR:R' = []:=by
   cases hR:R' with
   |nil=>rfl
   |cons x l=>
    have hx:=ox.lt x (by simp[hR])
    have:=QZ ox hR (hn x l hR)
    rw[mem_ready,r7 (by rw[ox.size];exact hx),rI x.1 hx]at this
    cases this.1
  subst hR
  refine⟨?_,fin (c9:=c9) h'⟩
  cases hr:Region.ready .any ops c9 with
  |nil=>rfl
  |cons j js=>
   have hj:j∈Region.ready .any ops c9:=by rw[hr];simp
   rw[mem_ready]at hj
   obtain⟨h1,o,ho,_⟩:=hj
   have BK:j<is.length:=by rw[rV];exact(zaS.1 ho).1
   rw[r7 (by rw[hs.size];exact BK),rI j BK]at h1
   cases h1
 | succ fuel ih=>
  intro c9 R dV act w U hU Dc hs h
  obtain⟨R',vr,ox,h',hn⟩:=norm R dV hs h
  refine⟨fun hr=>?_,fun i hi=>?_⟩
  ·cases hR:R' with
   |nil=>subst hR;exact fin (c9:=c9) h'
   |cons x l=>
    have:=QZ ox hR (hn x l hR)
    rw[hr]at this
    cases this
  ·rw [mem_ready]at hi
   obtain⟨h1,o,ho,NB⟩:=hi
   have px:i<is.length:=by rw[rV];exact(zaS.1 ho).1
   rw[r7 (by rw[hs.size];exact px)]at h1
   refine Nx wu Ny hK ox h' hn px h1 (fun j hj=>⟨abk i px j hj, ?_⟩) fun R2 aer a2 w2 FB h2=>?_
   ·rw [abl i o ho]at hj
    obtain⟨e,he,hb,rfl⟩:=BJ.1 hj
    exact NB e he hb
   ·refine ih _ R2 aer a2 w2 (U.erase i) ?_ (fun j hj hl=> ?_) FB h2
    ·have:=List.length_erase_of_mem (Dc i px h1)
     omega
    ·have hji:j≠i:=fun e=>by
      subst e
      have:j<c9.size:=by rw[hs.size];exact px
      simp[this]at hl
     rw[getD_set_ne false (Ne.symm hji)]at hl
     exact(List.mem_erase_of_ne hji).2 (Dc j hj hl)
theorem Sem.par {is:List AI} {lH:List (Nat×Nat)} {Q:Exit→Tm→St→Prop} {tm:Tm} {s:St} (h:kK P is (Q .normal) lH [] tm s):Sem P B nt (.par is lH) Q tm s:=by
 intro c hc act w hh
 obtain⟨id,ops,rfl,hi,hm,pt,hp⟩:=lg hc
 simp only[CP,zaq,za0,List.mem_range,za2,decide_eq_true_eq]at hp
 obtain⟨⟨⟨⟨h1,h2⟩,h3⟩,h4⟩,h5⟩:=hp
 obtain⟨hlen,_⟩:=A7 hi
 have rV:is.length=ops.size:=by rw[hlen];simp
 refine wp_region_any hm ?_
 obtain⟨M,e,r,ht,hn,hd⟩:=hh
 have key : ∀ (R:List (Nat×Nat)) (bU:List St) (tm:Tm) (s:St),kK P is (Q .normal) R bU tm s→kK P is (fun tm s=>∃ cb,tm.eqv cb∧Q .normal cb s) R bU tm s:=by
  intro R
  induction R with
  |nil=>intro bU tm s h;exact⟨tm,fun _=>rfl,h⟩
  | cons x R ih=>
   obtain⟨q,b⟩:=x
   intro bU tm s h
   unfold kK at h ⊢
   split at h
   ·exact h.elim
   ·split at h
    ·obtain⟨d,s',h1,h2⟩:=h;exact⟨d,s',h1,ih _ _ _ h2⟩
    ·obtain⟨d,h1,h2,h3⟩:=h;exact⟨d,h1,h2,ih _ _ _ h3⟩
 have hg:=key _ _ _ _ h
 refine NA (K:=fun tm s=>∃ cb,tm.eqv cb∧Q .normal cb s) hi h1 h5 (fun tm cb s he ⟨t2,h3,h4⟩=>⟨t2,fun t=>(he t).symm.trans (h3 t),h4⟩)
  (fun tm s act w ⟨t2,h3,h4⟩ ⟨M,e,r,ht,hn,hd⟩=>⟨t2,s,h4,M,e,r,fun t=>by rw[← h3 t];exact ht t,hn,hd⟩) ops.size _ lH [] act _ (List.range is.length) (by simp[rV]) (fun j hj _=>by simpa using hj)
  ⟨h2,fun i hi=>?_,fun i hi hl=>?_,by simp[rV],h4⟩ ⟨M,s,tm,tm,[],⟨e.le,e.kept,e.uc,e.qA,e.sT,e.size,e.os,e.tape,e.output⟩,r.of_heap rfl,ht,fun _ _=>rfl,hn,hd,hg,by simp,by simp⟩
 ·have:i<ops.size:=by rw [← rV];exact hi
  have h6:=h3 i hi
  simp only[List.not_mem_nil,false_and,exists_false,or_false]
  rw[show(Array.replicate ops.size false).getD i false=false by simp[this]]
  simp[h6]
 ·have:i<ops.size:=by rw [← rV];exact hi
  rw[show(Array.replicate ops.size false).getD i false=false by simp[this]]at hl
  cases hl
end
end Go.Abs
namespace Go.Abs
theorem YH (k:IntKind) (n:Int):D.row (.int k n)=some [.int k n]:=rfl
theorem Uv (b:Bool):D.row (.bool b)=some [.bool b]:=rfl
theorem YI (l:List UInt8):D.row (.str l)=some [.str l]:=rfl
theorem Uw:D.row .fx=some [.fx]:=rfl
theorem YJ (o f:Nat):D.row (.ptr o f)=some [.ptr o f]:=rfl
theorem Ux (r:List D) (f:Nat):D.row (.dJ r f)=some [.dJ r f]:=rfl
theorem Q1 (g:Tag) (z:Nat) (r:List (List D)):D.row (.slice g z r)=some [.slice g z r]:=rfl
theorem YK (cs:List D):D.row (.agg cs)=some cs:=rfl
theorem YL (v:Value):D.row (.val v)=some [.val v]:=rfl
theorem Q2 (T:TypeId) (o:Nat):D.row (.fC T o)=some [.fC T o]:=rfl
theorem YM (f:Nat) (cs:List D):D.row (.gK f cs)=some [.gK f cs]:=rfl
theorem Uy (o:Nat):D.row (.gH o)=some [.gH o]:=rfl
theorem Uz (w:Bool):Tag.cut .full w=if w then .full else .shared:=rfl
theorem NC (w:Bool):Tag.cut .shared w = .shared:=rfl
theorem UA (t:Nat) (y:Bool) (w:Bool):Tag.cut (.tok t y) w = .tok t y:=rfl
section
variable {P:Program}
def KC (P:Program) (r:List AI) (K:Tm→St→Prop) (tm:Tm) (dst:Option Nat) (d:D) (s:St):Prop:=iR P r K (tm.put dst d) s
def GI (P:Program) (g:D) (want:Bool) (i:AI) (r:List AI) (K:Tm→St→Prop) (tm:Tm) (s:St):Prop:=
 match g with
 | .bool b=>(b=want→iR P (i::r) K tm s)∧(b=(!want)→iR P r K (tm.put i.dst (.tuple [])) s)
 | .tuple _=>iR P r K (tm.put i.dst (.tuple [])) s
 |_=>False
def NI (P:Program) (dst:Option Nat) (neg:Bool) (x:D) (r:List AI) (K:Tm→St→Prop) (tm:Tm) (s:St):Prop:=
 match x with
 | .slice _ _ rows=>∀ b:Bool,(rows≠ []→b=false)→iR P r K (tm.put dst (.bool (if neg then !b else b))) s
 |_=>False
def tM (d:D) (A C:Prop):Prop:=
 match d with
 | .bool b=>(b=true→A)∧(b=false→C)
 |_=>False
theorem Sem.aes {B:eQ} {nt:Nat} {Q:Exit→Tm→St→Prop} {tm:Tm} {s:St} {x:X} {a b:AC} (h:tM (x.ev tm) (Sem P B nt a Q tm s) (Sem P B nt b Q tm s)):Sem P B nt (.cond x a b) Q tm s:=by
 unfold tM at h
 split at h
 ·rename_i t ht
  exact Sem.cond ht h.1 h.2
 ·exact h.elim
def gC (P:Program) (K:Tm→St→Prop):List (AI×Nat)→List St→Tm→St→Prop
 | [],_,tm,s=>K tm s
 |(ai,b)::r,bU,tm,s=>
  match gn ai.kind with
  |true=>∃ d s',rY P ai tm s d s'∧gC P K r (s::bU) (tm.put ai.dst d) s'
  |false=>∃ d,jG ai tm s=some d∧(ai.kind = .load→∀ s'∈bU.take b,jG ai tm s'=some d)∧gC P K r bU (tm.put ai.dst d) s
def mL (is:List AI):List (Nat×Nat)→Option (List (AI×Nat))
 | []=>some []
 |(q,b)::r=>match is[q]?,mL is r with
  |some ai,some l=>some ((ai,b)::l)
  |_,_=>none
theorem ED {is:List AI} {K:Tm→St→Prop} : ∀ {lH:List (Nat×Nat)} {items:List (AI×Nat)} {bU:List St} {tm:Tm} {s:St},mL is lH=some items→gC P K items bU tm s→kK P is K lH bU tm s
 | [],items,bU,tm,s,h,g=>by cases h;exact g
 | (q,b)::r,items,bU,tm,s,h,g=>by
  simp only[mL]at h
  split at h
  ·rename_i ai l h1 h2
   cases h
   simp only[gC]at g
   simp only[kK,h1]
   split at g
   ·rename_i hk
    obtain⟨d,s',g1,g2⟩:=g
    try simp only[hk]
    exact⟨d,s',g1,ED h2 g2⟩
   ·rename_i hk
    obtain⟨d,g1,g2,g3⟩:=g
    try simp only[hk]
    exact⟨d,g1,g2,ED h2 g3⟩
  ·cases h
theorem Sem.ahk {B:eQ} {nt:Nat} {Q:Exit→Tm→St→Prop} {tm:Tm} {s:St} {is:List AI} {lH:List (Nat×Nat)} {items:List (AI×Nat)} (hi:mL is lH=some items) (h:gC P (Q .normal) items [] tm s):Sem P B nt (.par is lH) Q tm s:=
 Sem.par (ED hi h)
def AI.free:AI→AI
 | .op d _ o=> .op d none o
 | .call d _ f xs=> .call d none f xs
 | .nil d _ n x=> .nil d none n x
 | .jT d _ t xs=> .jT d none t xs
def GL (P:Program) (g:D) (want:Bool) (i:AI) (b:Nat) (r:List (AI×Nat)) (K:Tm→St→Prop) (bU:List St) (tm:Tm) (s:St):Prop:=
 match g with
 | .bool v=>(v=want→gC P K ((i,b)::r) bU tm s)∧(v=(!want)→gC P K r (if gn i.kind then s::bU else bU) (tm.put i.dst (.tuple [])) s)
 | .tuple _=>gC P K r (if gn i.kind then s::bU else bU) (tm.put i.dst (.tuple [])) s
 |_=>False
def CL (one:Bool) (P:Program) (f:Nat) (args:List D) (s:St) (K:D→St→Prop):Prop:=
 match one with
 |true=>∃ d s',aC P f args s d s'∧K d s'
 |false=>dG P f args s K
def KL (P:Program) (K:Tm→St→Prop) (r:List (AI×Nat)) (bU:List St) (tm:Tm) (dst:Option Nat) (d:D) (s:St):Prop:=gC P K r bU (tm.put dst d) s
def nN (i:AI) (tm:Tm) (d:D):List St→Prop
 | []=>True
 |s::r=>jG i tm s=some d∧nN i tm d r
theorem Dd {i:AI} {tm:Tm} {d:D} : ∀ {l:List St},nN i tm d l→∀ s∈l,jG i tm s=some d
 | [],_,s,h=>by cases h
 |a::l,h,s,hs=>by
  rcases zaw.1 hs with rfl|hs
  ·exact h.1
  ·exact Dd h.2 s hs
def PL (P:Program) (o:AO) (dst:Option Nat) (b:Nat) (r:List (AI×Nat)) (K:Tm→St→Prop) (bU:List St) (tm:Tm) (s:St):Prop:=
 match a6 o tm s with
 |some (d,_)=>nN (.op dst none o) tm d (bU.take b)∧gC P K r bU (tm.put dst d) s
 |none=>False
def ML (P:Program) (o:AO) (dst:Option Nat) (r:List (AI×Nat)) (K:Tm→St→Prop) (bU:List St) (tm:Tm) (s:St):Prop:=
 match a6 o tm s with
 |some (d,s')=>gC P K r (s::bU) (tm.put dst d) s'
 |none=>False
def AO.core:AO→Bool
 | .alloc _=>true
 | .box _=>true
 | .ud .. =>true
 | .zp _=>true
 | .store .. =>true
 | .app .. =>true
 | .sg .. =>true
 | .zr .. =>true
 | .zt .. =>true
 | .apps .. =>true
 | .vb=>true
 | .zu .. =>true
 | .zv .. =>true
 |_=>false
theorem sD (dst:Option Nat) (g:Option (Nat×Bool)) (o:AO):gn (AI.op dst g o).kind=o.core:=by
 cases dst<;>cases g<;>cases o<;>rfl
def OL (P:Program) (o:AO) (dst:Option Nat) (b:Nat) (r:List (AI×Nat)) (K:Tm→St→Prop) (bU:List St) (tm:Tm) (s:St):Prop:=
 match o.core with
 |true=>ML P o dst r K bU tm s
 |false=>PL P o dst b r K bU tm s
theorem Ir {K:Tm→St→Prop} {dst:Option Nat} {o:AO} {b:Nat} {r:List (AI×Nat)} {bU:List St} {tm:Tm} {s:St} (h:OL P o dst b r K bU tm s) :
 gC P K ((.op dst none o,b)::r) bU tm s:=by
 unfold OL at h
 simp only[gC,sD]
 cases hc:o.core with
 | true=>
  simp only[hc,ML]at h
  simp only[]
  split at h
  ·rename_i d s' he
   exact⟨d,s',by simpa[rY,guarded]using he,h⟩
  ·exact h.elim
 | false=>
  simp only[hc,PL]at h
  simp only[]
  split at h
  ·rename_i d s' he
   exact⟨d,by simp[jG,he],fun _=>Dd h.1,h.2⟩
  ·exact h.elim
theorem ND {K:Tm→St→Prop} {dst:Option Nat} {f:Nat} {xs:List X} {b:Nat} {r:List (AI×Nat)} {bU:List St} {tm:Tm} {s:St} (h:CL true P f (xs.map (·.ev tm)) s (KL P K r (s::bU) tm dst)) :
 gC P K ((.call dst none f xs,b)::r) bU tm s:=by
 obtain⟨d,s',h1,h2⟩:=h
 exact⟨d,s',h1,h2⟩
theorem abm {K:Tm→St→Prop} {i:AI} {t:Nat} {w:Bool} {b:Nat} {r:List (AI×Nat)} {bU:List St} {tm:Tm} {s:St} {j:AI} (hf:(∃ d o,i = .op d none o∧j = .op d (some (t,w)) o)∨(∃ d f xs,i = .call d none f xs∧j = .call d (some (t,w)) f xs))
 (hg:tm.get t = .bool w) (h:gC P K ((i,b)::r) bU tm s):gC P K ((j,b)::r) bU tm s:=by
 rcases hf with ⟨d,o,rfl,rfl⟩|⟨d,f,xs,rfl,rfl⟩
 ·simp only [gC,sD]at h ⊢
  cases hc:o.core<;>simp only[hc]at h ⊢
  ·obtain⟨x,h1,h2,h3⟩:=h
   refine⟨x,by simpa[jG,hg]using h1,fun hk s' ox=>?_,h3⟩
   have mw:(AI.op d none o).kind = .load:=by
    cases d<;>cases o<;>first|exact hk|(cases hc;done)|(cases hk;done)
   simpa[jG,hg]using h2 mw s' ox
  ·obtain⟨x,s',h1,h2⟩:=h
   exact⟨x,s',by simpa[rY,guarded,hg]using h1,h2⟩
 ·obtain⟨x,s',h1,h2⟩:=h
  exact⟨x,s',by simpa[rY,guarded,hg]using h1,h2⟩
theorem Q3 {K:Tm→St→Prop} {i:AI} {t:Nat} {w:Bool} {b:Nat} {r:List (AI×Nat)} {bU:List St} {tm:Tm} {s:St} {j:AI} (hf:(∃ d o,i = .op d none o∧j = .op d (some (t,w)) o)∨(∃ d f xs,i = .call d none f xs∧j = .call d (some (t,w)) f xs))
 (hg:tm.get t = .bool (!w)∨∃ l,tm.get t = .tuple l) (h:gC P K r (if gn i.kind then s::bU else bU) (tm.put i.dst (.tuple [])) s):gC P K ((j,b)::r) bU tm s:=by
 rcases hf with ⟨d,o,rfl,rfl⟩|⟨d,f,xs,rfl,rfl⟩
 ·simp only [gC,sD]at h ⊢
  cases hc:o.core<;>simp only[hc]at h ⊢
  ·refine⟨.tuple [], ?_,fun hk s' ox=> ?_,h⟩
   ·rcases hg with hg|⟨l,hg⟩<;>simp[jG,hg]
   ·rcases hg with hg|⟨l,hg⟩<;>simp[jG,hg]
  ·refine⟨.tuple [],s, ?_,h⟩
   rcases hg with hg|⟨l,hg⟩<;>simp[rY,guarded,hg]
 ·refine⟨.tuple [],s, ?_,h⟩
  rcases hg with hg|⟨l,hg⟩<;>simp[rY,guarded,hg]
theorem LA {K:Tm→St→Prop} {i j:AI} {t:Nat} {w:Bool} {b:Nat} {r:List (AI×Nat)} {bU:List St} {tm:Tm} {s:St} (hf:(∃ d o,i = .op d none o∧j = .op d (some (t,w)) o)∨(∃ d f xs,i = .call d none f xs∧j = .call d (some (t,w)) f xs))
 (h:GL P (tm.get t) w i b r K bU tm s):gC P K ((j,b)::r) bU tm s:=by
 unfold GL at h
 split at h
 ·rename_i v hv
  by_cases e:v=w
  ·exact abm hf (by rw[hv,e]) (h.1 e)
  ·exact Q3 hf (.inl (by rw[hv];cases v<;>cases w<;>simp_all)) (h.2 (by cases v<;>cases w<;>simp_all))
 ·rename_i l hl
  exact Q3 hf (.inr ⟨l,hl⟩) h
 ·exact h.elim
theorem FP {K:Tm→St→Prop} {dst:Option Nat} {o:AO} {t:Nat} {w:Bool} {b:Nat} {r:List (AI×Nat)} {bU:List St} {tm:Tm} {s:St} (h:GL P (tm.get t) w (.op dst none o) b r K bU tm s) :
 gC P K ((.op dst (some (t,w)) o,b)::r) bU tm s:=LA (.inl ⟨dst,o,rfl,rfl⟩) h
theorem Ks {K:Tm→St→Prop} {dst:Option Nat} {f:Nat} {xs:List X} {t:Nat} {w:Bool} {b:Nat} {r:List (AI×Nat)} {bU:List St} {tm:Tm} {s:St} (h:GL P (tm.get t) w (.call dst none f xs) b r K bU tm s) :
 gC P K ((.call dst (some (t,w)) f xs,b)::r) bU tm s:=LA (.inr ⟨dst,f,xs,rfl,rfl⟩) h
theorem CL.use {one:Bool} {f:Nat} {args:List D} {s:St} {d:D} {s':St} {K:D→St→Prop} (h:aC P f args s d s') (hk:K d s'):CL one P f args s K:=
 match one with
 |true=>⟨d,s',h,hk⟩
 |false=>h.use hk
theorem CU {one:Bool} {f:Nat} {args:List D} {s:St} {d:D} {s':St} {K:D→St→Prop} (h:aC P f args s d s') (hk:K d s'):CL one P f args s K:=CL.use h hk
theorem CL.EE {one:Bool} {f:Nat} {args lT:List D} {s:St} {d:D} {s':St} {K:D→St→Prop} (h:aC P f lT s d s') (ha:mC args lT) (hk:K d s'):CL one P f args s K:=CL.use (dG.zT ha h) hk
end
end Go.Abs
namespace Go.Abs
theorem nd {α:Type} {a b:α} (h:a=b):a=b:=h
def GJ (g:D) (w:Bool) (A C:Prop):Prop:=
 match g with
 | .bool b=>(b=w→A)∧(b=(!w)→C)
 | .tuple _=>C
 |_=>False
class Two where
 a:Prop
 c:Prop
def CB (d:D) [b:Two] : Prop:=tM d b.a b.c
def GB (d:D) (w:Bool) [b:Two] : Prop:=GJ d w b.a b.c
def mM (g:Option (Nat×Bool)) (tm:Tm) (A C:Prop):Prop:=
 match g with
 |none=>A
 |some (t,w)=>GJ (tm.get t) w A C
def j9 (P:Program):List AI→(Tm→St→Prop)→Tm→St→Prop
 | [],K,tm,s=>K tm s
 | .op dst g o::r,K,tm,s=>mM g tm (match a6 o tm s with|some (d,s')=>j9 P r K (tm.put dst d) s'|none=>False) (j9 P r K (tm.put dst (.tuple [])) s)
 | .call dst g f xs::r,K,tm,s=>mM g tm (CL false P f (xs.map (·.ev tm)) s fun d s'=>j9 P r K (tm.put dst d) s') (j9 P r K (tm.put dst (.tuple [])) s)
 | .nil dst g neg x::r,K,tm,s=>
  mM g tm (match x.ev tm with
   | .slice _ _ rows=>∀ b:Bool,(rows≠ []→b=false)→j9 P r K (tm.put dst (.bool (if neg then !b else b))) s
   |_=>False) (j9 P r K (tm.put dst (.tuple [])) s)
 | .jT dst g t xs::r,K,tm,s=>
  mM g tm (match tm.get t with
   | .gK f nn=>enters P f=true∧CL false P f (xs.map (·.ev tm)++nn) s fun d s'=>j9 P r K (tm.put dst d) s'
   |_=>False) (j9 P r K (tm.put dst (.tuple [])) s)
theorem r8 {g:Option (Nat×Bool)} {tm:Tm} {A C A' C':Prop} (h:mM g tm A C) (ha:A→A') (hc:C→C'):guarded g tm A' C':=by
 unfold mM at h
 unfold guarded
 cases g with
 |none=>exact ha h
 | some p=>
  obtain⟨t,w⟩:=p
  simp only[GJ]at h ⊢
  split at h
  ·rename_i hb;try simp only [hb]
   exact⟨fun e=>ha (h.1 e),fun e=>hc (h.2 e)⟩
  ·rename_i hb;try simp only [hb]
   exact hc h
  ·exact h.elim
theorem nT {P:Program} {K:Tm→St→Prop} : ∀ {is:List AI} {tm:Tm} {s:St},j9 P is K tm s→iR P is K tm s
 | [],tm,s,h=>h
 | .op dst g o::r,tm,s,h=>by
  refine r8 h (fun h=>?_) nT
  split at h
  ·rename_i he;try simp only [he]
   exact nT h
  ·exact h.elim
 | .call dst g f xs::r,tm,s,h=>r8 h (fun h=>dG.mono h fun _ _ h=>nT h) nT
 | .nil dst g neg x::r,tm,s,h=>by
  refine r8 h (fun h=>?_) nT
  split at h
  ·rename_i he;try simp only [he]
   exact fun b hb=>nT (h b hb)
  ·exact h.elim
 | .jT dst g t xs::r,tm,s,h=>by
  refine r8 h (fun h=>?_) nT
  split at h
  ·rename_i he;try simp only [he]
   exact⟨h.1,dG.mono h.2 fun _ _ h=>nT h⟩
  ·exact h.elim
def fQ (P:Program) (K:Tm→St→Prop):List (AI×Nat)→List St→Tm→St→Prop
 | [],_,tm,s=>K tm s
 |(.op dst g o,b)::r,bU,tm,s=>
  match o.core with
  |true=>mM g tm (match a6 o tm s with|some (d,s')=>fQ P K r (s::bU) (tm.put dst d) s'|none=>False) (fQ P K r (s::bU) (tm.put dst (.tuple [])) s)
  |false=>mM g tm (match a6 o tm s with|some (d,_)=>nN (.op dst none o) tm d (bU.take b)∧fQ P K r bU (tm.put dst d) s|none=>False) (fQ P K r bU (tm.put dst (.tuple [])) s)
 |(.call dst g f xs,_)::r,bU,tm,s=>mM g tm (CL true P f (xs.map (·.ev tm)) s fun d s'=>fQ P K r (s::bU) (tm.put dst d) s') (fQ P K r (s::bU) (tm.put dst (.tuple [])) s)
 |(.nil ..,_)::_,_,_,_=>False
 |(.jT ..,_)::_,_,_,_=>False
theorem zY {P:Program} {t:Nat} {w:Bool} {tm:Tm} {i:AI} {b:Nat} {r:List (AI×Nat)} {K:Tm→St→Prop} {bU:List St} {s:St} {A C:Prop} (h:mM (some (t,w)) tm A C) (ha:A→gC P K ((i,b)::r) bU tm s)
 (hc:C→gC P K r (if gn i.kind then s::bU else bU) (tm.put i.dst (.tuple [])) s):GL P (tm.get t) w i b r K bU tm s:=by
 simp only[mM,GJ]at h
 unfold GL
 split at h
 ·rename_i hb;try simp only [hb]
  exact⟨fun e=>ha (h.1 e),fun e=>hc (h.2 e)⟩
 ·rename_i hb;try simp only [hb]
  exact hc h
 ·exact h.elim
theorem mf {P:Program} {K:Tm→St→Prop} : ∀ {l:List (AI×Nat)} {bU:List St} {tm:Tm} {s:St},fQ P K l bU tm s→gC P K l bU tm s
 | [],bU,tm,s,h=>h
 | (.op dst g o,b)::r,bU,tm,s,h=>by
  simp only[fQ]at h
  cases hc:o.core with
  | true=>
   simp only[hc]at h
   have ha:(match a6 o tm s with|some (d,s')=>fQ P K r (s::bU) (tm.put dst d) s'|none=>False)→gC P K ((.op dst none o,b)::r) bU tm s:=by
    intro h
    refine Ir ?_
    simp only[OL,hc,ML]
    split at h
    ·rename_i he;try simp only [he]
     exact mf h
    ·exact h.elim
   cases g with
   |none=>exact ha h
   |some p=>
    obtain⟨t,w⟩:=p
    refine FP (zY h ha fun h=>?_)
    simp only[sD,hc,if_true]
    exact mf h
  | false=>
   simp only[hc]at h
   have ha:(match a6 o tm s with|some (d,_)=>nN (.op dst none o) tm d (bU.take b)∧fQ P K r bU (tm.put dst d) s|none=>False)→gC P K ((.op dst none o,b)::r) bU tm s:=by
    intro h
    refine Ir ?_
    simp only[OL,hc,PL]
    split at h
    ·rename_i he;try simp only [he]
     exact⟨h.1,mf h.2⟩
    ·exact h.elim
   cases g with
   |none=>exact ha h
   |some p=>
    obtain⟨t,w⟩:=p
    refine FP (zY h ha fun h=>?_)
    simp only[sD,hc]
    exact mf h
 | (.call dst g f xs,b)::r,bU,tm,s,h=>by
  simp only[fQ]at h
  have ha:(CL true P f (xs.map (·.ev tm)) s fun d s'=>fQ P K r (s::bU) (tm.put dst d) s')→gC P K ((.call dst none f xs,b)::r) bU tm s:=
   fun⟨d,s',h1,h2⟩=>ND ⟨d,s',h1,mf h2⟩
  cases g with
  |none=>exact ha h
  |some p=>
   obtain⟨t,w⟩:=p
   exact Ks (zY h ha fun h=>mf h)
 |(.nil ..,_)::_,bU,tm,s,h=>h.elim
 |(.jT ..,_)::_,bU,tm,s,h=>h.elim
section
variable {P:Program} {B:eQ} {nt:Nat}
def fZ (P:Program) (B:eQ) (nt:Nat):AC→(Exit→Tm→St→Prop)→Tm→St→Prop
 | .skip,Q,tm,s=>Q .normal tm s
 | .run is,Q,tm,s=>j9 P is (Q .normal) tm s
 | .par is lH,Q,tm,s=>match mL is lH with|some l=>fQ P (Q .normal) l [] tm s|none=>False
 | .seq a b,Q,tm,s=>fZ P B nt a (kn (fZ P B nt b Q) Q) tm s
 | .cond x a b,Q,tm,s=>tM (x.ev tm) (fZ P B nt a Q tm s) (fZ P B nt b Q tm s)
 | .block id a,Q,tm,s=>fZ P B nt a (ij id Q) tm s
 | .loop a,Q,tm,s=>aV P B nt a Q tm s
 | .exit id,Q,tm,s=>Q (.exit id) tm s
 | .scope a,Q,tm,s=>n4 P B nt a a Q tm s
 | .label _,Q,tm,s=>Q .normal tm s
 | .goto l,Q,tm,s=>Q (.goto l) tm s
 | .ret,Q,tm,s=>Q .ret tm s
theorem iz : ∀ {ac:AC} {Q:Exit→Tm→St→Prop} {tm:Tm} {s:St},fZ P B nt ac Q tm s→Sem P B nt ac Q tm s:=by
 intro ac
 induction ac with
 |skip=>exact fun h=>Sem.skip h
 |run is=>exact fun h=>Sem.run (nT h)
 |par is lH=>
  intro Q tm s h
  simp only[fZ]at h
  split at h
  ·exact Sem.ahk ‹_› (mf h)
  ·exact h.elim
 |seq a b QL QM=>
  intro Q tm s h
  refine Sem.seq ((QL h).mono fun e tm s hq=>?_)
  cases e with
  |normal=>exact QM hq
  |_=>exact hq
 |cond x a b QL QM=>
  intro Q tm s h
  refine Sem.aes ?_
  simp only[fZ]at h
  unfold tM at h ⊢
  split at h
  ·exact⟨fun e=>QL (h.1 e),fun e=>QM (h.2 e)⟩
  ·exact h.elim
 |block id a ih=>exact fun h=>Sem.block (ih h)
 |loop a ih=>exact fun h=>Sem.loop h
 |exit id=>exact fun h=>Sem.exit h
 |scope a ih=>exact fun h=>Sem.scope h
 |label l=>exact fun h=>Sem.label h
 |goto l=>exact fun h=>Sem.goto h
 |ret=>exact fun h=>Sem.ret h
section
variable (Q:Exit→Tm→St→Prop) (N:Tm→St→Prop) (tm:Tm) (s:St) (a b:AC) (is:List AI) (x:X)
theorem UB:fZ P B nt .skip Q tm s=Q .normal tm s:=nd rfl
theorem YO:fZ P B nt (.run is) Q tm s=j9 P is (Q .normal) tm s:=nd rfl
theorem YP (lH:List (Nat×Nat)):fZ P B nt (.par is lH) Q tm s=match mL is lH with|some l=>fQ P (Q .normal) l [] tm s|none=>False:=nd rfl
theorem YQ:fZ P B nt (.seq a b) Q tm s=fZ P B nt a (kn (fZ P B nt b Q) Q) tm s:=nd rfl
theorem UC:fZ P B nt (.cond x a b) Q tm s = @CB (x.ev tm) ⟨fZ P B nt a Q tm s,fZ P B nt b Q tm s⟩:=nd rfl
theorem Q4 (id:Nat):fZ P B nt (.block id a) Q tm s=fZ P B nt a (ij id Q) tm s:=nd rfl
theorem UD:fZ P B nt (.loop a) Q tm s=aV P B nt a Q tm s:=nd rfl
theorem Q5:fZ P B nt (.scope a) Q tm s=n4 P B nt a a Q tm s:=nd rfl
theorem UE (id:Nat):fZ P B nt (.exit id) Q tm s=Q (.exit id) tm s:=nd rfl
theorem Q6 (id:Nat):fZ P B nt (.label id) Q tm s=Q .normal tm s:=nd rfl
theorem UF (id:Nat):fZ P B nt (.goto id) Q tm s=Q (.goto id) tm s:=nd rfl
theorem YR:fZ P B nt .ret Q tm s=Q .ret tm s:=nd rfl
theorem YS:kn N Q .normal tm s=N tm s:=nd rfl
theorem YT:kn N Q .ret tm s=Q .ret tm s:=nd rfl
theorem YU (id:Nat):kn N Q (.exit id) tm s=Q (.exit id) tm s:=nd rfl
theorem YV (id:Nat):kn N Q (.goto id) tm s=Q (.goto id) tm s:=nd rfl
theorem UG (id:Nat):ij id Q .normal tm s=Q .normal tm s:=nd rfl
theorem UH (id:Nat):ij id Q .ret tm s=Q .ret tm s:=nd rfl
theorem UI (id l:Nat):ij id Q (.goto l) tm s=Q (.goto l) tm s:=nd rfl
theorem UJ (id i:Nat):ij id Q (.exit i) tm s=if i=id then Q .normal tm s else Q (.exit i) tm s:=nd rfl
end
theorem aV.gO {a:AC} {Q:Exit→Tm→St→Prop} {tm:Tm} {s:St} (h:fZ P B nt a (kn (aV P B nt a Q) Q) tm s):aV P B nt a Q tm s:=aV.once (iz h)
theorem n4.gO {a r:AC} {Q:Exit→Tm→St→Prop} {tm:Tm} {s:St} (h:fZ P B nt r (jV P B nt a Q) tm s):n4 P B nt a r Q tm s:=n4.once (iz h)
def tx (tm:Tm) (n m:Nat):Tm→Prop
 | []=>True
 |(k,d)::r=>Wk ((tm.get k).fg n m) d∧tx tm n m r
theorem tx.get {tm:Tm} {n m:Nat} : ∀ {cb:Tm},tx tm n m cb→∀ t,Wk ((tm.get t).fg n m) (cb.get t)
 | [],_,t=>Wk.junk _
 |(k,d)::r,h,t=>by
  simp only[Tm.get]
  split
  ·rename_i hk;subst hk;exact h.1
  ·exact tx.get h.2 t
theorem Holds.re {Q:Exit→Tm→St→Prop} {tm cb:Tm} {s:St} {kL:List (List D)} {act:Act} {w:World} (n m:Nat) (hn:B.s.aw.length≤n) (hm:B.s.aE.length≤m) (ht:tx tm n m cb) (ho:iE (s.cut n m).aw kL)
 (h:Holds B nt tm s act w):Holds B nt cb ⟨kL,(s.cut n m).aE⟩ act w:=by
 obtain⟨M,e,r,hr,h1,h2⟩:=h
 obtain⟨r',le⟩:=(r.cut n m).zT ho
 have e':=e.cut hn hm
 refine⟨M,e'.trans ⟨le,fun _ _ _ _=>rfl,fun o h1 h2=>?_,fun t b c z hl e=> .inl ⟨hl,c,z,e⟩,fun _ _ h=>(h rfl).elim,zaj _,rfl,rfl,rfl⟩,r',fun k=>((ht.get k) _ _ _ ((hr k).fg n m)).mono le,h1,h2⟩
 rw[← ho.len]at h2
 exact h1.elim (fun h1=>absurd h2 (Nat.not_lt.2 h1)) fun h1=>(h1 rfl).elim
theorem aV.re {a:AC} {Q:Exit→Tm→St→Prop} {tm:Tm} {s:St} (cb:Tm) (kL:List (List D)) (n m:Nat) (hn:B.s.aw.length≤n) (hm:B.s.aE.length≤m) (ht:tx tm n m cb) (ho:iE (s.cut n m).aw kL)
 (h:aV P B nt a Q cb ⟨kL,(s.cut n m).aE⟩):aV P B nt a Q tm s:=
 fun c hc act w hh=>h c hc act w (hh.re (Q:=Q) n m hn hm ht ho)
theorem n4.re {a r:AC} {Q:Exit→Tm→St→Prop} {tm:Tm} {s:St} (cb:Tm) (kL:List (List D)) (n m:Nat) (hn:B.s.aw.length≤n) (hm:B.s.aE.length≤m) (ht:tx tm n m cb) (ho:iE (s.cut n m).aw kL)
 (h:n4 P B nt a r Q cb ⟨kL,(s.cut n m).aE⟩):n4 P B nt a r Q tm s:=
 fun c rest hc hr act w hh=>h c rest hc hr act w (hh.re (Q:=Q) n m hn hm ht ho)
theorem aV.ind {ι:Type} {a:AC} {Q:Exit→Tm→St→Prop} (I:ι→Prop) (μ:ι→Nat) (TM:ι→Tm) (ST:ι→St)
 (step : ∀ i,I i→(∀ j,I j→μ j<μ i→aV P B nt a Q (TM j) (ST j))→fZ P B nt a (kn (aV P B nt a Q) Q) (TM i) (ST i)) : ∀ i,I i→aV P B nt a Q (TM i) (ST i):=by
 have key : ∀ n i,μ i<n→I i→aV P B nt a Q (TM i) (ST i):=by
  intro n
  induction n with
  |zero=>intro i h;exact absurd h (zaM _)
  |succ n ih=>exact fun i h hi=>aV.gO (step i hi fun j hj hC=>ih j (by omega) hj)
 exact fun i hi=>key (μ i+1) i (zac _) hi
theorem drop_cons {α:Type} {l rest:List α} {k:Nat} {x:α} (h:l.drop k=x::rest):l[k]? = some x∧l.drop (k+1)=rest∧decide ((k:Int)<(l.length:Int))=true∧k<l.length:=by
 have h1:l[k]? = some x:=by
  have:(l.drop k)[0]? = some x:=by rw[h];rfl
  simpa using this
 have h2:=(zai.1 h1).1
 refine⟨h1, ?_,by simpa using h2,h2⟩
 have:l.drop (k+1)=(l.drop k).drop 1:=by rw[zbG]
 rw[this,h];rfl
theorem drop_nil {α:Type} {l:List α} {k:Nat} (h:l.drop k = []):decide ((k:Int)<(l.length:Int))=false:=by
 have:=zaX.1 h
 simp;omega
theorem aV.gY {a:AC} {Q:Exit→Tm→St→Prop} {tm:Tm} {s:St} (t z':Nat) {z:Nat} (hw:tm.get t = .slice .full z [])
 (h:aV P B nt a Q (tm.set t (.slice (.tok s.aE.length) z' [])) {s with aE:=s.aE++ [some 0]}):aV P B nt a Q tm s:=by
 intro c hc act w ⟨M,e,r,ht,h1,h2⟩
 obtain⟨r',le⟩:=r.blank
 refine h c hc act w ⟨_,zU e le,r',fun k=>?_,h1,h2⟩
 rw[Tm.A0]
 split
 ·rename_i hk;subst hk;have:=ht k;rw[hw]at this;exact this.own
 ·exact(ht k).mono le
theorem aV.qa {a:AC} {Q:Exit→Tm→St→Prop} {tm:Tm} {s:St} (o i z':Nat) {z:Nat} {cs:List D} (hc:s.aw[o]? = some cs) (hi:cs[i]? = some (.slice .full z []))
 (h:aV P B nt a Q tm ⟨s.aw.set o (cs.set i (.slice (.tok s.aE.length) z' [])),s.aE++ [some 0]⟩):aV P B nt a Q tm s:=by
 intro c C6 act w hh
 obtain⟨M,e,r,ht,h1,h2⟩:=hh
 obtain⟨r',le⟩:=r.blank
 have le':Le M s (M.eG s.aE.length none) ⟨s.aw.set o (cs.set i (.slice (.tok s.aE.length) z' [])),s.aE++ [some 0]⟩:=⟨le.G,by simp,le.loc,le.t,le.tk⟩
 have le2:Le (M.eG s.aE.length none) {s with aE:=s.aE++ [some 0]} (M.eG s.aE.length none) ⟨s.aw.set o (cs.set i (.slice (.tok s.aE.length) z' [])),s.aE++ [some 0]⟩:=
  ⟨fun _ _ _ h=>h,by simp,fun _ _=> .refl _,zaj _,fun t n' _ e=>⟨n',e,zaj _,fun _=>rfl⟩⟩
 have r2:Rel (M.eG s.aE.length none) ⟨s.aw.set o (cs.set i (.slice (.tok s.aE.length) z' [])),s.aE++ [some 0]⟩ w:=by
  refine⟨r'.comm,fun o' ds e=>?_,fun o ho=>r'.jY o (by simpa using ho),fun o o' ho my=>r'.inj o o' (by simpa using ho) (by simpa using my),r'.tok,
   fun t b c z o hv e ho=>r'.eP t b c z o hv e (by simpa using ho),r'.fM⟩
  simp only[zaK]at e
  split at e
  ·rename_i ho
   subst ho
   split at e
   ·cases e
    obtain⟨vs,T,g1,g2,g3,g4⟩:=r.obj o cs hc
    refine⟨vs,T,g1,by simpa using g2,g3,fun j d v e1 e2=>?_⟩
    rw[zaK]at e1
    split at e1
    ·rename_i hj
     subst hj
     split at e1
     ·cases e1
      exact((g4 i _ v hi e2).own (z':=z')).mono le2
     ·cases e1
    ·exact(g4 j d v e1 e2).mono le'
   ·cases e
  ·obtain⟨vs,T,g1,g2,g3,g4⟩:=r'.obj o' ds e
   exact⟨vs,T,g1,g2,g3,fun i d v e1 e2=>(g4 i d v e1 e2).mono le2⟩
 have ee:Ext B.M B.s B.w (M.eG s.aE.length none) ⟨s.aw.set o (cs.set i (.slice (.tok s.aE.length) z' [])),s.aE++ [some 0]⟩ w:=by
  refine(zU e le).trans ⟨le2,fun _ _ _ _=>rfl,fun o h1 h2=>?_,fun t b c z hl e=> .inl ⟨hl,c,z,e⟩,fun _ _ h=>(h rfl).elim,zaj _,rfl,rfl,rfl⟩
  simp at h2
  exact h1.elim (fun h1=>absurd h2 (Nat.not_lt.2 h1)) fun h1=>(h1 rfl).elim
 exact h c C6 act w ⟨_,ee,r2,fun k=>(ht k).mono le',h1,h2⟩
theorem ct {ac r:AC} {l:Nat} {Q:Exit→Tm→St→Prop} {tm:Tm} {s:St} (hf:rX ac l=some r) (h:fZ P B nt r (jV P B nt ac Q) tm s):jV P B nt ac Q (.goto l) tm s:=⟨r,hf,n4.gO h⟩
theorem UK {ac r:AC} {l:Nat} {Q:Exit→Tm→St→Prop} {tm:Tm} {s:St} (hf:rX ac l=some r) (h:n4 P B nt ac r Q tm s):jV P B nt ac Q (.goto l) tm s:=⟨r,hf,h⟩
theorem Sem.kM {a b:AC} {Q:Exit→Tm→St→Prop} {tm:Tm} {s:St} (h:fZ P B nt a (kn (Sem P B nt b Q) Q) tm s):Sem P B nt (.seq a b) Q tm s:=Sem.seq (iz h)
theorem Sem.re {a:AC} {Q:Exit→Tm→St→Prop} {tm:Tm} {s:St} (cb:Tm) (kL:List (List D)) (n m:Nat) (hn:B.s.aw.length≤n) (hm:B.s.aE.length≤m) (ht:tx tm n m cb) (ho:iE (s.cut n m).aw kL)
 (h:Sem P B nt a Q cb ⟨kL,(s.cut n m).aE⟩):Sem P B nt a Q tm s:=
 fun c hc act w hh=>h c hc act w (hh.re (Q:=Q) n m hn hm ht ho)
def Has (P:Program) (f nt:Nat) (res:List (Nat×Option (Bool×Nat))) (body:AC):Prop:=∃ fn,P.funcs[f]? = some fn∧cF P fn=some ⟨nt,res,body⟩
structure bD (P:Program) (f:Nat) where
 {nt:Nat}
 {res:List (Nat×Option (Bool×Nat))}
 {body:AC}
 h:Has P f nt res body
theorem Has.of {P:Program} {f nt:Nat} {res:List (Nat×Option (Bool×Nat))} {body:AC} (fn:Func) (h1:P.funcs[f]? = some fn:=by kernel_rfl) (h2:cF P fn=some ⟨nt,res,body⟩:=by conv=>lhs;cbv):Has P f nt res body:=⟨fn,h1,h2⟩
theorem aev {P:Program} {fn:Func} {nt:Nat} {r:List (Nat×Option (Bool×Nat))} {c:Code} {b:AC} (h0:fn.body=some c) (h1:fn.ntmps=nt) (h2:cC P nt c=some b) (h3:zD P fn.results.toList=some r):cF P fn=some ⟨nt,r,b⟩:=by subst h1;simp only[cF,h0,h2,h3]
theorem abp {P:Program} {nt:Nat} {a b:Code} {a' b':AC} (h1:cC P nt a=some a') (h2:cC P nt b=some b'):cC P nt (.seq a b)=some (.seq a' b'):=by simp only[cC,h1,h2]
theorem UL {P:Program} {nt i:Nat} {a:Code} {a':AC} (h1:cC P nt a=some a'):cC P nt (.block i a)=some (.block i a'):=by simp only[cC,h1,zbx]
theorem YW {P:Program} {nt:Nat} {a:Code} {a':AC} (h1:cC P nt a=some a'):cC P nt (.loop a)=some (.loop a'):=by simp only[cC,h1,zbx]
theorem abq {P:Program} {nt k:Nat} {ops:Array Oper} {is:List AI} {af pt:List (List Nat)} {l:List Nat} {pl:List (Nat×Nat)} (h0:P.follows .mixedOrders=true) (h1:pK P nt ops ops.toList=some is) (h2:ops.toList.map kY=af) (h3:CQ [] af=pt)
 (h4:My is pt ((List.range is.length).filter fun i=>jb is i == .core) (List.range is.length) [] = l) (h5:Mz is pt [] l=pl) (h6:CP is af pt pl=true):cC P nt (.region k ops true)=some (.par is pl):=by
 subst h2 h3 h4 h5
 show(if P.follows .mixedOrders then(pK P nt ops ops.toList).bind (MG · (ops.toList.map kY))else none)=_
 rw[if_pos h0,h1]
 exact if_pos h6
theorem YX {P:Program} {nt:Nat} {x:Operand} {x':X} {a b:Code} {a' b':AC} (h0:cX x=some x') (h1:cC P nt a=some a') (h2:cC P nt b=some b'):cC P nt (.cond x a b)=some (.cond x' a' b'):=by simp only[cC,h0,h1,h2]
theorem Has.FQ {P:Program} {f nt:Nat} {res:List (Nat×Option (Bool×Nat))} {body:AC} (fn:Func) (h1:P.funcs[f]? = some fn:=by kernel_rfl) (h2:cF P fn=some ⟨nt,res,body⟩:=by apply aev;(exact rfl);(conv=>lhs;cbv);rotate_left;(conv=>lhs;cbv);repeat' (first|with_reducible apply abp|(conv=>lhs;cbv)|with_reducible apply UL|with_reducible apply YW|with_reducible apply YX|(with_reducible apply abq;(kernel_rfl);(conv=>lhs;cbv);(conv=>lhs;cbv);(conv=>lhs;cbv);(conv=>lhs;cbv);(conv=>lhs;cbv);kernel_rfl))):Has P f nt res body:=⟨fn,h1,h2⟩
def AC.at:List Nat→AC→Option AC
 | [],a=>some a
 | 0::p, .seq a _=>AC.at p a
 |_::p, .seq _ a=>AC.at p a
 | 0::p, .cond _ a _=>AC.at p a
 |_::p, .cond _ _ a=>AC.at p a
 |_::p, .block _ a=>AC.at p a
 |_::p, .loop a=>AC.at p a
 |_::p, .scope a=>AC.at p a
 |_,_=>none
abbrev AC.sub (p:List Nat) (b:AC) {c:AC} (_:AC.at p b=some c:=by rfl):AC:=c
theorem aC.go {f:FuncId} {res:List (Nat×Option (Bool×Nat))} {body:AC} {args:List D} {s:St} {d:D} {s':St} (h0:Has P f nt res body) (hl:Nat.ble args.length nt=true)
 (h : ∀ (B:eQ) (Q:Exit→Tm→St→Prop),B.s=s→gZ s.aw.length s.aE.length res d s'=Q→fZ P B nt body Q (ny 0 args) s):aC P f args s d s':=by
 obtain⟨fn,hf,hc⟩:=h0
 exact aC.intro ⟨fn,hf,hc⟩ (za8 hl) fun B hB=>iz (h B _ hB rfl)
theorem aC.XX {f:FuncId} {args row kJ:List D} {rows lx:List (List D)} {z z' k k':Nat} (h:aC P f (.ptr 0 0:: .slice (.tok 0) z rows::args) ⟨[row],[some k]⟩ (.slice (.tok 0) z' lx) ⟨[kJ],[some k']⟩)
 (ha:D.bP 0 0 args=true) (hr:D.bP 0 0 row=true) (vj:D.bP 0 0 kJ=true) (hw:D.jw 0 0 rows=true) (Q7:D.jw 0 0 lx=true)
 {s:St} {o t:Nat} (ho:s.aw[o]? = some row) (ht:s.aE[t]? = some (some k)):aC P f (.ptr o 0:: .slice (.tok t) z rows::args) s (.slice (.tok t) z' lx) ⟨s.aw.set o kJ,s.aE.set t (some k')⟩:=by
 refine dG.frame [o] [t] h (by simp) (by simp) (by simpa using (zai.1 ho).1) (by simpa using (zai.1 ht).1) rfl (fun i o' ds e1 e2=>?_) rfl (fun i t' e1=>?_)
  (by simp[D.gf,D.dv,Tag.dv,fc _ _ _ ha,jx _ _ _ hw])
  (by simp[D.bP,D.ok,Tag.ok,ik (zau 1) (zau 1) _ ha,nz (zau 1) (zau 1) _ hw]) ?_
 ·cases i with
  |zero=>simp at e1 e2;subst e1;subst e2;exact⟨by rw[fc _ _ _ hr];exact ho,ik (zau 1) (zau 1) _ hr⟩
  |succ i=>simp at e1
 ·cases i with
  |zero=>simp at e1;subst e1;simp[ht]
  |succ i=>simp at e1
 ·rintro _ _ ⟨rfl,rfl⟩
  refine⟨by simp[D.back,D.dv,Tag.dv,kr,jx _ _ _ Q7], ?_⟩
  simp[St.back,kA,fc _ _ _ vj]
theorem aC.NF {f:FuncId} {pre post:List D} {rows lx:List (List D)} {z z' k k':Nat} (h:aC P f (pre++ .slice (.tok 0) z rows::post) ⟨[],[some k]⟩ (.slice (.tok 0) z' lx) ⟨[],[some k']⟩)
 (hp:D.bP 0 0 pre=true) (ha:D.bP 0 0 post=true) (hw:D.jw 0 0 rows=true) (Q7:D.jw 0 0 lx=true)
 {s:St} {t:Nat} (ht:s.aE[t]? = some (some k)):aC P f (pre++ .slice (.tok t) z rows::post) s (.slice (.tok t) z' lx) ⟨s.aw,s.aE.set t (some k')⟩:=by
 refine dG.frame [] [t] h (by simp) (by simp) (by simp) (by simpa using (zai.1 ht).1) rfl (fun i o' ds e1 e2=>by simp at e1) rfl (fun i t' e1=>?_)
  ?_ ?_ ?_
 ·cases i with
  |zero=>simp at e1;subst e1;simp[ht]
  |succ i=>simp at e1
 ·have h1:=fc [] [t] _ hp
  have h2:=fc [] [t] _ ha
  rw[fD]at h1 h2
  simp[fD,D.dv,Tag.dv,h1,h2,jx _ _ _ hw]
 ·have h1:=ik (n':=0) (m':=1) (zaj 0) (zau 1) _ hp
  have h2:=ik (n':=0) (m':=1) (zaj 0) (zau 1) _ ha
  rw[zS]at h1 h2 ⊢
  simp only[zax,zal,List.all_append,h1,zbc,List.all_cons,h2,zbn,D.ok,Tag.ok,nz (zau 0) (zau 1) _ hw]
  rfl
 ·rintro _ _ ⟨rfl,rfl⟩
  refine⟨by simp[D.back,D.dv,Tag.dv,kr,jx _ _ _ Q7], ?_⟩
  simp[St.back,kA]
theorem ahn (A C:Prop) : @CB (.bool true) ⟨A,C⟩=A:=by simp[CB,tM]
theorem aho (A C:Prop) : @CB (.bool false) ⟨A,C⟩=C:=by simp[CB,tM]
theorem abr (b:Bool) (A C:Prop) : @CB (.bool (!b)) ⟨A,C⟩ = @CB (.bool b) ⟨C,A⟩:=by
 cases b<;>simp[CB,tM]
theorem Is {b:Bool} {A C:Prop} (h1:b=true→A) (h2:b=false→C) : @CB (.bool b) ⟨A,C⟩:=⟨h1,h2⟩
theorem abt {b:Bool} {A C:Prop} (h:b=true) (h1:b=true→A) : @CB (.bool b) ⟨A,C⟩:=Is h1 (fun h'=>by rw[h]at h';cases h')
theorem abu {b:Bool} {A C:Prop} (h:b=false) (h1:b=false→C) : @CB (.bool b) ⟨A,C⟩:=Is (fun h'=>by rw[h]at h';cases h') h1
theorem aew {n m:Nat} {res:List (Nat×Option (Bool×Nat))} {d:D} {s':St} {tm:Tm} {s:St} {Q:Exit→Tm→St→Prop} (hQ:gZ n m res d s'=Q)
 (h : ∃ l,bp res tm s=some l∧Wk ((bq l).fg n m) d∧iE (s.cut n m).aw s'.aw∧(s.cut n m).aE=s'.aE):Q .ret tm s:=hQ ▸ h
theorem aex {n m:Nat} {res:List (Nat×Option (Bool×Nat))} {d:D} {s':St} {tm:Tm} {s:St} {Q:Exit→Tm→St→Prop} (hQ:gZ n m res d s'=Q)
 (h : ∃ l,bp res tm s=some l∧Wk ((bq l).fg n m) d∧iE (s.cut n m).aw s'.aw∧(s.cut n m).aE=s'.aE):Q .normal tm s:=hQ ▸ h
end
attribute [go_sem] UB YO YP YQ UC Q4 UD Q5 UE Q6 UF YR YS YT YU YV UG UH UI UJ
theorem Q8 : ∀ (tm:Tm) (s:St) (x:X),a6 (AO.mv x) tm s=some (X.ev tm x,s):=
 fun tm s x=>nd (a6.eq_1 tm s x)
theorem Q9 : ∀ (tm:Tm) (s:St) (c a b:X),
 a6 (AO.pick c a b) tm s =
  match X.ev tm c with
  |D.bool t=>some (if t=true then X.ev tm a else X.ev tm b,s)
  |x=>none:=
 fun tm s c a b=>nd (a6.eq_2 tm s c a b)
theorem Ra : ∀ (tm:Tm) (s:St) (zero:List D),
 a6 (AO.alloc zero) tm s=some (D.ptr s.aw.length 0,{aw:=s.aw++ [zero],aE:=s.aE}):=
 fun tm s zero=>nd (a6.eq_3 tm s zero)
theorem Rb : ∀ (tm:Tm) (s:St) (x:X),
 a6 (AO.box x) tm s =
  match (X.ev tm x).row with
  |some r=>some (D.ptr s.aw.length 0,{aw:=s.aw++ [r],aE:=s.aE})
  |none=>none:=
 fun tm s x=>nd (a6.eq_4 tm s x)
theorem Rc : ∀ (tm:Tm) (s:St) (zero:List D) (parts:List (Nat×Nat×X)),
 a6 (AO.build zero parts) tm s =
  match qB zero (List.map (fun(p:Nat×Nat×X)=>(p.fst,p.snd.fst,X.ev tm p.snd.snd)) parts)with
  |some cs=>some (D.agg cs,s)
  |none=>none:=
 fun tm s zero parts=>nd (a6.eq_5 tm s zero parts)
theorem Re : ∀ (tm:Tm) (s:St) (zero:List D) (size n:Nat) (parts:List (Nat×X)),
 a6 (AO.om zero size n parts) tm s =
  match jM size (fE zero n) (List.map (fun(p:Nat×X)=>(p.fst,X.ev tm p.snd)) parts)with
  |some rows=>some (D.slice Tag.full size rows,s)
  |none=>none:=
 fun tm s zero size n parts=>nd (a6.eq_6 tm s zero size n parts)
theorem Rf : ∀ (tm:Tm) (s:St) (zero:List D) (size n:Nat) (parts:List (Nat×X)),
 a6 (AO.ud zero size n parts) tm s =
  match jM size (fE zero n) (List.map (fun(p:Nat×X)=>(p.fst,X.ev tm p.snd)) parts)with
  |some rows=>
   some (D.slice (Tag.tok s.aE.length) size rows,{aw:=s.aw,aE:=s.aE++ [some rows.length]})
  |none=>none:=
 fun tm s zero size n parts=>nd (a6.eq_7 tm s zero size n parts)
theorem Rg : ∀ (tm:Tm) (s:St) (x:X),
 a6 (AO.zp x) tm s =
  match X.ev tm x with
  | D.slice (Tag.tok t _) z rows=>
   if rows≠ []∧s.aE[t]? = some (some rows.length)then
    some (D.slice Tag.shared z rows,{aw:=s.aw,aE:=s.aE.set t none})
   else none
  |x=>none:=
 fun tm s x=>nd (a6.eq_8 tm s x)
theorem Rh : ∀ (tm:Tm) (s:St) (x:X) (agg:Bool) (size:Nat),
 a6 (AO.load x agg size) tm s =
  match X.ev tm x with
  | D.ptr o off=>
   match s.aw[o]? with
   |some cs=>
    match part cs off agg size with
    |some d=>some (d,s)
    |none=>none
   |none=>none
  |D.dJ row off=>
   match part row off agg size with
   |some d=>some (d,s)
   |none=>none
  |x=>AW x agg size s:=
 fun tm s x agg size=>nd (a6.eq_9 tm s x agg size)
theorem NG : ∀ (tm:Tm) (s:St) (p x:X) (size:Nat),
 a6 (AO.store p x size) tm s =
  match X.ev tm p,(X.ev tm x).row with
  | D.ptr o off,some r=>
   match s.aw[o]? with
   | some cs=>
    if r.length=size∧off+size≤cs.length then
     some (D.tuple [],{aw:=s.aw.set o (iD cs off r),aE:=s.aE})
    else none
   |none=>none
  |x,eW=>CR x eW size s:=
 fun tm s p x size=>nd (a6.eq_10 tm s p x size)
theorem NH : ∀ (tm:Tm) (s:St) (x:X),
 a6 (AO.CI x) tm s =
  match X.ev tm x with
  |D.ptr o off=>some (D.ptr o off,s)
  |D.dJ row off=>some (D.dJ row off,s)
  |x=>match T6 x with|some d=>some (d,s)|none=>none:=
 fun tm s x=>nd (a6.eq_11 tm s x)
theorem NK : ∀ (tm:Tm) (s:St) (op:BinOp) (x y:X),
 a6 (AO.bin op x y) tm s =
  match v8 op (X.ev tm x) (X.ev tm y)with
  |some d=>some (d,s)
  |none=>none:=
 fun tm s op x y=>nd (a6.eq_12 tm s op x y)
theorem NL : ∀ (tm:Tm) (s:St) (neg:Bool) (x y:X),
 a6 (AO.HJ neg x y) tm s =
  match X.ev tm x,X.ev tm y with
  |D.bool a,D.bool b=>some (D.bool (if neg=true then !a==b else a==b),s)
  |x,eW=>none:=
 fun tm s neg x y=>nd (a6.eq_13 tm s neg x y)
theorem NM : ∀ (tm:Tm) (s:St) (neg:Bool) (ks:List Nat) (x y:X),
 a6 (AO.eqs neg ks x y) tm s =
  match X.ev tm x,X.ev tm y with
  |D.agg a,D.agg b=>
   match kZ ks a b with
   |some e=>some (D.bool (if neg=true then !e else e),s)
   |none=>none
  |x,eW=>none:=
 fun tm s neg ks x y=>nd (a6.eq_14 tm s neg ks x y)
theorem NN : ∀ (tm:Tm) (s:St) (neg:Bool) (x y:X),
 a6 (AO.HK neg x y) tm s =
  match X.ev tm x,X.ev tm y with
  |D.fx,D.fx=>some (D.bool !neg,s)
  |D.ptr o off,D.fx=>some (D.bool neg,s)
  |D.dJ row off,D.fx=>some (D.bool neg,s)
  |x,eW=>none:=
 fun tm s neg x y=>nd (a6.eq_15 tm s neg x y)
theorem NO : ∀ (tm:Tm) (s:St) (op:UnOp) (x:X),
 a6 (AO.un op x) tm s =
  match Fv op (X.ev tm x)with
  |some d=>some (d,s)
  |none=>none:=
 fun tm s op x=>nd (a6.eq_16 tm s op x)
theorem NP : ∀ (tm:Tm) (s:St) (k:IntKind) (x:X),
 a6 (AO.conv k x) tm s =
  match X.ev tm x with
  |D.int k_1 n=>some (D.int k (k.wrap n),s)
  |x=>none:=
 fun tm s k x=>nd (a6.eq_17 tm s k x)
theorem NQ : ∀ (tm:Tm) (s:St) (x:X),
 a6 (AO.CJ x) tm s =
  match X.ev tm x with
  |D.slice g size rows=>
   match nS rows with
   |some b=>some (D.str b,s)
   |none=>none
  |x=>none:=
 fun tm s x=>nd (a6.eq_18 tm s x)
theorem NR : ∀ (tm:Tm) (s:St) (x:X),
 a6 (AO.wO x) tm s =
  match X.ev tm x with
  |D.str l=>some (D.slice Tag.shared 1 (List.map (fun(c:UInt8)=> [D.int IntKind.u8 ↑c.toNat]) l),s)
  |x=>none:=
 fun tm s x=>nd (a6.eq_19 tm s x)
theorem NS : ∀ (tm:Tm) (s:St) (size:Nat) (x:X) (lo hi:Option X),
 a6 (AO.Qh size x lo hi) tm s =
  match X.ev tm x with
  | D.slice g z rows=>
   match vd (Option.map (fun(x:X)=>X.ev tm x) lo),
    ve (Option.map (fun(x:X)=>X.ev tm x) hi) rows.length with
   | some l,some h=>
    if(rows = []∨z=size)∧0≤l∧l≤h∧h≤ ↑rows.length then
     some
      (D.slice (if l=0 then g.cut (decide (h = ↑rows.length))else Tag.shared) z
       (List.drop l.toNat (List.take h.toNat rows)),
       s)
    else none
   |x,eW=>none
  |x=>match MA x (Option.map (fun(x:X)=>X.ev tm x) lo) (Option.map (fun(x:X)=>X.ev tm x) hi)with|some d=>some (d,s)|none=>none:=
 fun tm s size x lo hi=>nd (a6.eq_20 tm s size x lo hi)
theorem NT : ∀ (tm:Tm) (s:St) (x:X) (lo hi:Option X),
 a6 (AO.HL x lo hi) tm s =
  match X.ev tm x with
  | D.str t=>
   match vd (Option.map (fun(x:X)=>X.ev tm x) lo),ve (Option.map (fun(x:X)=>X.ev tm x) hi) t.length with
   |some l,some h=>
    if 0≤l∧l≤h∧h≤ ↑t.length then some (D.str (List.drop l.toNat (List.take h.toNat t)),s)else none
   |x,eW=>none
  |x=>none:=
 fun tm s x lo hi=>nd (a6.eq_21 tm s x lo hi)
theorem NU : ∀ (tm:Tm) (s:St) (x:X) (off:Nat),
 a6 (AO.CK x off) tm s =
  match X.ev tm x with
  |D.ptr o k=>some (D.ptr o (k+off),s)
  |D.dJ row k=>some (D.dJ row (k+off),s)
  |x=>match HO x off with|some d=>some (d,s)|none=>none:=
 fun tm s x off=>nd (a6.eq_22 tm s x off)
theorem NV : ∀ (tm:Tm) (s:St) (x:X) (off:Nat) (agg:Bool) (size:Nat),
 a6 (AO.Qi x off agg size) tm s =
  match X.ev tm x with
  |D.agg cs=>
   match part cs off agg size with
   |some d=>some (d,s)
   |none=>none
  |x=>none:=
 fun tm s x off agg size=>nd (a6.eq_23 tm s x off agg size)
theorem NY : ∀ (tm:Tm) (s:St) (x i:X) (size:Nat),
 a6 (AO.CM x i size) tm s =
  match X.ev tm x,X.ev tm i with
  | D.slice g z rows,D.int k n=>
   if 0≤n∧z=size then
    match rows[n.toNat]? with
    |some row=>some (D.dJ row 0,s)
    |none=>none
   else none
  |x,eW=>match CS x eW size with|some d=>some (d,s)|none=>none:=
 fun tm s x i size=>nd (a6.eq_24 tm s x i size)
theorem NZ : ∀ (tm:Tm) (s:St) (x i:X),
 a6 (AO.HM x i) tm s =
  match X.ev tm x,X.ev tm i with
  | D.str t,D.int k n=>
   if 0≤n then
    match t[n.toNat]? with
    |some c=>some (D.int IntKind.u8 ↑c.toNat,s)
    |none=>none
   else none
  |x,eW=>none:=
 fun tm s x i=>nd (a6.eq_25 tm s x i)
theorem N0 : ∀ (tm:Tm) (s:St) (x:X) (i:Nat),
 a6 (AO.ext x i) tm s =
  match X.ev tm x with
  |D.tuple ds=>
   match ds[i]? with
   |some d=>some (d,s)
   |none=>none
  |x=>none:=
 fun tm s x i=>nd (a6.eq_26 tm s x i)
theorem N1 : ∀ (tm:Tm) (s:St) (x:X),
 a6 (AO.Ep x) tm s =
  match X.ev tm x with
  |D.str t=>some (D.int IntKind.i64 ↑t.length,s)
  |x=>none:=
 fun tm s x=>nd (a6.eq_27 tm s x)
theorem N2 : ∀ (tm:Tm) (s:St) (x:X),
 a6 (AO.len x) tm s =
  match X.ev tm x with
  |D.slice g size rows=>some (D.int IntKind.i64 ↑rows.length,s)
  |x=>match MB x with|some d=>some (d,s)|none=>none:=
 fun tm s x=>nd (a6.eq_28 tm s x)
theorem N3 : ∀ (tm:Tm) (s:St) (size bytes:Nat) (x y:X),
 a6 (AO.app size bytes x y) tm s =
  match X.ev tm x with
  |D.slice g z rows=>fP size bytes (D.slice g z rows) (X.ev tm y) s
  |d=>MC size bytes d (X.ev tm y) s:=
 fun tm s size bytes x y=>nd (a6.eq_29 tm s size bytes x y)
theorem N4 : ∀ (tm:Tm) (s:St) (isMax:Bool) (x y:X),
 a6 (AO.mm isMax x y) tm s =
  match X.ev tm x,X.ev tm y with
  |D.int k a,D.int k' b=>
   if k=k' then some (D.int k (if isMax=true then if b > a then b else a else if b<a then b else a),s)
   else none
  |x,eW=>none:=
 fun tm s isMax x y=>nd (a6.eq_30 tm s isMax x y)
theorem N5 (tm:Tm) (s:St) (r:List D) (T:TypeId):a6 (AO.sg (.fx::r) T) tm s=some (.ptr s.aw.length 0,{aw:=s.aw++ [.fC T s.aw.length::r],aE:=s.aE}):=nd rfl
theorem N6 (tm:Tm) (s:St) (x:X) (T:TypeId):a6 (AO.zr x T) tm s =
 match (x.ev tm).row with
 |some (.fx::r)=>some (.ptr s.aw.length 0,{aw:=s.aw++ [.fC T s.aw.length::r],aE:=s.aE})
 |_=>none:=nd rfl
theorem N7 (tm:Tm) (s:St) (x y:X):a6 (AO.apps x y) tm s =
 match y.ev tm with
 | .str l=>zz (x.ev tm) (.slice .shared 1 (l.map fun c=> [.int .u8 c.toNat])) s
 |_=>none:=nd rfl
theorem N8 (tm:Tm) (s:St) (x y:X):a6 (AO.zt x y) tm s=zz (x.ev tm) (y.ev tm) s:=nd rfl
theorem N9 (tm:Tm) (s:St) (f:Nat) (xs:List X):a6 (AO.AV f xs) tm s=some (.gK f (xs.map fun x=>x.ev tm),s):=nd rfl
theorem Oa (tm:Tm) (s:St):a6 AO.vb tm s=some (.gH s.aw.length,{aw:=s.aw++ [[]],aE:=s.aE}):=nd rfl
theorem Oc (tm:Tm) (s:St) (m k v:X):a6 (AO.zu m k v) tm s =
 match m.ev tm,k.ev tm,v.ev tm with
 | .gH o, .str key, .slice g z rows=>
  match s.aw[o]? with
  |some cs=>match we key (.slice g z rows) cs with|some ph=>some (.tuple [],{aw:=s.aw.set o ph,aE:=s.aE})|none=>none
  |none=>none
 |_,_,_=>none:=nd rfl
theorem Od (tm:Tm) (s:St) (m k:X) (zero:D):a6 (AO.x4 m k zero) tm s =
 match m.ev tm,k.ev tm with
 | .gH o, .str key=>
  match s.aw[o]? with
  |some cs=>match x5 key zero cs with|some d=>some (d,s)|none=>none
  |none=>none
 |_,_=>none:=nd rfl
theorem Oe (tm:Tm) (s:St) (o:FO) (x y:X):a6 (AO.sh o x y) tm s=match ug o (x.ev tm) (y.ev tm)with|some d=>some (d,s)|none=>none:=nd rfl
theorem Og (tm:Tm) (s:St) (size bytes:Nat) (zero:List D) (l c:X):a6 (AO.zv size bytes zero l c) tm s =
 match l.ev tm,c.ev tm with
 | .int .i64 n, .int .i64 m=>if n=m∧0≤n∧n*((bytes:Int)+1)≤bh then some (.jD size s.aw.length 0 n.toNat,{s with aw:=s.aw++ [.int .i64 ((0:Nat):Int)::(fE zero n.toNat).flatten]})else none
 |_,_=>none:=nd rfl
theorem Iu (o:FO) (x y:X):(AO.sh o x y).core=false:=nd rfl
theorem Iv (size bytes:Nat) (zero:List D) (l c:X):(AO.zv size bytes zero l c).core=true:=nd rfl
theorem Iw (f:Nat) (xs:List X):(AO.AV f xs).core=false:=nd rfl
theorem Ix:AO.vb.core=true:=nd rfl
theorem Iy (m k v:X):(AO.zu m k v).core=true:=nd rfl
theorem Iz (m k:X) (zero:D):(AO.x4 m k zero).core=false:=nd rfl
theorem Ri (n m f:Nat) (cs:List D):D.fg n m (.gK f cs) = .gK f (D.ic n m cs):=nd (by simp only[D.fg])
theorem Rj (n m:Nat) (o:Nat):D.fg n m (.gH o)=if o<n then .gH o else .junk:=nd (by simp only[D.fg])
theorem Oh (d:Option Nat) (g:Option (Nat×Bool)) (t:Nat) (xs:List X):(AI.jT d g t xs).dst=d:=nd rfl
theorem IA (x y:X):(AO.zt x y).core=true:=nd rfl
theorem IB (z:List D) (T:TypeId):(AO.sg z T).core=true:=nd rfl
theorem IC (x:X) (T:TypeId):(AO.zr x T).core=true:=nd rfl
theorem ID (x y:X):(AO.apps x y).core=true:=nd rfl
theorem Rk (n m:Nat) (v:Value):D.fg n m (.val v) = .val v:=nd (by simp only[D.fg])
theorem Rl (n m:Nat) (T:TypeId) (o:Nat):D.fg n m (.fC T o)=if o<n then .fC T o else .junk:=nd (by simp only[D.fg])
theorem UM : ∀ (tm:Tm) (t:Nat),X.ev tm (X.s t)=tm.get t:=
 fun tm t=>nd (X.ev.eq_1 tm t)
theorem UN : ∀ (tm:Tm) (d:D),X.ev tm (X.k d)=d:=
 fun tm d=>nd (X.ev.eq_2 tm d)
theorem Oi : ∀ (tm:Tm) (d:D) (t:Nat),tm.put (some t) d=tm.set t d:=
 fun tm d t=>nd (Tm.put.eq_1 tm d t)
theorem Oj : ∀ (tm:Tm) (d:D),tm.put none d=tm:=
 fun tm d=>nd (Tm.put.eq_2 tm d)
theorem Ol : ∀ (x:Nat) (eW:D),Tm.set [] x eW = [(x,eW)]:=
 fun x eW=>nd (Tm.set.eq_1 x eW)
theorem Om : ∀ (x:Nat) (eW:D) (k:Nat) (e:D) (r:List (Nat×D)),
 Tm.set ((k,e)::r) x eW=if k=x then(k,eW)::r else(k,e)::Tm.set r x eW:=
 fun x eW k e r=>nd (Tm.set.eq_2 x eW k e r)
theorem On : ∀ (x:Nat),Tm.get [] x=D.junk:=
 fun x=>nd (Tm.get.eq_1 x)
theorem Oo : ∀ (x k:Nat) (d:D) (r:List (Nat×D)),Tm.get ((k,d)::r) x=if k=x then d else Tm.get r x:=
 fun x k d r=>nd (Tm.get.eq_2 x k d r)
theorem Rm : ∀ (x:Nat),ny x [] = []:=
 fun x=>nd (ny.eq_1 x)
theorem Rn : ∀ (x:Nat) (d:D) (r:List D),ny x (d::r)=(x,d)::ny (x+1) r:=
 fun x d r=>nd (ny.eq_2 x d r)
theorem Oq : ∀ (d:Option Nat) (g:Option (Nat×Bool)) (o:AO),(AI.op d g o).dst=d:=
 fun d g o=>nd (AI.dst.eq_1 d g o)
theorem Ot : ∀ (d:Option Nat) (g:Option (Nat×Bool)) (f:Nat) (xs:List X),(AI.call d g f xs).dst=d:=
 fun d g f xs=>nd (AI.dst.eq_2 d g f xs)
theorem Ou : ∀ (d:Option Nat) (g:Option (Nat×Bool)) (neg:Bool) (eW:X),(AI.nil d g neg eW).dst=d:=
 fun d g neg eW=>nd (AI.dst.eq_3 d g neg eW)
theorem UO : ∀ (cs:List D) (off size:Nat),
 part cs off true size=if off+size≤cs.length then some (D.agg (List.take size (List.drop off cs)))else none:=
 fun cs off size=>nd (part.eq_1 cs off size)
theorem UP : ∀ (cs:List D) (off size:Nat),part cs off false size=cs[off]? :=
 fun cs off size=>nd (part.eq_2 cs off size)
theorem Ov : ∀ (cs:List D) (off:Nat) (r:List D),
 iD cs off r=List.take off cs++r++List.drop (off+r.length) cs:=
 fun cs off r=>nd (iD.eq_1 cs off r)
theorem Ro : ∀ (cells:List D),qB cells [] = some cells:=
 fun cells=>nd (qB.eq_1 cells)
theorem Rp : ∀ (cells:List D) (off size:Nat) (d:D) (rest:List (Nat×Nat×D)),
 qB cells ((off,size,d)::rest) =
  match d.row with
  |none=>none
  |some r=>if r.length=size∧off+size≤cells.length then qB (iD cells off r) rest else none:=
 fun cells off size d rest=>nd (qB.eq_2 cells off size d rest)
theorem IE : ∀ (size:Nat) (rows:List (List D)),jM size rows [] = some rows:=
 fun size rows=>nd (jM.eq_1 size rows)
theorem IF : ∀ (size:Nat) (rows:List (List D)) (i:Nat) (d:D) (rest:List (Nat×D)),
 jM size rows ((i,d)::rest) =
  match d.row with
  |none=>none
  |some r=>if r.length=size∧i<rows.length then jM size (rows.set i r) rest else none:=
 fun size rows i d rest=>nd (jM.eq_2 size rows i d rest)
theorem IG : ∀ (zero:List D),fE zero 0 = []:=
 fun zero=>nd (fE.eq_1 zero)
theorem II : ∀ (zero:List D) (i:Nat),fE zero i.succ=zero::fE zero i:=
 fun zero i=>nd (fE.eq_2 zero i)
theorem UQ : ∀ (op:BinOp) (k:IntKind) (a:Int) (k':IntKind) (b:Int),
 v8 op (D.int k a) (D.int k' b)=if k=k' then eZ op k a b else none:=
 fun op k a k' b=>nd (v8.eq_1 op k a k' b)
theorem UR : ∀ (op:BinOp) (a b:List UInt8),v8 op (D.str a) (D.str b)=nI op a b:=
 fun op a b=>nd (v8.eq_2 op a b)
theorem Ow : ∀ (k:IntKind) (a b:Int),eZ BinOp.add k a b=some (D.int k (k.wrap (a+b))):=
 fun k a b=>nd (eZ.eq_1 k a b)
theorem Ox : ∀ (k:IntKind) (a b:Int),eZ BinOp.sub k a b=some (D.int k (k.wrap (a - b))):=
 fun k a b=>nd (eZ.eq_2 k a b)
theorem Oy : ∀ (k:IntKind) (a b:Int),eZ BinOp.mul k a b=some (D.int k (k.wrap (a*b))):=
 fun k a b=>nd (eZ.eq_3 k a b)
theorem Oz : ∀ (k:IntKind) (a b:Int),
 eZ BinOp.quo k a b=if b=0 then none else some (D.int k (k.wrap (a.tdiv b))):=
 fun k a b=>nd (eZ.eq_4 k a b)
theorem OA : ∀ (k:IntKind) (a b:Int),eZ BinOp.rem k a b=if b=0 then none else some (D.int k (a.tmod b)):=
 fun k a b=>nd (eZ.eq_5 k a b)
theorem OB : ∀ (k:IntKind) (a b:Int),eZ BinOp.eql k a b=some (D.bool (a==b)):=
 fun k a b=>nd (eZ.eq_6 k a b)
theorem OC : ∀ (k:IntKind) (a b:Int),eZ BinOp.neq k a b=some (D.bool (a != b)):=
 fun k a b=>nd (eZ.eq_7 k a b)
theorem OD : ∀ (k:IntKind) (a b:Int),eZ BinOp.lss k a b=some (D.bool (decide (a<b))):=
 fun k a b=>nd (eZ.eq_8 k a b)
theorem OE : ∀ (k:IntKind) (a b:Int),eZ BinOp.leq k a b=some (D.bool (decide (a≤b))):=
 fun k a b=>nd (eZ.eq_9 k a b)
theorem Kt : ∀ (k:IntKind) (a b:Int),eZ BinOp.gtr k a b=some (D.bool (decide (a > b))):=
 fun k a b=>nd (eZ.eq_10 k a b)
theorem Ku : ∀ (k:IntKind) (a b:Int),eZ BinOp.geq k a b=some (D.bool (decide (a≥b))):=
 fun k a b=>nd (eZ.eq_11 k a b)
theorem OF : ∀ (a b:List UInt8),
 nI BinOp.add a b=if a.length+b.length≤bh then some (D.str (a++b))else none:=
 fun a b=>nd (nI.eq_1 a b)
theorem OG : ∀ (a b:List UInt8),nI BinOp.eql a b=some (D.bool (a==b)):=
 fun a b=>nd (nI.eq_2 a b)
theorem OH : ∀ (a b:List UInt8),nI BinOp.neq a b=some (D.bool !a==b):=
 fun a b=>nd (nI.eq_3 a b)
theorem OI : ∀ (a b:List UInt8),nI BinOp.lss a b=some (D.bool (bytesLess a b)):=
 fun a b=>nd (nI.eq_4 a b)
theorem Kv (k:IntKind) (a b:Int):eZ BinOp.and k a b=some (D.int k (aaD k a b)):=nd rfl
theorem Kw (k:IntKind) (a b:Int):eZ BinOp.or k a b=some (D.int k (bOr k a b)):=nd rfl
theorem Kx (k:IntKind) (a b:Int):eZ BinOp.xor k a b=some (D.int k (HN k a b)):=nd rfl
theorem Ky (k:IntKind) (a b:Int):eZ BinOp.shl k a b=if b<0 then none else some (D.int k (aaE k a b)):=nd rfl
theorem Kz (k:IntKind) (a b:Int):eZ BinOp.shr k a b=if b<0 then none else some (D.int k (aaF k a b)):=nd rfl
theorem YY (k:IntKind) (n:Int):Fv UnOp.xor (D.int k n)=some (D.int k (HN k (if k.signed then -1 else k.max) n)):=nd rfl
theorem YZ : ∀ (k:IntKind) (n:Int),Fv UnOp.neg (D.int k n)=some (D.int k (k.wrap (0 - n))):=
 fun k n=>nd (Fv.eq_1 k n)
theorem Y0 : ∀ (b:Bool),Fv UnOp.not (D.bool b)=some (D.bool !b):=
 fun b=>nd (Fv.eq_2 b)
theorem OM : ∀ (k:IntKind) (a:Int) (k':IntKind) (b:Int),
 mJ 0 (D.int k a) (D.int k' b)=if k=k' then some (a==b)else none:=
 fun k a k' b=>nd (mJ.eq_1 k a k' b)
theorem ON : ∀ (a b:Bool),mJ 1 (D.bool a) (D.bool b)=some (a==b):=
 fun a b=>nd (mJ.eq_2 a b)
theorem OO : ∀ (a b:List UInt8),mJ 2 (D.str a) (D.str b)=some (a==b):=
 fun a b=>nd (mJ.eq_3 a b)
theorem KA:kZ [] [] [] = some true:=
 nd (kZ.eq_1)
theorem KB : ∀ (k:Nat) (ks:List Nat) (XY:D) (xs:List D) (y:D) (ys:List D),
 kZ (k::ks) (XY::xs) (y::ys) =
  match mJ k XY y with
  |none=>none
  |some true=>kZ ks xs ys
  |some false=>some false:=
 fun k ks XY xs y ys=>nd (kZ.eq_2 k ks XY xs y ys)
theorem Y1:vd none=some 0:=
 nd (vd.eq_1)
theorem Y2 : ∀ (k:IntKind) (n:Int),vd (some (D.int k n))=some n:=
 fun k n=>nd (vd.eq_2 k n)
theorem Y3 : ∀ (len:Nat),ve none len=some ↑len:=
 fun len=>nd (ve.eq_1 len)
theorem Y4 : ∀ (len:Nat) (k:IntKind) (n:Int),ve (some (D.int k n)) len=some n:=
 fun len k n=>nd (ve.eq_2 len k n)
theorem KD : ∀ (zero:List D),(AO.alloc zero).core=true:=
 fun zero=>nd (AO.core.eq_1 zero)
theorem KE : ∀ (eW:X),(AO.box eW).core=true:=
 fun eW=>nd (AO.core.eq_2 eW)
theorem KF : ∀ (zero:List D) (size n:Nat) (parts:List (Nat×X)),(AO.ud zero size n parts).core=true:=
 fun zero size n parts=>nd (AO.core.eq_3 zero size n parts)
theorem KH : ∀ (eW:X),(AO.zp eW).core=true:=
 fun eW=>nd (AO.core.eq_4 eW)
theorem KI : ∀ (p eW:X) (size:Nat),(AO.store p eW size).core=true:=
 fun p eW size=>nd (AO.core.eq_5 p eW size)
theorem KK : ∀ (size bytes:Nat) (eW y:X),(AO.app size bytes eW y).core=true:=
 fun size bytes eW y=>nd (AO.core.eq_6 size bytes eW y)
theorem KM : ∀ (val:Nat) (zero:List D),(AI.op (some val) none (AO.alloc zero)).kind=AK.alloc:=
 fun val zero=>nd (AI.kind.eq_1 val zero)
theorem KN : ∀ (zero:List D),(AO.alloc zero).kind=AK.core:=
 fun zero=>nd (AO.kind.eq_1 zero)
theorem KO : ∀ (eW:X),(AO.box eW).kind=AK.core:=
 fun eW=>nd (AO.kind.eq_2 eW)
theorem KP : ∀ (zero:List D) (size n:Nat) (parts:List (Nat×X)),(AO.ud zero size n parts).kind=AK.core:=
 fun zero size n parts=>nd (AO.kind.eq_3 zero size n parts)
theorem KQ : ∀ (eW:X),(AO.zp eW).kind=AK.core:=
 fun eW=>nd (AO.kind.eq_4 eW)
theorem KR : ∀ (p eW:X) (size:Nat),(AO.store p eW size).kind=AK.core:=
 fun p eW size=>nd (AO.kind.eq_5 p eW size)
theorem KS : ∀ (size bytes:Nat) (eW y:X),(AO.app size bytes eW y).kind=AK.core:=
 fun size bytes eW y=>nd (AO.kind.eq_6 size bytes eW y)
theorem KT : ∀ (eW:X) (agg:Bool) (size:Nat),(AO.load eW agg size).kind=AK.load:=
 fun _ _ _=>nd rfl
theorem OP:gn AK.core=true:=
 nd (gn.eq_1)
theorem OQ:gn AK.alloc=true:=
 nd (gn.eq_2)
theorem OR : ∀ (i:AI) (tm:Tm) (d:D),nN i tm d [] = True:=
 fun i tm d=>nd (nN.eq_1 i tm d)
theorem OS : ∀ (i:AI) (tm:Tm) (d:D) (s:St) (r:List St),
 nN i tm d (s::r)=(jG i tm s=some d∧nN i tm d r):=
 fun i tm d s r=>nd (nN.eq_2 i tm d s r)
theorem Y5 : ∀ (tm:Tm) (s:St) (dst:Option Nat) (o:AO),
 jG (AI.op dst none o) tm s=Option.map (fun(x:D×St)=>x.fst) (a6 o tm s):=
 fun tm s dst o=>nd (jG.eq_1 tm s dst o)
theorem Y6 : ∀ (tm:Tm) (s:St) (dst:Option Nat) (t:Nat) (want:Bool) (o:AO),
 jG (AI.op dst (some (t,want)) o) tm s =
  match tm.get t with
  |D.bool b=>if b=want then Option.map (fun(x:D×St)=>x.fst) (a6 o tm s)else some (D.tuple [])
  |D.tuple vs=>some (D.tuple [])
  |x=>none:=
 fun tm s dst t want o=>nd (jG.eq_2 tm s dst t want o)
theorem KU : ∀ (is:List AI),mL is [] = some []:=
 fun is=>nd (mL.eq_1 is)
theorem KV : ∀ (is:List AI) (q b:Nat) (r:List (Nat×Nat)),
 mL is ((q,b)::r) =
  match is[q]?,mL is r with
  |some ai,some l=>some ((ai,b)::l)
  |x,eW=>none:=
 fun is q b r=>nd (mL.eq_2 is q b r)
theorem Y7 : ∀ (tm:Tm) (n m:Nat),tx tm n m [] = True:=
 fun tm n m=>nd (tx.eq_1 tm n m)
theorem Y8 : ∀ (tm:Tm) (n m k:Nat) (d:D) (r:List (Nat×D)),
 tx tm n m ((k,d)::r)=(Wk (D.fg n m (tm.get k)) d∧tx tm n m r):=
 fun tm n m k d r=>nd (tx.eq_2 tm n m k d r)
theorem US : ∀ (n m o off:Nat),D.fg n m (D.ptr o off)=if o<n then D.ptr o off else D.junk:=
 fun n m o off=>nd (D.fg.eq_1 n m o off)
theorem UT : ∀ (n m:Nat) (row:List D) (off:Nat),D.fg n m (D.dJ row off)=D.dJ (D.ic n m row) off:=
 fun n m row off=>nd (D.fg.eq_2 n m row off)
theorem UU : ∀ (n m:Nat) (g:Tag) (z:Nat) (rows:List (List D)),
 D.fg n m (D.slice g z rows)=D.slice (Tag.fg m g) z (D.ko n m rows):=
 fun n m g z rows=>nd (D.fg.eq_3 n m g z rows)
theorem UW : ∀ (n m:Nat) (cs:List D),D.fg n m (D.agg cs)=D.agg (D.ic n m cs):=
 fun n m cs=>nd (D.fg.eq_4 n m cs)
theorem UX : ∀ (n m:Nat) (ds:List D),D.fg n m (D.tuple ds)=D.tuple (D.ic n m ds):=
 fun n m ds=>nd (D.fg.eq_5 n m ds)
theorem UY : ∀ (n m:Nat),D.fg n m D.junk=D.junk:=
 fun n m=>nd (D.fg.eq_6 n m)
theorem UZ : ∀ (n m:Nat) (k:IntKind) (eW:Int),D.fg n m (D.int k eW)=D.int k eW:=
 fun n m k eW=>nd (D.fg.eq_7 n m k eW)
theorem U0 : ∀ (n m:Nat) (b:Bool),D.fg n m (D.bool b)=D.bool b:=
 fun n m b=>nd (D.fg.eq_8 n m b)
theorem U1 : ∀ (n m:Nat) (l:List UInt8),D.fg n m (D.str l)=D.str l:=
 fun n m l=>nd (D.fg.eq_9 n m l)
theorem Rq : ∀ (n m:Nat),D.fg n m D.fx=D.fx:=
 fun n m=>nd (D.fg.eq_10 n m)
theorem Rr : ∀ (n m:Nat),D.ic n m [] = []:=
 fun n m=>nd (D.ic.eq_1 n m)
theorem Rs : ∀ (n m:Nat) (d:D) (r:List D),D.ic n m (d::r)=D.fg n m d::D.ic n m r:=
 fun n m d r=>nd (D.ic.eq_2 n m d r)
theorem Rt : ∀ (n m:Nat),D.ko n m [] = []:=
 fun n m=>nd (D.ko.eq_1 n m)
theorem Ru : ∀ (n m:Nat) (d:List D) (r:List (List D)),D.ko n m (d::r)=D.ic n m d::D.ko n m r:=
 fun n m d r=>nd (D.ko.eq_2 n m d r)
theorem OT : ∀ (m t:Nat) (y:Bool),Tag.fg m (Tag.tok t y)=if t<m then Tag.tok t y else Tag.shared:=
 fun _ _ _=>nd rfl
theorem OU : ∀ (s:St) (n m:Nat),
 s.cut n m = {aw:=List.map (D.ic n m) (List.take n s.aw),aE:=List.take m s.aE}:=
 fun s n m=>nd (St.cut.eq_1 s n m)
theorem U2 : ∀ (d:D),bq [d] = d:=
 fun d=>nd (bq.eq_1 d)
theorem U3 (size bytes t:Nat) (rows:List (List D)) (g:Tag) (r:List D) (s:St):fP size bytes (.slice (.tok t) size rows) (.slice g size [r]) s =
 if(rows.length+1)*(bytes+1)≤bh∧s.aE[t]? = some (some rows.length)then some (.slice (.tok t) size (rows++ [r]),⟨s.aw,s.aE.set t (some (rows.length+1))⟩)else none:=by
 simp only[fP,List.length_singleton]
 by_cases h1:(rows.length+1)*(bytes+1)≤bh<;>by_cases h2:s.aE[t]? = some (some rows.length)<;>simp[h1,h2]
theorem Ce {size bytes t:Nat} {rows new:List (List D)} {g:Tag} {s:St} (h1:(rows.length+new.length)*(bytes+1)≤bh) (h2:s.aE[t]? = some (some rows.length)) :
 fP size bytes (.slice (.tok t) size rows) (.slice g size new) s=some (.slice (.tok t) size (rows++new),⟨s.aw,s.aE.set t (some (rows.length+new.length))⟩):=by
 cases new with
 | nil=>
  have:s.aE.set t (some rows.length)=s.aE:=by
   apply List.ext_getElem?
   intro i
   rw[zaK]
   split
   ·rename_i hi;subst hi;rw[h2,if_pos (zai.1 h2).1]
   ·rfl
  simp only[zax,zaP]at h1
  simp[fP,h1,this]
 |cons x l=>
  simp only[fP,h1,h2]
  simp
theorem Rv (size bytes z:Nat) (g:Tag) (r:List D) (s:St):fP size bytes (.slice .full z []) (.slice g size [r]) s =
 if bytes+1≤bh then some (.slice (.tok s.aE.length) size [r],⟨s.aw,s.aE++ [some 1]⟩)else none:=by
 simp[fP]
theorem Y9 {P:Program} {B:eQ} {nt:Nat} (ac:AC) (Q:Exit→Tm→St→Prop) (tm:Tm) (s:St):jV P B nt ac Q .normal tm s=Q .normal tm s:=nd rfl
theorem Za {P:Program} {B:eQ} {nt:Nat} (ac:AC) (Q:Exit→Tm→St→Prop) (tm:Tm) (s:St):jV P B nt ac Q .ret tm s=Q .ret tm s:=nd rfl
theorem Zb {P:Program} {B:eQ} {nt:Nat} (ac:AC) (Q:Exit→Tm→St→Prop) (tm:Tm) (s:St) (i:Nat):jV P B nt ac Q (.exit i) tm s=Q (.exit i) tm s:=nd rfl
theorem Zc (m:Nat):Tag.fg m .full = .full:=nd rfl
theorem Rw (m:Nat):Tag.fg m .shared = .shared:=nd rfl
theorem aey {P:Program} (K:Tm→St→Prop) (tm:Tm) (s:St):j9 P [] K tm s=K tm s:=nd rfl
theorem s_op {P:Program} (dst:Option Nat) (o:AO) (r:List AI) (K:Tm→St→Prop) (tm:Tm) (s:St) :
 j9 P (.op dst none o::r) K tm s=(match a6 o tm s with|some (d,s')=>j9 P r K (tm.put dst d) s'|none=>False):=nd rfl
def KJ (P:Program) (r:List AI) (K:Tm→St→Prop) (tm:Tm) (dst:Option Nat) (d:D) (s:St):Prop:=j9 P r K (tm.put dst d) s
theorem ahq {P:Program} (r:List AI) (K:Tm→St→Prop) (tm:Tm) (dst:Option Nat) (d:D) (s:St):KJ P r K tm dst d s=j9 P r K (tm.put dst d) s:=nd rfl
theorem s_call {P:Program} (dst:Option Nat) (f:Nat) (xs:List X) (r:List AI) (K:Tm→St→Prop) (tm:Tm) (s:St) :
 j9 P (.call dst none f xs::r) K tm s=CL false P f (xs.map (·.ev tm)) s (KJ P r K tm dst):=nd rfl
def NJ (P:Program) (dst:Option Nat) (neg:Bool) (x:D) (r:List AI) (K:Tm→St→Prop) (tm:Tm) (s:St):Prop:=
 match x with
 | .slice _ _ rows=>∀ b:Bool,(rows≠ []→b=false)→j9 P r K (tm.put dst (.bool (if neg then !b else b))) s
 |_=>False
theorem abv {P:Program} (dst:Option Nat) (neg:Bool) (x:X) (r:List AI) (K:Tm→St→Prop) (tm:Tm) (s:St) :
 j9 P (.nil dst none neg x::r) K tm s=NJ P dst neg (x.ev tm) r K tm s:=nd rfl
theorem Zd {P:Program} (dst:Option Nat) (neg:Bool) (g:Tag) (z:Nat) (d:List D) (l:List (List D)) (r:List AI) (K:Tm→St→Prop) (tm:Tm) (s:St) :
 NJ P dst neg (.slice g z (d::l)) r K tm s=j9 P r K (tm.put dst (.bool neg)) s:=by
 simp only[NJ,ne_eq,reduceCtorEq,not_false_eq_true,true_imp_iff,eq_iff_iff]
 refine⟨fun h=>by have:=h false rfl;cases neg<;>exact this,fun h b hb=>?_⟩
 subst hb;cases neg<;>exact h
theorem IJ {P:Program} {dst:Option Nat} {neg:Bool} {g:Tag} {z:Nat} {l:List (List D)} {r:List AI} {K:Tm→St→Prop} {tm:Tm} {s:St}
 (h1:l = []→j9 P r K (tm.put dst (.bool (!neg))) s) (h2:j9 P r K (tm.put dst (.bool neg)) s):NJ P dst neg (.slice g z l) r K tm s:=by
 intro b hb
 cases b with
 |false=>cases neg<;>exact h2
 |true=>
  have:l = []:=Decidable.byContradiction fun h=>by cases hb h
  cases neg<;>exact h1 this
theorem aeA {P:Program} (dst:Option Nat) (t:Nat) (w:Bool) (o:AO) (r:List AI) (K:Tm→St→Prop) (tm:Tm) (s:St) :
 j9 P (.op dst (some (t,w)) o::r) K tm s = @GB (tm.get t) w ⟨(j9 P (.op dst none o::r) K tm s),(j9 P r K (tm.put dst (.tuple [])) s)⟩:=nd rfl
def CV (P:Program) (x:D) (aeB:List D) (s:St) (K:D→St→Prop):Prop:=
 match x with
 | .gK f nn=>enters P f=true∧CL false P f (aeB++nn) s K
 |_=>False
theorem Ze {P:Program} (dst:Option Nat) (t:Nat) (xs:List X) (r:List AI) (K:Tm→St→Prop) (tm:Tm) (s:St) :
 j9 P (.jT dst none t xs::r) K tm s=CV P (tm.get t) (xs.map (·.ev tm)) s (KJ P r K tm dst):=nd rfl
theorem CV.use {P:Program} {f:Nat} {nn aeB:List D} {s s':St} {d:D} {K:D→St→Prop} (he:enters P f=true) (h:aC P f (aeB++nn) s d s') (k:K d s'):CV P (.gK f nn) aeB s K:=⟨he,CU h k⟩
theorem U4 {P:Program} (dst:Option Nat) (t:Nat) (w:Bool) (u:Nat) (xs:List X) (r:List AI) (K:Tm→St→Prop) (tm:Tm) (s:St) :
 j9 P (.jT dst (some (t,w)) u xs::r) K tm s = @GB (tm.get t) w ⟨(j9 P (.jT dst none u xs::r) K tm s),(j9 P r K (tm.put dst (.tuple [])) s)⟩:=nd rfl
theorem Zf {P:Program} (dst:Option Nat) (t:Nat) (w:Bool) (f:Nat) (xs:List X) (r:List AI) (K:Tm→St→Prop) (tm:Tm) (s:St) :
 j9 P (.call dst (some (t,w)) f xs::r) K tm s = @GB (tm.get t) w ⟨(j9 P (.call dst none f xs::r) K tm s),(j9 P r K (tm.put dst (.tuple [])) s)⟩:=nd rfl
theorem abx {P:Program} (dst:Option Nat) (t:Nat) (w:Bool) (neg:Bool) (x:X) (r:List AI) (K:Tm→St→Prop) (tm:Tm) (s:St) :
 j9 P (.nil dst (some (t,w)) neg x::r) K tm s = @GB (tm.get t) w ⟨(j9 P (.nil dst none neg x::r) K tm s),(j9 P r K (tm.put dst (.tuple [])) s)⟩:=nd rfl
theorem ahr (b:Bool) (A C:Prop) : @GB (.bool b) true ⟨A,C⟩ = @CB (.bool b) ⟨A,C⟩:=nd rfl
theorem ahs (b:Bool) (A C:Prop) : @GB (.bool b) false ⟨A,C⟩ = @CB (.bool b) ⟨C,A⟩:=by
 cases b<;>simp[GB,CB,GJ,tM]
theorem aht (l:List D) (w:Bool) (A C:Prop) : @GB (.tuple l) w ⟨A,C⟩=C:=nd rfl
theorem aeC {P:Program} {K:Tm→St→Prop} (bU:List St) (tm:Tm) (s:St):fQ P K [] bU tm s=K tm s:=nd rfl
def OJ (P:Program) (o:AO) (dst:Option Nat) (b:Nat) (r:List (AI×Nat)) (K:Tm→St→Prop) (bU:List St) (tm:Tm) (s:St):Bool→Prop
 |true=>match a6 o tm s with|some (d,s')=>fQ P K r (s::bU) (tm.put dst d) s'|none=>False
 |false=>match a6 o tm s with|some (d,_)=>nN (.op dst none o) tm d (bU.take b)∧fQ P K r bU (tm.put dst d) s|none=>False
theorem ahv {P:Program} {K:Tm→St→Prop} (dst:Option Nat) (o:AO) (b:Nat) (r:List (AI×Nat)) (bU:List St) (tm:Tm) (s:St) :
 fQ P K ((.op dst none o,b)::r) bU tm s=OJ P o dst b r K bU tm s o.core:=by
 simp only[fQ,mM]
 cases o.core<;>rfl
theorem ahw {P:Program} (o:AO) (dst:Option Nat) (b:Nat) (r:List (AI×Nat)) (K:Tm→St→Prop) (bU:List St) (tm:Tm) (s:St) :
 OJ P o dst b r K bU tm s true=match a6 o tm s with|some (d,s')=>fQ P K r (s::bU) (tm.put dst d) s'|none=>False:=nd rfl
theorem ahx {P:Program} (o:AO) (dst:Option Nat) (b:Nat) (r:List (AI×Nat)) (K:Tm→St→Prop) (bU:List St) (tm:Tm) (s:St) :
 OJ P o dst b r K bU tm s false=match a6 o tm s with|some (d,_)=>nN (.op dst none o) tm d (bU.take b)∧fQ P K r bU (tm.put dst d) s|none=>False:=nd rfl
theorem aeD {P:Program} {K:Tm→St→Prop} (dst:Option Nat) (t:Nat) (w:Bool) (o:AO) (b:Nat) (r:List (AI×Nat)) (bU:List St) (tm:Tm) (s:St) :
 fQ P K ((.op dst (some (t,w)) o,b)::r) bU tm s = @GB (tm.get t) w ⟨(fQ P K ((.op dst none o,b)::r) bU tm s),(fQ P K r (if o.core then s::bU else bU) (tm.put dst (.tuple [])) s)⟩:=by
 simp only[GB,fQ,mM]
 cases o.core<;>rfl
def KG (P:Program) (K:Tm→St→Prop) (r:List (AI×Nat)) (bU:List St) (tm:Tm) (dst:Option Nat) (d:D) (s:St):Prop:=fQ P K r bU (tm.put dst d) s
theorem ahy {P:Program} (K:Tm→St→Prop) (r:List (AI×Nat)) (bU:List St) (tm:Tm) (dst:Option Nat) (d:D) (s:St):KG P K r bU tm dst d s=fQ P K r bU (tm.put dst d) s:=nd rfl
theorem g_call {P:Program} {K:Tm→St→Prop} (dst:Option Nat) (f:Nat) (xs:List X) (b:Nat) (r:List (AI×Nat)) (bU:List St) (tm:Tm) (s:St) :
 fQ P K ((.call dst none f xs,b)::r) bU tm s=CL true P f (xs.map (·.ev tm)) s (KG P K r (s::bU) tm dst):=nd rfl
theorem Zg {P:Program} {K:Tm→St→Prop} (dst:Option Nat) (t:Nat) (w:Bool) (f:Nat) (xs:List X) (b:Nat) (r:List (AI×Nat)) (bU:List St) (tm:Tm) (s:St) :
 fQ P K ((.call dst (some (t,w)) f xs,b)::r) bU tm s = @GB (tm.get t) w ⟨(fQ P K ((.call dst none f xs,b)::r) bU tm s),(fQ P K r (s::bU) (tm.put dst (.tuple [])) s)⟩:=nd rfl
class Ok (p:Prop):Prop where
 out:p
instance:Ok True:=⟨trivial⟩
instance {p q:Prop} [Ok p] [Ok q] : Ok (p∧q):=⟨⟨Ok.out,Ok.out⟩⟩
instance {α:Type} (a:α):Ok (a=a):=⟨rfl⟩
instance (d:D):Ok (Wk d .junk):=⟨Wk.junk d⟩
instance {l l':List D} [Ok (mC l l')] : Ok (Wk (.tuple l) (.tuple l')):=⟨Wk.tuple Ok.out⟩
instance {l l':List D} [Ok (mC l l')] : Ok (Wk (.agg l) (.agg l')):=⟨Wk.agg Ok.out⟩
instance {g:Tag} {z:Nat} {l l':List (List D)} [Ok (iE l l')] : Ok (Wk (.slice g z l) (.slice g z l')):=⟨Wk.rows Ok.out⟩
instance {g:Tag} {z:Nat} {l l':List (List D)} [Ok (iE l l')] : Ok (Wk (.slice g z l) (.slice .shared z l')):=⟨Wk.slice Ok.out⟩
instance (z z':Nat):Ok (Wk (.slice .full z []) (.slice .full z' [])):=⟨Wk.ahi z z'⟩
instance (g:Tag) (z z':Nat):Ok (Wk (.slice g z []) (.slice .shared z' [])):=⟨Wk.nil g z z'⟩
instance (d:D):Ok (Wk d d):=⟨Wk.refl d⟩
instance:Ok (mC [] []):=⟨.nil⟩
instance {d d':D} {l l':List D} [Ok (Wk d d')] [Ok (mC l l')] : Ok (mC (d::l) (d'::l')):=⟨.cons Ok.out Ok.out⟩
instance (l:List D):Ok (mC l l):=⟨mC.refl l⟩
instance:Ok (iE [] []):=⟨.nil⟩
instance {d d':List D} {l l':List (List D)} [Ok (mC d d')] [Ok (iE l l')] : Ok (iE (d::l) (d'::l')):=⟨.cons Ok.out Ok.out⟩
instance {a a' b b':List (List D)} [Ok (iE a a')] [Ok (iE b b')] : Ok (iE (a++b) (a'++b')):=⟨iE.append Ok.out Ok.out⟩
instance (l:List (List D)):Ok (iE l l):=⟨iE.refl l⟩
theorem bs:(∀ b,(true ||b)=true)∧(∀ b,(false ||b)=b)∧(∀ b,(b ||true)=true)∧(∀ b,(b ||false)=b)∧(∀ b,(true && b)=b)∧(∀ b,(false && b)=false)∧(∀ b,(b && true)=b)∧(∀ b,(b && false)=false)∧
 (!true)=false∧(!false)=true∧(∀ b,(!!b)=b)∧((false=true)=False)∧(∀ (α β:Type) (a:α) (f:α→Option β),(some a).bind f=f a)∧
 (∀ (α β γ:Type) (x:Option α) (f:α→Option β) (g:β→Option γ),(x.bind f).bind g=x.bind fun y=>(f y).bind g):=
 ⟨za6,zbd,zbt,zbI,zbc,zaO,zbn,zbf,rfl,rfl,zbB,by simp,fun _ _ _ _=>rfl,fun _ _ _ x f g=>zaY x f g⟩
attribute [go_sem] abr ahn aho aey s_op ahq s_call abv Zd aeA Zf abx ahr ahs aht aeC ahv ahw ahx aeD ahy g_call Zg AO.core AI.kind AO.kind gn
attribute [go_sem] Oe Og Iu Iv Ze U4 N9 Oa Oc Od Iw Ix Iy Iz Ri Rj Oh YM Uy
attribute [go_sem] N8 IA N5 N6 N7 IB IC ID Rk Rl YL Q2 YH Uv YI Uw YJ Ux Q1 YK Uz NC UA
attribute [go_sem] Q8 Q9 Ra Rb Rc Re Rf Rg Rh NG NH NK NL NM NN NO NP NQ NR NS NT NU NV NY NZ N0 N1 N2 N3 N4 UM UN Oi Oj Ol Om On Oo Rm Rn Oq Ot Ou UO UP Ov Ro Rp IE IF IG II UQ UR Ow Ox Oy Oz OA OB OC OD OE Kt Ku Kv Kw Kx Ky Kz YY OF OG OH OI YZ Y0 OM ON OO KA KB Y1 Y2 Y3 Y4 KD KE KF KH KI KK KM KN KO KP KQ KR KS KT OP OQ OR OS Y5 Y6 KU KV Y7 Y8 US UT UU UW UX UY UZ U0 U1 Rq Rr Rs Rt Ru OT OU U2 U3 Rv Zc Rw Y9 Za Zb
attribute [go_sem] zaf zah zbe zba zal zax List.set_cons_zero List.set_cons_succ zbp List.take_zero List.take_nil List.drop_succ_cons List.drop_zero List.drop_nil zaH zaR zaJ za3 zaP zbx zbE
attribute [go_sem] zao zan zaC zat Int.toNat_natCast Int.natCast_nonneg Int.toNat_zero and_self and_true true_and
attribute [go_sem_proc ↓] reduceIte
attribute [go_sem_proc] Int.reduceLE reduceCtorEq Nat.reduceEqDiff Nat.reduceLeDiff Nat.reduceAdd Nat.reduceMul Nat.reduceSub Nat.reduceLT
theorem aX {b:Bool} {A C:Prop} (h1:b=true→A) (h:b=true:=by assumption) : @CB (.bool b) ⟨A,C⟩:=abt h h1
theorem aY {b:Bool} {A C:Prop} (h1:b=false→C) (h:b=false:=by assumption) : @CB (.bool b) ⟨A,C⟩:=abu h h1
theorem aZ {b:Bool} {A C:Prop} (h1:b=true→A) (h2:b=false→C) : @CB (.bool b) ⟨A,C⟩:=⟨h1,h2⟩
theorem eJ {a b:Prop} (x:a) (y:b):a∧b:=⟨x,y⟩
theorem bS {α:Type _} (a b:α):(some a=some b)=(a=b):=Option.some.injEq a b
theorem bT {α:Sort _} {p:α→Prop} {a:α} : (∃ x,a=x∧p x)↔p a:=exists_eq_left'
theorem mD {n m:Nat} (h:Nat.ble n m=true):n≤m:=za8 h
theorem ay {n m:Nat} {res:List (Nat×Option (Bool×Nat))} {d:D} {s':St} {e:Exit} {tm:Tm} {s:St} {Q:Exit→Tm→St→Prop} (hQ:gZ n m res d s'=Q) (h : ∃ l,bp res tm s=some l∧Wk ((bq l).fg n m) d∧iE (s.cut n m).aw s'.aw∧(s.cut n m).aE=s'.aE) (he:e = .ret∨e = .normal:=by first|exact .inl rfl|exact .inr rfl):Q e tm s:=by cases he with|inl x=>cases x;exact aew hQ h|inr x=>cases x;exact aex hQ h
theorem cp {p:Prop} (h:p:=by repeat' (first|exact Ok.out|with_reducible refine eJ ?_ ?_|(simp;done))):p:=h
theorem aT {p:Prop} (h:p:=by repeat' (first|exact Ok.out|with_reducible refine eJ ?_ ?_)):p:=h
theorem cS {p:Prop} (h:p:=by(try cases h);simp only[bp,bq,bS,bT,go_sem,hC,hE,hF,hS];repeat' (first|exact Ok.out|with_reducible refine eJ ?_ ?_|(simp;done))):p:=h
theorem aK {p:Prop} (h:p:=by simp only[bp,bq,bS,bT,go_sem,hC,hE,hF,hS];repeat' (first|exact Ok.out|with_reducible refine eJ ?_ ?_|(simp;done))):p:=h
theorem lX_ {p:Prop} (h:p:=by simp only[go_sem,hC,hE,hF,hS];repeat' (first|exact Ok.out|with_reducible refine eJ ?_ ?_)):p:=h
theorem b8 {P:Program} {B:eQ} {nt:Nat} {a:AC} {Q:Exit→Tm→St→Prop} {tm cb:Tm} {s:St} {kL:List (List D)} (n m:Nat) (h:aV P B nt a Q cb ⟨kL,(s.cut n m).aE⟩) (hn:B.s.aw.length≤n:=by rw[hB];exact mD rfl) (hm:B.s.aE.length≤m:=by rw[hB];exact mD rfl) (ht:tx tm n m cb:=by exact lX_) (ho:iE (s.cut n m).aw kL:=by exact lX_):aV P B nt a Q tm s:=aV.re cb kL n m hn hm ht ho h
theorem b9 {P:Program} {B:eQ} {nt:Nat} {a:AC} {Q:Exit→Tm→St→Prop} {tm cb:Tm} {s:St} {kL:List (List D)} (n m:Nat) (ht:tx tm n m cb) (ho:iE (s.cut n m).aw kL) (h:aV P B nt a Q cb ⟨kL,(s.cut n m).aE⟩) (hn:B.s.aw.length≤n:=by rw[hB];exact mD rfl) (hm:B.s.aE.length≤m:=by rw[hB];exact mD rfl):aV P B nt a Q tm s:=aV.re cb kL n m hn hm ht ho h
theorem bt:0<1∧0<1∧0<1∧0<1:=⟨zas,zas,zas,zas⟩
end Go.Abs
namespace Go.Abs
mutual
theorem OV (n m:Nat) : ∀ d,D.ok 0 0 d=true→D.fg n m d=d
 | .junk,_=>by simp[D.fg]
 | .int k n,_=>by simp[D.fg]
 | .bool b,_=>by simp[D.fg]
 | .str l,_=>by simp[D.fg]
 | .fx,_=>by simp[D.fg]
 | .val v,_=>by simp[D.fg]
 | .jK z,_=>by simp[D.fg]
 | .fC T o,h=>by simp[D.ok]at h
 | .gH o,h=>by simp[D.ok]at h
 | .gK f cs,h=>by
  simp only[D.ok]at h
  simp only[D.fg,iF n m cs h]
 | .ptr o f,h=>by simp[D.ok]at h
 | .dJ r f,h=>by
  simp only[D.ok]at h
  simp only[D.fg,iF n m r h]
 | .slice g z rows,h=>by
  simp only[D.ok,zaq]at h
  simp only[D.fg,De n m rows h.2]
  cases g with
  |tok t y=>simp[Tag.ok]at h
  |full=>rfl
  |shared=>rfl
 | .agg cs,h=>by
  simp only[D.ok]at h
  simp only[D.fg,iF n m cs h]
 | .tuple cs,h=>by
  simp only[D.ok]at h
  simp only[D.fg,iF n m cs h]
theorem iF (n m:Nat) : ∀ l,D.bP 0 0 l=true→D.ic n m l=l
 | [],_=>by simp[D.ic]
 |d::r,h=>by
  simp only[D.bP,zaq]at h
  simp only[D.ic,OV n m d h.1,iF n m r h.2]
theorem De (n m:Nat) : ∀ l,D.jw 0 0 l=true→D.ko n m l=l
 | [],_=>by simp[D.ko]
 |d::r,h=>by
  simp only[D.jw,zaq]at h
  simp only[D.ko,iF n m d h.1,De n m r h.2]
end
theorem gM {α:Type} {f:α→List D} (h : ∀ x,D.bP 0 0 (f x)=true) (l:List α):D.jw 0 0 (l.map f)=true:=by
 simp[C9,h]
theorem mN {α:Type} {f:α→List D} (h : ∀ x,D.bP 0 0 (f x)=true) (n m:Nat) (l:List α):D.ko n m (l.map f)=l.map f:=De n m _ (gM h l)
theorem LB (n m:Nat) : ∀ a b,D.ko n m (a++b)=D.ko n m a++D.ko n m b
 | [],b=>by simp[D.ko]
 |x::a,b=>by simp[D.ko,LB n m a b]
abbrev aB:=List UInt8
structure bN where
 kind:Int
 text:aB
 n:Int
 pos:Int
deriving DecidableEq
structure Ex where
 op:Int
 n:Int
 name:aB
 kids:List Ex
structure Ar where
 ref:Bool
 name:aB
 x:Ex
structure Sm where
 id:Int
 kind:Int
 labels:List aB
 name:aB
 proc:aB
 x:Ex
 has:Bool
 args:List Ar
 bb:List Sm
 aR:List Sm
structure Pm where
 name:aB
 ref:Bool
structure Pc where
 name:aB
 params:List Pm
 vars:List aB
 body:List Sm
 fin:List aB
structure Pg where
 globals:List aB
 procs:List Pc
def iG:Ex:=⟨0,0,[],[]⟩
def ar0:Ar:=⟨false,[],iG⟩
def FR:Sm:=⟨0,0,[],[],[],iG,false,[],[],[]⟩
def tz:Pg:=⟨[],[]⟩
def encStr (s:aB):List D:= [.str s]
def dt (t:bN):List D:= [.int .i64 t.kind, .str t.text, .int .i64 t.n, .int .i64 t.pos]
def sl (z:Nat) (rows:List (List D)):D:= .slice .shared z rows
mutual
def bI:Ex→List D
 |⟨op,n,name,kids⟩=> [.int .i64 op, .int .i64 n, .str name, .slice .shared 4 (uA kids)]
def uA:List Ex→List (List D)
 | []=> []
 |x::l=>bI x::uA l
end
theorem FT : ∀ l,uA l=l.map bI
 | []=>by simp[uA]
 |x::l=>by simp[uA,FT l]
theorem iW (x:Ex):bI x = [.int .i64 x.op, .int .i64 x.n, .str x.name, .slice .shared 4 (x.kids.map bI)]:=by
 cases x;simp[bI,FT]
def dM (a:Ar):List D:= [.bool a.ref, .str a.name, .int .i64 a.x.op, .int .i64 a.x.n, .str a.x.name, .slice .shared 4 (a.x.kids.map bI)]
mutual
def bn:Sm→List D
 |⟨id,kind,labels,name,proc,x,has,args,bb,aR⟩=> [.int .i64 id, .int .i64 kind, .slice .shared 1 (labels.map encStr), .str name, .str proc,
  .int .i64 x.op, .int .i64 x.n, .str x.name, .slice .shared 4 (x.kids.map bI), .bool has, .slice .shared 6 (args.map dM), .slice .shared 13 (sE bb), .slice .shared 13 (sE aR)]
def sE:List Sm→List (List D)
 | []=> []
 |x::l=>bn x::sE l
end
theorem FU : ∀ l,sE l=l.map bn
 | []=>by simp[sE]
 |x::l=>by simp[sE,FU l]
theorem cD (s:Sm):bn s = [.int .i64 s.id, .int .i64 s.kind, .slice .shared 1 (s.labels.map encStr), .str s.name, .str s.proc,
 .int .i64 s.x.op, .int .i64 s.x.n, .str s.x.name, .slice .shared 4 (s.x.kids.map bI), .bool s.has, .slice .shared 6 (s.args.map dM), .slice .shared 13 (s.bb.map bn), .slice .shared 13 (s.aR.map bn)]:=by
 cases s;simp[bn,FU]
def eH (p:Pm):List D:= [.str p.name, .bool p.ref]
def cf (p:Pc):List D:= [.str p.name, .slice .shared 2 (p.params.map eH), .slice .shared 1 (p.vars.map encStr), .slice .shared 13 (p.body.map bn), .slice .shared 1 (p.fin.map encStr)]
def bQ (p:Pg):List D:= [.slice .shared 1 (p.globals.map encStr), .slice .shared 5 (p.procs.map cf)]
theorem aby (x:bN):(dt x).length=4:=nd rfl
theorem Zh (x:bN):List.take 4 (dt x)=dt x:=nd rfl
theorem Zi (x:bN):List.drop 4 (dt x) = []:=nd rfl
theorem Rx (x:bN):(dt x)[0]? = some (.int .i64 x.kind):=nd rfl
theorem Ry (x:bN):(dt x)[1]? = some (.str x.text):=nd rfl
theorem Rz (x:bN):(dt x)[2]? = some (.int .i64 x.n):=nd rfl
theorem RA (x:bN):(dt x)[3]? = some (.int .i64 x.pos):=nd rfl
theorem aeE (Df:Int) (XZ:aB) (n_:Int) (abA:Int):dt ⟨Df,XZ,n_,abA⟩ = [.int .i64 Df, .str XZ, .int .i64 n_, .int .i64 abA]:=by simp only[dt]
theorem aeF (x:Ex):(bI x).length=4:=by simp only[iW];rfl
theorem abB (x:Ex):List.take 4 (bI x)=bI x:=by simp only[iW];rfl
theorem abC (x:Ex):List.drop 4 (bI x) = []:=by simp only[iW];rfl
theorem U5 (x:Ex):(bI x)[0]? = some (.int .i64 x.op):=by simp only[iW];rfl
theorem U6 (x:Ex):(bI x)[1]? = some (.int .i64 x.n):=by simp only[iW];rfl
theorem U7 (x:Ex):(bI x)[2]? = some (.str x.name):=by simp only[iW];rfl
theorem U8 (x:Ex):(bI x)[3]? = some (.slice .shared 4 (x.kids.map bI)):=by simp only[iW];rfl
theorem ahz (op_:Int) (n_:Int) (n9:aB) (X0:List Ex):bI ⟨op_,n_,n9,X0⟩ = [.int .i64 op_, .int .i64 n_, .str n9, .slice .shared 4 (X0.map bI)]:=by simp only[iW]
theorem aeG (x:Ar):(dM x).length=6:=nd rfl
theorem abD (x:Ar):List.take 6 (dM x)=dM x:=nd rfl
theorem abE (x:Ar):List.drop 6 (dM x) = []:=nd rfl
theorem U9 (x:Ar):(dM x)[0]? = some (.bool x.ref):=nd rfl
theorem Va (x:Ar):(dM x)[1]? = some (.str x.name):=nd rfl
theorem Vb (x:Ar):(dM x)[2]? = some (.int .i64 x.x.op):=nd rfl
theorem Vc (x:Ar):(dM x)[3]? = some (.int .i64 x.x.n):=nd rfl
theorem Vd (x:Ar):(dM x)[4]? = some (.str x.x.name):=nd rfl
theorem Ve (x:Ar):(dM x)[5]? = some (.slice .shared 4 (x.x.kids.map bI)):=nd rfl
theorem Vf (x:Ar):List.take 4 (List.drop 2 (dM x))=bI x.x:=by simp only[dM,iW];rfl
theorem ahA (IK:Bool) (n9:aB) (x_:Ex):dM ⟨IK,n9,x_⟩ = [.bool IK, .str n9, .int .i64 x_.op, .int .i64 x_.n, .str x_.name, .slice .shared 4 (x_.kids.map bI)]:=by simp only[dM]
theorem aeH (x:Sm):(bn x).length=13:=by simp only[cD];rfl
theorem abF (x:Sm):List.take 13 (bn x)=bn x:=by simp only[cD];rfl
theorem abG (x:Sm):List.drop 13 (bn x) = []:=by simp only[cD];rfl
theorem Vg (x:Sm):(bn x)[0]? = some (.int .i64 x.id):=by simp only[cD];rfl
theorem Vh (x:Sm):(bn x)[1]? = some (.int .i64 x.kind):=by simp only[cD];rfl
theorem Vi (x:Sm):(bn x)[2]? = some (.slice .shared 1 (x.labels.map encStr)):=by simp only[cD];rfl
theorem Vj (x:Sm):(bn x)[3]? = some (.str x.name):=by simp only[cD];rfl
theorem Vk (x:Sm):(bn x)[4]? = some (.str x.proc):=by simp only[cD];rfl
theorem Vl (x:Sm):(bn x)[5]? = some (.int .i64 x.x.op):=by simp only[cD];rfl
theorem Vm (x:Sm):(bn x)[6]? = some (.int .i64 x.x.n):=by simp only[cD];rfl
theorem Vn (x:Sm):(bn x)[7]? = some (.str x.x.name):=by simp only[cD];rfl
theorem Vo (x:Sm):(bn x)[8]? = some (.slice .shared 4 (x.x.kids.map bI)):=by simp only[cD];rfl
theorem Vp (x:Sm):(bn x)[9]? = some (.bool x.has):=by simp only[cD];rfl
theorem RB (x:Sm):(bn x)[10]? = some (.slice .shared 6 (x.args.map dM)):=by simp only[cD];rfl
theorem RC (x:Sm):(bn x)[11]? = some (.slice .shared 13 (x.bb.map bn)):=by simp only[cD];rfl
theorem RE (x:Sm):(bn x)[12]? = some (.slice .shared 13 (x.aR.map bn)):=by simp only[cD];rfl
theorem Vq (x:Sm):List.take 4 (List.drop 5 (bn x))=bI x.x:=by simp only[cD,iW];rfl
theorem ahB (id_:Int) (Df:Int) (LC:List aB) (n9:aB) (X1:aB) (x_:Ex) (abH:Bool) (X2:List Ar) (abI:List Sm) (abJ:List Sm):bn ⟨id_,Df,LC,n9,X1,x_,abH,X2,abI,abJ⟩ = [.int .i64 id_, .int .i64 Df, .slice .shared 1 (LC.map encStr), .str n9, .str X1, .int .i64 x_.op, .int .i64 x_.n, .str x_.name, .slice .shared 4 (x_.kids.map bI), .bool abH, .slice .shared 6 (X2.map dM), .slice .shared 13 (abI.map bn), .slice .shared 13 (abJ.map bn)]:=by simp only[cD]
theorem aeI (x:Pm):(eH x).length=2:=nd rfl
theorem abK (x:Pm):List.take 2 (eH x)=eH x:=nd rfl
theorem abL (x:Pm):List.drop 2 (eH x) = []:=nd rfl
theorem Vr (x:Pm):(eH x)[0]? = some (.str x.name):=nd rfl
theorem Vs (x:Pm):(eH x)[1]? = some (.bool x.ref):=nd rfl
theorem ahC (n9:aB) (IK:Bool):eH ⟨n9,IK⟩ = [.str n9, .bool IK]:=by simp only[eH]
theorem aeJ (x:Pc):(cf x).length=5:=nd rfl
theorem abM (x:Pc):List.take 5 (cf x)=cf x:=nd rfl
theorem abN (x:Pc):List.drop 5 (cf x) = []:=nd rfl
theorem Vt (x:Pc):(cf x)[0]? = some (.str x.name):=nd rfl
theorem Vu (x:Pc):(cf x)[1]? = some (.slice .shared 2 (x.params.map eH)):=nd rfl
theorem Vv (x:Pc):(cf x)[2]? = some (.slice .shared 1 (x.vars.map encStr)):=nd rfl
theorem Vw (x:Pc):(cf x)[3]? = some (.slice .shared 13 (x.body.map bn)):=nd rfl
theorem Vx (x:Pc):(cf x)[4]? = some (.slice .shared 1 (x.fin.map encStr)):=nd rfl
theorem ahD (n9:aB) (LD:List Pm) (X3:List aB) (X4:List Sm) (abO:List aB):cf ⟨n9,LD,X3,X4,abO⟩ = [.str n9, .slice .shared 2 (LD.map eH), .slice .shared 1 (X3.map encStr), .slice .shared 13 (X4.map bn), .slice .shared 1 (abO.map encStr)]:=by simp only[cf]
theorem aeK (x:Pg):(bQ x).length=2:=nd rfl
theorem abP (x:Pg):List.take 2 (bQ x)=bQ x:=nd rfl
theorem abQ (x:Pg):List.drop 2 (bQ x) = []:=nd rfl
theorem Vy (x:Pg):(bQ x)[0]? = some (.slice .shared 1 (x.globals.map encStr)):=nd rfl
theorem Vz (x:Pg):(bQ x)[1]? = some (.slice .shared 5 (x.procs.map cf)):=nd rfl
theorem ahE (IL:List aB) (RF:List Pc):bQ ⟨IL,RF⟩ = [.slice .shared 1 (IL.map encStr), .slice .shared 5 (RF.map cf)]:=by simp only[bQ]
attribute [go_sem] aby Zh Zi Rx Ry Rz RA aeE aeF abB abC U5 U6 U7 U8 ahz aeG abD abE U9 Va Vb Vc Vd Ve Vf ahA aeH abF abG Vg Vh Vi Vj Vk Vl Vm Vn Vo Vp RB RC RE Vq ahB aeI abK abL Vr Vs ahC aeJ abM abN Vt Vu Vv Vw Vx ahD aeK abP abQ Vy Vz ahE
theorem Dg (s:aB):D.bP 0 0 (encStr s)=true:=rfl
theorem Dh (t:bN):D.bP 0 0 (dt t)=true:=rfl
mutual
theorem fK : ∀ x,D.bP 0 0 (bI x)=true
 |⟨op,n,name,kids⟩=>by simp[bI,D.bP,D.ok,Tag.ok,X5 kids]
theorem X5 : ∀ l,D.jw 0 0 (uA l)=true
 | []=>rfl
 |x::l=>by simp[uA,D.jw,fK x,X5 l]
end
theorem IM (a:Ar):D.bP 0 0 (dM a)=true:=by simp[dM,D.bP,D.ok,Tag.ok,gM fK]
mutual
theorem ke : ∀ x,D.bP 0 0 (bn x)=true
 |⟨id,kind,labels,name,proc,x,has,args,bb,aR⟩=>by simp[bn,D.bP,D.ok,Tag.ok,OW bb,OW aR,gM Dg,gM fK,gM IM]
theorem OW : ∀ l,D.jw 0 0 (sE l)=true
 | []=>rfl
 |x::l=>by simp[sE,D.jw,ke x,OW l]
end
theorem OX (p:Pm):D.bP 0 0 (eH p)=true:=rfl
theorem qL (p:Pc):D.bP 0 0 (cf p)=true:=by simp[cf,D.bP,D.ok,Tag.ok,gM OX,gM Dg,gM ke]
theorem fH (p:Pg):D.bP 0 0 (bQ p)=true:=by simp[bQ,D.bP,D.ok,Tag.ok,gM Dg,gM qL]
theorem abR (n m:Nat) (x:bN):D.ic n m (dt x)=dt x:=iF n m _ (Dh x)
theorem aeL (n m:Nat) (x:Ex):D.ic n m (bI x)=bI x:=iF n m _ (fK x)
theorem aeM (n m:Nat) (x:Ar):D.ic n m (dM x)=dM x:=iF n m _ (IM x)
theorem aeN (n m:Nat) (x:Sm):D.ic n m (bn x)=bn x:=iF n m _ (ke x)
theorem aeO (n m:Nat) (x:Pm):D.ic n m (eH x)=eH x:=iF n m _ (OX x)
theorem aeP (n m:Nat) (x:Pc):D.ic n m (cf x)=cf x:=iF n m _ (qL x)
theorem aeQ (n m:Nat) (x:Pg):D.ic n m (bQ x)=bQ x:=iF n m _ (fH x)
attribute [go_sem] abR aeL aeM aeN aeO aeP aeQ
theorem da (l:List aB):D.jw 0 0 (l.map encStr)=true:=gM Dg l
theorem xh (l:List bN):D.jw 0 0 (l.map dt)=true:=gM Dh l
theorem X6 (l:List Ex):D.jw 0 0 (l.map bI)=true:=gM fK l
theorem Di (l:List Ar):D.jw 0 0 (l.map dM)=true:=gM IM l
theorem lz (l:List Sm):D.jw 0 0 (l.map bn)=true:=gM ke l
theorem OY (l:List Pm):D.jw 0 0 (l.map eH)=true:=gM OX l
theorem Hu (l:List Pc):D.jw 0 0 (l.map cf)=true:=gM qL l
theorem RG (n m:Nat) (l:List aB):D.ko n m (l.map encStr)=l.map encStr:=mN Dg n m l
theorem mO (n m:Nat) (l:List bN):D.ko n m (l.map dt)=l.map dt:=mN Dh n m l
theorem aeR (n m:Nat) (l:List Ex):D.ko n m (l.map bI)=l.map bI:=mN fK n m l
theorem aeS (n m:Nat) (l:List Ar):D.ko n m (l.map dM)=l.map dM:=mN IM n m l
theorem aeT (n m:Nat) (l:List Sm):D.ko n m (l.map bn)=l.map bn:=mN ke n m l
theorem aeU (n m:Nat) (l:List Pm):D.ko n m (l.map eH)=l.map eH:=mN OX n m l
theorem X7 (n m:Nat) (l:List Pc):D.ko n m (l.map cf)=l.map cf:=mN qL n m l
theorem abS (x:Ex) (r:List D):bI x++r = .int .i64 x.op:: .int .i64 x.n:: .str x.name:: .slice .shared 4 (x.kids.map bI)::r:=by rw[iW];rfl
theorem Zj (d:D) (x:Ex):d::bI x = [d, .int .i64 x.op, .int .i64 x.n, .str x.name, .slice .shared 4 (x.kids.map bI)]:=by rw[iW]
attribute [go_sem] abS Zj
theorem aeV:((0:Nat):Int)=0:=nd rfl
theorem aeW:((1:Nat):Int)=1:=nd rfl
theorem aeX:((2:Nat):Int)=2:=nd rfl
attribute [go_sem] aeV aeW aeX LB zak zag encStr iG ar0 FR tz RG mO aeR aeS aeT aeU X7
theorem mx (a b:Nat):(if(b:Int) > (a:Int)then(b:Int)else(a:Int))=((max a b:Nat):Int):=by split<;>omega
theorem cL {x:Int} (h1 : -9223372036854775808≤x) (h2:x<9223372036854775808):IntKind.wrap .i64 x=x:=by
 rw[IntKind.wrap_i64];omega
@[go_sem] theorem az {n:Nat} (h:n<4611686018427387904):IntKind.wrap .i64 ((n:Int)+1)=((n+1:Nat):Int):=by
 rw[cL]<;>omega
def inc (n:Nat):Option Nat:=if n<4611686018427387904 then some (n+1)else none
theorem Cf {n k:Nat} (h:inc n=some k):IntKind.wrap .i64 ((n:Int)+1)=((n+1:Nat):Int)∧k=n+1:=by
 unfold inc at h
 split at h
 ·rename_i hn;cases h;exact⟨az hn,rfl⟩
 ·cases h
def IN (n:Int):Option Int:=if -4611686018427387904<n∧n<4611686018427387904 then some (n+1)else none
theorem vt {n k:Int} (h:IN n=some k):IntKind.wrap .i64 (n+1)=n+1∧k=n+1:=by
 unfold IN at h
 split at h
 ·rename_i hn;cases h;exact⟨cL (by omega) (by omega),rfl⟩
 ·cases h
@[go_sem] theorem ags {n:Nat} (h:n+1<4611686018427387904):IntKind.wrap .i64 ((n:Int)+1)=((n+1:Nat):Int):=by
 rw[cL]<;>omega
@[go_sem] theorem agt {n:Nat} (h:n<4611686018427387904):IntKind.wrap .i64 ((n:Int)+2)=((n+2:Nat):Int):=by
 rw[cL]<;>omega
def wx {α:Type} (l:List α) (i:Nat):Option α:=if i<4611686018427387904 then l[i]? else none
theorem oI {α:Type} {l:List α} {i:Nat} {x:α} (h:wx l i=some x):i<4611686018427387904∧l[i]? = some x:=by
 unfold wx at h
 split at h
 ·exact⟨‹_›,h⟩
 ·cases h
def push {α:Type} (k:Nat) (l:List α) (x:α):Option (List α):=if(l.length+1)*k≤bh then some (l++ [x])else none
theorem dH {α:Type} {k:Nat} {l l':List α} {x:α} (h:push k l x=some l'):(l.length+1)*k≤bh∧l'=l++ [x]:=by
 unfold push at h
 split at h
 ·cases h;exact⟨‹_›,rfl⟩
 ·cases h
end Go.Abs
namespace Go.Abs
mutual
def Ex.size:Ex→Nat
 |⟨_,_,_,kids⟩=>1+Ex.aQ kids
def Ex.aQ:List Ex→Nat
 | []=>0
 |x::l=>1+x.size+Ex.aQ l
end
mutual
def Ex.depth:Ex→Nat
 |⟨_,_,_,kids⟩=>Ex.gD kids+1
def Ex.gD:List Ex→Nat
 | []=>0
 |x::l=>max x.depth (Ex.gD l)
end
def xi (x:Ex):Option Int:=if x.size<4611686018427387904 then some (x.depth:Int)else none
theorem Ex.bX {x:Ex} : ∀ {l:List Ex},x∈l→x.size<Ex.aQ l
 |y::l,h=>by
  simp only[Ex.aQ]
  rcases zaw.1 h with rfl|h
  ·omega
  ·have:=Ex.bX h;omega
theorem Ex.cG : ∀ (l:List Ex),l.length≤Ex.aQ l
 | []=>zaj _
 |x::l=>by simp only[Ex.aQ,zal];have:=Ex.cG l;omega
theorem Ex.OZ : ∀ (n:Nat) (x:Ex),x.size≤n→x.depth≤x.size:=by
 intro n
 induction n with
 |zero=>intro x h;cases x;simp only[Ex.size]at h;omega
 | succ n ih=>
  rintro⟨op,m,name,kids⟩ h
  simp only[Ex.size,Ex.depth]at h ⊢
  have : ∀ l:List Ex,Ex.aQ l≤n→Ex.gD l≤Ex.aQ l:=by
   intro l
   induction l with
   |nil=>intro _;simp[Ex.gD]
   |cons x l ihl=>
    intro h
    simp only[Ex.aQ,Ex.gD]at h ⊢
    have:=ih x (by omega)
    have:=ihl (by omega)
    omega
  have:=this kids (by omega)
  omega
def fz (t:bN):Int×Int:=
 if t.kind != 4 then(0,0)
 else if t.text == [124,124]then(17,1)
 else if t.text == [38,38]then(16,2)
 else if t.text == [61,61]then(14,3)
 else if t.text == [33,61]then(15,3)
 else if t.text == [60]then(10,4)
 else if t.text == [60,61]then(11,4)
 else if t.text == [62]then(12,4)
 else if t.text == [62,61]then(13,4)
 else if t.text == [43]then(8,5)
 else if t.text == [45]then(9,5)
 else if t.text == [42]then(5,6)
 else if t.text == [47]then(6,6)
 else if t.text == [37]then(7,6)
 else(0,0)
structure Rd where
 l:List bN
 i:Nat
 code:Int
 gE:Int
 n:Nat
abbrev Rd.good (r:Rd):Bool:=r.code==0
def Rd.fA (r:Rd):Option bN:=(wx r.l r.i).bind fun t=>if decide (0≤t.kind) && decide (t.kind≤4)then some t else none
theorem fh {r:Rd} {t:bN} (h:r.fA=some t):r.i<4611686018427387904∧r.l[r.i]? = some t∧0≤t.kind∧t.kind≤4:=by
 unfold Rd.fA at h
 rw[zab]at h
 obtain⟨u,h1,h⟩:=h
 obtain⟨g1,g2⟩:=oI h1
 by_cases hk:(decide (0≤u.kind) && decide (u.kind≤4))=true
 ·rw [if_pos hk]at h
  cases h
  simp only[zaq,decide_eq_true_eq]at hk
  exact⟨g1,g2,hk.1,hk.2⟩
 ·rw[if_neg hk]at h;cases h
def Rd.bad (c:Int) (r:Rd):Option Rd:=if r.good then r.fA.bind fun t=>some {r with code:=c,gE:=t.pos}else some r
def Rd.is (text:aB) (r:Rd):Option Bool:=r.fA.bind fun t=>some ((t.kind==3 ||t.kind==4) && t.text==text)
def Rd.take (text:aB) (r:Rd):Option (Bool×Rd):=
 if !r.good then some (false,r)else(r.is text).bind fun b=>if !b then some (false,r)else some (true,{r with i:=r.i+1})
def Rd.want (text:aB) (r:Rd):Option Rd:=(r.take text).bind fun p=>if !p.1 then p.2.bad 3 else some p.2
def Rd.name (room:Bool) (r:Rd):Option (aB×Rd):=
 r.fA.bind fun t=>if !r.good ||t.kind != 1 then(r.bad 3).bind fun r=>some ([],r)else if !room then(r.bad 4).bind fun r=>some ([],r)else some (t.text,{r with i:=r.i+1})
def Rd.on (r:Rd):Rd:= {r with i:=r.i+1}
mutual
def Rd.one:Nat→Rd→Option (Ex×Rd)
 | 0,_=>none
 | n+1,r=>r.fA.bind fun t=>
  if !r.good then some (iG,r)
  else if t.kind==2 then some (⟨1,t.n,[],[]⟩,{r with i:=r.i+1})
  else if t.kind==1 then some (⟨2,0,t.text,[]⟩,{r with i:=r.i+1})
  else(r.take [40]).bind fun p=>
   if p.1 then(Rd.two n 1 p.2).bind fun x=>(x.2.want [41]).bind fun r=>some (x.1,r)
   else(p.2.take [45]).bind fun p=>
    if p.1 then(Rd.one n p.2).bind fun x=>some (⟨3,0,[],[x.1]⟩,x.2)
    else(p.2.take [33]).bind fun p=>
     if p.1 then(Rd.one n p.2).bind fun x=>some (⟨4,0,[],[x.1]⟩,x.2)
     else(p.2.bad 3).bind fun r=>some (iG,r)
def Rd.two:Nat→Int→Rd→Option (Ex×Rd)
 | 0,_,_=>none
 |n+1,least,r=>(Rd.one n r).bind fun x=>Rd.jf n least x.1 x.2
def Rd.jf:Nat→Int→Ex→Rd→Option (Ex×Rd)
 | 0,_,_,_=>none
 | n+1,least,x,r=>
  if r.good then r.fA.bind fun t=>
   if decide ((fz t).2<least) ||(fz t).1==0 then some (x,r)
   else(Rd.two n ((fz t).2+1) {r with i:=r.i+1}).bind fun y=>Rd.jf n least ⟨(fz t).1,0,[],[x,y.1]⟩ y.2
  else some (x,r)
end
def Rd.whole (n:Nat) (r:Rd):Option (Ex×Rd):=
 r.fA.bind fun t=>(Rd.two n 1 r).bind fun x=>
  if x.2.good then(xi x.1).bind fun d=>if decide (d > 20)then some (x.1,{x.2 with code:=4,gE:=t.pos})else some (x.1,x.2)
  else some (x.1,x.2)
def Rd.names:Nat→List aB→Int→Rd→Option (List aB×Rd)
 | 0,_,_,_=>none
 | n+1,l,dk,r=>
  if r.good then(r.name (decide ((l.length:Int)<dk))).bind fun p=>(push 17 l p.1).bind fun l=>(p.2.take [44]).bind fun q=>
   if !q.1 then(q.2.want [59]).bind fun r=>some (l,r)else Rd.names n l dk q.2
  else some (l,r)
def Rd.ahead (sign:aB) (r:Rd):Option Bool:=
 if r.good then r.fA.bind fun t=>if t.kind==1 then(wx r.l (r.i+1)).bind fun u=>some (u.kind==4 && u.text==sign)else some false
 else some false
def Rd.labels:Nat→List aB→Rd→Option (List aB×Rd)
 | 0,_,_=>none
 |n+1,l,r=>(r.ahead [58]).bind fun b=>if b then r.fA.bind fun t=>(push 17 l t.text).bind fun l=>Rd.labels n l {r with i:=r.i+2}else some (l,r)
def Rd.lU (r:Rd):Option Bool:=
 r.fA.bind fun t=>some (if t.kind==1 then true else if t.kind != 3 then false
  else t.text == [105,102] ||t.text == [119,104,105,108,101] ||t.text == [98,114,101,97,107] ||t.text == [99,111,110,116,105,110,117,101] ||t.text == [114,101,116,117,114,110] ||t.text == [103,111,116,111] ||t.text == [114,101,97,100] ||t.text == [112,114,105,110,116])
def Rd.jk (m:Nat):Nat→List Ar→Rd→Option (List Ar×Rd)
 | 0,_,_=>none
 | n+1,l,r=>
  if r.good then(r.take [114,101,102]).bind fun p=>
   if p.1 then(p.2.name true).bind fun x=>(push 81 l ⟨true,x.1,iG⟩).bind fun l=>(x.2.take [44]).bind fun c=>if !c.1 then some (l,c.2)else Rd.jk m n l c.2
   else(Rd.whole m p.2).bind fun x=>(push 81 l ⟨false,[],x.1⟩).bind fun l=>(x.2.take [44]).bind fun c=>if !c.1 then some (l,c.2)else Rd.jk m n l c.2
  else some (l,r)
def Rd.other (sign:aB) (r:Rd):Option Bool:=if r.good then(r.is sign).bind fun b=>some !b else some false
def Rd.call (m:Nat) (name proc:aB) (r:Rd):Option (Sm×Rd):=
 (r.want [40]).bind fun r=>(r.other [41]).bind fun b=>
  if b then(Rd.jk m m [] r).bind fun q=>(q.2.want [41]).bind fun r=>(r.want [59]).bind fun r=>some (⟨0,4,[],name,proc,iG,false,q.1,[],[]⟩,r)
  else(r.want [41]).bind fun r=>(r.want [59]).bind fun r=>some (⟨0,4,[],name,proc,iG,false,[],[],[]⟩,r)
def Rd.named (m:Nat) (r:Rd):Option (Sm×Rd):=
 (r.name true).bind fun x=>(x.2.is [40]).bind fun b=>
  if b then Rd.call m [] x.1 x.2
  else(x.2.want [61]).bind fun r=>(r.ahead [40]).bind fun b=>
   if b then(r.name true).bind fun y=>Rd.call m x.1 y.1 y.2
   else(Rd.whole m r).bind fun y=>(y.2.want [59]).bind fun r=>some (⟨0,1,[],x.1,[],y.1,false,[],[],[]⟩,r)
def Rd.plain (m:Nat) (word:aB) (r:Rd):Option (Sm×Rd):=
 if word == [98,114,101,97,107]then some (⟨0,7,[],[],[],iG,false,[],[],[]⟩,r)
 else if word == [99,111,110,116,105,110,117,101]then some (⟨0,8,[],[],[],iG,false,[],[],[]⟩,r)
 else if word == [114,101,116,117,114,110]then(r.is [59]).bind fun b=>
  if !b then(Rd.whole m r).bind fun x=>some (⟨0,9,[],[],[],x.1,true,[],[],[]⟩,x.2)else some (⟨0,9,[],[],[],iG,false,[],[],[]⟩,r)
 else if word == [103,111,116,111]then(r.name true).bind fun x=>some (⟨0,10,[],x.1,[],iG,false,[],[],[]⟩,x.2)
 else if word == [114,101,97,100]then(r.name true).bind fun x=>some (⟨0,2,[],x.1,[],iG,false,[],[],[]⟩,x.2)
 else if word == [112,114,105,110,116]then(Rd.whole m r).bind fun x=>some (⟨0,3,[],[],[],x.1,false,[],[],[]⟩,x.2)
 else some (FR,r)
def Rd.head (m:Nat) (r:Rd):Option (Ex×Rd):=(r.want [40]).bind fun r=>(Rd.whole m r).bind fun x=>(x.2.want [41]).bind fun r=>some (x.1,r)
mutual
def Rd.rows (m:Nat):Nat→Int→Bool→Rd→Option ((List Sm×List aB)×Rd)
 | 0,_,_,_=>none
 |n+1,nest,body,r=>Rd.dI m n nest body [] r
def Rd.dI (m:Nat):Nat→Int→Bool→List Sm→Rd→Option ((List Sm×List aB)×Rd)
 | 0,_,_,_,_=>none
 | n+1,nest,body,out,r=>
  if r.good then(Rd.labels m [] r).bind fun l=>(l.2.is [125]).bind fun b=>
   if b && (body ||(l.1.length:Int)==0)then some ((out,l.1),{l.2 with i:=l.2.i+1})
   else(Rd.stmt m n nest l.2).bind fun s=>(push 209 out {s.1 with labels:=l.1}).bind fun out=>Rd.dI m n nest body out s.2
  else some (([],[]),r)
def Rd.stmt (m:Nat):Nat→Int→Rd→Option (Sm×Rd)
 | 0,_,_=>none
 | n+1,nest,r=>r.lU.bind fun b=>
  if !b then(r.bad 3).bind fun r=>some (FR,r)
  else(inc r.n).bind fun k=>
   if decide ((k:Int) > 200) ||decide (nest > 12)then(({r with n:=k} : Rd).bad 4).bind fun r=>some (FR,r)
   else({r with n:=k} : Rd).fA.bind fun t=>
    if t.kind==1 then Rd.named m {r with n:=k}
    else if t.text == [105,102]then Rd.choice m n nest {r with n:=k,i:=r.i+1}
    else if t.text == [119,104,105,108,101]then(Rd.head m {r with n:=k,i:=r.i+1}).bind fun x=>(Rd.block m n nest x.2).bind fun b=>some (⟨0,6,[],[],[],x.1,false,[],b.1,[]⟩,b.2)
    else(Rd.plain m t.text {r with n:=k,i:=r.i+1}).bind fun s=>(s.2.want [59]).bind fun r=>some (s.1,r)
def Rd.block (m:Nat):Nat→Int→Rd→Option (List Sm×Rd)
 | 0,_,_=>none
 |n+1,nest,r=>(r.want [123]).bind fun r=>(IN nest).bind fun k=>(Rd.rows m n k false r).bind fun p=>some (p.1.1,p.2)
def Rd.choice (m:Nat):Nat→Int→Rd→Option (Sm×Rd)
 | 0,_,_=>none
 |n+1,nest,r=>(Rd.head m r).bind fun x=>(Rd.block m n nest x.2).bind fun t=>(t.2.take [101,108,115,101]).bind fun q=>
  if q.1 then(Rd.block m n nest q.2).bind fun e=>some (⟨0,5,[],[],[],x.1,false,[],t.1,e.1⟩,e.2)
  else some (⟨0,5,[],[],[],x.1,false,[],t.1,[]⟩,q.2)
end
def Rd.params:Nat→List Pm→Rd→Option (List Pm×Rd)
 | 0,_,_=>none
 | n+1,l,r=>
  if r.good then(r.take [114,101,102]).bind fun q=>(q.2.name (decide ((l.length:Int)<8))).bind fun x=>(push 25 l ⟨x.1,q.1⟩).bind fun l=>(x.2.take [44]).bind fun c=>
   if !c.1 then some (l,c.2)else Rd.params n l c.2
  else some (l,r)
def Rd.vars (m:Nat):Nat→List aB→Rd→Option (List aB×Rd)
 | 0,_,_=>none
 |n+1,l,r=>(r.take [118,97,114]).bind fun q=>if q.1 then(Rd.names m l 16 q.2).bind fun x=>Rd.vars m n x.1 x.2 else some (l,q.2)
def Rd.jB (m:Nat) (name:aB) (ps:List Pm) (r:Rd):Option (Pc×Rd):=
 (Rd.vars m m [] r).bind fun v=>(Rd.rows m m 1 true v.2).bind fun b=>some (⟨name,ps,v.1,b.1.1,b.1.2⟩,b.2)
def Rd.proc (m:Nat) (r:Rd):Option (Pc×Rd):=
 (r.name true).bind fun x=>(x.2.want [40]).bind fun r=>(r.other [41]).bind fun b=>
  if b then(Rd.params m [] r).bind fun q=>(q.2.want [41]).bind fun r=>(r.want [123]).bind fun r=>Rd.jB m x.1 q.1 r
  else(r.want [41]).bind fun r=>(r.want [123]).bind fun r=>Rd.jB m x.1 [] r
def Rd.globals (m:Nat):Nat→List aB→Rd→Option (List aB×Rd)
 | 0,_,_=>none
 |n+1,l,r=>(r.take [103,108,111,98,97,108]).bind fun q=>if q.1 then(Rd.names m l 16 q.2).bind fun x=>Rd.globals m n x.1 x.2 else some (l,q.2)
def Rd.oJ (r:Rd):Option Bool:=if r.good then r.is [112,114,111,99]else some false
def Rd.mP (r:Rd):Option Bool:=if r.good then r.fA.bind fun t=>some (t.kind != 0)else some false
def Rd.procs (m:Nat):Nat→List Pc→Rd→Option (List Pc×Rd)
 | 0,_,_=>none
 | n+1,l,r=>r.oJ.bind fun b=>
  if b then
   if(l.length:Int)==16 then(r.bad 4).bind fun r=>some (l,r)
   else(Rd.proc m {r with i:=r.i+1}).bind fun x=>(push 113 l x.1).bind fun l=>Rd.procs m n l x.2
  else r.mP.bind fun b=>if b then(r.bad 3).bind fun r=>some (l,r)else some (l,r)
def Rd.program (m:Nat) (r:Rd):Option (Pg×Rd):=(Rd.globals m m [] r).bind fun g=>(Rd.procs m m [] g.2).bind fun q=>some (⟨g.1,q.1⟩,q.2)
mutual
def Ex.beq:Ex→Ex→Bool
 |⟨op,n,name,kids⟩,⟨X8,n',pW,tN⟩=>if op != X8 ||n != n' || !(name==pW) ||(kids.length:Int) != (tN.length:Int)then false else Ex.fB kids tN
def Ex.fB:List Ex→List Ex→Bool
 | [],_=>true
 |_::_,[]=>true
 |x::l,y::l'=>if !Ex.beq x y then false else Ex.fB l l'
end
mutual
theorem Ex.beq_refl : ∀ x:Ex,Ex.beq x x=true
 |⟨op,n,name,kids⟩=>by simp[Ex.beq,Ex.ga kids]
theorem Ex.ga : ∀ l:List Ex,Ex.fB l l=true
 | []=>rfl
 |x::l=>by simp[Ex.fB,Ex.beq_refl x,Ex.ga l]
end
def Ar.aQ:List Ar→Nat
 | []=>0
 |a::l=>1+a.x.size+Ar.aQ l
mutual
def Sm.size:Sm→Nat
 |⟨_,_,labels,_,_,x,_,args,bb,aR⟩=>1+labels.length+x.size+Ar.aQ args+Sm.aQ bb+Sm.aQ aR
def Sm.aQ:List Sm→Nat
 | []=>0
 |s::l=>1+s.size+Sm.aQ l
end
def Pc.size (f:Pc):Nat:=1+f.params.length+f.vars.length+f.fin.length+Sm.aQ f.body
def Pc.aQ:List Pc→Nat
 | []=>0
 |f::l=>1+f.size+Pc.aQ l
def Pg.size (p:Pg):Nat:=1+p.globals.length+Pc.aQ p.procs
mutual
def Sm.num (b:Bool) (n:Nat):Sm→Sm×Nat
 |⟨id,kind,labels,name,proc,x,has,args,bb,aR⟩=>
  (⟨if b then((n+1:Nat):Int)else id,kind,labels,name,proc,x,has,args,(Sm.b7 b (n+1) bb).1,(Sm.b7 b (Sm.b7 b (n+1) bb).2 aR).1⟩,(Sm.b7 b (Sm.b7 b (n+1) bb).2 aR).2)
def Sm.b7 (b:Bool) (n:Nat):List Sm→List Sm×Nat
 | []=>([],n)
 |s::l=>((Sm.num b n s).1::(Sm.b7 b (Sm.num b n s).2 l).1,(Sm.b7 b (Sm.num b n s).2 l).2)
end
def Pc.b7 (n:Nat):List Pc→List Pc
 | []=> []
 |f::l=> {f with body:=(Sm.b7 true n f.body).1}::Pc.b7 (Sm.b7 true n f.body).2 l
def Pg.number (p:Pg):Pg:= {p with procs:=Pc.b7 0 p.procs}
def Pg.qk (p:Pg):Option Pg:=if p.size<1073741824 then some p.number else none
mutual
theorem Sm.abU (b:Bool) (n:Nat) : ∀ s:Sm,(Sm.num b n s).2≤n+s.size
 |⟨id,kind,labels,name,proc,x,has,args,bb,aR⟩=>by
  simp only[Sm.num,Sm.size]
  have h1:=Sm.tY b (n+1) bb
  have h2:=Sm.tY b (Sm.b7 b (n+1) bb).2 aR
  omega
theorem Sm.tY (b:Bool) (n:Nat) : ∀ l:List Sm,(Sm.b7 b n l).2≤n+Sm.aQ l
 | []=>by simp[Sm.b7,Sm.aQ]
 |s::l=>by
  simp only[Sm.b7,Sm.aQ]
  have h1:=Sm.abU b n s
  have h2:=Sm.tY b (Sm.num b n s).2 l
  omega
end
theorem Sm.cG : ∀ (l:List Sm),l.length≤Sm.aQ l
 | []=>zaj _
 |x::l=>by simp only[Sm.aQ,zal];have:=Sm.cG l;omega
theorem Ar.cG : ∀ (l:List Ar),l.length≤Ar.aQ l
 | []=>zaj _
 |x::l=>by simp only[Ar.aQ,zal];have:=Ar.cG l;omega
theorem Pc.cG : ∀ (l:List Pc),l.length≤Pc.aQ l
 | []=>zaj _
 |x::l=>by simp only[Pc.aQ,zal];have:=Pc.cG l;omega
theorem Ar.bX {x:Ar} : ∀ {l:List Ar},x∈l→x.x.size<Ar.aQ l
 |y::l,h=>by
  simp only[Ar.aQ]
  rcases zaw.1 h with rfl|h
  ·omega
  ·have:=Ar.bX h;omega
theorem Sm.bX {x:Sm} : ∀ {l:List Sm},x∈l→x.size<Sm.aQ l
 |y::l,h=>by
  simp only[Sm.aQ]
  rcases zaw.1 h with rfl|h
  ·omega
  ·have:=Sm.bX h;omega
theorem Pc.bX {x:Pc} : ∀ {l:List Pc},x∈l→x.size<Pc.aQ l
 |y::l,h=>by
  simp only[Pc.aQ]
  rcases zaw.1 h with rfl|h
  ·omega
  ·have:=Pc.bX h;omega
theorem Sm.e9 (b:Bool) (n:Nat) : ∀ l:List Sm,(Sm.b7 b n l).1.length=l.length
 | []=>rfl
 |s::l=>by simp only[Sm.b7,zal,Sm.e9 b _ l]
mutual
def Sm.fk:Sm→Nat
 |⟨_,_,_,_,_,_,_,_,bb,aR⟩=>1+Sm.dE bb+Sm.dE aR
def Sm.dE:List Sm→Nat
 | []=>0
 |s::l=>s.fk+Sm.dE l
end
structure Im where
 s:Sm
 proc:Int
 up:Int
 next:Int
 loop:Int
mutual
def Im.one (proc up next loop:Int) (out:List Im):Sm→List Im
 | ⟨id,kind,labels,name,pc,x,has,args,bb,aR⟩=>
  Im.rows proc ((out.length:Int)+1) (if kind==6 then(out.length:Int)+1 else next) (if kind==6 then(out.length:Int)+1 else loop)
   (Im.rows proc ((out.length:Int)+1) (if kind==6 then(out.length:Int)+1 else next) (if kind==6 then(out.length:Int)+1 else loop) (out++ [⟨⟨id,kind,labels,name,pc,x,has,args,bb,aR⟩,proc,up,next,loop⟩]) bb) aR
def Im.rows (proc up next loop:Int) (out:List Im):List Sm→List Im
 | []=>out
 |s::l=>Im.rows proc up next loop (Im.one proc up (if l.length=0 then next else(out.length:Int)+1+(s.fk:Int)) loop out s) l
end
theorem Im.abV (proc up next loop:Int) (out:List Im) (s:Sm):Im.one proc up next loop out s =
 Im.rows proc ((out.length:Int)+1) (if s.kind==6 then(out.length:Int)+1 else next) (if s.kind==6 then(out.length:Int)+1 else loop)
  (Im.rows proc ((out.length:Int)+1) (if s.kind==6 then(out.length:Int)+1 else next) (if s.kind==6 then(out.length:Int)+1 else loop) (out++ [⟨s,proc,up,next,loop⟩]) s.bb) s.aR:=by
 cases s;simp only[Im.one]
mutual
theorem Zk (proc up next loop:Int) (out:List Im) : ∀ s:Sm,(Im.one proc up next loop out s).length=out.length+s.fk
 |⟨id,kind,labels,name,pc,x,has,args,bb,aR⟩=>by
  simp only[Im.one,Sm.fk]
  rw[gi,gi]
  simp only[zak,zal,zax];omega
theorem gi (proc up next loop:Int) (out:List Im) : ∀ l:List Sm,(Im.rows proc up next loop out l).length=out.length+Sm.dE l
 | []=>rfl
 |s::l=>by
  simp only[Im.rows,Sm.dE]
  rw[gi,Zk];omega
end
mutual
theorem Cg : ∀ s:Sm,s.fk≤s.size
 |⟨_,_,labels,_,_,x,_,args,bb,aR⟩=>by
  have:=kT bb;have:=kT aR
  simp only[Sm.fk,Sm.size];omega
theorem kT : ∀ l:List Sm,Sm.dE l≤Sm.aQ l
 | []=>zaj _
 |s::l=>by
  have:=Cg s;have:=kT l
  simp only[Sm.dE,Sm.aQ];omega
end
structure Sh where
 L:List Im
 lo:List Int
 hi:List Int
def Sh.go (i:Nat) (h:Sh):List Pc→Sh
 | []=>h
 |f::l=>Sh.go (i+1) ⟨Im.rows i 0 (-1) 0 h.L f.body,h.lo++ [(h.L.length:Int)+1],h.hi++ [((Im.rows i 0 (-1) 0 h.L f.body).length:Int)+1]⟩ l
def Pg.eY (p:Pg):Sh:=Sh.go 0 ⟨[],[],[]⟩ p.procs
end Go.Abs
