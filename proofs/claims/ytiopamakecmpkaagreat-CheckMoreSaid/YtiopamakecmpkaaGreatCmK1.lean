/-
  What is proved here: part 1 of the road to the claim (Frame, Frame2, Walk, Par, Par1, Par2, Par3, Step, SemAny, Wp, Types, Mir, MirTree, Cnt, MirFlat).
  No conditions.
-/
import Derived.Test.YtiopamakecmpkaaGreatCmK0
import Derived.Attr
import Derived.KernelRfl

set_option linter.unusedSimpArgs false
set_option linter.unusedVariables false
namespace Go.Abs
def Tag.ok (m:Nat):Tag→Bool
 | .tok t _=>decide (t<m)
 |_=>true
def Tag.bw (ts:List Nat):Tag→Tag
 | .tok t y=>match ts[t]? with|some t'=> .tok t' y|none=> .shared
 |g=>g
mutual
def D.ok (n m:Nat):D→Bool
 | .ptr o _=>decide (o<n)
 | .dr row _=>D.bg n m row
 | .slice g _ rows=>g.ok m && D.fu n m rows
 | .agg cs=>D.bg n m cs
 | .tuple ds=>D.bg n m ds
 | .eC _ o=>decide (o<n)
 | .fL _ cs=>D.bg n m cs
 | .fA o=>decide (o<n)
 | .bX _ o _ _=>decide (o<n)
 | .ew o _ _=>decide (o<n)
 |_=>true
def D.bg (n m:Nat):List D→Bool
 | []=>true
 |d::r=>D.ok n m d && D.bg n m r
def D.fu (n m:Nat):List (List D)→Bool
 | []=>true
 |d::r=>D.bg n m d && D.fu n m r
end
mutual
def D.bw (os ts:List Nat):D→D
 | .ptr o off=>match os[o]? with|some o'=> .ptr o' off|none=> .junk
 | .dr row off=> .dr (D.ct os ts row) off
 | .slice g z rows=> .slice (g.bw ts) z (D.kb os ts rows)
 | .agg cs=> .agg (D.ct os ts cs)
 | .tuple ds=> .tuple (D.ct os ts ds)
 | .junk=> .junk
 | .int k x=> .int k x
 | .bool b=> .bool b
 | .str l=> .str l
 | .er=> .er
 | .val v=> .val v
 | .eC T o=>match os[o]? with|some o'=> .eC T o'|none=> .junk
 | .fL f cs=> .fL f (D.ct os ts cs)
 | .fA o=>match os[o]? with|some o'=> .fA o'|none=> .junk
 | .bX z o g len=>match os[o]? with|some o'=> .bX z o' g len|none=> .junk
 | .ew o g off=>match os[o]? with|some o'=> .ew o' g off|none=> .junk
 | .dj z=> .dj z
def D.ct (os ts:List Nat):List D→List D
 | []=> []
 |d::r=>D.bw os ts d::D.ct os ts r
def D.kb (os ts:List Nat):List (List D)→List (List D)
 | []=> []
 |d::r=>D.ct os ts d::D.kb os ts r
end
theorem fb (os ts:List Nat) : ∀ l,D.ct os ts l=l.map (D.bw os ts)
 | []=>by simp[D.ct]
 |d::r=>by simp[D.ct,fb os ts r]
theorem zg (os ts:List Nat) : ∀ l,D.kb os ts l=l.map (D.ct os ts)
 | []=>by simp[D.kb]
 |d::r=>by simp[D.kb,zg os ts r]
theorem pz (n m:Nat) : ∀ l,D.bg n m l=l.all (D.ok n m)
 | []=>by simp[D.bg]
 |d::r=>by simp[D.bg,pz n m r]
theorem sJ (n m:Nat) : ∀ l,D.fu n m l=l.all (D.bg n m)
 | []=>by simp[D.fu]
 |d::r=>by simp[D.fu,sJ n m r]
theorem sK {n m:Nat} {l:List D} (h:D.bg n m l=true) {i:Nat} {d:D} (e:l[i]? = some d):D.ok n m d=true:=by
 rw[pz]at h;exact zaO.1 h d (zac e)
theorem U8 {n m:Nat} {l:List (List D)} (h:D.fu n m l=true) {i:Nat} {d:List D} (e:l[i]? = some d):D.bg n m d=true:=by
 rw[sJ]at h;exact zaO.1 h d (zac e)
section
variable {M M0:Map} {s s0:St} {os ts:List Nat}
theorem gO.zh (jB : ∀ (i:Nat) t,ts[i]? = some t→M0.be i=M.be t) (ht : ∀ (i t:Nat),ts[i]? = some t→s0.aw[i]? = s.aw[t]?) (hlen:s0.aw.length=ts.length) {g:Tag} {z len cap:Nat} {base:Option (Nat×Nat)} (zT:g.ok ts.length=true) (h:gO M s (g.bw ts) z len base cap):gO M0 s0 g z len base cap:=by
 cases g with
 |full=>exact h
 |shared=>exact h
 |tok t y=>
  have hF:t<ts.length:=by simpa[Tag.ok]using zT
  have e:ts[t]? = some ts[t]:=zak hF
  simp only[Tag.bw,e]at h
  obtain⟨h1,h2⟩:=h
  refine⟨by omega,fun n hn=>?_⟩
  rw[ht t _ e]at hn
  rw[jB t _ e]
  exact h2 n hn
theorem RD.zh (hG:M0.G=M.G) (oF : ∀ (i:Nat) o,os[i]? = some o→M0.loc i=M.loc o) (je:s0.av.length=os.length)
 (jB : ∀ (i:Nat) t,ts[i]? = some t→M0.be i=M.be t) (ht : ∀ (i t:Nat),ts[i]? = some t→s0.aw[i]? = s.aw[t]?) (hlen:s0.aw.length=ts.length) {d:D} {v:Value} (h:RD M s d v) :
 ∀ d0:D,d0.bw os ts=d→d0.ok os.length ts.length=true→RD M0 s0 d0 v:=by
 have ld : ∀ (i:Nat) o,os[i]? = some o→M0.mu i=M.mu o:=fun i o h=>congrArg Prod.fst (oF i o h)
 have tag:=fun {g z len cap base}=>@gO.zh M M0 s s0 ts jB ht hlen g z len cap base
 induction h with
 | junk v=>
  intro d0 e ok
  cases d0<;>simp only[D.bw]at e<;>try (cases e;done)
  ·exact .junk v
  ·rename_i o off
   have hF:o<os.length:=by simpa[D.ok]using ok
   rw[zak hF]at e;cases e
  ·rename_i T o
   have hF:o<os.length:=by simpa[D.ok]using ok
   rw[zak hF]at e;cases e
  ·rename_i o
   have hF:o<os.length:=by simpa[D.ok]using ok
   rw[zak hF]at e;cases e
  ·rename_i z o g len
   have hF:o<os.length:=by simpa[D.ok]using ok
   rw[zak hF]at e;cases e
  ·rename_i o g off
   have hF:o<os.length:=by simpa[D.ok]using ok
   rw[zak hF]at e;cases e
 |dj z a=>intro d0 e ok;cases d0<;>simp only[D.bw]at e<;>first|(cases e;exact .dj _ _)|(split at e<;>cases e)|cases e
 |bX z o g len b cap A ho hm ha hl=>
  intro d0 e ok
  cases d0<;>simp only[D.bw]at e<;>first|(cases e;done)|skip
  all_goals try (split at e<;>cases e;done)
  rename_i z0 o0 g0 XD
  have hF:o0<os.length:=by simpa[D.ok]using ok
  rw[zak hF]at e
  cases e
  exact RD.bX (s:=s0) z o0 g len b cap A (by omega) ((congrArg Prod.snd (oF o0 _ (zak hF))).trans hm) ha hl
 |ew z o g off b cap A ho hm ha=>
  intro d0 e ok
  cases d0<;>simp only[D.bw]at e<;>first|(cases e;done)|skip
  all_goals try (split at e<;>cases e;done)
  rename_i o0 g0 QO
  have hF:o0<os.length:=by simpa[D.ok]using ok
  rw[zak hF]at e
  cases e
  exact RD.ew (s:=s0) z o0 g off b cap A (by omega) ((congrArg Prod.snd (oF o0 _ (zak hF))).trans hm) ha
 |val v hv=>intro d0 e ok;cases d0<;>simp only[D.bw]at e<;>first|(cases e;exact .val _ hv)|(split at e<;>cases e)|cases e
 |eC T o v ho ht hv=>
  intro d0 e ok
  cases d0<;>simp only[D.bw]at e<;>first|(split at e<;>cases e;done)|skip
  all_goals try (cases e;done)
  rename_i T0 o0
  have hF:o0<os.length:=by simpa[D.ok]using ok
  rw[zak hF]at e
  cases e
  have hl:=oF o0 _ (zak hF)
  exact .eC _ o0 v (by omega) ((congrArg (fun x=>x.2.ty?) hl).trans ht) (by rw[ld o0 _ (zak hF)];exact hv)
 |int k x=>intro d0 e ok;cases d0<;>simp only[D.bw]at e<;>first|(cases e;exact .int _ _)|(split at e<;>cases e)|cases e
 |bool b=>intro d0 e ok;cases d0<;>simp only[D.bw]at e<;>first|(cases e;exact .bool _)|(split at e<;>cases e)|cases e
 |str l=>intro d0 e ok;cases d0<;>simp only[D.bw]at e<;>first|(cases e;exact .str _)|(split at e<;>cases e)|cases e
 |er=>intro d0 e ok;cases d0<;>simp only[D.bw]at e<;>first|(cases e;exact .er)|(split at e<;>cases e)|cases e
 |fA o ho hm=>
  intro d0 e ok
  cases d0<;>simp only[D.bw]at e<;>first|(cases e;done)|skip
  all_goals try (split at e<;>cases e;done)
  rename_i o0
  have hF:o0<os.length:=by simpa[D.ok]using ok
  rw[zak hF]at e
  cases e
  rw[← ld o0 _ (zak hF)]
  exact RD.fA (s:=s0) o0 (by omega) ((congrArg Prod.snd (oF o0 _ (zak hF))).trans hm)
 |fL f ds vs hl _ ih=>
  intro d0 e ok
  cases d0<;>simp only[D.bw]at e<;>first|(split at e<;>cases e;done)|skip
  all_goals try (cases e;done)
  rename_i f0 NG
  simp only[D.fL.injEq]at e
  obtain⟨rfl,rfl⟩:=e
  simp only[D.ok]at ok
  rw[fb]at hl ih
  refine .fL _ NG vs (by simpa using hl) (fun i d v e1 e2=>ih i _ v (by rw[zap,e1];rfl) e2 d rfl (sK ok e1))
 |ptr o off ho hm=>
  intro d0 e ok
  cases d0<;>simp only[D.bw]at e<;>first|(cases e;done)|skip
  all_goals try (split at e<;>cases e;done)
  rename_i o0 QO
  have hF:o0<os.length:=by simpa[D.ok]using ok
  rw[zak hF]at e
  cases e
  rw[← ld o0 _ (zak hF)]
  exact RD.ptr (s:=s0) o0 _ (by omega) (by rw[show M0.ob o0=_ from congrArg Prod.snd (oF o0 _ (zak hF))];exact hm)
 |dr row off b k h1 h2 ih=>
  intro d0 e ok
  cases d0<;>simp only[D.bw]at e<;>first|(split at e<;>cases e;done)|skip
  all_goals try (cases e;done)
  rename_i ad1 QO
  simp only[D.dr.injEq]at e
  obtain⟨rfl,rfl⟩:=e
  simp only[D.ok]at ok
  rw[fb]at h1 ih
  refine .dr ad1 QO b k (fun i d e=>?_) (fun i d u e eu=>?_)
  ·rw[hG];exact h1 i _ (by rw[zap,e];rfl)
  ·rw[hG]at eu;exact ih i _ u (by rw[zap,e];rfl) eu d rfl (sK ok e)
 |ig g z cap hc nZ=>
  intro d0 e ok
  cases d0<;>simp only[D.bw]at e<;>first|(split at e<;>cases e;done)|skip
  all_goals try (cases e;done)
  rename_i g0 z0 sd
  simp only[D.slice.injEq]at e
  obtain⟨rfl,rfl,e⟩:=e
  have:sd = []:=by cases sd<;>simp[D.kb]at e;rfl
  subst this
  simp only[D.ok,zam]at ok
  exact .ig g0 z0 cap hc (tag ok.1 nZ)
 | kR z a cap=>
  intro d0 e ok
  cases d0<;>simp only[D.bw]at e<;>first|(split at e<;>cases e;done)|skip
  all_goals try (cases e;done)
  rename_i g0 z0 sd
  simp only[D.slice.injEq]at e
  obtain⟨hg,rfl,e⟩:=e
  have:sd = []:=by cases sd<;>simp[D.kb]at e;rfl
  subst this
  simp only[D.ok,zam]at ok
  have:g0 = .shared:=by
   cases g0 with
   |tok t y=>
    have ht:t<ts.length:=by simpa[Tag.ok]using ok.1
    simp[Tag.bw,ht]at hg
   |shared=>rfl
   |_=>simp[Tag.bw]at hg
  subst this
  exact .kR _ a cap
 | slice g z rows b k cap hl hs h1 h2 nZ ih=>
  intro d0 e ok
  cases d0<;>simp only[D.bw]at e<;>first|(split at e<;>cases e;done)|skip
  all_goals try (cases e;done)
  rename_i g0 z0 sd
  simp only[D.slice.injEq]at e
  obtain⟨rfl,rfl,rfl⟩:=e
  simp only[D.ok,zam]at ok
  rw[zg]at hl hs h1 ih nZ
  simp only[zg,zat]at hl nZ ⊢
  have dN : ∀ (i:Nat) (row:List D),sd[i]? = some row→(sd.map (D.ct os ts))[i]? = some (D.ct os ts row):=fun i row e=>by rw[zap,e];rfl
  have ph : ∀ (row:List D) (j:Nat) (d:D),row[j]? = some d→(D.ct os ts row)[j]? = some (D.bw os ts d):=fun row j d e=>by rw[fb,zap,e];rfl
  refine .slice g0 z0 sd b k cap hl (fun row hr=>?_) (fun i row j d e1 e2=>?_) (fun i row j d u e1 e2 eu=>?_) (tag ok.1 nZ)
  ·have:=hs (D.ct os ts row) (zaH.2 ⟨row,hr,rfl⟩)
   rwa [fb,zat]at this
  ·rw[hG];exact h1 i _ j _ (dN i row e1) (ph row j d e2)
  ·rw[hG]at eu;exact ih i _ j _ u (dN i row e1) (ph row j d e2) eu d rfl (sK (U8 ok.2 e1) e2)
 |agg cells vs hl h1 _ ih=>
  intro d0 e ok
  cases d0<;>simp only[D.bw]at e<;>first|(split at e<;>cases e;done)|skip
  all_goals try (cases e;done)
  rename_i NG
  simp only[D.agg.injEq]at e
  subst e
  simp only[D.ok]at ok
  rw[fb]at hl ih
  refine .agg NG vs (by simpa using hl) h1 (fun i d v e1 e2=>ih i _ v (by rw[zap,e1];rfl) e2 d rfl (sK ok e1))
 |tuple ds vs hl _ ih=>
  intro d0 e ok
  cases d0<;>simp only[D.bw]at e<;>first|(split at e<;>cases e;done)|skip
  all_goals try (cases e;done)
  rename_i NG
  simp only[D.tuple.injEq]at e
  subst e
  simp only[D.ok]at ok
  rw[fb]at hl ih
  refine .tuple NG vs (by simpa using hl) (fun i d v e1 e2=>ih i _ v (by rw[zap,e1];rfl) e2 d rfl (sK ok e1))
theorem RD.bw (hG:M0.G=M.G) (oF : ∀ i,i<s0.av.length→∃ o,os[i]? = some o∧o<s.av.length∧M.loc o=M0.loc i)
 (jB : ∀ i,i<s0.aw.length→∃ t,ts[i]? = some t∧t<s.aw.length∧s.aw[t]? = s0.aw[i]? ∧M.be t=M0.be i) {d:D} {v:Value} (h:RD M0 s0 d v):RD M s (d.bw os ts) v:=by
 have tag : ∀ {g:Tag} {z len cap:Nat} {base:Option (Nat×Nat)},gO M0 s0 g z len base cap→gO M s (g.bw ts) z len base cap:=by
  intro g z len cap base h
  cases g with
  |full=>exact h
  |shared=>exact h
  |tok t y=>
   obtain⟨h1,h2⟩:=h
   obtain⟨t',e,hF,Nw,hb⟩:=jB t h1
   simp only[Tag.bw,e]
   refine⟨hF,fun n hn=>?_⟩
   rw[hb]
   exact h2 n (Nw ▸ hn)
 induction h with
 |junk v=>simp only[D.bw];exact .junk v
 |int k x=>simp only[D.bw];exact .int k x
 |bool b=>simp only[D.bw];exact .bool b
 |str l=>simp only[D.bw];exact .str l
 |er=>simp only[D.bw];exact .er
 |ptr o off ho hk=>
  obtain⟨o',e,hF,hm⟩:=oF o ho
  simp only[D.bw,e]
  have hb:M.ob o'=M0.ob o:=congrArg Prod.snd hm
  have hm:M.mu o'=M0.mu o:=congrArg Prod.fst hm
  rw[← hm]
  exact .ptr o' off hF (by rw[hb];exact hk)
 |fA o ho hk=>
  obtain⟨o',e,hF,hm⟩:=oF o ho
  simp only[D.bw,e]
  have hb:M.ob o'=M0.ob o:=congrArg Prod.snd hm
  have hm:M.mu o'=M0.mu o:=congrArg Prod.fst hm
  rw[← hm]
  exact .fA o' hF (by rw[hb];exact hk)
 |dj z a=>simp only[D.bw];exact .dj z a
 |bX z o g len b cap A ho hk ha hl=>
  obtain⟨o',e,hF,hm⟩:=oF o ho
  simp only[D.bw,e]
  exact .bX z o' g len b cap A hF ((congrArg Prod.snd hm).trans hk) ha hl
 |ew z o g off b cap A ho hk ha=>
  obtain⟨o',e,hF,hm⟩:=oF o ho
  simp only[D.bw,e]
  exact .ew z o' g off b cap A hF ((congrArg Prod.snd hm).trans hk) ha
 |fL f ds vs hl _ ih=>
  simp only[D.bw,fb]
  refine .fL f _ vs (by simpa using hl) (fun i d v e1 e2=>?_)
  simp only[zap,zaq]at e1
  obtain⟨d',e1,rfl⟩:=e1
  exact ih i d' v e1 e2
 |val v hv=>simp only[D.bw];exact .val v hv
 |eC T o v ho ht hv=>
  obtain⟨o',e,hF,hm⟩:=oF o ho
  simp only[D.bw,e]
  have h1:M.mu o'=M0.mu o:=congrArg Prod.fst hm
  have h2:M.ty o'=M0.ty o:=congrArg (fun x=>x.2.ty?) hm
  exact .eC T o' v hF (by rw[h2];exact ht) (by rw[h1];exact hv)
 | dr row off b k h1 h2 ih=>
  simp only[D.bw,fb]
  refine .dr _ off b k (fun i d e=>?_) (fun i d u e eu=>?_)
  ·simp only [zap,zaq]at e
   obtain⟨d',e,rfl⟩:=e
   rw[← hG];exact h1 i d' e
  ·simp only [zap,zaq]at e
   obtain⟨d',e,rfl⟩:=e
   rw[← hG]at eu;exact ih i d' u e eu
 |ig g z cap hc ht=>simp only[D.bw,D.kb];exact .ig _ z cap hc (tag ht)
 |kR z a cap=>simp only[D.bw,D.kb,Tag.bw];exact .kR z a cap
 | slice g z rows b k cap hl hs h1 h2 ht ih=>
  simp only[D.bw,zg]
  have hlen:(rows.map (D.ct os ts)).length=rows.length:=by simp
  have key:=RD.slice (M:=M) (s:=s) (g.bw ts) z (rows.map (D.ct os ts)) b k cap (by rw[hlen];exact hl) (fun row hr=>by
   obtain⟨ij,h',rfl⟩:=zaH.1 hr
   rw[fb,zat];exact hs ij h')
   (fun i row j d e1 e2=>by
    simp only[zap,zaq]at e1
    obtain⟨ij,e1,rfl⟩:=e1
    rw[fb]at e2
    simp only[zap,zaq]at e2
    obtain⟨d',e2,rfl⟩:=e2
    rw[← hG];exact h1 i ij j d' e1 e2)
   (fun i row j d u e1 e2 eu=>by
    simp only[zap,zaq]at e1
    obtain⟨ij,e1,rfl⟩:=e1
    rw[fb]at e2
    simp only[zap,zaq]at e2
    obtain⟨d',e2,rfl⟩:=e2
    rw[← hG]at eu;exact ih i ij j d' u e1 e2 eu)
   (by rw[hlen];exact tag ht)
  rw[hlen]at key
  exact key
 |agg cells vs hl h1 _ ih=>
  simp only[D.bw,fb]
  refine .agg _ vs (by simpa using hl) h1 (fun i d v e1 e2=>?_)
  simp only[zap,zaq]at e1
  obtain⟨d',e1,rfl⟩:=e1
  exact ih i d' v e1 e2
 |tuple ds vs hl _ ih=>
  simp only[D.bw,fb]
  refine .tuple _ vs (by simpa using hl) (fun i d v e1 e2=>?_)
  simp only[zap,zaq]at e1
  obtain⟨d',e1,rfl⟩:=e1
  exact ih i d' v e1 e2
def iS {α:Type} : List Nat→List α→List α→List α
 | [],new,l=>l++new
 |_::_,[],l=>l
 |o::os,x::xs,l=>iS os xs (l.set o x)
def gM (os:List Nat) (n k:Nat):List Nat:=os++(List.range k).map (n + ·)
theorem uA {α:Type} : ∀ (os:List Nat) (xs l:List α),os.length≤xs.length→(iS os xs l).length=l.length+(xs.length - os.length)
 | [],xs,l,_=>by simp[iS]
 |o::os,[],l,h=>by simp at h
 |o::os,x::xs,l,h=>by
  simp only[iS]
  rw[uA os xs _ (by simpa using h)]
  simp
theorem Az {α:Type} : ∀ (os:List Nat) (xs l:List α),os.length≤xs.length→os.Nodup→(∀ o∈os,o<l.length)→
 (∀ (i:Nat) (o:Nat),os[i]? = some o→(iS os xs l)[o]? = xs[i]?)∧(∀ o,o<l.length→o∉os→(iS os xs l)[o]? = l[o]?)∧
 (∀ k,(iS os xs l)[l.length+k]? = xs[os.length+k]?)
 | [],xs,l,_,_,_=>by
  refine⟨by simp,fun o ho _=>by simp only[iS];rw[zao ho],fun k=>by simp only[iS];rw[zau (by omega)];simp⟩
 |o::os,[],l,h,_,_=>by simp at h
 | o::os,x::xs,l,h,hn,hF=>by
  simp only[zbD]at hn
  have xi : ∀ q∈os,q<(l.set o x).length:=fun q hq=>by simpa using hF q (by simp[hq])
  obtain⟨h1,h2,h3⟩:=Az os xs (l.set o x) (by simpa using h) hn.2 xi
  have ho:o<l.length:=hF o (by simp)
  simp only[iS]
  refine⟨fun i q e=>?_,fun q hq hq2=>?_,fun k=>?_⟩
  ·cases i with
   |zero=>
    simp only[zaK,Option.some.injEq]at e
    subst e
    rw[h2 o (by simpa using ho) hn.1]
    simp[ho]
   |succ i=>simpa using h1 i q (by simpa using e)
  ·have qZ:q≠o:=fun e=>hq2 (by simp [e])
   rw[h2 q (by simpa using hq) (fun h=>hq2 (by simp[h])),List.getElem?_set_ne (Ne.symm qZ)]
  ·have:=h3 k
   simp only[List.length_set]at this
   rw[this]
   simp only[zal]
   rw[show os.length+1+k=(os.length+k)+1 by omega];simp
theorem zU (os:List Nat) (n k i:Nat):(gM os n k)[i]? = if i<os.length then os[i]? else if i<os.length+k then some (n+(i - os.length))else none:=by
 unfold gM
 split
 ·rename_i h;rw[zao h]
 ·rename_i h
  rw[zau (by omega)]
  split
  ·rename_i h2
   rw[zap,List.getElem?_range (by omega)];rfl
  ·rename_i h2
   rw[List.getElem?_eq_none]
   simp;omega
def posOf:List Nat→Nat→Option Nat
 | [],_=>none
 |x::r,o=>if x=o then some 0 else(posOf r o).map (· + 1)
theorem gQ : ∀ {l:List Nat} {o i:Nat},posOf l o=some i→l[i]? = some o
 | x::r,o,i,h=>by
  simp only[posOf]at h
  split at h
  ·rename_i e;cases h;simp[e]
  ·cases hp:posOf r o with
   |none=>rw[hp]at h;cases h
   |some j=>rw[hp]at h;cases h;simpa using gQ hp
theorem kE : ∀ {l:List Nat} {o i:Nat},l.Nodup→l[i]? = some o→posOf l o=some i
 | x::r,o,i,hn,h=>by
  simp only[zbD]at hn
  simp only[posOf]
  cases i with
  |zero=>simp at h;simp[h]
  |succ i=>
   simp at h
   have:x≠o:=fun e=>hn.1 (by rw[e];exact zac h)
   rw[if_neg this,kE hn.2 h];rfl
end
end Go.Abs
namespace Go.Abs
theorem xj {l:List Nat} {n k:Nat} (h:l.Nodup) (hl : ∀ o∈l,o<n):(gM l n k).Nodup:=by
 unfold gM
 rw[zbm]
 refine⟨h, ?_,fun a ha b hb=>?_⟩
 ·rw [List.nodup_iff_pairwise_ne,List.pairwise_map]
  exact List.Pairwise.imp (fun h=>by omega) (List.nodup_iff_pairwise_ne.1 List.nodup_range)
 ·obtain⟨c,hc,rfl⟩:=zaH.1 hb
  have:=hl a ha
  omega
def fa (M:Map) (os ts:List Nat):Map:=⟨M.G,fun i=>M.loc (os.getD i 0),fun i=>M.be (ts.getD i 0)⟩
def vg (M M0:Map) (os ts:List Nat):Map:=
 ⟨M0.G,fun o=>match posOf os o with|some i=>M0.loc i|none=>M.loc o,fun t=>match posOf ts t with|some i=>M0.be i|none=>M.be t⟩
section
variable {P:Program} {M:Map} {s s0:St} {w:World} {os ts:List Nat}
theorem qh {l:List Nat} {i o:Nat} (h:l[i]? = some o):l.getD i 0=o:=by simp[List.getD,h]
theorem Rel.sub (r:Rel M s w) (oU:os.Nodup) (Ji:ts.Nodup) (je : ∀ o∈os,o<s.av.length)
 (ho:s0.av.length=os.length) (jJ : ∀ (i o:Nat) (ds:List D),os[i]? = some o→s0.av[i]? = some ds→s.av[o]? = some (D.ct os ts ds)∧D.bg os.length ts.length ds=true)
 (ht:s0.aw.length=ts.length) (ry : ∀ (i t:Nat),ts[i]? = some t→s0.aw[i]? = s.aw[t]?):Rel (fa M os ts) s0 w:=by
 have nth : ∀ i,i<s0.av.length→∃ o,os[i]? = some o∧o<s.av.length:=fun i hi=>⟨os[i],zak (by omega),je _ (List.getElem_mem _)⟩
 have loc : ∀ (i:Nat) o,os[i]? = some o→(fa M os ts).loc i=M.loc o:=fun i o h=>by simp only[fa,qh h]
 have mu : ∀ (i:Nat) o,os[i]? = some o→(fa M os ts).mu i=M.mu o:=fun i o h=>congrArg Prod.fst (loc i o h)
 have be : ∀ (i:Nat) t,ts[i]? = some t→(fa M os ts).be i=M.be t:=fun i t h=>by simp only[fa,qh h]
 have TV : ∀ t,s0.live t→∃ t',ts[t]? = some t'∧s.live t':=fun t ⟨n,hn⟩=>by
  have hF:=(zae.1 hn).1
  have e:ts[t]? = some ts[t]:=zak (by omega)
  exact⟨_,e,n,by rw[← ry t _ e];exact hn⟩
 refine⟨r.comm,fun i ds e=>?_,fun i hi off=>?_,fun i i' hi gB e=>?_,fun t n e=>?_,fun t b c z i hl e hi=>?_,fun t t' b c z c' z' h h' e e'=>?_⟩
 ·obtain⟨o,h1,_⟩:=nth i (zae.1 e).1
  obtain⟨h2,h3⟩:=jJ i o ds h1 e
  obtain⟨vs,T,g1,g2,g3,g4⟩:=r.obj o _ h2
  refine⟨vs,T,by rw[loc i o h1];exact g1,by rw[fb]at g2;simpa using g2,⟨g3.1,by rw[show(fa M os ts).ty i=M.ty o from congrArg (fun x=>x.2.ty?) (loc i o h1)];exact g3.2⟩,fun j d v e1 e2=>?_⟩
  exact RD.zh (M:=M) (M0:=fa M os ts) (s:=s) rfl loc ho be ry ht (g4 j (d.bw os ts) v (by rw[fb,zap,e1];rfl) e2) d rfl (sK h3 e1)
 ·obtain⟨o,h1,h2⟩:=nth i hi
  rw[mu i o h1];exact r.iK o h2 off
 ·obtain⟨o,h1,h2⟩:=nth i hi
  obtain⟨o',qa,vh⟩:=nth i' gB
  rw[mu i o h1,mu i' o' qa]at e
  have:=r.inj o o' h2 vh e
  subst this
  have a:=kE oU h1
  have b:=kE oU qa
  rw[a]at b;cases b;rfl
 ·obtain⟨t',h1,h2⟩:=TV t ⟨n,e⟩
  rw[be t t' h1]
  exact r.tok t' n (by rw[← ry t t' h1];exact e)
 ·obtain⟨t',h1,h2⟩:=TV t hl
  obtain⟨o,h3,h4⟩:=nth i hi
  rw[be t t' h1]at e
  rw[mu i o h3]
  exact r.dY t' b c z o h2 e h4
 ·obtain⟨q,h1,h2⟩:=TV t h
  obtain⟨q',qa,vh⟩:=TV t' h'
  rw[be t q h1]at e
  rw[be t' q' qa]at e'
  have:=r.fB q q' b c z c' z' h2 vh e e'
  subst this
  have a:=kE Ji h1
  have b:=kE Ji qa
  rw[a]at b;cases b;rfl
end
def St.back (s:St) (os ts:List Nat) (s':St):St:=
 ⟨iS os (s'.av.map (D.ct (gM os s.av.length (s'.av.length - os.length)) (gM ts s.aw.length (s'.aw.length - ts.length)))) s.av,iS ts s'.aw s.aw⟩
def D.back (s:St) (os ts:List Nat) (s':St) (d:D):D:=
 d.bw (gM os s.av.length (s'.av.length - os.length)) (gM ts s.aw.length (s'.aw.length - ts.length))
theorem dt.frame {P:Program} {f:FuncId} {KS args:List D} {s s0:St} {Q0 Q:D→St→Prop} (os ts:List Nat) (h:dt P f KS s0 Q0) (oU:os.Nodup) (Ji:ts.Nodup) (je : ∀ o∈os,o<s.av.length) (uZ : ∀ t∈ts,t<s.aw.length)
 (ho:s0.av.length=os.length) (jJ : ∀ (i o:Nat) (ds:List D),os[i]? = some o→s0.av[i]? = some ds→s.av[o]? = some (D.ct os ts ds)∧D.bg os.length ts.length ds=true)
 (ht:s0.aw.length=ts.length) (ry : ∀ (i t:Nat),ts[i]? = some t→s0.aw[i]? = s.aw[t]?)
 (Fh:args=D.ct os ts KS) (zT:D.bg os.length ts.length KS=true) (k : ∀ d s',Q0 d s'→Q (d.back s os ts s') (s.back os ts s')):dt P f args s Q:=by
 intro M w fi r iM cV ha
 have r0:=r.sub oU Ji je ho jJ ht ry
 have loc : ∀ (i:Nat) o,os[i]? = some o→(fa M os ts).loc i=M.loc o:=fun i o h=>by simp only[fa,qh h]
 have mu : ∀ (i:Nat) o,os[i]? = some o→(fa M os ts).mu i=M.mu o:=fun i o h=>congrArg Prod.fst (loc i o h)
 have be : ∀ (i:Nat) t,ts[i]? = some t→(fa M os ts).be i=M.be t:=fun i t h=>by simp only[fa,qh h]
 subst Fh
 have XE:Laid (fa M os ts) s0 w:=by
  intro g cs hg
  obtain⟨h1,h2,h3⟩:=iM g cs hg
  refine⟨h1,fun o hF=>?_,fun t c z hl hb=>?_⟩
  ·obtain⟨o',ky⟩ : ∃ o',os[o]? = some o':=⟨_,zak (by omega)⟩
   rw[mu o o' ky]
   exact h2 o' (je o' (zac ky))
  ·obtain⟨n,hn⟩:=hl
   have hF:=(zae.1 hn).1
   obtain⟨t',DP⟩ : ∃ t',ts[t]? = some t':=⟨_,zak (by omega)⟩
   rw[be t t' DP]at hb
   exact h3 t' c z ⟨n,by rw[← ry t t' DP];exact hn⟩ hb
 have hc:=h (fa M os ts) w fi r0 XE (by rw[cV,fb,zat]) (fun i d v e1 e2=>
  RD.zh (M:=M) (M0:=fa M os ts) (s:=s) rfl loc ho be ry ht (ha i (d.bw os ts) v (by rw[fb,zap,e1];rfl) e2) d rfl (sK zT e1))
 refine hc.mono ?_
 rintro en w' ⟨vi,d,v,s',rfl,hq,e,r',hv⟩
 have zS:=e.le.n
 have A8:=e.le.t
 generalize KT:gM os s.av.length (s'.av.length - os.length)=kj
 generalize KU:gM ts s.aw.length (s'.aw.length - ts.length)=nc
 have nd:kj.Nodup:=by rw[← KT];exact xj oU je
 have ndt:nc.Nodup:=by rw[← KU];exact xj Ji uZ
 have KV : ∀ i,kj[i]? = if i<os.length then os[i]? else if i<s'.av.length then some (s.av.length+(i - os.length))else none:=fun i=>by
  rw[← KT,zU];split
  ·rfl
  ·rw[show os.length+(s'.av.length - os.length)=s'.av.length by omega]
 have KW : ∀ i,nc[i]? = if i<ts.length then ts[i]? else if i<s'.aw.length then some (s.aw.length+(i - ts.length))else none:=fun i=>by
  rw[← KU,zU];split
  ·rfl
  ·rw[show ts.length+(s'.aw.length - ts.length)=s'.aw.length by omega]
 have hsb:s.back os ts s' = ⟨iS os (s'.av.map (D.ct kj nc)) s.av,iS ts s'.aw s.aw⟩:=by simp only[St.back,KT,KU]
 have hdb:d.back s os ts s'=d.bw kj nc:=by simp only[D.back,KT,KU]
 have ki:=k d s' hq
 rw[hsb,hdb]at ki
 obtain⟨p1,p2,p3⟩:=Az os (s'.av.map (D.ct kj nc)) s.av (by simp;omega) oU je
 obtain⟨q1,q2,q3⟩:=Az ts s'.aw s.aw (by omega) Ji uZ
 have Gc:=uA os (s'.av.map (D.ct kj nc)) s.av (by simp;omega)
 have Gd:=uA ts s'.aw s.aw (by omega)
 simp only[zat]at Gc
 generalize Jc:(⟨iS os (s'.av.map (D.ct kj nc)) s.av,iS ts s'.aw s.aw⟩:St)=s2 at ki
 have so:s2.av=iS os (s'.av.map (D.ct kj nc)) s.av:=by rw[← Jc]
 have st:s2.aw=iS ts s'.aw s.aw:=by rw[← Jc]
 -- the framed objects
 have fo : ∀ (i o:Nat),kj[i]? = some o→o<s2.av.length∧s2.av[o]? = (s'.av[i]?).map (D.ct kj nc)∧i<s'.av.length∧(i<os.length→o<s.av.length∧os[i]? = some o)∧(os.length≤i→s.av.length≤o):=by
  intro i o hi
  rw[KV]at hi
  split at hi
  ·rename_i h1
   have hF:=je o (zac hi)
   refine⟨by rw[so,Gc];omega,by rw[so,p1 i o hi,zap],by omega,fun _=>⟨hF,hi⟩,fun h=>by omega⟩
  ·split at hi
   ·rename_i h1 h2
    cases hi
    refine⟨by rw[so,Gc];omega, ?_,h2,fun h=>by omega,fun _=>by omega⟩
    rw[so,p3,zap,show os.length+(i - os.length)=i by omega]
   ·cases hi
 have ft : ∀ (i t:Nat),nc[i]? = some t→t<s2.aw.length∧s2.aw[t]? = s'.aw[i]? ∧i<s'.aw.length∧(i<ts.length→t<s.aw.length∧ts[i]? = some t)∧(ts.length≤i→s.aw.length≤t):=by
  intro i t hi
  rw[KW]at hi
  split at hi
  ·rename_i h1
   have hF:=uZ t (zac hi)
   refine⟨by rw[st,Gd];omega,by rw[st,q1 i t hi],by omega,fun _=>⟨hF,hi⟩,fun h=>by omega⟩
  ·split at hi
   ·rename_i h1 h2
    cases hi
    refine⟨by rw[st,Gd];omega, ?_,h2,fun h=>by omega,fun _=>by omega⟩
    rw[st,q3,show ts.length+(i - ts.length)=i by omega]
   ·cases hi
 -- all others
 have uo : ∀ o,o<s2.av.length→posOf kj o=none→o<s.av.length∧o∉os∧s2.av[o]? = s.av[o]? :=by
  intro o hF hp
  have nf : ∀ i,kj[i]? ≠some o:=fun i hi=>by rw[kE nd hi]at hp;cases hp
  have h1:o<s.av.length:=by
   rcases zaI o s.av.length with h|h
   ·exact h
   ·exfalso
    rw[so,Gc]at hF
    refine nf (os.length+(o - s.av.length)) ?_
    rw[KV,if_neg (by omega),if_pos (by omega)]
    congr 1;omega
  have h2:o∉os:=fun hm=>by
   obtain⟨i,hi⟩:=List.mem_iff_getElem?.1 hm
   have oV:=(zae.1 hi).1
   exact nf i (by rw[KV,if_pos oV];exact hi)
  exact⟨h1,h2,by rw[so,p2 o h1 h2]⟩
 have ut : ∀ t,t<s2.aw.length→posOf nc t=none→t<s.aw.length∧t∉ts∧s2.aw[t]? = s.aw[t]? :=by
  intro t hF hp
  have nf : ∀ i,nc[i]? ≠some t:=fun i hi=>by rw[kE ndt hi]at hp;cases hp
  have h1:t<s.aw.length:=by
   rcases zaI t s.aw.length with h|h
   ·exact h
   ·exfalso
    rw[st,Gd]at hF
    refine nf (ts.length+(t - s.aw.length)) ?_
    rw[KW,if_neg (by omega),if_pos (by omega)]
    congr 1;omega
  have h2:t∉ts:=fun hm=>by
   obtain⟨i,hi⟩:=List.mem_iff_getElem?.1 hm
   have oV:=(zae.1 hi).1
   exact nf i (by rw[KW,if_pos oV];exact hi)
  exact⟨h1,h2,by rw[st,q2 t h1 h2]⟩
 generalize NK:vg M vi kj nc=M2
 have mG:vi.G=M2.G:=by rw[← NK];rfl
 have lo : ∀ (i o:Nat),kj[i]? = some o→M2.loc o=vi.loc i:=fun i o hi=>by rw[← NK];simp only[vg,kE nd hi]
 have TX : ∀ o,posOf kj o=none→M2.loc o=M.loc o:=fun o hp=>by rw[← NK];simp only[vg,hp]
 have mo : ∀ (i o:Nat),kj[i]? = some o→M2.mu o=vi.mu i:=fun i o hi=>congrArg Prod.fst (lo i o hi)
 have Ge : ∀ o,posOf kj o=none→M2.mu o=M.mu o:=fun o hp=>congrArg Prod.fst (TX o hp)
 have mt : ∀ (i t:Nat),nc[i]? = some t→M2.be t=vi.be i:=fun i t hi=>by rw[← NK];simp only[vg,kE ndt hi]
 have Gf : ∀ t,posOf nc t=none→M2.be t=M.be t:=fun t hp=>by rw[← NK];simp only[vg,hp]
 have le:Le M s M2 s2:=by
  refine⟨fun b o v hg=>by rw[← mG];exact e.le.G b o v hg,by rw[so,Gc];omega,fun o hF=>?_,by rw[st,Gd];omega,fun t n' hF mF=>?_⟩
  ·cases hp:posOf kj o with
   |none=>rw[TX o hp];exact .refl _
   | some i=>
    have hi:=gQ hp
    rw[lo i o hi]
    obtain⟨_,_,_,h1,h2⟩:=fo i o hi
    have oV:i<os.length:=by
     rcases zaI i os.length with h|h
     ·exact h
     ·have:=h2 h;omega
    have h3:=e.le.loc i (by omega)
    rw[loc i o (h1 oV).2]at h3
    exact h3
  ·cases hp:posOf nc t with
   |none=>
    obtain⟨_,_,h3⟩:=ut t (by rw[st,Gd];omega) hp
    rw[h3]at mF
    exact⟨n',mF,zag _,fun _=>Gf t hp⟩
   | some i=>
    have hi:=gQ hp
    obtain⟨_,g1,_,h1,h2⟩:=ft i t hi
    have oV:i<ts.length:=by
     rcases zaI i ts.length with h|h
     ·exact h
     ·have:=h2 h;omega
    rw[g1]at mF
    obtain⟨n,h3,h4,h5⟩:=e.le.tk i n' (by omega) mF
    refine⟨n,by rw[← ry i t (h1 oV).2];exact h3,h4,fun eq=>?_⟩
    rw[mt i t hi,h5 eq,be i t (h1 oV).2]
 have XF : ∀ {d:D} {v:Value},RD vi s' d v→RD M2 s2 (d.bw kj nc) v:=fun hd=>RD.bw mG
  (fun i hi=>by
   obtain⟨o,ho⟩ : ∃ o,kj[i]? = some o:=by
    rw[KV];split
    ·rename_i h1;exact⟨_,zak h1⟩
    ·exact⟨_,rfl⟩
   exact⟨o,ho,(fo i o ho).1,lo i o ho⟩)
  (fun i hi=>by
   obtain⟨t,ht⟩ : ∃ t,nc[i]? = some t:=by
    rw[KW];split
    ·rename_i h1;exact⟨_,zak h1⟩
    ·exact⟨_,rfl⟩
   exact⟨t,ht,(ft i t ht).1,(ft i t ht).2.1,mt i t ht⟩) hd
 -- blocks that the callee did not know
 have Fi : ∀ i,s0.live i→∃ t,ts[i]? = some t∧s.live t:=fun i ⟨n,hn⟩=>by
  have hF:=(zae.1 hn).1
  have e1:ts[i]? = some ts[i]:=zak (by omega)
  exact⟨_,e1,n,by rw[← ry i _ e1];exact hn⟩
 have KX : ∀ b,b<w.heap.size→(∀ (i o:Nat),os[i]? = some o→M.mu o≠b)→(∀ (i t:Nat) c z,ts[i]? = some t→s.live t→M.be t≠some (b,c,z))→
  w'.heap[b]? = w.heap[b]? ∧∀ off,vi.G b off=M.G b off:=by
  intro b hb h1 h2
  refine⟨e.kept b hb (fun i hi=>?_) (fun i c z hl=>?_),fun off=>?_⟩
  ·have e1:os[i]? = some os[i]:=zak (by omega)
   rw[mu i _ e1];exact h1 i _ e1
  ·obtain⟨t,e1,hF⟩:=Fi i hl
   rw[be i t e1];exact h2 i t c z e1 hF
  ·apply Classical.byContradiction
   intro dL
   rcases e.n6 b off dL with h3|⟨i,c,z,hl,h3⟩
   ·omega
   ·obtain⟨t,e1,hF⟩:=Fi i hl
    rw[be i t e1]at h3
    exact h2 i t c z e1 hF h3
 have TY : ∀ o,o<s.av.length→o∉os→w'.heap[M.mu o]? = w.heap[M.mu o]? ∧∀ off,vi.G (M.mu o) off=M.G (M.mu o) off:=fun o hF nf=>
  KX _ (r.ov hF) (fun i o' h1 h2=>nf (by rw[← r.inj o' o (je o' (zac h1)) hF h2];exact zac h1))
   (fun i t c z _ hl h2=>r.dY t _ c z o hl h2 hF rfl)
 have aaL : ∀ t b c z,s.live t→t∉ts→M.be t=some (b,c,z)→w'.heap[b]? = w.heap[b]? ∧∀ off,vi.G b off=M.G b off:=fun t b c z hl nf hb=>
  KX b (r.qx hl hb) (fun i o h1=>r.dY t b c z o hl hb (je o (zac h1)))
   (fun i t' c' z' h1 lg h2=>nf (by rw[r.fB t t' b c z c' z' hl lg hb h2];exact zac h1))
 have lv : ∀ t,s2.live t→(∃ i,nc[i]? = some t∧s'.live i)∨(posOf nc t=none∧s.live t∧t∉ts):=by
  rintro t ⟨n,hn⟩
  cases hp:posOf nc t with
  |none=>
   obtain⟨h1,h2,h3⟩:=ut t (zae.1 hn).1 hp
   exact .inr ⟨rfl,⟨n,by rw[← h3];exact hn⟩,h2⟩
  |some i=>
   have hi:=gQ hp
   exact .inl ⟨i,hi,n,by rw[← (ft i t hi).2.1];exact hn⟩
 -- where a framed object lies
 have T1 : ∀ (i o:Nat),kj[i]? = some o→(o<s.av.length∧o∈os∧vi.mu i=M.mu o)∨w.heap.size≤vi.mu i:=by
  intro i o hi
  obtain⟨_,_,h1,h2,h3⟩:=fo i o hi
  rcases e.mo h1 with ⟨h4,h5⟩|h4
  ·have h:i<os.length:=by omega
   exact .inl ⟨(h2 h).1,zac (h2 h).2,by rw[h5,mu i o (h2 h).2]⟩
  ·exact .inr h4
 have T2 : ∀ (i t b c z:Nat),nc[i]? = some t→s'.live i→vi.be i=some (b,c,z)→(s.live t∧t∈ts∧∃ c' z',M.be t=some (b,c',z'))∨w.heap.size≤b:=by
  intro i t b c z hi hl hb
  rcases e.mR i b c z hl hb with ⟨h1,c',z',h2⟩|h1
  ·obtain⟨t',e1,hF⟩:=Fi i h1
   have oV:=(zae.1 e1).1
   obtain⟨_,_,_,h3,_⟩:=ft i t hi
   have:=(h3 oV).2
   rw[e1]at this;cases this
   rw[be i _ e1]at h2
   exact .inl ⟨hF,zac e1,c',z',h2⟩
  ·exact .inr h1
 refine⟨M2,d.bw kj nc,v,s2,rfl,ki, ?_, ?_,XF hv⟩
 ·-- Ext
  refine⟨le,fun b hb h1 h2=>?_,fun o h1 h2=>?_,fun t b c z hl hb=>?_,fun b off dL=>?_,e.size,e.os,e.tape,e.output⟩
  ·exact(KX b hb (fun i o h3=>h1 o (je o (zac h3))) (fun i t c z _ hl=>h2 t c z hl)).1
  ·cases hp:posOf kj o with
   |none=>
    have:=(uo o h2 hp).1
    rcases h1 with h1|h1
    ·omega
    ·exact(h1 (Ge o hp)).elim
   | some i=>
    have hi:=gQ hp
    rw[mo i o hi]at h1 ⊢
    rcases T1 i o hi with ⟨h3,_,h5⟩|h3
    ·rcases h1 with h1 | h1
     ·omega
     ·exact(h1 h5).elim
    ·exact h3
  ·rcases lv t hl with ⟨i,hi,lg⟩ | ⟨hp,lg,_⟩
   ·rw [mt i t hi]at hb
    rcases T2 i t b c z hi lg hb with ⟨h1,_,h2⟩|h1
    ·exact .inl ⟨h1,h2⟩
    ·exact .inr h1
   ·rw [Gf t hp]at hb
    exact .inl ⟨lg,c,z,hb⟩
  ·rw [← mG]at dL
   rcases e.n6 b off dL with h1|⟨i,c,z,hl,hb⟩
   ·exact .inl h1
   ·obtain⟨t,e1,hF⟩:=Fi i hl
    rw[be i t e1]at hb
    exact .inr ⟨t,c,z,hF,hb⟩
 ·-- Rel
  refine⟨fun b o v hg=>r'.comm b o v (by rw[mG];exact hg),fun o ds Bi=>?_,fun o hF off=>?_,fun o o' hF xi heq=>?_,fun t n hn=>?_,fun t b c z o hl hb hF=>?_,fun t t' b c z c' z' hl lg hb l8=>?_⟩
  ·cases hp:posOf kj o with
   |some i=>
    have hi:=gQ hp
    obtain⟨_,g1,_⟩:=fo i o hi
    rw[g1]at Bi
    obtain⟨lM,h1,rfl⟩:=zaq.1 Bi
    obtain⟨vs,T,h2,h3,h4,h5⟩:=r'.obj i lM h1
    refine⟨vs,T,by rw[lo i o hi];exact h2,by rw[fb];simpa using h3,⟨h4.1,by rw[show M2.ty o=vi.ty i from congrArg (fun x=>x.2.ty?) (lo i o hi)];exact h4.2⟩,fun j d v e1 e2=>?_⟩
    rw[fb]at e1
    simp only[zap,zaq]at e1
    obtain⟨d',e1,rfl⟩:=e1
    exact XF (h5 j d' v e1 e2)
   |none=>
    obtain⟨h1,h2,h3⟩:=uo o (zae.1 Bi).1 hp
    rw[h3]at Bi
    obtain⟨vs,T,g1,g2,g3,g4⟩:=r.obj o ds Bi
    exact⟨vs,T,by rw[TX o hp];exact g1.keep (TY o h1 h2).1,g2,⟨g3.1,by rw[show M2.ty o=M.ty o from congrArg (fun x=>x.2.ty?) (TX o hp)];exact g3.2⟩,fun j d v e1 e2=>(g4 j d v e1 e2).mono le⟩
  ·cases hp:posOf kj o with
   |some i=>
    have hi:=gQ hp
    rw[mo i o hi, ← mG];exact r'.iK i (fo i o hi).2.2.1 off
   |none=>
    obtain⟨h1,h2,h3⟩:=uo o hF hp
    rw[Ge o hp, ← mG,(TY o h1 h2).2 off];exact r.iK o h1 off
  ·cases hp:posOf kj o with
   | some i=>
    have hi:=gQ hp
    rw[mo i o hi]at heq
    cases la:posOf kj o' with
    |some i'=>
     have gB:=gQ la
     rw[mo i' o' gB]at heq
     have:=r'.inj i i' (fo i o hi).2.2.1 (fo i' o' gB).2.2.1 heq
     subst this
     rw[hi]at gB;cases gB;rfl
    | none=>
     obtain⟨h1,h2,_⟩:=uo o' xi la
     rw[Ge o' la]at heq
     rcases T1 i o hi with ⟨h3,h4,h5⟩|h3
     ·rw [h5]at heq
      have:=r.inj o o' h3 h1 heq
      subst this;exact(h2 h4).elim
     ·have:=r.ov h1;omega
   | none=>
    obtain⟨h1,h2,_⟩:=uo o hF hp
    rw[Ge o hp]at heq
    cases la:posOf kj o' with
    | some i'=>
     have gB:=gQ la
     rw[mo i' o' gB]at heq
     rcases T1 i' o' gB with ⟨h3,h4,h5⟩|h3
     ·rw [h5]at heq
      have:=r.inj o o' h1 h3 heq
      subst this;exact(h2 h4).elim
     ·have:=r.ov h1;omega
    |none=>
     obtain⟨qa,_,_⟩:=uo o' xi la
     rw[Ge o' la]at heq
     exact r.inj o o' h1 qa heq
  ·rcases lv t ⟨n,hn⟩with ⟨i,hi,hl⟩ | ⟨hp,hl,nf⟩
   ·rw [mt i t hi, ← mG]
    exact r'.tok i n (by rw[← (ft i t hi).2.1];exact hn)
   ·obtain⟨_,_,h3⟩:=ut t (zae.1 hn).1 hp
    rw[h3]at hn
    rw[Gf t hp]
    rcases r.tok t n hn with h4|⟨b,cap,size,vs,T,g1,g2,g3,g4,g5⟩
    ·exact .inl h4
    ·obtain⟨k1,k2⟩:=aaL t b cap size hl nf g1
     exact .inr ⟨b,cap,size,vs,T,g1,by rw[k1];exact g2,g3,g4,fun off ho=>by rw[← mG,k2 off];exact g5.1 off ho,g5.2⟩
  ·rcases lv t hl with ⟨i,hi,lg⟩ | ⟨hp,lg,nf⟩
   ·rw [mt i t hi]at hb
    cases Gg:posOf kj o with
    |some j=>
     have hj:=gQ Gg
     rw[mo j o hj]
     exact r'.dY i b c z j lg hb (fo j o hj).2.2.1
    |none=>
     obtain⟨h1,h2,_⟩:=uo o hF Gg
     rw[Ge o Gg]
     rcases T2 i t b c z hi lg hb with ⟨h3,_,c',z',h4⟩|h3
     ·exact r.dY t b c' z' o h3 h4 h1
     ·have:=r.ov h1;omega
   ·rw [Gf t hp]at hb
    cases Gg:posOf kj o with
    |some j=>
     have hj:=gQ Gg
     rw[mo j o hj]
     rcases T1 j o hj with ⟨h3,_,h5⟩|h3
     ·rw[h5];exact r.dY t b c z o lg hb h3
     ·have:=r.qx lg hb;omega
    |none=>
     obtain⟨h1,_,_⟩:=uo o hF Gg
     rw[Ge o Gg];exact r.dY t b c z o lg hb h1
  ·rcases lv t hl with ⟨i,hi,xk⟩ | ⟨hp,hF,nf⟩
   ·rw [mt i t hi]at hb
    rcases lv t' lg with ⟨i',gB,QQ⟩|⟨la,xi,T3⟩
    ·rw [mt i' t' gB]at l8
     have:=r'.fB i i' b c z c' z' xk QQ hb l8
     subst this
     rw[hi]at gB;cases gB;rfl
    ·rw [Gf t' la]at l8
     rcases T2 i t b c z hi xk hb with ⟨h3,h4,c2,z2,h5⟩|h3
     ·have:=r.fB t t' b c2 z2 c' z' h3 xi h5 l8
      subst this;exact(T3 h4).elim
     ·have:=r.qx xi l8;omega
   ·rw [Gf t hp]at hb
    rcases lv t' lg with ⟨i',gB,QQ⟩|⟨la,xi,T3⟩
    ·rw [mt i' t' gB]at l8
     rcases T2 i' t' b c' z' gB QQ l8 with ⟨h3,h4,c2,z2,h5⟩|h3
     ·have:=r.fB t t' b c z c2 z2 hF h3 hb h5
      subst this;exact(nf h4).elim
     ·have:=r.qx hF hb;omega
    ·rw [Gf t' la]at l8
     exact r.fB t t' b c z c' z' hF xi hb l8
end Go.Abs
namespace Go.Abs
def Wk (d d':D):Prop:=∀ (M:Map) (s:St) (v:Value),RD M s d v→RD M s d' v
inductive gw:List D→List D→Prop where
 |nil:gw [] []
 |cons {d d':D} {l l':List D} (h:Wk d d') (t:gw l l'):gw (d::l) (d'::l')
inductive fT:List (List D)→List (List D)→Prop where
 |nil:fT [] []
 |cons {r r':List D} {l l':List (List D)} (h:gw r r') (t:fT l l'):fT (r::l) (r'::l')
theorem Wk.refl (d:D):Wk d d:=fun _ _ _ h=>h
theorem Wk.trans {a b c:D} (h:Wk a b) (k:Wk b c):Wk a c:=fun M s v r=>k M s v (h M s v r)
theorem Wk.junk (d:D):Wk d .junk:=fun _ _ v _=> .junk v
theorem gw.refl : ∀ l,gw l l
 | []=> .nil
 |d::l=> .cons (Wk.refl d) (gw.refl l)
theorem fT.refl : ∀ l,fT l l
 | []=> .nil
 |d::l=> .cons (gw.refl d) (fT.refl l)
theorem gw.len {l l':List D} (h:gw l l'):l.length=l'.length:=by
 induction h with
 |nil=>rfl
 |cons _ _ ih=>simp[ih]
theorem fT.len {l l':List (List D)} (h:fT l l'):l.length=l'.length:=by
 induction h with
 |nil=>rfl
 |cons _ _ ih=>simp[ih]
theorem gw.get {l l':List D} (h:gw l l') : ∀ {i:Nat} {d':D},l'[i]? = some d'→∃ d,l[i]? = some d∧Wk d d':=by
 induction h with
 |nil=>intro i d' e;simp at e
 |cons hd _ ih=>
  intro i d' e
  cases i with
  |zero=>simp at e;subst e;exact⟨_,rfl,hd⟩
  |succ i=>simp at e;simpa using ih e
theorem fT.get {l l':List (List D)} (h:fT l l') : ∀ {i:Nat} {d':List D},l'[i]? = some d'→∃ d,l[i]? = some d∧gw d d':=by
 induction h with
 |nil=>intro i d' e;simp at e
 |cons hd _ ih=>
  intro i d' e
  cases i with
  |zero=>simp at e;subst e;exact⟨_,rfl,hd⟩
  |succ i=>simp at e;simpa using ih e
theorem gw.append {a a' b b':List D} (h:gw a a') (k:gw b b'):gw (a++b) (a'++b'):=by
 induction h with
 |nil=>exact k
 |cons hd _ ih=>exact .cons hd ih
theorem fT.append {a a' b b':List (List D)} (h:fT a a') (k:fT b b'):fT (a++b) (a'++b'):=by
 induction h with
 |nil=>exact k
 |cons hd _ ih=>exact .cons hd ih
theorem Wk.agg {l l':List D} (h:gw l l'):Wk (.agg l) (.agg l'):=by
 intro M s v r
 cases r with
 |agg _ vs hl h1 hr=>
  refine .agg _ vs (by rw[← hl,h.len]) h1 fun i d' u e e2=>?_
  obtain⟨d,e1,hw⟩:=h.get e
  exact hw M s u (hr i d u e1 e2)
theorem Wk.tuple {l l':List D} (h:gw l l'):Wk (.tuple l) (.tuple l'):=by
 intro M s v r
 cases r with
 |tuple _ vs hl hr=>
  refine .tuple _ vs (by rw[← hl,h.len]) fun i d' u e e2=>?_
  obtain⟨d,e1,hw⟩:=h.get e
  exact hw M s u (hr i d u e1 e2)
theorem Wk.rows {g:Tag} {z:Nat} {l l':List (List D)} (h:fT l l'):Wk (.slice g z l) (.slice g z l'):=by
 intro M s v r
 cases r with
 |ig _ _ cap hc ht=>cases h;exact .ig _ _ _ hc ht
 |kR _ a cap=>cases h;exact .kR _ a cap
 | slice _ _ _ b k cap hl hs h1 h2 ht=>
  rw[h.len]
  refine .slice g z l' b k cap (by rw[← h.len];exact hl) (fun row hm=>?_) (fun i row j d e e2=>?_) (fun i row j d u e e2 eu=>?_) (by rw[← h.len];exact ht)
  ·obtain⟨i,hi,he⟩:=List.mem_iff_getElem.1 hm
   obtain⟨r0,g1,g2⟩:=h.get (i:=i) (by rw[zak hi,he])
   rw[← g2.len];exact hs r0 (zac g1)
  ·obtain⟨r0,g1,g2⟩:=h.get e
   obtain⟨d0,g3,_⟩:=g2.get e2
   exact h1 i r0 j d0 g1 g3
  ·obtain⟨r0,g1,g2⟩:=h.get e
   obtain⟨d0,g3,g4⟩:=g2.get e2
   exact g4 M s u (h2 i r0 j d0 u g1 g3 eu)
theorem Wk.shared (g:Tag) (z:Nat) (l:List (List D)):Wk (.slice g z l) (.slice .shared z l):=by
 intro M s v r
 cases r with
 |ig _ _ cap hc ht=>exact .ig _ _ _ hc trivial
 |kR _ a cap=>exact .kR _ a cap
 |slice _ _ _ b k cap hl hs h1 h2 ht=>exact .slice _ _ _ b k cap hl hs h1 h2 trivial
theorem Wk.slice {g:Tag} {z:Nat} {l l':List (List D)} (h:fT l l'):Wk (.slice g z l) (.slice .shared z l'):=(Wk.shared g z l).trans (Wk.rows h)
theorem Wk.nil (g:Tag) (z z':Nat):Wk (.slice g z []) (.slice .shared z' []):=by
 intro M s v r
 cases r with
 |ig _ _ cap hc ht=>exact .ig _ _ _ hc trivial
 |kR _ a cap=>exact .kR _ a cap
 |slice _ _ _ b k cap hl hs h1 h2 ht=>exact .slice _ _ [] b k cap hl (by simp) (by simp) (by simp) trivial
theorem Wk.ad2 (z z':Nat):Wk (.slice .full z []) (.slice .full z' []):=by
 intro M s v r
 cases r with
 |ig _ _ cap hc ht=>exact .ig _ _ _ hc ht
 |slice _ _ _ b k cap hl hs h1 h2 ht=>exact .slice _ _ [] b k cap hl (by simp) (by simp) (by simp) ht
theorem Rel.wk {M:Map} {s:St} {w:World} {av:List (List D)} (r:Rel M s w) (h:fT s.av av):Rel M ⟨av,s.aw⟩ w∧Le M s M ⟨av,s.aw⟩:=by
 have le:Le M s M ⟨av,s.aw⟩:=⟨fun _ _ _ h=>h,Nat.le_of_eq h.len,fun _ _=> .refl _,zag _,fun t n' _ e=>⟨n',e,zag _,fun _=>rfl⟩⟩
 have hl:=h.len
 refine⟨⟨r.comm,fun o ds e=>?_,fun o ho=>r.iK o (by rw[hl];exact ho),fun o o' ho ky=>r.inj o o' (by rw[hl];exact ho) (by rw[hl];exact ky),r.tok,
  fun t b c z o hv e ho=>r.dY t b c z o hv e (by rw[hl];exact ho),r.fB⟩,le⟩
 obtain⟨Gh,g1,g2⟩:=h.get e
 obtain⟨vs,T,h1,h2,h3,h4⟩:=r.obj o Gh g1
 refine⟨vs,T,h1,by rw[h2,g2.len],h3,fun i d v e1 e2=>?_⟩
 obtain⟨d0,k1,k2⟩:=g2.get e1
 exact(k2 _ _ _ (h4 i d0 v k1 e2)).mono le
theorem Rel.blank {M:Map} {s:St} {w:World} (r:Rel M s w) :
 Rel (M.dX s.aw.length none) {s with aw:=s.aw++ [some 0]} w∧Le M s (M.dX s.aw.length none) {s with aw:=s.aw++ [some 0]}:=by
 have gI : ∀ t,St.live {s with aw:=s.aw++ [some 0]} t→s.live t∨t=s.aw.length:=by
  rintro t ⟨k,hk⟩
  rcases zaI t s.aw.length with h|h
  ·rw[zao h]at hk;exact .inl ⟨k,hk⟩
  ·have:=(zae.1 hk).1
   simp at this;exact .inr (by omega)
 have hF : ∀ t,s.live t→t<s.aw.length:=fun t ⟨k,hk⟩=>(zae.1 hk).1
 have hold : ∀ t,t<s.aw.length→(M.dX s.aw.length none).be t=M.be t:=fun t h=>by simp[Map.dX];omega
 have dq:(M.dX s.aw.length none).be s.aw.length=none:=by simp[Map.dX]
 have le:Le M s (M.dX s.aw.length none) {s with aw:=s.aw++ [some 0]}:=
  ⟨fun _ _ _ h=>h,zag _,fun _ _=> .refl _,by simp,fun t k h e=>by
   rw[zao h]at e
   exact⟨k,e,zag _,fun _=>hold t h⟩⟩
 refine⟨⟨r.comm,fun o ds e=>?_,r.iK,r.inj,fun t k e=>?_,fun t b' c z o hl e ky=>?_,fun t t' b' c z c' z' h h' e e'=>?_⟩,le⟩
 ·obtain⟨eR,T',h3,h4,h5,h6⟩:=r.obj o ds e
  exact⟨eR,T',h3,h4,h5,fun i d v e1 e2=>(h6 i d v e1 e2).mono le⟩
 ·rcases zaI t s.aw.length with h | h
  ·rw [zao h]at e
   rw[hold t h];exact r.tok t k e
  ·have:=(zae.1 e).1
   simp at this
   have:t=s.aw.length:=by omega
   subst this
   simp at e;subst e
   exact .inl ⟨dq,rfl⟩
 ·rcases gI t hl with h | h
  ·rw[hold t (hF t h)]at e;exact r.dY t b' c z o h e ky
  ·subst h;rw[dq]at e;cases e
 ·rcases gI t h with h | h <;> rcases gI t' h' with h' | h'
  ·rw[hold t (hF t h)]at e;rw[hold t' (hF t' h')]at e';exact r.fB t t' b' c z c' z' h h' e e'
  ·subst h';rw[dq]at e';cases e'
  ·subst h;rw[dq]at e;cases e
  ·omega
theorem RD.own {M:Map} {s:St} {z z':Nat} {v:Value} (h:RD M s (.slice .full z []) v):RD (M.dX s.aw.length none) {s with aw:=s.aw++ [some 0]} (.slice (.tok s.aw.length) z' []) v:=by
 have key : ∀ base:Option (Nat×Nat),gO (M.dX s.aw.length none) {s with aw:=s.aw++ [some 0]} (.tok s.aw.length) z' 0 base 0:=by
  intro base
  refine⟨by simp,fun n e=>?_⟩
  simp at e
  subst e
  exact⟨zag _,fun _=> .inl ⟨by simp[Map.dX],rfl,fun h=>by cases h⟩⟩
 cases h with
 |ig _ _ cap hc ht=>subst hc;exact .ig _ _ _ rfl (key none)
 |slice _ _ _ b k cap hl hs h1 h2 ht=>
  have:cap=0:=ht
  subst this
  exact .slice _ _ [] b k 0 (zag _) (by simp) (by simp) (by simp) (key _)
section
variable {P:Program} {B:ey} {nt:Nat} {Q:Exit→Tm→St→Prop} {tm:Tm} {s:St}
theorem yf {M0 M:Map} {s0 s:St} {w0 w:World} (e:Ext M0 s0 w0 M s w) (le:Le M s (M.dX s.aw.length none) {s with aw:=s.aw++ [some 0]}) :
 Ext M0 s0 w0 (M.dX s.aw.length none) {s with aw:=s.aw++ [some 0]} w:=by
 refine e.trans ⟨le,fun _ _ _ _=>rfl,fun o h1 h2=>h1.elim (fun h1=>absurd h2 (Nat.not_lt.2 h1)) (fun h1=>(h1 rfl).elim),fun t b c z hl eq=>?_,fun _ _ h=>(h rfl).elim,zag _,rfl,rfl,rfl⟩
 obtain⟨k,hk⟩:=hl
 rcases zaI t s.aw.length with h|h
 ·refine .inl ⟨⟨k,by rw [zao h]at hk;exact hk⟩,c,z, ?_⟩
  have:(M.dX s.aw.length none).be t=M.be t:=by simp[Map.dX];omega
  rw[← this];exact eq
 ·have:=(zae.1 hk).1
  simp at this
  have:t=s.aw.length:=by omega
  subst this
  simp[Map.dX]at eq
theorem Sem.ko {ac:AC} (t z':Nat) {z:Nat} (hw:tm.get t = .slice .full z []) (h:Sem P B nt ac Q (tm.set t (.slice (.tok s.aw.length) z' [])) {s with aw:=s.aw++ [some 0]}):Sem P B nt ac Q tm s:=by
 intro c hc act w ⟨M,e,r,ht,h1,h2⟩
 obtain⟨r',le⟩:=r.blank
 refine h c hc act w ⟨_,yf e le,r',fun k=>?_,h1,h2⟩
 rw[Tm.u6]
 split
 ·rename_i hk;subst hk;have:=ht k;rw[hw]at this;exact this.own
 ·exact(ht k).mono le
end
def ay (P:Program) (f:Nat) (args:List D) (s:St) (d:D) (s':St):Prop:=dt P f args s fun x y=>x=d∧y=s'
def gy (n m:Nat) (res:List (Nat×Option (Bool×Nat))) (d:D) (s':St):Exit→Tm→St→Prop
 | .normal,tm,s| .ret,tm,s=>∃ l,bt res tm s=some l∧Wk ((bx l).fg n m) d∧fT (s.cut n m).av s'.av∧(s.cut n m).aw=s'.aw
 |_,_,_=>False
theorem dt.wk {P:Program} {f:FuncId} {args Bk:List D} {s:St} {Q:D→St→Prop} (ha:gw args Bk) (h:dt P f Bk s Q):dt P f args s Q:=
 fun M w fi r iM hl hr=>h M w fi r iM (by rw[hl,ha.len]) fun i d v e1 e2=>by
  obtain⟨d0,g1,g2⟩:=ha.get e1
  exact g2 _ _ _ (hr i d0 v g1 e2)
theorem dt.T4 {P:Program} {f:FuncId} {args:List D} {s:St} {Q Q':D→St→Prop} (h:dt P f args s Q) (hq : ∀ d s1,Q d s1→∃ d' s',Wk d d'∧fT s1.av s'.av∧s1.aw=s'.aw∧Q' d' s'):dt P f args s Q':=
 fun M w fi r iM hl ha=>(h M w fi r iM hl ha).mono fun _ _ ⟨M',d,v,s1,h1,h2,h3,h4,h5⟩=>by
  obtain⟨d',s',g1,g2,g3,g4⟩:=hq d s1 h2
  obtain⟨r',le⟩:=h4.wk g2
  have hs:(⟨s'.av,s1.aw⟩:St)=s':=by rw[g3]
  rw[hs]at r' le
  refine⟨M',d',v,s',h1,g4,h3.trans ⟨le,fun _ _ _ _=>rfl,fun o h1 h2=>?_,fun t b c z hl e=> .inl ⟨by obtain⟨n,hn⟩:=hl;exact⟨n,by rw[g3];exact hn⟩,c,z,e⟩,fun _ _ h=>(h rfl).elim,zag _,rfl,rfl,rfl⟩,r',(g1 _ _ _ h5).mono le⟩
  rw[← g2.len]at h2
  exact h1.elim (fun h1=>absurd h2 (Nat.not_lt.2 h1)) fun h1=>(h1 rfl).elim
theorem ay.intro {P:Program} {f:FuncId} {af:AF} {args:List D} {s:St} {d:D} {s':St} (h0 : ∃ fn,P.funcs[f]? = some fn∧cF P fn=some af) (hl:args.length≤af.ntmps)
 (h : ∀ B:ey,B.s=s→Sem P B af.ntmps af.body (gy s.av.length s.aw.length af.results d s') (lV 0 args) s):ay P f args s d s':=by
 obtain⟨fn,hf,hc⟩:=h0
 refine dt.T4 (dt.intro (Q:=fun d1 s1=>Wk d1 d∧fT s1.av s'.av∧s1.aw=s'.aw) hf hc hl fun B hB=>(h B hB).mono fun e tm s1 hr=>?_) fun d1 s1 ⟨h1,h2,h3⟩=>⟨d,s',h1,h2,h3,rfl,rfl⟩
 subst hB
 cases e with
 |normal=>obtain⟨l,h1,h2,h3,h4⟩:=hr;exact⟨l,h1,_,_,zag _,zag _,h2,h3,h4⟩
 |ret=>obtain⟨l,h1,h2,h3,h4⟩:=hr;exact⟨l,h1,_,_,zag _,zag _,h2,h3,h4⟩
 |exit id=>exact hr.elim
 |goto l=>exact hr.elim
 |panic ch=>exact hr.elim
 |outgrown=>exact hr.elim
theorem ay.use {P:Program} {f:FuncId} {args:List D} {s:St} {d:D} {s':St} {Q:D→St→Prop} (h:ay P f args s d s') (hq:Q d s'):dt P f args s Q:=
 dt.mono h fun x y ⟨h1,h2⟩=>by subst h1;subst h2;exact hq
mutual
theorem qj (os ts:List Nat) : ∀ d,D.ok 0 0 d=true→D.bw os ts d=d
 | .junk,_=>by simp[D.bw]
 | .int k n,_=>by simp[D.bw]
 | .bool b,_=>by simp[D.bw]
 | .str l,_=>by simp[D.bw]
 | .er,_=>by simp[D.bw]
 | .val v,_=>by simp[D.bw]
 | .eC T o,h=>by simp[D.ok]at h
 | .fA o,h=>by simp[D.ok]at h
 | .bX z o g len,h=>by simp[D.ok]at h
 | .ew o g off,h=>by simp[D.ok]at h
 | .dj z,_=>by simp[D.bw]
 | .fL f cs,h=>by
  simp only[D.ok]at h
  simp only[D.bw,dV os ts cs h]
 | .ptr o f,h=>by simp[D.ok]at h
 | .dr r f,h=>by
  simp only[D.ok]at h
  simp only[D.bw,dV os ts r h]
 | .slice g z rows,h=>by
  simp only[D.ok,zam]at h
  simp only[D.bw,ic os ts rows h.2]
  cases g with
  |tok t y=>simp[Tag.ok]at h
  |full=>rfl
  |shared=>rfl
 | .agg cs,h=>by
  simp only[D.ok]at h
  simp only[D.bw,dV os ts cs h]
 | .tuple cs,h=>by
  simp only[D.ok]at h
  simp only[D.bw,dV os ts cs h]
theorem dV (os ts:List Nat) : ∀ l,D.bg 0 0 l=true→D.ct os ts l=l
 | [],_=>by simp[D.ct]
 |d::r,h=>by
  simp only[D.bg,zam]at h
  simp only[D.ct,qj os ts d h.1,dV os ts r h.2]
theorem ic (os ts:List Nat) : ∀ l,D.fu 0 0 l=true→D.kb os ts l=l
 | [],_=>by simp[D.kb]
 |d::r,h=>by
  simp only[D.fu,zam]at h
  simp only[D.kb,dV os ts d h.1,ic os ts r h.2]
end
mutual
theorem CX {n m n' m':Nat} (hn:n≤n') (hm:m≤m') : ∀ d,D.ok n m d=true→D.ok n' m' d=true
 | .junk,_=>rfl
 | .int k n,_=>rfl
 | .bool b,_=>rfl
 | .str l,_=>rfl
 | .er,_=>rfl
 | .val v,_=>rfl
 | .eC T o,h=>by simp[D.ok]at h ⊢;omega
 | .fA o,h=>by simp[D.ok]at h ⊢;omega
 | .bX z o g len,h=>by simp[D.ok]at h ⊢;omega
 | .ew o g off,h=>by simp[D.ok]at h ⊢;omega
 | .dj z,_=>rfl
 | .fL f cs,h=>by
  simp only[D.ok]at h ⊢
  exact gp hn hm cs h
 | .ptr o f,h=>by simp only[D.ok,decide_eq_true_eq]at h ⊢;omega
 | .dr r f,h=>by
  simp only[D.ok]at h ⊢
  exact gp hn hm r h
 | .slice g z rows,h=>by
  simp only[D.ok,zam]at h ⊢
  refine⟨?_,kV hn hm rows h.2⟩
  cases g with
  |tok t y=>simp only[Tag.ok,decide_eq_true_eq]at h ⊢;omega
  |full=>rfl
  |shared=>rfl
 | .agg cs,h=>by
  simp only[D.ok]at h ⊢
  exact gp hn hm cs h
 | .tuple cs,h=>by
  simp only[D.ok]at h ⊢
  exact gp hn hm cs h
theorem gp {n m n' m':Nat} (hn:n≤n') (hm:m≤m') : ∀ l,D.bg n m l=true→D.bg n' m' l=true
 | [],_=>rfl
 |d::r,h=>by
  simp only[D.bg,zam]at h ⊢
  exact⟨CX hn hm d h.1,gp hn hm r h.2⟩
theorem kV {n m n' m':Nat} (hn:n≤n') (hm:m≤m') : ∀ l,D.fu n m l=true→D.fu n' m' l=true
 | [],_=>rfl
 |d::r,h=>by
  simp only[D.fu,zam]at h ⊢
  exact⟨gp hn hm d h.1,kV hn hm r h.2⟩
end
def S0:St:=⟨[],[]⟩
section
variable {P:Program} {f:Nat}
theorem ay.pure {args:List D} {d:D} (h:ay P f args S0 d S0) (ha:D.bg 0 0 args=true) (hd:D.ok 0 0 d=true) (s:St):ay P f args s d s:=by
 refine dt.frame [] [] h zbq zbq (by simp) (by simp) rfl (by simp) rfl (by simp) (by rw[dV _ _ _ ha]) ha ?_
 rintro _ _ ⟨rfl,rfl⟩
 refine⟨qj _ _ _ hd, ?_⟩
 simp[St.back,iS,S0]
theorem ay.jv {args row ij:List D} {d:D} (h:ay P f (.ptr 0 0::args) ⟨[row],[]⟩ d ⟨[ij],[]⟩) (ha:D.bg 0 0 args=true) (hr:D.bg 0 0 row=true) (FV:D.bg 0 0 ij=true) (hd:D.ok 0 0 d=true)
 {s:St} {o:Nat} (ho:s.av[o]? = some row):ay P f (.ptr o 0::args) s d ⟨s.av.set o ij,s.aw⟩:=by
 refine dt.frame [o] [] h (by simp) zbq (by simpa using (zae.1 ho).1) (by simp) rfl (fun i o' ds e1 e2=>?_) rfl (by simp) (by simp[D.ct,D.bw,dV _ _ _ ha])
  (by simp[D.bg,D.ok,gp (zar 1) (zag 0) _ ha]) ?_
 ·cases i with
  |zero=>simp at e1 e2;subst e1;subst e2;exact⟨by rw[dV _ _ _ hr];exact ho,gp (zar 1) (zag 0) _ hr⟩
  |succ i=>simp at e1
 ·rintro _ _ ⟨rfl,rfl⟩
  refine⟨qj _ _ _ hd, ?_⟩
  simp[St.back,iS,dV _ _ _ FV]
end
end Go.Abs
namespace Go.Abs
theorem X.bW {x:X} {tm bB:Tm} (h : ∀ t∈x.reads,tm.get t=bB.get t):x.ev tm=x.ev bB:=by
 cases x with
 |s t=>exact h t (by simp[X.reads])
 |k d=>rfl
theorem pA {t:Nat} {x:X} : ∀ {l:List X},x∈l→t∈x.reads→t∈l6 l
 | [],h,_=>by cases h
 |y::r,h,ht=>by
  simp only[l6,zaw]
  rcases zan.1 h with rfl|h
  ·exact .inl ht
  ·exact .inr (pA h ht)
theorem tB {x:Option X} {tm bB:Tm} (h : ∀ t∈xP x,tm.get t=bB.get t):x.map (·.ev tm)=x.map (·.ev bB):=by
 cases x with
 |none=>rfl
 |some y=>simp only[zbs];rw[X.bW h]
theorem zV {o:AO} {tm bB:Tm} {s:St} (h : ∀ t∈o.reads,tm.get t=bB.get t):aU o tm s=aU o bB s:=by
 cases o with
 |mv x=>
  have hx:x.ev tm=x.ev bB:=X.bW fun t ht=>h t (by simp[AO.reads,ht])
  simp only[aU,hx]
 |pick c a b=>
  have hc:c.ev tm=c.ev bB:=X.bW fun t ht=>h t (by simp[AO.reads,ht])
  have ha:a.ev tm=a.ev bB:=X.bW fun t ht=>h t (by simp[AO.reads,ht])
  have hb:b.ev tm=b.ev bB:=X.bW fun t ht=>h t (by simp[AO.reads,ht])
  simp only[aU,hc,ha,hb]
 |alloc z=>
  rfl
 |qR z T=>rfl
 |xL x T=>
  have hx:x.ev tm=x.ev bB:=X.bW fun t ht=>h t (by simp[AO.reads,ht])
  simp only[aU,hx]
 |xM x y=>
  have hx:x.ev tm=x.ev bB:=X.bW fun t ht=>h t (by simp[AO.reads,ht])
  have hy:y.ev tm=y.ev bB:=X.bW fun t ht=>h t (by simp[AO.reads,ht])
  simp only[aU,hx,hy]
 |apps x y=>
  have hx:x.ev tm=x.ev bB:=X.bW fun t ht=>h t (by simp[AO.reads,ht])
  have hy:y.ev tm=y.ev bB:=X.bW fun t ht=>h t (by simp[AO.reads,ht])
  simp only[aU,hx,hy]
 |box x=>
  have hx:x.ev tm=x.ev bB:=X.bW fun t ht=>h t (by simp[AO.reads,ht])
  simp only[aU,hx]
 |xK x=>
  have hx:x.ev tm=x.ev bB:=X.bW fun t ht=>h t (by simp[AO.reads,ht])
  simp only[aU,hx]
 |load x g n=>
  have hx:x.ev tm=x.ev bB:=X.bW fun t ht=>h t (by simp[AO.reads,ht])
  simp only[aU,hx]
 |store p x n=>
  have hp:p.ev tm=p.ev bB:=X.bW fun t ht=>h t (by simp[AO.reads,ht])
  have hx:x.ev tm=x.ev bB:=X.bW fun t ht=>h t (by simp[AO.reads,ht])
  simp only[aU,hp,hx]
 |AY x=>
  have hx:x.ev tm=x.ev bB:=X.bW fun t ht=>h t (by simp[AO.reads,ht])
  simp only[aU,hx]
 |bin op x y=>
  have hx:x.ev tm=x.ev bB:=X.bW fun t ht=>h t (by simp[AO.reads,ht])
  have hy:y.ev tm=y.ev bB:=X.bW fun t ht=>h t (by simp[AO.reads,ht])
  simp only[aU,hx,hy]
 |FE n x y=>
  have hx:x.ev tm=x.ev bB:=X.bW fun t ht=>h t (by simp[AO.reads,ht])
  have hy:y.ev tm=y.ev bB:=X.bW fun t ht=>h t (by simp[AO.reads,ht])
  simp only[aU,hx,hy]
 |eqs n ks x y=>
  have hx:x.ev tm=x.ev bB:=X.bW fun t ht=>h t (by simp[AO.reads,ht])
  have hy:y.ev tm=y.ev bB:=X.bW fun t ht=>h t (by simp[AO.reads,ht])
  simp only[aU,hx,hy]
 |FF n x y=>
  have hx:x.ev tm=x.ev bB:=X.bW fun t ht=>h t (by simp[AO.reads,ht])
  have hy:y.ev tm=y.ev bB:=X.bW fun t ht=>h t (by simp[AO.reads,ht])
  simp only[aU,hx,hy]
 |un op x=>
  have hx:x.ev tm=x.ev bB:=X.bW fun t ht=>h t (by simp[AO.reads,ht])
  simp only[aU,hx]
 |conv k x=>
  have hx:x.ev tm=x.ev bB:=X.bW fun t ht=>h t (by simp[AO.reads,ht])
  simp only[aU,hx]
 |AZ x=>
  have hx:x.ev tm=x.ev bB:=X.bW fun t ht=>h t (by simp[AO.reads,ht])
  simp only[aU,hx]
 |uV x=>
  have hx:x.ev tm=x.ev bB:=X.bW fun t ht=>h t (by simp[AO.reads,ht])
  simp only[aU,hx]
 |A0 x n=>
  have hx:x.ev tm=x.ev bB:=X.bW fun t ht=>h t (by simp[AO.reads,ht])
  simp only[aU,hx]
 |M7 x n g m=>
  have hx:x.ev tm=x.ev bB:=X.bW fun t ht=>h t (by simp[AO.reads,ht])
  simp only[aU,hx]
 |A1 x i n=>
  have hx:x.ev tm=x.ev bB:=X.bW fun t ht=>h t (by simp[AO.reads,ht])
  have hi:i.ev tm=i.ev bB:=X.bW fun t ht=>h t (by simp[AO.reads,ht])
  simp only[aU,hx,hi]
 |FH x i=>
  have hx:x.ev tm=x.ev bB:=X.bW fun t ht=>h t (by simp[AO.reads,ht])
  have hi:i.ev tm=i.ev bB:=X.bW fun t ht=>h t (by simp[AO.reads,ht])
  simp only[aU,hx,hi]
 |ext x i=>
  have hx:x.ev tm=x.ev bB:=X.bW fun t ht=>h t (by simp[AO.reads,ht])
  simp only[aU,hx]
 |len x=>
  have hx:x.ev tm=x.ev bB:=X.bW fun t ht=>h t (by simp[AO.reads,ht])
  simp only[aU,hx]
 |FI x=>
  have hx:x.ev tm=x.ev bB:=X.bW fun t ht=>h t (by simp[AO.reads,ht])
  simp only[aU,hx]
 |app a b x y=>
  have hx:x.ev tm=x.ev bB:=X.bW fun t ht=>h t (by simp[AO.reads,ht])
  have hy:y.ev tm=y.ev bB:=X.bW fun t ht=>h t (by simp[AO.reads,ht])
  simp only[aU,hx,hy]
 |mm b x y=>
  have hx:x.ev tm=x.ev bB:=X.bW fun t ht=>h t (by simp[AO.reads,ht])
  have hy:y.ev tm=y.ev bB:=X.bW fun t ht=>h t (by simp[AO.reads,ht])
  simp only[aU,hx,hy]
 | build z ps=>
  have hp:(ps.map fun p=>(p.1,p.2.1,p.2.2.ev tm))=ps.map fun p=>(p.1,p.2.1,p.2.2.ev bB):=zbv fun p hp=>by
   have:p.2.2.ev tm=p.2.2.ev bB:=X.bW fun t ht=>h t (by simp only[AO.reads];exact pA (zaL hp) ht)
   rw[this]
  simp only[aU,hp]
 | mS z m n ps=>
  have hp:(ps.map fun p=>(p.1,p.2.ev tm))=ps.map fun p=>(p.1,p.2.ev bB):=zbv fun p hp=>by
   have:p.2.ev tm=p.2.ev bB:=X.bW fun t ht=>h t (by simp only[AO.reads];exact pA (zaL hp) ht)
   rw[this]
  simp only[aU,hp]
 | sv z m n ps=>
  have hp:(ps.map fun p=>(p.1,p.2.ev tm))=ps.map fun p=>(p.1,p.2.ev bB):=zbv fun p hp=>by
   have:p.2.ev tm=p.2.ev bB:=X.bW fun t ht=>h t (by simp only[AO.reads];exact pA (zaL hp) ht)
   rw[this]
  simp only[aU,hp]
 |M6 n x lo hi=>
  have hx:x.ev tm=x.ev bB:=X.bW fun t ht=>h t (by simp[AO.reads,ht])
  have hl:lo.map (·.ev tm)=lo.map (·.ev bB):=tB fun t ht=>h t (by simp[AO.reads,ht])
  have hh:hi.map (·.ev tm)=hi.map (·.ev bB):=tB fun t ht=>h t (by simp[AO.reads,ht])
  simp only[aU,hx,hl,hh]
 |FG x lo hi=>
  have hx:x.ev tm=x.ev bB:=X.bW fun t ht=>h t (by simp[AO.reads,ht])
  have hl:lo.map (·.ev tm)=lo.map (·.ev bB):=tB fun t ht=>h t (by simp[AO.reads,ht])
  have hh:hi.map (·.ev tm)=hi.map (·.ev bB):=tB fun t ht=>h t (by simp[AO.reads,ht])
  simp only[aU,hx,hl,hh]
 |za f xs=>
  have hp:(xs.map fun x=>x.ev tm)=xs.map fun x=>x.ev bB:=zbv fun x hx=>X.bW fun t ht=>h t (by simp only[AO.reads];exact pA hx ht)
  simp only[aU,hp]
 |tj=>rfl
 |xN m k v=>
  have hm:m.ev tm=m.ev bB:=X.bW fun t ht=>h t (by simp[AO.reads,ht])
  have hk:k.ev tm=k.ev bB:=X.bW fun t ht=>h t (by simp[AO.reads,ht])
  have hv:v.ev tm=v.ev bB:=X.bW fun t ht=>h t (by simp[AO.reads,ht])
  simp only[aU,hm,hk,hv]
 |xO a b z l c=>
  have hl:l.ev tm=l.ev bB:=X.bW fun t ht=>h t (by simp[AO.reads,ht])
  have hk:c.ev tm=c.ev bB:=X.bW fun t ht=>h t (by simp[AO.reads,ht])
  simp only[aU,hl,hk]
 |tn o x y=>
  have hx:x.ev tm=x.ev bB:=X.bW fun t ht=>h t (by simp[AO.reads,ht])
  have hy:y.ev tm=y.ev bB:=X.bW fun t ht=>h t (by simp[AO.reads,ht])
  simp only[aU,hx,hy]
 |vY m k z=>
  have hm:m.ev tm=m.ev bB:=X.bW fun t ht=>h t (by simp[AO.reads,ht])
  have hk:k.ev tm=k.ev bB:=X.bW fun t ht=>h t (by simp[AO.reads,ht])
  simp only[aU,hm,hk]
theorem Ii {x d:D} {agg:Bool} {size:Nat} {s s':St} (h:v7 x agg size s=some (d,s')):s'=s:=by
 unfold v7 at h
 (repeat' (split at h))<;>first|(cases h;rfl)|cases h
theorem Ij {o:AO} (ho:gd o.kind=false) {tm:Tm} {s s':St} {d:D} (h:aU o tm s=some (d,s')):s'=s:=by
 cases o<;>simp only[AO.kind,gd]at ho<;>first|cases ho|skip
 all_goals
  simp only[aU]at h
  first
   |(cases h;rfl)
   |(repeat' (split at h))<;>first|exact Ii h|(cases h;rfl)|cases h
theorem KY {o:AO} (ho:o.kind = .pure) {tm:Tm} {s s':St} : (aU o tm s).map (·.1)=(aU o tm s').map (·.1):=by
 cases o<;>simp only[AO.kind]at ho<;>first|cases ho|skip
 all_goals
  simp only[aU]
  first
   |rfl
   |(repeat' split)<;>rfl
def iQ (ai:AI) (tm:Tm) (s:St):Option D:=
 match ai with
 | .op _ none o=>(aU o tm s).map (·.1)
 | .op _ (some (t,want)) o=>
  match tm.get t with
  | .bool b=>if b=want then(aU o tm s).map (·.1)else some (.tuple [])
  | .tuple _=>some (.tuple [])
  |_=>none
 |_=>none
def qC (P:Program) (ai:AI) (tm:Tm) (s:St) (d:D) (s':St):Prop:=
 match ai with
 | .op _ g o=>guarded g tm (aU o tm s=some (d,s')) (d = .tuple []∧s'=s)
 | .call _ g f xs=>guarded g tm (dt P f (xs.map (·.ev tm)) s fun x y=>x=d∧y=s') (d = .tuple []∧s'=s)
 | .nil .. =>False
 | .iY .. =>False
def jK (P:Program) (is:List AI) (K:Tm→St→Prop):List (Nat×Nat)→List St→Tm→St→Prop
 | [],_,tm,s=>K tm s
 | (q,b)::r,bJ,tm,s=>
  match is[q]? with
  |none=>False
  |some ai=>
   match gd ai.kind with
   |true=>∃ d s',qC P ai tm s d s'∧jK P is K r (s::bJ) (tm.put ai.dst d) s'
   |false=>∃ d,iQ ai tm s=some d∧(ai.kind = .load→∀ s'∈bJ.take b,iQ ai tm s'=some d)∧jK P is K r bJ (tm.put ai.dst d) s
def Tm.eqv (a b:Tm):Prop:=∀ t,a.get t=b.get t
theorem Tm.jX (tm:Tm) (dst:Option Nat) (d:D) (t:Nat):(tm.put dst d).get t=if dst=some t then d else tm.get t:=by
 cases dst with
 |none=>simp[Tm.put]
 |some u=>
  simp only[Tm.put,Tm.u6,Option.some.injEq]
  by_cases h:t=u
  ·subst h;simp
  ·rw[if_neg h,if_neg (fun e=>h e.symm)]
theorem Tm.eqv.put {a b:Tm} (h:a.eqv b) (dst:Option Nat) (d:D):(a.put dst d).eqv (b.put dst d):=fun t=>by
 rw[Tm.jX,Tm.jX,h t]
theorem Tm.Gi (tm:Tm) {x y:Option Nat} (h : ∀ t,x=some t→y≠some t) (d e:D):((tm.put x d).put y e).eqv ((tm.put y e).put x d):=fun t=>by
 simp only[Tm.jX]
 by_cases h1:x=some t
 ·simp only[h1,h t h1,if_true,if_false]
 ·simp only[h1,if_false]
theorem xl {g:Option (Nat×Bool)} {tm bB:Tm} {A A' C:Prop} (h : ∀ t∈sw g,tm.get t=bB.get t) (ha:A→A') (hh:guarded g tm A C):guarded g bB A' C:=by
 cases g with
 |none=>exact ha hh
 | some p=>
  obtain⟨t,want⟩:=p
  unfold guarded at *
  simp only at *
  rw[← h t (by simp[sw])]
  split
  ·rename_i b hb
   rw[hb]at hh
   exact⟨fun e=>ha (hh.1 e),hh.2⟩
  ·rename_i hb
   rw[hb]at hh
   exact hh
  ·rename_i x h1 h2
   split at hh
   ·exact h1 _ ‹_›
   ·exact h2 _ ‹_›
   ·exact hh
theorem DQ {tm bB:Tm} : ∀ {l:List X},(∀ t∈l6 l,tm.get t=bB.get t)→l.map (·.ev tm)=l.map (·.ev bB)
 | [],_=>rfl
 |x::r,h=>by
  simp only[zaf]
  rw[X.bW fun t ht=>h t (by simp[l6,ht]),DQ (l:=r) fun t ht=>h t (by simp[l6,ht])]
theorem uB {P:Program} {ai:AI} {tm bB:Tm} {s s':St} {d:D} (h : ∀ t∈ai.reads,tm.get t=bB.get t) (hh:qC P ai tm s d s'):qC P ai bB s d s':=by
 cases ai with
 |op dst g o=>
  simp only[AI.reads,zaw]at h
  exact xl (fun t ht=>h t (.inl ht)) (fun e=>by rw[← zV fun t ht=>h t (.inr ht)];exact e) hh
 |call dst g f xs=>
  simp only[AI.reads,zaw]at h
  exact xl (fun t ht=>h t (.inl ht)) (fun e=>by rw[← DQ fun t ht=>h t (.inr ht)];exact e) hh
 |nil dst g n x=>exact hh
 |iY dst g t xs=>exact hh
theorem oW {ai:AI} {tm bB:Tm} {s:St} (h : ∀ t∈ai.reads,tm.get t=bB.get t):iQ ai tm s=iQ ai bB s:=by
 cases ai with
 | op dst g o=>
  simp only[AI.reads,zaw]at h
  have he:=zV (s:=s) fun t ht=>h t (.inr ht)
  cases g with
  |none=>simp only[iQ,he]
  |some p=>
   obtain⟨t,want⟩:=p
   simp only[iQ,he,h t (.inl (by simp[sw]))]
 |call dst g f xs=>rfl
 |nil dst g n x=>rfl
 |iY dst g t xs=>rfl
theorem Jj {dst:Option Nat} {g:Option (Nat×Bool)} {o:AO} (h:gd (AI.op dst g o).kind=false):(AI.op dst g o).kind=o.kind:=by
 unfold AI.kind at *
 split at h
 ·cases h
 ·rename_i heq;cases heq;rfl
 ·cases h
theorem QR {ai:AI} (hk:ai.kind = .pure) {tm:Tm} {s s':St} : iQ ai tm s=iQ ai tm s':=by
 cases ai with
 |op dst g o=>
  have ho:o.kind = .pure:=by rw[← hk];exact(Jj (by rw[hk];rfl)).symm
  have he:=KY ho (tm:=tm) (s:=s) (s':=s')
  cases g with
  |none=>simp only[iQ,he]
  |some p=>simp only[iQ,he]
 |call dst g f xs=>rfl
 |nil dst g n x=>rfl
 |iY dst g t xs=>rfl
theorem apart_spec {a q:AI} (h:a.apart q=true):(∀ t,a.dst=some t→t∉q.reads)∧(∀ t,q.dst=some t→t∉a.reads)∧(∀ t,a.dst=some t→q.dst≠some t):=by
 unfold AI.apart at h
 simp only[zam]at h
 obtain⟨⟨h1,h2⟩,h3⟩:=h
 refine⟨fun t e=>?_,fun t e=>?_,fun t e e'=>?_⟩
 ·rw[e]at h1;simpa[A3]using h1
 ·rw[e]at h2;simpa[A3]using h2
 ·rw[e,e']at h3;simp at h3
theorem qD {tm:Tm} {dst:Option Nat} {d:D} {l:List Nat} (h : ∀ t,dst=some t→t∉l) : ∀ t∈l,tm.get t=(tm.put dst d).get t:=fun t ht=>by
 rw[Tm.jX,if_neg fun e=>h t e ht]
section
variable {P:Program} {is:List AI} {K:Tm→St→Prop}
theorem qE (hK : ∀ tm bB s,Tm.eqv tm bB→K tm s→K bB s) : ∀ (R:List (Nat×Nat)) (bJ:List St) (tm bB:Tm) (s:St),tm.eqv bB→jK P is K R bJ tm s→jK P is K R bJ bB s
 | [],_,tm,bB,s,e,h=>hK tm bB s e h
 | (q,b)::R,bJ,tm,bB,s,e,h=>by
  unfold jK at *
  split at h
  ·exact h.elim
  ·rename_i ai tA
   split at h
   ·rename_i hc
    obtain⟨d,s',h1,h2⟩:=h
    exact⟨d,s',uB (fun t _=>e t) h1,qE hK R _ _ _ _ (e.put _ d) h2⟩
   ·rename_i hc
    obtain⟨d,h1,h2,h3⟩:=h
    refine⟨d, ?_,fun hl s' mX=>?_,qE hK R _ _ _ _ (e.put _ d) h3⟩
    ·rw[← oW fun t _=>e t];exact h1
    ·rw[← oW fun t _=>e t];exact h2 hl s' mX
theorem Gj (i:Nat) (l:List Nat):iE is (i::l)=(if gd (gX is i)then 1 else 0)+iE is l:=by
 unfold iE
 rw[List.filter_cons]
 split<;>simp<;>omega
theorem uC (hK : ∀ tm bB s,Tm.eqv tm bB→K tm s→K bB s) {q b:Nat} {ai:AI} (hq:is[q]? = some ai) (hm:gd ai.kind=false) (Y:List (Nat×Nat)) :
 ∀ (X:List (Nat×Nat)) (bJ:List St) (tm:Tm) (s:St),(∀ a∈X,jS is a.1 q=true)→(ai.kind = .load→iE is (X.map (·.1))≤b)→
  jK P is K (X++(q,b)::Y) bJ tm s→
  ∃ d,iQ ai tm s=some d∧(ai.kind = .load→∀ s'∈bJ.take (b - iE is (X.map (·.1))),iQ ai tm s'=some d)∧jK P is K (X++Y) bJ (tm.put ai.dst d) s
 | [],bJ,tm,s,_,_,h=>by
  simp only[zaR,jK,hq,hm]at h
  obtain⟨d,h1,h2,h3⟩:=h
  exact⟨d,h1,fun hl s' mX=>h2 hl s' (by simpa[iE]using mX),h3⟩
 | (a,c)::X,bJ,tm,s,cY,hb,h=>by
  have KZ:=cY (a,c) (by simp)
  unfold jS at KZ
  split at KZ
  ·rename_i ia iq hia rQ
   rw[hq]at rQ
   cases rQ
   obtain⟨p1,p2,p3⟩:=apart_spec KZ
   have x7:gX is a=ia.kind:=by simp[gX,hia]
   have Fg : ∀ x∈X,jS is x.1 q=true:=fun x hx=>cY x (zav _ hx)
   rw[zaf,Gj,x7]at hb ⊢
   simp only[zaJ,jK,hia]at h ⊢
   cases hc:gd ia.kind
   ·simp only [hc,zab,if_false,za6]at h hb ⊢
    obtain⟨d,h1,h2,h3⟩:=h
    obtain⟨e,g1,g2,g3⟩:=uC hK hq hm Y X bJ _ s Fg hb h3
    have cg : ∀ s,iQ ai tm s=iQ ai (tm.put ia.dst d) s:=fun s=>oW (qD p1)
    have cg' : ∀ s,iQ ia tm s=iQ ia (tm.put ai.dst e) s:=fun s=>oW (qD p2)
    refine⟨e,by rw[cg];exact g1,fun hl s' mX=>by rw[cg];exact g2 hl s' mX,d,by rw[← cg'];exact h1,fun hl s' mX=>by rw[← cg'];exact h2 hl s' mX, ?_⟩
    exact qE hK _ _ _ _ _ (Tm.Gi tm p3 d e) g3
   ·simp only [hc,if_true]at h hb ⊢
    obtain⟨d,s1,h1,h3⟩:=h
    obtain⟨e,g1,g2,g3⟩:=uC hK hq hm Y X (s::bJ) _ s1 Fg (fun hl=>by have:=hb hl;omega) h3
    have cg : ∀ s,iQ ai tm s=iQ ai (tm.put ia.dst d) s:=fun s=>oW (qD p1)
    have oy:iQ ai tm s=some e:=by
     cases hk:ai.kind with
     |pure=>rw[cg,QR hk (s':=s1)];exact g1
     |load=>
      have:=hb hk
      rw[cg]
      refine g2 hk s ?_
      rw[show b - iE is (X.map (·.1))=(b - (1+iE is (X.map (·.1))))+1 by omega,List.take_succ_cons]
      exact zaD
     |alloc=>rw[hk]at hm;cases hm
     |core=>rw[hk]at hm;cases hm
    refine⟨e,oy,fun hl s' mX=>?_,d,s1,uB (qD p2) h1,qE hK _ _ _ _ _ (Tm.Gi tm p3 d e) g3⟩
    have:=hb hl
    rw[cg]
    refine g2 hl s' ?_
    rw[show b - iE is (X.map (·.1))=(b - (1+iE is (X.map (·.1))))+1 by omega,List.take_succ_cons]
    exact zav _ mX
  ·cases KZ
end
end Go.Abs
namespace Go.Abs
section
variable {P:Program}
theorem NM {o:Oper} {z:List D} (h:A7 P o=some (.alloc z)) : ∃ t,o.op = .alloc t∧zeroOf P t=some z:=by
 obtain⟨dst,op,type,pos,after,guard⟩:=o
 unfold A7 at h
 simp only at h
 split at h
 case h_4 t=>
  split at h
  ·obtain⟨z',h1,h2⟩:=map_some h;cases h2
  ·obtain⟨z',h1,h2⟩:=map_some h;cases h2;exact⟨t,rfl,h1⟩
 all_goals
  first
   |(rw[zaq]at h;obtain⟨_,_,h⟩:=h;cases h)
   |skip
 all_goals
  (repeat' (split at h))<;>first|(cases h;done)|(rw[zaq]at h;obtain⟨_,_,h⟩:=h;cases h)
theorem yg {nt:Nat} {ops:Array Oper} {o:Oper} {ai:AI} (h:cI P nt ops o=some ai) :
 ∃ g,sy ops o.guard=some g∧(∀ t,o.dst=some t→t<nt)∧qw P ops o g=some ai:=by
 have h2:=sF h
 unfold cI at h
 split at h
 ·cases h
 ·rename_i g hg
  split at h
  ·exact⟨g,hg,h2,h⟩
  ·cases h
theorem q7 {ops:Array Oper} {o:Oper} {g:Option (Nat×Bool)} {ai:AI} (h:qw P ops o g=some ai):ai.dst=o.dst:=by
 unfold qw at h
 split at h
 ·split at h
  ·obtain⟨xs,_,rfl⟩:=map_some h;rfl
  ·cases h
 ·obtain⟨xs,_,rfl⟩:=map_some h;rfl
 ·split at h
  ·cases h;rfl
  ·split at h
   ·cases h;rfl
   ·cases h;rfl
   ·cases h
theorem oX {nt:Nat} {ops:Array Oper} {o:Oper} {ai:AI} (h:cI P nt ops o=some ai):ai.dst=o.dst:=by
 obtain⟨g,_,_,h⟩:=yg h
 exact q7 h
theorem qF {nt:Nat} {ops:Array Oper} {i:Nat} {o:Oper} {ai:AI} (hi:ops[i]? = some o) (hc:cI P nt ops o=some ai)
 {M:Map} {s:St} {w:World} {tm:Tm} {act:Act} (r:Rel M s w) (iM:Laid M s w) (ht:kA M s tm act.tmps) {K':Tm→St→Prop} (h:gk P [ai] K' tm s)
 {K:Act→World→Prop} {Q:Exit→Act→World→Prop}
 (hK : ∀ d v s1 w1 M1,K' (tm.put ai.dst d) s1→Ext M s w M1 s1 w1→Rel M1 s1 w1→RD M1 s1 d v→K (act.put o.dst v) w1):wpOp P ops Q i K act w:=by
 obtain⟨g,hg,_,hb⟩:=yg hc
 rw[q7 hb]at hK
 simp only[wpOp,hi]
 have skip:K' (tm.put o.dst (.tuple [])) s→K (act.put o.dst Go.undef) w:=fun hk=>hK _ _ _ _ _ hk (Ext.refl M s w) r .undef
 unfold qw at hb
 split at hb
 ·rename_i f args k6 kZ
  split at hb
  ·rename_i wi
   obtain⟨xs,jD,rfl⟩:=map_some hb
   simp only[gk]at h
   rcases iZ hg ht h with ⟨hw,hA⟩|⟨hw,hB⟩
   ·simp only [hw,if_true]
    left
    have hex:(execOp act.eval o).run P w = .ok (.enter f (args.map act.eval)) w:=by
     obtain⟨dst,op,type,pos,after,guard⟩:=o
     simp only at kZ
     subst kZ
     exact uz act.eval dst f args k6 type pos after guard rfl wi w
    obtain⟨c1,c2⟩:=tz ht jD
    unfold Oper.wp
    rw[hex,Oper.upon_enter]
    refine(hA M w (args.map act.eval) r iM (by simp[c1]) (fun i d v e1 e2=>c2 i d v e1 (by simpa using e2))).mono ?_
    rintro en w' ⟨M',d,v,s',rfl,hk,e',r',hv⟩
    exact hK _ _ _ _ _ hk e' r' hv
   ·simp only [hw]
    exact skip hB
  ·cases hb
 ·rename_i t args k6 kZ
  obtain⟨xs,jD,rfl⟩:=map_some hb
  simp only[gk]at h
  rcases iZ hg ht h with ⟨hw,hA⟩|⟨hw,hB⟩
  ·simp only [hw,if_true]
   left
   split at hA
   ·rename_i f lO rN
    obtain⟨wi,hA⟩:=hA
    have Nz:=ht t
    rw[rN]at Nz
    obtain⟨vs,mZ,hlen,Bj⟩:=Nz.I9
    have hex:(execOp act.eval o).run P w = .ok (.enter f (args.map act.eval++vs)) w:=by
     obtain⟨dst,op,type,pos,after,guard⟩:=o
     simp only at kZ
     subst kZ
     exact ya act.eval dst (.tmp t) f vs args k6 type pos after guard mZ wi w
    have cc:=DN jD ht hlen Bj
    unfold Oper.wp
    rw[hex,Oper.upon_enter]
    refine(hA M w (args.map act.eval++vs) r iM cc.1 cc.2).mono ?_
    rintro en w' ⟨M',d,v,s',rfl,hk,e',r',hv⟩
    exact hK _ _ _ _ _ hk e' r' hv
   ·exact hA.elim
  ·simp only [hw]
   exact skip hB
 ·split at hb
  ·rename_i neg x F9
   cases hb
   simp only[gk]at h
   rcases iZ hg ht h with ⟨hw,hA⟩|⟨hw,hB⟩
   ·simp only [hw,if_true]
    left
    split at hA
    ·rename_i g' z rows hx
     obtain⟨b,hb,hex⟩:=xh (w:=w) F9 ht hx
     unfold Oper.wp
     rw[hex,Oper.upon_value]
     exact hK _ _ _ _ _ (hA b hb) (Ext.refl M s w) r (.bool _)
    ·exact hA.elim
   ·simp only [hw]
    exact skip hB
  ·have fin : ∀ ao,ai = .op o.dst g ao→(∀ d s',aU ao tm s=some (d,s')→cG P M s w (execOp act.eval o) d s')→
    (if Region.wanted o (yielded ops act.tmps)=true then o.wp P act w K Q∨(o.asks P act w∧LetsOut Q)else K (act.put o.dst Go.undef) w):=by
    intro ao tA XA
    subst tA
    simp only[gk]at h
    rcases iZ hg ht h with ⟨hw,hA⟩|⟨hw,hB⟩
    ·simp only [hw,if_true]
     left
     split at hA
     ·rename_i d s' oT
      obtain⟨v,w',M',da,r',hv,e'⟩:=XA d s' oT
      unfold Oper.wp
      rcases da with da|⟨da,rfl⟩
      ·rw [da,Oper.upon_value]
       exact hK _ _ _ _ _ hA e' r' hv
      ·rw [da,Oper.upon_skip]
       exact hK _ _ _ _ _ hA e' r' hv
     ·exact hA.elim
    ·simp only [hw]
     exact skip hB
   split at hb
   ·rename_i z k n ps l9
    cases hb
    refine fin _ rfl (fun d s' oT=>?_)
    split at oT
    ·exact wh l9 r ht oT
    ·exact qA l9 r ht oT
   ·rename_i ao l9
    cases hb
    exact fin _ rfl (fun d s' oT=>qA l9 r ht oT)
   ·cases hb
structure Jk (M:Map) (s:St) (b:Nat):Prop where
 o : ∀ o,o<s.av.length→M.mu o≠b
 t : ∀ t c z,s.live t→M.be t≠some (b,c,z)
 g : ∀ off,M.G b off=none
theorem Jk.mono {M M':Map} {s s':St} {w w':World} {b:Nat} (h:Jk M s b) (e:Ext M s w M' s' w') (hb:b<w.heap.size):Jk M' s' b:=by
 refine⟨fun o ho=>?_,fun t c z hl he=>?_,fun off=>?_⟩
 ·rcases e.mo ho with ⟨h1,h2⟩ | h1
  ·rw[h2];exact h.o o h1
  ·omega
 ·rcases e.mR t b c z hl he with ⟨h1,c',z',h2⟩ | h1
  ·exact h.t t c' z' h1 h2
  ·omega
 ·by_cases hg:M'.G b off=M.G b off
  ·rw[hg];exact h.g off
  ·rcases e.n6 b off hg with h1 | ⟨t,c,z,h1,h2⟩
   ·omega
   ·exact(h.t t c z h1 h2).elim
theorem Rel.idle {M:Map} {s:St} {w:World} (r:Rel M s w) (x:Obj):Rel M s (w.alloc x)∧Ext M s w M s (w.alloc x)∧Jk M s w.heap.size:=by
 refine⟨⟨fun b o v e=>?_,fun o ds e=>?_,r.iK,r.inj,fun t n e=>?_,r.dY,r.fB⟩, ?_,⟨fun o ho=>?_,fun t c z hl e=>?_,fun off=>r.Ke (zag _) off⟩⟩
 ·obtain⟨h3,h4⟩:=r.comm b o v e
  refine⟨?_,h4⟩
  rw[World.cell?_alloc_lt]
  ·exact h3
  ·exact r.Am e
 ·obtain⟨vs,T,h3,h4,h5,h6⟩:=r.obj o ds e
  exact⟨vs,T,h3.keep (heap_alloc_old w _ _ h3.lt),h4,h5,h6⟩
 ·rcases r.tok t n e with h3 | ⟨b,cap,size,eR,T',h3,h4,h5⟩
  ·exact .inl h3
  ·exact .inr ⟨b,cap,size,eR,T',h3,by rw[heap_alloc_old w _ _ (jI h4)];exact h4,h5⟩
 ·exact⟨Le.refl M s,fun b hb _ _=>heap_alloc_old w _ b hb,fun o h3 h4=>by rcases h3 with h3|h3;omega;exact(h3 rfl).elim,fun t b c z h e=> .inl ⟨h,c,z,e⟩,fun _ _ h=>(h rfl).elim,by simp,rfl,rfl,rfl⟩
 ·have:=r.ov ho;omega
 ·have:=r.qx hl e;omega
theorem Rel.aaM {M:Map} {s:St} {w:World} (r:Rel M s w) {B:ey} (e:Ext B.M B.s B.w M s w) {b:Nat} (u:Jk M s b) (hb:B.w.heap.size≤b)
 (ds:List D) (vs:Array Value) (T:TypeId) (hh:w.heap[b]? = some (.cells vs T (0,0))) (hl:vs.size=ds.length) (h1 : ∀ v∈vs,v.oneCell'=true)
 (h2 : ∀ (i:Nat) (d:D) (v:Value),ds[i]? = some d→vs[i]? = some v→RD M s d v) :
 Rel (M.dE s.av.length b) {s with av:=s.av++ [ds]} w∧Ext B.M B.s B.w (M.dE s.av.length b) {s with av:=s.av++ [ds]} w∧
 Le M s (M.dE s.av.length b) {s with av:=s.av++ [ds]}:=by
 have le:=qe (M:=M) s b ds
 have ld : ∀ o,o<s.av.length→(M.dE s.av.length b).mu o=M.mu o:=fun o ho=>congrArg Prod.fst (qS M b .any ho)
 have dq:(M.dE s.av.length b).mu s.av.length=b:=by simp[Map.dE,Map.mu]
 refine⟨⟨r.comm,fun o lM e'=>?_,fun o ho off=>?_,fun o o' ho ky e'=>?_,r.tok,fun t b' c z o hl e' ho=>?_,r.fB⟩, ?_,le⟩
 ·rcases zaI o s.av.length with ho | ho
  ·rw [zao ho]at e'
   obtain⟨eR,T',h3,h4,h5,h6⟩:=r.obj o lM e'
   refine⟨eR,T', ?_,h4,⟨h5.1,by rw[le.ty o ho];exact h5.2⟩,fun i d v e1 e2=>(h6 i d v e1 e2).mono le⟩
   rw[qS M b .any ho];exact h3
  ·rw [zau ho]at e'
   have:o=s.av.length:=by
    have:=(zae.1 e').1
    simp at this;omega
   subst this
   simp at e';subst e'
   refine⟨vs,T, ?_,hl,⟨h1,fun T' h=>by simp[Map.dE,Map.ty,Ob.ty?]at h⟩,fun i d v e1 e2=>(h2 i d v e1 e2).mono le⟩
   have hl:(M.dE s.av.length b).loc s.av.length=(b, .any):=by simp[Map.dE]
   rw[hl];exact gH.of hh trivial
 ·simp at ho
  rcases zaI o s.av.length with h3|h3
  ·rw[ld o h3];exact r.iK o h3 off
  ·have:o=s.av.length:=by omega
   subst this
   rw[dq];exact u.g off
 ·simp at ho ky
  rcases zaI o s.av.length with h3|h3<;>rcases zaI o' s.av.length with h4|h4
  ·rw[ld o h3,ld o' h4]at e';exact r.inj o o' h3 h4 e'
  ·have:o'=s.av.length:=by omega
   subst this
   rw[ld o h3,dq]at e'
   exact(u.o o h3 e').elim
  ·have:o=s.av.length:=by omega
   subst this
   rw[ld o' h4,dq]at e'
   exact(u.o o' h4 e'.symm).elim
  ·omega
 ·simp at ho
  rcases zaI o s.av.length with h3|h3
  ·rw[ld o h3];exact r.dY t b' c z o hl e' h3
  ·have:o=s.av.length:=by omega
   subst this
   rw[dq]
   intro he
   subst he
   exact u.t t c z hl e'
 ·refine⟨e.le.trans le,e.kept,fun o h3 h4=> ?_,e.mR,e.n6,e.size,e.os,e.tape,e.output⟩
  simp at h4
  rcases zaI o s.av.length with h5|h5
  ·rw[ld o h5]at h3 ⊢;exact e.n5 o h3 h5
  ·have:o=s.av.length:=by omega
   subst this
   rw[dq];exact hb
theorem Ik {nt:Nat} {ops:Array Oper} {i:Nat} {o:Oper} {t:Nat} {z:List D} (hi:ops[i]? = some o) (hc:cI P nt ops o=some (.op (some t) none (.alloc z)))
 {w:World} {act:Act} {K:Act→World→Prop} {Q:Exit→Act→World→Prop}
 (hK : ∀ vs T,vs.size=z.length→(∀ v∈vs,v.oneCell'=true)→(∀ (M:Map) (s:St) (i:Nat) (d:D) (v:Value),z[i]? = some d→vs[i]? = some v→RD M s d v)→
  K (act.put (some t) (.pointer (some ⟨w.heap.size,0,none⟩))) (w.alloc (.cells vs T))):wpOp P ops Q i K act w:=by
 obtain⟨g,hg,_,hb⟩:=yg hc
 have oK:=q7 hb
 simp only[AI.dst]at oK
 simp only[wpOp,hi]
 have kZ:g=none∧A7 P o=some (.alloc z):=by
  unfold qw at hb
  split at hb
  ·split at hb
   ·obtain⟨xs,_,h⟩:=map_some hb;cases h
   ·cases hb
  ·obtain⟨xs,_,h⟩:=map_some hb;cases h
  ·split at hb
   ·cases hb
   ·split at hb
    ·rename_i l9
     simp only[Option.some.injEq,AI.op.injEq]at hb
     obtain⟨_,_,h⟩:=hb
     split at h<;>cases h
    ·rename_i ao l9
     simp only[Option.some.injEq,AI.op.injEq]at hb
     obtain⟨_,h1,h2⟩:=hb
     subst h2
     exact⟨h1,l9⟩
    ·cases hb
 obtain⟨rfl,l9⟩:=kZ
 obtain⟨T,hT,hz⟩:=NM l9
 have hw:Region.wanted o (yielded ops act.tmps)=true:=by
  have:o.guard=none:=by
   cases DI:o.guard with
   |none=>rfl
   |some p=>
    obtain⟨j,b⟩:=p
    rw[DI]at hg
    unfold sy at hg
    simp only at hg
    split at hg<;>cases hg
  simp[Region.wanted,this]
 simp only[hw,if_true]
 left
 unfold zeroOf at hz
 split at hz
 ·rename_i inf KP
  split at hz
  ·rename_i v hv
   split at hz
   ·have da:(execOp act.eval o).run P w = .ok (.value (.pointer (some ⟨w.heap.size,0,none⟩))) (w.alloc (.cells v.cells T)):=by
     obtain⟨dst,op,type,pos,after,guard⟩:=o
     simp only at hT
     subst hT
     simp[execOp,Instr.alloc,zeroValue,fD P KP,hv,newVar,newRow]
    have h3:=fun M s=>jV (M:=M) (s:=s) hz
    obtain⟨h1,h2,_⟩:=h3 ⟨fun _ _=>none,fun _=>(0, .any),fun _=>none⟩ ⟨[],[]⟩
    unfold Oper.wp
    rw[da,Oper.upon_value, ← oK]
    exact hK _ _ (by rw[h1];simp) (fun u hu=>h2 u (by simpa using hu)) (fun M s i d u e1 e2=>(h3 M s).2.2 i d u e1 (by simpa using e2))
   ·cases hz
  ·cases hz
 ·cases hz
end
end Go.Abs
namespace Go.Abs
section
variable {is:List AI} {af pt:List (List Nat)}
theorem xm {pq:List Nat} {l l':List Nat} (h:l'.Sublist l) (hb:jN is pq l=true):jN is pq l'=true:=by
 induction h with
 |slnil=>rfl
 |cons a h ih=>
  simp only[jN,zam]at hb
  exact ih hb.2
 |cons_cons a h ih=>
  simp only[jN,zam,zay]at hb ⊢
  refine⟨hb.1.imp id fun h1=>?_,ih hb.2⟩
  rw[zaO]at h1 ⊢
  exact fun x hx=>h1 x (h.subset hx)
theorem zi {f:Nat→Bool} {l l':List Nat} (h:l'.Sublist l) (ha:l.all f=true):l'.all f=true:=by
 rw[zaO]at ha ⊢
 exact fun x hx=>ha x (h.subset hx)
theorem Il {l l':List Nat} (h:l'.Sublist l):iE is l'≤iE is l:=(h.filter _).length_le
theorem K0 {pre CY:List Nat} {q b:Nat} (h:CY.Sublist pre) (hs:mT is pt pre q b=true):mT is pt CY q b=true:=by
 unfold mT at *
 split at hs
 ·exact zi h hs
 ·exact zi h hs
 ·simp only [zam]at hs ⊢
  exact⟨zi h hs.1,xm h hs.2⟩
 ·simp only [zam,decide_eq_true_eq]at hs ⊢
  exact⟨⟨zi h hs.1.1,xm h hs.1.2⟩,zbb (Il (h.filter _)) hs.2⟩
theorem Gk : ∀ {R:List (Nat×Nat)} {pre CY:List Nat},CY.Sublist pre→rK is af pt pre R=true→rK is af pt CY R=true
 | [],_,_,_,_=>rfl
 |(q,b)::R,pre,CY,h,ho=>by
  simp only[rK,zam,zaF]at ho ⊢
  obtain⟨⟨⟨h1,h2⟩,h3⟩,h4⟩:=ho
  refine⟨⟨⟨K0 h h1, ?_⟩,h3⟩,Gk (h.cons_cons q) h4⟩
  rw[← zbk,za2]at h2 ⊢
  exact fun hm=>h2 (h.subset hm)
theorem CZ : ∀ {X:List (Nat×Nat)} {e:Nat×Nat} {Y:List (Nat×Nat)} {pre:List Nat},rK is af pt pre (X++e::Y)=true→rK is af pt pre (X++Y)=true
 | [],(q,b),Y,pre,h=>by
  simp only[zaR,rK,zam]at h
  exact Gk (List.sublist_cons_self q pre) h.2
 |(a,c)::X,e,Y,pre,h=>by
  simp only[zaJ,rK,zam]at h ⊢
  obtain⟨⟨⟨h1,h2⟩,h3⟩,h4⟩:=h
  refine⟨⟨⟨h1,h2⟩, ?_⟩,CZ h4⟩
  rw[zaO]at h3 ⊢
  intro j hj
  have:=h3 j hj
  simp only[zam,zaF]at this ⊢
  refine⟨this.1, ?_⟩
  have h5:=this.2
  rw[← zbk,za2]at h5 ⊢
  refine fun hm=>h5 ?_
  simp only[zah,zaf,zaw,zan]at hm ⊢
  exact hm.imp id .inr
theorem q8 : ∀ {X:List (Nat×Nat)} {q b:Nat} {Y:List (Nat×Nat)} {pre:List Nat},rK is af pt pre (X++(q,b)::Y)=true→
 mT is pt ((X.map (·.1)).reverse++pre) q b=true∧q∉X.map (·.1)∧q∉pre∧(∀ j∈gn af q,j≠q∧j∉Y.map (·.1))∧rK is af pt (q::((X.map (·.1)).reverse++pre)) Y=true
 | [],q,b,Y,pre,h=>by
  simp only[zaR,rK,zam,zaF]at h
  obtain⟨⟨⟨h1,h2⟩,h3⟩,h4⟩:=h
  rw[← zbk,za2]at h2
  refine⟨h1,by simp,h2,fun j hj=>?_,h4⟩
  rw[zaO]at h3
  have:=h3 j hj
  simp only[zam,bne_iff_ne,zaF, ← zbk,za2]at this
  exact this
 |(a,c)::X,q,b,Y,pre,h=>by
  simp only[zaJ,rK,zam]at h
  obtain⟨_,h4⟩:=h
  obtain⟨g1,g2,g3,g4,g5⟩:=q8 h4
  simp only[zaf,List.reverse_cons,zaC,List.singleton_append]
  refine⟨g1, ?_,fun h=>g3 (zav _ h),g4,g5⟩
  intro hm
  rcases zan.1 hm with rfl|hm
  ·exact g3 (by simp)
  ·exact g2 hm
theorem zj : ∀ {Y:List (Nat×Nat)} {pre:List Nat},rK is af pt pre Y=true→∀ x∈Y,x.1∉pre∧(gX is x.1 = .alloc→∀ a∈pre,jS is a x.1=true)
 | [],_,_,x,hx=>by cases hx
 | (q,b)::Y,pre,h,x,hx=>by
  simp only[rK,zam,zaF]at h
  obtain⟨⟨⟨h1,h2⟩,_⟩,h4⟩:=h
  rw[← zbk,za2]at h2
  rcases zan.1 hx with rfl|hx
  ·refine⟨h2,fun hk a ha=> ?_⟩
   unfold mT at h1
   simp only[hk]at h1
   rw[zaO]at h1
   exact h1 a ha
  ·obtain⟨g1,g2⟩:=zj h4 x hx
   exact⟨fun h=>g1 (zav _ h),fun hk a ha=>g2 hk a (zav _ ha)⟩
theorem zW : ∀ {n:Nat},uW af pt n=true→∀ i,i<n→∀ j∈gn pt i,j∈gn af i∨∃ k∈gn af i,j∈gn pt k
 | 0,_,i,hi=>by omega
 | n+1,h,i,hi=>by
  simp only[uW,zam]at h
  rcases zaI i n with h1|h1
  ·exact zW h.2 i h1
  ·have:i=n:=by omega
   subst this
   intro j hj
   have:=h.1
   rw[zaO]at this
   have:=this j hj
   simp only[zay,za2,List.any_eq_true]at this
   exact this
theorem vj {pq:List Nat} : ∀ {l:List Nat},jN is pq l=true→∀ (x:Nat) (l1 l2:List Nat),l=l1++x::l2→gX is x = .alloc→x∈pq→∀ y∈l2,y∈pq
 | [],_,x,l1,l2,h=>by simp at h
 | a::l,hb,x,l1,l2,h=>by
  simp only[jN,zam,zay,zaF,Bool.and_eq_false_iff]at hb
  intro hk hx y hy
  cases l1 with
  | nil=>
   simp only[zaR,List.cons.injEq]at h
   obtain⟨rfl,rfl⟩:=h
   rcases hb.1 with h1|h1
   ·rcases h1 with h1 | h1
    ·simp[hk]at h1
    ·rw [← zbk,za2]at h1
     exact(h1 hx).elim
   ·rw [zaO]at h1
    have:=h1 y hy
    rwa [za2]at this
  |cons b l1=>
   simp only[zaJ,List.cons.injEq]at h
   exact vj hb.2 x l1 l2 h.2 hk hx y hy
end
structure Pd where
 q:Nat
 t:Nat
 z:List D
 b:Nat
structure XG (is:List AI) (R:List (Nat×Nat)) (B:ey) (M:Map) (s:St) (act:Act) (w:World) (p:Pd):Prop where
 mem:p.q∈R.map (·.1)
 ai:is[p.q]? = some (.op (some p.t) none (.alloc p.z))
 cells : ∃ (vs:Array Value) (T:TypeId),w.heap[p.b]? = some (.cells vs T (0,0))∧vs.size=p.z.length∧(∀ v∈vs,v.oneCell'=true)∧
  ∀ (M:Map) (s:St) (i:Nat) (d:D) (v:Value),p.z[i]? = some d→vs[i]? = some v→RD M s d v
 unk:Jk M s p.b
 base:B.w.heap.size≤p.b
 slot:act.tmps.getD p.t Go.undef = .pointer (some ⟨p.b,0,none⟩)
def wo (P:Program) (is:List AI) (K:Tm→St→Prop) (B:ey) (nt:Nat) (R:List (Nat×Nat)) (dP:List Pd) (act:Act) (w:World):Prop:=
 ∃ (M:Map) (s:St) (tm q9:Tm) (bJ:List St),Ext B.M B.s B.w M s w∧Rel M s w∧kA M s q9 act.tmps∧(∀ t,(∀ p∈dP,p.t≠t)→q9.get t=tm.get t)∧
  act.tmps.size=nt∧act.defers = []∧jK P is K R bJ tm s∧(∀ p∈dP,XG is R B M s act w p)∧
  (∀ p∈dP,∀ p'∈dP,p.q=p'.q∨p.t=p'.t∨p.b=p'.b→p=p')
structure pB (is:List AI) (af pt:List (List Nat)) (db:Array Bool) (R:List (Nat×Nat)) (dP:List Pd):Prop where
 ok:rK is af pt [] R=true
 DR : ∀ i,i<is.length→(db.getD i false=true↔(i∉R.map (·.1)∨∃ p∈dP,p.q=i))
 cl : ∀ i,i<is.length→db.getD i false=true→∀ j∈gn pt i,db.getD j false=true
 size:db.size=is.length
 lt : ∀ x∈R,x.1<is.length
section
variable {P:Program} {is:List AI} {af pt:List (List Nat)} {K:Tm→St→Prop} {B:ey} {nt:Nat}
theorem XH {db:Array Bool} {q b:Nat} {R:List (Nat×Nat)} {dP:List Pd} {act:Act} {w:World} (hs:pB is af pt db ((q,b)::R) dP) (h:wo P is K B nt ((q,b)::R) dP act w)
 {p:Pd} (hp:p∈dP) (rR:p.q=q) :
 pB is af pt db R (dP.filter fun p'=>decide (p'.q≠q))∧wo P is K B nt R (dP.filter fun p'=>decide (p'.q≠q)) act w:=by
 have mC : ∀ p',p'∈(dP.filter fun p'=>decide (p'.q≠q))↔p'∈dP∧p'.q≠q:=fun p'=>by simp
 constructor
 ·have zT:=hs.ok
  have wq:=q8 (X:= []) zT
  refine⟨CZ (X:= []) zT,fun i hi=>?_,hs.cl,hs.size,fun x hx=>hs.lt x (zav _ hx)⟩
  rw[hs.DR i hi]
  simp only[zaf,zan,not_or]
  have XI:q∉R.map (·.1):=fun hm=>by
   obtain⟨x,hx,rfl⟩:=zaH.1 hm
   exact(zj wq.2.2.2.2 x hx).1 (by simp)
  constructor
  ·rintro(⟨h1,h2⟩ | ⟨p',h1,h2⟩)
   ·exact .inl h2
   ·by_cases hq:i=q
    ·subst hq;exact .inl XI
    ·exact .inr ⟨p',(mC p').2 ⟨h1,by rw[h2];exact hq⟩,h2⟩
  ·rintro(h1 | ⟨p',h1,h2⟩)
   ·by_cases hq:i=q
    ·subst hq;exact .inr ⟨p,hp,rR⟩
    ·exact .inl ⟨hq,h1⟩
   ·exact .inr ⟨p',((mC p').1 h1).1,h2⟩
 ·obtain⟨M,s,tm,q9,bJ,e,r,ht,oy,hn,hd,hg,tC,qG⟩:=h
  have hk:=tC p hp
  obtain⟨vs,T,hh,hl,h1,h2⟩:=hk.cells
  have tA:=hk.ai
  rw[rR]at tA
  simp only[jK,tA,AI.kind,gd]at hg
  obtain⟨d,s',qT,hg⟩:=hg
  have oT:aU (.alloc p.z) tm s=some (d,s'):=qT
  simp only[aU,Option.some.injEq,Prod.mk.injEq]at oT
  obtain⟨rfl,rfl⟩:=oT
  obtain⟨r',e',le⟩:=r.aaM e hk.unk hk.base p.z vs T hh hl h1 (h2 M s)
  refine⟨_,_,_,q9.put (some p.t) (.ptr s.av.length 0),_,e',r',fun u=>?_,fun t XJ=>?_,hn,hd,hg,fun p' la=>?_,fun p1 h1 p2 h2=>qG p1 ((mC p1).1 h1).1 p2 ((mC p2).1 h2).1⟩
  ·rw [Tm.jX]
   split
   ·rename_i heq
    cases heq
    rw[hk.slot]
    have:(M.dE s.av.length p.b).mu s.av.length=p.b:=by simp[Map.dE,Map.mu]
    have h5:=RD.ptr (M:=M.dE s.av.length p.b) (s:= {s with av:=s.av++ [p.z]}) s.av.length 0 (by simp) (by simp[Map.dE,Map.ob,Ob.plain])
    rw[this]at h5
    exact h5
   ·exact(ht u).mono le
  ·simp only [AI.dst]
   rw[Tm.jX,Tm.jX]
   split
   ·rfl
   ·rename_i dL
    refine oy t fun p' la=>?_
    by_cases hq:p'.q=q
    ·have:=qG p' la p hp (.inl (hq.trans rR.symm))
     subst this
     exact fun h=>dL (by rw[h])
    ·exact XJ p' ((mC p').2 ⟨la,hq⟩)
  ·obtain⟨hp1,hp2⟩:=(mC p').1 la
   have qQ:=tC p' hp1
   refine⟨?_,qQ.ai,qQ.cells,⟨fun o ho=>?_,qQ.unk.t,qQ.unk.g⟩,qQ.base,qQ.slot⟩
   ·have:=qQ.mem
    simp only[zaf,zan]at this
    exact this.resolve_left hp2
   ·simp at ho
    rcases zaI o s.av.length with h5|h5
    ·rw[show(M.dE s.av.length p.b).mu o=M.mu o from congrArg Prod.fst (qS M p.b .any h5)];exact qQ.unk.o o h5
    ·have:o=s.av.length:=by omega
     subst this
     have:(M.dE s.av.length p.b).mu s.av.length=p.b:=by simp[Map.dE,Map.mu]
     rw[this]
     intro hb
     have:=qG p hp p' hp1 (.inr (.inr hb))
     subst this
     exact hp2 rR
theorem norm {db:Array Bool} {act:Act} {w:World} : ∀ (R:List (Nat×Nat)) (dP:List Pd),pB is af pt db R dP→wo P is K B nt R dP act w→
 ∃ R' tD,pB is af pt db R' tD∧wo P is K B nt R' tD act w∧∀ x l,R'=x::l→∀ p∈tD,p.q≠x.1
 | [],dP,hs,h=>⟨[],dP,hs,h,fun _ _ he=>by cases he⟩
 | (q,b)::R,dP,hs,h=>by
  by_cases hp : ∃ p∈dP,p.q=q
  ·obtain⟨p,hp,rR⟩:=hp
   obtain⟨h1,h2⟩:=XH hs h hp rR
   exact norm R _ h1 h2
  ·refine⟨(q,b)::R,dP,hs,h,fun x l he p XK rR=>hp ⟨p,XK, ?_⟩⟩
   cases he
   exact rR
theorem T5 {ops:Array Oper} {q:Nat} {o:Oper} {ai:AI} (hi:ops[q]? = some o) (hc:cI P nt ops o=some ai) {R R':List (Nat×Nat)} {dP:List Pd} {act:Act} {w:World} {M:Map} {s s1:St} {tm q9:Tm} {d:D} {T6:List St}
 (e:Ext B.M B.s B.w M s w) (r:Rel M s w) (ht:kA M s q9 act.tmps) (oy : ∀ t,(∀ p∈dP,p.t≠t)→q9.get t=tm.get t) (hn:act.tmps.size=nt) (hd:act.defers = [])
 (tC : ∀ p∈dP,XG is R B M s act w p) (qG : ∀ p∈dP,∀ p'∈dP,p.q=p'.q∨p.t=p'.t∨p.b=p'.b→p=p')
 (hv:gk P [ai] (fun a b=>a=q9.put ai.dst d∧b=s1) q9 s) (hg:jK P is K R' T6 (tm.put ai.dst d) s1)
 (mC : ∀ p∈dP,p.q∈R'.map (·.1)) (oK : ∀ p∈dP,ai.dst≠some p.t) {Q:Exit→Act→World→Prop} :
 wpOp P ops Q q (wo P is K B nt R' dP) act w:=by
 refine qF hi hc r (B.laid.ext e) ht hv fun d' v s2 w1 M1 hk e1 r1 gZ=>?_
 obtain⟨sA,rfl⟩:=hk
 have hde:=oX hc
 have hF : ∀ t,o.dst=some t→t<act.tmps.size:=fun t h=>by rw[hn];exact sF hc t h
 refine⟨M1,s2,tm.put ai.dst d,q9.put ai.dst d,T6,e.trans e1,r1, ?_,fun t XJ=>?_, ?_, ?_,hg,fun p hp=>?_,qG⟩
 ·rw [← sA,hde]
  exact(ht.mono e1.le).put hF gZ
 ·rw[Tm.jX,Tm.jX,oy t XJ]
 ·cases ho:o.dst<;>simp[Act.put,hn]
 ·cases ho:o.dst<;>simp[Act.put,hd]
 ·have hk:=tC p hp
  obtain⟨vs,T,hh,hl,h1,h2⟩:=hk.cells
  have hb:=jI hh
  refine⟨mC p hp,hk.ai,⟨vs,T,by rw[e1.kept p.b hb hk.unk.o hk.unk.t];exact hh,hl,h1,h2⟩,hk.unk.mono e1 hb,hk.base, ?_⟩
  rw[← hk.slot]
  have:=oK p hp
  rw[hde]at this
  cases ho:o.dst with
  |none=>rfl
  |some t=>
   rw[ho]at this
   have dL:t≠p.t:=fun h=>this (by rw[h])
   simp[Act.put,zbr dL]
theorem K1 {ai:AI} (hm:gd ai.kind=false) {tm:Tm} {s:St} {d:D} (h:iQ ai tm s=some d):gk P [ai] (fun a b=>a=tm.put ai.dst d∧b=s) tm s:=by
 cases ai with
 | op dst g o=>
  have hko:=Jj hm
  have key : ∀ {d},(aU o tm s).map (·.1)=some d→aU o tm s=some (d,s):=by
   intro d h
   cases he:aU o tm s with
   |none=>rw[he]at h;cases h
   |some p=>
    obtain⟨d',s'⟩:=p
    rw[he]at h
    simp only[zbs,Option.some.injEq]at h
    subst h
    rw[Ij (by rw[← hko];exact hm) he]
  simp only[gk,AI.dst]
  cases g with
  |none=>
   simp only[iQ]at h
   simp only[guarded,key h,and_self]
  | some p=>
   obtain⟨t,want⟩:=p
   simp only[iQ]at h
   simp only[guarded]
   split at h
   ·rename_i b hb
    simp only[hb]
    split at h
    ·rename_i heq
     refine⟨fun _=>by simp only[key h,and_self],fun dL=>?_⟩
     subst heq
     cases b<;>cases dL
    ·rename_i dL
     cases h
     exact⟨fun heq=>(dL heq).elim,fun _=>by simp⟩
   ·rename_i ds hb
    cases h
    simp only[hb,and_self]
   ·cases h
 |call dst g f xs=>cases hm
 |nil dst g n x=>cases hm
 |iY dst g t xs=>cases hm
theorem yh {g:Option (Nat×Bool)} {tm:Tm} {A A' C C':Prop} (ha:A→A') (hc:C→C') (hh:guarded g tm A C):guarded g tm A' C':=by
 cases g with
 |none=>exact ha hh
 | some p=>
  obtain⟨t,want⟩:=p
  unfold guarded at *
  simp only at *
  split
  ·rename_i b hb;rw[hb]at hh;exact⟨fun e=>ha (hh.1 e),fun e=>hc (hh.2 e)⟩
  ·rename_i hb;rw[hb]at hh;exact hc hh
  ·rename_i x h1 h2
   split at hh
   ·exact h1 _ ‹_›
   ·exact h2 _ ‹_›
   ·exact hh
theorem Gl {ai:AI} {tm:Tm} {s s1:St} {d:D} (h:qC P ai tm s d s1):gk P [ai] (fun a b=>a=tm.put ai.dst d∧b=s1) tm s:=by
 cases ai with
 |op dst g o=>
  refine yh (fun e=>?_) (fun e=>?_) h
  ·rw[e];exact⟨rfl,rfl⟩
  ·obtain⟨rfl,rfl⟩:=e;exact⟨rfl,rfl⟩
 |call dst g f xs=>
  refine yh (fun e=>?_) (fun e=>?_) h
  ·exact e.mono fun x y hxy=>by obtain⟨rfl,rfl⟩:=hxy;exact⟨rfl,rfl⟩
  ·obtain⟨rfl,rfl⟩:=e;exact⟨rfl,rfl⟩
 |nil dst g n x=>exact h.elim
 |iY dst g t xs=>exact h.elim
end
end Go.Abs
namespace Go.Abs
section
variable {P:Program} {is:List AI} {af pt:List (List Nat)} {K:Tm→St→Prop} {B:ey} {nt:Nat}
theorem vk {ops:Array Oper} : ∀ {ol:List Oper} {is:List AI},nY P nt ops ol=some is→is.length=ol.length∧∀ (i:Nat) (o:Oper),ol[i]? = some o→∃ ai,is[i]? = some ai∧cI P nt ops o=some ai
 | [],is,h=>by cases h;exact⟨rfl,by simp⟩
 | o::ol,is,h=>by
  unfold nY at h
  split at h
  ·rename_i ai Ny h1 h2
   cases h
   obtain⟨g1,g2⟩:=vk h2
   refine⟨by simp[g1],fun i o' ho=>?_⟩
   cases i with
   |zero=>simp at ho;subst ho;exact⟨ai,rfl,h1⟩
   |succ i=>exact g2 i o' (by simpa using ho)
  ·cases h
theorem qH {db:Array Bool} {i:Nat} (h:i<db.size):db.getD i true=db.getD i false:=by
 simp[h]
theorem pB.done {db:Array Bool} {X Y:List (Nat×Nat)} {q b:Nat} {dP:List Pd} (hs:pB is af pt db (X++(q,b)::Y) dP) (hq:q<is.length)
 (gJ : ∀ j∈gn pt q,db.getD j false=true):pB is af pt (db.setIfInBounds q true) (X++Y) dP:=by
 obtain⟨g1,g2,g3,g4,g5⟩:=q8 hs.ok
 have hqY:q∉Y.map (·.1):=fun hm=>by
  obtain⟨x,hx,rfl⟩:=zaH.1 hm
  exact(zj g5 x hx).1 (by simp)
 refine⟨CZ hs.ok,fun i hi=>?_,fun i hi hl j hj=>?_,by simp[hs.size],fun x hx=>hs.lt x (by simp at hx ⊢;exact hx.imp id .inr)⟩
 ·by_cases rQ:i=q
  ·subst rQ
   have:i<db.size:=by rw[hs.size];exact hq
   simp only[zah,zaw,g2,hqY,or_self,not_false_eq_true,true_or,iff_true]
   simp[this]
  ·rw [getD_set_ne false (Ne.symm rQ),hs.DR i hi]
   simp[rQ]
 ·by_cases rQ:i=q
  ·subst rQ;exact getD_set_true (gJ j hj)
  ·rw [getD_set_ne false (Ne.symm rQ)]at hl
   exact getD_set_true (hs.cl i hi hl j hj)
theorem pB.flag {db:Array Bool} {R:List (Nat×Nat)} {dP:List Pd} (hs:pB is af pt db R dP) {p:Pd} (hq:p.q<is.length)
 (gJ : ∀ j∈gn pt p.q,db.getD j false=true):pB is af pt (db.setIfInBounds p.q true) R (p::dP):=by
 refine⟨hs.ok,fun i hi=>?_,fun i hi hl j hj=>?_,by simp[hs.size],hs.lt⟩
 ·by_cases rQ:i=p.q
  ·subst rQ
   have:p.q<db.size:=by rw[hs.size];exact hq
   simp[this]
  ·rw [getD_set_ne false (Ne.symm rQ),hs.DR i hi]
   have dL:p.q≠i:=fun h=>rQ h.symm
   simp[dL]
 ·by_cases rQ:i=p.q
  ·subst rQ;exact getD_set_true (gJ j hj)
  ·rw [getD_set_ne false (Ne.symm rQ)]at hl
   exact getD_set_true (hs.cl i hi hl j hj)
theorem K4 {ai:AI} (h:ai.kind = .alloc) : ∃ t z,ai = .op (some t) none (.alloc z):=by
 cases ai with
 | op dst g o=>
  unfold AI.kind at h
  split at h
  ·rename_i heq;cases heq;exact⟨_,_,rfl⟩
  ·rename_i heq
   cases heq
   exfalso
   revert h
   cases o<;>simp[AO.kind]
  ·cases h
 |call dst g f xs=>cases h
 |nil dst g n x=>cases h
 |iY dst g t xs=>cases h
theorem K5 {ops:Array Oper} (uD:nY P nt ops ops.toList=some is) (K6:uW af pt is.length=true)
 (hK : ∀ tm bB s,Tm.eqv tm bB→K tm s→K bB s) {db:Array Bool} {R:List (Nat×Nat)} {dP:List Pd} {act:Act} {w:World} (hs:pB is af pt db R dP) (h:wo P is K B nt R dP act w)
 (aaN : ∀ x l,R=x::l→∀ p∈dP,p.q≠x.1) {q:Nat} (hq:q<is.length) (Bm:db.getD q false=false) (gZ : ∀ j∈gn af q,j<is.length∧db.getD j false=true)
 {Q:Exit→Act→World→Prop} {K2:Act→World→Prop} (XL : ∀ R' tD a' w',pB is af pt (db.setIfInBounds q true) R' tD→wo P is K B nt R' tD a' w'→K2 a' w'):wpOp P ops Q q K2 act w:=by
 obtain⟨hlen,hP⟩:=vk uD
 have qZ:q<ops.size:=by rw[hlen]at hq;simpa using hq
 obtain⟨ai,tA,NO⟩:=hP q ops[q] (by simp[qZ])
 have hi:ops[q]? = some ops[q]:=by simp[qZ]
 have gJ : ∀ j∈gn pt q,db.getD j false=true:=fun j hj=>by
  rcases zW K6 q hq j hj with h1|⟨k,h1,h2⟩
  ·exact(gZ j h1).2
  ·exact hs.cl k (gZ k h1).1 (gZ k h1).2 j h2
 have NP : ∀ p∈dP,p.q≠q:=fun p hp rR=>by
  have:=(hs.DR q hq).2 (.inr ⟨p,hp,rR⟩)
  rw[Bm]at this;cases this
 have XI:q∈R.map (·.1):=by
  by_cases hm:q∈R.map (·.1)
  ·exact hm
  ·have:=(hs.DR q hq).2 (.inl hm)
   rw[Bm]at this;cases this
 obtain⟨⟨q',b⟩,hx,hqq⟩:=zaH.1 XI
 simp only at hqq
 subst hqq
 obtain⟨X,Y,rfl⟩:=List.append_of_mem hx
 obtain⟨g1,g2,g3,g4,g5⟩:=q8 hs.ok
 rw[zaA]at g1 g5
 obtain⟨M,s,tm,q9,bJ,e,r,ht,oy,hn,hd,hg,tC,qG⟩:=h
 have NQ:gX is q'=ai.kind:=by simp[gX,tA]
 -- what must have come up ahead of it, is not here any more, but for what was allocated early
 have T7 : ∀ a∈X.map (·.1),a∈gn pt q'→∃ p∈dP,p.q=a:=fun a ha cY=>by
  have h1:=gJ a cY
  obtain⟨x,hxX,rfl⟩:=zaH.1 ha
  rcases(hs.DR x.1 (hs.lt x (by simp[hxX]))).1 h1 with h2|h2
  ·exact(h2 (by simp;exact .inl ⟨x.2,hxX⟩)).elim
  ·exact h2
 have T8 : ∀ x l,X=x::l→x.1∉gn pt q':=fun x l hX hxp=>by
  obtain⟨p,hp,rR⟩:=T7 x.1 (by simp[hX]) hxp
  exact aaN x (l++(q',b)::Y) (by simp[hX]) p hp rR
 have hpk : ∀ p∈dP,gX is p.q = .alloc:=fun p hp=>by simp[gX,(tC p hp).ai,AI.kind]
 have wq : ∀ p∈dP,(p.q∈X.map (·.1)→jS is p.q q'=true)→(∀ t,ai.dst=some t→t≠p.t)∧p.t∉ai.reads:=fun p hp hX=>by
  have hk:=tC p hp
  have hm:=hk.mem
  simp only[zah,zaf,zaw,zan]at hm
  rcases hm with hm|hm|hm
  ·have:=hX hm
   simp only[jS,hk.ai,tA]at this
   obtain⟨p1,p2,p3⟩:=apart_spec this
   exact⟨fun t ht he=>p3 p.t rfl (by rw[ht,he]),p1 p.t rfl⟩
  ·exact(NP p hp hm).elim
  ·obtain⟨x,hxY,T9⟩:=zaH.1 hm
   have:=(zj g5 x hxY).2 (by rw[T9];exact hpk p hp) q' (by simp)
   rw[T9]at this
   simp only[jS,hk.ai,tA]at this
   obtain⟨p1,p2,p3⟩:=apart_spec this
   exact⟨fun t ht he=>p3 t ht (by rw[he];rfl),p2 p.t rfl⟩
 have NR:(∀ p∈dP,p.t∉ai.reads)→∀ t∈ai.reads,tm.get t=q9.get t:=fun hp t ht=>(oy t fun p XK he=>hp p XK (by rw[he];exact ht)).symm
 have Ua : ∀ p∈dP,p.q∈(X++Y).map (·.1):=fun p hp=>by
  have hm:=(tC p hp).mem
  have:=NP p hp
  simp only[zah,zaf,zaw,zan]at hm ⊢
  rcases hm with hm|hm|hm
  ·exact .inl hm
  ·exact(this hm).elim
  ·exact .inr hm
 by_cases rS:ai.kind = .alloc
 ·-- an allocation
  obtain⟨t,z,rfl⟩:=K4 rS
  have cY : ∀ a∈X.map (·.1),jS is a q'=true:=fun a ha=>by
   unfold mT at g1
   rw[NQ,rS]at g1
   simp only[List.all_reverse,zaO]at g1
   exact g1 a ha
  have DS:=fun p hp=>wq p hp (cY p.q)
  refine Ik hi NO fun vs T hl h1 h2=>?_
  obtain⟨r1,e1,u1⟩:=r.idle (.cells vs T)
  have XM:t<act.tmps.size:=by
   rw[hn]
   exact sF NO t (by rw[← oX NO];rfl)
  have:=hs.flag (p:=⟨q',t,z,w.heap.size⟩) hq gJ
  refine XL _ _ _ _ this ⟨M,s,tm,q9.put (some t) .junk,bJ,e.trans e1,r1,kA.put ht (dst:=some t) (fun u hu=>by cases hu;exact XM) (.junk _),fun u hu=>?_,by simp[Act.put,hn],by simp[Act.put,hd],hg,fun p hp=>?_,fun p hp p' la he=>?_⟩
  ·have h3:=hu ⟨q',t,z,w.heap.size⟩ (by simp)
   rw[Tm.jX,if_neg (by simpa using h3)]
   exact oy u fun p hp=>hu p (zav _ hp)
  ·rcases zan.1 hp with rfl | hp
   ·refine⟨by simp,tA,⟨vs,T,heap_alloc_new w _,hl,h1,h2⟩,u1,e.size, ?_⟩
    simp[Act.put,XM]
   ·have hk:=tC p hp
    obtain⟨eR,T',iH,lg,qa,vh⟩:=hk.cells
    refine⟨hk.mem,hk.ai,⟨eR,T',by rw[heap_alloc_old w _ _ (jI iH)];exact iH,lg,qa,vh⟩,hk.unk,hk.base, ?_⟩
    rw[← hk.slot]
    have dL:t≠p.t:=(DS p hp).1 t rfl
    simp[Act.put,zbr dL]
  ·have dq : ∀ p∈dP,¬ (q'=p.q∨t=p.t∨w.heap.size=p.b):=fun p hp h=>by
    rcases h with h|h|h
    ·exact NP p hp h.symm
    ·exact(DS p hp).1 t rfl h
    ·obtain⟨eR,T',iH,_⟩:=(tC p hp).cells
     have:=jI iH
     omega
   rcases zan.1 hp with rfl|hp<;>rcases zan.1 la with rfl|la
   ·rfl
   ·exact(dq p' la he).elim
   ·exact(dq p hp (he.imp Eq.symm (Or.imp Eq.symm Eq.symm))).elim
   ·exact qG p hp p' la he
 ·by_cases l9:gd ai.kind=true
  ·-- a step that changes something: it stands first
   have hkc:ai.kind = .core:=by
    cases hk:ai.kind<;>simp_all [gd]
   have hX:X = []:=by
    cases X with
    |nil=>rfl
    |cons x l=>
     refine(T8 x l rfl ?_).elim
     unfold mT at g1
     rw[NQ,hkc]at g1
     simp only[List.all_reverse,zaO]at g1
     have:=g1 x.1 (by simp)
     rwa [za2]at this
   subst hX
   have DS:=fun p hp=>wq p hp (fun h=>by simp at h)
   simp only[zaR,jK,tA,l9]at hg
   obtain⟨d,s1,qT,hg⟩:=hg
   have ad3:=uB (NR fun p hp=>(DS p hp).2) qT
   refine wpOp_mono (fun a' w' hr=>XL _ _ _ _ (hs.done hq gJ) hr) ?_
   exact T5 hi NO e r ht oy hn hd tC qG (Gl ad3) hg Ua (fun p hp he=>(DS p hp).1 _ he rfl)
  ·-- a step that changes nothing
   have hm:gd ai.kind=false:=by simpa using l9
   have nf : ∀ a∈X.map (·.1),a∉gn pt q':=fun a ha cY=>by
    obtain⟨p,hp,rR⟩:=T7 a ha cY
    have x7:gX is a = .alloc:=by rw[← rR];exact hpk p hp
    have jB:jN is (gn pt q') (X.map (·.1)).reverse=true:=by
     unfold mT at g1
     rw[NQ]at g1
     cases hk:ai.kind with
     |pure=>simp only[hk,zam]at g1;exact g1.2
     |load=>simp only[hk,zam]at g1;exact g1.1.2
     |alloc=>exact(rS hk).elim
     |core=>rw[hk]at hm;cases hm
    cases X with
    |nil=>simp at ha
    | cons x l=>
     have ha2:a∈((x::l).map (·.1)).reverse:=List.mem_reverse.2 ha
     obtain⟨l1,l2,ra⟩:=List.append_of_mem ha2
     have rD:=vj jB a l1 l2 ra x7 cY
     refine T8 x l rfl ?_
     cases jZ:l2.reverse with
     |nil=>
      have h3:l2 = []:=by simpa using jZ
      subst h3
      have:=congrArg List.reverse ra
      simp at this
      rw[this.1];exact cY
     |cons y l3=>
      have:=congrArg List.reverse ra
      simp only[List.reverse_reverse,zaf,List.reverse_append,List.reverse_cons,List.reverse_nil,zaC,jZ,zaJ,zaR,List.cons.injEq]at this
      rw[this.1]
      exact rD y (by rw[← List.mem_reverse,jZ];simp)
   have cY : ∀ a∈X,jS is a.1 q'=true:=fun a ha=>by
    have h3 : ∀ x∈(X.map (·.1)).reverse,((gn pt q').contains x ||jS is x q')=true:=by
     unfold mT at g1
     rw[NQ]at g1
     cases hk:ai.kind with
     |pure=>simp only[hk,zam]at g1;exact zaO.1 g1.1
     |load=>simp only[hk,zam]at g1;exact zaO.1 g1.1.1
     |alloc=>exact(rS hk).elim
     |core=>rw[hk]at hm;cases hm
    have:=h3 a.1 (List.mem_reverse.2 (zaL ha))
    simp only[zay,za2]at this
    exact this.resolve_left (nf a.1 (zaL ha))
   have XN:ai.kind = .load→iE is (X.map (·.1))≤b:=fun hk=>by
    unfold mT at g1
    rw[NQ,hk]at g1
    simp only[zam,decide_eq_true_eq]at g1
    have h3:=g1.2
    have h4:(X.map (·.1)).reverse.filter (fun a=> !(gn pt q').contains a)=(X.map (·.1)).reverse:=by
     rw[List.filter_eq_self]
     intro a ha
     have:=nf a (List.mem_reverse.1 ha)
     simpa using this
    rw[h4]at h3
    unfold iE at h3 ⊢
    rw[List.filter_reverse,List.length_reverse]at h3
    exact h3
   have DS:=fun p hp=>wq p hp (fun h=>by
    obtain⟨x,hx,T9⟩:=zaH.1 h
    rw[← T9];exact cY x hx)
   obtain⟨d,h1,_,oh⟩:=uC hK tA hm Y X bJ tm s cY XN hg
   have qa:iQ ai q9 s=some d:=by rw[← oW (NR fun p hp=>(DS p hp).2)];exact h1
   refine wpOp_mono (fun a' w' hr=>XL _ _ _ _ (hs.done hq gJ) hr) ?_
   exact T5 hi NO e r ht oy hn hd tC qG (K1 hm qa) oh Ua (fun p hp he=>(DS p hp).1 _ he rfl)
theorem qI {o:Oper} {j:Nat} : j∈gL o↔∃ e∈o.after,Region.binds .any e=true∧e.on=j:=by
 simp only[gL,zaH,List.mem_filter,zaQ]
 constructor
 ·rintro⟨e,⟨h1,h2⟩,h3⟩;exact⟨e,h1,h2,h3⟩
 ·rintro⟨e,h1,h2,h3⟩;exact⟨e,⟨h1,h2⟩,h3⟩
theorem K7 {ops:Array Oper} (uD:nY P nt ops ops.toList=some is) (K6:uW (ops.toList.map gL) pt is.length=true)
 (XO : ∀ i,i<is.length→∀ j∈gn (ops.toList.map gL) i,j<is.length) {Q:Exit→Tm→St→Prop} (hK : ∀ tm bB s,Tm.eqv tm bB→K tm s→K bB s)
 (hKQ : ∀ tm s act w,K tm s→Holds B nt tm s act w→km B nt Q .normal act w) :
 ∀ (fuel:Nat) (db:Array Bool) (R:List (Nat×Nat)) (dP:List Pd) (act:Act) (w:World) (U:List Nat),U.length≤fuel→(∀ j,j<is.length→db.getD j false=false→j∈U)→
  pB is (ops.toList.map gL) pt db R dP→wo P is K B nt R dP act w→wpAny P .any ops (km B nt Q) fuel db act w:=by
 obtain⟨hlen,_⟩:=vk uD
 have qz:is.length=ops.size:=by rw[hlen];simp
 have XP : ∀ (j:Nat) (o:Oper),ops[j]? = some o→gn (ops.toList.map gL) j=gL o:=fun j o h=>by
  simp[gn,List.getD,h]
 have fin : ∀ {db:Array Bool} {dP:List Pd} {act:Act} {w:World},wo P is K B nt [] dP act w→km B nt Q .normal act w:=by
  intro db dP act w h
  obtain⟨M,s,tm,q9,bJ,e,r,ht,oy,hn,hd,hg,tC,qG⟩:=h
  have F9 : ∀ p∈dP,False:=fun p hp=>by have:=(tC p hp).mem;simp at this
  exact hKQ q9 s act w (hK tm q9 s (fun t=>(oy t fun p hp=>(F9 p hp).elim).symm) hg) ⟨M,e,r,ht,hn,hd⟩
 have NS : ∀ {db:Array Bool} {R:List (Nat×Nat)} {dP:List Pd} {x:Nat×Nat} {l:List (Nat×Nat)},pB is (ops.toList.map gL) pt db R dP→R=x::l→(∀ p∈dP,p.q≠x.1)→
  x.1∈Region.ready .any ops db:=by
  intro db R dP x l hs hR NP
  subst hR
  have hx:=hs.lt x (by simp)
  rw[mem_ready]
  have Bm:db.getD x.1 false=false:=by
   cases hl:db.getD x.1 false with
   |false=>rfl
   |true=>
    rcases(hs.DR x.1 hx).1 hl with h1|⟨p,hp,rR⟩
    ·exact(h1 (by simp)).elim
    ·exact(NP p hp rR).elim
  have hxo:x.1<ops.size:=by rw[← qz];exact hx
  refine⟨by rw[qH (by rw[hs.size];exact hx)];exact Bm,ops[x.1],by simp[hxo],fun e he hb=>?_⟩
  have hm:e.on∈gn (ops.toList.map gL) x.1:=by rw[XP x.1 ops[x.1] (by simp[hxo])];exact qI.2 ⟨e,he,hb,rfl⟩
  obtain⟨_,_,_,g4,_⟩:=q8 (X:= []) (q:=x.1) (b:=x.2) hs.ok
  obtain⟨h1,h2⟩:=g4 _ hm
  refine(hs.DR e.on (XO x.1 hx _ hm)).2 (.inl ?_)
  simp only[zaf,zan,not_or]
  exact⟨h1,h2⟩
 intro fuel
 induction fuel with
 | zero=>
  intro db R dP act w U hU Bm hs h
  obtain⟨R',tD,mX,h',hn⟩:=norm R dP hs h
  have hUn:U = []:=List.length_eq_zero_iff.1 (by omega)
  have rD : ∀ j,j<is.length→db.getD j false=true:=fun j hj=>by
   cases hl:db.getD j false with
   |true=>rfl
   |false=>have:=Bm j hj hl;rw[hUn]at this;cases this
  have hR:R' = []:=by
   cases hR:R' with
   |nil=>rfl
   |cons x l=>
    have hx:=mX.lt x (by simp[hR])
    have:=NS mX hR (hn x l hR)
    rw[mem_ready,qH (by rw[mX.size];exact hx),rD x.1 hx]at this
    cases this.1
  subst hR
  refine⟨?_,fin (db:=db) h'⟩
  cases hr:Region.ready .any ops db with
  |nil=>rfl
  |cons j js=>
   have hj:j∈Region.ready .any ops db:=by rw[hr];simp
   rw[mem_ready]at hj
   obtain⟨h1,o,ho,_⟩:=hj
   have Ub:j<is.length:=by rw[qz];exact(zaN.1 ho).1
   rw[qH (by rw[hs.size];exact Ub),rD j Ub]at h1
   cases h1
 | succ fuel ih=>
  intro db R dP act w U hU Bm hs h
  obtain⟨R',tD,mX,h',hn⟩:=norm R dP hs h
  refine⟨fun hr=>?_,fun i hi=>?_⟩
  ·cases hR:R' with
   |nil=>subst hR;exact fin (db:=db) h'
   |cons x l=>
    have:=NS mX hR (hn x l hR)
    rw[hr]at this
    cases this
  ·rw [mem_ready]at hi
   obtain⟨h1,o,ho,K8⟩:=hi
   have oV:i<is.length:=by rw[qz];exact(zaN.1 ho).1
   rw[qH (by rw[hs.size];exact oV)]at h1
   refine K5 uD K6 hK mX h' hn oV h1 (fun j hj=>⟨XO i oV j hj, ?_⟩) fun R2 aaP a2 w2 Jc h2=>?_
   ·rw [XP i o ho]at hj
    obtain⟨e,he,hb,rfl⟩:=qI.1 hj
    exact K8 e he hb
   ·refine ih _ R2 aaP a2 w2 (U.erase i) ?_ (fun j hj hl=> ?_) Jc h2
    ·have:=List.length_erase_of_mem (Bm i oV h1)
     omega
    ·have hji:j≠i:=fun e=>by
      subst e
      have:j<db.size:=by rw[hs.size];exact oV
      simp[this]at hl
     rw[getD_set_ne false (Ne.symm hji)]at hl
     exact(List.mem_erase_of_ne hji).2 (Bm j hj hl)
theorem Sem.par {is:List AI} {kl:List (Nat×Nat)} {Q:Exit→Tm→St→Prop} {tm:Tm} {s:St} (h:jK P is (Q .normal) kl [] tm s):Sem P B nt (.par is kl) Q tm s:=by
 intro c hc act w hh
 obtain⟨id,ops,rfl,hi,hm,pt,hp⟩:=jE hc
 simp only[A4,zam,zaO,List.mem_range,za2,decide_eq_true_eq]at hp
 obtain⟨⟨⟨⟨h1,h2⟩,h3⟩,h4⟩,h5⟩:=hp
 obtain⟨hlen,_⟩:=vk hi
 have qz:is.length=ops.size:=by rw[hlen];simp
 refine wp_region_any hm ?_
 obtain⟨M,e,r,ht,hn,hd⟩:=hh
 have key : ∀ (R:List (Nat×Nat)) (bJ:List St) (tm:Tm) (s:St),jK P is (Q .normal) R bJ tm s→jK P is (fun tm s=>∃ bB,tm.eqv bB∧Q .normal bB s) R bJ tm s:=by
  intro R
  induction R with
  |nil=>intro bJ tm s h;exact⟨tm,fun _=>rfl,h⟩
  | cons x R ih=>
   obtain⟨q,b⟩:=x
   intro bJ tm s h
   unfold jK at h ⊢
   split at h
   ·exact h.elim
   ·split at h
    ·obtain⟨d,s',h1,h2⟩:=h;exact⟨d,s',h1,ih _ _ _ h2⟩
    ·obtain⟨d,h1,h2,h3⟩:=h;exact⟨d,h1,h2,ih _ _ _ h3⟩
 have hg:=key _ _ _ _ h
 refine K7 (K:=fun tm s=>∃ bB,tm.eqv bB∧Q .normal bB s) hi h1 h5 (fun tm bB s he ⟨t2,h3,h4⟩=>⟨t2,fun t=>(he t).symm.trans (h3 t),h4⟩)
  (fun tm s act w ⟨t2,h3,h4⟩ ⟨M,e,r,ht,hn,hd⟩=>⟨t2,s,h4,M,e,r,fun t=>by rw[← h3 t];exact ht t,hn,hd⟩) ops.size _ kl [] act _ (List.range is.length) (by simp[qz]) (fun j hj _=>by simpa using hj)
  ⟨h2,fun i hi=>?_,fun i hi hl=>?_,by simp[qz],h4⟩ ⟨M,s,tm,tm,[],⟨e.le,e.kept,e.n5,e.mR,e.n6,e.size,e.os,e.tape,e.output⟩,r.of_heap rfl,ht,fun _ _=>rfl,hn,hd,hg,by simp,by simp⟩
 ·have:i<ops.size:=by rw [← qz];exact hi
  have h6:=h3 i hi
  simp only[zbn,false_and,exists_false,or_false]
  rw[show(Array.replicate ops.size false).getD i false=false by simp[this]]
  simp[h6]
 ·have:i<ops.size:=by rw [← qz];exact hi
  rw[show(Array.replicate ops.size false).getD i false=false by simp[this]]at hl
  cases hl
end
end Go.Abs
namespace Go.Abs
theorem Vc (k:IntKind) (n:Int):D.row (.int k n)=some [.int k n]:=rfl
theorem QS (b:Bool):D.row (.bool b)=some [.bool b]:=rfl
theorem Vd (l:List UInt8):D.row (.str l)=some [.str l]:=rfl
theorem QT:D.row .er=some [.er]:=rfl
theorem Ve (o f:Nat):D.row (.ptr o f)=some [.ptr o f]:=rfl
theorem QU (r:List D) (f:Nat):D.row (.dr r f)=some [.dr r f]:=rfl
theorem NT (g:Tag) (z:Nat) (r:List (List D)):D.row (.slice g z r)=some [.slice g z r]:=rfl
theorem Vf (cs:List D):D.row (.agg cs)=some cs:=rfl
theorem Vg (v:Value):D.row (.val v)=some [.val v]:=rfl
theorem NU (T:TypeId) (o:Nat):D.row (.eC T o)=some [.eC T o]:=rfl
theorem Vh (f:Nat) (cs:List D):D.row (.fL f cs)=some [.fL f cs]:=rfl
theorem QV (o:Nat):D.row (.fA o)=some [.fA o]:=rfl
theorem QW (w:Bool):Tag.cut .full w=if w then .full else .shared:=rfl
theorem K9 (w:Bool):Tag.cut .shared w = .shared:=rfl
theorem QX (t:Nat) (y:Bool) (w:Bool):Tag.cut (.tok t y) w = .tok t y:=rfl
section
variable {P:Program}
def KC (P:Program) (r:List AI) (K:Tm→St→Prop) (tm:Tm) (dst:Option Nat) (d:D) (s:St):Prop:=gk P r K (tm.put dst d) s
def GI (P:Program) (g:D) (want:Bool) (i:AI) (r:List AI) (K:Tm→St→Prop) (tm:Tm) (s:St):Prop:=
 match g with
 | .bool b=>(b=want→gk P (i::r) K tm s)∧(b=(!want)→gk P r K (tm.put i.dst (.tuple [])) s)
 | .tuple _=>gk P r K (tm.put i.dst (.tuple [])) s
 |_=>False
def NI (P:Program) (dst:Option Nat) (neg:Bool) (x:D) (r:List AI) (K:Tm→St→Prop) (tm:Tm) (s:St):Prop:=
 match x with
 | .slice _ _ rows=>∀ b:Bool,(rows≠ []→b=false)→gk P r K (tm.put dst (.bool (if neg then !b else b))) s
 |_=>False
def se (d:D) (A C:Prop):Prop:=
 match d with
 | .bool b=>(b=true→A)∧(b=false→C)
 |_=>False
theorem Sem.aaQ {B:ey} {nt:Nat} {Q:Exit→Tm→St→Prop} {tm:Tm} {s:St} {x:X} {a b:AC} (h:se (x.ev tm) (Sem P B nt a Q tm s) (Sem P B nt b Q tm s)):Sem P B nt (.cond x a b) Q tm s:=by
 unfold se at h
 split at h
 ·rename_i t ht
  exact Sem.cond ht h.1 h.2
 ·exact h.elim
def gf (P:Program) (K:Tm→St→Prop):List (AI×Nat)→List St→Tm→St→Prop
 | [],_,tm,s=>K tm s
 |(ai,b)::r,bJ,tm,s=>
  match gd ai.kind with
  |true=>∃ d s',qC P ai tm s d s'∧gf P K r (s::bJ) (tm.put ai.dst d) s'
  |false=>∃ d,iQ ai tm s=some d∧(ai.kind = .load→∀ s'∈bJ.take b,iQ ai tm s'=some d)∧gf P K r bJ (tm.put ai.dst d) s
def lj (is:List AI):List (Nat×Nat)→Option (List (AI×Nat))
 | []=>some []
 |(q,b)::r=>match is[q]?,lj is r with
  |some ai,some l=>some ((ai,b)::l)
  |_,_=>none
theorem C0 {is:List AI} {K:Tm→St→Prop} : ∀ {kl:List (Nat×Nat)} {items:List (AI×Nat)} {bJ:List St} {tm:Tm} {s:St},lj is kl=some items→gf P K items bJ tm s→jK P is K kl bJ tm s
 | [],items,bJ,tm,s,h,g=>by cases h;exact g
 | (q,b)::r,items,bJ,tm,s,h,g=>by
  simp only[lj]at h
  split at h
  ·rename_i ai l h1 h2
   cases h
   simp only[gf]at g
   simp only[jK,h1]
   split at g
   ·rename_i hk
    obtain⟨d,s',g1,g2⟩:=g
    try simp only[hk]
    exact⟨d,s',g1,C0 h2 g2⟩
   ·rename_i hk
    obtain⟨d,g1,g2,g3⟩:=g
    try simp only[hk]
    exact⟨d,g1,g2,C0 h2 g3⟩
  ·cases h
theorem Sem.ad5 {B:ey} {nt:Nat} {Q:Exit→Tm→St→Prop} {tm:Tm} {s:St} {is:List AI} {kl:List (Nat×Nat)} {items:List (AI×Nat)} (hi:lj is kl=some items) (h:gf P (Q .normal) items [] tm s):Sem P B nt (.par is kl) Q tm s:=
 Sem.par (C0 hi h)
def AI.free:AI→AI
 | .op d _ o=> .op d none o
 | .call d _ f xs=> .call d none f xs
 | .nil d _ n x=> .nil d none n x
 | .iY d _ t xs=> .iY d none t xs
def GL (P:Program) (g:D) (want:Bool) (i:AI) (b:Nat) (r:List (AI×Nat)) (K:Tm→St→Prop) (bJ:List St) (tm:Tm) (s:St):Prop:=
 match g with
 | .bool v=>(v=want→gf P K ((i,b)::r) bJ tm s)∧(v=(!want)→gf P K r (if gd i.kind then s::bJ else bJ) (tm.put i.dst (.tuple [])) s)
 | .tuple _=>gf P K r (if gd i.kind then s::bJ else bJ) (tm.put i.dst (.tuple [])) s
 |_=>False
def CL (one:Bool) (P:Program) (f:Nat) (args:List D) (s:St) (K:D→St→Prop):Prop:=
 match one with
 |true=>∃ d s',ay P f args s d s'∧K d s'
 |false=>dt P f args s K
def KL (P:Program) (K:Tm→St→Prop) (r:List (AI×Nat)) (bJ:List St) (tm:Tm) (dst:Option Nat) (d:D) (s:St):Prop:=gf P K r bJ (tm.put dst d) s
def ma (i:AI) (tm:Tm) (d:D):List St→Prop
 | []=>True
 |s::r=>iQ i tm s=some d∧ma i tm d r
theorem Bn {i:AI} {tm:Tm} {d:D} : ∀ {l:List St},ma i tm d l→∀ s∈l,iQ i tm s=some d
 | [],_,s,h=>by cases h
 |a::l,h,s,hs=>by
  rcases zan.1 hs with rfl|hs
  ·exact h.1
  ·exact Bn h.2 s hs
def PL (P:Program) (o:AO) (dst:Option Nat) (b:Nat) (r:List (AI×Nat)) (K:Tm→St→Prop) (bJ:List St) (tm:Tm) (s:St):Prop:=
 match aU o tm s with
 |some (d,_)=>ma (.op dst none o) tm d (bJ.take b)∧gf P K r bJ (tm.put dst d) s
 |none=>False
def ML (P:Program) (o:AO) (dst:Option Nat) (r:List (AI×Nat)) (K:Tm→St→Prop) (bJ:List St) (tm:Tm) (s:St):Prop:=
 match aU o tm s with
 |some (d,s')=>gf P K r (s::bJ) (tm.put dst d) s'
 |none=>False
def AO.core:AO→Bool
 | .alloc _=>true
 | .box _=>true
 | .sv .. =>true
 | .xK _=>true
 | .store .. =>true
 | .app .. =>true
 | .qR .. =>true
 | .xL .. =>true
 | .xM .. =>true
 | .apps .. =>true
 | .tj=>true
 | .xN .. =>true
 | .xO .. =>true
 |_=>false
theorem rb (dst:Option Nat) (g:Option (Nat×Bool)) (o:AO):gd (AI.op dst g o).kind=o.core:=by
 cases dst<;>cases g<;>cases o<;>rfl
def OL (P:Program) (o:AO) (dst:Option Nat) (b:Nat) (r:List (AI×Nat)) (K:Tm→St→Prop) (bJ:List St) (tm:Tm) (s:St):Prop:=
 match o.core with
 |true=>ML P o dst r K bJ tm s
 |false=>PL P o dst b r K bJ tm s
theorem Gm {K:Tm→St→Prop} {dst:Option Nat} {o:AO} {b:Nat} {r:List (AI×Nat)} {bJ:List St} {tm:Tm} {s:St} (h:OL P o dst b r K bJ tm s) :
 gf P K ((.op dst none o,b)::r) bJ tm s:=by
 unfold OL at h
 simp only[gf,rb]
 cases hc:o.core with
 | true=>
  simp only[hc,ML]at h
  simp only[]
  split at h
  ·rename_i d s' he
   exact⟨d,s',by simpa[qC,guarded]using he,h⟩
  ·exact h.elim
 | false=>
  simp only[hc,PL]at h
  simp only[]
  split at h
  ·rename_i d s' he
   exact⟨d,by simp[iQ,he],fun _=>Bn h.1,h.2⟩
  ·exact h.elim
theorem La {K:Tm→St→Prop} {dst:Option Nat} {f:Nat} {xs:List X} {b:Nat} {r:List (AI×Nat)} {bJ:List St} {tm:Tm} {s:St} (h:CL true P f (xs.map (·.ev tm)) s (KL P K r (s::bJ) tm dst)) :
 gf P K ((.call dst none f xs,b)::r) bJ tm s:=by
 obtain⟨d,s',h1,h2⟩:=h
 exact⟨d,s',h1,h2⟩
theorem XR {K:Tm→St→Prop} {i:AI} {t:Nat} {w:Bool} {b:Nat} {r:List (AI×Nat)} {bJ:List St} {tm:Tm} {s:St} {j:AI} (hf:(∃ d o,i = .op d none o∧j = .op d (some (t,w)) o)∨(∃ d f xs,i = .call d none f xs∧j = .call d (some (t,w)) f xs))
 (hg:tm.get t = .bool w) (h:gf P K ((i,b)::r) bJ tm s):gf P K ((j,b)::r) bJ tm s:=by
 rcases hf with ⟨d,o,rfl,rfl⟩|⟨d,f,xs,rfl,rfl⟩
 ·simp only [gf,rb]at h ⊢
  cases hc:o.core<;>simp only[hc]at h ⊢
  ·obtain⟨x,h1,h2,h3⟩:=h
   refine⟨x,by simpa[iQ,hg]using h1,fun hk s' mX=>?_,h3⟩
   have qQ:(AI.op d none o).kind = .load:=by
    cases d<;>cases o<;>first|exact hk|(cases hc;done)|(cases hk;done)
   simpa[iQ,hg]using h2 qQ s' mX
  ·obtain⟨x,s',h1,h2⟩:=h
   exact⟨x,s',by simpa[qC,guarded,hg]using h1,h2⟩
 ·obtain⟨x,s',h1,h2⟩:=h
  exact⟨x,s',by simpa[qC,guarded,hg]using h1,h2⟩
theorem NV {K:Tm→St→Prop} {i:AI} {t:Nat} {w:Bool} {b:Nat} {r:List (AI×Nat)} {bJ:List St} {tm:Tm} {s:St} {j:AI} (hf:(∃ d o,i = .op d none o∧j = .op d (some (t,w)) o)∨(∃ d f xs,i = .call d none f xs∧j = .call d (some (t,w)) f xs))
 (hg:tm.get t = .bool (!w)∨∃ l,tm.get t = .tuple l) (h:gf P K r (if gd i.kind then s::bJ else bJ) (tm.put i.dst (.tuple [])) s):gf P K ((j,b)::r) bJ tm s:=by
 rcases hf with ⟨d,o,rfl,rfl⟩|⟨d,f,xs,rfl,rfl⟩
 ·simp only [gf,rb]at h ⊢
  cases hc:o.core<;>simp only[hc]at h ⊢
  ·refine⟨.tuple [], ?_,fun hk s' mX=> ?_,h⟩
   ·rcases hg with hg|⟨l,hg⟩<;>simp[iQ,hg]
   ·rcases hg with hg|⟨l,hg⟩<;>simp[iQ,hg]
  ·refine⟨.tuple [],s, ?_,h⟩
   rcases hg with hg|⟨l,hg⟩<;>simp[qC,guarded,hg]
 ·refine⟨.tuple [],s, ?_,h⟩
  rcases hg with hg|⟨l,hg⟩<;>simp[qC,guarded,hg]
theorem Jl {K:Tm→St→Prop} {i j:AI} {t:Nat} {w:Bool} {b:Nat} {r:List (AI×Nat)} {bJ:List St} {tm:Tm} {s:St} (hf:(∃ d o,i = .op d none o∧j = .op d (some (t,w)) o)∨(∃ d f xs,i = .call d none f xs∧j = .call d (some (t,w)) f xs))
 (h:GL P (tm.get t) w i b r K bJ tm s):gf P K ((j,b)::r) bJ tm s:=by
 unfold GL at h
 split at h
 ·rename_i v hv
  by_cases e:v=w
  ·exact XR hf (by rw[hv,e]) (h.1 e)
  ·exact NV hf (.inl (by rw[hv];cases v<;>cases w<;>simp_all)) (h.2 (by cases v<;>cases w<;>simp_all))
 ·rename_i l hl
  exact NV hf (.inr ⟨l,hl⟩) h
 ·exact h.elim
theorem DT {K:Tm→St→Prop} {dst:Option Nat} {o:AO} {t:Nat} {w:Bool} {b:Nat} {r:List (AI×Nat)} {bJ:List St} {tm:Tm} {s:St} (h:GL P (tm.get t) w (.op dst none o) b r K bJ tm s) :
 gf P K ((.op dst (some (t,w)) o,b)::r) bJ tm s:=Jl (.inl ⟨dst,o,rfl,rfl⟩) h
theorem Ip {K:Tm→St→Prop} {dst:Option Nat} {f:Nat} {xs:List X} {t:Nat} {w:Bool} {b:Nat} {r:List (AI×Nat)} {bJ:List St} {tm:Tm} {s:St} (h:GL P (tm.get t) w (.call dst none f xs) b r K bJ tm s) :
 gf P K ((.call dst (some (t,w)) f xs,b)::r) bJ tm s:=Jl (.inr ⟨dst,f,xs,rfl,rfl⟩) h
theorem CL.use {one:Bool} {f:Nat} {args:List D} {s:St} {d:D} {s':St} {K:D→St→Prop} (h:ay P f args s d s') (hk:K d s'):CL one P f args s K:=
 match one with
 |true=>⟨d,s',h,hk⟩
 |false=>h.use hk
theorem CU {one:Bool} {f:Nat} {args:List D} {s:St} {d:D} {s':St} {K:D→St→Prop} (h:ay P f args s d s') (hk:K d s'):CL one P f args s K:=CL.use h hk
end
end Go.Abs
namespace Go.Abs
section
variable {P:Program} {B:ey} {nt:Nat}
theorem nI {ops:Array Oper} {i:Nat} {o:Oper} {ai:AI} (hi:ops[i]? = some o) (hc:cI P nt ops o=some ai) {tm bB:Tm} {s s':St} {act:Act} {w:World} (hh:Holds B nt tm s act w)
 (h:gk P [ai] (fun a b=>a=bB∧b=s') tm s) {K:Act→World→Prop} {Q:Exit→Act→World→Prop} (hK : ∀ a w',Holds B nt bB s' a w'→K a w'):wpOp P ops Q i K act w:=by
 obtain⟨M,e,r,ht,hn,hd⟩:=hh
 refine qF hi hc r (B.laid.ext e) ht h fun d v s1 w1 M1 hk e1 r1 gZ=>hK _ _ ?_
 obtain⟨rfl,rfl⟩:=hk
 refine⟨M1,e.trans e1,r1, ?_, ?_, ?_⟩
 ·rw [oX hc]
  exact(ht.mono e1.le).put (fun t h=>by rw[hn];exact sF hc t h) gZ
 ·cases ho:o.dst<;>simp[Act.put,hn]
 ·cases ho:o.dst<;>simp[Act.put,hd]
set_option maxHeartbeats 1000000 in
theorem Sem.any {a d : Nat} {Q : Exit → Tm → St → Prop} {tm : Tm} {s : St} (h : ∀ b : Bool, Q .normal ((tm.set a (.ptr s.av.length 0)).set d (.bool b)) ⟨s.av ++ [[.bool b]], s.aw⟩) : Sem P B nt (.any a d) Q tm s := by
 intro c hc act w hh
 obtain ⟨id, ops, rfl, hi, hm, NA⟩ := jE hc
 obtain ⟨hlen, hP⟩ := vk hi
 obtain ⟨ol, rfl⟩ : ∃ ol : List Oper, ops = ol.toArray := ⟨ops.toList, by simp⟩
 simp only[List.toList_toArray]at hi hlen hP NA
 obtain ⟨o0, o1, o2, o3, rfl⟩ : ∃ o0 o1 o2 o3, ol = [o0, o1, o2, o3] := by
   have h4 : ol.length = 4 := hlen.symm
   rcases ol with _|⟨o0, _|⟨o1, _|⟨o2, _|⟨o3, _|⟨o4, r⟩⟩⟩⟩⟩<;>simp at h4
   exact ⟨_, _, _, _, rfl⟩
 simp only[zaf, zaj, List.cons.injEq, and_true]at NA
 obtain ⟨e0, e1, e2, e3⟩ := NA
 obtain ⟨a0, g0, c0⟩ := hP 0 o0 rfl
 obtain ⟨a1, g1, c1⟩ := hP 1 o1 rfl
 obtain ⟨a2, g2, c2⟩ := hP 2 o2 rfl
 obtain ⟨a3, g3, c3⟩ := hP 3 o3 rfl
 cases g0; cases g1; cases g2; cases g3
 refine wp_region_any hm ?_
 have iH : Holds B nt tm s act { w with drawn := w.drawn + 1 } := by
   obtain ⟨M, e, r, ht, hn, hd⟩ := hh
   exact ⟨M, ⟨e.le, e.kept, e.n5, e.mR, e.n6, e.size, e.os, e.tape, e.output⟩, r.of_heap rfl, ht, hn, hd⟩
 have ready : ∀ {L : Array Bool} {i : Nat} {o : Oper}, ([o0, o1, o2, o3].toArray)[i]? = some o → L.getD i true = false → (∀ j ∈ gL o, L.getD j false = true) → Region.ready .any ([o0, o1, o2, o3].toArray) L = [] → False := by
   intro L i o ho h1 h2 h3
   have : i ∈ Region.ready .any ([o0, o1, o2, o3].toArray) L := mem_ready.2 ⟨h1, o, ho, fun e he hb => h2 _ (qI.2 ⟨e, he, hb, rfl⟩)⟩
   rw[h3]at this; cases this
 have ux : ∀ {L : Array Bool} {i : Nat} {o : Oper}, ([o0, o1, o2, o3].toArray)[i]? = some o → i ∈ Region.ready .any ([o0, o1, o2, o3].toArray) L → L.getD i true = false ∧ ∀ j ∈ gL o, L.getD j false = true := by
   intro L i o ho hr
   obtain ⟨h1, o', ky, h2⟩ := mem_ready.1 hr
   rw[ho]at ky; cases ky
   refine ⟨h1, fun j hj =>?_⟩
   obtain ⟨e, he, hb, rfl⟩ := qI.1 hj
   exact h2 e he hb
 have four : ∀ {L : Array Bool} {i : Nat}, i ∈ Region.ready .any ([o0, o1, o2, o3].toArray) L → i < 4 := by
   intro L i hr
   obtain ⟨_, o, ho, _⟩ := mem_ready.1 hr
   exact (zaN.1 ho).1
 -- the box
 have n0 : ∀ b : Bool, (s.av ++ [[D.bool b]])[s.av.length]? = some [.bool b] := fun b => by simp
 let yi := tm.set a (.ptr s.av.length 0)
 have ga : yi.get a = .ptr s.av.length 0 := by rw[Tm.u6, if_pos rfl]
 have v0 : gk P [.op (some a) none (.alloc [.bool false])] (fun x y => x = yi ∧ y = ⟨s.av ++ [[.bool false]], s.aw⟩) tm s := ⟨rfl, rfl⟩
 have vs : ∀ b b' : Bool, gk P [.op none none (.store (.s a) (.k (.bool b')) 1)] (fun x y => x = yi ∧ y = ⟨s.av ++ [[.bool b']], s.aw⟩) yi ⟨s.av ++ [[.bool b]], s.aw⟩ := fun b b' => by
   simp[gk, guarded, aU, X.ev, ga, D.row, eH, Tm.put]
 have vl : ∀ b : Bool, gk P [.op (some d) none (.load (.s a) false 1)] (fun x y => x = yi.set d (.bool b) ∧ y = ⟨s.av ++ [[.bool b]], s.aw⟩) yi ⟨s.av ++ [[.bool b]], s.aw⟩ := fun b => by
   simp[gk, guarded, aU, X.ev, ga, part, Tm.put]
 have last : ∀ (b : Bool) (act : Act) (w : World), Holds B nt (yi.set d (.bool b)) ⟨s.av ++ [[.bool b]], s.aw⟩ act w → wpAny P .any ([o0, o1, o2, o3].toArray) (km B nt Q) 0 #[true, true, true, true] act w := fun b act w hw => by
   refine ⟨?_, _, _, h b, hw⟩
   cases hr : Region.ready .any ([o0, o1, o2, o3].toArray) #[true, true, true, true] with
   |nil => rfl
   | cons j js =>
     have hj : j ∈ Region.ready .any ([o0, o1, o2, o3].toArray) #[true, true, true, true] := by rw[hr]; simp
     have := four hj
     obtain ⟨h1, _⟩ := mem_ready.1 hj
     have hv : j = 0 ∨ j = 1 ∨ j = 2 ∨ j = 3 := by omega
     rcases hv with rfl|rfl|rfl|rfl
     · cases h1
     · cases h1
     · cases h1
     · cases h1
 have third : ∀ (b : Bool) (act : Act) (w : World), Holds B nt yi ⟨s.av ++ [[.bool b]], s.aw⟩ act w → wpAny P .any ([o0, o1, o2, o3].toArray) (km B nt Q) 1 #[true, true, true, false] act w := fun b act w hw => by
   refine ⟨fun hr => (ready (i := 3) (o := o3) rfl rfl (fun j hj =>?_) hr).elim, fun i hi =>?_⟩
   · rw [e3] at hj
     simp only[zan, zbn, or_false]at hj
     rcases hj with rfl|rfl|rfl|rfl<;>rfl
   · have h4 := four hi
     obtain ⟨h1, _⟩ := mem_ready.1 hi
     have hv : i = 0 ∨ i = 1 ∨ i = 2 ∨ i = 3 := by omega
     rcases hv with rfl|rfl|rfl|rfl
     · cases h1
     · cases h1
     · cases h1
     · exact nI rfl c3 hw (vl b) fun a' w' h' => last b a' w' h'
 have Vj : ∀ (act : Act) (w : World), Holds B nt yi ⟨s.av ++ [[.bool true]], s.aw⟩ act w → wpAny P .any ([o0, o1, o2, o3].toArray) (km B nt Q) 2 #[true, true, false, false] act w := fun act w hw => by
   refine ⟨fun hr => (ready (i := 2) (o := o2) rfl rfl (fun j hj =>?_) hr).elim, fun i hi =>?_⟩
   · rw [e2] at hj
     simp only[zan, zbn, or_false]at hj
     subst hj; rfl
   · have h4 := four hi
     obtain ⟨h1, _⟩ := mem_ready.1 hi
     have hv : i = 0 ∨ i = 1 ∨ i = 2 ∨ i = 3 := by omega
     rcases hv with rfl|rfl|rfl|rfl
     · cases h1
     · cases h1
     · exact nI rfl c2 hw (vs true false) fun a' w' h' => third false a' w' h'
     · have := (ux (i := 3) (o := o3) rfl hi).2 2 (by rw[e3]; simp); cases this
 have Vk : ∀ (act : Act) (w : World), Holds B nt yi ⟨s.av ++ [[.bool false]], s.aw⟩ act w → wpAny P .any ([o0, o1, o2, o3].toArray) (km B nt Q) 2 #[true, false, true, false] act w := fun act w hw => by
   refine ⟨fun hr => (ready (i := 1) (o := o1) rfl rfl (fun j hj =>?_) hr).elim, fun i hi =>?_⟩
   · rw [e1] at hj
     simp only[zan, zbn, or_false]at hj
     subst hj; rfl
   · have h4 := four hi
     obtain ⟨h1, _⟩ := mem_ready.1 hi
     have hv : i = 0 ∨ i = 1 ∨ i = 2 ∨ i = 3 := by omega
     rcases hv with rfl|rfl|rfl|rfl
     · cases h1
     · exact nI rfl c1 hw (vs false true) fun a' w' h' => third true a' w' h'
     · cases h1
     · have := (ux (i := 3) (o := o3) rfl hi).2 1 (by rw[e3]; simp); cases this
 have first : ∀ (act : Act) (w : World), Holds B nt yi ⟨s.av ++ [[.bool false]], s.aw⟩ act w → wpAny P .any ([o0, o1, o2, o3].toArray) (km B nt Q) 3 #[true, false, false, false] act w := fun act w hw => by
   refine ⟨fun hr => (ready (i := 1) (o := o1) rfl rfl (fun j hj =>?_) hr).elim, fun i hi =>?_⟩
   · rw [e1] at hj
     simp only[zan, zbn, or_false]at hj
     subst hj; rfl
   · have h4 := four hi
     obtain ⟨h1, _⟩ := mem_ready.1 hi
     have hv : i = 0 ∨ i = 1 ∨ i = 2 ∨ i = 3 := by omega
     rcases hv with rfl|rfl|rfl|rfl
     · cases h1
     · exact nI rfl c1 hw (vs false true) fun a' w' h' => Vj a' w' h'
     · exact nI rfl c2 hw (vs false false) fun a' w' h' => Vk a' w' h'
     · have := (ux (i := 3) (o := o3) rfl hi).2 1 (by rw[e3]; simp); cases this
 show wpAny P .any ([o0, o1, o2, o3].toArray) (km B nt Q) 4 #[false, false, false, false] act _
 refine ⟨fun hr => (ready (i := 0) (o := o0) rfl rfl (fun j hj => by rw[e0]at hj; cases hj) hr).elim, fun i hi =>?_⟩
 have h4 := four hi
 have hv : i = 0 ∨ i = 1 ∨ i = 2 ∨ i = 3 := by omega
 rcases hv with rfl|rfl|rfl|rfl
 · exact nI rfl c0 iH v0 fun a' w' h' => first a' w' h'
 · have := (ux (i := 1) (o := o1) rfl hi).2 0 (by rw[e1]; simp); cases this
 · have := (ux (i := 2) (o := o2) rfl hi).2 0 (by rw[e2]; simp); cases this
 · have := (ux (i := 3) (o := o3) rfl hi).2 0 (by rw[e3]; simp); cases this
end
end Go.Abs
namespace Go.Abs
theorem nd {α:Type} {a b:α} (h:a=b):a=b:=h
def GJ (g:D) (w:Bool) (A C:Prop):Prop:=
 match g with
 | .bool b=>(b=w→A)∧(b=(!w)→C)
 | .tuple _=>C
 |_=>False
class Two where
 a:Prop
 c:Prop
def CB (d:D) [b:Two] : Prop:=se d b.a b.c
def GB (d:D) (w:Bool) [b:Two] : Prop:=GJ d w b.a b.c
def lk (g:Option (Nat×Bool)) (tm:Tm) (A C:Prop):Prop:=
 match g with
 |none=>A
 |some (t,w)=>GJ (tm.get t) w A C
def jf (P:Program):List AI→(Tm→St→Prop)→Tm→St→Prop
 | [],K,tm,s=>K tm s
 | .op dst g o::r,K,tm,s=>lk g tm (match aU o tm s with|some (d,s')=>jf P r K (tm.put dst d) s'|none=>False) (jf P r K (tm.put dst (.tuple [])) s)
 | .call dst g f xs::r,K,tm,s=>lk g tm (CL false P f (xs.map (·.ev tm)) s fun d s'=>jf P r K (tm.put dst d) s') (jf P r K (tm.put dst (.tuple [])) s)
 | .nil dst g neg x::r,K,tm,s=>
  lk g tm (match x.ev tm with
   | .slice _ _ rows=>∀ b:Bool,(rows≠ []→b=false)→jf P r K (tm.put dst (.bool (if neg then !b else b))) s
   |_=>False) (jf P r K (tm.put dst (.tuple [])) s)
 | .iY dst g t xs::r,K,tm,s=>
  lk g tm (match tm.get t with
   | .fL f lO=>enters P f=true∧CL false P f (xs.map (·.ev tm)++lO) s fun d s'=>jf P r K (tm.put dst d) s'
   |_=>False) (jf P r K (tm.put dst (.tuple [])) s)
theorem qJ {g:Option (Nat×Bool)} {tm:Tm} {A C A' C':Prop} (h:lk g tm A C) (ha:A→A') (hc:C→C'):guarded g tm A' C':=by
 unfold lk at h
 unfold guarded
 cases g with
 |none=>exact ha h
 | some p=>
  obtain⟨t,w⟩:=p
  simp only[GJ]at h ⊢
  split at h
  ·rename_i hb;try simp only [hb]
   exact⟨fun e=>ha (h.1 e),fun e=>hc (h.2 e)⟩
  ·rename_i hb;try simp only [hb]
   exact hc h
  ·exact h.elim
theorem ml {P:Program} {K:Tm→St→Prop} : ∀ {is:List AI} {tm:Tm} {s:St},jf P is K tm s→gk P is K tm s
 | [],tm,s,h=>h
 | .op dst g o::r,tm,s,h=>by
  refine qJ h (fun h=>?_) ml
  split at h
  ·rename_i he;try simp only [he]
   exact ml h
  ·exact h.elim
 | .call dst g f xs::r,tm,s,h=>qJ h (fun h=>dt.mono h fun _ _ h=>ml h) ml
 | .nil dst g neg x::r,tm,s,h=>by
  refine qJ h (fun h=>?_) ml
  split at h
  ·rename_i he;try simp only [he]
   exact fun b hb=>ml (h b hb)
  ·exact h.elim
 | .iY dst g t xs::r,tm,s,h=>by
  refine qJ h (fun h=>?_) ml
  split at h
  ·rename_i he;try simp only [he]
   exact⟨h.1,dt.mono h.2 fun _ _ h=>ml h⟩
  ·exact h.elim
def fN (P:Program) (K:Tm→St→Prop):List (AI×Nat)→List St→Tm→St→Prop
 | [],_,tm,s=>K tm s
 |(.op dst g o,b)::r,bJ,tm,s=>
  match o.core with
  |true=>lk g tm (match aU o tm s with|some (d,s')=>fN P K r (s::bJ) (tm.put dst d) s'|none=>False) (fN P K r (s::bJ) (tm.put dst (.tuple [])) s)
  |false=>lk g tm (match aU o tm s with|some (d,_)=>ma (.op dst none o) tm d (bJ.take b)∧fN P K r bJ (tm.put dst d) s|none=>False) (fN P K r bJ (tm.put dst (.tuple [])) s)
 |(.call dst g f xs,_)::r,bJ,tm,s=>lk g tm (CL true P f (xs.map (·.ev tm)) s fun d s'=>fN P K r (s::bJ) (tm.put dst d) s') (fN P K r (s::bJ) (tm.put dst (.tuple [])) s)
 |(.nil ..,_)::_,_,_,_=>False
 |(.iY ..,_)::_,_,_,_=>False
theorem yk {P:Program} {t:Nat} {w:Bool} {tm:Tm} {i:AI} {b:Nat} {r:List (AI×Nat)} {K:Tm→St→Prop} {bJ:List St} {s:St} {A C:Prop} (h:lk (some (t,w)) tm A C) (ha:A→gf P K ((i,b)::r) bJ tm s)
 (hc:C→gf P K r (if gd i.kind then s::bJ else bJ) (tm.put i.dst (.tuple [])) s):GL P (tm.get t) w i b r K bJ tm s:=by
 simp only[lk,GJ]at h
 unfold GL
 split at h
 ·rename_i hb;try simp only [hb]
  exact⟨fun e=>ha (h.1 e),fun e=>hc (h.2 e)⟩
 ·rename_i hb;try simp only [hb]
  exact hc h
 ·exact h.elim
theorem kW {P:Program} {K:Tm→St→Prop} : ∀ {l:List (AI×Nat)} {bJ:List St} {tm:Tm} {s:St},fN P K l bJ tm s→gf P K l bJ tm s
 | [],bJ,tm,s,h=>h
 | (.op dst g o,b)::r,bJ,tm,s,h=>by
  simp only[fN]at h
  cases hc:o.core with
  | true=>
   simp only[hc]at h
   have ha:(match aU o tm s with|some (d,s')=>fN P K r (s::bJ) (tm.put dst d) s'|none=>False)→gf P K ((.op dst none o,b)::r) bJ tm s:=by
    intro h
    refine Gm ?_
    simp only[OL,hc,ML]
    split at h
    ·rename_i he;try simp only [he]
     exact kW h
    ·exact h.elim
   cases g with
   |none=>exact ha h
   |some p=>
    obtain⟨t,w⟩:=p
    refine DT (yk h ha fun h=>?_)
    simp only[rb,hc,if_true]
    exact kW h
  | false=>
   simp only[hc]at h
   have ha:(match aU o tm s with|some (d,_)=>ma (.op dst none o) tm d (bJ.take b)∧fN P K r bJ (tm.put dst d) s|none=>False)→gf P K ((.op dst none o,b)::r) bJ tm s:=by
    intro h
    refine Gm ?_
    simp only[OL,hc,PL]
    split at h
    ·rename_i he;try simp only [he]
     exact⟨h.1,kW h.2⟩
    ·exact h.elim
   cases g with
   |none=>exact ha h
   |some p=>
    obtain⟨t,w⟩:=p
    refine DT (yk h ha fun h=>?_)
    simp only[rb,hc]
    exact kW h
 | (.call dst g f xs,b)::r,bJ,tm,s,h=>by
  simp only[fN]at h
  have ha:(CL true P f (xs.map (·.ev tm)) s fun d s'=>fN P K r (s::bJ) (tm.put dst d) s')→gf P K ((.call dst none f xs,b)::r) bJ tm s:=
   fun⟨d,s',h1,h2⟩=>La ⟨d,s',h1,kW h2⟩
  cases g with
  |none=>exact ha h
  |some p=>
   obtain⟨t,w⟩:=p
   exact Ip (yk h ha fun h=>kW h)
 |(.nil ..,_)::_,bJ,tm,s,h=>h.elim
 |(.iY ..,_)::_,bJ,tm,s,h=>h.elim
section
variable {P:Program} {B:ey} {nt:Nat}
def eo (P:Program) (B:ey) (nt:Nat):AC→(Exit→Tm→St→Prop)→Tm→St→Prop
 | .skip,Q,tm,s=>Q .normal tm s
 | .run is,Q,tm,s=>jf P is (Q .normal) tm s
 | .par is kl,Q,tm,s=>match lj is kl with|some l=>fN P (Q .normal) l [] tm s|none=>False
 | .any a d,Q,tm,s=>∀ b:Bool,Q .normal ((tm.set a (.ptr s.av.length 0)).set d (.bool b)) ⟨s.av++ [[.bool b]],s.aw⟩
 | .seq a b,Q,tm,s=>eo P B nt a (eK (eo P B nt b Q) Q) tm s
 | .cond x a b,Q,tm,s=>se (x.ev tm) (eo P B nt a Q tm s) (eo P B nt b Q tm s)
 | .block id a,Q,tm,s=>eo P B nt a (dF id Q) tm s
 | .loop a,Q,tm,s=>aY P B nt a Q tm s
 | .exit id,Q,tm,s=>Q (.exit id) tm s
 | .scope a,Q,tm,s=>mB P B nt a a Q tm s
 | .label _,Q,tm,s=>Q .normal tm s
 | .goto l,Q,tm,s=>Q (.goto l) tm s
 | .ret,Q,tm,s=>Q .ret tm s
theorem gu : ∀ {ac:AC} {Q:Exit→Tm→St→Prop} {tm:Tm} {s:St},eo P B nt ac Q tm s→Sem P B nt ac Q tm s:=by
 intro ac
 induction ac with
 |skip=>exact fun h=>Sem.skip h
 |run is=>exact fun h=>Sem.run (ml h)
 |par is kl=>
  intro Q tm s h
  simp only[eo]at h
  split at h
  ·exact Sem.ad5 ‹_› (kW h)
  ·exact h.elim
 |any a d=>exact fun h=>Sem.any h
 |seq a b NC ND=>
  intro Q tm s h
  refine Sem.seq ((NC h).mono fun e tm s hq=>?_)
  cases e with
  |normal=>exact ND hq
  |_=>exact hq
 |cond x a b NC ND=>
  intro Q tm s h
  refine Sem.aaQ ?_
  simp only[eo]at h
  unfold se at h ⊢
  split at h
  ·exact⟨fun e=>NC (h.1 e),fun e=>ND (h.2 e)⟩
  ·exact h.elim
 |block id a ih=>exact fun h=>Sem.block (ih h)
 |loop a ih=>exact fun h=>Sem.loop h
 |exit id=>exact fun h=>Sem.exit h
 |scope a ih=>exact fun h=>Sem.scope h
 |label l=>exact fun h=>Sem.label h
 |goto l=>exact fun h=>Sem.goto h
 |ret=>exact fun h=>Sem.ret h
section
variable (Q:Exit→Tm→St→Prop) (N:Tm→St→Prop) (tm:Tm) (s:St) (a b:AC) (is:List AI) (x:X)
theorem QY:eo P B nt .skip Q tm s=Q .normal tm s:=nd rfl
theorem Vl:eo P B nt (.run is) Q tm s=jf P is (Q .normal) tm s:=nd rfl
theorem Vm (kl:List (Nat×Nat)):eo P B nt (.par is kl) Q tm s=match lj is kl with|some l=>fN P (Q .normal) l [] tm s|none=>False:=nd rfl
theorem Vn (i j:Nat):eo P B nt (.any i j) Q tm s = ∀ b:Bool,Q .normal ((tm.set i (.ptr s.av.length 0)).set j (.bool b)) ⟨s.av++ [[.bool b]],s.aw⟩:=nd rfl
theorem Vo:eo P B nt (.seq a b) Q tm s=eo P B nt a (eK (eo P B nt b Q) Q) tm s:=nd rfl
theorem QZ:eo P B nt (.cond x a b) Q tm s = @CB (x.ev tm) ⟨eo P B nt a Q tm s,eo P B nt b Q tm s⟩:=nd rfl
theorem NY (id:Nat):eo P B nt (.block id a) Q tm s=eo P B nt a (dF id Q) tm s:=nd rfl
theorem Q1:eo P B nt (.loop a) Q tm s=aY P B nt a Q tm s:=nd rfl
theorem NZ:eo P B nt (.scope a) Q tm s=mB P B nt a a Q tm s:=nd rfl
theorem Q2 (id:Nat):eo P B nt (.exit id) Q tm s=Q (.exit id) tm s:=nd rfl
theorem N0 (id:Nat):eo P B nt (.label id) Q tm s=Q .normal tm s:=nd rfl
theorem Q3 (id:Nat):eo P B nt (.goto id) Q tm s=Q (.goto id) tm s:=nd rfl
theorem Vp:eo P B nt .ret Q tm s=Q .ret tm s:=nd rfl
theorem Vq:eK N Q .normal tm s=N tm s:=nd rfl
theorem Vr:eK N Q .ret tm s=Q .ret tm s:=nd rfl
theorem Vs (id:Nat):eK N Q (.exit id) tm s=Q (.exit id) tm s:=nd rfl
theorem Vt (id:Nat):eK N Q (.goto id) tm s=Q (.goto id) tm s:=nd rfl
theorem Q4 (id:Nat):dF id Q .normal tm s=Q .normal tm s:=nd rfl
theorem Q5 (id:Nat):dF id Q .ret tm s=Q .ret tm s:=nd rfl
theorem Q6 (id l:Nat):dF id Q (.goto l) tm s=Q (.goto l) tm s:=nd rfl
theorem Q7 (id i:Nat):dF id Q (.exit i) tm s=if i=id then Q .normal tm s else Q (.exit i) tm s:=nd rfl
end
theorem aY.kF {a:AC} {Q:Exit→Tm→St→Prop} {tm:Tm} {s:St} (h:eo P B nt a (eK (aY P B nt a Q) Q) tm s):aY P B nt a Q tm s:=aY.once (gu h)
theorem mB.kF {a r:AC} {Q:Exit→Tm→St→Prop} {tm:Tm} {s:St} (h:eo P B nt r (ja P B nt a Q) tm s):mB P B nt a r Q tm s:=mB.once (gu h)
def rT (tm:Tm) (n m:Nat):Tm→Prop
 | []=>True
 |(k,d)::r=>Wk ((tm.get k).fg n m) d∧rT tm n m r
theorem rT.get {tm:Tm} {n m:Nat} : ∀ {bB:Tm},rT tm n m bB→∀ t,Wk ((tm.get t).fg n m) (bB.get t)
 | [],_,t=>Wk.junk _
 |(k,d)::r,h,t=>by
  simp only[Tm.get]
  split
  ·rename_i hk;subst hk;exact h.1
  ·exact rT.get h.2 t
theorem Holds.re {Q:Exit→Tm→St→Prop} {tm bB:Tm} {s:St} {cU:List (List D)} {act:Act} {w:World} (n m:Nat) (hn:B.s.av.length≤n) (hm:B.s.aw.length≤m) (ht:rT tm n m bB) (ho:fT (s.cut n m).av cU)
 (h:Holds B nt tm s act w):Holds B nt bB ⟨cU,(s.cut n m).aw⟩ act w:=by
 obtain⟨M,e,r,hr,h1,h2⟩:=h
 obtain⟨r',le⟩:=(r.cut n m).wk ho
 have e':=e.cut hn hm
 refine⟨M,e'.trans ⟨le,fun _ _ _ _=>rfl,fun o h1 h2=>?_,fun t b c z hl e=> .inl ⟨hl,c,z,e⟩,fun _ _ h=>(h rfl).elim,zag _,rfl,rfl,rfl⟩,r',fun k=>((ht.get k) _ _ _ ((hr k).fg n m)).mono le,h1,h2⟩
 rw[← ho.len]at h2
 exact h1.elim (fun h1=>absurd h2 (Nat.not_lt.2 h1)) fun h1=>(h1 rfl).elim
theorem aY.re {a:AC} {Q:Exit→Tm→St→Prop} {tm:Tm} {s:St} (bB:Tm) (cU:List (List D)) (n m:Nat) (hn:B.s.av.length≤n) (hm:B.s.aw.length≤m) (ht:rT tm n m bB) (ho:fT (s.cut n m).av cU)
 (h:aY P B nt a Q bB ⟨cU,(s.cut n m).aw⟩):aY P B nt a Q tm s:=
 fun c hc act w hh=>h c hc act w (hh.re (Q:=Q) n m hn hm ht ho)
theorem mB.re {a r:AC} {Q:Exit→Tm→St→Prop} {tm:Tm} {s:St} (bB:Tm) (cU:List (List D)) (n m:Nat) (hn:B.s.av.length≤n) (hm:B.s.aw.length≤m) (ht:rT tm n m bB) (ho:fT (s.cut n m).av cU)
 (h:mB P B nt a r Q bB ⟨cU,(s.cut n m).aw⟩):mB P B nt a r Q tm s:=
 fun c rest hc hr act w hh=>h c rest hc hr act w (hh.re (Q:=Q) n m hn hm ht ho)
theorem aY.ind {ι:Type} {a:AC} {Q:Exit→Tm→St→Prop} (I:ι→Prop) (μ:ι→Nat) (TM:ι→Tm) (ST:ι→St)
 (step : ∀ i,I i→(∀ j,I j→μ j<μ i→aY P B nt a Q (TM j) (ST j))→eo P B nt a (eK (aY P B nt a Q) Q) (TM i) (ST i)) : ∀ i,I i→aY P B nt a Q (TM i) (ST i):=by
 have key : ∀ n i,μ i<n→I i→aY P B nt a Q (TM i) (ST i):=by
  intro n
  induction n with
  |zero=>intro i h;exact absurd h (zaG _)
  |succ n ih=>exact fun i h hi=>aY.kF (step i hi fun j hj hF=>ih j (by omega) hj)
 exact fun i hi=>key (μ i+1) i (zaa _) hi
theorem drop_cons {α:Type} {l rest:List α} {k:Nat} {x:α} (h:l.drop k=x::rest):l[k]? = some x∧l.drop (k+1)=rest∧decide ((k:Int)<(l.length:Int))=true∧k<l.length:=by
 have h1:l[k]? = some x:=by
  have:(l.drop k)[0]? = some x:=by rw[h];rfl
  simpa using this
 have h2:=(zae.1 h1).1
 refine⟨h1, ?_,by simpa using h2,h2⟩
 have:l.drop (k+1)=(l.drop k).drop 1:=by rw[List.drop_drop]
 rw[this,h];rfl
theorem drop_nil {α:Type} {l:List α} {k:Nat} (h:l.drop k = []):decide ((k:Int)<(l.length:Int))=false:=by
 have:=zbA.1 h
 simp;omega
theorem aY.ko {a:AC} {Q:Exit→Tm→St→Prop} {tm:Tm} {s:St} (t z':Nat) {z:Nat} (hw:tm.get t = .slice .full z [])
 (h:aY P B nt a Q (tm.set t (.slice (.tok s.aw.length) z' [])) {s with aw:=s.aw++ [some 0]}):aY P B nt a Q tm s:=by
 intro c hc act w ⟨M,e,r,ht,h1,h2⟩
 obtain⟨r',le⟩:=r.blank
 refine h c hc act w ⟨_,yf e le,r',fun k=>?_,h1,h2⟩
 rw[Tm.u6]
 split
 ·rename_i hk;subst hk;have:=ht k;rw[hw]at this;exact this.own
 ·exact(ht k).mono le
theorem aY.qk {a:AC} {Q:Exit→Tm→St→Prop} {tm:Tm} {s:St} (o i z':Nat) {z:Nat} {cs:List D} (hc:s.av[o]? = some cs) (hi:cs[i]? = some (.slice .full z []))
 (h:aY P B nt a Q tm ⟨s.av.set o (cs.set i (.slice (.tok s.aw.length) z' [])),s.aw++ [some 0]⟩):aY P B nt a Q tm s:=by
 intro c Xt act w hh
 obtain⟨M,e,r,ht,h1,h2⟩:=hh
 obtain⟨r',le⟩:=r.blank
 have le':Le M s (M.dX s.aw.length none) ⟨s.av.set o (cs.set i (.slice (.tok s.aw.length) z' [])),s.aw++ [some 0]⟩:=⟨le.G,by simp,le.loc,le.t,le.tk⟩
 have XT:Le (M.dX s.aw.length none) {s with aw:=s.aw++ [some 0]} (M.dX s.aw.length none) ⟨s.av.set o (cs.set i (.slice (.tok s.aw.length) z' [])),s.aw++ [some 0]⟩:=
  ⟨fun _ _ _ h=>h,by simp,fun _ _=> .refl _,zag _,fun t n' _ e=>⟨n',e,zag _,fun _=>rfl⟩⟩
 have r2:Rel (M.dX s.aw.length none) ⟨s.av.set o (cs.set i (.slice (.tok s.aw.length) z' [])),s.aw++ [some 0]⟩ w:=by
  refine⟨r'.comm,fun o' ds e=>?_,fun o ho=>r'.iK o (by simpa using ho),fun o o' ho ky=>r'.inj o o' (by simpa using ho) (by simpa using ky),r'.tok,
   fun t b c z o hv e ho=>r'.dY t b c z o hv e (by simpa using ho),r'.fB⟩
  simp only[zaM]at e
  split at e
  ·rename_i ho
   subst ho
   split at e
   ·cases e
    obtain⟨vs,T,g1,g2,g3,g4⟩:=r.obj o cs hc
    refine⟨vs,T,g1,by simpa using g2,g3,fun j d v e1 e2=>?_⟩
    rw[zaM]at e1
    split at e1
    ·rename_i hj
     subst hj
     split at e1
     ·cases e1
      exact((g4 i _ v hi e2).own (z':=z')).mono XT
     ·cases e1
    ·exact(g4 j d v e1 e2).mono le'
   ·cases e
  ·obtain⟨vs,T,g1,g2,g3,g4⟩:=r'.obj o' ds e
   exact⟨vs,T,g1,g2,g3,fun i d v e1 e2=>(g4 i d v e1 e2).mono XT⟩
 have ee:Ext B.M B.s B.w (M.dX s.aw.length none) ⟨s.av.set o (cs.set i (.slice (.tok s.aw.length) z' [])),s.aw++ [some 0]⟩ w:=by
  refine(yf e le).trans ⟨XT,fun _ _ _ _=>rfl,fun o h1 h2=>?_,fun t b c z hl e=> .inl ⟨hl,c,z,e⟩,fun _ _ h=>(h rfl).elim,zag _,rfl,rfl,rfl⟩
  simp at h2
  exact h1.elim (fun h1=>absurd h2 (Nat.not_lt.2 h1)) fun h1=>(h1 rfl).elim
 exact h c Xt act w ⟨_,ee,r2,fun k=>(ht k).mono le',h1,h2⟩
theorem b9 {ac r:AC} {l:Nat} {Q:Exit→Tm→St→Prop} {tm:Tm} {s:St} (hf:qB ac l=some r) (h:eo P B nt r (ja P B nt ac Q) tm s):ja P B nt ac Q (.goto l) tm s:=⟨r,hf,mB.kF h⟩
theorem Q8 {ac r:AC} {l:Nat} {Q:Exit→Tm→St→Prop} {tm:Tm} {s:St} (hf:qB ac l=some r) (h:mB P B nt ac r Q tm s):ja P B nt ac Q (.goto l) tm s:=⟨r,hf,h⟩
theorem Sem.fY {a b:AC} {Q:Exit→Tm→St→Prop} {tm:Tm} {s:St} (h:eo P B nt a (eK (Sem P B nt b Q) Q) tm s):Sem P B nt (.seq a b) Q tm s:=Sem.seq (gu h)
theorem Sem.re {a:AC} {Q:Exit→Tm→St→Prop} {tm:Tm} {s:St} (bB:Tm) (cU:List (List D)) (n m:Nat) (hn:B.s.av.length≤n) (hm:B.s.aw.length≤m) (ht:rT tm n m bB) (ho:fT (s.cut n m).av cU)
 (h:Sem P B nt a Q bB ⟨cU,(s.cut n m).aw⟩):Sem P B nt a Q tm s:=
 fun c hc act w hh=>h c hc act w (hh.re (Q:=Q) n m hn hm ht ho)
def Has (P:Program) (f nt:Nat) (res:List (Nat×Option (Bool×Nat))) (body:AC):Prop:=∃ fn,P.funcs[f]? = some fn∧cF P fn=some ⟨nt,res,body⟩
structure bK (P:Program) (f:Nat) where
 {nt:Nat}
 {res:List (Nat×Option (Bool×Nat))}
 {body:AC}
 h:Has P f nt res body
theorem Has.of {P:Program} {f nt:Nat} {res:List (Nat×Option (Bool×Nat))} {body:AC} (fn:Func) (h1:P.funcs[f]? = some fn:=by kernel_rfl) (h2:cF P fn=some ⟨nt,res,body⟩:=by conv=>lhs;cbv):Has P f nt res body:=⟨fn,h1,h2⟩
theorem aaT {P:Program} {fn:Func} {nt:Nat} {r:List (Nat×Option (Bool×Nat))} {c:Code} {b:AC} (h0:fn.body=some c) (h1:fn.ntmps=nt) (h2:cC P nt c=some b) (h3:xV P fn.results.toList=some r):cF P fn=some ⟨nt,r,b⟩:=by subst h1;simp only[cF,h0,h2,h3]
theorem XU {P:Program} {nt:Nat} {a b:Code} {a' b':AC} (h1:cC P nt a=some a') (h2:cC P nt b=some b'):cC P nt (.seq a b)=some (.seq a' b'):=by simp only[cC,h1,h2]
theorem Q9 {P:Program} {nt i:Nat} {a:Code} {a':AC} (h1:cC P nt a=some a'):cC P nt (.block i a)=some (.block i a'):=by simp only[cC,h1,zbs]
theorem Vu {P:Program} {nt:Nat} {a:Code} {a':AC} (h1:cC P nt a=some a'):cC P nt (.loop a)=some (.loop a'):=by simp only[cC,h1,zbs]
theorem XV {P:Program} {nt k:Nat} {ops:Array Oper} {is:List AI} {af pt:List (List Nat)} {l:List Nat} {pl:List (Nat×Nat)} (h0:P.follows .mixedOrders=true) (h1:nY P nt ops ops.toList=some is) (h2:ops.toList.map gL=af) (h3:A5 [] af=pt)
 (h4:J5 is pt ((List.range is.length).filter fun i=>gX is i == .core) (List.range is.length) [] = l) (h5:J6 is pt [] l=pl) (h6:A4 is af pt pl=true):cC P nt (.region k ops true)=some (.par is pl):=by
 subst h2 h3 h4 h5
 show(if P.follows .mixedOrders then(nY P nt ops ops.toList).bind (xU · (ops.toList.map gL))else none)=_
 rw[if_pos h0,h1]
 have h7:Kc is (ops.toList.map gL)=some (.par is (FJ is (ops.toList.map gL))):=if_pos h6
 show xU is _=_
 unfold xU
 rw[h7]
 rfl
theorem Vv {P:Program} {nt:Nat} {x:Operand} {x':X} {a b:Code} {a' b':AC} (h0:cX x=some x') (h1:cC P nt a=some a') (h2:cC P nt b=some b'):cC P nt (.cond x a b)=some (.cond x' a' b'):=by simp only[cC,h0,h1,h2]
theorem Has.Uc {P:Program} {f nt:Nat} {res:List (Nat×Option (Bool×Nat))} {body:AC} (fn:Func) (h1:P.funcs[f]? = some fn:=by kernel_rfl) (h2:cF P fn=some ⟨nt,res,body⟩:=by apply aaT;(exact rfl);(conv=>lhs;cbv);rotate_left;(conv=>lhs;cbv);repeat' (first|with_reducible apply XU|(conv=>lhs;cbv)|with_reducible apply Q9|with_reducible apply Vu|with_reducible apply Vv|(with_reducible apply XV;(kernel_rfl);(conv=>lhs;cbv);(conv=>lhs;cbv);(conv=>lhs;cbv);(conv=>lhs;cbv);(conv=>lhs;cbv);kernel_rfl))):Has P f nt res body:=⟨fn,h1,h2⟩
def AC.at:List Nat→AC→Option AC
 | [],a=>some a
 | 0::p, .seq a _=>AC.at p a
 |_::p, .seq _ a=>AC.at p a
 | 0::p, .cond _ a _=>AC.at p a
 |_::p, .cond _ _ a=>AC.at p a
 |_::p, .block _ a=>AC.at p a
 |_::p, .loop a=>AC.at p a
 |_::p, .scope a=>AC.at p a
 |_,_=>none
abbrev AC.sub (p:List Nat) (b:AC) {c:AC} (_:AC.at p b=some c:=by rfl):AC:=c
theorem ay.go {f:FuncId} {res:List (Nat×Option (Bool×Nat))} {body:AC} {args:List D} {s:St} {d:D} {s':St} (h0:Has P f nt res body) (hl:Nat.ble args.length nt=true)
 (h : ∀ (B:ey) (Q:Exit→Tm→St→Prop),B.s=s→gy s.av.length s.aw.length res d s'=Q→eo P B nt body Q (lV 0 args) s):ay P f args s d s':=by
 obtain⟨fn,hf,hc⟩:=h0
 exact ay.intro ⟨fn,hf,hc⟩ (za7 hl) fun B hB=>gu (h B _ hB rfl)
theorem ay.aaU {f:FuncId} {args row ij:List D} {rows kg:List (List D)} {z z' k k':Nat} (h:ay P f (.ptr 0 0:: .slice (.tok 0) z rows::args) ⟨[row],[some k]⟩ (.slice (.tok 0) z' kg) ⟨[ij],[some k']⟩)
 (ha:D.bg 0 0 args=true) (hr:D.bg 0 0 row=true) (FV:D.bg 0 0 ij=true) (hw:D.fu 0 0 rows=true) (N1:D.fu 0 0 kg=true)
 {s:St} {o t:Nat} (ho:s.av[o]? = some row) (ht:s.aw[t]? = some (some k)):ay P f (.ptr o 0:: .slice (.tok t) z rows::args) s (.slice (.tok t) z' kg) ⟨s.av.set o ij,s.aw.set t (some k')⟩:=by
 refine dt.frame [o] [t] h (by simp) (by simp) (by simpa using (zae.1 ho).1) (by simpa using (zae.1 ht).1) rfl (fun i o' ds e1 e2=>?_) rfl (fun i t' e1=>?_)
  (by simp[D.ct,D.bw,Tag.bw,dV _ _ _ ha,ic _ _ _ hw])
  (by simp[D.bg,D.ok,Tag.ok,gp (zar 1) (zar 1) _ ha,kV (zar 1) (zar 1) _ hw]) ?_
 ·cases i with
  |zero=>simp at e1 e2;subst e1;subst e2;exact⟨by rw[dV _ _ _ hr];exact ho,gp (zar 1) (zar 1) _ hr⟩
  |succ i=>simp at e1
 ·cases i with
  |zero=>simp at e1;subst e1;simp[ht]
  |succ i=>simp at e1
 ·rintro _ _ ⟨rfl,rfl⟩
  refine⟨by simp[D.back,D.bw,Tag.bw,gM,ic _ _ _ N1], ?_⟩
  simp[St.back,iS,dV _ _ _ FV]
theorem ay.Lb {f:FuncId} {pre post:List D} {rows kg:List (List D)} {z z' k k':Nat} (h:ay P f (pre++ .slice (.tok 0) z rows::post) ⟨[],[some k]⟩ (.slice (.tok 0) z' kg) ⟨[],[some k']⟩)
 (hp:D.bg 0 0 pre=true) (ha:D.bg 0 0 post=true) (hw:D.fu 0 0 rows=true) (N1:D.fu 0 0 kg=true)
 {s:St} {t:Nat} (ht:s.aw[t]? = some (some k)):ay P f (pre++ .slice (.tok t) z rows::post) s (.slice (.tok t) z' kg) ⟨s.av,s.aw.set t (some k')⟩:=by
 refine dt.frame [] [t] h (by simp) (by simp) (by simp) (by simpa using (zae.1 ht).1) rfl (fun i o' ds e1 e2=>by simp at e1) rfl (fun i t' e1=>?_)
  ?_ ?_ ?_
 ·cases i with
  |zero=>simp at e1;subst e1;simp[ht]
  |succ i=>simp at e1
 ·have h1:=dV [] [t] _ hp
  have h2:=dV [] [t] _ ha
  rw[fb]at h1 h2
  simp[fb,D.bw,Tag.bw,h1,h2,ic _ _ _ hw]
 ·have h1:=gp (n':=0) (m':=1) (zag 0) (zar 1) _ hp
  have h2:=gp (n':=0) (m':=1) (zag 0) (zar 1) _ ha
  rw[pz]at h1 h2 ⊢
  simp only[zaE,zal,List.all_append,h1,zbz,List.all_cons,h2,zbu,D.ok,Tag.ok,kV (zar 0) (zar 1) _ hw]
  rfl
 ·rintro _ _ ⟨rfl,rfl⟩
  refine⟨by simp[D.back,D.bw,Tag.bw,gM,ic _ _ _ N1], ?_⟩
  simp[St.back,iS]
theorem ad8 (A C:Prop) : @CB (.bool true) ⟨A,C⟩=A:=by simp[CB,se]
theorem ad9 (A C:Prop) : @CB (.bool false) ⟨A,C⟩=C:=by simp[CB,se]
theorem XW (b:Bool) (A C:Prop) : @CB (.bool (!b)) ⟨A,C⟩ = @CB (.bool b) ⟨C,A⟩:=by
 cases b<;>simp[CB,se]
theorem Gn {b:Bool} {A C:Prop} (h1:b=true→A) (h2:b=false→C) : @CB (.bool b) ⟨A,C⟩:=⟨h1,h2⟩
theorem XX {b:Bool} {A C:Prop} (h:b=true) (h1:b=true→A) : @CB (.bool b) ⟨A,C⟩:=Gn h1 (fun h'=>by rw[h]at h';cases h')
theorem XY {b:Bool} {A C:Prop} (h:b=false) (h1:b=false→C) : @CB (.bool b) ⟨A,C⟩:=Gn (fun h'=>by rw[h]at h';cases h') h1
theorem aaV {n m:Nat} {res:List (Nat×Option (Bool×Nat))} {d:D} {s':St} {tm:Tm} {s:St} {Q:Exit→Tm→St→Prop} (hQ:gy n m res d s'=Q)
 (h : ∃ l,bt res tm s=some l∧Wk ((bx l).fg n m) d∧fT (s.cut n m).av s'.av∧(s.cut n m).aw=s'.aw):Q .ret tm s:=hQ ▸ h
theorem aaW {n m:Nat} {res:List (Nat×Option (Bool×Nat))} {d:D} {s':St} {tm:Tm} {s:St} {Q:Exit→Tm→St→Prop} (hQ:gy n m res d s'=Q)
 (h : ∃ l,bt res tm s=some l∧Wk ((bx l).fg n m) d∧fT (s.cut n m).av s'.av∧(s.cut n m).aw=s'.aw):Q .normal tm s:=hQ ▸ h
end
attribute [go_sem] QY Vl Vm Vn Vo QZ NY Q1 NZ Q2 N0 Q3 Vp Vq Vr Vs Vt Q4 Q5 Q6 Q7
theorem N2 : ∀ (tm:Tm) (s:St) (x:X),aU (AO.mv x) tm s=some (X.ev tm x,s):=
 fun tm s x=>nd (aU.eq_1 tm s x)
theorem N3 : ∀ (tm:Tm) (s:St) (c a b:X),
 aU (AO.pick c a b) tm s =
  match X.ev tm c with
  |D.bool t=>some (if t=true then X.ev tm a else X.ev tm b,s)
  |x=>none:=
 fun tm s c a b=>nd (aU.eq_2 tm s c a b)
theorem N4 : ∀ (tm:Tm) (s:St) (zero:List D),
 aU (AO.alloc zero) tm s=some (D.ptr s.av.length 0,{av:=s.av++ [zero],aw:=s.aw}):=
 fun tm s zero=>nd (aU.eq_3 tm s zero)
theorem N5 : ∀ (tm:Tm) (s:St) (x:X),
 aU (AO.box x) tm s =
  match (X.ev tm x).row with
  |some r=>some (D.ptr s.av.length 0,{av:=s.av++ [r],aw:=s.aw})
  |none=>none:=
 fun tm s x=>nd (aU.eq_4 tm s x)
theorem N6 : ∀ (tm:Tm) (s:St) (zero:List D) (parts:List (Nat×Nat×X)),
 aU (AO.build zero parts) tm s =
  match pd zero (List.map (fun(p:Nat×Nat×X)=>(p.fst,p.snd.fst,X.ev tm p.snd.snd)) parts)with
  |some cs=>some (D.agg cs,s)
  |none=>none:=
 fun tm s zero parts=>nd (aU.eq_5 tm s zero parts)
theorem N7 : ∀ (tm:Tm) (s:St) (zero:List D) (size n:Nat) (parts:List (Nat×X)),
 aU (AO.mS zero size n parts) tm s =
  match iR size (fC zero n) (List.map (fun(p:Nat×X)=>(p.fst,X.ev tm p.snd)) parts)with
  |some rows=>some (D.slice Tag.full size rows,s)
  |none=>none:=
 fun tm s zero size n parts=>nd (aU.eq_6 tm s zero size n parts)
theorem N8 : ∀ (tm:Tm) (s:St) (zero:List D) (size n:Nat) (parts:List (Nat×X)),
 aU (AO.sv zero size n parts) tm s =
  match iR size (fC zero n) (List.map (fun(p:Nat×X)=>(p.fst,X.ev tm p.snd)) parts)with
  |some rows=>
   some (D.slice (Tag.tok s.aw.length) size rows,{av:=s.av,aw:=s.aw++ [some rows.length]})
  |none=>none:=
 fun tm s zero size n parts=>nd (aU.eq_7 tm s zero size n parts)
theorem N9 : ∀ (tm:Tm) (s:St) (x:X),
 aU (AO.xK x) tm s =
  match X.ev tm x with
  | D.slice (Tag.tok t _) z rows=>
   if rows≠ []∧s.aw[t]? = some (some rows.length)then
    some (D.slice Tag.shared z rows,{av:=s.av,aw:=s.aw.set t none})
   else none
  |x=>none:=
 fun tm s x=>nd (aU.eq_8 tm s x)
theorem Oa : ∀ (tm:Tm) (s:St) (x:X) (agg:Bool) (size:Nat),
 aU (AO.load x agg size) tm s =
  match X.ev tm x with
  | D.ptr o off=>
   match s.av[o]? with
   |some cs=>
    match part cs off agg size with
    |some d=>some (d,s)
    |none=>none
   |none=>none
  |D.dr row off=>
   match part row off agg size with
   |some d=>some (d,s)
   |none=>none
  |x=>v7 x agg size s:=
 fun tm s x agg size=>nd (aU.eq_9 tm s x agg size)
theorem Lc : ∀ (tm:Tm) (s:St) (p x:X) (size:Nat),
 aU (AO.store p x size) tm s =
  match X.ev tm p,(X.ev tm x).row with
  | D.ptr o off,some r=>
   match s.av[o]? with
   | some cs=>
    if r.length=size∧off+size≤cs.length then
     some (D.tuple [],{av:=s.av.set o (eH cs off r),aw:=s.aw})
    else none
   |none=>none
  |x,eJ=>xR x eJ size s:=
 fun tm s p x size=>nd (aU.eq_10 tm s p x size)
theorem Ld : ∀ (tm:Tm) (s:St) (x:X),
 aU (AO.AY x) tm s =
  match X.ev tm x with
  |D.ptr o off=>some (D.ptr o off,s)
  |D.dr row off=>some (D.dr row off,s)
  |x=>match J7 x with|some d=>some (d,s)|none=>none:=
 fun tm s x=>nd (aU.eq_11 tm s x)
theorem Lf : ∀ (tm:Tm) (s:St) (op:BinOp) (x y:X),
 aU (AO.bin op x y) tm s =
  match mz op (X.ev tm x) (X.ev tm y)with
  |some d=>some (d,s)
  |none=>none:=
 fun tm s op x y=>nd (aU.eq_12 tm s op x y)
theorem Lg : ∀ (tm:Tm) (s:St) (neg:Bool) (x y:X),
 aU (AO.FE neg x y) tm s =
  match X.ev tm x,X.ev tm y with
  |D.bool a,D.bool b=>some (D.bool (if neg=true then !a==b else a==b),s)
  |x,eJ=>none:=
 fun tm s neg x y=>nd (aU.eq_13 tm s neg x y)
theorem Lh : ∀ (tm:Tm) (s:St) (neg:Bool) (ks:List Nat) (x y:X),
 aU (AO.eqs neg ks x y) tm s =
  match X.ev tm x,X.ev tm y with
  |D.agg a,D.agg b=>
   match jT ks a b with
   |some e=>some (D.bool (if neg=true then !e else e),s)
   |none=>none
  |x,eJ=>none:=
 fun tm s neg ks x y=>nd (aU.eq_14 tm s neg ks x y)
theorem Li : ∀ (tm:Tm) (s:St) (neg:Bool) (x y:X),
 aU (AO.FF neg x y) tm s =
  match X.ev tm x,X.ev tm y with
  |D.er,D.er=>some (D.bool !neg,s)
  |D.ptr o off,D.er=>some (D.bool neg,s)
  |D.dr row off,D.er=>some (D.bool neg,s)
  |x,eJ=>none:=
 fun tm s neg x y=>nd (aU.eq_15 tm s neg x y)
theorem Lj : ∀ (tm:Tm) (s:St) (op:UnOp) (x:X),
 aU (AO.un op x) tm s =
  match DF op (X.ev tm x)with
  |some d=>some (d,s)
  |none=>none:=
 fun tm s op x=>nd (aU.eq_16 tm s op x)
theorem Lk : ∀ (tm:Tm) (s:St) (k:IntKind) (x:X),
 aU (AO.conv k x) tm s =
  match X.ev tm x with
  |D.int k_1 n=>some (D.int k (k.wrap n),s)
  |x=>none:=
 fun tm s k x=>nd (aU.eq_17 tm s k x)
theorem Ll : ∀ (tm:Tm) (s:St) (x:X),
 aU (AO.AZ x) tm s =
  match X.ev tm x with
  |D.slice g size rows=>
   match mj rows with
   |some b=>some (D.str b,s)
   |none=>none
  |x=>none:=
 fun tm s x=>nd (aU.eq_18 tm s x)
theorem Lm : ∀ (tm:Tm) (s:St) (x:X),
 aU (AO.uV x) tm s =
  match X.ev tm x with
  |D.str l=>some (D.slice Tag.shared 1 (List.map (fun(c:UInt8)=> [D.int IntKind.u8 ↑c.toNat]) l),s)
  |x=>none:=
 fun tm s x=>nd (aU.eq_19 tm s x)
theorem Ln : ∀ (tm:Tm) (s:St) (size:Nat) (x:X) (lo hi:Option X),
 aU (AO.M6 size x lo hi) tm s =
  match X.ev tm x with
  | D.slice g z rows=>
   match tq (Option.map (fun(x:X)=>X.ev tm x) lo),
    tr (Option.map (fun(x:X)=>X.ev tm x) hi) rows.length with
   | some l,some h=>
    if(rows = []∨z=size)∧0≤l∧l≤h∧h≤ ↑rows.length then
     some
      (D.slice (if l=0 then g.cut (decide (h = ↑rows.length))else Tag.shared) z
       (List.drop l.toNat (List.take h.toNat rows)),
       s)
    else none
   |x,eJ=>none
  |x=>match J8 x (Option.map (fun(x:X)=>X.ev tm x) lo) (Option.map (fun(x:X)=>X.ev tm x) hi)with|some d=>some (d,s)|none=>none:=
 fun tm s size x lo hi=>nd (aU.eq_20 tm s size x lo hi)
theorem Lo : ∀ (tm:Tm) (s:St) (x:X) (lo hi:Option X),
 aU (AO.FG x lo hi) tm s =
  match X.ev tm x with
  | D.str t=>
   match tq (Option.map (fun(x:X)=>X.ev tm x) lo),tr (Option.map (fun(x:X)=>X.ev tm x) hi) t.length with
   |some l,some h=>
    if 0≤l∧l≤h∧h≤ ↑t.length then some (D.str (List.drop l.toNat (List.take h.toNat t)),s)else none
   |x,eJ=>none
  |x=>none:=
 fun tm s x lo hi=>nd (aU.eq_21 tm s x lo hi)
theorem Lp : ∀ (tm:Tm) (s:St) (x:X) (off:Nat),
 aU (AO.A0 x off) tm s =
  match X.ev tm x with
  |D.ptr o k=>some (D.ptr o (k+off),s)
  |D.dr row k=>some (D.dr row (k+off),s)
  |x=>match A6 x off with|some d=>some (d,s)|none=>none:=
 fun tm s x off=>nd (aU.eq_22 tm s x off)
theorem Lq : ∀ (tm:Tm) (s:St) (x:X) (off:Nat) (agg:Bool) (size:Nat),
 aU (AO.M7 x off agg size) tm s =
  match X.ev tm x with
  |D.agg cs=>
   match part cs off agg size with
   |some d=>some (d,s)
   |none=>none
  |x=>none:=
 fun tm s x off agg size=>nd (aU.eq_23 tm s x off agg size)
theorem Lr : ∀ (tm:Tm) (s:St) (x i:X) (size:Nat),
 aU (AO.A1 x i size) tm s =
  match X.ev tm x,X.ev tm i with
  | D.slice g z rows,D.int k n=>
   if 0≤n∧z=size then
    match rows[n.toNat]? with
    |some row=>some (D.dr row 0,s)
    |none=>none
   else none
  |x,eJ=>match oe x eJ size with|some d=>some (d,s)|none=>none:=
 fun tm s x i size=>nd (aU.eq_24 tm s x i size)
theorem Ls : ∀ (tm:Tm) (s:St) (x i:X),
 aU (AO.FH x i) tm s =
  match X.ev tm x,X.ev tm i with
  | D.str t,D.int k n=>
   if 0≤n then
    match t[n.toNat]? with
    |some c=>some (D.int IntKind.u8 ↑c.toNat,s)
    |none=>none
   else none
  |x,eJ=>none:=
 fun tm s x i=>nd (aU.eq_25 tm s x i)
theorem Lt : ∀ (tm:Tm) (s:St) (x:X) (i:Nat),
 aU (AO.ext x i) tm s =
  match X.ev tm x with
  |D.tuple ds=>
   match ds[i]? with
   |some d=>some (d,s)
   |none=>none
  |x=>none:=
 fun tm s x i=>nd (aU.eq_26 tm s x i)
theorem Lu : ∀ (tm:Tm) (s:St) (x:X),
 aU (AO.FI x) tm s =
  match X.ev tm x with
  |D.str t=>some (D.int IntKind.i64 ↑t.length,s)
  |x=>none:=
 fun tm s x=>nd (aU.eq_27 tm s x)
theorem Lv : ∀ (tm:Tm) (s:St) (x:X),
 aU (AO.len x) tm s =
  match X.ev tm x with
  |D.slice g size rows=>some (D.int IntKind.i64 ↑rows.length,s)
  |x=>match CK x with|some d=>some (d,s)|none=>none:=
 fun tm s x=>nd (aU.eq_28 tm s x)
theorem Lw : ∀ (tm:Tm) (s:St) (size bytes:Nat) (x y:X),
 aU (AO.app size bytes x y) tm s =
  match X.ev tm x with
  |D.slice g z rows=>gV size bytes (D.slice g z rows) (X.ev tm y) s
  |d=>xS size bytes d (X.ev tm y) s:=
 fun tm s size bytes x y=>nd (aU.eq_29 tm s size bytes x y)
theorem Lx : ∀ (tm:Tm) (s:St) (isMax:Bool) (x y:X),
 aU (AO.mm isMax x y) tm s =
  match X.ev tm x,X.ev tm y with
  |D.int k a,D.int k' b=>
   if k=k' then some (D.int k (if isMax=true then if b > a then b else a else if b<a then b else a),s)
   else none
  |x,eJ=>none:=
 fun tm s isMax x y=>nd (aU.eq_30 tm s isMax x y)
theorem Ly (tm:Tm) (s:St) (r:List D) (T:TypeId):aU (AO.qR (.er::r) T) tm s=some (.ptr s.av.length 0,{av:=s.av++ [.eC T s.av.length::r],aw:=s.aw}):=nd rfl
theorem Lz (tm:Tm) (s:St) (x:X) (T:TypeId):aU (AO.xL x T) tm s =
 match (x.ev tm).row with
 |some (.er::r)=>some (.ptr s.av.length 0,{av:=s.av++ [.eC T s.av.length::r],aw:=s.aw})
 |_=>none:=nd rfl
theorem LA (tm:Tm) (s:St) (x y:X):aU (AO.apps x y) tm s =
 match y.ev tm with
 | .str l=>xQ (x.ev tm) (.slice .shared 1 (l.map fun c=> [.int .u8 c.toNat])) s
 |_=>none:=nd rfl
theorem LB (tm:Tm) (s:St) (x y:X):aU (AO.xM x y) tm s=xQ (x.ev tm) (y.ev tm) s:=nd rfl
theorem LC (tm:Tm) (s:St) (f:Nat) (xs:List X):aU (AO.za f xs) tm s=some (.fL f (xs.map fun x=>x.ev tm),s):=nd rfl
theorem LD (tm:Tm) (s:St):aU AO.tj tm s=some (.fA s.av.length,{av:=s.av++ [[]],aw:=s.aw}):=nd rfl
theorem LF (tm:Tm) (s:St) (m k v:X):aU (AO.xN m k v) tm s =
 match m.ev tm,k.ev tm,v.ev tm with
 | .fA o, .str key, .slice g z rows=>
  match s.av[o]? with
  |some cs=>match uy key (.slice g z rows) cs with|some iF=>some (.tuple [],{av:=s.av.set o iF,aw:=s.aw})|none=>none
  |none=>none
 |_,_,_=>none:=nd rfl
theorem LG (tm:Tm) (s:St) (m k:X) (zero:D):aU (AO.vY m k zero) tm s =
 match m.ev tm,k.ev tm with
 | .fA o, .str key=>
  match s.av[o]? with
  |some cs=>match vZ key zero cs with|some d=>some (d,s)|none=>none
  |none=>none
 |_,_=>none:=nd rfl
theorem LH (tm:Tm) (s:St) (o:FO) (x y:X):aU (AO.tn o x y) tm s=match sx o (x.ev tm) (y.ev tm)with|some d=>some (d,s)|none=>none:=nd rfl
theorem LI (tm:Tm) (s:St) (size bytes:Nat) (zero:List D) (l c:X):aU (AO.xO size bytes zero l c) tm s =
 match l.ev tm,c.ev tm with
 | .int .i64 n, .int .i64 m=>if n=m∧0≤n∧n*((bytes:Int)+1)≤aT then some (.bX size s.av.length 0 n.toNat,{s with av:=s.av++ [.int .i64 ((0:Nat):Int)::(fC zero n.toNat).flatten]})else none
 |_,_=>none:=nd rfl
theorem Gp (o:FO) (x y:X):(AO.tn o x y).core=false:=nd rfl
theorem Gq (size bytes:Nat) (zero:List D) (l c:X):(AO.xO size bytes zero l c).core=true:=nd rfl
theorem Gr (f:Nat) (xs:List X):(AO.za f xs).core=false:=nd rfl
theorem Gs:AO.tj.core=true:=nd rfl
theorem Gt (m k v:X):(AO.xN m k v).core=true:=nd rfl
theorem Gu (m k:X) (zero:D):(AO.vY m k zero).core=false:=nd rfl
theorem Oc (n m f:Nat) (cs:List D):D.fg n m (.fL f cs) = .fL f (D.eI n m cs):=nd (by simp only[D.fg])
theorem Od (n m:Nat) (o:Nat):D.fg n m (.fA o)=if o<n then .fA o else .junk:=nd (by simp only[D.fg])
theorem LJ (d:Option Nat) (g:Option (Nat×Bool)) (t:Nat) (xs:List X):(AI.iY d g t xs).dst=d:=nd rfl
theorem Gv (x y:X):(AO.xM x y).core=true:=nd rfl
theorem Gw (z:List D) (T:TypeId):(AO.qR z T).core=true:=nd rfl
theorem Gx (x:X) (T:TypeId):(AO.xL x T).core=true:=nd rfl
theorem Gy (x y:X):(AO.apps x y).core=true:=nd rfl
theorem Oe (n m:Nat) (v:Value):D.fg n m (.val v) = .val v:=nd (by simp only[D.fg])
theorem Og (n m:Nat) (T:TypeId) (o:Nat):D.fg n m (.eC T o)=if o<n then .eC T o else .junk:=nd (by simp only[D.fg])
theorem Ra : ∀ (tm:Tm) (t:Nat),X.ev tm (X.s t)=tm.get t:=
 fun tm t=>nd (X.ev.eq_1 tm t)
theorem Rb : ∀ (tm:Tm) (d:D),X.ev tm (X.k d)=d:=
 fun tm d=>nd (X.ev.eq_2 tm d)
theorem LK : ∀ (tm:Tm) (d:D) (t:Nat),tm.put (some t) d=tm.set t d:=
 fun tm d t=>nd (Tm.put.eq_1 tm d t)
theorem LL : ∀ (tm:Tm) (d:D),tm.put none d=tm:=
 fun tm d=>nd (Tm.put.eq_2 tm d)
theorem LM : ∀ (x:Nat) (eJ:D),Tm.set [] x eJ = [(x,eJ)]:=
 fun x eJ=>nd (Tm.set.eq_1 x eJ)
theorem LN : ∀ (x:Nat) (eJ:D) (k:Nat) (e:D) (r:List (Nat×D)),
 Tm.set ((k,e)::r) x eJ=if k=x then(k,eJ)::r else(k,e)::Tm.set r x eJ:=
 fun x eJ k e r=>nd (Tm.set.eq_2 x eJ k e r)
theorem LO : ∀ (x:Nat),Tm.get [] x=D.junk:=
 fun x=>nd (Tm.get.eq_1 x)
theorem LP : ∀ (x k:Nat) (d:D) (r:List (Nat×D)),Tm.get ((k,d)::r) x=if k=x then d else Tm.get r x:=
 fun x k d r=>nd (Tm.get.eq_2 x k d r)
theorem Oh : ∀ (x:Nat),lV x [] = []:=
 fun x=>nd (lV.eq_1 x)
theorem Oi : ∀ (x:Nat) (d:D) (r:List D),lV x (d::r)=(x,d)::lV (x+1) r:=
 fun x d r=>nd (lV.eq_2 x d r)
theorem LQ : ∀ (d:Option Nat) (g:Option (Nat×Bool)) (o:AO),(AI.op d g o).dst=d:=
 fun d g o=>nd (AI.dst.eq_1 d g o)
theorem LR : ∀ (d:Option Nat) (g:Option (Nat×Bool)) (f:Nat) (xs:List X),(AI.call d g f xs).dst=d:=
 fun d g f xs=>nd (AI.dst.eq_2 d g f xs)
theorem LS : ∀ (d:Option Nat) (g:Option (Nat×Bool)) (neg:Bool) (eJ:X),(AI.nil d g neg eJ).dst=d:=
 fun d g neg eJ=>nd (AI.dst.eq_3 d g neg eJ)
theorem Rc : ∀ (cs:List D) (off size:Nat),
 part cs off true size=if off+size≤cs.length then some (D.agg (List.take size (List.drop off cs)))else none:=
 fun cs off size=>nd (part.eq_1 cs off size)
theorem Re : ∀ (cs:List D) (off size:Nat),part cs off false size=cs[off]? :=
 fun cs off size=>nd (part.eq_2 cs off size)
theorem LU : ∀ (cs:List D) (off:Nat) (r:List D),
 eH cs off r=List.take off cs++r++List.drop (off+r.length) cs:=
 fun cs off r=>nd (eH.eq_1 cs off r)
theorem Oj : ∀ (cells:List D),pd cells [] = some cells:=
 fun cells=>nd (pd.eq_1 cells)
theorem Ol : ∀ (cells:List D) (off size:Nat) (d:D) (rest:List (Nat×Nat×D)),
 pd cells ((off,size,d)::rest) =
  match d.row with
  |none=>none
  |some r=>if r.length=size∧off+size≤cells.length then pd (eH cells off r) rest else none:=
 fun cells off size d rest=>nd (pd.eq_2 cells off size d rest)
theorem Gz : ∀ (size:Nat) (rows:List (List D)),iR size rows [] = some rows:=
 fun size rows=>nd (iR.eq_1 size rows)
theorem GC : ∀ (size:Nat) (rows:List (List D)) (i:Nat) (d:D) (rest:List (Nat×D)),
 iR size rows ((i,d)::rest) =
  match d.row with
  |none=>none
  |some r=>if r.length=size∧i<rows.length then iR size (rows.set i r) rest else none:=
 fun size rows i d rest=>nd (iR.eq_2 size rows i d rest)
theorem GD : ∀ (zero:List D),fC zero 0 = []:=
 fun zero=>nd (fC.eq_1 zero)
theorem GF : ∀ (zero:List D) (i:Nat),fC zero i.succ=zero::fC zero i:=
 fun zero i=>nd (fC.eq_2 zero i)
theorem Rf : ∀ (op:BinOp) (k:IntKind) (a:Int) (k':IntKind) (b:Int),
 mz op (D.int k a) (D.int k' b)=if k=k' then eQ op k a b else none:=
 fun op k a k' b=>nd (mz.eq_1 op k a k' b)
theorem Rg : ∀ (op:BinOp) (a b:List UInt8),mz op (D.str a) (D.str b)=jz op a b:=
 fun op a b=>nd (mz.eq_2 op a b)
theorem LV : ∀ (k:IntKind) (a b:Int),eQ BinOp.add k a b=some (D.int k (k.wrap (a+b))):=
 fun k a b=>nd (eQ.eq_1 k a b)
theorem LW : ∀ (k:IntKind) (a b:Int),eQ BinOp.sub k a b=some (D.int k (k.wrap (a - b))):=
 fun k a b=>nd (eQ.eq_2 k a b)
theorem LX : ∀ (k:IntKind) (a b:Int),eQ BinOp.mul k a b=some (D.int k (k.wrap (a*b))):=
 fun k a b=>nd (eQ.eq_3 k a b)
theorem LY : ∀ (k:IntKind) (a b:Int),
 eQ BinOp.quo k a b=if b=0 then none else some (D.int k (k.wrap (a.tdiv b))):=
 fun k a b=>nd (eQ.eq_4 k a b)
theorem LZ : ∀ (k:IntKind) (a b:Int),eQ BinOp.rem k a b=if b=0 then none else some (D.int k (a.tmod b)):=
 fun k a b=>nd (eQ.eq_5 k a b)
theorem L0 : ∀ (k:IntKind) (a b:Int),eQ BinOp.eql k a b=some (D.bool (a==b)):=
 fun k a b=>nd (eQ.eq_6 k a b)
theorem L3 : ∀ (k:IntKind) (a b:Int),eQ BinOp.neq k a b=some (D.bool (a != b)):=
 fun k a b=>nd (eQ.eq_7 k a b)
theorem L4 : ∀ (k:IntKind) (a b:Int),eQ BinOp.lss k a b=some (D.bool (decide (a<b))):=
 fun k a b=>nd (eQ.eq_8 k a b)
theorem L5 : ∀ (k:IntKind) (a b:Int),eQ BinOp.leq k a b=some (D.bool (decide (a≤b))):=
 fun k a b=>nd (eQ.eq_9 k a b)
theorem Iq : ∀ (k:IntKind) (a b:Int),eQ BinOp.gtr k a b=some (D.bool (decide (a > b))):=
 fun k a b=>nd (eQ.eq_10 k a b)
theorem Ir : ∀ (k:IntKind) (a b:Int),eQ BinOp.geq k a b=some (D.bool (decide (a≥b))):=
 fun k a b=>nd (eQ.eq_11 k a b)
theorem L6 : ∀ (a b:List UInt8),
 jz BinOp.add a b=if a.length+b.length≤aT then some (D.str (a++b))else none:=
 fun a b=>nd (jz.eq_1 a b)
theorem L7 : ∀ (a b:List UInt8),jz BinOp.eql a b=some (D.bool (a==b)):=
 fun a b=>nd (jz.eq_2 a b)
theorem L8 : ∀ (a b:List UInt8),jz BinOp.neq a b=some (D.bool !a==b):=
 fun a b=>nd (jz.eq_3 a b)
theorem L9 : ∀ (a b:List UInt8),jz BinOp.lss a b=some (D.bool (bytesLess a b)):=
 fun a b=>nd (jz.eq_4 a b)
theorem Is (k:IntKind) (a b:Int):eQ BinOp.and k a b=some (D.int k (W7 k a b)):=nd rfl
theorem Iu (k:IntKind) (a b:Int):eQ BinOp.or k a b=some (D.int k (bOr k a b)):=nd rfl
theorem Iv (k:IntKind) (a b:Int):eQ BinOp.xor k a b=some (D.int k (FK k a b)):=nd rfl
theorem Iw (k:IntKind) (a b:Int):eQ BinOp.shl k a b=if b<0 then none else some (D.int k (W8 k a b)):=nd rfl
theorem Ix (k:IntKind) (a b:Int):eQ BinOp.shr k a b=if b<0 then none else some (D.int k (W9 k a b)):=nd rfl
theorem Vw (k:IntKind) (n:Int):DF UnOp.xor (D.int k n)=some (D.int k (FK k (if k.signed then -1 else k.max) n)):=nd rfl
theorem Vx : ∀ (k:IntKind) (n:Int),DF UnOp.neg (D.int k n)=some (D.int k (k.wrap (0 - n))):=
 fun k n=>nd (DF.eq_1 k n)
theorem Vy : ∀ (b:Bool),DF UnOp.not (D.bool b)=some (D.bool !b):=
 fun b=>nd (DF.eq_2 b)
theorem Ma : ∀ (k:IntKind) (a:Int) (k':IntKind) (b:Int),
 lb 0 (D.int k a) (D.int k' b)=if k=k' then some (a==b)else none:=
 fun k a k' b=>nd (lb.eq_1 k a k' b)
theorem Mb : ∀ (a b:Bool),lb 1 (D.bool a) (D.bool b)=some (a==b):=
 fun a b=>nd (lb.eq_2 a b)
theorem Mc : ∀ (a b:List UInt8),lb 2 (D.str a) (D.str b)=some (a==b):=
 fun a b=>nd (lb.eq_3 a b)
theorem Iy:jT [] [] [] = some true:=
 nd (jT.eq_1)
theorem Iz : ∀ (k:Nat) (ks:List Nat) (Ud:D) (xs:List D) (y:D) (ys:List D),
 jT (k::ks) (Ud::xs) (y::ys) =
  match lb k Ud y with
  |none=>none
  |some true=>jT ks xs ys
  |some false=>some false:=
 fun k ks Ud xs y ys=>nd (jT.eq_2 k ks Ud xs y ys)
theorem Vz:tq none=some 0:=
 nd (tq.eq_1)
theorem VA : ∀ (k:IntKind) (n:Int),tq (some (D.int k n))=some n:=
 fun k n=>nd (tq.eq_2 k n)
theorem VB : ∀ (len:Nat),tr none len=some ↑len:=
 fun len=>nd (tr.eq_1 len)
theorem VC : ∀ (len:Nat) (k:IntKind) (n:Int),tr (some (D.int k n)) len=some n:=
 fun len k n=>nd (tr.eq_2 len k n)
theorem IA : ∀ (zero:List D),(AO.alloc zero).core=true:=
 fun zero=>nd (AO.core.eq_1 zero)
theorem IB : ∀ (eJ:X),(AO.box eJ).core=true:=
 fun eJ=>nd (AO.core.eq_2 eJ)
theorem IC : ∀ (zero:List D) (size n:Nat) (parts:List (Nat×X)),(AO.sv zero size n parts).core=true:=
 fun zero size n parts=>nd (AO.core.eq_3 zero size n parts)
theorem ID : ∀ (eJ:X),(AO.xK eJ).core=true:=
 fun eJ=>nd (AO.core.eq_4 eJ)
theorem IE : ∀ (p eJ:X) (size:Nat),(AO.store p eJ size).core=true:=
 fun p eJ size=>nd (AO.core.eq_5 p eJ size)
theorem IF : ∀ (size bytes:Nat) (eJ y:X),(AO.app size bytes eJ y).core=true:=
 fun size bytes eJ y=>nd (AO.core.eq_6 size bytes eJ y)
theorem IG : ∀ (val:Nat) (zero:List D),(AI.op (some val) none (AO.alloc zero)).kind=AK.alloc:=
 fun val zero=>nd (AI.kind.eq_1 val zero)
theorem II : ∀ (zero:List D),(AO.alloc zero).kind=AK.core:=
 fun zero=>nd (AO.kind.eq_1 zero)
theorem IJ : ∀ (eJ:X),(AO.box eJ).kind=AK.core:=
 fun eJ=>nd (AO.kind.eq_2 eJ)
theorem IK : ∀ (zero:List D) (size n:Nat) (parts:List (Nat×X)),(AO.sv zero size n parts).kind=AK.core:=
 fun zero size n parts=>nd (AO.kind.eq_3 zero size n parts)
theorem IL : ∀ (eJ:X),(AO.xK eJ).kind=AK.core:=
 fun eJ=>nd (AO.kind.eq_4 eJ)
theorem IM : ∀ (p eJ:X) (size:Nat),(AO.store p eJ size).kind=AK.core:=
 fun p eJ size=>nd (AO.kind.eq_5 p eJ size)
theorem IN : ∀ (size bytes:Nat) (eJ y:X),(AO.app size bytes eJ y).kind=AK.core:=
 fun size bytes eJ y=>nd (AO.kind.eq_6 size bytes eJ y)
theorem IP : ∀ (eJ:X) (agg:Bool) (size:Nat),(AO.load eJ agg size).kind=AK.load:=
 fun _ _ _=>nd rfl
theorem Md:gd AK.core=true:=
 nd (gd.eq_1)
theorem Me:gd AK.alloc=true:=
 nd (gd.eq_2)
theorem Mf : ∀ (i:AI) (tm:Tm) (d:D),ma i tm d [] = True:=
 fun i tm d=>nd (ma.eq_1 i tm d)
theorem Mg : ∀ (i:AI) (tm:Tm) (d:D) (s:St) (r:List St),
 ma i tm d (s::r)=(iQ i tm s=some d∧ma i tm d r):=
 fun i tm d s r=>nd (ma.eq_2 i tm d s r)
theorem VD : ∀ (tm:Tm) (s:St) (dst:Option Nat) (o:AO),
 iQ (AI.op dst none o) tm s=Option.map (fun(x:D×St)=>x.fst) (aU o tm s):=
 fun tm s dst o=>nd (iQ.eq_1 tm s dst o)
theorem VE : ∀ (tm:Tm) (s:St) (dst:Option Nat) (t:Nat) (want:Bool) (o:AO),
 iQ (AI.op dst (some (t,want)) o) tm s =
  match tm.get t with
  |D.bool b=>if b=want then Option.map (fun(x:D×St)=>x.fst) (aU o tm s)else some (D.tuple [])
  |D.tuple vs=>some (D.tuple [])
  |x=>none:=
 fun tm s dst t want o=>nd (iQ.eq_2 tm s dst t want o)
theorem IQ : ∀ (is:List AI),lj is [] = some []:=
 fun is=>nd (lj.eq_1 is)
theorem IS : ∀ (is:List AI) (q b:Nat) (r:List (Nat×Nat)),
 lj is ((q,b)::r) =
  match is[q]?,lj is r with
  |some ai,some l=>some ((ai,b)::l)
  |x,eJ=>none:=
 fun is q b r=>nd (lj.eq_2 is q b r)
theorem VF : ∀ (tm:Tm) (n m:Nat),rT tm n m [] = True:=
 fun tm n m=>nd (rT.eq_1 tm n m)
theorem VG : ∀ (tm:Tm) (n m k:Nat) (d:D) (r:List (Nat×D)),
 rT tm n m ((k,d)::r)=(Wk (D.fg n m (tm.get k)) d∧rT tm n m r):=
 fun tm n m k d r=>nd (rT.eq_2 tm n m k d r)
theorem Rh : ∀ (n m o off:Nat),D.fg n m (D.ptr o off)=if o<n then D.ptr o off else D.junk:=
 fun n m o off=>nd (D.fg.eq_1 n m o off)
theorem Ri : ∀ (n m:Nat) (row:List D) (off:Nat),D.fg n m (D.dr row off)=D.dr (D.eI n m row) off:=
 fun n m row off=>nd (D.fg.eq_2 n m row off)
theorem Rj : ∀ (n m:Nat) (g:Tag) (z:Nat) (rows:List (List D)),
 D.fg n m (D.slice g z rows)=D.slice (Tag.fg m g) z (D.iI n m rows):=
 fun n m g z rows=>nd (D.fg.eq_3 n m g z rows)
theorem Rk : ∀ (n m:Nat) (cs:List D),D.fg n m (D.agg cs)=D.agg (D.eI n m cs):=
 fun n m cs=>nd (D.fg.eq_4 n m cs)
theorem Rl : ∀ (n m:Nat) (ds:List D),D.fg n m (D.tuple ds)=D.tuple (D.eI n m ds):=
 fun n m ds=>nd (D.fg.eq_5 n m ds)
theorem Rm : ∀ (n m:Nat),D.fg n m D.junk=D.junk:=
 fun n m=>nd (D.fg.eq_6 n m)
theorem Rn : ∀ (n m:Nat) (k:IntKind) (eJ:Int),D.fg n m (D.int k eJ)=D.int k eJ:=
 fun n m k eJ=>nd (D.fg.eq_7 n m k eJ)
theorem Ro : ∀ (n m:Nat) (b:Bool),D.fg n m (D.bool b)=D.bool b:=
 fun n m b=>nd (D.fg.eq_8 n m b)
theorem Rp : ∀ (n m:Nat) (l:List UInt8),D.fg n m (D.str l)=D.str l:=
 fun n m l=>nd (D.fg.eq_9 n m l)
theorem Om : ∀ (n m:Nat),D.fg n m D.er=D.er:=
 fun n m=>nd (D.fg.eq_10 n m)
theorem On : ∀ (n m:Nat),D.eI n m [] = []:=
 fun n m=>nd (D.eI.eq_1 n m)
theorem Oo : ∀ (n m:Nat) (d:D) (r:List D),D.eI n m (d::r)=D.fg n m d::D.eI n m r:=
 fun n m d r=>nd (D.eI.eq_2 n m d r)
theorem Oq : ∀ (n m:Nat),D.iI n m [] = []:=
 fun n m=>nd (D.iI.eq_1 n m)
theorem Ot : ∀ (n m:Nat) (d:List D) (r:List (List D)),D.iI n m (d::r)=D.eI n m d::D.iI n m r:=
 fun n m d r=>nd (D.iI.eq_2 n m d r)
theorem Mh : ∀ (m t:Nat) (y:Bool),Tag.fg m (Tag.tok t y)=if t<m then Tag.tok t y else Tag.shared:=
 fun _ _ _=>nd rfl
theorem Mi : ∀ (s:St) (n m:Nat),
 s.cut n m = {av:=List.map (D.eI n m) (List.take n s.av),aw:=List.take m s.aw}:=
 fun s n m=>nd (St.cut.eq_1 s n m)
theorem Rq : ∀ (d:D),bx [d] = d:=
 fun d=>nd (bx.eq_1 d)
theorem Rr (size bytes t:Nat) (rows:List (List D)) (g:Tag) (r:List D) (s:St):gV size bytes (.slice (.tok t) size rows) (.slice g size [r]) s =
 if(rows.length+1)*(bytes+1)≤aT∧s.aw[t]? = some (some rows.length)then some (.slice (.tok t) size (rows++ [r]),⟨s.av,s.aw.set t (some (rows.length+1))⟩)else none:=by
 simp only[gV,List.length_singleton]
 by_cases h1:(rows.length+1)*(bytes+1)≤aT<;>by_cases h2:s.aw[t]? = some (some rows.length)<;>simp[h1,h2]
theorem Rs {size bytes t:Nat} {rows new:List (List D)} {g:Tag} {s:St} (h1:(rows.length+new.length)*(bytes+1)≤aT) (h2:s.aw[t]? = some (some rows.length)) :
 gV size bytes (.slice (.tok t) size rows) (.slice g size new) s=some (.slice (.tok t) size (rows++new),⟨s.av,s.aw.set t (some (rows.length+new.length))⟩):=by
 cases new with
 | nil=>
  have:s.aw.set t (some rows.length)=s.aw:=by
   apply List.ext_getElem?
   intro i
   rw[zaM]
   split
   ·rename_i hi;subst hi;rw[h2,if_pos (zae.1 h2).1]
   ·rfl
  simp only[zaE,za4]at h1
  simp[gV,h1,this]
 |cons x l=>
  simp only[gV,h1,h2]
  simp
theorem Ou (size bytes z:Nat) (g:Tag) (r:List D) (s:St):gV size bytes (.slice .full z []) (.slice g size [r]) s =
 if bytes+1≤aT then some (.slice (.tok s.aw.length) size [r],⟨s.av,s.aw++ [some 1]⟩)else none:=by
 simp[gV]
theorem VH {P:Program} {B:ey} {nt:Nat} (ac:AC) (Q:Exit→Tm→St→Prop) (tm:Tm) (s:St):ja P B nt ac Q .normal tm s=Q .normal tm s:=nd rfl
theorem VI {P:Program} {B:ey} {nt:Nat} (ac:AC) (Q:Exit→Tm→St→Prop) (tm:Tm) (s:St):ja P B nt ac Q .ret tm s=Q .ret tm s:=nd rfl
theorem VJ {P:Program} {B:ey} {nt:Nat} (ac:AC) (Q:Exit→Tm→St→Prop) (tm:Tm) (s:St) (i:Nat):ja P B nt ac Q (.exit i) tm s=Q (.exit i) tm s:=nd rfl
theorem VK (m:Nat):Tag.fg m .full = .full:=nd rfl
theorem Ov (m:Nat):Tag.fg m .shared = .shared:=nd rfl
theorem aaX {P:Program} (K:Tm→St→Prop) (tm:Tm) (s:St):jf P [] K tm s=K tm s:=nd rfl
theorem s_op {P:Program} (dst:Option Nat) (o:AO) (r:List AI) (K:Tm→St→Prop) (tm:Tm) (s:St) :
 jf P (.op dst none o::r) K tm s=(match aU o tm s with|some (d,s')=>jf P r K (tm.put dst d) s'|none=>False):=nd rfl
def KJ (P:Program) (r:List AI) (K:Tm→St→Prop) (tm:Tm) (dst:Option Nat) (d:D) (s:St):Prop:=jf P r K (tm.put dst d) s
theorem aeb {P:Program} (r:List AI) (K:Tm→St→Prop) (tm:Tm) (dst:Option Nat) (d:D) (s:St):KJ P r K tm dst d s=jf P r K (tm.put dst d) s:=nd rfl
theorem s_call {P:Program} (dst:Option Nat) (f:Nat) (xs:List X) (r:List AI) (K:Tm→St→Prop) (tm:Tm) (s:St) :
 jf P (.call dst none f xs::r) K tm s=CL false P f (xs.map (·.ev tm)) s (KJ P r K tm dst):=nd rfl
def NJ (P:Program) (dst:Option Nat) (neg:Bool) (x:D) (r:List AI) (K:Tm→St→Prop) (tm:Tm) (s:St):Prop:=
 match x with
 | .slice _ _ rows=>∀ b:Bool,(rows≠ []→b=false)→jf P r K (tm.put dst (.bool (if neg then !b else b))) s
 |_=>False
theorem XZ {P:Program} (dst:Option Nat) (neg:Bool) (x:X) (r:List AI) (K:Tm→St→Prop) (tm:Tm) (s:St) :
 jf P (.nil dst none neg x::r) K tm s=NJ P dst neg (x.ev tm) r K tm s:=nd rfl
theorem VL {P:Program} (dst:Option Nat) (neg:Bool) (g:Tag) (z:Nat) (d:List D) (l:List (List D)) (r:List AI) (K:Tm→St→Prop) (tm:Tm) (s:St) :
 NJ P dst neg (.slice g z (d::l)) r K tm s=jf P r K (tm.put dst (.bool neg)) s:=by
 simp only[NJ,ne_eq,reduceCtorEq,not_false_eq_true,true_imp_iff,eq_iff_iff]
 refine⟨fun h=>by have:=h false rfl;cases neg<;>exact this,fun h b hb=>?_⟩
 subst hb;cases neg<;>exact h
theorem GG {P:Program} {dst:Option Nat} {neg:Bool} {g:Tag} {z:Nat} {l:List (List D)} {r:List AI} {K:Tm→St→Prop} {tm:Tm} {s:St}
 (h1:l = []→jf P r K (tm.put dst (.bool (!neg))) s) (h2:jf P r K (tm.put dst (.bool neg)) s):NJ P dst neg (.slice g z l) r K tm s:=by
 intro b hb
 cases b with
 |false=>cases neg<;>exact h2
 |true=>
  have:l = []:=Decidable.byContradiction fun h=>by cases hb h
  cases neg<;>exact h1 this
theorem aaZ {P:Program} (dst:Option Nat) (t:Nat) (w:Bool) (o:AO) (r:List AI) (K:Tm→St→Prop) (tm:Tm) (s:St) :
 jf P (.op dst (some (t,w)) o::r) K tm s = @GB (tm.get t) w ⟨(jf P (.op dst none o::r) K tm s),(jf P r K (tm.put dst (.tuple [])) s)⟩:=nd rfl
def CV (P:Program) (x:D) (aa0:List D) (s:St) (K:D→St→Prop):Prop:=
 match x with
 | .fL f lO=>enters P f=true∧CL false P f (aa0++lO) s K
 |_=>False
theorem VM {P:Program} (dst:Option Nat) (t:Nat) (xs:List X) (r:List AI) (K:Tm→St→Prop) (tm:Tm) (s:St) :
 jf P (.iY dst none t xs::r) K tm s=CV P (tm.get t) (xs.map (·.ev tm)) s (KJ P r K tm dst):=nd rfl
theorem CV.use {P:Program} {f:Nat} {lO aa0:List D} {s s':St} {d:D} {K:D→St→Prop} (he:enters P f=true) (h:ay P f (aa0++lO) s d s') (k:K d s'):CV P (.fL f lO) aa0 s K:=⟨he,CU h k⟩
theorem Rt {P:Program} (dst:Option Nat) (t:Nat) (w:Bool) (u:Nat) (xs:List X) (r:List AI) (K:Tm→St→Prop) (tm:Tm) (s:St) :
 jf P (.iY dst (some (t,w)) u xs::r) K tm s = @GB (tm.get t) w ⟨(jf P (.iY dst none u xs::r) K tm s),(jf P r K (tm.put dst (.tuple [])) s)⟩:=nd rfl
theorem VN {P:Program} (dst:Option Nat) (t:Nat) (w:Bool) (f:Nat) (xs:List X) (r:List AI) (K:Tm→St→Prop) (tm:Tm) (s:St) :
 jf P (.call dst (some (t,w)) f xs::r) K tm s = @GB (tm.get t) w ⟨(jf P (.call dst none f xs::r) K tm s),(jf P r K (tm.put dst (.tuple [])) s)⟩:=nd rfl
theorem X1 {P:Program} (dst:Option Nat) (t:Nat) (w:Bool) (neg:Bool) (x:X) (r:List AI) (K:Tm→St→Prop) (tm:Tm) (s:St) :
 jf P (.nil dst (some (t,w)) neg x::r) K tm s = @GB (tm.get t) w ⟨(jf P (.nil dst none neg x::r) K tm s),(jf P r K (tm.put dst (.tuple [])) s)⟩:=nd rfl
theorem aec (b:Bool) (A C:Prop) : @GB (.bool b) true ⟨A,C⟩ = @CB (.bool b) ⟨A,C⟩:=nd rfl
theorem aed (b:Bool) (A C:Prop) : @GB (.bool b) false ⟨A,C⟩ = @CB (.bool b) ⟨C,A⟩:=by
 cases b<;>simp[GB,CB,GJ,se]
theorem aee (l:List D) (w:Bool) (A C:Prop) : @GB (.tuple l) w ⟨A,C⟩=C:=nd rfl
theorem aa1 {P:Program} {K:Tm→St→Prop} (bJ:List St) (tm:Tm) (s:St):fN P K [] bJ tm s=K tm s:=nd rfl
def OJ (P:Program) (o:AO) (dst:Option Nat) (b:Nat) (r:List (AI×Nat)) (K:Tm→St→Prop) (bJ:List St) (tm:Tm) (s:St):Bool→Prop
 |true=>match aU o tm s with|some (d,s')=>fN P K r (s::bJ) (tm.put dst d) s'|none=>False
 |false=>match aU o tm s with|some (d,_)=>ma (.op dst none o) tm d (bJ.take b)∧fN P K r bJ (tm.put dst d) s|none=>False
theorem aeg {P:Program} {K:Tm→St→Prop} (dst:Option Nat) (o:AO) (b:Nat) (r:List (AI×Nat)) (bJ:List St) (tm:Tm) (s:St) :
 fN P K ((.op dst none o,b)::r) bJ tm s=OJ P o dst b r K bJ tm s o.core:=by
 simp only[fN,lk]
 cases o.core<;>rfl
theorem aeh {P:Program} (o:AO) (dst:Option Nat) (b:Nat) (r:List (AI×Nat)) (K:Tm→St→Prop) (bJ:List St) (tm:Tm) (s:St) :
 OJ P o dst b r K bJ tm s true=match aU o tm s with|some (d,s')=>fN P K r (s::bJ) (tm.put dst d) s'|none=>False:=nd rfl
theorem aei {P:Program} (o:AO) (dst:Option Nat) (b:Nat) (r:List (AI×Nat)) (K:Tm→St→Prop) (bJ:List St) (tm:Tm) (s:St) :
 OJ P o dst b r K bJ tm s false=match aU o tm s with|some (d,_)=>ma (.op dst none o) tm d (bJ.take b)∧fN P K r bJ (tm.put dst d) s|none=>False:=nd rfl
theorem aa2 {P:Program} {K:Tm→St→Prop} (dst:Option Nat) (t:Nat) (w:Bool) (o:AO) (b:Nat) (r:List (AI×Nat)) (bJ:List St) (tm:Tm) (s:St) :
 fN P K ((.op dst (some (t,w)) o,b)::r) bJ tm s = @GB (tm.get t) w ⟨(fN P K ((.op dst none o,b)::r) bJ tm s),(fN P K r (if o.core then s::bJ else bJ) (tm.put dst (.tuple [])) s)⟩:=by
 simp only[GB,fN,lk]
 cases o.core<;>rfl
def KG (P:Program) (K:Tm→St→Prop) (r:List (AI×Nat)) (bJ:List St) (tm:Tm) (dst:Option Nat) (d:D) (s:St):Prop:=fN P K r bJ (tm.put dst d) s
theorem aej {P:Program} (K:Tm→St→Prop) (r:List (AI×Nat)) (bJ:List St) (tm:Tm) (dst:Option Nat) (d:D) (s:St):KG P K r bJ tm dst d s=fN P K r bJ (tm.put dst d) s:=nd rfl
theorem g_call {P:Program} {K:Tm→St→Prop} (dst:Option Nat) (f:Nat) (xs:List X) (b:Nat) (r:List (AI×Nat)) (bJ:List St) (tm:Tm) (s:St) :
 fN P K ((.call dst none f xs,b)::r) bJ tm s=CL true P f (xs.map (·.ev tm)) s (KG P K r (s::bJ) tm dst):=nd rfl
theorem VO {P:Program} {K:Tm→St→Prop} (dst:Option Nat) (t:Nat) (w:Bool) (f:Nat) (xs:List X) (b:Nat) (r:List (AI×Nat)) (bJ:List St) (tm:Tm) (s:St) :
 fN P K ((.call dst (some (t,w)) f xs,b)::r) bJ tm s = @GB (tm.get t) w ⟨(fN P K ((.call dst none f xs,b)::r) bJ tm s),(fN P K r (s::bJ) (tm.put dst (.tuple [])) s)⟩:=nd rfl
class Ok (p:Prop):Prop where
 out:p
instance:Ok True:=⟨trivial⟩
instance {p q:Prop} [Ok p] [Ok q] : Ok (p∧q):=⟨⟨Ok.out,Ok.out⟩⟩
instance {α:Type} (a:α):Ok (a=a):=⟨rfl⟩
instance (d:D):Ok (Wk d .junk):=⟨Wk.junk d⟩
instance {l l':List D} [Ok (gw l l')] : Ok (Wk (.tuple l) (.tuple l')):=⟨Wk.tuple Ok.out⟩
instance {l l':List D} [Ok (gw l l')] : Ok (Wk (.agg l) (.agg l')):=⟨Wk.agg Ok.out⟩
instance {g:Tag} {z:Nat} {l l':List (List D)} [Ok (fT l l')] : Ok (Wk (.slice g z l) (.slice g z l')):=⟨Wk.rows Ok.out⟩
instance {g:Tag} {z:Nat} {l l':List (List D)} [Ok (fT l l')] : Ok (Wk (.slice g z l) (.slice .shared z l')):=⟨Wk.slice Ok.out⟩
instance (z z':Nat):Ok (Wk (.slice .full z []) (.slice .full z' [])):=⟨Wk.ad2 z z'⟩
instance (g:Tag) (z z':Nat):Ok (Wk (.slice g z []) (.slice .shared z' [])):=⟨Wk.nil g z z'⟩
instance (d:D):Ok (Wk d d):=⟨Wk.refl d⟩
instance:Ok (gw [] []):=⟨.nil⟩
instance {d d':D} {l l':List D} [Ok (Wk d d')] [Ok (gw l l')] : Ok (gw (d::l) (d'::l')):=⟨.cons Ok.out Ok.out⟩
instance (l:List D):Ok (gw l l):=⟨gw.refl l⟩
instance:Ok (fT [] []):=⟨.nil⟩
instance {d d':List D} {l l':List (List D)} [Ok (gw d d')] [Ok (fT l l')] : Ok (fT (d::l) (d'::l')):=⟨.cons Ok.out Ok.out⟩
instance {a a' b b':List (List D)} [Ok (fT a a')] [Ok (fT b b')] : Ok (fT (a++b) (a'++b')):=⟨fT.append Ok.out Ok.out⟩
instance (l:List (List D)):Ok (fT l l):=⟨fT.refl l⟩
theorem bs:(∀ b,(true ||b)=true)∧(∀ b,(false ||b)=b)∧(∀ b,(b ||true)=true)∧(∀ b,(b ||false)=b)∧(∀ b,(true && b)=b)∧(∀ b,(false && b)=false)∧(∀ b,(b && true)=b)∧(∀ b,(b && false)=false)∧
 (!true)=false∧(!false)=true∧(∀ b,(!!b)=b)∧((false=true)=False)∧(∀ (α β:Type) (a:α) (f:α→Option β),(some a).bind f=f a)∧
 (∀ (α β γ:Type) (x:Option α) (f:α→Option β) (g:β→Option γ),(x.bind f).bind g=x.bind fun y=>(f y).bind g):=
 ⟨za8,za1,Bool.or_true,Bool.or_false,zbz,zbi,zbu,Bool.and_false,rfl,rfl,Bool.not_not,by simp,fun _ _ _ _=>rfl,fun _ _ _ x f g=>Option.bind_assoc x f g⟩
attribute [go_sem] XW ad8 ad9 aaX s_op aeb s_call XZ VL aaZ VN X1 aec aed aee aa1 aeg aeh aei aa2 aej g_call VO AO.core AI.kind AO.kind gd
attribute [go_sem] LH LI Gp Gq VM Rt LC LD LF LG Gr Gs Gt Gu Oc Od LJ Vh QV
attribute [go_sem] LB Gv Ly Lz LA Gw Gx Gy Oe Og Vg NU Vc QS Vd QT Ve QU NT Vf QW K9 QX
attribute [go_sem] N2 N3 N4 N5 N6 N7 N8 N9 Oa Lc Ld Lf Lg Lh Li Lj Lk Ll Lm Ln Lo Lp Lq Lr Ls Lt Lu Lv Lw Lx Ra Rb LK LL LM LN LO LP Oh Oi LQ LR LS Rc Re LU Oj Ol Gz GC GD GF Rf Rg LV LW LX LY LZ L0 L3 L4 L5 Iq Ir Is Iu Iv Iw Ix Vw L6 L7 L8 L9 Vx Vy Ma Mb Mc Iy Iz Vz VA VB VC IA IB IC ID IE IF IG II IJ IK IL IM IN IP Md Me Mf Mg VD VE IQ IS VF VG Rh Ri Rj Rk Rl Rm Rn Ro Rp Om On Oo Oq Ot Mh Mi Rq Rr Ou VK Ov VH VI VJ
attribute [go_sem] zaf zaj zaK zaW zal zaE List.set_cons_zero List.set_cons_succ List.take_succ_cons List.take_zero List.take_nil List.drop_succ_cons List.drop_zero List.drop_nil zaJ zaR zaA za6 za4 zbs zby
attribute [go_sem] zaB zax zat zap Int.toNat_natCast Int.natCast_nonneg Int.toNat_zero and_self and_true true_and
attribute [go_sem_proc ↓] reduceIte
attribute [go_sem_proc] Int.reduceLE reduceCtorEq Nat.reduceEqDiff Nat.reduceLeDiff Nat.reduceAdd Nat.reduceMul Nat.reduceSub Nat.reduceLT
theorem bj {b:Bool} {A C:Prop} (h1:b=true→A) (h:b=true:=by assumption) : @CB (.bool b) ⟨A,C⟩:=XX h h1
theorem bk {b:Bool} {A C:Prop} (h1:b=false→C) (h:b=false:=by assumption) : @CB (.bool b) ⟨A,C⟩:=XY h h1
theorem bl {b:Bool} {A C:Prop} (h1:b=true→A) (h2:b=false→C) : @CB (.bool b) ⟨A,C⟩:=⟨h1,h2⟩
theorem dZ {a b:Prop} (x:a) (y:b):a∧b:=⟨x,y⟩
theorem bY {α:Type _} (a b:α):(some a=some b)=(a=b):=Option.some.injEq a b
theorem bZ {α:Sort _} {p:α→Prop} {a:α} : (∃ x,a=x∧p x)↔p a:=exists_eq_left'
theorem im {n m:Nat} (h:Nat.ble n m=true):n≤m:=za7 h
theorem az {n m:Nat} {res:List (Nat×Option (Bool×Nat))} {d:D} {s':St} {e:Exit} {tm:Tm} {s:St} {Q:Exit→Tm→St→Prop} (hQ:gy n m res d s'=Q) (h : ∃ l,bt res tm s=some l∧Wk ((bx l).fg n m) d∧fT (s.cut n m).av s'.av∧(s.cut n m).aw=s'.aw) (he:e = .ret∨e = .normal:=by first|exact .inl rfl|exact .inr rfl):Q e tm s:=by cases he with|inl x=>cases x;exact aaV hQ h|inr x=>cases x;exact aaW hQ h
theorem cB {p:Prop} (h:p:=by repeat' (first|exact Ok.out|with_reducible refine dZ ?_ ?_|(simp;done))):p:=h
theorem bd {p:Prop} (h:p:=by repeat' (first|exact Ok.out|with_reducible refine dZ ?_ ?_)):p:=h
theorem dv {p:Prop} (h:p:=by(try cases h);simp only[bt,bx,bY,bZ,go_sem,hF,hP,hZ,gA];repeat' (first|exact Ok.out|with_reducible refine dZ ?_ ?_|(simp;done))):p:=h
theorem aR {p:Prop} (h:p:=by simp only[bt,bx,bY,bZ,go_sem,hF,hP,hZ,gA];repeat' (first|exact Ok.out|with_reducible refine dZ ?_ ?_|(simp;done))):p:=h
theorem lX_ {p:Prop} (h:p:=by simp only[go_sem,hF,hP,hZ,gA];repeat' (first|exact Ok.out|with_reducible refine dZ ?_ ?_)):p:=h
theorem cr {P:Program} {B:ey} {nt:Nat} {a:AC} {Q:Exit→Tm→St→Prop} {tm bB:Tm} {s:St} {cU:List (List D)} (n m:Nat) (h:aY P B nt a Q bB ⟨cU,(s.cut n m).aw⟩) (hn:B.s.av.length≤n:=by rw[hB];exact im rfl) (hm:B.s.aw.length≤m:=by rw[hB];exact im rfl) (ht:rT tm n m bB:=by exact lX_) (ho:fT (s.cut n m).av cU:=by exact lX_):aY P B nt a Q tm s:=aY.re bB cU n m hn hm ht ho h
theorem cD {P:Program} {B:ey} {nt:Nat} {a:AC} {Q:Exit→Tm→St→Prop} {tm bB:Tm} {s:St} {cU:List (List D)} (n m:Nat) (ht:rT tm n m bB) (ho:fT (s.cut n m).av cU) (h:aY P B nt a Q bB ⟨cU,(s.cut n m).aw⟩) (hn:B.s.av.length≤n:=by rw[hB];exact im rfl) (hm:B.s.aw.length≤m:=by rw[hB];exact im rfl):aY P B nt a Q tm s:=aY.re bB cU n m hn hm ht ho h
theorem bD:0<1∧0<1∧0<1∧0<1:=⟨zaS,zaS,zaS,zaS⟩
end Go.Abs
namespace Go.Abs
mutual
theorem Bo (n m:Nat) : ∀ d,D.ok 0 0 d=true→D.fg n m d=d
 | .junk,_=>by simp[D.fg]
 | .int k n,_=>by simp[D.fg]
 | .bool b,_=>by simp[D.fg]
 | .str l,_=>by simp[D.fg]
 | .er,_=>by simp[D.fg]
 | .val v,_=>by simp[D.fg]
 | .dj z,_=>by simp[D.fg]
 | .eC T o,h=>by simp[D.ok]at h
 | .fA o,h=>by simp[D.ok]at h
 | .fL f cs,h=>by
  simp only[D.ok]at h
  simp only[D.fg,fU n m cs h]
 | .ptr o f,h=>by simp[D.ok]at h
 | .dr r f,h=>by
  simp only[D.ok]at h
  simp only[D.fg,fU n m r h]
 | .slice g z rows,h=>by
  simp only[D.ok,zam]at h
  simp only[D.fg,rh n m rows h.2]
  cases g with
  |tok t y=>simp[Tag.ok]at h
  |full=>rfl
  |shared=>rfl
 | .agg cs,h=>by
  simp only[D.ok]at h
  simp only[D.fg,fU n m cs h]
 | .tuple cs,h=>by
  simp only[D.ok]at h
  simp only[D.fg,fU n m cs h]
theorem fU (n m:Nat) : ∀ l,D.bg 0 0 l=true→D.eI n m l=l
 | [],_=>by simp[D.eI]
 |d::r,h=>by
  simp only[D.bg,zam]at h
  simp only[D.eI,Bo n m d h.1,fU n m r h.2]
theorem rh (n m:Nat) : ∀ l,D.fu 0 0 l=true→D.iI n m l=l
 | [],_=>by simp[D.iI]
 |d::r,h=>by
  simp only[D.fu,zam]at h
  simp only[D.iI,fU n m d h.1,rh n m r h.2]
end
theorem gl {α:Type} {f:α→List D} (h : ∀ x,D.bg 0 0 (f x)=true) (l:List α):D.fu 0 0 (l.map f)=true:=by
 simp[sJ,h]
theorem ll {α:Type} {f:α→List D} (h : ∀ x,D.bg 0 0 (f x)=true) (n m:Nat) (l:List α):D.iI n m (l.map f)=l.map f:=rh n m _ (gl h l)
theorem Jm (n m:Nat) : ∀ a b,D.iI n m (a++b)=D.iI n m a++D.iI n m b
 | [],b=>by simp[D.iI]
 |x::a,b=>by simp[D.iI,Jm n m a b]
abbrev aA:=List UInt8
structure eY where
 kind:Int
 text:aA
 n:Int
 pos:Int
deriving DecidableEq
structure Ex where
 op:Int
 n:Int
 name:aA
 kids:List Ex
structure Ar where
 ref:Bool
 name:aA
 x:Ex
structure Sm where
 id:Int
 kind:Int
 labels:List aA
 name:aA
 proc:aA
 x:Ex
 has:Bool
 args:List Ar
 aV:List Sm
 aN:List Sm
structure Pm where
 name:aA
 ref:Bool
structure Pc where
 name:aA
 params:List Pm
 vars:List aA
 body:List Sm
 fin:List aA
structure Pg where
 globals:List aA
 procs:List Pc
def lN:Ex:=⟨0,0,[],[]⟩
def ar0:Ar:=⟨false,[],lN⟩
def DU:Sm:=⟨0,0,[],[],[],lN,false,[],[],[]⟩
def Bp:Pg:=⟨[],[]⟩
def encStr (s:aA):List D:= [.str s]
def dS (t:eY):List D:= [.int .i64 t.kind, .str t.text, .int .i64 t.n, .int .i64 t.pos]
def sl (z:Nat) (rows:List (List D)):D:= .slice .shared z rows
mutual
def bA:Ex→List D
 |⟨op,n,name,kids⟩=> [.int .i64 op, .int .i64 n, .str name, .slice .shared 4 (sN kids)]
def sN:List Ex→List (List D)
 | []=> []
 |x::l=>bA x::sN l
end
theorem DV : ∀ l,sN l=l.map bA
 | []=>by simp[sN]
 |x::l=>by simp[sN,DV l]
theorem fO (x:Ex):bA x = [.int .i64 x.op, .int .i64 x.n, .str x.name, .slice .shared 4 (x.kids.map bA)]:=by
 cases x;simp[bA,DV]
def dz (a:Ar):List D:= [.bool a.ref, .str a.name, .int .i64 a.x.op, .int .i64 a.x.n, .str a.x.name, .slice .shared 4 (a.x.kids.map bA)]
mutual
def aH:Sm→List D
 |⟨id,kind,labels,name,proc,x,has,args,aV,aN⟩=> [.int .i64 id, .int .i64 kind, .slice .shared 1 (labels.map encStr), .str name, .str proc,
  .int .i64 x.op, .int .i64 x.n, .str x.name, .slice .shared 4 (x.kids.map bA), .bool has, .slice .shared 6 (args.map dz), .slice .shared 13 (ri aV), .slice .shared 13 (ri aN)]
def ri:List Sm→List (List D)
 | []=> []
 |x::l=>aH x::ri l
end
theorem DW : ∀ l,ri l=l.map aH
 | []=>by simp[ri]
 |x::l=>by simp[ri,DW l]
theorem bU (s:Sm):aH s = [.int .i64 s.id, .int .i64 s.kind, .slice .shared 1 (s.labels.map encStr), .str s.name, .str s.proc,
 .int .i64 s.x.op, .int .i64 s.x.n, .str s.x.name, .slice .shared 4 (s.x.kids.map bA), .bool s.has, .slice .shared 6 (s.args.map dz), .slice .shared 13 (s.aV.map aH), .slice .shared 13 (s.aN.map aH)]:=by
 cases s;simp[aH,DW]
def df (p:Pm):List D:= [.str p.name, .bool p.ref]
def bn (p:Pc):List D:= [.str p.name, .slice .shared 2 (p.params.map df), .slice .shared 1 (p.vars.map encStr), .slice .shared 13 (p.body.map aH), .slice .shared 1 (p.fin.map encStr)]
def bf (p:Pg):List D:= [.slice .shared 1 (p.globals.map encStr), .slice .shared 5 (p.procs.map bn)]
theorem X2 (x:eY):(dS x).length=4:=nd rfl
theorem VP (x:eY):List.take 4 (dS x)=dS x:=nd rfl
theorem VQ (x:eY):List.drop 4 (dS x) = []:=nd rfl
theorem Ow (x:eY):(dS x)[0]? = some (.int .i64 x.kind):=nd rfl
theorem Ox (x:eY):(dS x)[1]? = some (.str x.text):=nd rfl
theorem Oy (x:eY):(dS x)[2]? = some (.int .i64 x.n):=nd rfl
theorem Oz (x:eY):(dS x)[3]? = some (.int .i64 x.pos):=nd rfl
theorem aa3 (Bq:Int) (Ue:aA) (n_:Int) (X4:Int):dS ⟨Bq,Ue,n_,X4⟩ = [.int .i64 Bq, .str Ue, .int .i64 n_, .int .i64 X4]:=by simp only[dS]
theorem Uf (x:Ex):(bA x).length=4:=by simp only[fO];rfl
theorem X5 (x:Ex):List.take 4 (bA x)=bA x:=by simp only[fO];rfl
theorem X6 (x:Ex):List.drop 4 (bA x) = []:=by simp only[fO];rfl
theorem Ru (x:Ex):(bA x)[0]? = some (.int .i64 x.op):=by simp only[fO];rfl
theorem Rv (x:Ex):(bA x)[1]? = some (.int .i64 x.n):=by simp only[fO];rfl
theorem Rw (x:Ex):(bA x)[2]? = some (.str x.name):=by simp only[fO];rfl
theorem Rx (x:Ex):(bA x)[3]? = some (.slice .shared 4 (x.kids.map bA)):=by simp only[fO];rfl
theorem aek (op_:Int) (n_:Int) (mH:aA) (Ug:List Ex):bA ⟨op_,n_,mH,Ug⟩ = [.int .i64 op_, .int .i64 n_, .str mH, .slice .shared 4 (Ug.map bA)]:=by simp only[fO]
theorem aa4 (x:Ar):(dz x).length=6:=nd rfl
theorem X7 (x:Ar):List.take 6 (dz x)=dz x:=nd rfl
theorem X8 (x:Ar):List.drop 6 (dz x) = []:=nd rfl
theorem Ry (x:Ar):(dz x)[0]? = some (.bool x.ref):=nd rfl
theorem Rz (x:Ar):(dz x)[1]? = some (.str x.name):=nd rfl
theorem RA (x:Ar):(dz x)[2]? = some (.int .i64 x.x.op):=nd rfl
theorem RB (x:Ar):(dz x)[3]? = some (.int .i64 x.x.n):=nd rfl
theorem RC (x:Ar):(dz x)[4]? = some (.str x.x.name):=nd rfl
theorem RE (x:Ar):(dz x)[5]? = some (.slice .shared 4 (x.x.kids.map bA)):=nd rfl
theorem RF (x:Ar):List.take 4 (List.drop 2 (dz x))=bA x.x:=by simp only[dz,fO];rfl
theorem ael (GH:Bool) (mH:aA) (x_:Ex):dz ⟨GH,mH,x_⟩ = [.bool GH, .str mH, .int .i64 x_.op, .int .i64 x_.n, .str x_.name, .slice .shared 4 (x_.kids.map bA)]:=by simp only[dz]
theorem Fj (x:Sm):(aH x).length=13:=by simp only[bU];rfl
theorem X9 (x:Sm):List.take 13 (aH x)=aH x:=by simp only[bU];rfl
theorem Ya (x:Sm):List.drop 13 (aH x) = []:=by simp only[bU];rfl
theorem RG (x:Sm):(aH x)[0]? = some (.int .i64 x.id):=by simp only[bU];rfl
theorem RH (x:Sm):(aH x)[1]? = some (.int .i64 x.kind):=by simp only[bU];rfl
theorem RI (x:Sm):(aH x)[2]? = some (.slice .shared 1 (x.labels.map encStr)):=by simp only[bU];rfl
theorem RJ (x:Sm):(aH x)[3]? = some (.str x.name):=by simp only[bU];rfl
theorem RK (x:Sm):(aH x)[4]? = some (.str x.proc):=by simp only[bU];rfl
theorem RL (x:Sm):(aH x)[5]? = some (.int .i64 x.x.op):=by simp only[bU];rfl
theorem RM (x:Sm):(aH x)[6]? = some (.int .i64 x.x.n):=by simp only[bU];rfl
theorem RN (x:Sm):(aH x)[7]? = some (.str x.x.name):=by simp only[bU];rfl
theorem RO (x:Sm):(aH x)[8]? = some (.slice .shared 4 (x.x.kids.map bA)):=by simp only[bU];rfl
theorem RP (x:Sm):(aH x)[9]? = some (.bool x.has):=by simp only[bU];rfl
theorem OA (x:Sm):(aH x)[10]? = some (.slice .shared 6 (x.args.map dz)):=by simp only[bU];rfl
theorem OB (x:Sm):(aH x)[11]? = some (.slice .shared 13 (x.aV.map aH)):=by simp only[bU];rfl
theorem OC (x:Sm):(aH x)[12]? = some (.slice .shared 13 (x.aN.map aH)):=by simp only[bU];rfl
theorem RQ (x:Sm):List.take 4 (List.drop 5 (aH x))=bA x.x:=by simp only[bU,fO];rfl
theorem aem (id_:Int) (Bq:Int) (Jn:List aA) (mH:aA) (Uh:aA) (x_:Ex) (Yb:Bool) (Ui:List Ar) (Yc:List Sm) (Yd:List Sm):aH ⟨id_,Bq,Jn,mH,Uh,x_,Yb,Ui,Yc,Yd⟩ = [.int .i64 id_, .int .i64 Bq, .slice .shared 1 (Jn.map encStr), .str mH, .str Uh, .int .i64 x_.op, .int .i64 x_.n, .str x_.name, .slice .shared 4 (x_.kids.map bA), .bool Yb, .slice .shared 6 (Ui.map dz), .slice .shared 13 (Yc.map aH), .slice .shared 13 (Yd.map aH)]:=by simp only[bU]
theorem aa5 (x:Pm):(df x).length=2:=nd rfl
theorem Ye (x:Pm):List.take 2 (df x)=df x:=nd rfl
theorem Yf (x:Pm):List.drop 2 (df x) = []:=nd rfl
theorem RR (x:Pm):(df x)[0]? = some (.str x.name):=nd rfl
theorem RS (x:Pm):(df x)[1]? = some (.bool x.ref):=nd rfl
theorem aen (mH:aA) (GH:Bool):df ⟨mH,GH⟩ = [.str mH, .bool GH]:=by simp only[df]
theorem aa6 (x:Pc):(bn x).length=5:=nd rfl
theorem Yg (x:Pc):List.take 5 (bn x)=bn x:=nd rfl
theorem Yh (x:Pc):List.drop 5 (bn x) = []:=nd rfl
theorem RT (x:Pc):(bn x)[0]? = some (.str x.name):=nd rfl
theorem RU (x:Pc):(bn x)[1]? = some (.slice .shared 2 (x.params.map df)):=nd rfl
theorem RV (x:Pc):(bn x)[2]? = some (.slice .shared 1 (x.vars.map encStr)):=nd rfl
theorem RW (x:Pc):(bn x)[3]? = some (.slice .shared 13 (x.body.map aH)):=nd rfl
theorem RX (x:Pc):(bn x)[4]? = some (.slice .shared 1 (x.fin.map encStr)):=nd rfl
theorem aeo (mH:aA) (Jo:List Pm) (Uj:List aA) (Uk:List Sm) (Yi:List aA):bn ⟨mH,Jo,Uj,Uk,Yi⟩ = [.str mH, .slice .shared 2 (Jo.map df), .slice .shared 1 (Uj.map encStr), .slice .shared 13 (Uk.map aH), .slice .shared 1 (Yi.map encStr)]:=by simp only[bn]
theorem aa7 (x:Pg):(bf x).length=2:=nd rfl
theorem Yj (x:Pg):List.take 2 (bf x)=bf x:=nd rfl
theorem Yk (x:Pg):List.drop 2 (bf x) = []:=nd rfl
theorem RY (x:Pg):(bf x)[0]? = some (.slice .shared 1 (x.globals.map encStr)):=nd rfl
theorem RZ (x:Pg):(bf x)[1]? = some (.slice .shared 5 (x.procs.map bn)):=nd rfl
theorem aep (GM:List aA) (OD:List Pc):bf ⟨GM,OD⟩ = [.slice .shared 1 (GM.map encStr), .slice .shared 5 (OD.map bn)]:=by simp only[bf]
attribute [go_sem] X2 VP VQ Ow Ox Oy Oz aa3 Uf X5 X6 Ru Rv Rw Rx aek aa4 X7 X8 Ry Rz RA RB RC RE RF ael Fj X9 Ya RG RH RI RJ RK RL RM RN RO RP OA OB OC RQ aem aa5 Ye Yf RR RS aen aa6 Yg Yh RT RU RV RW RX aeo aa7 Yj Yk RY RZ aep
theorem Br (s:aA):D.bg 0 0 (encStr s)=true:=rfl
theorem Fk (t:eY):D.bg 0 0 (dS t)=true:=rfl
mutual
theorem fK : ∀ x,D.bg 0 0 (bA x)=true
 |⟨op,n,name,kids⟩=>by simp[bA,D.bg,D.ok,Tag.ok,Ul kids]
theorem Ul : ∀ l,D.fu 0 0 (sN l)=true
 | []=>rfl
 |x::l=>by simp[sN,D.fu,fK x,Ul l]
end
theorem GN (a:Ar):D.bg 0 0 (dz a)=true:=by simp[dz,D.bg,D.ok,Tag.ok,gl fK]
mutual
theorem il : ∀ x,D.bg 0 0 (aH x)=true
 |⟨id,kind,labels,name,proc,x,has,args,aV,aN⟩=>by simp[aH,D.bg,D.ok,Tag.ok,Mj aV,Mj aN,gl Br,gl fK,gl GN]
theorem Mj : ∀ l,D.fu 0 0 (ri l)=true
 | []=>rfl
 |x::l=>by simp[ri,D.fu,il x,Mj l]
end
theorem Mk (p:Pm):D.bg 0 0 (df p)=true:=rfl
theorem ql (p:Pc):D.bg 0 0 (bn p)=true:=by simp[bn,D.bg,D.ok,Tag.ok,gl Mk,gl Br,gl il]
theorem fm (p:Pg):D.bg 0 0 (bf p)=true:=by simp[bf,D.bg,D.ok,Tag.ok,gl Br,gl ql]
theorem Yl (n m:Nat) (x:eY):D.eI n m (dS x)=dS x:=fU n m _ (Fk x)
theorem aa8 (n m:Nat) (x:Ex):D.eI n m (bA x)=bA x:=fU n m _ (fK x)
theorem aa9 (n m:Nat) (x:Ar):D.eI n m (dz x)=dz x:=fU n m _ (GN x)
theorem abb (n m:Nat) (x:Sm):D.eI n m (aH x)=aH x:=fU n m _ (il x)
theorem abd (n m:Nat) (x:Pm):D.eI n m (df x)=df x:=fU n m _ (Mk x)
theorem abe (n m:Nat) (x:Pc):D.eI n m (bn x)=bn x:=fU n m _ (ql x)
theorem abf (n m:Nat) (x:Pg):D.eI n m (bf x)=bf x:=fU n m _ (fm x)
attribute [go_sem] Yl aa8 aa9 abb abd abe abf
theorem dd (l:List aA):D.fu 0 0 (l.map encStr)=true:=gl Br l
theorem GO (l:List eY):D.fu 0 0 (l.map dS)=true:=gl Fk l
theorem Um (l:List Ex):D.fu 0 0 (l.map bA)=true:=gl fK l
theorem Fl (l:List Ar):D.fu 0 0 (l.map dz)=true:=gl GN l
theorem gR (l:List Sm):D.fu 0 0 (l.map aH)=true:=gl il l
theorem wu (l:List Pm):D.fu 0 0 (l.map df)=true:=gl Mk l
theorem sf (l:List Pc):D.fu 0 0 (l.map bn)=true:=gl ql l
theorem GQ (n m:Nat) (l:List aA):D.iI n m (l.map encStr)=l.map encStr:=ll Br n m l
theorem ln (n m:Nat) (l:List eY):D.iI n m (l.map dS)=l.map dS:=ll Fk n m l
theorem abg (n m:Nat) (l:List Ex):D.iI n m (l.map bA)=l.map bA:=ll fK n m l
theorem abh (n m:Nat) (l:List Ar):D.iI n m (l.map dz)=l.map dz:=ll GN n m l
theorem abi (n m:Nat) (l:List Sm):D.iI n m (l.map aH)=l.map aH:=ll il n m l
theorem abj (n m:Nat) (l:List Pm):D.iI n m (l.map df)=l.map df:=ll Mk n m l
theorem Un (n m:Nat) (l:List Pc):D.iI n m (l.map bn)=l.map bn:=ll ql n m l
theorem Ym (x:Ex) (r:List D):bA x++r = .int .i64 x.op:: .int .i64 x.n:: .str x.name:: .slice .shared 4 (x.kids.map bA)::r:=by rw[fO];rfl
theorem VR (d:D) (x:Ex):d::bA x = [d, .int .i64 x.op, .int .i64 x.n, .str x.name, .slice .shared 4 (x.kids.map bA)]:=by rw[fO]
attribute [go_sem] Ym VR
theorem abk:((0:Nat):Int)=0:=nd rfl
theorem abl:((1:Nat):Int)=1:=nd rfl
theorem abm:((2:Nat):Int)=2:=nd rfl
attribute [go_sem] abk abl abm Jm zai zah encStr lN ar0 DU Bp GQ ln abg abh abi abj Un
theorem mx (a b:Nat):(if(b:Int) > (a:Int)then(b:Int)else(a:Int))=((max a b:Nat):Int):=by split<;>omega
theorem cT {x:Int} (h1 : -9223372036854775808≤x) (h2:x<9223372036854775808):IntKind.wrap .i64 x=x:=by
 rw[IntKind.wrap_i64];omega
@[go_sem] theorem aC {n:Nat} (h:n<4611686018427387904):IntKind.wrap .i64 ((n:Int)+1)=((n+1:Nat):Int):=by
 rw[cT]<;>omega
def inc (n:Nat):Option Nat:=if n<4611686018427387904 then some (n+1)else none
theorem R0 {n k:Nat} (h:inc n=some k):IntKind.wrap .i64 ((n:Int)+1)=((n+1:Nat):Int)∧k=n+1:=by
 unfold inc at h
 split at h
 ·rename_i hn;cases h;exact⟨aC hn,rfl⟩
 ·cases h
def R1 (n:Int):Option Int:=if -4611686018427387904<n∧n<4611686018427387904 then some (n+1)else none
theorem OE {n k:Int} (h:R1 n=some k):IntKind.wrap .i64 (n+1)=n+1∧k=n+1:=by
 unfold R1 at h
 split at h
 ·rename_i hn;cases h;exact⟨cT (by omega) (by omega),rfl⟩
 ·cases h
@[go_sem] theorem ada {n:Nat} (h:n+1<4611686018427387904):IntKind.wrap .i64 ((n:Int)+1)=((n+1:Nat):Int):=by
 rw[cT]<;>omega
@[go_sem] theorem adb {n:Nat} (h:n<4611686018427387904):IntKind.wrap .i64 ((n:Int)+2)=((n+2:Nat):Int):=by
 rw[cT]<;>omega
def Ml {α:Type} (l:List α) (i:Nat):Option α:=if i<4611686018427387904 then l[i]? else none
theorem yl {α:Type} {l:List α} {i:Nat} {x:α} (h:Ml l i=some x):i<4611686018427387904∧l[i]? = some x:=by
 unfold Ml at h
 split at h
 ·exact⟨‹_›,h⟩
 ·cases h
def push {α:Type} (k:Nat) (l:List α) (x:α):Option (List α):=if(l.length+1)*k≤aT then some (l++ [x])else none
theorem ng {α:Type} {k:Nat} {l l':List α} {x:α} (h:push k l x=some l'):(l.length+1)*k≤aT∧l'=l++ [x]:=by
 unfold push at h
 split at h
 ·cases h;exact⟨‹_›,rfl⟩
 ·cases h
end Go.Abs
namespace Go.Abs
mutual
def Ex.size:Ex→Nat
 |⟨_,_,_,kids⟩=>1+Ex.aM kids
def Ex.aM:List Ex→Nat
 | []=>0
 |x::l=>1+x.size+Ex.aM l
end
mutual
def Ex.depth:Ex→Nat
 |⟨_,_,_,kids⟩=>Ex.gh kids+1
def Ex.gh:List Ex→Nat
 | []=>0
 |x::l=>max x.depth (Ex.gh l)
end
def GR (x:Ex):Option Int:=if x.size<4611686018427387904 then some (x.depth:Int)else none
theorem Ex.bC {x:Ex} : ∀ {l:List Ex},x∈l→x.size<Ex.aM l
 |y::l,h=>by
  simp only[Ex.aM]
  rcases zan.1 h with rfl|h
  ·omega
  ·have:=Ex.bC h;omega
theorem Ex.cd : ∀ (l:List Ex),l.length≤Ex.aM l
 | []=>zag _
 |x::l=>by simp only[Ex.aM,zal];have:=Ex.cd l;omega
theorem Ex.Mm : ∀ (n:Nat) (x:Ex),x.size≤n→x.depth≤x.size:=by
 intro n
 induction n with
 |zero=>intro x h;cases x;simp only[Ex.size]at h;omega
 | succ n ih=>
  rintro⟨op,m,name,kids⟩ h
  simp only[Ex.size,Ex.depth]at h ⊢
  have : ∀ l:List Ex,Ex.aM l≤n→Ex.gh l≤Ex.aM l:=by
   intro l
   induction l with
   |nil=>intro _;simp[Ex.gh]
   |cons x l OF=>
    intro h
    simp only[Ex.aM,Ex.gh]at h ⊢
    have:=ih x (by omega)
    have:=OF (by omega)
    omega
  have:=this kids (by omega)
  omega
def pC (t:eY):Int×Int:=
 if t.kind != 4 then(0,0)
 else if t.text == [124,124]then(17,1)
 else if t.text == [38,38]then(16,2)
 else if t.text == [61,61]then(14,3)
 else if t.text == [33,61]then(15,3)
 else if t.text == [60]then(10,4)
 else if t.text == [60,61]then(11,4)
 else if t.text == [62]then(12,4)
 else if t.text == [62,61]then(13,4)
 else if t.text == [43]then(8,5)
 else if t.text == [45]then(9,5)
 else if t.text == [42]then(5,6)
 else if t.text == [47]then(6,6)
 else if t.text == [37]then(7,6)
 else(0,0)
structure Rd where
 l:List eY
 i:Nat
 code:Int
 tF:Int
 n:Nat
abbrev Rd.good (r:Rd):Bool:=r.code==0
def Rd.n8 (r:Rd):Option eY:=(Ml r.l r.i).bind fun t=>if decide (0≤t.kind) && decide (t.kind≤4)then some t else none
theorem GU {r:Rd} {t:eY} (h:r.n8=some t):r.i<4611686018427387904∧r.l[r.i]? = some t∧0≤t.kind∧t.kind≤4:=by
 unfold Rd.n8 at h
 rw[zas]at h
 obtain⟨u,h1,h⟩:=h
 obtain⟨g1,g2⟩:=yl h1
 by_cases hk:(decide (0≤u.kind) && decide (u.kind≤4))=true
 ·rw [if_pos hk]at h
  cases h
  simp only[zam,decide_eq_true_eq]at hk
  exact⟨g1,g2,hk.1,hk.2⟩
 ·rw[if_neg hk]at h;cases h
def Rd.bad (c:Int) (r:Rd):Option Rd:=if r.good then r.n8.bind fun t=>some {r with code:=c,tF:=t.pos}else some r
def Rd.is (text:aA) (r:Rd):Option Bool:=r.n8.bind fun t=>some ((t.kind==3 ||t.kind==4) && t.text==text)
def Rd.take (text:aA) (r:Rd):Option (Bool×Rd):=
 if !r.good then some (false,r)else(r.is text).bind fun b=>if !b then some (false,r)else some (true,{r with i:=r.i+1})
def Rd.want (text:aA) (r:Rd):Option Rd:=(r.take text).bind fun p=>if !p.1 then p.2.bad 3 else some p.2
def Rd.name (room:Bool) (r:Rd):Option (aA×Rd):=
 r.n8.bind fun t=>if !r.good ||t.kind != 1 then(r.bad 3).bind fun r=>some ([],r)else if !room then(r.bad 4).bind fun r=>some ([],r)else some (t.text,{r with i:=r.i+1})
def Rd.on (r:Rd):Rd:= {r with i:=r.i+1}
mutual
def Rd.one:Nat→Rd→Option (Ex×Rd)
 | 0,_=>none
 | n+1,r=>r.n8.bind fun t=>
  if !r.good then some (lN,r)
  else if t.kind==2 then some (⟨1,t.n,[],[]⟩,{r with i:=r.i+1})
  else if t.kind==1 then some (⟨2,0,t.text,[]⟩,{r with i:=r.i+1})
  else(r.take [40]).bind fun p=>
   if p.1 then(Rd.two n 1 p.2).bind fun x=>(x.2.want [41]).bind fun r=>some (x.1,r)
   else(p.2.take [45]).bind fun p=>
    if p.1 then(Rd.one n p.2).bind fun x=>some (⟨3,0,[],[x.1]⟩,x.2)
    else(p.2.take [33]).bind fun p=>
     if p.1 then(Rd.one n p.2).bind fun x=>some (⟨4,0,[],[x.1]⟩,x.2)
     else(p.2.bad 3).bind fun r=>some (lN,r)
def Rd.two:Nat→Int→Rd→Option (Ex×Rd)
 | 0,_,_=>none
 |n+1,least,r=>(Rd.one n r).bind fun x=>Rd.C1 n least x.1 x.2
def Rd.C1:Nat→Int→Ex→Rd→Option (Ex×Rd)
 | 0,_,_,_=>none
 | n+1,least,x,r=>
  if r.good then r.n8.bind fun t=>
   if decide ((pC t).2<least) ||(pC t).1==0 then some (x,r)
   else(Rd.two n ((pC t).2+1) {r with i:=r.i+1}).bind fun y=>Rd.C1 n least ⟨(pC t).1,0,[],[x,y.1]⟩ y.2
  else some (x,r)
end
def Rd.whole (n:Nat) (r:Rd):Option (Ex×Rd):=
 r.n8.bind fun t=>(Rd.two n 1 r).bind fun x=>
  if x.2.good then(GR x.1).bind fun d=>if decide (d > 20)then some (x.1,{x.2 with code:=4,tF:=t.pos})else some (x.1,x.2)
  else some (x.1,x.2)
def Rd.names:Nat→List aA→Int→Rd→Option (List aA×Rd)
 | 0,_,_,_=>none
 | n+1,l,fP,r=>
  if r.good then(r.name (decide ((l.length:Int)<fP))).bind fun p=>(push 17 l p.1).bind fun l=>(p.2.take [44]).bind fun q=>
   if !q.1 then(q.2.want [59]).bind fun r=>some (l,r)else Rd.names n l fP q.2
  else some (l,r)
def Rd.ahead (sign:aA) (r:Rd):Option Bool:=
 if r.good then r.n8.bind fun t=>if t.kind==1 then(Ml r.l (r.i+1)).bind fun u=>some (u.kind==4 && u.text==sign)else some false
 else some false
def Rd.labels:Nat→List aA→Rd→Option (List aA×Rd)
 | 0,_,_=>none
 |n+1,l,r=>(r.ahead [58]).bind fun b=>if b then r.n8.bind fun t=>(push 17 l t.text).bind fun l=>Rd.labels n l {r with i:=r.i+2}else some (l,r)
def Rd.GV (r:Rd):Option Bool:=
 r.n8.bind fun t=>some (if t.kind==1 then true else if t.kind != 3 then false
  else t.text == [105,102] ||t.text == [119,104,105,108,101] ||t.text == [98,114,101,97,107] ||t.text == [99,111,110,116,105,110,117,101] ||t.text == [114,101,116,117,114,110] ||t.text == [103,111,116,111] ||t.text == [114,101,97,100] ||t.text == [112,114,105,110,116])
def Rd.wv (m:Nat):Nat→List Ar→Rd→Option (List Ar×Rd)
 | 0,_,_=>none
 | n+1,l,r=>
  if r.good then(r.take [114,101,102]).bind fun p=>
   if p.1 then(p.2.name true).bind fun x=>(push 81 l ⟨true,x.1,lN⟩).bind fun l=>(x.2.take [44]).bind fun c=>if !c.1 then some (l,c.2)else Rd.wv m n l c.2
   else(Rd.whole m p.2).bind fun x=>(push 81 l ⟨false,[],x.1⟩).bind fun l=>(x.2.take [44]).bind fun c=>if !c.1 then some (l,c.2)else Rd.wv m n l c.2
  else some (l,r)
def Rd.other (sign:aA) (r:Rd):Option Bool:=if r.good then(r.is sign).bind fun b=>some !b else some false
def Rd.call (m:Nat) (name proc:aA) (r:Rd):Option (Sm×Rd):=
 (r.want [40]).bind fun r=>(r.other [41]).bind fun b=>
  if b then(Rd.wv m m [] r).bind fun q=>(q.2.want [41]).bind fun r=>(r.want [59]).bind fun r=>some (⟨0,4,[],name,proc,lN,false,q.1,[],[]⟩,r)
  else(r.want [41]).bind fun r=>(r.want [59]).bind fun r=>some (⟨0,4,[],name,proc,lN,false,[],[],[]⟩,r)
def Rd.named (m:Nat) (r:Rd):Option (Sm×Rd):=
 (r.name true).bind fun x=>(x.2.is [40]).bind fun b=>
  if b then Rd.call m [] x.1 x.2
  else(x.2.want [61]).bind fun r=>(r.ahead [40]).bind fun b=>
   if b then(r.name true).bind fun y=>Rd.call m x.1 y.1 y.2
   else(Rd.whole m r).bind fun y=>(y.2.want [59]).bind fun r=>some (⟨0,1,[],x.1,[],y.1,false,[],[],[]⟩,r)
def Rd.plain (m:Nat) (word:aA) (r:Rd):Option (Sm×Rd):=
 if word == [98,114,101,97,107]then some (⟨0,7,[],[],[],lN,false,[],[],[]⟩,r)
 else if word == [99,111,110,116,105,110,117,101]then some (⟨0,8,[],[],[],lN,false,[],[],[]⟩,r)
 else if word == [114,101,116,117,114,110]then(r.is [59]).bind fun b=>
  if !b then(Rd.whole m r).bind fun x=>some (⟨0,9,[],[],[],x.1,true,[],[],[]⟩,x.2)else some (⟨0,9,[],[],[],lN,false,[],[],[]⟩,r)
 else if word == [103,111,116,111]then(r.name true).bind fun x=>some (⟨0,10,[],x.1,[],lN,false,[],[],[]⟩,x.2)
 else if word == [114,101,97,100]then(r.name true).bind fun x=>some (⟨0,2,[],x.1,[],lN,false,[],[],[]⟩,x.2)
 else if word == [112,114,105,110,116]then(Rd.whole m r).bind fun x=>some (⟨0,3,[],[],[],x.1,false,[],[],[]⟩,x.2)
 else some (DU,r)
def Rd.head (m:Nat) (r:Rd):Option (Ex×Rd):=(r.want [40]).bind fun r=>(Rd.whole m r).bind fun x=>(x.2.want [41]).bind fun r=>some (x.1,r)
mutual
def Rd.rows (m:Nat):Nat→Int→Bool→Rd→Option ((List Sm×List aA)×Rd)
 | 0,_,_,_=>none
 |n+1,nest,body,r=>Rd.tG m n nest body [] r
def Rd.tG (m:Nat):Nat→Int→Bool→List Sm→Rd→Option ((List Sm×List aA)×Rd)
 | 0,_,_,_,_=>none
 | n+1,nest,body,out,r=>
  if r.good then(Rd.labels m [] r).bind fun l=>(l.2.is [125]).bind fun b=>
   if b && (body ||(l.1.length:Int)==0)then some ((out,l.1),{l.2 with i:=l.2.i+1})
   else(Rd.stmt m n nest l.2).bind fun s=>(push 209 out {s.1 with labels:=l.1}).bind fun out=>Rd.tG m n nest body out s.2
  else some (([],[]),r)
def Rd.stmt (m:Nat):Nat→Int→Rd→Option (Sm×Rd)
 | 0,_,_=>none
 | n+1,nest,r=>r.GV.bind fun b=>
  if !b then(r.bad 3).bind fun r=>some (DU,r)
  else(inc r.n).bind fun k=>
   if decide ((k:Int) > 200) ||decide (nest > 12)then(({r with n:=k} : Rd).bad 4).bind fun r=>some (DU,r)
   else({r with n:=k} : Rd).n8.bind fun t=>
    if t.kind==1 then Rd.named m {r with n:=k}
    else if t.text == [105,102]then Rd.choice m n nest {r with n:=k,i:=r.i+1}
    else if t.text == [119,104,105,108,101]then(Rd.head m {r with n:=k,i:=r.i+1}).bind fun x=>(Rd.block m n nest x.2).bind fun b=>some (⟨0,6,[],[],[],x.1,false,[],b.1,[]⟩,b.2)
    else(Rd.plain m t.text {r with n:=k,i:=r.i+1}).bind fun s=>(s.2.want [59]).bind fun r=>some (s.1,r)
def Rd.block (m:Nat):Nat→Int→Rd→Option (List Sm×Rd)
 | 0,_,_=>none
 |n+1,nest,r=>(r.want [123]).bind fun r=>(R1 nest).bind fun k=>(Rd.rows m n k false r).bind fun p=>some (p.1.1,p.2)
def Rd.choice (m:Nat):Nat→Int→Rd→Option (Sm×Rd)
 | 0,_,_=>none
 |n+1,nest,r=>(Rd.head m r).bind fun x=>(Rd.block m n nest x.2).bind fun t=>(t.2.take [101,108,115,101]).bind fun q=>
  if q.1 then(Rd.block m n nest q.2).bind fun e=>some (⟨0,5,[],[],[],x.1,false,[],t.1,e.1⟩,e.2)
  else some (⟨0,5,[],[],[],x.1,false,[],t.1,[]⟩,q.2)
end
def Rd.params:Nat→List Pm→Rd→Option (List Pm×Rd)
 | 0,_,_=>none
 | n+1,l,r=>
  if r.good then(r.take [114,101,102]).bind fun q=>(q.2.name (decide ((l.length:Int)<8))).bind fun x=>(push 25 l ⟨x.1,q.1⟩).bind fun l=>(x.2.take [44]).bind fun c=>
   if !c.1 then some (l,c.2)else Rd.params n l c.2
  else some (l,r)
def Rd.vars (m:Nat):Nat→List aA→Rd→Option (List aA×Rd)
 | 0,_,_=>none
 |n+1,l,r=>(r.take [118,97,114]).bind fun q=>if q.1 then(Rd.names m l 16 q.2).bind fun x=>Rd.vars m n x.1 x.2 else some (l,q.2)
def Rd.wx (m:Nat) (name:aA) (ps:List Pm) (r:Rd):Option (Pc×Rd):=
 (Rd.vars m m [] r).bind fun v=>(Rd.rows m m 1 true v.2).bind fun b=>some (⟨name,ps,v.1,b.1.1,b.1.2⟩,b.2)
def Rd.proc (m:Nat) (r:Rd):Option (Pc×Rd):=
 (r.name true).bind fun x=>(x.2.want [40]).bind fun r=>(r.other [41]).bind fun b=>
  if b then(Rd.params m [] r).bind fun q=>(q.2.want [41]).bind fun r=>(r.want [123]).bind fun r=>Rd.wx m x.1 q.1 r
  else(r.want [41]).bind fun r=>(r.want [123]).bind fun r=>Rd.wx m x.1 [] r
def Rd.globals (m:Nat):Nat→List aA→Rd→Option (List aA×Rd)
 | 0,_,_=>none
 |n+1,l,r=>(r.take [103,108,111,98,97,108]).bind fun q=>if q.1 then(Rd.names m l 16 q.2).bind fun x=>Rd.globals m n x.1 x.2 else some (l,q.2)
def Rd.OG (r:Rd):Option Bool:=if r.good then r.is [112,114,111,99]else some false
def Rd.GX (r:Rd):Option Bool:=if r.good then r.n8.bind fun t=>some (t.kind != 0)else some false
def Rd.procs (m:Nat):Nat→List Pc→Rd→Option (List Pc×Rd)
 | 0,_,_=>none
 | n+1,l,r=>r.OG.bind fun b=>
  if b then
   if(l.length:Int)==16 then(r.bad 4).bind fun r=>some (l,r)
   else(Rd.proc m {r with i:=r.i+1}).bind fun x=>(push 113 l x.1).bind fun l=>Rd.procs m n l x.2
  else r.GX.bind fun b=>if b then(r.bad 3).bind fun r=>some (l,r)else some (l,r)
def Rd.program (m:Nat) (r:Rd):Option (Pg×Rd):=(Rd.globals m m [] r).bind fun g=>(Rd.procs m m [] g.2).bind fun q=>some (⟨g.1,q.1⟩,q.2)
mutual
def Ex.beq:Ex→Ex→Bool
 |⟨op,n,name,kids⟩,⟨op',n',Mn,Uo⟩=>if op != op' ||n != n' || !(name==Mn) ||(kids.length:Int) != (Uo.length:Int)then false else Ex.n9 kids Uo
def Ex.n9:List Ex→List Ex→Bool
 | [],_=>true
 |_::_,[]=>true
 |x::l,y::l'=>if !Ex.beq x y then false else Ex.n9 l l'
end
def Ar.aM:List Ar→Nat
 | []=>0
 |a::l=>1+a.x.size+Ar.aM l
mutual
def Sm.size:Sm→Nat
 |⟨_,_,labels,_,_,x,_,args,aV,aN⟩=>1+labels.length+x.size+Ar.aM args+Sm.aM aV+Sm.aM aN
def Sm.aM:List Sm→Nat
 | []=>0
 |s::l=>1+s.size+Sm.aM l
end
def Pc.size (f:Pc):Nat:=1+f.params.length+f.vars.length+f.fin.length+Sm.aM f.body
def Pc.aM:List Pc→Nat
 | []=>0
 |f::l=>1+f.size+Pc.aM l
def Pg.size (p:Pg):Nat:=1+p.globals.length+Pc.aM p.procs
mutual
def Sm.num (b:Bool) (n:Nat):Sm→Sm×Nat
 |⟨id,kind,labels,name,proc,x,has,args,aV,aN⟩=>
  (⟨if b then((n+1:Nat):Int)else id,kind,labels,name,proc,x,has,args,(Sm.cv b (n+1) aV).1,(Sm.cv b (Sm.cv b (n+1) aV).2 aN).1⟩,(Sm.cv b (Sm.cv b (n+1) aV).2 aN).2)
def Sm.cv (b:Bool) (n:Nat):List Sm→List Sm×Nat
 | []=>([],n)
 |s::l=>((Sm.num b n s).1::(Sm.cv b (Sm.num b n s).2 l).1,(Sm.cv b (Sm.num b n s).2 l).2)
end
def Pc.cv (n:Nat):List Pc→List Pc
 | []=> []
 |f::l=> {f with body:=(Sm.cv true n f.body).1}::Pc.cv (Sm.cv true n f.body).2 l
def Pg.number (p:Pg):Pg:= {p with procs:=Pc.cv 0 p.procs}
def Pg.C2 (p:Pg):Option Pg:=if p.size<1073741824 then some p.number else none
mutual
theorem Sm.Yn (b:Bool) (n:Nat) : ∀ s:Sm,(Sm.num b n s).2≤n+s.size
 |⟨id,kind,labels,name,proc,x,has,args,aV,aN⟩=>by
  simp only[Sm.num,Sm.size]
  have h1:=Sm.mn b (n+1) aV
  have h2:=Sm.mn b (Sm.cv b (n+1) aV).2 aN
  omega
theorem Sm.mn (b:Bool) (n:Nat) : ∀ l:List Sm,(Sm.cv b n l).2≤n+Sm.aM l
 | []=>by simp[Sm.cv,Sm.aM]
 |s::l=>by
  simp only[Sm.cv,Sm.aM]
  have h1:=Sm.Yn b n s
  have h2:=Sm.mn b (Sm.num b n s).2 l
  omega
end
theorem Sm.cd : ∀ (l:List Sm),l.length≤Sm.aM l
 | []=>zag _
 |x::l=>by simp only[Sm.aM,zal];have:=Sm.cd l;omega
theorem Ar.cd : ∀ (l:List Ar),l.length≤Ar.aM l
 | []=>zag _
 |x::l=>by simp only[Ar.aM,zal];have:=Ar.cd l;omega
theorem Pc.cd : ∀ (l:List Pc),l.length≤Pc.aM l
 | []=>zag _
 |x::l=>by simp only[Pc.aM,zal];have:=Pc.cd l;omega
theorem Ar.bC {x:Ar} : ∀ {l:List Ar},x∈l→x.x.size<Ar.aM l
 |y::l,h=>by
  simp only[Ar.aM]
  rcases zan.1 h with rfl|h
  ·omega
  ·have:=Ar.bC h;omega
theorem Sm.bC {x:Sm} : ∀ {l:List Sm},x∈l→x.size<Sm.aM l
 |y::l,h=>by
  simp only[Sm.aM]
  rcases zan.1 h with rfl|h
  ·omega
  ·have:=Sm.bC h;omega
theorem Pc.bC {x:Pc} : ∀ {l:List Pc},x∈l→x.size<Pc.aM l
 |y::l,h=>by
  simp only[Pc.aM]
  rcases zan.1 h with rfl|h
  ·omega
  ·have:=Pc.bC h;omega
theorem Sm.GY (b:Bool) (n:Nat) : ∀ l:List Sm,(Sm.cv b n l).1.length=l.length
 | []=>rfl
 |s::l=>by simp only[Sm.cv,zal,Sm.GY b _ l]
mutual
def Sm.fH:Sm→Nat
 |⟨_,_,_,_,_,_,_,_,aV,aN⟩=>1+Sm.dm aV+Sm.dm aN
def Sm.dm:List Sm→Nat
 | []=>0
 |s::l=>s.fH+Sm.dm l
end
structure Im where
 s:Sm
 proc:Int
 up:Int
 next:Int
 loop:Int
mutual
def Im.one (proc up next loop:Int) (out:List Im):Sm→List Im
 | ⟨id,kind,labels,name,pc,x,has,args,aV,aN⟩=>
  Im.rows proc ((out.length:Int)+1) (if kind==6 then(out.length:Int)+1 else next) (if kind==6 then(out.length:Int)+1 else loop)
   (Im.rows proc ((out.length:Int)+1) (if kind==6 then(out.length:Int)+1 else next) (if kind==6 then(out.length:Int)+1 else loop) (out++ [⟨⟨id,kind,labels,name,pc,x,has,args,aV,aN⟩,proc,up,next,loop⟩]) aV) aN
def Im.rows (proc up next loop:Int) (out:List Im):List Sm→List Im
 | []=>out
 |s::l=>Im.rows proc up next loop (Im.one proc up (if l.length=0 then next else(out.length:Int)+1+(s.fH:Int)) loop out s) l
end
theorem Im.Yo (proc up next loop:Int) (out:List Im) (s:Sm):Im.one proc up next loop out s =
 Im.rows proc ((out.length:Int)+1) (if s.kind==6 then(out.length:Int)+1 else next) (if s.kind==6 then(out.length:Int)+1 else loop)
  (Im.rows proc ((out.length:Int)+1) (if s.kind==6 then(out.length:Int)+1 else next) (if s.kind==6 then(out.length:Int)+1 else loop) (out++ [⟨s,proc,up,next,loop⟩]) s.aV) s.aN:=by
 cases s;simp only[Im.one]
mutual
theorem VS (proc up next loop:Int) (out:List Im) : ∀ s:Sm,(Im.one proc up next loop out s).length=out.length+s.fH
 |⟨id,kind,labels,name,pc,x,has,args,aV,aN⟩=>by
  simp only[Im.one,Sm.fH]
  rw[fZ,fZ]
  simp only[zai,zal,zaE];omega
theorem fZ (proc up next loop:Int) (out:List Im) : ∀ l:List Sm,(Im.rows proc up next loop out l).length=out.length+Sm.dm l
 | []=>rfl
 |s::l=>by
  simp only[Im.rows,Sm.dm]
  rw[fZ,VS];omega
end
mutual
theorem AB : ∀ s:Sm,s.fH≤s.size
 |⟨_,_,labels,_,_,x,_,args,aV,aN⟩=>by
  have:=jO aV;have:=jO aN
  simp only[Sm.fH,Sm.size];omega
theorem jO : ∀ l:List Sm,Sm.dm l≤Sm.aM l
 | []=>zag _
 |s::l=>by
  have:=AB s;have:=jO l
  simp only[Sm.dm,Sm.aM];omega
end
structure Sh where
 L:List Im
 lo:List Int
 hi:List Int
def Sh.go (i:Nat) (h:Sh):List Pc→Sh
 | []=>h
 |f::l=>Sh.go (i+1) ⟨Im.rows i 0 (-1) 0 h.L f.body,h.lo++ [(h.L.length:Int)+1],h.hi++ [((Im.rows i 0 (-1) 0 h.L f.body).length:Int)+1]⟩ l
def Pg.eO (p:Pg):Sh:=Sh.go 0 ⟨[],[],[]⟩ p.procs
end Go.Abs
