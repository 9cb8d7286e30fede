/-
  What is proved here: part 1 of the road to the claim (Frame, Frame2, Walk, Par, Par1, Par2, Par3, Step, Wp, Types, SelA, Lend, Sym, Frz, WpA, Mir, MirTree, Cnt, MirFlat).
  No conditions.
-/
import Derived.Test.YtpjadlleefgcpaaGreatRnL0
import Derived.Attr
import Derived.KernelRfl

set_option linter.unusedSimpArgs false
set_option linter.unusedVariables false
namespace Go.Abs
def Tag.ok (m:Nat):Tag→Bool
 | .tok t _=>decide (t<m)
 |_=>true
def Tag.dm (ts:List Nat):Tag→Tag
 | .tok t y=>match ts[t]? with|some t'=> .tok t' y|none=> .shared
 |g=>g
mutual
def D.ok (n m:Nat):D→Bool
 | .ptr o _=>decide (o<n)
 | .dO row _=>D.bM n m row
 | .slice g _ rows=>g.ok m && D.iW n m rows
 | .agg cs=>D.bM n m cs
 | .tuple ds=>D.bM n m ds
 | .fM _ o=>decide (o<n)
 | .il _ cs=>D.bM n m cs
 | .gU o=>decide (o<n)
 | .dM _ o _ _=>decide (o<n)
 | .fC o _ _=>decide (o<n)
 |_=>true
def D.bM (n m:Nat):List D→Bool
 | []=>true
 |d::r=>D.ok n m d && D.bM n m r
def D.iW (n m:Nat):List (List D)→Bool
 | []=>true
 |d::r=>D.bM n m d && D.iW n m r
end
mutual
def D.dm (os ts:List Nat):D→D
 | .ptr o off=>match os[o]? with|some o'=> .ptr o' off|none=> .junk
 | .dO row off=> .dO (D.fu os ts row) off
 | .slice g z rows=> .slice (g.dm ts) z (D.px os ts rows)
 | .agg cs=> .agg (D.fu os ts cs)
 | .tuple ds=> .tuple (D.fu os ts ds)
 | .junk=> .junk
 | .int k x=> .int k x
 | .bool b=> .bool b
 | .str l=> .str l
 | .fv=> .fv
 | .val v=> .val v
 | .fM T o=>match os[o]? with|some o'=> .fM T o'|none=> .junk
 | .il f cs=> .il f (D.fu os ts cs)
 | .gU o=>match os[o]? with|some o'=> .gU o'|none=> .junk
 | .dM z o g len=>match os[o]? with|some o'=> .dM z o' g len|none=> .junk
 | .fC o g off=>match os[o]? with|some o'=> .fC o' g off|none=> .junk
 | .ek z=> .ek z
def D.fu (os ts:List Nat):List D→List D
 | []=> []
 |d::r=>D.dm os ts d::D.fu os ts r
def D.px (os ts:List Nat):List (List D)→List (List D)
 | []=> []
 |d::r=>D.fu os ts d::D.px os ts r
end
theorem gM (os ts:List Nat) : ∀ l,D.fu os ts l=l.map (D.dm os ts)
 | []=>by simp[D.fu]
 |d::r=>by simp[D.fu,gM os ts r]
theorem DN (os ts:List Nat) : ∀ l,D.px os ts l=l.map (D.fu os ts)
 | []=>by simp[D.px]
 |d::r=>by simp[D.px,DN os ts r]
theorem zI (n m:Nat) : ∀ l,D.bM n m l=l.all (D.ok n m)
 | []=>by simp[D.bM]
 |d::r=>by simp[D.bM,zI n m r]
theorem Gm (n m:Nat) : ∀ l,D.iW n m l=l.all (D.bM n m)
 | []=>by simp[D.iW]
 |d::r=>by simp[D.iW,Gm n m r]
theorem w5 {n m:Nat} {l:List D} (h:D.bM n m l=true) {i:Nat} {d:D} (e:l[i]? = some d):D.ok n m d=true:=by
 rw[zI]at h;exact za0.1 h d (zad e)
theorem abx {n m:Nat} {l:List (List D)} (h:D.iW n m l=true) {i:Nat} {d:List D} (e:l[i]? = some d):D.bM n m d=true:=by
 rw[Gm]at h;exact za0.1 h d (zad e)
section
variable {M M0:Map} {s s0:St} {os ts:List Nat}
theorem jO.DO (lM : ∀ (i:Nat) t,ts[i]? = some t→M0.be i=M.be t) (ht : ∀ (i t:Nat),ts[i]? = some t→s0.ay[i]? = s.ay[t]?) (hlen:s0.ay.length=ts.length) {g:Tag} {z len cap:Nat} {base:Option (Nat×Nat)} (o8:g.ok ts.length=true) (h:jO M s (g.dm ts) z len base cap):jO M0 s0 g z len base cap:=by
 cases g with
 |full=>exact h
 |shared=>exact h
 |tok t y=>
  have hD:t<ts.length:=by simpa[Tag.ok]using o8
  have e:ts[t]? = some ts[t]:=zah hD
  simp only[Tag.dm,e]at h
  obtain⟨h1,h2⟩:=h
  refine⟨by omega,fun n hn=>?_⟩
  rw[ht t _ e]at hn
  rw[lM t _ e]
  exact h2 n hn
theorem RD.DO (hG:M0.G=M.G) (ky : ∀ (i:Nat) o,os[i]? = some o→M0.loc i=M.loc o) (kn:s0.aq.length=os.length)
 (lM : ∀ (i:Nat) t,ts[i]? = some t→M0.be i=M.be t) (ht : ∀ (i t:Nat),ts[i]? = some t→s0.ay[i]? = s.ay[t]?) (hlen:s0.ay.length=ts.length) {d:D} {v:Value} (h:RD M s d v) :
 ∀ d0:D,d0.dm os ts=d→d0.ok os.length ts.length=true→RD M0 s0 d0 v:=by
 have oD : ∀ (i:Nat) o,os[i]? = some o→M0.mu i=M.mu o:=fun i o h=>congrArg Prod.fst (ky i o h)
 have tag:=fun {g z len cap base}=>@jO.DO M M0 s s0 ts lM ht hlen g z len cap base
 induction h with
 | junk v=>
  intro d0 e ok
  cases d0<;>simp only[D.dm]at e<;>try (cases e;done)
  ·exact .junk v
  ·rename_i o off
   have hD:o<os.length:=by simpa[D.ok]using ok
   rw[zah hD]at e;cases e
  ·rename_i T o
   have hD:o<os.length:=by simpa[D.ok]using ok
   rw[zah hD]at e;cases e
  ·rename_i o
   have hD:o<os.length:=by simpa[D.ok]using ok
   rw[zah hD]at e;cases e
  ·rename_i z o g len
   have hD:o<os.length:=by simpa[D.ok]using ok
   rw[zah hD]at e;cases e
  ·rename_i o g off
   have hD:o<os.length:=by simpa[D.ok]using ok
   rw[zah hD]at e;cases e
 |ek z a=>intro d0 e ok;cases d0<;>simp only[D.dm]at e<;>first|(cases e;exact .ek _ _)|(split at e<;>cases e)|cases e
 |dM z o g len b cap A ho hm ha hl=>
  intro d0 e ok
  cases d0<;>simp only[D.dm]at e<;>first|(cases e;done)|skip
  all_goals try (split at e<;>cases e;done)
  rename_i z0 o0 g0 H4
  have hD:o0<os.length:=by simpa[D.ok]using ok
  rw[zah hD]at e
  cases e
  exact RD.dM (s:=s0) z o0 g len b cap A (by omega) ((congrArg Prod.snd (ky o0 _ (zah hD))).trans hm) ha hl
 |fC z o g off b cap A ho hm ha=>
  intro d0 e ok
  cases d0<;>simp only[D.dm]at e<;>first|(cases e;done)|skip
  all_goals try (split at e<;>cases e;done)
  rename_i o0 g0 W7
  have hD:o0<os.length:=by simpa[D.ok]using ok
  rw[zah hD]at e
  cases e
  exact RD.fC (s:=s0) z o0 g off b cap A (by omega) ((congrArg Prod.snd (ky o0 _ (zah hD))).trans hm) ha
 |val v hv=>intro d0 e ok;cases d0<;>simp only[D.dm]at e<;>first|(cases e;exact .val _ hv)|(split at e<;>cases e)|cases e
 |fM T o v ho ht hv=>
  intro d0 e ok
  cases d0<;>simp only[D.dm]at e<;>first|(split at e<;>cases e;done)|skip
  all_goals try (cases e;done)
  rename_i T0 o0
  have hD:o0<os.length:=by simpa[D.ok]using ok
  rw[zah hD]at e
  cases e
  have hl:=ky o0 _ (zah hD)
  exact .fM _ o0 v (by omega) ((congrArg (fun x=>x.2.ty?) hl).trans ht) (by rw[oD o0 _ (zah hD)];exact hv)
 |int k x=>intro d0 e ok;cases d0<;>simp only[D.dm]at e<;>first|(cases e;exact .int _ _)|(split at e<;>cases e)|cases e
 |bool b=>intro d0 e ok;cases d0<;>simp only[D.dm]at e<;>first|(cases e;exact .bool _)|(split at e<;>cases e)|cases e
 |str l=>intro d0 e ok;cases d0<;>simp only[D.dm]at e<;>first|(cases e;exact .str _)|(split at e<;>cases e)|cases e
 |fv=>intro d0 e ok;cases d0<;>simp only[D.dm]at e<;>first|(cases e;exact .fv)|(split at e<;>cases e)|cases e
 |gU o ho hm=>
  intro d0 e ok
  cases d0<;>simp only[D.dm]at e<;>first|(cases e;done)|skip
  all_goals try (split at e<;>cases e;done)
  rename_i o0
  have hD:o0<os.length:=by simpa[D.ok]using ok
  rw[zah hD]at e
  cases e
  rw[← oD o0 _ (zah hD)]
  exact RD.gU (s:=s0) o0 (by omega) ((congrArg Prod.snd (ky o0 _ (zah hD))).trans hm)
 |il f ds vs hl _ ih=>
  intro d0 e ok
  cases d0<;>simp only[D.dm]at e<;>first|(split at e<;>cases e;done)|skip
  all_goals try (cases e;done)
  rename_i f0 Uk
  simp only[D.il.injEq]at e
  obtain⟨rfl,rfl⟩:=e
  simp only[D.ok]at ok
  rw[gM]at hl ih
  refine .il _ Uk vs (by simpa using hl) (fun i d v e1 e2=>ih i _ v (by rw[zao,e1];rfl) e2 d rfl (w5 ok e1))
 |ptr o off ho hm=>
  intro d0 e ok
  cases d0<;>simp only[D.dm]at e<;>first|(cases e;done)|skip
  all_goals try (split at e<;>cases e;done)
  rename_i o0 W7
  have hD:o0<os.length:=by simpa[D.ok]using ok
  rw[zah hD]at e
  cases e
  rw[← oD o0 _ (zah hD)]
  exact RD.ptr (s:=s0) o0 _ (by omega) (by rw[show M0.ob o0=_ from congrArg Prod.snd (ky o0 _ (zah hD))];exact hm)
 |dO row off b k h1 h2 ih=>
  intro d0 e ok
  cases d0<;>simp only[D.dm]at e<;>first|(split at e<;>cases e;done)|skip
  all_goals try (cases e;done)
  rename_i al2 W7
  simp only[D.dO.injEq]at e
  obtain⟨rfl,rfl⟩:=e
  simp only[D.ok]at ok
  rw[gM]at h1 ih
  refine .dO al2 W7 b k (fun i d e=>?_) (fun i d u e eu=>?_)
  ·rw[hG];exact h1 i _ (by rw[zao,e];rfl)
  ·rw[hG]at eu;exact ih i _ u (by rw[zao,e];rfl) eu d rfl (w5 ok e)
 |jz g z cap hc od=>
  intro d0 e ok
  cases d0<;>simp only[D.dm]at e<;>first|(split at e<;>cases e;done)|skip
  all_goals try (cases e;done)
  rename_i g0 z0 lb
  simp only[D.slice.injEq]at e
  obtain⟨rfl,rfl,e⟩:=e
  have:lb = []:=by cases lb<;>simp[D.px]at e;rfl
  subst this
  simp only[D.ok,zar]at ok
  exact .jz g0 z0 cap hc (tag ok.1 od)
 | mF z a cap=>
  intro d0 e ok
  cases d0<;>simp only[D.dm]at e<;>first|(split at e<;>cases e;done)|skip
  all_goals try (cases e;done)
  rename_i g0 z0 lb
  simp only[D.slice.injEq]at e
  obtain⟨hg,rfl,e⟩:=e
  have:lb = []:=by cases lb<;>simp[D.px]at e;rfl
  subst this
  simp only[D.ok,zar]at ok
  have:g0 = .shared:=by
   cases g0 with
   |tok t y=>
    have ht:t<ts.length:=by simpa[Tag.ok]using ok.1
    simp[Tag.dm,ht]at hg
   |shared=>rfl
   |_=>simp[Tag.dm]at hg
  subst this
  exact .mF _ a cap
 | slice g z rows b k cap hl hs h1 h2 od ih=>
  intro d0 e ok
  cases d0<;>simp only[D.dm]at e<;>first|(split at e<;>cases e;done)|skip
  all_goals try (cases e;done)
  rename_i g0 z0 lb
  simp only[D.slice.injEq]at e
  obtain⟨rfl,rfl,rfl⟩:=e
  simp only[D.ok,zar]at ok
  rw[DN]at hl hs h1 ih od
  simp only[DN,zaw]at hl od ⊢
  have dX : ∀ (i:Nat) (row:List D),lb[i]? = some row→(lb.map (D.fu os ts))[i]? = some (D.fu os ts row):=fun i row e=>by rw[zao,e];rfl
  have iN : ∀ (row:List D) (j:Nat) (d:D),row[j]? = some d→(D.fu os ts row)[j]? = some (D.dm os ts d):=fun row j d e=>by rw[gM,zao,e];rfl
  refine .slice g0 z0 lb b k cap hl (fun row hr=>?_) (fun i row j d e1 e2=>?_) (fun i row j d u e1 e2 eu=>?_) (tag ok.1 od)
  ·have:=hs (D.fu os ts row) (zaF.2 ⟨row,hr,rfl⟩)
   rwa [gM,zaw]at this
  ·rw[hG];exact h1 i _ j _ (dX i row e1) (iN row j d e2)
  ·rw[hG]at eu;exact ih i _ j _ u (dX i row e1) (iN row j d e2) eu d rfl (w5 (abx ok.2 e1) e2)
 |agg cells vs hl h1 _ ih=>
  intro d0 e ok
  cases d0<;>simp only[D.dm]at e<;>first|(split at e<;>cases e;done)|skip
  all_goals try (cases e;done)
  rename_i Uk
  simp only[D.agg.injEq]at e
  subst e
  simp only[D.ok]at ok
  rw[gM]at hl ih
  refine .agg Uk vs (by simpa using hl) h1 (fun i d v e1 e2=>ih i _ v (by rw[zao,e1];rfl) e2 d rfl (w5 ok e1))
 |tuple ds vs hl _ ih=>
  intro d0 e ok
  cases d0<;>simp only[D.dm]at e<;>first|(split at e<;>cases e;done)|skip
  all_goals try (cases e;done)
  rename_i Uk
  simp only[D.tuple.injEq]at e
  subst e
  simp only[D.ok]at ok
  rw[gM]at hl ih
  refine .tuple Uk vs (by simpa using hl) (fun i d v e1 e2=>ih i _ v (by rw[zao,e1];rfl) e2 d rfl (w5 ok e1))
theorem RD.dm (hG:M0.G=M.G) (ky : ∀ i,i<s0.aq.length→∃ o,os[i]? = some o∧o<s.aq.length∧M.loc o=M0.loc i)
 (lM : ∀ i,i<s0.ay.length→∃ t,ts[i]? = some t∧t<s.ay.length∧s.ay[t]? = s0.ay[i]? ∧M.be t=M0.be i) {d:D} {v:Value} (h:RD M0 s0 d v):RD M s (d.dm os ts) v:=by
 have tag : ∀ {g:Tag} {z len cap:Nat} {base:Option (Nat×Nat)},jO M0 s0 g z len base cap→jO M s (g.dm ts) z len base cap:=by
  intro g z len cap base h
  cases g with
  |full=>exact h
  |shared=>exact h
  |tok t y=>
   obtain⟨h1,h2⟩:=h
   obtain⟨t',e,hD,pP,hb⟩:=lM t h1
   simp only[Tag.dm,e]
   refine⟨hD,fun n hn=>?_⟩
   rw[hb]
   exact h2 n (pP ▸ hn)
 induction h with
 |junk v=>simp only[D.dm];exact .junk v
 |int k x=>simp only[D.dm];exact .int k x
 |bool b=>simp only[D.dm];exact .bool b
 |str l=>simp only[D.dm];exact .str l
 |fv=>simp only[D.dm];exact .fv
 |ptr o off ho hk=>
  obtain⟨o',e,hD,hm⟩:=ky o ho
  simp only[D.dm,e]
  have hb:M.ob o'=M0.ob o:=congrArg Prod.snd hm
  have hm:M.mu o'=M0.mu o:=congrArg Prod.fst hm
  rw[← hm]
  exact .ptr o' off hD (by rw[hb];exact hk)
 |gU o ho hk=>
  obtain⟨o',e,hD,hm⟩:=ky o ho
  simp only[D.dm,e]
  have hb:M.ob o'=M0.ob o:=congrArg Prod.snd hm
  have hm:M.mu o'=M0.mu o:=congrArg Prod.fst hm
  rw[← hm]
  exact .gU o' hD (by rw[hb];exact hk)
 |ek z a=>simp only[D.dm];exact .ek z a
 |dM z o g len b cap A ho hk ha hl=>
  obtain⟨o',e,hD,hm⟩:=ky o ho
  simp only[D.dm,e]
  exact .dM z o' g len b cap A hD ((congrArg Prod.snd hm).trans hk) ha hl
 |fC z o g off b cap A ho hk ha=>
  obtain⟨o',e,hD,hm⟩:=ky o ho
  simp only[D.dm,e]
  exact .fC z o' g off b cap A hD ((congrArg Prod.snd hm).trans hk) ha
 |il f ds vs hl _ ih=>
  simp only[D.dm,gM]
  refine .il f _ vs (by simpa using hl) (fun i d v e1 e2=>?_)
  simp only[zao,zav]at e1
  obtain⟨d',e1,rfl⟩:=e1
  exact ih i d' v e1 e2
 |val v hv=>simp only[D.dm];exact .val v hv
 |fM T o v ho ht hv=>
  obtain⟨o',e,hD,hm⟩:=ky o ho
  simp only[D.dm,e]
  have h1:M.mu o'=M0.mu o:=congrArg Prod.fst hm
  have h2:M.ty o'=M0.ty o:=congrArg (fun x=>x.2.ty?) hm
  exact .fM T o' v hD (by rw[h2];exact ht) (by rw[h1];exact hv)
 | dO row off b k h1 h2 ih=>
  simp only[D.dm,gM]
  refine .dO _ off b k (fun i d e=>?_) (fun i d u e eu=>?_)
  ·simp only [zao,zav]at e
   obtain⟨d',e,rfl⟩:=e
   rw[← hG];exact h1 i d' e
  ·simp only [zao,zav]at e
   obtain⟨d',e,rfl⟩:=e
   rw[← hG]at eu;exact ih i d' u e eu
 |jz g z cap hc ht=>simp only[D.dm,D.px];exact .jz _ z cap hc (tag ht)
 |mF z a cap=>simp only[D.dm,D.px,Tag.dm];exact .mF z a cap
 | slice g z rows b k cap hl hs h1 h2 ht ih=>
  simp only[D.dm,DN]
  have hlen:(rows.map (D.fu os ts)).length=rows.length:=by simp
  have key:=RD.slice (M:=M) (s:=s) (g.dm ts) z (rows.map (D.fu os ts)) b k cap (by rw[hlen];exact hl) (fun row hr=>by
   obtain⟨lh,h',rfl⟩:=zaF.1 hr
   rw[gM,zaw];exact hs lh h')
   (fun i row j d e1 e2=>by
    simp only[zao,zav]at e1
    obtain⟨lh,e1,rfl⟩:=e1
    rw[gM]at e2
    simp only[zao,zav]at e2
    obtain⟨d',e2,rfl⟩:=e2
    rw[← hG];exact h1 i lh j d' e1 e2)
   (fun i row j d u e1 e2 eu=>by
    simp only[zao,zav]at e1
    obtain⟨lh,e1,rfl⟩:=e1
    rw[gM]at e2
    simp only[zao,zav]at e2
    obtain⟨d',e2,rfl⟩:=e2
    rw[← hG]at eu;exact ih i lh j d' u e1 e2 eu)
   (by rw[hlen];exact tag ht)
  rw[hlen]at key
  exact key
 |agg cells vs hl h1 _ ih=>
  simp only[D.dm,gM]
  refine .agg _ vs (by simpa using hl) h1 (fun i d v e1 e2=>?_)
  simp only[zao,zav]at e1
  obtain⟨d',e1,rfl⟩:=e1
  exact ih i d' v e1 e2
 |tuple ds vs hl _ ih=>
  simp only[D.dm,gM]
  refine .tuple _ vs (by simpa using hl) (fun i d v e1 e2=>?_)
  simp only[zao,zav]at e1
  obtain⟨d',e1,rfl⟩:=e1
  exact ih i d' v e1 e2
def lJ {α:Type} : List Nat→List α→List α→List α
 | [],new,l=>l++new
 |_::_,[],l=>l
 |o::os,x::xs,l=>lJ os xs (l.set o x)
def lD (os:List Nat) (n k:Nat):List Nat:=os++(List.range k).map (n + ·)
theorem yL {α:Type} : ∀ (os:List Nat) (xs l:List α),os.length≤xs.length→(lJ os xs l).length=l.length+(xs.length - os.length)
 | [],xs,l,_=>by simp[lJ]
 |o::os,[],l,h=>by simp at h
 |o::os,x::xs,l,h=>by
  simp only[lJ]
  rw[yL os xs _ (by simpa using h)]
  simp
theorem Fc {α:Type} : ∀ (os:List Nat) (xs l:List α),os.length≤xs.length→os.Nodup→(∀ o∈os,o<l.length)→
 (∀ (i:Nat) (o:Nat),os[i]? = some o→(lJ os xs l)[o]? = xs[i]?)∧(∀ o,o<l.length→o∉os→(lJ os xs l)[o]? = l[o]?)∧
 (∀ k,(lJ os xs l)[l.length+k]? = xs[os.length+k]?)
 | [],xs,l,_,_,_=>by
  refine⟨by simp,fun o ho _=>by simp only[lJ];rw[zak ho],fun k=>by simp only[lJ];rw[zas (by omega)];simp⟩
 |o::os,[],l,h,_,_=>by simp at h
 | o::os,x::xs,l,h,hn,hD=>by
  simp only[za4]at hn
  have zJ : ∀ q∈os,q<(l.set o x).length:=fun q hq=>by simpa using hD q (by simp[hq])
  obtain⟨h1,h2,h3⟩:=Fc os xs (l.set o x) (by simpa using h) hn.2 zJ
  have ho:o<l.length:=hD o (by simp)
  simp only[lJ]
  refine⟨fun i q e=>?_,fun q hq CG=>?_,fun k=>?_⟩
  ·cases i with
   |zero=>
    simp only[zbe,Option.some.injEq]at e
    subst e
    rw[h2 o (by simpa using ho) hn.1]
    simp[ho]
   |succ i=>simpa using h1 i q (by simpa using e)
  ·have wX:q≠o:=fun e=>CG (by simp [e])
   rw[h2 q (by simpa using hq) (fun h=>CG (by simp[h])),zam (Ne.symm wX)]
  ·have:=h3 k
   simp only[zbr]at this
   rw[this]
   simp only[zat]
   rw[show os.length+1+k=(os.length+k)+1 by omega];simp
theorem EB (os:List Nat) (n k i:Nat):(lD os n k)[i]? = if i<os.length then os[i]? else if i<os.length+k then some (n+(i - os.length))else none:=by
 unfold lD
 split
 ·rename_i h;rw[zak h]
 ·rename_i h
  rw[zas (by omega)]
  split
  ·rename_i h2
   rw[zao,zbX (by omega)];rfl
  ·rename_i h2
   rw[zbC]
   simp;omega
def posOf:List Nat→Nat→Option Nat
 | [],_=>none
 |x::r,o=>if x=o then some 0 else(posOf r o).map (· + 1)
theorem jP : ∀ {l:List Nat} {o i:Nat},posOf l o=some i→l[i]? = some o
 | x::r,o,i,h=>by
  simp only[posOf]at h
  split at h
  ·rename_i e;cases h;simp[e]
  ·cases hp:posOf r o with
   |none=>rw[hp]at h;cases h
   |some j=>rw[hp]at h;cases h;simpa using jP hp
theorem nD : ∀ {l:List Nat} {o i:Nat},l.Nodup→l[i]? = some o→posOf l o=some i
 | x::r,o,i,hn,h=>by
  simp only[za4]at hn
  simp only[posOf]
  cases i with
  |zero=>simp at h;simp[h]
  |succ i=>
   simp at h
   have:x≠o:=fun e=>hn.1 (by rw[e];exact zad h)
   rw[if_neg this,nD hn.2 h];rfl
end
end Go.Abs
namespace Go.Abs
theorem BO {l:List Nat} {n k:Nat} (h:l.Nodup) (hl : ∀ o∈l,o<n):(lD l n k).Nodup:=by
 unfold lD
 rw[zba]
 refine⟨h, ?_,fun a ha b hb=>?_⟩
 ·rw [zby,List.pairwise_map]
  exact List.Pairwise.imp (fun h=>by omega) (zby.1 List.nodup_range)
 ·obtain⟨c,hc,rfl⟩:=zaF.1 hb
  have:=hl a ha
  omega
def iO (M:Map) (os ts:List Nat):Map:=⟨M.G,fun i=>M.loc (os.getD i 0),fun i=>M.be (ts.getD i 0)⟩
def zK (M M0:Map) (os ts:List Nat):Map:=
 ⟨M0.G,fun o=>match posOf os o with|some i=>M0.loc i|none=>M.loc o,fun t=>match posOf ts t with|some i=>M0.be i|none=>M.be t⟩
section
variable {P:Program} {M:Map} {s s0:St} {w:World} {os ts:List Nat}
theorem wL {l:List Nat} {i o:Nat} (h:l[i]? = some o):l.getD i 0=o:=by simp[List.getD,h]
theorem Rel.sub (r:Rel M s w) (wa:os.Nodup) (w6:ts.Nodup) (kn : ∀ o∈os,o<s.aq.length)
 (ho:s0.aq.length=os.length) (yM : ∀ (i o:Nat) (ds:List D),os[i]? = some o→s0.aq[i]? = some ds→s.aq[o]? = some (D.fu os ts ds)∧D.bM os.length ts.length ds=true)
 (ht:s0.ay.length=ts.length) (vJ : ∀ (i t:Nat),ts[i]? = some t→s0.ay[i]? = s.ay[t]?):Rel (iO M os ts) s0 w:=by
 have nth : ∀ i,i<s0.aq.length→∃ o,os[i]? = some o∧o<s.aq.length:=fun i hi=>⟨os[i],zah (by omega),kn _ (List.getElem_mem _)⟩
 have loc : ∀ (i:Nat) o,os[i]? = some o→(iO M os ts).loc i=M.loc o:=fun i o h=>by simp only[iO,wL h]
 have mu : ∀ (i:Nat) o,os[i]? = some o→(iO M os ts).mu i=M.mu o:=fun i o h=>congrArg Prod.fst (loc i o h)
 have be : ∀ (i:Nat) t,ts[i]? = some t→(iO M os ts).be i=M.be t:=fun i t h=>by simp only[iO,wL h]
 have tth : ∀ t,s0.live t→∃ t',ts[t]? = some t'∧s.live t':=fun t ⟨n,hn⟩=>by
  have hD:=(zac.1 hn).1
  have e:ts[t]? = some ts[t]:=zah (by omega)
  exact⟨_,e,n,by rw[← vJ t _ e];exact hn⟩
 refine⟨r.comm,fun i ds e=>?_,fun i hi off=>?_,fun i i' hi jf e=>?_,fun t n e=>?_,fun t b c z i hl e hi=>?_,fun t t' b c z c' z' h h' e e'=>?_⟩
 ·obtain⟨o,h1,_⟩:=nth i (zac.1 e).1
  obtain⟨h2,h3⟩:=yM i o ds h1 e
  obtain⟨vs,T,g1,g2,g3,g4⟩:=r.obj o _ h2
  refine⟨vs,T,by rw[loc i o h1];exact g1,by rw[gM]at g2;simpa using g2,⟨g3.1,by rw[show(iO M os ts).ty i=M.ty o from congrArg (fun x=>x.2.ty?) (loc i o h1)];exact g3.2⟩,fun j d v e1 e2=>?_⟩
  exact RD.DO (M:=M) (M0:=iO M os ts) (s:=s) rfl loc ho be vJ ht (g4 j (d.dm os ts) v (by rw[gM,zao,e1];rfl) e2) d rfl (w5 h3 e1)
 ·obtain⟨o,h1,h2⟩:=nth i hi
  rw[mu i o h1];exact r.kv o h2 off
 ·obtain⟨o,h1,h2⟩:=nth i hi
  obtain⟨o',o9,sG⟩:=nth i' jf
  rw[mu i o h1,mu i' o' o9]at e
  have:=r.inj o o' h2 sG e
  subst this
  have a:=nD wa h1
  have b:=nD wa o9
  rw[a]at b;cases b;rfl
 ·obtain⟨t',h1,h2⟩:=tth t ⟨n,e⟩
  rw[be t t' h1]
  exact r.tok t' n (by rw[← vJ t t' h1];exact e)
 ·obtain⟨t',h1,h2⟩:=tth t hl
  obtain⟨o,h3,h4⟩:=nth i hi
  rw[be t t' h1]at e
  rw[mu i o h3]
  exact r.fw t' b c z o h2 e h4
 ·obtain⟨q,h1,h2⟩:=tth t h
  obtain⟨q',o9,sG⟩:=tth t' h'
  rw[be t q h1]at e
  rw[be t' q' o9]at e'
  have:=r.gP q q' b c z c' z' h2 sG e e'
  subst this
  have a:=nD w6 h1
  have b:=nD w6 o9
  rw[a]at b;cases b;rfl
end
def St.back (s:St) (os ts:List Nat) (s':St):St:=
 ⟨lJ os (s'.aq.map (D.fu (lD os s.aq.length (s'.aq.length - os.length)) (lD ts s.ay.length (s'.ay.length - ts.length)))) s.aq,lJ ts s'.ay s.ay⟩
def D.back (s:St) (os ts:List Nat) (s':St) (d:D):D:=
 d.dm (lD os s.aq.length (s'.aq.length - os.length)) (lD ts s.ay.length (s'.ay.length - ts.length))
theorem bp.frame {P:Program} {f:FuncId} {Q4 args:List D} {s s0:St} {Q0 Q:D→St→Prop} (os ts:List Nat) (h:bp P f Q4 s0 Q0) (wa:os.Nodup) (w6:ts.Nodup) (kn : ∀ o∈os,o<s.aq.length) (zp : ∀ t∈ts,t<s.ay.length)
 (ho:s0.aq.length=os.length) (yM : ∀ (i o:Nat) (ds:List D),os[i]? = some o→s0.aq[i]? = some ds→s.aq[o]? = some (D.fu os ts ds)∧D.bM os.length ts.length ds=true)
 (ht:s0.ay.length=ts.length) (vJ : ∀ (i t:Nat),ts[i]? = some t→s0.ay[i]? = s.ay[t]?)
 (wx:args=D.fu os ts Q4) (o8:D.bM os.length ts.length Q4=true) (k : ∀ d s',Q0 d s'→Q (d.back s os ts s') (s.back os ts s')):bp P f args s Q:=by
 intro M w fN r lC dT ha
 have r0:=r.sub wa w6 kn ho yM ht vJ
 have loc : ∀ (i:Nat) o,os[i]? = some o→(iO M os ts).loc i=M.loc o:=fun i o h=>by simp only[iO,wL h]
 have mu : ∀ (i:Nat) o,os[i]? = some o→(iO M os ts).mu i=M.mu o:=fun i o h=>congrArg Prod.fst (loc i o h)
 have be : ∀ (i:Nat) t,ts[i]? = some t→(iO M os ts).be i=M.be t:=fun i t h=>by simp only[iO,wL h]
 subst wx
 have aec:Laid (iO M os ts) s0 w:=by
  intro g cs hg
  obtain⟨h1,h2,h3⟩:=lC g cs hg
  refine⟨h1,fun o hD=>?_,fun t c z hl hb=>?_⟩
  ·obtain⟨o',n9⟩ : ∃ o',os[o]? = some o':=⟨_,zah (by omega)⟩
   rw[mu o o' n9]
   exact h2 o' (kn o' (zad n9))
  ·obtain⟨n,hn⟩:=hl
   have hD:=(zac.1 hn).1
   obtain⟨t',Ul⟩ : ∃ t',ts[t]? = some t':=⟨_,zah (by omega)⟩
   rw[be t t' Ul]at hb
   exact h3 t' c z ⟨n,by rw[← vJ t t' Ul];exact hn⟩ hb
 have hc:=h (iO M os ts) w fN r0 aec (by rw[dT,gM,zaw]) (fun i d v e1 e2=>
  RD.DO (M:=M) (M0:=iO M os ts) (s:=s) rfl loc ho be vJ ht (ha i (d.dm os ts) v (by rw[gM,zao,e1];rfl) e2) d rfl (w5 o8 e1))
 refine hc.mono ?_
 rintro en w' ⟨zL,d,v,s',rfl,hq,e,r',hv⟩
 have Ez:=e.le.n
 have Gc:=e.le.t
 generalize Q5:lD os s.aq.length (s'.aq.length - os.length)=mY
 generalize Q6:lD ts s.ay.length (s'.ay.length - ts.length)=qE
 have nd:mY.Nodup:=by rw[← Q5];exact BO wa kn
 have ndt:qE.Nodup:=by rw[← Q6];exact BO w6 zp
 have Q7 : ∀ i,mY[i]? = if i<os.length then os[i]? else if i<s'.aq.length then some (s.aq.length+(i - os.length))else none:=fun i=>by
  rw[← Q5,EB];split
  ·rfl
  ·rw[show os.length+(s'.aq.length - os.length)=s'.aq.length by omega]
 have Q8 : ∀ i,qE[i]? = if i<ts.length then ts[i]? else if i<s'.ay.length then some (s.ay.length+(i - ts.length))else none:=fun i=>by
  rw[← Q6,EB];split
  ·rfl
  ·rw[show ts.length+(s'.ay.length - ts.length)=s'.ay.length by omega]
 have hsb:s.back os ts s' = ⟨lJ os (s'.aq.map (D.fu mY qE)) s.aq,lJ ts s'.ay s.ay⟩:=by simp only[St.back,Q5,Q6]
 have hdb:d.back s os ts s'=d.dm mY qE:=by simp only[D.back,Q5,Q6]
 have nq:=k d s' hq
 rw[hsb,hdb]at nq
 obtain⟨p1,p2,p3⟩:=Fc os (s'.aq.map (D.fu mY qE)) s.aq (by simp;omega) wa kn
 obtain⟨q1,q2,q3⟩:=Fc ts s'.ay s.ay (by omega) w6 zp
 have LQ:=yL os (s'.aq.map (D.fu mY qE)) s.aq (by simp;omega)
 have LR:=yL ts s'.ay s.ay (by omega)
 simp only[zaw]at LQ
 generalize rR:(⟨lJ os (s'.aq.map (D.fu mY qE)) s.aq,lJ ts s'.ay s.ay⟩:St)=s2 at nq
 have so:s2.aq=lJ os (s'.aq.map (D.fu mY qE)) s.aq:=by rw[← rR]
 have st:s2.ay=lJ ts s'.ay s.ay:=by rw[← rR]
 -- the framed objects
 have fo : ∀ (i o:Nat),mY[i]? = some o→o<s2.aq.length∧s2.aq[o]? = (s'.aq[i]?).map (D.fu mY qE)∧i<s'.aq.length∧(i<os.length→o<s.aq.length∧os[i]? = some o)∧(os.length≤i→s.aq.length≤o):=by
  intro i o hi
  rw[Q7]at hi
  split at hi
  ·rename_i h1
   have hD:=kn o (zad hi)
   refine⟨by rw[so,LQ];omega,by rw[so,p1 i o hi,zao],by omega,fun _=>⟨hD,hi⟩,fun h=>by omega⟩
  ·split at hi
   ·rename_i h1 h2
    cases hi
    refine⟨by rw[so,LQ];omega, ?_,h2,fun h=>by omega,fun _=>by omega⟩
    rw[so,p3,zao,show os.length+(i - os.length)=i by omega]
   ·cases hi
 have ft : ∀ (i t:Nat),qE[i]? = some t→t<s2.ay.length∧s2.ay[t]? = s'.ay[i]? ∧i<s'.ay.length∧(i<ts.length→t<s.ay.length∧ts[i]? = some t)∧(ts.length≤i→s.ay.length≤t):=by
  intro i t hi
  rw[Q8]at hi
  split at hi
  ·rename_i h1
   have hD:=zp t (zad hi)
   refine⟨by rw[st,LR];omega,by rw[st,q1 i t hi],by omega,fun _=>⟨hD,hi⟩,fun h=>by omega⟩
  ·split at hi
   ·rename_i h1 h2
    cases hi
    refine⟨by rw[st,LR];omega, ?_,h2,fun h=>by omega,fun _=>by omega⟩
    rw[st,q3,show ts.length+(i - ts.length)=i by omega]
   ·cases hi
 -- all others
 have uo : ∀ o,o<s2.aq.length→posOf mY o=none→o<s.aq.length∧o∉os∧s2.aq[o]? = s.aq[o]? :=by
  intro o hD hp
  have py : ∀ i,mY[i]? ≠some o:=fun i hi=>by rw[nD nd hi]at hp;cases hp
  have h1:o<s.aq.length:=by
   rcases zaE o s.aq.length with h|h
   ·exact h
   ·exfalso
    rw[so,LQ]at hD
    refine py (os.length+(o - s.aq.length)) ?_
    rw[Q7,if_neg (by omega),if_pos (by omega)]
    congr 1;omega
  have h2:o∉os:=fun hm=>by
   obtain⟨i,hi⟩:=List.mem_iff_getElem?.1 hm
   have rr:=(zac.1 hi).1
   exact py i (by rw[Q7,if_pos rr];exact hi)
  exact⟨h1,h2,by rw[so,p2 o h1 h2]⟩
 have ut : ∀ t,t<s2.ay.length→posOf qE t=none→t<s.ay.length∧t∉ts∧s2.ay[t]? = s.ay[t]? :=by
  intro t hD hp
  have py : ∀ i,qE[i]? ≠some t:=fun i hi=>by rw[nD ndt hi]at hp;cases hp
  have h1:t<s.ay.length:=by
   rcases zaE t s.ay.length with h|h
   ·exact h
   ·exfalso
    rw[st,LR]at hD
    refine py (ts.length+(t - s.ay.length)) ?_
    rw[Q8,if_neg (by omega),if_pos (by omega)]
    congr 1;omega
  have h2:t∉ts:=fun hm=>by
   obtain⟨i,hi⟩:=List.mem_iff_getElem?.1 hm
   have rr:=(zac.1 hi).1
   exact py i (by rw[Q8,if_pos rr];exact hi)
  exact⟨h1,h2,by rw[st,q2 t h1 h2]⟩
 generalize xT:zK M zL mY qE=M2
 have mG:zL.G=M2.G:=by rw[← xT];rfl
 have lo : ∀ (i o:Nat),mY[i]? = some o→M2.loc o=zL.loc i:=fun i o hi=>by rw[← xT];simp only[zK,nD nd hi]
 have lo0 : ∀ o,posOf mY o=none→M2.loc o=M.loc o:=fun o hp=>by rw[← xT];simp only[zK,hp]
 have mo : ∀ (i o:Nat),mY[i]? = some o→M2.mu o=zL.mu i:=fun i o hi=>congrArg Prod.fst (lo i o hi)
 have LS : ∀ o,posOf mY o=none→M2.mu o=M.mu o:=fun o hp=>congrArg Prod.fst (lo0 o hp)
 have mt : ∀ (i t:Nat),qE[i]? = some t→M2.be t=zL.be i:=fun i t hi=>by rw[← xT];simp only[zK,nD ndt hi]
 have LU : ∀ t,posOf qE t=none→M2.be t=M.be t:=fun t hp=>by rw[← xT];simp only[zK,hp]
 have le:Le M s M2 s2:=by
  refine⟨fun b o v hg=>by rw[← mG];exact e.le.G b o v hg,by rw[so,LQ];omega,fun o hD=>?_,by rw[st,LR];omega,fun t n' hD s5=>?_⟩
  ·cases hp:posOf mY o with
   |none=>rw[lo0 o hp];exact .refl _
   | some i=>
    have hi:=jP hp
    rw[lo i o hi]
    obtain⟨_,_,_,h1,h2⟩:=fo i o hi
    have rr:i<os.length:=by
     rcases zaE i os.length with h|h
     ·exact h
     ·have:=h2 h;omega
    have h3:=e.le.loc i (by omega)
    rw[loc i o (h1 rr).2]at h3
    exact h3
  ·cases hp:posOf qE t with
   |none=>
    obtain⟨_,_,h3⟩:=ut t (by rw[st,LR];omega) hp
    rw[h3]at s5
    exact⟨n',s5,zal _,fun _=>LU t hp⟩
   | some i=>
    have hi:=jP hp
    obtain⟨_,g1,_,h1,h2⟩:=ft i t hi
    have rr:i<ts.length:=by
     rcases zaE i ts.length with h|h
     ·exact h
     ·have:=h2 h;omega
    rw[g1]at s5
    obtain⟨n,h3,h4,h5⟩:=e.le.tk i n' (by omega) s5
    refine⟨n,by rw[← vJ i t (h1 rr).2];exact h3,h4,fun eq=>?_⟩
    rw[mt i t hi,h5 eq,be i t (h1 rr).2]
 have aed : ∀ {d:D} {v:Value},RD zL s' d v→RD M2 s2 (d.dm mY qE) v:=fun hd=>RD.dm mG
  (fun i hi=>by
   obtain⟨o,ho⟩ : ∃ o,mY[i]? = some o:=by
    rw[Q7];split
    ·rename_i h1;exact⟨_,zah h1⟩
    ·exact⟨_,rfl⟩
   exact⟨o,ho,(fo i o ho).1,lo i o ho⟩)
  (fun i hi=>by
   obtain⟨t,ht⟩ : ∃ t,qE[i]? = some t:=by
    rw[Q8];split
    ·rename_i h1;exact⟨_,zah h1⟩
    ·exact⟨_,rfl⟩
   exact⟨t,ht,(ft i t ht).1,(ft i t ht).2.1,mt i t ht⟩) hd
 -- blocks that the callee did not know
 have K1 : ∀ i,s0.live i→∃ t,ts[i]? = some t∧s.live t:=fun i ⟨n,hn⟩=>by
  have hD:=(zac.1 hn).1
  have e1:ts[i]? = some ts[i]:=zah (by omega)
  exact⟨_,e1,n,by rw[← vJ i _ e1];exact hn⟩
 have Q9 : ∀ b,b<w.heap.size→(∀ (i o:Nat),os[i]? = some o→M.mu o≠b)→(∀ (i t:Nat) c z,ts[i]? = some t→s.live t→M.be t≠some (b,c,z))→
  w'.heap[b]? = w.heap[b]? ∧∀ off,zL.G b off=M.G b off:=by
  intro b hb h1 h2
  refine⟨e.kept b hb (fun i hi=>?_) (fun i c z hl=>?_),fun off=>?_⟩
  ·have e1:os[i]? = some os[i]:=zah (by omega)
   rw[mu i _ e1];exact h1 i _ e1
  ·obtain⟨t,e1,hD⟩:=K1 i hl
   rw[be i t e1];exact h2 i t c z e1 hD
  ·apply Classical.byContradiction
   intro eO
   rcases e.ui b off eO with h3|⟨i,c,z,hl,h3⟩
   ·omega
   ·obtain⟨t,e1,hD⟩:=K1 i hl
    rw[be i t e1]at h3
    exact h2 i t c z e1 hD h3
 have aam : ∀ o,o<s.aq.length→o∉os→w'.heap[M.mu o]? = w.heap[M.mu o]? ∧∀ off,zL.G (M.mu o) off=M.G (M.mu o) off:=fun o hD py=>
  Q9 _ (r.sc hD) (fun i o' h1 h2=>py (by rw[← r.inj o' o (kn o' (zad h1)) hD h2];exact zad h1))
   (fun i t c z _ hl h2=>r.fw t _ c z o hl h2 hD rfl)
 have aii : ∀ t b c z,s.live t→t∉ts→M.be t=some (b,c,z)→w'.heap[b]? = w.heap[b]? ∧∀ off,zL.G b off=M.G b off:=fun t b c z hl py hb=>
  Q9 b (r.uP hl hb) (fun i o h1=>r.fw t b c z o hl hb (kn o (zad h1)))
   (fun i t' c' z' h1 pO h2=>py (by rw[r.gP t t' b c z c' z' hl pO hb h2];exact zad h1))
 have lv : ∀ t,s2.live t→(∃ i,qE[i]? = some t∧s'.live i)∨(posOf qE t=none∧s.live t∧t∉ts):=by
  rintro t ⟨n,hn⟩
  cases hp:posOf qE t with
  |none=>
   obtain⟨h1,h2,h3⟩:=ut t (zac.1 hn).1 hp
   exact .inr ⟨rfl,⟨n,by rw[← h3];exact hn⟩,h2⟩
  |some i=>
   have hi:=jP hp
   exact .inl ⟨i,hi,n,by rw[← (ft i t hi).2.1];exact hn⟩
 -- where a framed object lies
 have muc : ∀ (i o:Nat),mY[i]? = some o→(o<s.aq.length∧o∈os∧zL.mu i=M.mu o)∨w.heap.size≤zL.mu i:=by
  intro i o hi
  obtain⟨_,_,h1,h2,h3⟩:=fo i o hi
  rcases e.mo h1 with ⟨h4,h5⟩|h4
  ·have h:i<os.length:=by omega
   exact .inl ⟨(h2 h).1,zad (h2 h).2,by rw[h5,mu i o (h2 h).2]⟩
  ·exact .inr h4
 have bec : ∀ (i t b c z:Nat),qE[i]? = some t→s'.live i→zL.be i=some (b,c,z)→(s.live t∧t∈ts∧∃ c' z',M.be t=some (b,c',z'))∨w.heap.size≤b:=by
  intro i t b c z hi hl hb
  rcases e.sj i b c z hl hb with ⟨h1,c',z',h2⟩|h1
  ·obtain⟨t',e1,hD⟩:=K1 i h1
   have rr:=(zac.1 e1).1
   obtain⟨_,_,_,h3,_⟩:=ft i t hi
   have:=(h3 rr).2
   rw[e1]at this;cases this
   rw[be i _ e1]at h2
   exact .inl ⟨hD,zad e1,c',z',h2⟩
  ·exact .inr h1
 refine⟨M2,d.dm mY qE,v,s2,rfl,nq, ?_, ?_,aed hv⟩
 ·-- Ext
  refine⟨le,fun b hb h1 h2=>?_,fun o h1 h2=>?_,fun t b c z hl hb=>?_,fun b off eO=>?_,e.size,e.os,e.tape,e.output⟩
  ·exact(Q9 b hb (fun i o h3=>h1 o (kn o (zad h3))) (fun i t c z _ hl=>h2 t c z hl)).1
  ·cases hp:posOf mY o with
   |none=>
    have:=(uo o h2 hp).1
    rcases h1 with h1|h1
    ·omega
    ·exact(h1 (LS o hp)).elim
   | some i=>
    have hi:=jP hp
    rw[mo i o hi]at h1 ⊢
    rcases muc i o hi with ⟨h3,_,h5⟩|h3
    ·rcases h1 with h1 | h1
     ·omega
     ·exact(h1 h5).elim
    ·exact h3
  ·rcases lv t hl with ⟨i,hi,pO⟩ | ⟨hp,pO,_⟩
   ·rw [mt i t hi]at hb
    rcases bec i t b c z hi pO hb with ⟨h1,_,h2⟩|h1
    ·exact .inl ⟨h1,h2⟩
    ·exact .inr h1
   ·rw [LU t hp]at hb
    exact .inl ⟨pO,c,z,hb⟩
  ·rw [← mG]at eO
   rcases e.ui b off eO with h1|⟨i,c,z,hl,hb⟩
   ·exact .inl h1
   ·obtain⟨t,e1,hD⟩:=K1 i hl
    rw[be i t e1]at hb
    exact .inr ⟨t,c,z,hD,hb⟩
 ·-- Rel
  refine⟨fun b o v hg=>r'.comm b o v (by rw[mG];exact hg),fun o ds zF=>?_,fun o hD off=>?_,fun o o' hD zJ heq=>?_,fun t n hn=>?_,fun t b c z o hl hb hD=>?_,fun t t' b c z c' z' hl pO hb qC=>?_⟩
  ·cases hp:posOf mY o with
   |some i=>
    have hi:=jP hp
    obtain⟨_,g1,_⟩:=fo i o hi
    rw[g1]at zF
    obtain⟨o6,h1,rfl⟩:=zav.1 zF
    obtain⟨vs,T,h2,h3,h4,h5⟩:=r'.obj i o6 h1
    refine⟨vs,T,by rw[lo i o hi];exact h2,by rw[gM];simpa using h3,⟨h4.1,by rw[show M2.ty o=zL.ty i from congrArg (fun x=>x.2.ty?) (lo i o hi)];exact h4.2⟩,fun j d v e1 e2=>?_⟩
    rw[gM]at e1
    simp only[zao,zav]at e1
    obtain⟨d',e1,rfl⟩:=e1
    exact aed (h5 j d' v e1 e2)
   |none=>
    obtain⟨h1,h2,h3⟩:=uo o (zac.1 zF).1 hp
    rw[h3]at zF
    obtain⟨vs,T,g1,g2,g3,g4⟩:=r.obj o ds zF
    exact⟨vs,T,by rw[lo0 o hp];exact g1.keep (aam o h1 h2).1,g2,⟨g3.1,by rw[show M2.ty o=M.ty o from congrArg (fun x=>x.2.ty?) (lo0 o hp)];exact g3.2⟩,fun j d v e1 e2=>(g4 j d v e1 e2).mono le⟩
  ·cases hp:posOf mY o with
   |some i=>
    have hi:=jP hp
    rw[mo i o hi, ← mG];exact r'.kv i (fo i o hi).2.2.1 off
   |none=>
    obtain⟨h1,h2,h3⟩:=uo o hD hp
    rw[LS o hp, ← mG,(aam o h1 h2).2 off];exact r.kv o h1 off
  ·cases hp:posOf mY o with
   | some i=>
    have hi:=jP hp
    rw[mo i o hi]at heq
    cases oA:posOf mY o' with
    |some i'=>
     have jf:=jP oA
     rw[mo i' o' jf]at heq
     have:=r'.inj i i' (fo i o hi).2.2.1 (fo i' o' jf).2.2.1 heq
     subst this
     rw[hi]at jf;cases jf;rfl
    | none=>
     obtain⟨h1,h2,_⟩:=uo o' zJ oA
     rw[LS o' oA]at heq
     rcases muc i o hi with ⟨h3,h4,h5⟩|h3
     ·rw [h5]at heq
      have:=r.inj o o' h3 h1 heq
      subst this;exact(h2 h4).elim
     ·have:=r.sc h1;omega
   | none=>
    obtain⟨h1,h2,_⟩:=uo o hD hp
    rw[LS o hp]at heq
    cases oA:posOf mY o' with
    | some i'=>
     have jf:=jP oA
     rw[mo i' o' jf]at heq
     rcases muc i' o' jf with ⟨h3,h4,h5⟩|h3
     ·rw [h5]at heq
      have:=r.inj o o' h1 h3 heq
      subst this;exact(h2 h4).elim
     ·have:=r.sc h1;omega
    |none=>
     obtain⟨o9,_,_⟩:=uo o' zJ oA
     rw[LS o' oA]at heq
     exact r.inj o o' h1 o9 heq
  ·rcases lv t ⟨n,hn⟩with ⟨i,hi,hl⟩ | ⟨hp,hl,py⟩
   ·rw [mt i t hi, ← mG]
    exact r'.tok i n (by rw[← (ft i t hi).2.1];exact hn)
   ·obtain⟨_,_,h3⟩:=ut t (zac.1 hn).1 hp
    rw[h3]at hn
    rw[LU t hp]
    rcases r.tok t n hn with h4|⟨b,cap,size,vs,T,g1,g2,g3,g4,g5⟩
    ·exact .inl h4
    ·obtain⟨k1,k2⟩:=aii t b cap size hl py g1
     exact .inr ⟨b,cap,size,vs,T,g1,by rw[k1];exact g2,g3,g4,fun off ho=>by rw[← mG,k2 off];exact g5.1 off ho,g5.2⟩
  ·rcases lv t hl with ⟨i,hi,pO⟩ | ⟨hp,pO,py⟩
   ·rw [mt i t hi]at hb
    cases Gp:posOf mY o with
    |some j=>
     have hj:=jP Gp
     rw[mo j o hj]
     exact r'.fw i b c z j pO hb (fo j o hj).2.2.1
    |none=>
     obtain⟨h1,h2,_⟩:=uo o hD Gp
     rw[LS o Gp]
     rcases bec i t b c z hi pO hb with ⟨h3,_,c',z',h4⟩|h3
     ·exact r.fw t b c' z' o h3 h4 h1
     ·have:=r.sc h1;omega
   ·rw [LU t hp]at hb
    cases Gp:posOf mY o with
    |some j=>
     have hj:=jP Gp
     rw[mo j o hj]
     rcases muc j o hj with ⟨h3,_,h5⟩|h3
     ·rw[h5];exact r.fw t b c z o pO hb h3
     ·have:=r.uP pO hb;omega
    |none=>
     obtain⟨h1,_,_⟩:=uo o hD Gp
     rw[LS o Gp];exact r.fw t b c z o pO hb h1
  ·rcases lv t hl with ⟨i,hi,BP⟩ | ⟨hp,hD,py⟩
   ·rw [mt i t hi]at hb
    rcases lv t' pO with ⟨i',jf,W8⟩|⟨oA,zJ,aap⟩
    ·rw [mt i' t' jf]at qC
     have:=r'.gP i i' b c z c' z' BP W8 hb qC
     subst this
     rw[hi]at jf;cases jf;rfl
    ·rw [LU t' oA]at qC
     rcases bec i t b c z hi BP hb with ⟨h3,h4,c2,z2,h5⟩|h3
     ·have:=r.gP t t' b c2 z2 c' z' h3 zJ h5 qC
      subst this;exact(aap h4).elim
     ·have:=r.uP zJ qC;omega
   ·rw [LU t hp]at hb
    rcases lv t' pO with ⟨i',jf,W8⟩|⟨oA,zJ,aap⟩
    ·rw [mt i' t' jf]at qC
     rcases bec i' t' b c' z' jf W8 qC with ⟨h3,h4,c2,z2,h5⟩|h3
     ·have:=r.gP t t' b c z c2 z2 hD h3 hb h5
      subst this;exact(py h4).elim
     ·have:=r.uP hD hb;omega
    ·rw [LU t' oA]at qC
     exact r.gP t t' b c z c' z' hD zJ hb qC
end Go.Abs
namespace Go.Abs
def Wk (d d':D):Prop:=∀ (M:Map) (s:St) (v:Value),RD M s d v→RD M s d' v
inductive jh:List D→List D→Prop where
 |nil:jh [] []
 |cons {d d':D} {l l':List D} (h:Wk d d') (t:jh l l'):jh (d::l) (d'::l')
inductive ie:List (List D)→List (List D)→Prop where
 |nil:ie [] []
 |cons {r r':List D} {l l':List (List D)} (h:jh r r') (t:ie l l'):ie (r::l) (r'::l')
theorem Wk.refl (d:D):Wk d d:=fun _ _ _ h=>h
theorem Wk.trans {a b c:D} (h:Wk a b) (k:Wk b c):Wk a c:=fun M s v r=>k M s v (h M s v r)
theorem Wk.junk (d:D):Wk d .junk:=fun _ _ v _=> .junk v
theorem jh.refl : ∀ l,jh l l
 | []=> .nil
 |d::l=> .cons (Wk.refl d) (jh.refl l)
theorem ie.refl : ∀ l,ie l l
 | []=> .nil
 |d::l=> .cons (jh.refl d) (ie.refl l)
theorem jh.len {l l':List D} (h:jh l l'):l.length=l'.length:=by
 induction h with
 |nil=>rfl
 |cons _ _ ih=>simp[ih]
theorem ie.len {l l':List (List D)} (h:ie l l'):l.length=l'.length:=by
 induction h with
 |nil=>rfl
 |cons _ _ ih=>simp[ih]
theorem jh.get {l l':List D} (h:jh l l') : ∀ {i:Nat} {d':D},l'[i]? = some d'→∃ d,l[i]? = some d∧Wk d d':=by
 induction h with
 |nil=>intro i d' e;simp at e
 |cons hd _ ih=>
  intro i d' e
  cases i with
  |zero=>simp at e;subst e;exact⟨_,rfl,hd⟩
  |succ i=>simp at e;simpa using ih e
theorem ie.get {l l':List (List D)} (h:ie l l') : ∀ {i:Nat} {d':List D},l'[i]? = some d'→∃ d,l[i]? = some d∧jh d d':=by
 induction h with
 |nil=>intro i d' e;simp at e
 |cons hd _ ih=>
  intro i d' e
  cases i with
  |zero=>simp at e;subst e;exact⟨_,rfl,hd⟩
  |succ i=>simp at e;simpa using ih e
theorem jh.append {a a' b b':List D} (h:jh a a') (k:jh b b'):jh (a++b) (a'++b'):=by
 induction h with
 |nil=>exact k
 |cons hd _ ih=>exact .cons hd ih
theorem ie.append {a a' b b':List (List D)} (h:ie a a') (k:ie b b'):ie (a++b) (a'++b'):=by
 induction h with
 |nil=>exact k
 |cons hd _ ih=>exact .cons hd ih
theorem Wk.agg {l l':List D} (h:jh l l'):Wk (.agg l) (.agg l'):=by
 intro M s v r
 cases r with
 |agg _ vs hl h1 hr=>
  refine .agg _ vs (by rw[← hl,h.len]) h1 fun i d' u e e2=>?_
  obtain⟨d,e1,hw⟩:=h.get e
  exact hw M s u (hr i d u e1 e2)
theorem Wk.tuple {l l':List D} (h:jh l l'):Wk (.tuple l) (.tuple l'):=by
 intro M s v r
 cases r with
 |tuple _ vs hl hr=>
  refine .tuple _ vs (by rw[← hl,h.len]) fun i d' u e e2=>?_
  obtain⟨d,e1,hw⟩:=h.get e
  exact hw M s u (hr i d u e1 e2)
theorem Wk.rows {g:Tag} {z:Nat} {l l':List (List D)} (h:ie l l'):Wk (.slice g z l) (.slice g z l'):=by
 intro M s v r
 cases r with
 |jz _ _ cap hc ht=>cases h;exact .jz _ _ _ hc ht
 |mF _ a cap=>cases h;exact .mF _ a cap
 | slice _ _ _ b k cap hl hs h1 h2 ht=>
  rw[h.len]
  refine .slice g z l' b k cap (by rw[← h.len];exact hl) (fun row hm=>?_) (fun i row j d e e2=>?_) (fun i row j d u e e2 eu=>?_) (by rw[← h.len];exact ht)
  ·obtain⟨i,hi,he⟩:=List.mem_iff_getElem.1 hm
   obtain⟨r0,g1,g2⟩:=h.get (i:=i) (by rw[zah hi,he])
   rw[← g2.len];exact hs r0 (zad g1)
  ·obtain⟨r0,g1,g2⟩:=h.get e
   obtain⟨d0,g3,_⟩:=g2.get e2
   exact h1 i r0 j d0 g1 g3
  ·obtain⟨r0,g1,g2⟩:=h.get e
   obtain⟨d0,g3,g4⟩:=g2.get e2
   exact g4 M s u (h2 i r0 j d0 u g1 g3 eu)
theorem Wk.shared (g:Tag) (z:Nat) (l:List (List D)):Wk (.slice g z l) (.slice .shared z l):=by
 intro M s v r
 cases r with
 |jz _ _ cap hc ht=>exact .jz _ _ _ hc trivial
 |mF _ a cap=>exact .mF _ a cap
 |slice _ _ _ b k cap hl hs h1 h2 ht=>exact .slice _ _ _ b k cap hl hs h1 h2 trivial
theorem Wk.slice {g:Tag} {z:Nat} {l l':List (List D)} (h:ie l l'):Wk (.slice g z l) (.slice .shared z l'):=(Wk.shared g z l).trans (Wk.rows h)
theorem Wk.nil (g:Tag) (z z':Nat):Wk (.slice g z []) (.slice .shared z' []):=by
 intro M s v r
 cases r with
 |jz _ _ cap hc ht=>exact .jz _ _ _ hc trivial
 |mF _ a cap=>exact .mF _ a cap
 |slice _ _ _ b k cap hl hs h1 h2 ht=>exact .slice _ _ [] b k cap hl (by simp) (by simp) (by simp) trivial
theorem Wk.al3 (z z':Nat):Wk (.slice .full z []) (.slice .full z' []):=by
 intro M s v r
 cases r with
 |jz _ _ cap hc ht=>exact .jz _ _ _ hc ht
 |slice _ _ _ b k cap hl hs h1 h2 ht=>exact .slice _ _ [] b k cap hl (by simp) (by simp) (by simp) ht
theorem Rel.lU {M:Map} {s:St} {w:World} {aq:List (List D)} (r:Rel M s w) (h:ie s.aq aq):Rel M ⟨aq,s.ay⟩ w∧Le M s M ⟨aq,s.ay⟩:=by
 have le:Le M s M ⟨aq,s.ay⟩:=⟨fun _ _ _ h=>h,Nat.le_of_eq h.len,fun _ _=> .refl _,zal _,fun t n' _ e=>⟨n',e,zal _,fun _=>rfl⟩⟩
 have hl:=h.len
 refine⟨⟨r.comm,fun o ds e=>?_,fun o ho=>r.kv o (by rw[hl];exact ho),fun o o' ho n9=>r.inj o o' (by rw[hl];exact ho) (by rw[hl];exact n9),r.tok,
  fun t b c z o hv e ho=>r.fw t b c z o hv e (by rw[hl];exact ho),r.gP⟩,le⟩
 obtain⟨ds0,g1,g2⟩:=h.get e
 obtain⟨vs,T,h1,h2,h3,h4⟩:=r.obj o ds0 g1
 refine⟨vs,T,h1,by rw[h2,g2.len],h3,fun i d v e1 e2=>?_⟩
 obtain⟨d0,k1,k2⟩:=g2.get e1
 exact(k2 _ _ _ (h4 i d0 v k1 e2)).mono le
theorem Rel.blank {M:Map} {s:St} {w:World} (r:Rel M s w) :
 Rel (M.fa s.ay.length none) {s with ay:=s.ay++ [some 0]} w∧Le M s (M.fa s.ay.length none) {s with ay:=s.ay++ [some 0]}:=by
 have jH : ∀ t,St.live {s with ay:=s.ay++ [some 0]} t→s.live t∨t=s.ay.length:=by
  rintro t ⟨k,hk⟩
  rcases zaE t s.ay.length with h|h
  ·rw[zak h]at hk;exact .inl ⟨k,hk⟩
  ·have:=(zac.1 hk).1
   simp at this;exact .inr (by omega)
 have hD : ∀ t,s.live t→t<s.ay.length:=fun t ⟨k,hk⟩=>(zac.1 hk).1
 have hold : ∀ t,t<s.ay.length→(M.fa s.ay.length none).be t=M.be t:=fun t h=>by simp[Map.fa];omega
 have du:(M.fa s.ay.length none).be s.ay.length=none:=by simp[Map.fa]
 have le:Le M s (M.fa s.ay.length none) {s with ay:=s.ay++ [some 0]}:=
  ⟨fun _ _ _ h=>h,zal _,fun _ _=> .refl _,by simp,fun t k h e=>by
   rw[zak h]at e
   exact⟨k,e,zal _,fun _=>hold t h⟩⟩
 refine⟨⟨r.comm,fun o ds e=>?_,r.kv,r.inj,fun t k e=>?_,fun t b' c z o hl e n9=>?_,fun t t' b' c z c' z' h h' e e'=>?_⟩,le⟩
 ·obtain⟨fP,T',h3,h4,h5,h6⟩:=r.obj o ds e
  exact⟨fP,T',h3,h4,h5,fun i d v e1 e2=>(h6 i d v e1 e2).mono le⟩
 ·rcases zaE t s.ay.length with h | h
  ·rw [zak h]at e
   rw[hold t h];exact r.tok t k e
  ·have:=(zac.1 e).1
   simp at this
   have:t=s.ay.length:=by omega
   subst this
   simp at e;subst e
   exact .inl ⟨du,rfl⟩
 ·rcases jH t hl with h | h
  ·rw[hold t (hD t h)]at e;exact r.fw t b' c z o h e n9
  ·subst h;rw[du]at e;cases e
 ·rcases jH t h with h | h <;> rcases jH t' h' with h' | h'
  ·rw[hold t (hD t h)]at e;rw[hold t' (hD t' h')]at e';exact r.gP t t' b' c z c' z' h h' e e'
  ·subst h';rw[du]at e';cases e'
  ·subst h;rw[du]at e;cases e
  ·omega
theorem RD.own {M:Map} {s:St} {z z':Nat} {v:Value} (h:RD M s (.slice .full z []) v):RD (M.fa s.ay.length none) {s with ay:=s.ay++ [some 0]} (.slice (.tok s.ay.length) z' []) v:=by
 have key : ∀ base:Option (Nat×Nat),jO (M.fa s.ay.length none) {s with ay:=s.ay++ [some 0]} (.tok s.ay.length) z' 0 base 0:=by
  intro base
  refine⟨by simp,fun n e=>?_⟩
  simp at e
  subst e
  exact⟨zal _,fun _=> .inl ⟨by simp[Map.fa],rfl,fun h=>by cases h⟩⟩
 cases h with
 |jz _ _ cap hc ht=>subst hc;exact .jz _ _ _ rfl (key none)
 |slice _ _ _ b k cap hl hs h1 h2 ht=>
  have:cap=0:=ht
  subst this
  exact .slice _ _ [] b k 0 (zal _) (by simp) (by simp) (by simp) (key _)
section
variable {P:Program} {B:gY} {nt:Nat} {Q:Exit→Tm→St→Prop} {tm:Tm} {s:St}
theorem Sem.wkO {ac:AC} (aq:List (List D)) (hw:ie s.aq aq) (h:Sem P B nt ac Q tm ⟨aq,s.ay⟩):Sem P B nt ac Q tm s:=by
 intro c hc act w ⟨M,e,r,ht,h1,h2⟩
 obtain⟨r',le⟩:=r.lU hw
 refine h c hc act w ⟨M,e.trans ⟨le,fun _ _ _ _=>rfl,fun o h1 h2=>?_,fun t b c z hl e=> .inl ⟨hl,c,z,e⟩,fun _ _ h=>(h rfl).elim,zal _,rfl,rfl,rfl⟩,r',fun k=>(ht k).mono le,h1,h2⟩
 simp only[← hw.len]at h2
 exact h1.elim (fun h1=>absurd h2 (Nat.not_lt.2 h1)) fun h1=>(h1 rfl).elim
theorem CH {M0 M:Map} {s0 s:St} {w0 w:World} (e:Ext M0 s0 w0 M s w) (le:Le M s (M.fa s.ay.length none) {s with ay:=s.ay++ [some 0]}) :
 Ext M0 s0 w0 (M.fa s.ay.length none) {s with ay:=s.ay++ [some 0]} w:=by
 refine e.trans ⟨le,fun _ _ _ _=>rfl,fun o h1 h2=>h1.elim (fun h1=>absurd h2 (Nat.not_lt.2 h1)) (fun h1=>(h1 rfl).elim),fun t b c z hl eq=>?_,fun _ _ h=>(h rfl).elim,zal _,rfl,rfl,rfl⟩
 obtain⟨k,hk⟩:=hl
 rcases zaE t s.ay.length with h|h
 ·refine .inl ⟨⟨k,by rw [zak h]at hk;exact hk⟩,c,z, ?_⟩
  have:(M.fa s.ay.length none).be t=M.be t:=by simp[Map.fa];omega
  rw[← this];exact eq
 ·have:=(zac.1 hk).1
  simp at this
  have:t=s.ay.length:=by omega
  subst this
  simp[Map.fa]at eq
end
def az (P:Program) (f:Nat) (args:List D) (s:St) (d:D) (s':St):Prop:=bp P f args s fun x y=>x=d∧y=s'
def mN (n m:Nat) (res:List (Nat×Option (Bool×Nat))) (d:D) (s':St):Exit→Tm→St→Prop
 | .normal,tm,s| .ret,tm,s=>∃ l,bF res tm s=some l∧Wk ((bG l).fg n m) d∧ie (s.cut n m).aq s'.aq∧(s.cut n m).ay=s'.ay
 |_,_,_=>False
theorem bp.lU {P:Program} {f:FuncId} {args Gq:List D} {s:St} {Q:D→St→Prop} (ha:jh args Gq) (h:bp P f Gq s Q):bp P f args s Q:=
 fun M w fN r lC hl hr=>h M w fN r lC (by rw[hl,ha.len]) fun i d v e1 e2=>by
  obtain⟨d0,g1,g2⟩:=ha.get e1
  exact g2 _ _ _ (hr i d0 v g1 e2)
theorem bp.K3 {P:Program} {f:FuncId} {args:List D} {s:St} {Q Q':D→St→Prop} (h:bp P f args s Q) (hq : ∀ d s1,Q d s1→∃ d' s',Wk d d'∧ie s1.aq s'.aq∧s1.ay=s'.ay∧Q' d' s'):bp P f args s Q':=
 fun M w fN r lC hl ha=>(h M w fN r lC hl ha).mono fun _ _ ⟨M',d,v,s1,h1,h2,h3,h4,h5⟩=>by
  obtain⟨d',s',g1,g2,g3,g4⟩:=hq d s1 h2
  obtain⟨r',le⟩:=h4.lU g2
  have hs:(⟨s'.aq,s1.ay⟩:St)=s':=by rw[g3]
  rw[hs]at r' le
  refine⟨M',d',v,s',h1,g4,h3.trans ⟨le,fun _ _ _ _=>rfl,fun o h1 h2=>?_,fun t b c z hl e=> .inl ⟨by obtain⟨n,hn⟩:=hl;exact⟨n,by rw[g3];exact hn⟩,c,z,e⟩,fun _ _ h=>(h rfl).elim,zal _,rfl,rfl,rfl⟩,r',(g1 _ _ _ h5).mono le⟩
  rw[← g2.len]at h2
  exact h1.elim (fun h1=>absurd h2 (Nat.not_lt.2 h1)) fun h1=>(h1 rfl).elim
theorem az.intro {P:Program} {f:FuncId} {af:AF} {args:List D} {s:St} {d:D} {s':St} (h0 : ∃ fn,P.funcs[f]? = some fn∧cF P fn=some af) (hl:args.length≤af.ntmps)
 (h : ∀ B:gY,B.s=s→Sem P B af.ntmps af.body (mN s.aq.length s.ay.length af.results d s') (ov 0 args) s):az P f args s d s':=by
 obtain⟨fn,hf,hc⟩:=h0
 refine bp.K3 (bp.intro (Q:=fun d1 s1=>Wk d1 d∧ie s1.aq s'.aq∧s1.ay=s'.ay) hf hc hl fun B hB=>(h B hB).mono fun e tm s1 hr=>?_) fun d1 s1 ⟨h1,h2,h3⟩=>⟨d,s',h1,h2,h3,rfl,rfl⟩
 subst hB
 cases e with
 |normal=>obtain⟨l,h1,h2,h3,h4⟩:=hr;exact⟨l,h1,_,_,zal _,zal _,h2,h3,h4⟩
 |ret=>obtain⟨l,h1,h2,h3,h4⟩:=hr;exact⟨l,h1,_,_,zal _,zal _,h2,h3,h4⟩
 |exit id=>exact hr.elim
 |goto l=>exact hr.elim
 |panic ch=>exact hr.elim
 |outgrown=>exact hr.elim
theorem az.use {P:Program} {f:FuncId} {args:List D} {s:St} {d:D} {s':St} {Q:D→St→Prop} (h:az P f args s d s') (hq:Q d s'):bp P f args s Q:=
 bp.mono h fun x y ⟨h1,h2⟩=>by subst h1;subst h2;exact hq
mutual
theorem sv (os ts:List Nat) : ∀ d,D.ok 0 0 d=true→D.dm os ts d=d
 | .junk,_=>by simp[D.dm]
 | .int k n,_=>by simp[D.dm]
 | .bool b,_=>by simp[D.dm]
 | .str l,_=>by simp[D.dm]
 | .fv,_=>by simp[D.dm]
 | .val v,_=>by simp[D.dm]
 | .fM T o,h=>by simp[D.ok]at h
 | .gU o,h=>by simp[D.ok]at h
 | .dM z o g len,h=>by simp[D.ok]at h
 | .fC o g off,h=>by simp[D.ok]at h
 | .ek z,_=>by simp[D.dm]
 | .il f cs,h=>by
  simp only[D.ok]at h
  simp only[D.dm,gf os ts cs h]
 | .ptr o f,h=>by simp[D.ok]at h
 | .dO r f,h=>by
  simp only[D.ok]at h
  simp only[D.dm,gf os ts r h]
 | .slice g z rows,h=>by
  simp only[D.ok,zar]at h
  simp only[D.dm,kb os ts rows h.2]
  cases g with
  |tok t y=>simp[Tag.ok]at h
  |full=>rfl
  |shared=>rfl
 | .agg cs,h=>by
  simp only[D.ok]at h
  simp only[D.dm,gf os ts cs h]
 | .tuple cs,h=>by
  simp only[D.ok]at h
  simp only[D.dm,gf os ts cs h]
theorem gf (os ts:List Nat) : ∀ l,D.bM 0 0 l=true→D.fu os ts l=l
 | [],_=>by simp[D.fu]
 |d::r,h=>by
  simp only[D.bM,zar]at h
  simp only[D.fu,sv os ts d h.1,gf os ts r h.2]
theorem kb (os ts:List Nat) : ∀ l,D.iW 0 0 l=true→D.px os ts l=l
 | [],_=>by simp[D.px]
 |d::r,h=>by
  simp only[D.iW,zar]at h
  simp only[D.px,gf os ts d h.1,kb os ts r h.2]
end
mutual
theorem H5 {n m n' m':Nat} (hn:n≤n') (hm:m≤m') : ∀ d,D.ok n m d=true→D.ok n' m' d=true
 | .junk,_=>rfl
 | .int k n,_=>rfl
 | .bool b,_=>rfl
 | .str l,_=>rfl
 | .fv,_=>rfl
 | .val v,_=>rfl
 | .fM T o,h=>by simp[D.ok]at h ⊢;omega
 | .gU o,h=>by simp[D.ok]at h ⊢;omega
 | .dM z o g len,h=>by simp[D.ok]at h ⊢;omega
 | .fC o g off,h=>by simp[D.ok]at h ⊢;omega
 | .ek z,_=>rfl
 | .il f cs,h=>by
  simp only[D.ok]at h ⊢
  exact jB hn hm cs h
 | .ptr o f,h=>by simp only[D.ok,decide_eq_true_eq]at h ⊢;omega
 | .dO r f,h=>by
  simp only[D.ok]at h ⊢
  exact jB hn hm r h
 | .slice g z rows,h=>by
  simp only[D.ok,zar]at h ⊢
  refine⟨?_,nR hn hm rows h.2⟩
  cases g with
  |tok t y=>simp only[Tag.ok,decide_eq_true_eq]at h ⊢;omega
  |full=>rfl
  |shared=>rfl
 | .agg cs,h=>by
  simp only[D.ok]at h ⊢
  exact jB hn hm cs h
 | .tuple cs,h=>by
  simp only[D.ok]at h ⊢
  exact jB hn hm cs h
theorem jB {n m n' m':Nat} (hn:n≤n') (hm:m≤m') : ∀ l,D.bM n m l=true→D.bM n' m' l=true
 | [],_=>rfl
 |d::r,h=>by
  simp only[D.bM,zar]at h ⊢
  exact⟨H5 hn hm d h.1,jB hn hm r h.2⟩
theorem nR {n m n' m':Nat} (hn:n≤n') (hm:m≤m') : ∀ l,D.iW n m l=true→D.iW n' m' l=true
 | [],_=>rfl
 |d::r,h=>by
  simp only[D.iW,zar]at h ⊢
  exact⟨jB hn hm d h.1,nR hn hm r h.2⟩
end
def S0:St:=⟨[],[]⟩
section
variable {P:Program} {f:Nat}
theorem az.pure {args:List D} {d:D} (h:az P f args S0 d S0) (ha:D.bM 0 0 args=true) (hd:D.ok 0 0 d=true) (s:St):az P f args s d s:=by
 refine bp.frame [] [] h List.nodup_nil List.nodup_nil (by simp) (by simp) rfl (by simp) rfl (by simp) (by rw[gf _ _ _ ha]) ha ?_
 rintro _ _ ⟨rfl,rfl⟩
 refine⟨sv _ _ _ hd, ?_⟩
 simp[St.back,lJ,S0]
theorem az.W9 {args row lh:List D} {d:D} (h:az P f (.ptr 0 0::args) ⟨[row],[]⟩ d ⟨[lh],[]⟩) (ha:D.bM 0 0 args=true) (hr:D.bM 0 0 row=true) (Jl:D.bM 0 0 lh=true) (hd:D.ok 0 0 d=true)
 {s:St} {o:Nat} (ho:s.aq[o]? = some row):az P f (.ptr o 0::args) s d ⟨s.aq.set o lh,s.ay⟩:=by
 refine bp.frame [o] [] h (by simp) List.nodup_nil (by simpa using (zac.1 ho).1) (by simp) rfl (fun i o' ds e1 e2=>?_) rfl (by simp) (by simp[D.fu,D.dm,gf _ _ _ ha])
  (by simp[D.bM,D.ok,jB (zaz 1) (zal 0) _ ha]) ?_
 ·cases i with
  |zero=>simp at e1 e2;subst e1;subst e2;exact⟨by rw[gf _ _ _ hr];exact ho,jB (zaz 1) (zal 0) _ hr⟩
  |succ i=>simp at e1
 ·rintro _ _ ⟨rfl,rfl⟩
  refine⟨sv _ _ _ hd, ?_⟩
  simp[St.back,lJ,gf _ _ _ Jl]
end
end Go.Abs
namespace Go.Abs
theorem X.cQ {x:X} {tm bQ:Tm} (h : ∀ t∈x.reads,tm.get t=bQ.get t):x.ev tm=x.ev bQ:=by
 cases x with
 |s t=>exact h t (by simp[X.reads])
 |k d=>rfl
theorem td {t:Nat} {x:X} : ∀ {l:List X},x∈l→t∈x.reads→t∈pM l
 | [],h,_=>by cases h
 |y::r,h,ht=>by
  simp only[pM,zaq]
  rcases zap.1 h with rfl|h
  ·exact .inl ht
  ·exact .inr (td h ht)
theorem xU {x:Option X} {tm bQ:Tm} (h : ∀ t∈Cj x,tm.get t=bQ.get t):x.map (·.ev tm)=x.map (·.ev bQ):=by
 cases x with
 |none=>rfl
 |some y=>simp only[za3];rw[X.cQ h]
theorem EC {o:AO} {tm bQ:Tm} {s:St} (h : ∀ t∈o.reads,tm.get t=bQ.get t):aS o tm s=aS o bQ s:=by
 cases o with
 |mv x=>
  have hx:x.ev tm=x.ev bQ:=X.cQ fun t ht=>h t (by simp[AO.reads,ht])
  simp only[aS,hx]
 |pick c a b=>
  have hc:c.ev tm=c.ev bQ:=X.cQ fun t ht=>h t (by simp[AO.reads,ht])
  have ha:a.ev tm=a.ev bQ:=X.cQ fun t ht=>h t (by simp[AO.reads,ht])
  have hb:b.ev tm=b.ev bQ:=X.cQ fun t ht=>h t (by simp[AO.reads,ht])
  simp only[aS,hc,ha,hb]
 |alloc z=>
  rfl
 |va z T=>rfl
 |Ce x T=>
  have hx:x.ev tm=x.ev bQ:=X.cQ fun t ht=>h t (by simp[AO.reads,ht])
  simp only[aS,hx]
 |Cg x y=>
  have hx:x.ev tm=x.ev bQ:=X.cQ fun t ht=>h t (by simp[AO.reads,ht])
  have hy:y.ev tm=y.ev bQ:=X.cQ fun t ht=>h t (by simp[AO.reads,ht])
  simp only[aS,hx,hy]
 |apps x y=>
  have hx:x.ev tm=x.ev bQ:=X.cQ fun t ht=>h t (by simp[AO.reads,ht])
  have hy:y.ev tm=y.ev bQ:=X.cQ fun t ht=>h t (by simp[AO.reads,ht])
  simp only[aS,hx,hy]
 |box x=>
  have hx:x.ev tm=x.ev bQ:=X.cQ fun t ht=>h t (by simp[AO.reads,ht])
  simp only[aS,hx]
 |Cd x=>
  have hx:x.ev tm=x.ev bQ:=X.cQ fun t ht=>h t (by simp[AO.reads,ht])
  simp only[aS,hx]
 |load x g n=>
  have hx:x.ev tm=x.ev bQ:=X.cQ fun t ht=>h t (by simp[AO.reads,ht])
  simp only[aS,hx]
 |store p x n=>
  have hp:p.ev tm=p.ev bQ:=X.cQ fun t ht=>h t (by simp[AO.reads,ht])
  have hx:x.ev tm=x.ev bQ:=X.cQ fun t ht=>h t (by simp[AO.reads,ht])
  simp only[aS,hp,hx]
 |F2 x=>
  have hx:x.ev tm=x.ev bQ:=X.cQ fun t ht=>h t (by simp[AO.reads,ht])
  simp only[aS,hx]
 |bin op x y=>
  have hx:x.ev tm=x.ev bQ:=X.cQ fun t ht=>h t (by simp[AO.reads,ht])
  have hy:y.ev tm=y.ev bQ:=X.cQ fun t ht=>h t (by simp[AO.reads,ht])
  simp only[aS,hx,hy]
 |Lm n x y=>
  have hx:x.ev tm=x.ev bQ:=X.cQ fun t ht=>h t (by simp[AO.reads,ht])
  have hy:y.ev tm=y.ev bQ:=X.cQ fun t ht=>h t (by simp[AO.reads,ht])
  simp only[aS,hx,hy]
 |eqs n ks x y=>
  have hx:x.ev tm=x.ev bQ:=X.cQ fun t ht=>h t (by simp[AO.reads,ht])
  have hy:y.ev tm=y.ev bQ:=X.cQ fun t ht=>h t (by simp[AO.reads,ht])
  simp only[aS,hx,hy]
 |Ln n x y=>
  have hx:x.ev tm=x.ev bQ:=X.cQ fun t ht=>h t (by simp[AO.reads,ht])
  have hy:y.ev tm=y.ev bQ:=X.cQ fun t ht=>h t (by simp[AO.reads,ht])
  simp only[aS,hx,hy]
 |un op x=>
  have hx:x.ev tm=x.ev bQ:=X.cQ fun t ht=>h t (by simp[AO.reads,ht])
  simp only[aS,hx]
 |conv k x=>
  have hx:x.ev tm=x.ev bQ:=X.cQ fun t ht=>h t (by simp[AO.reads,ht])
  simp only[aS,hx]
 |F3 x=>
  have hx:x.ev tm=x.ev bQ:=X.cQ fun t ht=>h t (by simp[AO.reads,ht])
  simp only[aS,hx]
 |zk x=>
  have hx:x.ev tm=x.ev bQ:=X.cQ fun t ht=>h t (by simp[AO.reads,ht])
  simp only[aS,hx]
 |F4 x n=>
  have hx:x.ev tm=x.ev bQ:=X.cQ fun t ht=>h t (by simp[AO.reads,ht])
  simp only[aS,hx]
 |TI x n g m=>
  have hx:x.ev tm=x.ev bQ:=X.cQ fun t ht=>h t (by simp[AO.reads,ht])
  simp only[aS,hx]
 |F5 x i n=>
  have hx:x.ev tm=x.ev bQ:=X.cQ fun t ht=>h t (by simp[AO.reads,ht])
  have hi:i.ev tm=i.ev bQ:=X.cQ fun t ht=>h t (by simp[AO.reads,ht])
  simp only[aS,hx,hi]
 |Lp x i=>
  have hx:x.ev tm=x.ev bQ:=X.cQ fun t ht=>h t (by simp[AO.reads,ht])
  have hi:i.ev tm=i.ev bQ:=X.cQ fun t ht=>h t (by simp[AO.reads,ht])
  simp only[aS,hx,hi]
 |ext x i=>
  have hx:x.ev tm=x.ev bQ:=X.cQ fun t ht=>h t (by simp[AO.reads,ht])
  simp only[aS,hx]
 |len x=>
  have hx:x.ev tm=x.ev bQ:=X.cQ fun t ht=>h t (by simp[AO.reads,ht])
  simp only[aS,hx]
 |Lq x=>
  have hx:x.ev tm=x.ev bQ:=X.cQ fun t ht=>h t (by simp[AO.reads,ht])
  simp only[aS,hx]
 |app a b x y=>
  have hx:x.ev tm=x.ev bQ:=X.cQ fun t ht=>h t (by simp[AO.reads,ht])
  have hy:y.ev tm=y.ev bQ:=X.cQ fun t ht=>h t (by simp[AO.reads,ht])
  simp only[aS,hx,hy]
 |mm b x y=>
  have hx:x.ev tm=x.ev bQ:=X.cQ fun t ht=>h t (by simp[AO.reads,ht])
  have hy:y.ev tm=y.ev bQ:=X.cQ fun t ht=>h t (by simp[AO.reads,ht])
  simp only[aS,hx,hy]
 | build z ps=>
  have hp:(ps.map fun p=>(p.1,p.2.1,p.2.2.ev tm))=ps.map fun p=>(p.1,p.2.1,p.2.2.ev bQ):=zbo fun p hp=>by
   have:p.2.2.ev tm=p.2.2.ev bQ:=X.cQ fun t ht=>h t (by simp only[AO.reads];exact td (za1 hp) ht)
   rw[this]
  simp only[aS,hp]
 | qw z m n ps=>
  have hp:(ps.map fun p=>(p.1,p.2.ev tm))=ps.map fun p=>(p.1,p.2.ev bQ):=zbo fun p hp=>by
   have:p.2.ev tm=p.2.ev bQ:=X.cQ fun t ht=>h t (by simp only[AO.reads];exact td (za1 hp) ht)
   rw[this]
  simp only[aS,hp]
 | wR z m n ps=>
  have hp:(ps.map fun p=>(p.1,p.2.ev tm))=ps.map fun p=>(p.1,p.2.ev bQ):=zbo fun p hp=>by
   have:p.2.ev tm=p.2.ev bQ:=X.cQ fun t ht=>h t (by simp only[AO.reads];exact td (za1 hp) ht)
   rw[this]
  simp only[aS,hp]
 |TH n x lo hi=>
  have hx:x.ev tm=x.ev bQ:=X.cQ fun t ht=>h t (by simp[AO.reads,ht])
  have hl:lo.map (·.ev tm)=lo.map (·.ev bQ):=xU fun t ht=>h t (by simp[AO.reads,ht])
  have hh:hi.map (·.ev tm)=hi.map (·.ev bQ):=xU fun t ht=>h t (by simp[AO.reads,ht])
  simp only[aS,hx,hl,hh]
 |Lo x lo hi=>
  have hx:x.ev tm=x.ev bQ:=X.cQ fun t ht=>h t (by simp[AO.reads,ht])
  have hl:lo.map (·.ev tm)=lo.map (·.ev bQ):=xU fun t ht=>h t (by simp[AO.reads,ht])
  have hh:hi.map (·.ev tm)=hi.map (·.ev bQ):=xU fun t ht=>h t (by simp[AO.reads,ht])
  simp only[aS,hx,hl,hh]
 |DH f xs=>
  have hp:(xs.map fun x=>x.ev tm)=xs.map fun x=>x.ev bQ:=zbo fun x hx=>X.cQ fun t ht=>h t (by simp only[AO.reads];exact td hx ht)
  simp only[aS,hp]
 |xK=>rfl
 |Ch m k v=>
  have hm:m.ev tm=m.ev bQ:=X.cQ fun t ht=>h t (by simp[AO.reads,ht])
  have hk:k.ev tm=k.ev bQ:=X.cQ fun t ht=>h t (by simp[AO.reads,ht])
  have hv:v.ev tm=v.ev bQ:=X.cQ fun t ht=>h t (by simp[AO.reads,ht])
  simp only[aS,hm,hk,hv]
 |Ci a b z l c=>
  have hl:l.ev tm=l.ev bQ:=X.cQ fun t ht=>h t (by simp[AO.reads,ht])
  have hk:c.ev tm=c.ev bQ:=X.cQ fun t ht=>h t (by simp[AO.reads,ht])
  simp only[aS,hl,hk]
 |xL o x y=>
  have hx:x.ev tm=x.ev bQ:=X.cQ fun t ht=>h t (by simp[AO.reads,ht])
  have hy:y.ev tm=y.ev bQ:=X.cQ fun t ht=>h t (by simp[AO.reads,ht])
  simp only[aS,hx,hy]
 |AA m k z=>
  have hm:m.ev tm=m.ev bQ:=X.cQ fun t ht=>h t (by simp[AO.reads,ht])
  have hk:k.ev tm=k.ev bQ:=X.cQ fun t ht=>h t (by simp[AO.reads,ht])
  simp only[aS,hm,hk]
theorem Ol {x d:D} {agg:Bool} {size:Nat} {s s':St} (h:AG x agg size s=some (d,s')):s'=s:=by
 unfold AG at h
 (repeat' (split at h))<;>first|(cases h;rfl)|cases h
theorem Om {o:AO} (ho:iM o.kind=false) {tm:Tm} {s s':St} {d:D} (h:aS o tm s=some (d,s')):s'=s:=by
 cases o<;>simp only[AO.kind,iM]at ho<;>first|cases ho|skip
 all_goals
  simp only[aS]at h
  first
   |(cases h;rfl)
   |(repeat' (split at h))<;>first|exact Ol h|(cases h;rfl)|cases h
theorem Ra {o:AO} (ho:o.kind = .pure) {tm:Tm} {s s':St} : (aS o tm s).map (·.1)=(aS o tm s').map (·.1):=by
 cases o<;>simp only[AO.kind]at ho<;>first|cases ho|skip
 all_goals
  simp only[aS]
  first
   |rfl
   |(repeat' split)<;>rfl
def kR (ai:AI) (tm:Tm) (s:St):Option D:=
 match ai with
 | .op _ none o=>(aS o tm s).map (·.1)
 | .op _ (some (t,want)) o=>
  match tm.get t with
  | .bool b=>if b=want then(aS o tm s).map (·.1)else some (.tuple [])
  | .tuple _=>some (.tuple [])
  |_=>none
 |_=>none
def uT (P:Program) (ai:AI) (tm:Tm) (s:St) (d:D) (s':St):Prop:=
 match ai with
 | .op _ g o=>guarded g tm (aS o tm s=some (d,s')) (d = .tuple []∧s'=s)
 | .call _ g f xs=>guarded g tm (bp P f (xs.map (·.ev tm)) s fun x y=>x=d∧y=s') (d = .tuple []∧s'=s)
 | .nil .. =>False
 | .k6 .. =>False
def lV (P:Program) (is:List AI) (K:Tm→St→Prop):List (Nat×Nat)→List St→Tm→St→Prop
 | [],_,tm,s=>K tm s
 | (q,b)::r,bW,tm,s=>
  match is[q]? with
  |none=>False
  |some ai=>
   match iM ai.kind with
   |true=>∃ d s',uT P ai tm s d s'∧lV P is K r (s::bW) (tm.put ai.dst d) s'
   |false=>∃ d,kR ai tm s=some d∧(ai.kind = .load→∀ s'∈bW.take b,kR ai tm s'=some d)∧lV P is K r bW (tm.put ai.dst d) s
def Tm.eqv (a b:Tm):Prop:=∀ t,a.get t=b.get t
theorem Tm.mC (tm:Tm) (dst:Option Nat) (d:D) (t:Nat):(tm.put dst d).get t=if dst=some t then d else tm.get t:=by
 cases dst with
 |none=>simp[Tm.put]
 |some u=>
  simp only[Tm.put,Tm.HY,Option.some.injEq]
  by_cases h:t=u
  ·subst h;simp
  ·rw[if_neg h,if_neg (fun e=>h e.symm)]
theorem Tm.eqv.put {a b:Tm} (h:a.eqv b) (dst:Option Nat) (d:D):(a.put dst d).eqv (b.put dst d):=fun t=>by
 rw[Tm.mC,Tm.mC,h t]
theorem Tm.LV (tm:Tm) {x y:Option Nat} (h : ∀ t,x=some t→y≠some t) (d e:D):((tm.put x d).put y e).eqv ((tm.put y e).put x d):=fun t=>by
 simp only[Tm.mC]
 by_cases h1:x=some t
 ·simp only[h1,h t h1,if_true,if_false]
 ·simp only[h1,if_false]
theorem BQ {g:Option (Nat×Bool)} {tm bQ:Tm} {A A' C:Prop} (h : ∀ t∈wS g,tm.get t=bQ.get t) (ha:A→A') (hh:guarded g tm A C):guarded g bQ A' C:=by
 cases g with
 |none=>exact ha hh
 | some p=>
  obtain⟨t,want⟩:=p
  unfold guarded at *
  simp only at *
  rw[← h t (by simp[wS])]
  split
  ·rename_i b hb
   rw[hb]at hh
   exact⟨fun e=>ha (hh.1 e),hh.2⟩
  ·rename_i hb
   rw[hb]at hh
   exact hh
  ·rename_i x h1 h2
   split at hh
   ·exact h1 _ ‹_›
   ·exact h2 _ ‹_›
   ·exact hh
theorem Jv {tm bQ:Tm} : ∀ {l:List X},(∀ t∈pM l,tm.get t=bQ.get t)→l.map (·.ev tm)=l.map (·.ev bQ)
 | [],_=>rfl
 |x::r,h=>by
  simp only[zaf]
  rw[X.cQ fun t ht=>h t (by simp[pM,ht]),Jv (l:=r) fun t ht=>h t (by simp[pM,ht])]
theorem yN {P:Program} {ai:AI} {tm bQ:Tm} {s s':St} {d:D} (h : ∀ t∈ai.reads,tm.get t=bQ.get t) (hh:uT P ai tm s d s'):uT P ai bQ s d s':=by
 cases ai with
 |op dst g o=>
  simp only[AI.reads,zaq]at h
  exact BQ (fun t ht=>h t (.inl ht)) (fun e=>by rw[← EC fun t ht=>h t (.inr ht)];exact e) hh
 |call dst g f xs=>
  simp only[AI.reads,zaq]at h
  exact BQ (fun t ht=>h t (.inl ht)) (fun e=>by rw[← Jv fun t ht=>h t (.inr ht)];exact e) hh
 |nil dst g n x=>exact hh
 |k6 dst g t xs=>exact hh
theorem sH {ai:AI} {tm bQ:Tm} {s:St} (h : ∀ t∈ai.reads,tm.get t=bQ.get t):kR ai tm s=kR ai bQ s:=by
 cases ai with
 | op dst g o=>
  simp only[AI.reads,zaq]at h
  have he:=EC (s:=s) fun t ht=>h t (.inr ht)
  cases g with
  |none=>simp only[kR,he]
  |some p=>
   obtain⟨t,want⟩:=p
   simp only[kR,he,h t (.inl (by simp[wS]))]
 |call dst g f xs=>rfl
 |nil dst g n x=>rfl
 |k6 dst g t xs=>rfl
theorem Pn {dst:Option Nat} {g:Option (Nat×Bool)} {o:AO} (h:iM (AI.op dst g o).kind=false):(AI.op dst g o).kind=o.kind:=by
 unfold AI.kind at *
 split at h
 ·cases h
 ·rename_i heq;cases heq;rfl
 ·cases h
theorem Xa {ai:AI} (hk:ai.kind = .pure) {tm:Tm} {s s':St} : kR ai tm s=kR ai tm s':=by
 cases ai with
 |op dst g o=>
  have ho:o.kind = .pure:=by rw[← hk];exact(Pn (by rw[hk];rfl)).symm
  have he:=Ra ho (tm:=tm) (s:=s) (s':=s')
  cases g with
  |none=>simp only[kR,he]
  |some p=>simp only[kR,he]
 |call dst g f xs=>rfl
 |nil dst g n x=>rfl
 |k6 dst g t xs=>rfl
theorem apart_spec {a q:AI} (h:a.apart q=true):(∀ t,a.dst=some t→t∉q.reads)∧(∀ t,q.dst=some t→t∉a.reads)∧(∀ t,a.dst=some t→q.dst≠some t):=by
 unfold AI.apart at h
 simp only[zar]at h
 obtain⟨⟨h1,h2⟩,h3⟩:=h
 refine⟨fun t e=>?_,fun t e=>?_,fun t e e'=>?_⟩
 ·rw[e]at h1;simpa[F7]using h1
 ·rw[e]at h2;simpa[F7]using h2
 ·rw[e,e']at h3;simp at h3
theorem uU {tm:Tm} {dst:Option Nat} {d:D} {l:List Nat} (h : ∀ t,dst=some t→t∉l) : ∀ t∈l,tm.get t=(tm.put dst d).get t:=fun t ht=>by
 rw[Tm.mC,if_neg fun e=>h t e ht]
section
variable {P:Program} {is:List AI} {K:Tm→St→Prop}
theorem uV (hK : ∀ tm bQ s,Tm.eqv tm bQ→K tm s→K bQ s) : ∀ (R:List (Nat×Nat)) (bW:List St) (tm bQ:Tm) (s:St),tm.eqv bQ→lV P is K R bW tm s→lV P is K R bW bQ s
 | [],_,tm,bQ,s,e,h=>hK tm bQ s e h
 | (q,b)::R,bW,tm,bQ,s,e,h=>by
  unfold lV at *
  split at h
  ·exact h.elim
  ·rename_i ai xS
   split at h
   ·rename_i hc
    obtain⟨d,s',h1,h2⟩:=h
    exact⟨d,s',yN (fun t _=>e t) h1,uV hK R _ _ _ _ (e.put _ d) h2⟩
   ·rename_i hc
    obtain⟨d,h1,h2,h3⟩:=h
    refine⟨d, ?_,fun hl s' qz=>?_,uV hK R _ _ _ _ (e.put _ d) h3⟩
    ·rw[← sH fun t _=>e t];exact h1
    ·rw[← sH fun t _=>e t];exact h2 hl s' qz
theorem LW (i:Nat) (l:List Nat):kI is (i::l)=(if iM (jZ is i)then 1 else 0)+kI is l:=by
 unfold kI
 rw[List.filter_cons]
 split<;>simp<;>omega
theorem yO (hK : ∀ tm bQ s,Tm.eqv tm bQ→K tm s→K bQ s) {q b:Nat} {ai:AI} (hq:is[q]? = some ai) (hm:iM ai.kind=false) (Y:List (Nat×Nat)) :
 ∀ (X:List (Nat×Nat)) (bW:List St) (tm:Tm) (s:St),(∀ a∈X,mn is a.1 q=true)→(ai.kind = .load→kI is (X.map (·.1))≤b)→
  lV P is K (X++(q,b)::Y) bW tm s→
  ∃ d,kR ai tm s=some d∧(ai.kind = .load→∀ s'∈bW.take (b - kI is (X.map (·.1))),kR ai tm s'=some d)∧lV P is K (X++Y) bW (tm.put ai.dst d) s
 | [],bW,tm,s,_,_,h=>by
  simp only[zaV,lV,hq,hm]at h
  obtain⟨d,h1,h2,h3⟩:=h
  exact⟨d,h1,fun hl s' qz=>h2 hl s' (by simpa[kI]using qz),h3⟩
 | (a,c)::X,bW,tm,s,dd,hb,h=>by
  have Rb:=dd (a,c) (by simp)
  unfold mn at Rb
  split at Rb
  ·rename_i ia iq hia wb
   rw[hq]at wb
   cases wb
   obtain⟨p1,p2,p3⟩:=apart_spec Rb
   have Ub:jZ is a=ia.kind:=by simp[jZ,hia]
   have K0 : ∀ x∈X,mn is x.1 q=true:=fun x hx=>dd x (zan _ hx)
   rw[zaf,LW,Ub]at hb ⊢
   simp only[zaR,lV,hia]at h ⊢
   cases hc:iM ia.kind
   ·simp only [hc,zab,if_false,zaZ]at h hb ⊢
    obtain⟨d,h1,h2,h3⟩:=h
    obtain⟨e,g1,g2,g3⟩:=yO hK hq hm Y X bW _ s K0 hb h3
    have cg : ∀ s,kR ai tm s=kR ai (tm.put ia.dst d) s:=fun s=>sH (uU p1)
    have cg' : ∀ s,kR ia tm s=kR ia (tm.put ai.dst e) s:=fun s=>sH (uU p2)
    refine⟨e,by rw[cg];exact g1,fun hl s' qz=>by rw[cg];exact g2 hl s' qz,d,by rw[← cg'];exact h1,fun hl s' qz=>by rw[← cg'];exact h2 hl s' qz, ?_⟩
    exact uV hK _ _ _ _ _ (Tm.LV tm p3 d e) g3
   ·simp only [hc,if_true]at h hb ⊢
    obtain⟨d,s1,h1,h3⟩:=h
    obtain⟨e,g1,g2,g3⟩:=yO hK hq hm Y X (s::bW) _ s1 K0 (fun hl=>by have:=hb hl;omega) h3
    have cg : ∀ s,kR ai tm s=kR ai (tm.put ia.dst d) s:=fun s=>sH (uU p1)
    have nE:kR ai tm s=some e:=by
     cases hk:ai.kind with
     |pure=>rw[cg,Xa hk (s':=s1)];exact g1
     |load=>
      have:=hb hk
      rw[cg]
      refine g2 hk s ?_
      rw[show b - kI is (X.map (·.1))=(b - (1+kI is (X.map (·.1))))+1 by omega,List.take_succ_cons]
      exact zaA
     |alloc=>rw[hk]at hm;cases hm
     |core=>rw[hk]at hm;cases hm
    refine⟨e,nE,fun hl s' qz=>?_,d,s1,yN (uU p2) h1,uV hK _ _ _ _ _ (Tm.LV tm p3 d e) g3⟩
    have:=hb hl
    rw[cg]
    refine g2 hl s' ?_
    rw[show b - kI is (X.map (·.1))=(b - (1+kI is (X.map (·.1))))+1 by omega,List.take_succ_cons]
    exact zan _ qz
  ·cases Rb
end
end Go.Abs
namespace Go.Abs
section
variable {P:Program}
theorem Uo {o:Oper} {z:List D} (h:Gb P o=some (.alloc z)) : ∃ t,o.op = .alloc t∧zeroOf P t=some z:=by
 obtain⟨dst,op,type,pos,after,guard⟩:=o
 unfold Gb at h
 simp only at h
 split at h
 case h_4 t=>
  split at h
  ·obtain⟨z',h1,h2⟩:=map_some h;cases h2
  ·obtain⟨z',h1,h2⟩:=map_some h;cases h2;exact⟨t,rfl,h1⟩
 all_goals
  first
   |(rw[zav]at h;obtain⟨_,_,h⟩:=h;cases h)
   |skip
 all_goals
  (repeat' (split at h))<;>first|(cases h;done)|(rw[zav]at h;obtain⟨_,_,h⟩:=h;cases h)
theorem CI {nt:Nat} {ops:Array Oper} {o:Oper} {ai:AI} (h:cI P nt ops o=some ai) :
 ∃ g,wT ops o.guard=some g∧(∀ t,o.dst=some t→t<nt)∧uO P ops o g=some ai:=by
 have h2:=zH h
 unfold cI at h
 split at h
 ·cases h
 ·rename_i g hg
  split at h
  ·exact⟨g,hg,h2,h⟩
  ·cases h
theorem vn {ops:Array Oper} {o:Oper} {g:Option (Nat×Bool)} {ai:AI} (h:uO P ops o g=some ai):ai.dst=o.dst:=by
 unfold uO at h
 split at h
 ·split at h
  ·obtain⟨xs,_,rfl⟩:=map_some h;rfl
  ·cases h
 ·obtain⟨xs,_,rfl⟩:=map_some h;rfl
 ·split at h
  ·cases h;rfl
  ·split at h
   ·cases h;rfl
   ·cases h;rfl
   ·cases h
theorem vq {nt:Nat} {ops:Array Oper} {o:Oper} {ai:AI} (h:cI P nt ops o=some ai):ai.dst=o.dst:=by
 obtain⟨g,_,_,h⟩:=CI h
 exact vn h
theorem yP {nt:Nat} {ops:Array Oper} {i:Nat} {o:Oper} {ai:AI} (hi:ops[i]? = some o) (hc:cI P nt ops o=some ai)
 {M:Map} {s:St} {w:World} {tm:Tm} {act:Act} (r:Rel M s w) (lC:Laid M s w) (ht:nr M s tm act.tmps) {K':Tm→St→Prop} (h:jS P [ai] K' tm s)
 {K:Act→World→Prop} {Q:Exit→Act→World→Prop}
 (hK : ∀ d v s1 w1 M1,K' (tm.put ai.dst d) s1→Ext M s w M1 s1 w1→Rel M1 s1 w1→RD M1 s1 d v→K (act.put o.dst v) w1):wpOp P ops Q i K act w:=by
 obtain⟨g,hg,_,hb⟩:=CI hc
 rw[vn hb]at hK
 simp only[wpOp,hi]
 have skip:K' (tm.put o.dst (.tuple [])) s→K (act.put o.dst Go.undef) w:=fun hk=>hK _ _ _ _ _ hk (Ext.refl M s w) r .undef
 unfold uO at hb
 split at hb
 ·rename_i f args oc oa
  split at hb
  ·rename_i nQ
   obtain⟨xs,qj,rfl⟩:=map_some hb
   simp only[jS]at h
   rcases la hg ht h with ⟨hw,hA⟩|⟨hw,hB⟩
   ·simp only [hw,if_true]
    left
    have hex:(execOp act.eval o).run P w = .ok (.enter f (args.map act.eval)) w:=by
     obtain⟨dst,op,type,pos,after,guard⟩:=o
     simp only at oa
     subst oa
     exact yJ act.eval dst f args oc type pos after guard rfl nQ w
    obtain⟨c1,c2⟩:=xR ht qj
    unfold Oper.wp
    rw[hex,Oper.upon_enter]
    refine(hA M w (args.map act.eval) r lC (by simp[c1]) (fun i d v e1 e2=>c2 i d v e1 (by simpa using e2))).mono ?_
    rintro en w' ⟨M',d,v,s',rfl,hk,e',r',hv⟩
    exact hK _ _ _ _ _ hk e' r' hv
   ·simp only [hw]
    exact skip hB
  ·cases hb
 ·rename_i t args oc oa
  obtain⟨xs,qj,rfl⟩:=map_some hb
  simp only[jS]at h
  rcases la hg ht h with ⟨hw,hA⟩|⟨hw,hB⟩
  ·simp only [hw,if_true]
   left
   split at hA
   ·rename_i f pf ko
    obtain⟨nQ,hA⟩:=hA
    have Ue:=ht t
    rw[ko]at Ue
    obtain⟨vs,mX,hlen,Gl⟩:=Ue.Pe
    have hex:(execOp act.eval o).run P w = .ok (.enter f (args.map act.eval++vs)) w:=by
     obtain⟨dst,op,type,pos,after,guard⟩:=o
     simp only at oa
     subst oa
     exact CA act.eval dst (.tmp t) f vs args oc type pos after guard mX nQ w
    have cc:=Jt qj ht hlen Gl
    unfold Oper.wp
    rw[hex,Oper.upon_enter]
    refine(hA M w (args.map act.eval++vs) r lC cc.1 cc.2).mono ?_
    rintro en w' ⟨M',d,v,s',rfl,hk,e',r',hv⟩
    exact hK _ _ _ _ _ hk e' r' hv
   ·exact hA.elim
  ·simp only [hw]
   exact skip hB
 ·split at hb
  ·rename_i neg x yK
   cases hb
   simp only[jS]at h
   rcases la hg ht h with ⟨hw,hA⟩|⟨hw,hB⟩
   ·simp only [hw,if_true]
    left
    split at hA
    ·rename_i g' z rows hx
     obtain⟨b,hb,hex⟩:=BN (w:=w) yK ht hx
     unfold Oper.wp
     rw[hex,Oper.upon_value]
     exact hK _ _ _ _ _ (hA b hb) (Ext.refl M s w) r (.bool _)
    ·exact hA.elim
   ·simp only [hw]
    exact skip hB
  ·have fin : ∀ ao,ai = .op o.dst g ao→(∀ d s',aS ao tm s=some (d,s')→dk P M s w (execOp act.eval o) d s')→
    (if Region.wanted o (yielded ops act.tmps)=true then o.wp P act w K Q∨(o.asks P act w∧LetsOut Q)else K (act.put o.dst Go.undef) w):=by
    intro ao xS LM
    subst xS
    simp only[jS]at h
    rcases la hg ht h with ⟨hw,hA⟩|⟨hw,hB⟩
    ·simp only [hw,if_true]
     left
     split at hA
     ·rename_i d s' sF
      obtain⟨v,w',M',dU,r',hv,e'⟩:=LM d s' sF
      unfold Oper.wp
      rcases dU with dU|⟨dU,rfl⟩
      ·rw [dU,Oper.upon_value]
       exact hK _ _ _ _ _ hA e' r' hv
      ·rw [dU,Oper.upon_skip]
       exact hK _ _ _ _ _ hA e' r' hv
     ·exact hA.elim
    ·simp only [hw]
     exact skip hB
   split at hb
   ·rename_i z k n ps pQ
    cases hb
    refine fin _ rfl (fun d s' sF=>?_)
    split at sF
    ·exact AW pQ r ht sF
    ·exact uS pQ r ht sF
   ·rename_i ao pQ
    cases hb
    exact fin _ rfl (fun d s' sF=>uS pQ r ht sF)
   ·cases hb
structure Po (M:Map) (s:St) (b:Nat):Prop where
 o : ∀ o,o<s.aq.length→M.mu o≠b
 t : ∀ t c z,s.live t→M.be t≠some (b,c,z)
 g : ∀ off,M.G b off=none
theorem Po.mono {M M':Map} {s s':St} {w w':World} {b:Nat} (h:Po M s b) (e:Ext M s w M' s' w') (hb:b<w.heap.size):Po M' s' b:=by
 refine⟨fun o ho=>?_,fun t c z hl he=>?_,fun off=>?_⟩
 ·rcases e.mo ho with ⟨h1,h2⟩ | h1
  ·rw[h2];exact h.o o h1
  ·omega
 ·rcases e.sj t b c z hl he with ⟨h1,c',z',h2⟩ | h1
  ·exact h.t t c' z' h1 h2
  ·omega
 ·by_cases hg:M'.G b off=M.G b off
  ·rw[hg];exact h.g off
  ·rcases e.ui b off hg with h1 | ⟨t,c,z,h1,h2⟩
   ·omega
   ·exact(h.t t c z h1 h2).elim
theorem Rel.idle {M:Map} {s:St} {w:World} (r:Rel M s w) (x:Obj):Rel M s (w.alloc x)∧Ext M s w M s (w.alloc x)∧Po M s w.heap.size:=by
 refine⟨⟨fun b o v e=>?_,fun o ds e=>?_,r.kv,r.inj,fun t n e=>?_,r.fw,r.gP⟩, ?_,⟨fun o ho=>?_,fun t c z hl e=>?_,fun off=>r.Qw (zal _) off⟩⟩
 ·obtain⟨h3,h4⟩:=r.comm b o v e
  refine⟨?_,h4⟩
  rw[World.cell?_alloc_lt]
  ·exact h3
  ·exact r.Co e
 ·obtain⟨vs,T,h3,h4,h5,h6⟩:=r.obj o ds e
  exact⟨vs,T,h3.keep (heap_alloc_old w _ _ h3.lt),h4,h5,h6⟩
 ·rcases r.tok t n e with h3 | ⟨b,cap,size,fP,T',h3,h4,h5⟩
  ·exact .inl h3
  ·exact .inr ⟨b,cap,size,fP,T',h3,by rw[heap_alloc_old w _ _ (k7 h4)];exact h4,h5⟩
 ·exact⟨Le.refl M s,fun b hb _ _=>heap_alloc_old w _ b hb,fun o h3 h4=>by rcases h3 with h3|h3;omega;exact(h3 rfl).elim,fun t b c z h e=> .inl ⟨h,c,z,e⟩,fun _ _ h=>(h rfl).elim,by simp,rfl,rfl,rfl⟩
 ·have:=r.sc ho;omega
 ·have:=r.uP hl e;omega
theorem Rel.aij {M:Map} {s:St} {w:World} (r:Rel M s w) {B:gY} (e:Ext B.M B.s B.w M s w) {b:Nat} (u:Po M s b) (hb:B.w.heap.size≤b)
 (ds:List D) (vs:Array Value) (T:TypeId) (hh:w.heap[b]? = some (.cells vs T (0,0))) (hl:vs.size=ds.length) (h1 : ∀ v∈vs,v.oneCell'=true)
 (h2 : ∀ (i:Nat) (d:D) (v:Value),ds[i]? = some d→vs[i]? = some v→RD M s d v) :
 Rel (M.ep s.aq.length b) {s with aq:=s.aq++ [ds]} w∧Ext B.M B.s B.w (M.ep s.aq.length b) {s with aq:=s.aq++ [ds]} w∧
 Le M s (M.ep s.aq.length b) {s with aq:=s.aq++ [ds]}:=by
 have le:=um (M:=M) s b ds
 have oD : ∀ o,o<s.aq.length→(M.ep s.aq.length b).mu o=M.mu o:=fun o ho=>congrArg Prod.fst (vb M b .any ho)
 have du:(M.ep s.aq.length b).mu s.aq.length=b:=by simp[Map.ep,Map.mu]
 refine⟨⟨r.comm,fun o o6 e'=>?_,fun o ho off=>?_,fun o o' ho n9 e'=>?_,r.tok,fun t b' c z o hl e' ho=>?_,r.gP⟩, ?_,le⟩
 ·rcases zaE o s.aq.length with ho | ho
  ·rw [zak ho]at e'
   obtain⟨fP,T',h3,h4,h5,h6⟩:=r.obj o o6 e'
   refine⟨fP,T', ?_,h4,⟨h5.1,by rw[le.ty o ho];exact h5.2⟩,fun i d v e1 e2=>(h6 i d v e1 e2).mono le⟩
   rw[vb M b .any ho];exact h3
  ·rw [zas ho]at e'
   have:o=s.aq.length:=by
    have:=(zac.1 e').1
    simp at this;omega
   subst this
   simp at e';subst e'
   refine⟨vs,T, ?_,hl,⟨h1,fun T' h=>by simp[Map.ep,Map.ty,Ob.ty?]at h⟩,fun i d v e1 e2=>(h2 i d v e1 e2).mono le⟩
   have hl:(M.ep s.aq.length b).loc s.aq.length=(b, .any):=by simp[Map.ep]
   rw[hl];exact jF.of hh trivial
 ·simp at ho
  rcases zaE o s.aq.length with h3|h3
  ·rw[oD o h3];exact r.kv o h3 off
  ·have:o=s.aq.length:=by omega
   subst this
   rw[du];exact u.g off
 ·simp at ho n9
  rcases zaE o s.aq.length with h3|h3<;>rcases zaE o' s.aq.length with h4|h4
  ·rw[oD o h3,oD o' h4]at e';exact r.inj o o' h3 h4 e'
  ·have:o'=s.aq.length:=by omega
   subst this
   rw[oD o h3,du]at e'
   exact(u.o o h3 e').elim
  ·have:o=s.aq.length:=by omega
   subst this
   rw[oD o' h4,du]at e'
   exact(u.o o' h4 e'.symm).elim
  ·omega
 ·simp at ho
  rcases zaE o s.aq.length with h3|h3
  ·rw[oD o h3];exact r.fw t b' c z o hl e' h3
  ·have:o=s.aq.length:=by omega
   subst this
   rw[du]
   intro he
   subst he
   exact u.t t c z hl e'
 ·refine⟨e.le.trans le,e.kept,fun o h3 h4=> ?_,e.sj,e.ui,e.size,e.os,e.tape,e.output⟩
  simp at h4
  rcases zaE o s.aq.length with h5|h5
  ·rw[oD o h5]at h3 ⊢;exact e.vH o h3 h5
  ·have:o=s.aq.length:=by omega
   subst this
   rw[du];exact hb
theorem On {nt:Nat} {ops:Array Oper} {i:Nat} {o:Oper} {t:Nat} {z:List D} (hi:ops[i]? = some o) (hc:cI P nt ops o=some (.op (some t) none (.alloc z)))
 {w:World} {act:Act} {K:Act→World→Prop} {Q:Exit→Act→World→Prop}
 (hK : ∀ vs T,vs.size=z.length→(∀ v∈vs,v.oneCell'=true)→(∀ (M:Map) (s:St) (i:Nat) (d:D) (v:Value),z[i]? = some d→vs[i]? = some v→RD M s d v)→
  K (act.put (some t) (.pointer (some ⟨w.heap.size,0,none⟩))) (w.alloc (.cells vs T))):wpOp P ops Q i K act w:=by
 obtain⟨g,hg,_,hb⟩:=CI hc
 have sr:=vn hb
 simp only[AI.dst]at sr
 simp only[wpOp,hi]
 have oa:g=none∧Gb P o=some (.alloc z):=by
  unfold uO at hb
  split at hb
  ·split at hb
   ·obtain⟨xs,_,h⟩:=map_some hb;cases h
   ·cases hb
  ·obtain⟨xs,_,h⟩:=map_some hb;cases h
  ·split at hb
   ·cases hb
   ·split at hb
    ·rename_i pQ
     simp only[Option.some.injEq,AI.op.injEq]at hb
     obtain⟨_,_,h⟩:=hb
     split at h<;>cases h
    ·rename_i ao pQ
     simp only[Option.some.injEq,AI.op.injEq]at hb
     obtain⟨_,h1,h2⟩:=hb
     subst h2
     exact⟨h1,pQ⟩
    ·cases hb
 obtain⟨rfl,pQ⟩:=oa
 obtain⟨T,hT,hz⟩:=Uo pQ
 have hw:Region.wanted o (yielded ops act.tmps)=true:=by
  have:o.guard=none:=by
   cases Jk:o.guard with
   |none=>rfl
   |some p=>
    obtain⟨j,b⟩:=p
    rw[Jk]at hg
    unfold wT at hg
    simp only at hg
    split at hg<;>cases hg
  simp[Region.wanted,this]
 simp only[hw,if_true]
 left
 unfold zeroOf at hz
 split at hz
 ·rename_i inf QZ
  split at hz
  ·rename_i v hv
   split at hz
   ·have dU:(execOp act.eval o).run P w = .ok (.value (.pointer (some ⟨w.heap.size,0,none⟩))) (w.alloc (.cells v.cells T)):=by
     obtain⟨dst,op,type,pos,after,guard⟩:=o
     simp only at hT
     subst hT
     simp[execOp,Instr.alloc,zeroValue,gX P QZ,hv,newVar,newRow]
    have h3:=fun M s=>mA (M:=M) (s:=s) hz
    obtain⟨h1,h2,_⟩:=h3 ⟨fun _ _=>none,fun _=>(0, .any),fun _=>none⟩ ⟨[],[]⟩
    unfold Oper.wp
    rw[dU,Oper.upon_value, ← sr]
    exact hK _ _ (by rw[h1];simp) (fun u hu=>h2 u (by simpa using hu)) (fun M s i d u e1 e2=>(h3 M s).2.2 i d u e1 (by simpa using e2))
   ·cases hz
  ·cases hz
 ·cases hz
end
end Go.Abs
namespace Go.Abs
section
variable {is:List AI} {af pt:List (List Nat)}
theorem BR {pq:List Nat} {l l':List Nat} (h:l'.Sublist l) (hb:l8 is pq l=true):l8 is pq l'=true:=by
 induction h with
 |slnil=>rfl
 |cons a h ih=>
  simp only[l8,zar]at hb
  exact ih hb.2
 |cons_cons a h ih=>
  simp only[l8,zar,zaC]at hb ⊢
  refine⟨hb.1.imp id fun h1=>?_,ih hb.2⟩
  rw[za0]at h1 ⊢
  exact fun x hx=>h1 x (h.subset hx)
theorem DP {f:Nat→Bool} {l l':List Nat} (h:l'.Sublist l) (ha:l.all f=true):l'.all f=true:=by
 rw[za0]at ha ⊢
 exact fun x hx=>ha x (h.subset hx)
theorem Oo {l l':List Nat} (h:l'.Sublist l):kI is l'≤kI is l:=(h.filter _).length_le
theorem Rc {pre H6:List Nat} {q b:Nat} (h:H6.Sublist pre) (hs:qx is pt pre q b=true):qx is pt H6 q b=true:=by
 unfold qx at *
 split at hs
 ·exact DP h hs
 ·exact DP h hs
 ·simp only [zar]at hs ⊢
  exact⟨DP h hs.1,BR h hs.2⟩
 ·simp only [zar,decide_eq_true_eq]at hs ⊢
  exact⟨⟨DP h hs.1.1,BR h hs.1.2⟩,zaW (Oo (h.filter _)) hs.2⟩
theorem LX : ∀ {R:List (Nat×Nat)} {pre H6:List Nat},H6.Sublist pre→vY is af pt pre R=true→vY is af pt H6 R=true
 | [],_,_,_,_=>rfl
 |(q,b)::R,pre,H6,h,ho=>by
  simp only[vY,zar,zaH]at ho ⊢
  obtain⟨⟨⟨h1,h2⟩,h3⟩,h4⟩:=ho
  refine⟨⟨⟨Rc h h1, ?_⟩,h3⟩,LX (h.cons_cons q) h4⟩
  rw[← zbD,zbd]at h2 ⊢
  exact fun hm=>h2 (h.subset hm)
theorem H7 : ∀ {X:List (Nat×Nat)} {e:Nat×Nat} {Y:List (Nat×Nat)} {pre:List Nat},vY is af pt pre (X++e::Y)=true→vY is af pt pre (X++Y)=true
 | [],(q,b),Y,pre,h=>by
  simp only[zaV,vY,zar]at h
  exact LX (List.sublist_cons_self q pre) h.2
 |(a,c)::X,e,Y,pre,h=>by
  simp only[zaR,vY,zar]at h ⊢
  obtain⟨⟨⟨h1,h2⟩,h3⟩,h4⟩:=h
  refine⟨⟨⟨h1,h2⟩, ?_⟩,H7 h4⟩
  rw[za0]at h3 ⊢
  intro j hj
  have:=h3 j hj
  simp only[zar,zaH]at this ⊢
  refine⟨this.1, ?_⟩
  have h5:=this.2
  rw[← zbD,zbd]at h5 ⊢
  refine fun hm=>h5 ?_
  simp only[zag,zaf,zaq,zap]at hm ⊢
  exact hm.imp id .inr
theorem vr : ∀ {X:List (Nat×Nat)} {q b:Nat} {Y:List (Nat×Nat)} {pre:List Nat},vY is af pt pre (X++(q,b)::Y)=true→
 qx is pt ((X.map (·.1)).reverse++pre) q b=true∧q∉X.map (·.1)∧q∉pre∧(∀ j∈je af q,j≠q∧j∉Y.map (·.1))∧vY is af pt (q::((X.map (·.1)).reverse++pre)) Y=true
 | [],q,b,Y,pre,h=>by
  simp only[zaV,vY,zar,zaH]at h
  obtain⟨⟨⟨h1,h2⟩,h3⟩,h4⟩:=h
  rw[← zbD,zbd]at h2
  refine⟨h1,by simp,h2,fun j hj=>?_,h4⟩
  rw[za0]at h3
  have:=h3 j hj
  simp only[zar,bne_iff_ne,zaH, ← zbD,zbd]at this
  exact this
 |(a,c)::X,q,b,Y,pre,h=>by
  simp only[zaR,vY,zar]at h
  obtain⟨_,h4⟩:=h
  obtain⟨g1,g2,g3,g4,g5⟩:=vr h4
  simp only[zaf,List.reverse_cons,zaB,List.singleton_append]
  refine⟨g1, ?_,fun h=>g3 (zan _ h),g4,g5⟩
  intro hm
  rcases zap.1 hm with rfl|hm
  ·exact g3 (by simp)
  ·exact g2 hm
theorem DQ : ∀ {Y:List (Nat×Nat)} {pre:List Nat},vY is af pt pre Y=true→∀ x∈Y,x.1∉pre∧(jZ is x.1 = .alloc→∀ a∈pre,mn is a x.1=true)
 | [],_,_,x,hx=>by cases hx
 | (q,b)::Y,pre,h,x,hx=>by
  simp only[vY,zar,zaH]at h
  obtain⟨⟨⟨h1,h2⟩,_⟩,h4⟩:=h
  rw[← zbD,zbd]at h2
  rcases zap.1 hx with rfl|hx
  ·refine⟨h2,fun hk a ha=> ?_⟩
   unfold qx at h1
   simp only[hk]at h1
   rw[za0]at h1
   exact h1 a ha
  ·obtain⟨g1,g2⟩:=DQ h4 x hx
   exact⟨fun h=>g1 (zan _ h),fun hk a ha=>g2 hk a (zan _ ha)⟩
theorem ED : ∀ {n:Nat},zl af pt n=true→∀ i,i<n→∀ j∈je pt i,j∈je af i∨∃ k∈je af i,j∈je pt k
 | 0,_,i,hi=>by omega
 | n+1,h,i,hi=>by
  simp only[zl,zar]at h
  rcases zaE i n with h1|h1
  ·exact ED h.2 i h1
  ·have:i=n:=by omega
   subst this
   intro j hj
   have:=h.1
   rw[za0]at this
   have:=this j hj
   simp only[zaC,zbd,List.any_eq_true]at this
   exact this
theorem zM {pq:List Nat} : ∀ {l:List Nat},l8 is pq l=true→∀ (x:Nat) (l1 l2:List Nat),l=l1++x::l2→jZ is x = .alloc→x∈pq→∀ y∈l2,y∈pq
 | [],_,x,l1,l2,h=>by simp at h
 | a::l,hb,x,l1,l2,h=>by
  simp only[l8,zar,zaC,zaH,Bool.and_eq_false_iff]at hb
  intro hk hx y hy
  cases l1 with
  | nil=>
   simp only[zaV,List.cons.injEq]at h
   obtain⟨rfl,rfl⟩:=h
   rcases hb.1 with h1|h1
   ·rcases h1 with h1 | h1
    ·simp[hk]at h1
    ·rw [← zbD,zbd]at h1
     exact(h1 hx).elim
   ·rw [za0]at h1
    have:=h1 y hy
    rwa [zbd]at this
  |cons b l1=>
   simp only[zaR,List.cons.injEq]at h
   exact zM hb.2 x l1 l2 h.2 hk hx y hy
end
structure Pd where
 q:Nat
 t:Nat
 z:List D
 b:Nat
structure aee (is:List AI) (R:List (Nat×Nat)) (B:gY) (M:Map) (s:St) (act:Act) (w:World) (p:Pd):Prop where
 mem:p.q∈R.map (·.1)
 ai:is[p.q]? = some (.op (some p.t) none (.alloc p.z))
 cells : ∃ (vs:Array Value) (T:TypeId),w.heap[p.b]? = some (.cells vs T (0,0))∧vs.size=p.z.length∧(∀ v∈vs,v.oneCell'=true)∧
  ∀ (M:Map) (s:St) (i:Nat) (d:D) (v:Value),p.z[i]? = some d→vs[i]? = some v→RD M s d v
 unk:Po M s p.b
 base:B.w.heap.size≤p.b
 slot:act.tmps.getD p.t Go.undef = .pointer (some ⟨p.b,0,none⟩)
def AZ (P:Program) (is:List AI) (K:Tm→St→Prop) (B:gY) (nt:Nat) (R:List (Nat×Nat)) (eJ:List Pd) (act:Act) (w:World):Prop:=
 ∃ (M:Map) (s:St) (tm vt:Tm) (bW:List St),Ext B.M B.s B.w M s w∧Rel M s w∧nr M s vt act.tmps∧(∀ t,(∀ p∈eJ,p.t≠t)→vt.get t=tm.get t)∧
  act.tmps.size=nt∧act.defers = []∧lV P is K R bW tm s∧(∀ p∈eJ,aee is R B M s act w p)∧
  (∀ p∈eJ,∀ p'∈eJ,p.q=p'.q∨p.t=p'.t∨p.b=p'.b→p=p')
structure tf (is:List AI) (af pt:List (List Nat)) (dH:Array Bool) (R:List (Nat×Nat)) (eJ:List Pd):Prop where
 ok:vY is af pt [] R=true
 Jw : ∀ i,i<is.length→(dH.getD i false=true↔(i∉R.map (·.1)∨∃ p∈eJ,p.q=i))
 cl : ∀ i,i<is.length→dH.getD i false=true→∀ j∈je pt i,dH.getD j false=true
 size:dH.size=is.length
 lt : ∀ x∈R,x.1<is.length
section
variable {P:Program} {is:List AI} {af pt:List (List Nat)} {K:Tm→St→Prop} {B:gY} {nt:Nat}
theorem aef {dH:Array Bool} {q b:Nat} {R:List (Nat×Nat)} {eJ:List Pd} {act:Act} {w:World} (hs:tf is af pt dH ((q,b)::R) eJ) (h:AZ P is K B nt ((q,b)::R) eJ act w)
 {p:Pd} (hp:p∈eJ) (wc:p.q=q) :
 tf is af pt dH R (eJ.filter fun p'=>decide (p'.q≠q))∧AZ P is K B nt R (eJ.filter fun p'=>decide (p'.q≠q)) act w:=by
 have ij : ∀ p',p'∈(eJ.filter fun p'=>decide (p'.q≠q))↔p'∈eJ∧p'.q≠q:=fun p'=>by simp
 constructor
 ·have o8:=hs.ok
  have Fe:=vr (X:= []) o8
  refine⟨H7 (X:= []) o8,fun i hi=>?_,hs.cl,hs.size,fun x hx=>hs.lt x (zan _ hx)⟩
  rw[hs.Jw i hi]
  simp only[zaf,zap,not_or]
  have hqR:q∉R.map (·.1):=fun hm=>by
   obtain⟨x,hx,rfl⟩:=zaF.1 hm
   exact(DQ Fe.2.2.2.2 x hx).1 (by simp)
  constructor
  ·rintro(⟨h1,h2⟩ | ⟨p',h1,h2⟩)
   ·exact .inl h2
   ·by_cases hq:i=q
    ·subst hq;exact .inl hqR
    ·exact .inr ⟨p',(ij p').2 ⟨h1,by rw[h2];exact hq⟩,h2⟩
  ·rintro(h1 | ⟨p',h1,h2⟩)
   ·by_cases hq:i=q
    ·subst hq;exact .inr ⟨p,hp,wc⟩
    ·exact .inl ⟨hq,h1⟩
   ·exact .inr ⟨p',((ij p').1 h1).1,h2⟩
 ·obtain⟨M,s,tm,vt,bW,e,r,ht,nE,hn,hd,hg,xV,uW⟩:=h
  have hk:=xV p hp
  obtain⟨vs,T,hh,hl,h1,h2⟩:=hk.cells
  have xS:=hk.ai
  rw[wc]at xS
  simp only[lV,xS,AI.kind,iM]at hg
  obtain⟨d,s',gd,hg⟩:=hg
  have sF:aS (.alloc p.z) tm s=some (d,s'):=gd
  simp only[aS,Option.some.injEq,Prod.mk.injEq]at sF
  obtain⟨rfl,rfl⟩:=sF
  obtain⟨r',e',le⟩:=r.aij e hk.unk hk.base p.z vs T hh hl h1 (h2 M s)
  refine⟨_,_,_,vt.put (some p.t) (.ptr s.aq.length 0),_,e',r',fun u=>?_,fun t Pp=>?_,hn,hd,hg,fun p' oA=>?_,fun p1 h1 p2 h2=>uW p1 ((ij p1).1 h1).1 p2 ((ij p2).1 h2).1⟩
  ·rw [Tm.mC]
   split
   ·rename_i heq
    cases heq
    rw[hk.slot]
    have:(M.ep s.aq.length p.b).mu s.aq.length=p.b:=by simp[Map.ep,Map.mu]
    have h5:=RD.ptr (M:=M.ep s.aq.length p.b) (s:= {s with aq:=s.aq++ [p.z]}) s.aq.length 0 (by simp) (by simp[Map.ep,Map.ob,Ob.plain])
    rw[this]at h5
    exact h5
   ·exact(ht u).mono le
  ·simp only [AI.dst]
   rw[Tm.mC,Tm.mC]
   split
   ·rfl
   ·rename_i eO
    refine nE t fun p' oA=>?_
    by_cases hq:p'.q=q
    ·have:=uW p' oA p hp (.inl (hq.trans wc.symm))
     subst this
     exact fun h=>eO (by rw[h])
    ·exact Pp p' ((ij p').2 ⟨oA,hq⟩)
  ·obtain⟨hp1,hp2⟩:=(ij p').1 oA
   have vX:=xV p' hp1
   refine⟨?_,vX.ai,vX.cells,⟨fun o ho=>?_,vX.unk.t,vX.unk.g⟩,vX.base,vX.slot⟩
   ·have:=vX.mem
    simp only[zaf,zap]at this
    exact this.resolve_left hp2
   ·simp at ho
    rcases zaE o s.aq.length with h5|h5
    ·rw[show(M.ep s.aq.length p.b).mu o=M.mu o from congrArg Prod.fst (vb M p.b .any h5)];exact vX.unk.o o h5
    ·have:o=s.aq.length:=by omega
     subst this
     have:(M.ep s.aq.length p.b).mu s.aq.length=p.b:=by simp[Map.ep,Map.mu]
     rw[this]
     intro hb
     have:=uW p hp p' hp1 (.inr (.inr hb))
     subst this
     exact hp2 wc
theorem norm {dH:Array Bool} {act:Act} {w:World} : ∀ (R:List (Nat×Nat)) (eJ:List Pd),tf is af pt dH R eJ→AZ P is K B nt R eJ act w→
 ∃ R' xW,tf is af pt dH R' xW∧AZ P is K B nt R' xW act w∧∀ x l,R'=x::l→∀ p∈xW,p.q≠x.1
 | [],eJ,hs,h=>⟨[],eJ,hs,h,fun _ _ he=>by cases he⟩
 | (q,b)::R,eJ,hs,h=>by
  by_cases hp : ∃ p∈eJ,p.q=q
  ·obtain⟨p,hp,wc⟩:=hp
   obtain⟨h1,h2⟩:=aef hs h hp wc
   exact norm R _ h1 h2
  ·refine⟨(q,b)::R,eJ,hs,h,fun x l he p Jx wc=>hp ⟨p,Jx, ?_⟩⟩
   cases he
   exact wc
theorem aaq {ops:Array Oper} {q:Nat} {o:Oper} {ai:AI} (hi:ops[q]? = some o) (hc:cI P nt ops o=some ai) {R R':List (Nat×Nat)} {eJ:List Pd} {act:Act} {w:World} {M:Map} {s s1:St} {tm vt:Tm} {d:D} {aar:List St}
 (e:Ext B.M B.s B.w M s w) (r:Rel M s w) (ht:nr M s vt act.tmps) (nE : ∀ t,(∀ p∈eJ,p.t≠t)→vt.get t=tm.get t) (hn:act.tmps.size=nt) (hd:act.defers = [])
 (xV : ∀ p∈eJ,aee is R B M s act w p) (uW : ∀ p∈eJ,∀ p'∈eJ,p.q=p'.q∨p.t=p'.t∨p.b=p'.b→p=p')
 (hv:jS P [ai] (fun a b=>a=vt.put ai.dst d∧b=s1) vt s) (hg:lV P is K R' aar (tm.put ai.dst d) s1)
 (ij : ∀ p∈eJ,p.q∈R'.map (·.1)) (sr : ∀ p∈eJ,ai.dst≠some p.t) {Q:Exit→Act→World→Prop} :
 wpOp P ops Q q (AZ P is K B nt R' eJ) act w:=by
 refine yP hi hc r (B.laid.ext e) ht hv fun d' v s2 w1 M1 hk e1 r1 jG=>?_
 obtain⟨xO,rfl⟩:=hk
 have hde:=vq hc
 have hD : ∀ t,o.dst=some t→t<act.tmps.size:=fun t h=>by rw[hn];exact zH hc t h
 refine⟨M1,s2,tm.put ai.dst d,vt.put ai.dst d,aar,e.trans e1,r1, ?_,fun t Pp=>?_, ?_, ?_,hg,fun p hp=>?_,uW⟩
 ·rw [← xO,hde]
  exact(ht.mono e1.le).put hD jG
 ·rw[Tm.mC,Tm.mC,nE t Pp]
 ·cases ho:o.dst<;>simp[Act.put,hn]
 ·cases ho:o.dst<;>simp[Act.put,hd]
 ·have hk:=xV p hp
  obtain⟨vs,T,hh,hl,h1,h2⟩:=hk.cells
  have hb:=k7 hh
  refine⟨ij p hp,hk.ai,⟨vs,T,by rw[e1.kept p.b hb hk.unk.o hk.unk.t];exact hh,hl,h1,h2⟩,hk.unk.mono e1 hb,hk.base, ?_⟩
  rw[← hk.slot]
  have:=sr p hp
  rw[hde]at this
  cases ho:o.dst with
  |none=>rfl
  |some t=>
   rw[ho]at this
   have eO:t≠p.t:=fun h=>this (by rw[h])
   simp[Act.put,zbK eO]
theorem Re {ai:AI} (hm:iM ai.kind=false) {tm:Tm} {s:St} {d:D} (h:kR ai tm s=some d):jS P [ai] (fun a b=>a=tm.put ai.dst d∧b=s) tm s:=by
 cases ai with
 | op dst g o=>
  have hko:=Pn hm
  have key : ∀ {d},(aS o tm s).map (·.1)=some d→aS o tm s=some (d,s):=by
   intro d h
   cases he:aS o tm s with
   |none=>rw[he]at h;cases h
   |some p=>
    obtain⟨d',s'⟩:=p
    rw[he]at h
    simp only[za3,Option.some.injEq]at h
    subst h
    rw[Om (by rw[← hko];exact hm) he]
  simp only[jS,AI.dst]
  cases g with
  |none=>
   simp only[kR]at h
   simp only[guarded,key h,and_self]
  | some p=>
   obtain⟨t,want⟩:=p
   simp only[kR]at h
   simp only[guarded]
   split at h
   ·rename_i b hb
    simp only[hb]
    split at h
    ·rename_i heq
     refine⟨fun _=>by simp only[key h,and_self],fun eO=>?_⟩
     subst heq
     cases b<;>cases eO
    ·rename_i eO
     cases h
     exact⟨fun heq=>(eO heq).elim,fun _=>by simp⟩
   ·rename_i ds hb
    cases h
    simp only[hb,and_self]
   ·cases h
 |call dst g f xs=>cases hm
 |nil dst g n x=>cases hm
 |k6 dst g t xs=>cases hm
theorem CJ {g:Option (Nat×Bool)} {tm:Tm} {A A' C C':Prop} (ha:A→A') (hc:C→C') (hh:guarded g tm A C):guarded g tm A' C':=by
 cases g with
 |none=>exact ha hh
 | some p=>
  obtain⟨t,want⟩:=p
  unfold guarded at *
  simp only at *
  split
  ·rename_i b hb;rw[hb]at hh;exact⟨fun e=>ha (hh.1 e),fun e=>hc (hh.2 e)⟩
  ·rename_i hb;rw[hb]at hh;exact hc hh
  ·rename_i x h1 h2
   split at hh
   ·exact h1 _ ‹_›
   ·exact h2 _ ‹_›
   ·exact hh
theorem LY {ai:AI} {tm:Tm} {s s1:St} {d:D} (h:uT P ai tm s d s1):jS P [ai] (fun a b=>a=tm.put ai.dst d∧b=s1) tm s:=by
 cases ai with
 |op dst g o=>
  refine CJ (fun e=>?_) (fun e=>?_) h
  ·rw[e];exact⟨rfl,rfl⟩
  ·obtain⟨rfl,rfl⟩:=e;exact⟨rfl,rfl⟩
 |call dst g f xs=>
  refine CJ (fun e=>?_) (fun e=>?_) h
  ·exact e.mono fun x y hxy=>by obtain⟨rfl,rfl⟩:=hxy;exact⟨rfl,rfl⟩
  ·obtain⟨rfl,rfl⟩:=e;exact⟨rfl,rfl⟩
 |nil dst g n x=>exact h.elim
 |k6 dst g t xs=>exact h.elim
end
end Go.Abs
namespace Go.Abs
section
variable {P:Program} {is:List AI} {af pt:List (List Nat)} {K:Tm→St→Prop} {B:gY} {nt:Nat}
theorem DR {ops:Array Oper} : ∀ {ol:List Oper} {is:List AI},rP P nt ops ol=some is→is.length=ol.length∧∀ (i:Nat) (o:Oper),ol[i]? = some o→∃ ai,is[i]? = some ai∧cI P nt ops o=some ai
 | [],is,h=>by cases h;exact⟨rfl,by simp⟩
 | o::ol,is,h=>by
  unfold rP at h
  split at h
  ·rename_i ai Ud h1 h2
   cases h
   obtain⟨g1,g2⟩:=DR h2
   refine⟨by simp[g1],fun i o' ho=>?_⟩
   cases i with
   |zero=>simp at ho;subst ho;exact⟨ai,rfl,h1⟩
   |succ i=>exact g2 i o' (by simpa using ho)
  ·cases h
theorem uX {dH:Array Bool} {i:Nat} (h:i<dH.size):dH.getD i true=dH.getD i false:=by
 simp[h]
theorem tf.done {dH:Array Bool} {X Y:List (Nat×Nat)} {q b:Nat} {eJ:List Pd} (hs:tf is af pt dH (X++(q,b)::Y) eJ) (hq:q<is.length)
 (Jy : ∀ j∈je pt q,dH.getD j false=true):tf is af pt (dH.setIfInBounds q true) (X++Y) eJ:=by
 obtain⟨g1,g2,g3,g4,g5⟩:=vr hs.ok
 have hqY:q∉Y.map (·.1):=fun hm=>by
  obtain⟨x,hx,rfl⟩:=zaF.1 hm
  exact(DQ g5 x hx).1 (by simp)
 refine⟨H7 hs.ok,fun i hi=>?_,fun i hi hl j hj=>?_,by simp[hs.size],fun x hx=>hs.lt x (by simp at hx ⊢;exact hx.imp id .inr)⟩
 ·by_cases wb:i=q
  ·subst wb
   have:i<dH.size:=by rw[hs.size];exact hq
   simp only[zag,zaq,g2,hqY,or_self,not_false_eq_true,true_or,iff_true]
   simp[this]
  ·rw [getD_set_ne false (Ne.symm wb),hs.Jw i hi]
   simp[wb]
 ·by_cases wb:i=q
  ·subst wb;exact getD_set_true (Jy j hj)
  ·rw [getD_set_ne false (Ne.symm wb)]at hl
   exact getD_set_true (hs.cl i hi hl j hj)
theorem tf.flag {dH:Array Bool} {R:List (Nat×Nat)} {eJ:List Pd} (hs:tf is af pt dH R eJ) {p:Pd} (hq:p.q<is.length)
 (Jy : ∀ j∈je pt p.q,dH.getD j false=true):tf is af pt (dH.setIfInBounds p.q true) R (p::eJ):=by
 refine⟨hs.ok,fun i hi=>?_,fun i hi hl j hj=>?_,by simp[hs.size],hs.lt⟩
 ·by_cases wb:i=p.q
  ·subst wb
   have:p.q<dH.size:=by rw[hs.size];exact hq
   simp[this]
  ·rw [getD_set_ne false (Ne.symm wb),hs.Jw i hi]
   have eO:p.q≠i:=fun h=>wb h.symm
   simp[eO]
 ·by_cases wb:i=p.q
  ·subst wb;exact getD_set_true (Jy j hj)
  ·rw [getD_set_ne false (Ne.symm wb)]at hl
   exact getD_set_true (hs.cl i hi hl j hj)
theorem Rf {ai:AI} (h:ai.kind = .alloc) : ∃ t z,ai = .op (some t) none (.alloc z):=by
 cases ai with
 | op dst g o=>
  unfold AI.kind at h
  split at h
  ·rename_i heq;cases heq;exact⟨_,_,rfl⟩
  ·rename_i heq
   cases heq
   exfalso
   revert h
   cases o<;>simp[AO.kind]
  ·cases h
 |call dst g f xs=>cases h
 |nil dst g n x=>cases h
 |k6 dst g t xs=>cases h
theorem Rg {ops:Array Oper} (yQ:rP P nt ops ops.toList=some is) (Rh:zl af pt is.length=true)
 (hK : ∀ tm bQ s,Tm.eqv tm bQ→K tm s→K bQ s) {dH:Array Bool} {R:List (Nat×Nat)} {eJ:List Pd} {act:Act} {w:World} (hs:tf is af pt dH R eJ) (h:AZ P is K B nt R eJ act w)
 (aik : ∀ x l,R=x::l→∀ p∈eJ,p.q≠x.1) {q:Nat} (hq:q<is.length) (Gs:dH.getD q false=false) (jG : ∀ j∈je af q,j<is.length∧dH.getD j false=true)
 {Q:Exit→Act→World→Prop} {K2:Act→World→Prop} (hK2 : ∀ R' xW a' w',tf is af pt (dH.setIfInBounds q true) R' xW→AZ P is K B nt R' xW a' w'→K2 a' w'):wpOp P ops Q q K2 act w:=by
 obtain⟨hlen,hY⟩:=DR yQ
 have wX:q<ops.size:=by rw[hlen]at hq;simpa using hq
 obtain⟨ai,xS,Ur⟩:=hY q ops[q] (by simp[wX])
 have hi:ops[q]? = some ops[q]:=by simp[wX]
 have Jy : ∀ j∈je pt q,dH.getD j false=true:=fun j hj=>by
  rcases ED Rh q hq j hj with h1|⟨k,h1,h2⟩
  ·exact(jG j h1).2
  ·exact hs.cl k (jG k h1).1 (jG k h1).2 j h2
 have Us : ∀ p∈eJ,p.q≠q:=fun p hp wc=>by
  have:=(hs.Jw q hq).2 (.inr ⟨p,hp,wc⟩)
  rw[Gs]at this;cases this
 have hqR:q∈R.map (·.1):=by
  by_cases hm:q∈R.map (·.1)
  ·exact hm
  ·have:=(hs.Jw q hq).2 (.inl hm)
   rw[Gs]at this;cases this
 obtain⟨⟨q',b⟩,hx,hqq⟩:=zaF.1 hqR
 simp only at hqq
 subst hqq
 obtain⟨X,Y,rfl⟩:=List.append_of_mem hx
 obtain⟨g1,g2,g3,g4,g5⟩:=vr hs.ok
 rw[zaI]at g1 g5
 obtain⟨M,s,tm,vt,bW,e,r,ht,nE,hn,hd,hg,xV,uW⟩:=h
 have Ut:jZ is q'=ai.kind:=by simp[jZ,xS]
 -- what must have come up ahead of it, is not here any more, but for what was allocated early
 have aas : ∀ a∈X.map (·.1),a∈je pt q'→∃ p∈eJ,p.q=a:=fun a ha dd=>by
  have h1:=Jy a dd
  obtain⟨x,hxX,rfl⟩:=zaF.1 ha
  rcases(hs.Jw x.1 (hs.lt x (by simp[hxX]))).1 h1 with h2|h2
  ·exact(h2 (by simp;exact .inl ⟨x.2,hxX⟩)).elim
  ·exact h2
 have aat : ∀ x l,X=x::l→x.1∉je pt q':=fun x l hX hxp=>by
  obtain⟨p,hp,wc⟩:=aas x.1 (by simp[hX]) hxp
  exact aik x (l++(q',b)::Y) (by simp[hX]) p hp wc
 have hpk : ∀ p∈eJ,jZ is p.q = .alloc:=fun p hp=>by simp[jZ,(xV p hp).ai,AI.kind]
 have Fe : ∀ p∈eJ,(p.q∈X.map (·.1)→mn is p.q q'=true)→(∀ t,ai.dst=some t→t≠p.t)∧p.t∉ai.reads:=fun p hp hX=>by
  have hk:=xV p hp
  have hm:=hk.mem
  simp only[zag,zaf,zaq,zap]at hm
  rcases hm with hm|hm|hm
  ·have:=hX hm
   simp only[mn,hk.ai,xS]at this
   obtain⟨p1,p2,p3⟩:=apart_spec this
   exact⟨fun t ht he=>p3 p.t rfl (by rw[ht,he]),p1 p.t rfl⟩
  ·exact(Us p hp hm).elim
  ·obtain⟨x,hxY,hxq⟩:=zaF.1 hm
   have:=(DQ g5 x hxY).2 (by rw[hxq];exact hpk p hp) q' (by simp)
   rw[hxq]at this
   simp only[mn,hk.ai,xS]at this
   obtain⟨p1,p2,p3⟩:=apart_spec this
   exact⟨fun t ht he=>p3 t ht (by rw[he];rfl),p2 p.t rfl⟩
 have Uu:(∀ p∈eJ,p.t∉ai.reads)→∀ t∈ai.reads,tm.get t=vt.get t:=fun hp t ht=>(nE t fun p Jx he=>hp p Jx (by rw[he];exact ht)).symm
 have aav : ∀ p∈eJ,p.q∈(X++Y).map (·.1):=fun p hp=>by
  have hm:=(xV p hp).mem
  have:=Us p hp
  simp only[zag,zaf,zaq,zap]at hm ⊢
  rcases hm with hm|hm|hm
  ·exact .inl hm
  ·exact(this hm).elim
  ·exact .inr hm
 by_cases qk:ai.kind = .alloc
 ·-- an allocation
  obtain⟨t,z,rfl⟩:=Rf qk
  have dd : ∀ a∈X.map (·.1),mn is a q'=true:=fun a ha=>by
   unfold qx at g1
   rw[Ut,qk]at g1
   simp only[List.all_reverse,za0]at g1
   exact g1 a ha
  have BS:=fun p hp=>Fe p hp (dd p.q)
  refine On hi Ur fun vs T hl h1 h2=>?_
  obtain⟨r1,e1,u1⟩:=r.idle (.cells vs T)
  have aej:t<act.tmps.size:=by
   rw[hn]
   exact zH Ur t (by rw[← vq Ur];rfl)
  have:=hs.flag (p:=⟨q',t,z,w.heap.size⟩) hq Jy
  refine hK2 _ _ _ _ this ⟨M,s,tm,vt.put (some t) .junk,bW,e.trans e1,r1,nr.put ht (dst:=some t) (fun u hu=>by cases hu;exact aej) (.junk _),fun u hu=>?_,by simp[Act.put,hn],by simp[Act.put,hd],hg,fun p hp=>?_,fun p hp p' oA he=>?_⟩
  ·have h3:=hu ⟨q',t,z,w.heap.size⟩ (by simp)
   rw[Tm.mC,if_neg (by simpa using h3)]
   exact nE u fun p hp=>hu p (zan _ hp)
  ·rcases zap.1 hp with rfl | hp
   ·refine⟨by simp,xS,⟨vs,T,heap_alloc_new w _,hl,h1,h2⟩,u1,e.size, ?_⟩
    simp[Act.put,aej]
   ·have hk:=xV p hp
    obtain⟨fP,T',kZ,pO,o9,sG⟩:=hk.cells
    refine⟨hk.mem,hk.ai,⟨fP,T',by rw[heap_alloc_old w _ _ (k7 kZ)];exact kZ,pO,o9,sG⟩,hk.unk,hk.base, ?_⟩
    rw[← hk.slot]
    have eO:t≠p.t:=(BS p hp).1 t rfl
    simp[Act.put,zbK eO]
  ·have du : ∀ p∈eJ,¬ (q'=p.q∨t=p.t∨w.heap.size=p.b):=fun p hp h=>by
    rcases h with h|h|h
    ·exact Us p hp h.symm
    ·exact(BS p hp).1 t rfl h
    ·obtain⟨fP,T',kZ,_⟩:=(xV p hp).cells
     have:=k7 kZ
     omega
   rcases zap.1 hp with rfl|hp<;>rcases zap.1 oA with rfl|oA
   ·rfl
   ·exact(du p' oA he).elim
   ·exact(du p hp (he.imp Eq.symm (Or.imp Eq.symm Eq.symm))).elim
   ·exact uW p hp p' oA he
 ·by_cases pQ:iM ai.kind=true
  ·-- a step that changes something: it stands first
   have hkc:ai.kind = .core:=by
    cases hk:ai.kind<;>simp_all [iM]
   have hX:X = []:=by
    cases X with
    |nil=>rfl
    |cons x l=>
     refine(aat x l rfl ?_).elim
     unfold qx at g1
     rw[Ut,hkc]at g1
     simp only[List.all_reverse,za0]at g1
     have:=g1 x.1 (by simp)
     rwa [zbd]at this
   subst hX
   have BS:=fun p hp=>Fe p hp (fun h=>by simp at h)
   simp only[zaV,lV,xS,pQ]at hg
   obtain⟨d,s1,gd,hg⟩:=hg
   have al4:=yN (Uu fun p hp=>(BS p hp).2) gd
   refine wpOp_mono (fun a' w' hr=>hK2 _ _ _ _ (hs.done hq Jy) hr) ?_
   exact aaq hi Ur e r ht nE hn hd xV uW (LY al4) hg aav (fun p hp he=>(BS p hp).1 _ he rfl)
  ·-- a step that changes nothing
   have hm:iM ai.kind=false:=by simpa using pQ
   have py : ∀ a∈X.map (·.1),a∉je pt q':=fun a ha dd=>by
    obtain⟨p,hp,wc⟩:=aas a ha dd
    have Ub:jZ is a = .alloc:=by rw[← wc];exact hpk p hp
    have lM:l8 is (je pt q') (X.map (·.1)).reverse=true:=by
     unfold qx at g1
     rw[Ut]at g1
     cases hk:ai.kind with
     |pure=>simp only[hk,zar]at g1;exact g1.2
     |load=>simp only[hk,zar]at g1;exact g1.1.2
     |alloc=>exact(qk hk).elim
     |core=>rw[hk]at hm;cases hm
    cases X with
    |nil=>simp at ha
    | cons x l=>
     have ha2:a∈((x::l).map (·.1)).reverse:=List.mem_reverse.2 ha
     obtain⟨l1,l2,qH⟩:=List.append_of_mem ha2
     have w8:=zM lM a l1 l2 qH Ub dd
     refine aat x l rfl ?_
     cases jI:l2.reverse with
     |nil=>
      have h3:l2 = []:=by simpa using jI
      subst h3
      have:=congrArg List.reverse qH
      simp at this
      rw[this.1];exact dd
     |cons y l3=>
      have:=congrArg List.reverse qH
      simp only[List.reverse_reverse,zaf,List.reverse_append,List.reverse_cons,List.reverse_nil,zaB,jI,zaR,zaV,List.cons.injEq]at this
      rw[this.1]
      exact w8 y (by rw[← List.mem_reverse,jI];simp)
   have dd : ∀ a∈X,mn is a.1 q'=true:=fun a ha=>by
    have h3 : ∀ x∈(X.map (·.1)).reverse,((je pt q').contains x ||mn is x q')=true:=by
     unfold qx at g1
     rw[Ut]at g1
     cases hk:ai.kind with
     |pure=>simp only[hk,zar]at g1;exact za0.1 g1.1
     |load=>simp only[hk,zar]at g1;exact za0.1 g1.1.1
     |alloc=>exact(qk hk).elim
     |core=>rw[hk]at hm;cases hm
    have:=h3 a.1 (List.mem_reverse.2 (za1 ha))
    simp only[zaC,zbd]at this
    exact this.resolve_left (py a.1 (za1 ha))
   have aek:ai.kind = .load→kI is (X.map (·.1))≤b:=fun hk=>by
    unfold qx at g1
    rw[Ut,hk]at g1
    simp only[zar,decide_eq_true_eq]at g1
    have h3:=g1.2
    have h4:(X.map (·.1)).reverse.filter (fun a=> !(je pt q').contains a)=(X.map (·.1)).reverse:=by
     rw[List.filter_eq_self]
     intro a ha
     have:=py a (List.mem_reverse.1 ha)
     simpa using this
    rw[h4]at h3
    unfold kI at h3 ⊢
    rw[List.filter_reverse,List.length_reverse]at h3
    exact h3
   have BS:=fun p hp=>Fe p hp (fun h=>by
    obtain⟨x,hx,hxq⟩:=zaF.1 h
    rw[← hxq];exact dd x hx)
   obtain⟨d,h1,_,Ey⟩:=yO hK xS hm Y X bW tm s dd aek hg
   have o9:kR ai vt s=some d:=by rw[← sH (Uu fun p hp=>(BS p hp).2)];exact h1
   refine wpOp_mono (fun a' w' hr=>hK2 _ _ _ _ (hs.done hq Jy) hr) ?_
   exact aaq hi Ur e r ht nE hn hd xV uW (Re hm o9) Ey aav (fun p hp he=>(BS p hp).1 _ he rfl)
theorem EE {o:Oper} {j:Nat} : j∈mr o↔∃ e∈o.after,Region.binds .any e=true∧e.on=j:=by
 simp only[mr,zaF,List.mem_filter,zaU]
 constructor
 ·rintro⟨e,⟨h1,h2⟩,h3⟩;exact⟨e,h1,h2,h3⟩
 ·rintro⟨e,h1,h2,h3⟩;exact⟨e,⟨h1,h2⟩,h3⟩
theorem Rj {ops:Array Oper} (yQ:rP P nt ops ops.toList=some is) (Rh:zl (ops.toList.map mr) pt is.length=true)
 (ael : ∀ i,i<is.length→∀ j∈je (ops.toList.map mr) i,j<is.length) {Q:Exit→Tm→St→Prop} (hK : ∀ tm bQ s,Tm.eqv tm bQ→K tm s→K bQ s)
 (hKQ : ∀ tm s act w,K tm s→Holds B nt tm s act w→rF B nt Q .normal act w) :
 ∀ (fuel:Nat) (dH:Array Bool) (R:List (Nat×Nat)) (eJ:List Pd) (act:Act) (w:World) (U:List Nat),U.length≤fuel→(∀ j,j<is.length→dH.getD j false=false→j∈U)→
  tf is (ops.toList.map mr) pt dH R eJ→AZ P is K B nt R eJ act w→wpAny P .any ops (rF B nt Q) fuel dH act w:=by
 obtain⟨hlen,_⟩:=DR yQ
 have uR:is.length=ops.size:=by rw[hlen];simp
 have aem : ∀ (j:Nat) (o:Oper),ops[j]? = some o→je (ops.toList.map mr) j=mr o:=fun j o h=>by
  simp[je,List.getD,h]
 have fin : ∀ {dH:Array Bool} {eJ:List Pd} {act:Act} {w:World},AZ P is K B nt [] eJ act w→rF B nt Q .normal act w:=by
  intro dH eJ act w h
  obtain⟨M,s,tm,vt,bW,e,r,ht,nE,hn,hd,hg,xV,uW⟩:=h
  have yK : ∀ p∈eJ,False:=fun p hp=>by have:=(xV p hp).mem;simp at this
  exact hKQ vt s act w (hK tm vt s (fun t=>(nE t fun p hp=>(yK p hp).elim).symm) hg) ⟨M,e,r,ht,hn,hd⟩
 have Uv : ∀ {dH:Array Bool} {R:List (Nat×Nat)} {eJ:List Pd} {x:Nat×Nat} {l:List (Nat×Nat)},tf is (ops.toList.map mr) pt dH R eJ→R=x::l→(∀ p∈eJ,p.q≠x.1)→
  x.1∈Region.ready .any ops dH:=by
  intro dH R eJ x l hs hR Us
  subst hR
  have hx:=hs.lt x (by simp)
  rw[mem_ready]
  have Gs:dH.getD x.1 false=false:=by
   cases hl:dH.getD x.1 false with
   |false=>rfl
   |true=>
    rcases(hs.Jw x.1 hx).1 hl with h1|⟨p,hp,wc⟩
    ·exact(h1 (by simp)).elim
    ·exact(Us p hp wc).elim
  have hxo:x.1<ops.size:=by rw[← uR];exact hx
  refine⟨by rw[uX (by rw[hs.size];exact hx)];exact Gs,ops[x.1],by simp[hxo],fun e he hb=>?_⟩
  have hm:e.on∈je (ops.toList.map mr) x.1:=by rw[aem x.1 ops[x.1] (by simp[hxo])];exact EE.2 ⟨e,he,hb,rfl⟩
  obtain⟨_,_,_,g4,_⟩:=vr (X:= []) (q:=x.1) (b:=x.2) hs.ok
  obtain⟨h1,h2⟩:=g4 _ hm
  refine(hs.Jw e.on (ael x.1 hx _ hm)).2 (.inl ?_)
  simp only[zaf,zap,not_or]
  exact⟨h1,h2⟩
 intro fuel
 induction fuel with
 | zero=>
  intro dH R eJ act w U hU Gs hs h
  obtain⟨R',xW,qz,h',hn⟩:=norm R eJ hs h
  have hUn:U = []:=List.length_eq_zero_iff.1 (by omega)
  have w8 : ∀ j,j<is.length→dH.getD j false=true:=fun j hj=>by
   cases hl:dH.getD j false with
   |true=>rfl
   |false=>have:=Gs j hj hl;rw[hUn]at this;cases this
  have hR:R' = []:=by
   cases hR:R' with
   |nil=>rfl
   |cons x l=>
    have hx:=qz.lt x (by simp[hR])
    have:=Uv qz hR (hn x l hR)
    rw[mem_ready,uX (by rw[qz.size];exact hx),w8 x.1 hx]at this
    cases this.1
  subst hR
  refine⟨?_,fin (dH:=dH) h'⟩
  cases hr:Region.ready .any ops dH with
  |nil=>rfl
  |cons j js=>
   have hj:j∈Region.ready .any ops dH:=by rw[hr];simp
   rw[mem_ready]at hj
   obtain⟨h1,o,ho,_⟩:=hj
   have CK:j<is.length:=by rw[uR];exact(zaT.1 ho).1
   rw[uX (by rw[hs.size];exact CK),w8 j CK]at h1
   cases h1
 | succ fuel ih=>
  intro dH R eJ act w U hU Gs hs h
  obtain⟨R',xW,qz,h',hn⟩:=norm R eJ hs h
  refine⟨fun hr=>?_,fun i hi=>?_⟩
  ·cases hR:R' with
   |nil=>subst hR;exact fin (dH:=dH) h'
   |cons x l=>
    have:=Uv qz hR (hn x l hR)
    rw[hr]at this
    cases this
  ·rw [mem_ready]at hi
   obtain⟨h1,o,ho,al5⟩:=hi
   have rr:i<is.length:=by rw[uR];exact(zaT.1 ho).1
   rw[uX (by rw[hs.size];exact rr)]at h1
   refine Rg yQ Rh hK qz h' hn rr h1 (fun j hj=>⟨ael i rr j hj, ?_⟩) fun R2 ain a2 w2 rR h2=>?_
   ·rw [aem i o ho]at hj
    obtain⟨e,he,hb,rfl⟩:=EE.1 hj
    exact al5 e he hb
   ·refine ih _ R2 ain a2 w2 (U.erase i) ?_ (fun j hj hl=> ?_) rR h2
    ·have:=List.length_erase_of_mem (Gs i rr h1)
     omega
    ·have hji:j≠i:=fun e=>by
      subst e
      have:j<dH.size:=by rw[hs.size];exact rr
      simp[this]at hl
     rw[getD_set_ne false (Ne.symm hji)]at hl
     exact(List.mem_erase_of_ne hji).2 (Gs j hj hl)
theorem Sem.par {is:List AI} {mZ:List (Nat×Nat)} {Q:Exit→Tm→St→Prop} {tm:Tm} {s:St} (h:lV P is (Q .normal) mZ [] tm s):Sem P B nt (.par is mZ) Q tm s:=by
 intro c hc act w hh
 obtain⟨id,ops,rfl,hi,hm,pt,hp⟩:=mL hc
 simp only[F8,zar,za0,zbN,zbd,decide_eq_true_eq]at hp
 obtain⟨⟨⟨⟨h1,h2⟩,h3⟩,h4⟩,h5⟩:=hp
 obtain⟨hlen,_⟩:=DR hi
 have uR:is.length=ops.size:=by rw[hlen];simp
 refine wp_region_any hm ?_
 obtain⟨M,e,r,ht,hn,hd⟩:=hh
 have key : ∀ (R:List (Nat×Nat)) (bW:List St) (tm:Tm) (s:St),lV P is (Q .normal) R bW tm s→lV P is (fun tm s=>∃ bQ,tm.eqv bQ∧Q .normal bQ s) R bW tm s:=by
  intro R
  induction R with
  |nil=>intro bW tm s h;exact⟨tm,fun _=>rfl,h⟩
  | cons x R ih=>
   obtain⟨q,b⟩:=x
   intro bW tm s h
   unfold lV at h ⊢
   split at h
   ·exact h.elim
   ·split at h
    ·obtain⟨d,s',h1,h2⟩:=h;exact⟨d,s',h1,ih _ _ _ h2⟩
    ·obtain⟨d,h1,h2,h3⟩:=h;exact⟨d,h1,h2,ih _ _ _ h3⟩
 have hg:=key _ _ _ _ h
 refine Rj (K:=fun tm s=>∃ bQ,tm.eqv bQ∧Q .normal bQ s) hi h1 h5 (fun tm bQ s he ⟨t2,h3,h4⟩=>⟨t2,fun t=>(he t).symm.trans (h3 t),h4⟩)
  (fun tm s act w ⟨t2,h3,h4⟩ ⟨M,e,r,ht,hn,hd⟩=>⟨t2,s,h4,M,e,r,fun t=>by rw[← h3 t];exact ht t,hn,hd⟩) ops.size _ mZ [] act _ (List.range is.length) (by simp[uR]) (fun j hj _=>by simpa using hj)
  ⟨h2,fun i hi=>?_,fun i hi hl=>?_,by simp[uR],h4⟩ ⟨M,s,tm,tm,[],⟨e.le,e.kept,e.vH,e.sj,e.ui,e.size,e.os,e.tape,e.output⟩,r.of_heap rfl,ht,fun _ _=>rfl,hn,hd,hg,by simp,by simp⟩
 ·have:i<ops.size:=by rw [← uR];exact hi
  have h6:=h3 i hi
  simp only[List.not_mem_nil,false_and,exists_false,or_false]
  rw[show(Array.replicate ops.size false).getD i false=false by simp[this]]
  simp[h6]
 ·have:i<ops.size:=by rw [← uR];exact hi
  rw[show(Array.replicate ops.size false).getD i false=false by simp[this]]at hl
  cases hl
end
end Go.Abs
namespace Go.Abs
theorem abB (k:IntKind) (n:Int):D.row (.int k n)=some [.int k n]:=rfl
theorem Xc (b:Bool):D.row (.bool b)=some [.bool b]:=rfl
theorem abC (l:List UInt8):D.row (.str l)=some [.str l]:=rfl
theorem Xd:D.row .fv=some [.fv]:=rfl
theorem abD (o f:Nat):D.row (.ptr o f)=some [.ptr o f]:=rfl
theorem Xe (r:List D) (f:Nat):D.row (.dO r f)=some [.dO r f]:=rfl
theorem Uw (g:Tag) (z:Nat) (r:List (List D)):D.row (.slice g z r)=some [.slice g z r]:=rfl
theorem abE (cs:List D):D.row (.agg cs)=some cs:=rfl
theorem abF (v:Value):D.row (.val v)=some [.val v]:=rfl
theorem Ux (T:TypeId) (o:Nat):D.row (.fM T o)=some [.fM T o]:=rfl
theorem abG (f:Nat) (cs:List D):D.row (.il f cs)=some [.il f cs]:=rfl
theorem Xf (o:Nat):D.row (.gU o)=some [.gU o]:=rfl
theorem Xg (w:Bool):Tag.cut .full w=if w then .full else .shared:=rfl
theorem Rk (w:Bool):Tag.cut .shared w = .shared:=rfl
theorem Xh (t:Nat) (y:Bool) (w:Bool):Tag.cut (.tok t y) w = .tok t y:=rfl
section
variable {P:Program}
def KC (P:Program) (r:List AI) (K:Tm→St→Prop) (tm:Tm) (dst:Option Nat) (d:D) (s:St):Prop:=jS P r K (tm.put dst d) s
def GI (P:Program) (g:D) (want:Bool) (i:AI) (r:List AI) (K:Tm→St→Prop) (tm:Tm) (s:St):Prop:=
 match g with
 | .bool b=>(b=want→jS P (i::r) K tm s)∧(b=(!want)→jS P r K (tm.put i.dst (.tuple [])) s)
 | .tuple _=>jS P r K (tm.put i.dst (.tuple [])) s
 |_=>False
def NI (P:Program) (dst:Option Nat) (neg:Bool) (x:D) (r:List AI) (K:Tm→St→Prop) (tm:Tm) (s:St):Prop:=
 match x with
 | .slice _ _ rows=>∀ b:Bool,(rows≠ []→b=false)→jS P r K (tm.put dst (.bool (if neg then !b else b))) s
 |_=>False
def wy (d:D) (A C:Prop):Prop:=
 match d with
 | .bool b=>(b=true→A)∧(b=false→C)
 |_=>False
theorem Sem.aio {B:gY} {nt:Nat} {Q:Exit→Tm→St→Prop} {tm:Tm} {s:St} {x:X} {a b:AC} (h:wy (x.ev tm) (Sem P B nt a Q tm s) (Sem P B nt b Q tm s)):Sem P B nt (.cond x a b) Q tm s:=by
 unfold wy at h
 split at h
 ·rename_i t ht
  exact Sem.cond ht h.1 h.2
 ·exact h.elim
def iP (P:Program) (K:Tm→St→Prop):List (AI×Nat)→List St→Tm→St→Prop
 | [],_,tm,s=>K tm s
 |(ai,b)::r,bW,tm,s=>
  match iM ai.kind with
  |true=>∃ d s',uT P ai tm s d s'∧iP P K r (s::bW) (tm.put ai.dst d) s'
  |false=>∃ d,kR ai tm s=some d∧(ai.kind = .load→∀ s'∈bW.take b,kR ai tm s'=some d)∧iP P K r bW (tm.put ai.dst d) s
def oI (is:List AI):List (Nat×Nat)→Option (List (AI×Nat))
 | []=>some []
 |(q,b)::r=>match is[q]?,oI is r with
  |some ai,some l=>some ((ai,b)::l)
  |_,_=>none
theorem H8 {is:List AI} {K:Tm→St→Prop} : ∀ {mZ:List (Nat×Nat)} {items:List (AI×Nat)} {bW:List St} {tm:Tm} {s:St},oI is mZ=some items→iP P K items bW tm s→lV P is K mZ bW tm s
 | [],items,bW,tm,s,h,g=>by cases h;exact g
 | (q,b)::r,items,bW,tm,s,h,g=>by
  simp only[oI]at h
  split at h
  ·rename_i ai l h1 h2
   cases h
   simp only[iP]at g
   simp only[lV,h1]
   split at g
   ·rename_i hk
    obtain⟨d,s',g1,g2⟩:=g
    try simp only[hk]
    exact⟨d,s',g1,H8 h2 g2⟩
   ·rename_i hk
    obtain⟨d,g1,g2,g3⟩:=g
    try simp only[hk]
    exact⟨d,g1,g2,H8 h2 g3⟩
  ·cases h
theorem Sem.al6 {B:gY} {nt:Nat} {Q:Exit→Tm→St→Prop} {tm:Tm} {s:St} {is:List AI} {mZ:List (Nat×Nat)} {items:List (AI×Nat)} (hi:oI is mZ=some items) (h:iP P (Q .normal) items [] tm s):Sem P B nt (.par is mZ) Q tm s:=
 Sem.par (H8 hi h)
def AI.free:AI→AI
 | .op d _ o=> .op d none o
 | .call d _ f xs=> .call d none f xs
 | .nil d _ n x=> .nil d none n x
 | .k6 d _ t xs=> .k6 d none t xs
def GL (P:Program) (g:D) (want:Bool) (i:AI) (b:Nat) (r:List (AI×Nat)) (K:Tm→St→Prop) (bW:List St) (tm:Tm) (s:St):Prop:=
 match g with
 | .bool v=>(v=want→iP P K ((i,b)::r) bW tm s)∧(v=(!want)→iP P K r (if iM i.kind then s::bW else bW) (tm.put i.dst (.tuple [])) s)
 | .tuple _=>iP P K r (if iM i.kind then s::bW else bW) (tm.put i.dst (.tuple [])) s
 |_=>False
def CL (one:Bool) (P:Program) (f:Nat) (args:List D) (s:St) (K:D→St→Prop):Prop:=
 match one with
 |true=>∃ d s',az P f args s d s'∧K d s'
 |false=>bp P f args s K
def KL (P:Program) (K:Tm→St→Prop) (r:List (AI×Nat)) (bW:List St) (tm:Tm) (dst:Option Nat) (d:D) (s:St):Prop:=iP P K r bW (tm.put dst d) s
def pT (i:AI) (tm:Tm) (d:D):List St→Prop
 | []=>True
 |s::r=>kR i tm s=some d∧pT i tm d r
theorem Gt {i:AI} {tm:Tm} {d:D} : ∀ {l:List St},pT i tm d l→∀ s∈l,kR i tm s=some d
 | [],_,s,h=>by cases h
 |a::l,h,s,hs=>by
  rcases zap.1 hs with rfl|hs
  ·exact h.1
  ·exact Gt h.2 s hs
def PL (P:Program) (o:AO) (dst:Option Nat) (b:Nat) (r:List (AI×Nat)) (K:Tm→St→Prop) (bW:List St) (tm:Tm) (s:St):Prop:=
 match aS o tm s with
 |some (d,_)=>pT (.op dst none o) tm d (bW.take b)∧iP P K r bW (tm.put dst d) s
 |none=>False
def ML (P:Program) (o:AO) (dst:Option Nat) (r:List (AI×Nat)) (K:Tm→St→Prop) (bW:List St) (tm:Tm) (s:St):Prop:=
 match aS o tm s with
 |some (d,s')=>iP P K r (s::bW) (tm.put dst d) s'
 |none=>False
def AO.core:AO→Bool
 | .alloc _=>true
 | .box _=>true
 | .wR .. =>true
 | .Cd _=>true
 | .store .. =>true
 | .app .. =>true
 | .va .. =>true
 | .Ce .. =>true
 | .Cg .. =>true
 | .apps .. =>true
 | .xK=>true
 | .Ch .. =>true
 | .Ci .. =>true
 |_=>false
theorem vu (dst:Option Nat) (g:Option (Nat×Bool)) (o:AO):iM (AI.op dst g o).kind=o.core:=by
 cases dst<;>cases g<;>cases o<;>rfl
def OL (P:Program) (o:AO) (dst:Option Nat) (b:Nat) (r:List (AI×Nat)) (K:Tm→St→Prop) (bW:List St) (tm:Tm) (s:St):Prop:=
 match o.core with
 |true=>ML P o dst r K bW tm s
 |false=>PL P o dst b r K bW tm s
theorem LZ {K:Tm→St→Prop} {dst:Option Nat} {o:AO} {b:Nat} {r:List (AI×Nat)} {bW:List St} {tm:Tm} {s:St} (h:OL P o dst b r K bW tm s) :
 iP P K ((.op dst none o,b)::r) bW tm s:=by
 unfold OL at h
 simp only[iP,vu]
 cases hc:o.core with
 | true=>
  simp only[hc,ML]at h
  simp only[]
  split at h
  ·rename_i d s' he
   exact⟨d,s',by simpa[uT,guarded]using he,h⟩
  ·exact h.elim
 | false=>
  simp only[hc,PL]at h
  simp only[]
  split at h
  ·rename_i d s' he
   exact⟨d,by simp[kR,he],fun _=>Gt h.1,h.2⟩
  ·exact h.elim
theorem Rm {K:Tm→St→Prop} {dst:Option Nat} {f:Nat} {xs:List X} {b:Nat} {r:List (AI×Nat)} {bW:List St} {tm:Tm} {s:St} (h:CL true P f (xs.map (·.ev tm)) s (KL P K r (s::bW) tm dst)) :
 iP P K ((.call dst none f xs,b)::r) bW tm s:=by
 obtain⟨d,s',h1,h2⟩:=h
 exact⟨d,s',h1,h2⟩
theorem aen {K:Tm→St→Prop} {i:AI} {t:Nat} {w:Bool} {b:Nat} {r:List (AI×Nat)} {bW:List St} {tm:Tm} {s:St} {j:AI} (hf:(∃ d o,i = .op d none o∧j = .op d (some (t,w)) o)∨(∃ d f xs,i = .call d none f xs∧j = .call d (some (t,w)) f xs))
 (hg:tm.get t = .bool w) (h:iP P K ((i,b)::r) bW tm s):iP P K ((j,b)::r) bW tm s:=by
 rcases hf with ⟨d,o,rfl,rfl⟩|⟨d,f,xs,rfl,rfl⟩
 ·simp only [iP,vu]at h ⊢
  cases hc:o.core<;>simp only[hc]at h ⊢
  ·obtain⟨x,h1,h2,h3⟩:=h
   refine⟨x,by simpa[kR,hg]using h1,fun hk s' qz=>?_,h3⟩
   have vX:(AI.op d none o).kind = .load:=by
    cases d<;>cases o<;>first|exact hk|(cases hc;done)|(cases hk;done)
   simpa[kR,hg]using h2 vX s' qz
  ·obtain⟨x,s',h1,h2⟩:=h
   exact⟨x,s',by simpa[uT,guarded,hg]using h1,h2⟩
 ·obtain⟨x,s',h1,h2⟩:=h
  exact⟨x,s',by simpa[uT,guarded,hg]using h1,h2⟩
theorem Uy {K:Tm→St→Prop} {i:AI} {t:Nat} {w:Bool} {b:Nat} {r:List (AI×Nat)} {bW:List St} {tm:Tm} {s:St} {j:AI} (hf:(∃ d o,i = .op d none o∧j = .op d (some (t,w)) o)∨(∃ d f xs,i = .call d none f xs∧j = .call d (some (t,w)) f xs))
 (hg:tm.get t = .bool (!w)∨∃ l,tm.get t = .tuple l) (h:iP P K r (if iM i.kind then s::bW else bW) (tm.put i.dst (.tuple [])) s):iP P K ((j,b)::r) bW tm s:=by
 rcases hf with ⟨d,o,rfl,rfl⟩|⟨d,f,xs,rfl,rfl⟩
 ·simp only [iP,vu]at h ⊢
  cases hc:o.core<;>simp only[hc]at h ⊢
  ·refine⟨.tuple [], ?_,fun hk s' qz=> ?_,h⟩
   ·rcases hg with hg|⟨l,hg⟩<;>simp[kR,hg]
   ·rcases hg with hg|⟨l,hg⟩<;>simp[kR,hg]
  ·refine⟨.tuple [],s, ?_,h⟩
   rcases hg with hg|⟨l,hg⟩<;>simp[uT,guarded,hg]
 ·refine⟨.tuple [],s, ?_,h⟩
  rcases hg with hg|⟨l,hg⟩<;>simp[uT,guarded,hg]
theorem Pq {K:Tm→St→Prop} {i j:AI} {t:Nat} {w:Bool} {b:Nat} {r:List (AI×Nat)} {bW:List St} {tm:Tm} {s:St} (hf:(∃ d o,i = .op d none o∧j = .op d (some (t,w)) o)∨(∃ d f xs,i = .call d none f xs∧j = .call d (some (t,w)) f xs))
 (h:GL P (tm.get t) w i b r K bW tm s):iP P K ((j,b)::r) bW tm s:=by
 unfold GL at h
 split at h
 ·rename_i v hv
  by_cases e:v=w
  ·exact aen hf (by rw[hv,e]) (h.1 e)
  ·exact Uy hf (.inl (by rw[hv];cases v<;>cases w<;>simp_all)) (h.2 (by cases v<;>cases w<;>simp_all))
 ·rename_i l hl
  exact Uy hf (.inr ⟨l,hl⟩) h
 ·exact h.elim
theorem Jz {K:Tm→St→Prop} {dst:Option Nat} {o:AO} {t:Nat} {w:Bool} {b:Nat} {r:List (AI×Nat)} {bW:List St} {tm:Tm} {s:St} (h:GL P (tm.get t) w (.op dst none o) b r K bW tm s) :
 iP P K ((.op dst (some (t,w)) o,b)::r) bW tm s:=Pq (.inl ⟨dst,o,rfl,rfl⟩) h
theorem Oq {K:Tm→St→Prop} {dst:Option Nat} {f:Nat} {xs:List X} {t:Nat} {w:Bool} {b:Nat} {r:List (AI×Nat)} {bW:List St} {tm:Tm} {s:St} (h:GL P (tm.get t) w (.call dst none f xs) b r K bW tm s) :
 iP P K ((.call dst (some (t,w)) f xs,b)::r) bW tm s:=Pq (.inr ⟨dst,f,xs,rfl,rfl⟩) h
theorem CL.use {one:Bool} {f:Nat} {args:List D} {s:St} {d:D} {s':St} {K:D→St→Prop} (h:az P f args s d s') (hk:K d s'):CL one P f args s K:=
 match one with
 |true=>⟨d,s',h,hk⟩
 |false=>h.use hk
theorem CU {one:Bool} {f:Nat} {args:List D} {s:St} {d:D} {s':St} {K:D→St→Prop} (h:az P f args s d s') (hk:K d s'):CL one P f args s K:=CL.use h hk
theorem CR {f:Nat} {args:List D} {s:St} {Q K:D→St→Prop} (h:bp P f args s Q) (hk : ∀ d s',Q d s'→K d s'):CL false P f args s K:=bp.mono h hk
end
end Go.Abs
namespace Go.Abs
theorem nd {α:Type} {a b:α} (h:a=b):a=b:=h
def GJ (g:D) (w:Bool) (A C:Prop):Prop:=
 match g with
 | .bool b=>(b=w→A)∧(b=(!w)→C)
 | .tuple _=>C
 |_=>False
class Two where
 a:Prop
 c:Prop
def CB (d:D) [b:Two] : Prop:=wy d b.a b.c
def GB (d:D) (w:Bool) [b:Two] : Prop:=GJ d w b.a b.c
def oJ (g:Option (Nat×Bool)) (tm:Tm) (A C:Prop):Prop:=
 match g with
 |none=>A
 |some (t,w)=>GJ (tm.get t) w A C
def lk (P:Program):List AI→(Tm→St→Prop)→Tm→St→Prop
 | [],K,tm,s=>K tm s
 | .op dst g o::r,K,tm,s=>oJ g tm (match aS o tm s with|some (d,s')=>lk P r K (tm.put dst d) s'|none=>False) (lk P r K (tm.put dst (.tuple [])) s)
 | .call dst g f xs::r,K,tm,s=>oJ g tm (CL false P f (xs.map (·.ev tm)) s fun d s'=>lk P r K (tm.put dst d) s') (lk P r K (tm.put dst (.tuple [])) s)
 | .nil dst g neg x::r,K,tm,s=>
  oJ g tm (match x.ev tm with
   | .slice _ _ rows=>∀ b:Bool,(rows≠ []→b=false)→lk P r K (tm.put dst (.bool (if neg then !b else b))) s
   |_=>False) (lk P r K (tm.put dst (.tuple [])) s)
 | .k6 dst g t xs::r,K,tm,s=>
  oJ g tm (match tm.get t with
   | .il f pf=>enters P f=true∧CL false P f (xs.map (·.ev tm)++pf) s fun d s'=>lk P r K (tm.put dst d) s'
   |_=>False) (lk P r K (tm.put dst (.tuple [])) s)
theorem uY {g:Option (Nat×Bool)} {tm:Tm} {A C A' C':Prop} (h:oJ g tm A C) (ha:A→A') (hc:C→C'):guarded g tm A' C':=by
 unfold oJ at h
 unfold guarded
 cases g with
 |none=>exact ha h
 | some p=>
  obtain⟨t,w⟩:=p
  simp only[GJ]at h ⊢
  split at h
  ·rename_i hb;try simp only [hb]
   exact⟨fun e=>ha (h.1 e),fun e=>hc (h.2 e)⟩
  ·rename_i hb;try simp only [hb]
   exact hc h
  ·exact h.elim
theorem p6 {P:Program} {K:Tm→St→Prop} : ∀ {is:List AI} {tm:Tm} {s:St},lk P is K tm s→jS P is K tm s
 | [],tm,s,h=>h
 | .op dst g o::r,tm,s,h=>by
  refine uY h (fun h=>?_) p6
  split at h
  ·rename_i he;try simp only [he]
   exact p6 h
  ·exact h.elim
 | .call dst g f xs::r,tm,s,h=>uY h (fun h=>bp.mono h fun _ _ h=>p6 h) p6
 | .nil dst g neg x::r,tm,s,h=>by
  refine uY h (fun h=>?_) p6
  split at h
  ·rename_i he;try simp only [he]
   exact fun b hb=>p6 (h b hb)
  ·exact h.elim
 | .k6 dst g t xs::r,tm,s,h=>by
  refine uY h (fun h=>?_) p6
  split at h
  ·rename_i he;try simp only [he]
   exact⟨h.1,bp.mono h.2 fun _ _ h=>p6 h⟩
  ·exact h.elim
def iw (P:Program) (K:Tm→St→Prop):List (AI×Nat)→List St→Tm→St→Prop
 | [],_,tm,s=>K tm s
 |(.op dst g o,b)::r,bW,tm,s=>
  match o.core with
  |true=>oJ g tm (match aS o tm s with|some (d,s')=>iw P K r (s::bW) (tm.put dst d) s'|none=>False) (iw P K r (s::bW) (tm.put dst (.tuple [])) s)
  |false=>oJ g tm (match aS o tm s with|some (d,_)=>pT (.op dst none o) tm d (bW.take b)∧iw P K r bW (tm.put dst d) s|none=>False) (iw P K r bW (tm.put dst (.tuple [])) s)
 |(.call dst g f xs,_)::r,bW,tm,s=>oJ g tm (CL true P f (xs.map (·.ev tm)) s fun d s'=>iw P K r (s::bW) (tm.put dst d) s') (iw P K r (s::bW) (tm.put dst (.tuple [])) s)
 |(.nil ..,_)::_,_,_,_=>False
 |(.k6 ..,_)::_,_,_,_=>False
theorem CN {P:Program} {t:Nat} {w:Bool} {tm:Tm} {i:AI} {b:Nat} {r:List (AI×Nat)} {K:Tm→St→Prop} {bW:List St} {s:St} {A C:Prop} (h:oJ (some (t,w)) tm A C) (ha:A→iP P K ((i,b)::r) bW tm s)
 (hc:C→iP P K r (if iM i.kind then s::bW else bW) (tm.put i.dst (.tuple [])) s):GL P (tm.get t) w i b r K bW tm s:=by
 simp only[oJ,GJ]at h
 unfold GL
 split at h
 ·rename_i hb;try simp only [hb]
  exact⟨fun e=>ha (h.1 e),fun e=>hc (h.2 e)⟩
 ·rename_i hb;try simp only [hb]
  exact hc h
 ·exact h.elim
theorem nS {P:Program} {K:Tm→St→Prop} : ∀ {l:List (AI×Nat)} {bW:List St} {tm:Tm} {s:St},iw P K l bW tm s→iP P K l bW tm s
 | [],bW,tm,s,h=>h
 | (.op dst g o,b)::r,bW,tm,s,h=>by
  simp only[iw]at h
  cases hc:o.core with
  | true=>
   simp only[hc]at h
   have ha:(match aS o tm s with|some (d,s')=>iw P K r (s::bW) (tm.put dst d) s'|none=>False)→iP P K ((.op dst none o,b)::r) bW tm s:=by
    intro h
    refine LZ ?_
    simp only[OL,hc,ML]
    split at h
    ·rename_i he;try simp only [he]
     exact nS h
    ·exact h.elim
   cases g with
   |none=>exact ha h
   |some p=>
    obtain⟨t,w⟩:=p
    refine Jz (CN h ha fun h=>?_)
    simp only[vu,hc,if_true]
    exact nS h
  | false=>
   simp only[hc]at h
   have ha:(match aS o tm s with|some (d,_)=>pT (.op dst none o) tm d (bW.take b)∧iw P K r bW (tm.put dst d) s|none=>False)→iP P K ((.op dst none o,b)::r) bW tm s:=by
    intro h
    refine LZ ?_
    simp only[OL,hc,PL]
    split at h
    ·rename_i he;try simp only [he]
     exact⟨h.1,nS h.2⟩
    ·exact h.elim
   cases g with
   |none=>exact ha h
   |some p=>
    obtain⟨t,w⟩:=p
    refine Jz (CN h ha fun h=>?_)
    simp only[vu,hc]
    exact nS h
 | (.call dst g f xs,b)::r,bW,tm,s,h=>by
  simp only[iw]at h
  have ha:(CL true P f (xs.map (·.ev tm)) s fun d s'=>iw P K r (s::bW) (tm.put dst d) s')→iP P K ((.call dst none f xs,b)::r) bW tm s:=
   fun⟨d,s',h1,h2⟩=>Rm ⟨d,s',h1,nS h2⟩
  cases g with
  |none=>exact ha h
  |some p=>
   obtain⟨t,w⟩:=p
   exact Oq (CN h ha fun h=>nS h)
 |(.nil ..,_)::_,bW,tm,s,h=>h.elim
 |(.k6 ..,_)::_,bW,tm,s,h=>h.elim
section
variable {P:Program} {B:gY} {nt:Nat}
def jJ (P:Program) (B:gY) (nt:Nat):AC→(Exit→Tm→St→Prop)→Tm→St→Prop
 | .skip,Q,tm,s=>Q .normal tm s
 | .run is,Q,tm,s=>lk P is (Q .normal) tm s
 | .par is mZ,Q,tm,s=>match oI is mZ with|some l=>iw P (Q .normal) l [] tm s|none=>False
 | .seq a b,Q,tm,s=>jJ P B nt a (kA (jJ P B nt b Q) Q) tm s
 | .cond x a b,Q,tm,s=>wy (x.ev tm) (jJ P B nt a Q tm s) (jJ P B nt b Q tm s)
 | .block id a,Q,tm,s=>jJ P B nt a (fX id Q) tm s
 | .loop a,Q,tm,s=>aN P B nt a Q tm s
 | .exit id,Q,tm,s=>Q (.exit id) tm s
 | .scope a,Q,tm,s=>mM P B nt a a Q tm s
 | .label _,Q,tm,s=>Q .normal tm s
 | .goto l,Q,tm,s=>Q (.goto l) tm s
 | .ret,Q,tm,s=>Q .ret tm s
theorem ji : ∀ {ac:AC} {Q:Exit→Tm→St→Prop} {tm:Tm} {s:St},jJ P B nt ac Q tm s→Sem P B nt ac Q tm s:=by
 intro ac
 induction ac with
 |skip=>exact fun h=>Sem.skip h
 |run is=>exact fun h=>Sem.run (p6 h)
 |par is mZ=>
  intro Q tm s h
  simp only[jJ]at h
  split at h
  ·exact Sem.al6 ‹_› (nS h)
  ·exact h.elim
 |seq a b Ug Uh=>
  intro Q tm s h
  refine Sem.seq ((Ug h).mono fun e tm s hq=>?_)
  cases e with
  |normal=>exact Uh hq
  |_=>exact hq
 |cond x a b Ug Uh=>
  intro Q tm s h
  refine Sem.aio ?_
  simp only[jJ]at h
  unfold wy at h ⊢
  split at h
  ·exact⟨fun e=>Ug (h.1 e),fun e=>Uh (h.2 e)⟩
  ·exact h.elim
 |block id a ih=>exact fun h=>Sem.block (ih h)
 |loop a ih=>exact fun h=>Sem.loop h
 |exit id=>exact fun h=>Sem.exit h
 |scope a ih=>exact fun h=>Sem.scope h
 |label l=>exact fun h=>Sem.label h
 |goto l=>exact fun h=>Sem.goto h
 |ret=>exact fun h=>Sem.ret h
section
variable (Q:Exit→Tm→St→Prop) (N:Tm→St→Prop) (tm:Tm) (s:St) (a b:AC) (is:List AI) (x:X)
theorem Xi:jJ P B nt .skip Q tm s=Q .normal tm s:=nd rfl
theorem abI:jJ P B nt (.run is) Q tm s=lk P is (Q .normal) tm s:=nd rfl
theorem abJ (mZ:List (Nat×Nat)):jJ P B nt (.par is mZ) Q tm s=match oI is mZ with|some l=>iw P (Q .normal) l [] tm s|none=>False:=nd rfl
theorem abK:jJ P B nt (.seq a b) Q tm s=jJ P B nt a (kA (jJ P B nt b Q) Q) tm s:=nd rfl
theorem Xj:jJ P B nt (.cond x a b) Q tm s = @CB (x.ev tm) ⟨jJ P B nt a Q tm s,jJ P B nt b Q tm s⟩:=nd rfl
theorem Uz (id:Nat):jJ P B nt (.block id a) Q tm s=jJ P B nt a (fX id Q) tm s:=nd rfl
theorem Xk:jJ P B nt (.loop a) Q tm s=aN P B nt a Q tm s:=nd rfl
theorem UA:jJ P B nt (.scope a) Q tm s=mM P B nt a a Q tm s:=nd rfl
theorem Xl (id:Nat):jJ P B nt (.exit id) Q tm s=Q (.exit id) tm s:=nd rfl
theorem UB (id:Nat):jJ P B nt (.label id) Q tm s=Q .normal tm s:=nd rfl
theorem Xm (id:Nat):jJ P B nt (.goto id) Q tm s=Q (.goto id) tm s:=nd rfl
theorem abL:jJ P B nt .ret Q tm s=Q .ret tm s:=nd rfl
theorem abM:kA N Q .normal tm s=N tm s:=nd rfl
theorem abN:kA N Q .ret tm s=Q .ret tm s:=nd rfl
theorem abO (id:Nat):kA N Q (.exit id) tm s=Q (.exit id) tm s:=nd rfl
theorem abP (id:Nat):kA N Q (.goto id) tm s=Q (.goto id) tm s:=nd rfl
theorem Xn (id:Nat):fX id Q .normal tm s=Q .normal tm s:=nd rfl
theorem Xo (id:Nat):fX id Q .ret tm s=Q .ret tm s:=nd rfl
theorem Xp (id l:Nat):fX id Q (.goto l) tm s=Q (.goto l) tm s:=nd rfl
theorem Xq (id i:Nat):fX id Q (.exit i) tm s=if i=id then Q .normal tm s else Q (.exit i) tm s:=nd rfl
end
theorem aN.fJ {a:AC} {Q:Exit→Tm→St→Prop} {tm:Tm} {s:St} (h:jJ P B nt a (kA (aN P B nt a Q) Q) tm s):aN P B nt a Q tm s:=aN.once (ji h)
theorem mM.fJ {a r:AC} {Q:Exit→Tm→St→Prop} {tm:Tm} {s:St} (h:jJ P B nt r (AY P B nt a Q) tm s):mM P B nt a r Q tm s:=mM.once (ji h)
def xX (tm:Tm) (n m:Nat):Tm→Prop
 | []=>True
 |(k,d)::r=>Wk ((tm.get k).fg n m) d∧xX tm n m r
theorem xX.get {tm:Tm} {n m:Nat} : ∀ {bQ:Tm},xX tm n m bQ→∀ t,Wk ((tm.get t).fg n m) (bQ.get t)
 | [],_,t=>Wk.junk _
 |(k,d)::r,h,t=>by
  simp only[Tm.get]
  split
  ·rename_i hk;subst hk;exact h.1
  ·exact xX.get h.2 t
theorem Holds.re {Q:Exit→Tm→St→Prop} {tm bQ:Tm} {s:St} {ix:List (List D)} {act:Act} {w:World} (n m:Nat) (hn:B.s.aq.length≤n) (hm:B.s.ay.length≤m) (ht:xX tm n m bQ) (ho:ie (s.cut n m).aq ix)
 (h:Holds B nt tm s act w):Holds B nt bQ ⟨ix,(s.cut n m).ay⟩ act w:=by
 obtain⟨M,e,r,hr,h1,h2⟩:=h
 obtain⟨r',le⟩:=(r.cut n m).lU ho
 have e':=e.cut hn hm
 refine⟨M,e'.trans ⟨le,fun _ _ _ _=>rfl,fun o h1 h2=>?_,fun t b c z hl e=> .inl ⟨hl,c,z,e⟩,fun _ _ h=>(h rfl).elim,zal _,rfl,rfl,rfl⟩,r',fun k=>((ht.get k) _ _ _ ((hr k).fg n m)).mono le,h1,h2⟩
 rw[← ho.len]at h2
 exact h1.elim (fun h1=>absurd h2 (Nat.not_lt.2 h1)) fun h1=>(h1 rfl).elim
theorem aN.re {a:AC} {Q:Exit→Tm→St→Prop} {tm:Tm} {s:St} (bQ:Tm) (ix:List (List D)) (n m:Nat) (hn:B.s.aq.length≤n) (hm:B.s.ay.length≤m) (ht:xX tm n m bQ) (ho:ie (s.cut n m).aq ix)
 (h:aN P B nt a Q bQ ⟨ix,(s.cut n m).ay⟩):aN P B nt a Q tm s:=
 fun c hc act w hh=>h c hc act w (hh.re (Q:=Q) n m hn hm ht ho)
theorem aN.ind {ι:Type} {a:AC} {Q:Exit→Tm→St→Prop} (I:ι→Prop) (μ:ι→Nat) (TM:ι→Tm) (ST:ι→St)
 (step : ∀ i,I i→(∀ j,I j→μ j<μ i→aN P B nt a Q (TM j) (ST j))→jJ P B nt a (kA (aN P B nt a Q) Q) (TM i) (ST i)) : ∀ i,I i→aN P B nt a Q (TM i) (ST i):=by
 have key : ∀ n i,μ i<n→I i→aN P B nt a Q (TM i) (ST i):=by
  intro n
  induction n with
  |zero=>intro i h;exact absurd h (za9 _)
  |succ n ih=>exact fun i h hi=>aN.fJ (step i hi fun j hj hD=>ih j (by omega) hj)
 exact fun i hi=>key (μ i+1) i (zae _) hi
theorem drop_cons {α:Type} {l rest:List α} {k:Nat} {x:α} (h:l.drop k=x::rest):l[k]? = some x∧l.drop (k+1)=rest∧decide ((k:Int)<(l.length:Int))=true∧k<l.length:=by
 have h1:l[k]? = some x:=by
  have:(l.drop k)[0]? = some x:=by rw[h];rfl
  simpa using this
 have h2:=(zac.1 h1).1
 refine⟨h1, ?_,by simpa using h2,h2⟩
 have:l.drop (k+1)=(l.drop k).drop 1:=by rw[List.drop_drop]
 rw[this,h];rfl
theorem drop_nil {α:Type} {l:List α} {k:Nat} (h:l.drop k = []):decide ((k:Int)<(l.length:Int))=false:=by
 have:=zaP.1 h
 simp;omega
theorem aN.ln {a:AC} {Q:Exit→Tm→St→Prop} {tm:Tm} {s:St} (t z':Nat) {z:Nat} (hw:tm.get t = .slice .full z [])
 (h:aN P B nt a Q (tm.set t (.slice (.tok s.ay.length) z' [])) {s with ay:=s.ay++ [some 0]}):aN P B nt a Q tm s:=by
 intro c hc act w ⟨M,e,r,ht,h1,h2⟩
 obtain⟨r',le⟩:=r.blank
 refine h c hc act w ⟨_,CH e le,r',fun k=>?_,h1,h2⟩
 rw[Tm.HY]
 split
 ·rename_i hk;subst hk;have:=ht k;rw[hw]at this;exact this.own
 ·exact(ht k).mono le
theorem aN.vM {a:AC} {Q:Exit→Tm→St→Prop} {tm:Tm} {s:St} (o i z':Nat) {z:Nat} {cs:List D} (hc:s.aq[o]? = some cs) (hi:cs[i]? = some (.slice .full z []))
 (h:aN P B nt a Q tm ⟨s.aq.set o (cs.set i (.slice (.tok s.ay.length) z' [])),s.ay++ [some 0]⟩):aN P B nt a Q tm s:=by
 intro c hcc act w hh
 obtain⟨M,e,r,ht,h1,h2⟩:=hh
 obtain⟨r',le⟩:=r.blank
 have L0:Le M s (M.fa s.ay.length none) ⟨s.aq.set o (cs.set i (.slice (.tok s.ay.length) z' [])),s.ay++ [some 0]⟩:=⟨le.G,by simp,le.loc,le.t,le.tk⟩
 have L1:Le (M.fa s.ay.length none) {s with ay:=s.ay++ [some 0]} (M.fa s.ay.length none) ⟨s.aq.set o (cs.set i (.slice (.tok s.ay.length) z' [])),s.ay++ [some 0]⟩:=
  ⟨fun _ _ _ h=>h,by simp,fun _ _=> .refl _,zal _,fun t n' _ e=>⟨n',e,zal _,fun _=>rfl⟩⟩
 have r2:Rel (M.fa s.ay.length none) ⟨s.aq.set o (cs.set i (.slice (.tok s.ay.length) z' [])),s.ay++ [some 0]⟩ w:=by
  refine⟨r'.comm,fun o' ds e=>?_,fun o ho=>r'.kv o (by simpa using ho),fun o o' ho n9=>r'.inj o o' (by simpa using ho) (by simpa using n9),r'.tok,
   fun t b c z o hv e ho=>r'.fw t b c z o hv e (by simpa using ho),r'.gP⟩
  simp only[zaL]at e
  split at e
  ·rename_i ho
   subst ho
   split at e
   ·cases e
    obtain⟨vs,T,g1,g2,g3,g4⟩:=r.obj o cs hc
    refine⟨vs,T,g1,by simpa using g2,g3,fun j d v e1 e2=>?_⟩
    rw[zaL]at e1
    split at e1
    ·rename_i hj
     subst hj
     split at e1
     ·cases e1
      exact((g4 i _ v hi e2).own (z':=z')).mono L1
     ·cases e1
    ·exact(g4 j d v e1 e2).mono L0
   ·cases e
  ·obtain⟨vs,T,g1,g2,g3,g4⟩:=r'.obj o' ds e
   exact⟨vs,T,g1,g2,g3,fun i d v e1 e2=>(g4 i d v e1 e2).mono L1⟩
 have ee:Ext B.M B.s B.w (M.fa s.ay.length none) ⟨s.aq.set o (cs.set i (.slice (.tok s.ay.length) z' [])),s.ay++ [some 0]⟩ w:=by
  refine(CH e le).trans ⟨L1,fun _ _ _ _=>rfl,fun o h1 h2=>?_,fun t b c z hl e=> .inl ⟨hl,c,z,e⟩,fun _ _ h=>(h rfl).elim,zal _,rfl,rfl,rfl⟩
  simp at h2
  exact h1.elim (fun h1=>absurd h2 (Nat.not_lt.2 h1)) fun h1=>(h1 rfl).elim
 exact h c hcc act w ⟨_,ee,r2,fun k=>(ht k).mono L0,h1,h2⟩
theorem Fg {ac r:AC} {l:Nat} {Q:Exit→Tm→St→Prop} {tm:Tm} {s:St} (hf:wv ac l=some r) (h:mM P B nt ac r Q tm s):AY P B nt ac Q (.goto l) tm s:=⟨r,hf,h⟩
theorem Sem.kX {a b:AC} {Q:Exit→Tm→St→Prop} {tm:Tm} {s:St} (h:jJ P B nt a (kA (Sem P B nt b Q) Q) tm s):Sem P B nt (.seq a b) Q tm s:=Sem.seq (ji h)
theorem Sem.re {a:AC} {Q:Exit→Tm→St→Prop} {tm:Tm} {s:St} (bQ:Tm) (ix:List (List D)) (n m:Nat) (hn:B.s.aq.length≤n) (hm:B.s.ay.length≤m) (ht:xX tm n m bQ) (ho:ie (s.cut n m).aq ix)
 (h:Sem P B nt a Q bQ ⟨ix,(s.cut n m).ay⟩):Sem P B nt a Q tm s:=
 fun c hc act w hh=>h c hc act w (hh.re (Q:=Q) n m hn hm ht ho)
def Has (P:Program) (f nt:Nat) (res:List (Nat×Option (Bool×Nat))) (body:AC):Prop:=∃ fn,P.funcs[f]? = some fn∧cF P fn=some ⟨nt,res,body⟩
structure bJ (P:Program) (f:Nat) where
 {nt:Nat}
 {res:List (Nat×Option (Bool×Nat))}
 {body:AC}
 h:Has P f nt res body
theorem Has.of {P:Program} {f nt:Nat} {res:List (Nat×Option (Bool×Nat))} {body:AC} (fn:Func) (h1:P.funcs[f]? = some fn:=by kernel_rfl) (h2:cF P fn=some ⟨nt,res,body⟩:=by conv=>lhs;cbv):Has P f nt res body:=⟨fn,h1,h2⟩
theorem air {P:Program} {fn:Func} {nt:Nat} {r:List (Nat×Option (Bool×Nat))} {c:Code} {b:AC} (h0:fn.body=some c) (h1:fn.ntmps=nt) (h2:cC P nt c=some b) (h3:Cn P fn.results.toList=some r):cF P fn=some ⟨nt,r,b⟩:=by subst h1;simp only[cF,h0,h2,h3]
theorem aep {P:Program} {nt:Nat} {a b:Code} {a' b':AC} (h1:cC P nt a=some a') (h2:cC P nt b=some b'):cC P nt (.seq a b)=some (.seq a' b'):=by simp only[cC,h1,h2]
theorem Xr {P:Program} {nt i:Nat} {a:Code} {a':AC} (h1:cC P nt a=some a'):cC P nt (.block i a)=some (.block i a'):=by simp only[cC,h1,za3]
theorem abQ {P:Program} {nt:Nat} {a:Code} {a':AC} (h1:cC P nt a=some a'):cC P nt (.loop a)=some (.loop a'):=by simp only[cC,h1,za3]
theorem aeq {P:Program} {nt k:Nat} {ops:Array Oper} {is:List AI} {af pt:List (List Nat)} {l:List Nat} {pl:List (Nat×Nat)} (h0:P.follows .mixedOrders=true) (h1:rP P nt ops ops.toList=some is) (h2:ops.toList.map mr=af) (h3:F9 [] af=pt)
 (h4:Qp is pt ((List.range is.length).filter fun i=>jZ is i == .core) (List.range is.length) [] = l) (h5:Qq is pt [] l=pl) (h6:F8 is af pt pl=true):cC P nt (.region k ops true)=some (.par is pl):=by
 subst h2 h3 h4 h5
 show(if P.follows .mixedOrders then(rP P nt ops ops.toList).bind (Qv · (ops.toList.map mr))else none)=_
 rw[if_pos h0,h1]
 exact if_pos h6
theorem Has.ofB {P:Program} {f nt:Nat} {res:List (Nat×Option (Bool×Nat))} {body:AC} (fn:Func) (h1:P.funcs[f]? = some fn:=by kernel_rfl) (h2:cF P fn=some ⟨nt,res,body⟩:=by apply air;(exact rfl);(conv=>lhs;cbv);rotate_left;(conv=>lhs;cbv);repeat' (first|with_reducible apply aep|(conv=>lhs;cbv)|with_reducible apply Xr|with_reducible apply abQ|(with_reducible apply aeq;(kernel_rfl);(conv=>lhs;cbv);(conv=>lhs;cbv);(conv=>lhs;cbv);(conv=>lhs;cbv);(conv=>lhs;cbv);kernel_rfl))):Has P f nt res body:=⟨fn,h1,h2⟩
def AC.at:List Nat→AC→Option AC
 | [],a=>some a
 | 0::p, .seq a _=>AC.at p a
 |_::p, .seq _ a=>AC.at p a
 | 0::p, .cond _ a _=>AC.at p a
 |_::p, .cond _ _ a=>AC.at p a
 |_::p, .block _ a=>AC.at p a
 |_::p, .loop a=>AC.at p a
 |_::p, .scope a=>AC.at p a
 |_,_=>none
abbrev AC.sub (p:List Nat) (b:AC) {c:AC} (_:AC.at p b=some c:=by rfl):AC:=c
theorem az.go {f:FuncId} {res:List (Nat×Option (Bool×Nat))} {body:AC} {args:List D} {s:St} {d:D} {s':St} (h0:Has P f nt res body) (hl:Nat.ble args.length nt=true)
 (h : ∀ (B:gY) (Q:Exit→Tm→St→Prop),B.s=s→mN s.aq.length s.ay.length res d s'=Q→jJ P B nt body Q (ov 0 args) s):az P f args s d s':=by
 obtain⟨fn,hf,hc⟩:=h0
 exact az.intro ⟨fn,hf,hc⟩ (zbp hl) fun B hB=>ji (h B _ hB rfl)
theorem az.Rn {f:FuncId} {pre post:List D} {rows qh:List (List D)} {z z' k k':Nat} (h:az P f (pre++ .slice (.tok 0) z rows::post) ⟨[],[some k]⟩ (.slice (.tok 0) z' qh) ⟨[],[some k']⟩)
 (hp:D.bM 0 0 pre=true) (ha:D.bM 0 0 post=true) (hw:D.iW 0 0 rows=true) (hw':D.iW 0 0 qh=true)
 {s:St} {t:Nat} (ht:s.ay[t]? = some (some k)):az P f (pre++ .slice (.tok t) z rows::post) s (.slice (.tok t) z' qh) ⟨s.aq,s.ay.set t (some k')⟩:=by
 refine bp.frame [] [t] h (by simp) (by simp) (by simp) (by simpa using (zac.1 ht).1) rfl (fun i o' ds e1 e2=>by simp at e1) rfl (fun i t' e1=>?_)
  ?_ ?_ ?_
 ·cases i with
  |zero=>simp at e1;subst e1;simp[ht]
  |succ i=>simp at e1
 ·have h1:=gf [] [t] _ hp
  have h2:=gf [] [t] _ ha
  rw[gM]at h1 h2
  simp[gM,D.dm,Tag.dm,h1,h2,kb _ _ _ hw]
 ·have h1:=jB (n':=0) (m':=1) (zal 0) (zaz 1) _ hp
  have h2:=jB (n':=0) (m':=1) (zal 0) (zaz 1) _ ha
  rw[zI]at h1 h2 ⊢
  simp only[zaD,zat,List.all_append,h1,zbf,List.all_cons,h2,zbG,D.ok,Tag.ok,nR (zaz 0) (zaz 1) _ hw]
  rfl
 ·rintro _ _ ⟨rfl,rfl⟩
  refine⟨by simp[D.back,D.dm,Tag.dm,lD,kb _ _ _ hw'], ?_⟩
  simp[St.back,lJ]
theorem al9 (A C:Prop) : @CB (.bool true) ⟨A,C⟩=A:=by simp[CB,wy]
theorem ama (A C:Prop) : @CB (.bool false) ⟨A,C⟩=C:=by simp[CB,wy]
theorem aet (b:Bool) (A C:Prop) : @CB (.bool (!b)) ⟨A,C⟩ = @CB (.bool b) ⟨C,A⟩:=by
 cases b<;>simp[CB,wy]
theorem L2 {b:Bool} {A C:Prop} (h1:b=true→A) (h2:b=false→C) : @CB (.bool b) ⟨A,C⟩:=⟨h1,h2⟩
theorem aeu {b:Bool} {A C:Prop} (h:b=true) (h1:b=true→A) : @CB (.bool b) ⟨A,C⟩:=L2 h1 (fun h'=>by rw[h]at h';cases h')
theorem aev {b:Bool} {A C:Prop} (h:b=false) (h1:b=false→C) : @CB (.bool b) ⟨A,C⟩:=L2 (fun h'=>by rw[h]at h';cases h') h1
theorem ais {n m:Nat} {res:List (Nat×Option (Bool×Nat))} {d:D} {s':St} {tm:Tm} {s:St} {Q:Exit→Tm→St→Prop} (hQ:mN n m res d s'=Q)
 (h : ∃ l,bF res tm s=some l∧Wk ((bG l).fg n m) d∧ie (s.cut n m).aq s'.aq∧(s.cut n m).ay=s'.ay):Q .ret tm s:=hQ ▸ h
theorem ait {n m:Nat} {res:List (Nat×Option (Bool×Nat))} {d:D} {s':St} {tm:Tm} {s:St} {Q:Exit→Tm→St→Prop} (hQ:mN n m res d s'=Q)
 (h : ∃ l,bF res tm s=some l∧Wk ((bG l).fg n m) d∧ie (s.cut n m).aq s'.aq∧(s.cut n m).ay=s'.ay):Q .normal tm s:=hQ ▸ h
end
attribute [go_sem] Xi abI abJ abK Xj Uz Xk UA Xl UB Xm abL abM abN abO abP Xn Xo Xp Xq
theorem UC : ∀ (tm:Tm) (s:St) (x:X),aS (AO.mv x) tm s=some (X.ev tm x,s):=
 fun tm s x=>nd (aS.eq_1 tm s x)
theorem UD : ∀ (tm:Tm) (s:St) (c a b:X),
 aS (AO.pick c a b) tm s =
  match X.ev tm c with
  |D.bool t=>some (if t=true then X.ev tm a else X.ev tm b,s)
  |x=>none:=
 fun tm s c a b=>nd (aS.eq_2 tm s c a b)
theorem UE : ∀ (tm:Tm) (s:St) (zero:List D),
 aS (AO.alloc zero) tm s=some (D.ptr s.aq.length 0,{aq:=s.aq++ [zero],ay:=s.ay}):=
 fun tm s zero=>nd (aS.eq_3 tm s zero)
theorem UF : ∀ (tm:Tm) (s:St) (x:X),
 aS (AO.box x) tm s =
  match (X.ev tm x).row with
  |some r=>some (D.ptr s.aq.length 0,{aq:=s.aq++ [r],ay:=s.ay})
  |none=>none:=
 fun tm s x=>nd (aS.eq_4 tm s x)
theorem UG : ∀ (tm:Tm) (s:St) (zero:List D) (parts:List (Nat×Nat×X)),
 aS (AO.build zero parts) tm s =
  match sS zero (List.map (fun(p:Nat×Nat×X)=>(p.fst,p.snd.fst,X.ev tm p.snd.snd)) parts)with
  |some cs=>some (D.agg cs,s)
  |none=>none:=
 fun tm s zero parts=>nd (aS.eq_5 tm s zero parts)
theorem UH : ∀ (tm:Tm) (s:St) (zero:List D) (size n:Nat) (parts:List (Nat×X)),
 aS (AO.qw zero size n parts) tm s =
  match kV size (gj zero n) (List.map (fun(p:Nat×X)=>(p.fst,X.ev tm p.snd)) parts)with
  |some rows=>some (D.slice Tag.full size rows,s)
  |none=>none:=
 fun tm s zero size n parts=>nd (aS.eq_6 tm s zero size n parts)
theorem UI : ∀ (tm:Tm) (s:St) (zero:List D) (size n:Nat) (parts:List (Nat×X)),
 aS (AO.wR zero size n parts) tm s =
  match kV size (gj zero n) (List.map (fun(p:Nat×X)=>(p.fst,X.ev tm p.snd)) parts)with
  |some rows=>
   some (D.slice (Tag.tok s.ay.length) size rows,{aq:=s.aq,ay:=s.ay++ [some rows.length]})
  |none=>none:=
 fun tm s zero size n parts=>nd (aS.eq_7 tm s zero size n parts)
theorem UJ : ∀ (tm:Tm) (s:St) (x:X),
 aS (AO.Cd x) tm s =
  match X.ev tm x with
  | D.slice (Tag.tok t _) z rows=>
   if rows≠ []∧s.ay[t]? = some (some rows.length)then
    some (D.slice Tag.shared z rows,{aq:=s.aq,ay:=s.ay.set t none})
   else none
  |x=>none:=
 fun tm s x=>nd (aS.eq_8 tm s x)
theorem UK : ∀ (tm:Tm) (s:St) (x:X) (agg:Bool) (size:Nat),
 aS (AO.load x agg size) tm s =
  match X.ev tm x with
  | D.ptr o off=>
   match s.aq[o]? with
   |some cs=>
    match part cs off agg size with
    |some d=>some (d,s)
    |none=>none
   |none=>none
  |D.dO row off=>
   match part row off agg size with
   |some d=>some (d,s)
   |none=>none
  |x=>AG x agg size s:=
 fun tm s x agg size=>nd (aS.eq_9 tm s x agg size)
theorem Ro : ∀ (tm:Tm) (s:St) (p x:X) (size:Nat),
 aS (AO.store p x size) tm s =
  match X.ev tm p,(X.ev tm x).row with
  | D.ptr o off,some r=>
   match s.aq[o]? with
   | some cs=>
    if r.length=size∧off+size≤cs.length then
     some (D.tuple [],{aq:=s.aq.set o (gV cs off r),ay:=s.ay})
    else none
   |none=>none
  |x,fR=>Cl x fR size s:=
 fun tm s p x size=>nd (aS.eq_10 tm s p x size)
theorem Rp : ∀ (tm:Tm) (s:St) (x:X),
 aS (AO.F2 x) tm s =
  match X.ev tm x with
  |D.ptr o off=>some (D.ptr o off,s)
  |D.dO row off=>some (D.dO row off,s)
  |x=>match Qr x with|some d=>some (d,s)|none=>none:=
 fun tm s x=>nd (aS.eq_11 tm s x)
theorem Rq : ∀ (tm:Tm) (s:St) (op:BinOp) (x y:X),
 aS (AO.bin op x y) tm s =
  match yF op (X.ev tm x) (X.ev tm y)with
  |some d=>some (d,s)
  |none=>none:=
 fun tm s op x y=>nd (aS.eq_12 tm s op x y)
theorem Rr : ∀ (tm:Tm) (s:St) (neg:Bool) (x y:X),
 aS (AO.Lm neg x y) tm s =
  match X.ev tm x,X.ev tm y with
  |D.bool a,D.bool b=>some (D.bool (if neg=true then !a==b else a==b),s)
  |x,fR=>none:=
 fun tm s neg x y=>nd (aS.eq_13 tm s neg x y)
theorem Rs : ∀ (tm:Tm) (s:St) (neg:Bool) (ks:List Nat) (x y:X),
 aS (AO.eqs neg ks x y) tm s =
  match X.ev tm x,X.ev tm y with
  |D.agg a,D.agg b=>
   match mw ks a b with
   |some e=>some (D.bool (if neg=true then !e else e),s)
   |none=>none
  |x,fR=>none:=
 fun tm s neg ks x y=>nd (aS.eq_14 tm s neg ks x y)
theorem Rt : ∀ (tm:Tm) (s:St) (neg:Bool) (x y:X),
 aS (AO.Ln neg x y) tm s =
  match X.ev tm x,X.ev tm y with
  |D.fv,D.fv=>some (D.bool !neg,s)
  |D.ptr o off,D.fv=>some (D.bool neg,s)
  |D.dO row off,D.fv=>some (D.bool neg,s)
  |x,fR=>none:=
 fun tm s neg x y=>nd (aS.eq_15 tm s neg x y)
theorem Ru : ∀ (tm:Tm) (s:St) (op:UnOp) (x:X),
 aS (AO.un op x) tm s =
  match Jh op (X.ev tm x)with
  |some d=>some (d,s)
  |none=>none:=
 fun tm s op x=>nd (aS.eq_16 tm s op x)
theorem Rv : ∀ (tm:Tm) (s:St) (k:IntKind) (x:X),
 aS (AO.conv k x) tm s =
  match X.ev tm x with
  |D.int k_1 n=>some (D.int k (k.wrap n),s)
  |x=>none:=
 fun tm s k x=>nd (aS.eq_17 tm s k x)
theorem Rw : ∀ (tm:Tm) (s:St) (x:X),
 aS (AO.F3 x) tm s =
  match X.ev tm x with
  |D.slice g size rows=>
   match pZ rows with
   |some b=>some (D.str b,s)
   |none=>none
  |x=>none:=
 fun tm s x=>nd (aS.eq_18 tm s x)
theorem Rx : ∀ (tm:Tm) (s:St) (x:X),
 aS (AO.zk x) tm s =
  match X.ev tm x with
  |D.str l=>some (D.slice Tag.shared 1 (List.map (fun(c:UInt8)=> [D.int IntKind.u8 ↑c.toNat]) l),s)
  |x=>none:=
 fun tm s x=>nd (aS.eq_19 tm s x)
theorem Ry : ∀ (tm:Tm) (s:St) (size:Nat) (x:X) (lo hi:Option X),
 aS (AO.TH size x lo hi) tm s =
  match X.ev tm x with
  | D.slice g z rows=>
   match ud (Option.map (fun(x:X)=>X.ev tm x) lo),
    uf (Option.map (fun(x:X)=>X.ev tm x) hi) rows.length with
   | some l,some h=>
    if(rows = []∨z=size)∧0≤l∧l≤h∧h≤ ↑rows.length then
     some
      (D.slice (if l=0 then g.cut (decide (h = ↑rows.length))else Tag.shared) z
       (List.drop l.toNat (List.take h.toNat rows)),
       s)
    else none
   |x,fR=>none
  |x=>match uj x (Option.map (fun(x:X)=>X.ev tm x) lo) (Option.map (fun(x:X)=>X.ev tm x) hi)with|some d=>some (d,s)|none=>none:=
 fun tm s size x lo hi=>nd (aS.eq_20 tm s size x lo hi)
theorem Rz : ∀ (tm:Tm) (s:St) (x:X) (lo hi:Option X),
 aS (AO.Lo x lo hi) tm s =
  match X.ev tm x with
  | D.str t=>
   match ud (Option.map (fun(x:X)=>X.ev tm x) lo),uf (Option.map (fun(x:X)=>X.ev tm x) hi) t.length with
   |some l,some h=>
    if 0≤l∧l≤h∧h≤ ↑t.length then some (D.str (List.drop l.toNat (List.take h.toNat t)),s)else none
   |x,fR=>none
  |x=>none:=
 fun tm s x lo hi=>nd (aS.eq_21 tm s x lo hi)
theorem RA : ∀ (tm:Tm) (s:St) (x:X) (off:Nat),
 aS (AO.F4 x off) tm s =
  match X.ev tm x with
  |D.ptr o k=>some (D.ptr o (k+off),s)
  |D.dO row k=>some (D.dO row (k+off),s)
  |x=>match Ga x off with|some d=>some (d,s)|none=>none:=
 fun tm s x off=>nd (aS.eq_22 tm s x off)
theorem RB : ∀ (tm:Tm) (s:St) (x:X) (off:Nat) (agg:Bool) (size:Nat),
 aS (AO.TI x off agg size) tm s =
  match X.ev tm x with
  |D.agg cs=>
   match part cs off agg size with
   |some d=>some (d,s)
   |none=>none
  |x=>none:=
 fun tm s x off agg size=>nd (aS.eq_23 tm s x off agg size)
theorem RC : ∀ (tm:Tm) (s:St) (x i:X) (size:Nat),
 aS (AO.F5 x i size) tm s =
  match X.ev tm x,X.ev tm i with
  | D.slice g z rows,D.int k n=>
   if 0≤n∧z=size then
    match rows[n.toNat]? with
    |some row=>some (D.dO row 0,s)
    |none=>none
   else none
  |x,fR=>match zm x fR size with|some d=>some (d,s)|none=>none:=
 fun tm s x i size=>nd (aS.eq_24 tm s x i size)
theorem RE : ∀ (tm:Tm) (s:St) (x i:X),
 aS (AO.Lp x i) tm s =
  match X.ev tm x,X.ev tm i with
  | D.str t,D.int k n=>
   if 0≤n then
    match t[n.toNat]? with
    |some c=>some (D.int IntKind.u8 ↑c.toNat,s)
    |none=>none
   else none
  |x,fR=>none:=
 fun tm s x i=>nd (aS.eq_25 tm s x i)
theorem RF : ∀ (tm:Tm) (s:St) (x:X) (i:Nat),
 aS (AO.ext x i) tm s =
  match X.ev tm x with
  |D.tuple ds=>
   match ds[i]? with
   |some d=>some (d,s)
   |none=>none
  |x=>none:=
 fun tm s x i=>nd (aS.eq_26 tm s x i)
theorem RG : ∀ (tm:Tm) (s:St) (x:X),
 aS (AO.Lq x) tm s =
  match X.ev tm x with
  |D.str t=>some (D.int IntKind.i64 ↑t.length,s)
  |x=>none:=
 fun tm s x=>nd (aS.eq_27 tm s x)
theorem RH : ∀ (tm:Tm) (s:St) (x:X),
 aS (AO.len x) tm s =
  match X.ev tm x with
  |D.slice g size rows=>some (D.int IntKind.i64 ↑rows.length,s)
  |x=>match HS x with|some d=>some (d,s)|none=>none:=
 fun tm s x=>nd (aS.eq_28 tm s x)
theorem RI : ∀ (tm:Tm) (s:St) (size bytes:Nat) (x y:X),
 aS (AO.app size bytes x y) tm s =
  match X.ev tm x with
  |D.slice g z rows=>fH size bytes (D.slice g z rows) (X.ev tm y) s
  |d=>AH size bytes d (X.ev tm y) s:=
 fun tm s size bytes x y=>nd (aS.eq_29 tm s size bytes x y)
theorem RJ : ∀ (tm:Tm) (s:St) (isMax:Bool) (x y:X),
 aS (AO.mm isMax x y) tm s =
  match X.ev tm x,X.ev tm y with
  |D.int k a,D.int k' b=>
   if k=k' then some (D.int k (if isMax=true then if b > a then b else a else if b<a then b else a),s)
   else none
  |x,fR=>none:=
 fun tm s isMax x y=>nd (aS.eq_30 tm s isMax x y)
theorem RK (tm:Tm) (s:St) (r:List D) (T:TypeId):aS (AO.va (.fv::r) T) tm s=some (.ptr s.aq.length 0,{aq:=s.aq++ [.fM T s.aq.length::r],ay:=s.ay}):=nd rfl
theorem RL (tm:Tm) (s:St) (x:X) (T:TypeId):aS (AO.Ce x T) tm s =
 match (x.ev tm).row with
 |some (.fv::r)=>some (.ptr s.aq.length 0,{aq:=s.aq++ [.fM T s.aq.length::r],ay:=s.ay})
 |_=>none:=nd rfl
theorem RM (tm:Tm) (s:St) (x y:X):aS (AO.apps x y) tm s =
 match y.ev tm with
 | .str l=>Ck (x.ev tm) (.slice .shared 1 (l.map fun c=> [.int .u8 c.toNat])) s
 |_=>none:=nd rfl
theorem RN (tm:Tm) (s:St) (x y:X):aS (AO.Cg x y) tm s=Ck (x.ev tm) (y.ev tm) s:=nd rfl
theorem RO (tm:Tm) (s:St) (f:Nat) (xs:List X):aS (AO.DH f xs) tm s=some (.il f (xs.map fun x=>x.ev tm),s):=nd rfl
theorem RP (tm:Tm) (s:St):aS AO.xK tm s=some (.gU s.aq.length,{aq:=s.aq++ [[]],ay:=s.ay}):=nd rfl
theorem RQ (tm:Tm) (s:St) (m k v:X):aS (AO.Ch m k v) tm s =
 match m.ev tm,k.ev tm,v.ev tm with
 | .gU o, .str key, .slice g z rows=>
  match s.aq[o]? with
  |some cs=>match yG key (.slice g z rows) cs with|some kL=>some (.tuple [],{aq:=s.aq.set o kL,ay:=s.ay})|none=>none
  |none=>none
 |_,_,_=>none:=nd rfl
theorem RR (tm:Tm) (s:St) (m k:X) (zero:D):aS (AO.AA m k zero) tm s =
 match m.ev tm,k.ev tm with
 | .gU o, .str key=>
  match s.aq[o]? with
  |some cs=>match AE key zero cs with|some d=>some (d,s)|none=>none
  |none=>none
 |_,_=>none:=nd rfl
theorem RS (tm:Tm) (s:St) (o:FO) (x y:X):aS (AO.xL o x y) tm s=match sk o (x.ev tm) (y.ev tm)with|some d=>some (d,s)|none=>none:=nd rfl
theorem RT (tm:Tm) (s:St) (size bytes:Nat) (zero:List D) (l c:X):aS (AO.Ci size bytes zero l c) tm s =
 match l.ev tm,c.ev tm with
 | .int .i64 n, .int .i64 m=>if n=m∧0≤n∧n*((bytes:Int)+1)≤aV then some (.dM size s.aq.length 0 n.toNat,{s with aq:=s.aq++ [.int .i64 ((0:Nat):Int)::(gj zero n.toNat).flatten]})else none
 |_,_=>none:=nd rfl
theorem L3 (o:FO) (x y:X):(AO.xL o x y).core=false:=nd rfl
theorem L4 (size bytes:Nat) (zero:List D) (l c:X):(AO.Ci size bytes zero l c).core=true:=nd rfl
theorem L5 (f:Nat) (xs:List X):(AO.DH f xs).core=false:=nd rfl
theorem L6:AO.xK.core=true:=nd rfl
theorem L7 (m k v:X):(AO.Ch m k v).core=true:=nd rfl
theorem L8 (m k:X) (zero:D):(AO.AA m k zero).core=false:=nd rfl
theorem UL (n m f:Nat) (cs:List D):D.fg n m (.il f cs) = .il f (D.iz n m cs):=nd (by simp only[D.fg])
theorem UM (n m:Nat) (o:Nat):D.fg n m (.gU o)=if o<n then .gU o else .junk:=nd (by simp only[D.fg])
theorem RU (d:Option Nat) (g:Option (Nat×Bool)) (t:Nat) (xs:List X):(AI.k6 d g t xs).dst=d:=nd rfl
theorem L9 (x y:X):(AO.Cg x y).core=true:=nd rfl
theorem Ma (z:List D) (T:TypeId):(AO.va z T).core=true:=nd rfl
theorem Mb (x:X) (T:TypeId):(AO.Ce x T).core=true:=nd rfl
theorem Md (x y:X):(AO.apps x y).core=true:=nd rfl
theorem UN (n m:Nat) (v:Value):D.fg n m (.val v) = .val v:=nd (by simp only[D.fg])
theorem UO (n m:Nat) (T:TypeId) (o:Nat):D.fg n m (.fM T o)=if o<n then .fM T o else .junk:=nd (by simp only[D.fg])
theorem Xs : ∀ (tm:Tm) (t:Nat),X.ev tm (X.s t)=tm.get t:=
 fun tm t=>nd (X.ev.eq_1 tm t)
theorem Xt : ∀ (tm:Tm) (d:D),X.ev tm (X.k d)=d:=
 fun tm d=>nd (X.ev.eq_2 tm d)
theorem RV : ∀ (tm:Tm) (d:D) (t:Nat),tm.put (some t) d=tm.set t d:=
 fun tm d t=>nd (Tm.put.eq_1 tm d t)
theorem RW : ∀ (tm:Tm) (d:D),tm.put none d=tm:=
 fun tm d=>nd (Tm.put.eq_2 tm d)
theorem RX : ∀ (x:Nat) (fR:D),Tm.set [] x fR = [(x,fR)]:=
 fun x fR=>nd (Tm.set.eq_1 x fR)
theorem RY : ∀ (x:Nat) (fR:D) (k:Nat) (e:D) (r:List (Nat×D)),
 Tm.set ((k,e)::r) x fR=if k=x then(k,fR)::r else(k,e)::Tm.set r x fR:=
 fun x fR k e r=>nd (Tm.set.eq_2 x fR k e r)
theorem RZ : ∀ (x:Nat),Tm.get [] x=D.junk:=
 fun x=>nd (Tm.get.eq_1 x)
theorem R0 : ∀ (x k:Nat) (d:D) (r:List (Nat×D)),Tm.get ((k,d)::r) x=if k=x then d else Tm.get r x:=
 fun x k d r=>nd (Tm.get.eq_2 x k d r)
theorem UP : ∀ (x:Nat),ov x [] = []:=
 fun x=>nd (ov.eq_1 x)
theorem UQ : ∀ (x:Nat) (d:D) (r:List D),ov x (d::r)=(x,d)::ov (x+1) r:=
 fun x d r=>nd (ov.eq_2 x d r)
theorem R3 : ∀ (d:Option Nat) (g:Option (Nat×Bool)) (o:AO),(AI.op d g o).dst=d:=
 fun d g o=>nd (AI.dst.eq_1 d g o)
theorem R4 : ∀ (d:Option Nat) (g:Option (Nat×Bool)) (f:Nat) (xs:List X),(AI.call d g f xs).dst=d:=
 fun d g f xs=>nd (AI.dst.eq_2 d g f xs)
theorem R5 : ∀ (d:Option Nat) (g:Option (Nat×Bool)) (neg:Bool) (fR:X),(AI.nil d g neg fR).dst=d:=
 fun d g neg fR=>nd (AI.dst.eq_3 d g neg fR)
theorem Xu : ∀ (cs:List D) (off size:Nat),
 part cs off true size=if off+size≤cs.length then some (D.agg (List.take size (List.drop off cs)))else none:=
 fun cs off size=>nd (part.eq_1 cs off size)
theorem Xv : ∀ (cs:List D) (off size:Nat),part cs off false size=cs[off]? :=
 fun cs off size=>nd (part.eq_2 cs off size)
theorem R6 : ∀ (cs:List D) (off:Nat) (r:List D),
 gV cs off r=List.take off cs++r++List.drop (off+r.length) cs:=
 fun cs off r=>nd (gV.eq_1 cs off r)
theorem UR : ∀ (cells:List D),sS cells [] = some cells:=
 fun cells=>nd (sS.eq_1 cells)
theorem US : ∀ (cells:List D) (off size:Nat) (d:D) (rest:List (Nat×Nat×D)),
 sS cells ((off,size,d)::rest) =
  match d.row with
  |none=>none
  |some r=>if r.length=size∧off+size≤cells.length then sS (gV cells off r) rest else none:=
 fun cells off size d rest=>nd (sS.eq_2 cells off size d rest)
theorem Me : ∀ (size:Nat) (rows:List (List D)),kV size rows [] = some rows:=
 fun size rows=>nd (kV.eq_1 size rows)
theorem Mg : ∀ (size:Nat) (rows:List (List D)) (i:Nat) (d:D) (rest:List (Nat×D)),
 kV size rows ((i,d)::rest) =
  match d.row with
  |none=>none
  |some r=>if r.length=size∧i<rows.length then kV size (rows.set i r) rest else none:=
 fun size rows i d rest=>nd (kV.eq_2 size rows i d rest)
theorem Mh : ∀ (zero:List D),gj zero 0 = []:=
 fun zero=>nd (gj.eq_1 zero)
theorem Mi : ∀ (zero:List D) (i:Nat),gj zero i.succ=zero::gj zero i:=
 fun zero i=>nd (gj.eq_2 zero i)
theorem Xw : ∀ (op:BinOp) (k:IntKind) (a:Int) (k':IntKind) (b:Int),
 yF op (D.int k a) (D.int k' b)=if k=k' then fW op k a b else none:=
 fun op k a k' b=>nd (yF.eq_1 op k a k' b)
theorem Xx : ∀ (op:BinOp) (a b:List UInt8),yF op (D.str a) (D.str b)=pN op a b:=
 fun op a b=>nd (yF.eq_2 op a b)
theorem R7 : ∀ (k:IntKind) (a b:Int),fW BinOp.add k a b=some (D.int k (k.wrap (a+b))):=
 fun k a b=>nd (fW.eq_1 k a b)
theorem R8 : ∀ (k:IntKind) (a b:Int),fW BinOp.sub k a b=some (D.int k (k.wrap (a - b))):=
 fun k a b=>nd (fW.eq_2 k a b)
theorem R9 : ∀ (k:IntKind) (a b:Int),fW BinOp.mul k a b=some (D.int k (k.wrap (a*b))):=
 fun k a b=>nd (fW.eq_3 k a b)
theorem Sb : ∀ (k:IntKind) (a b:Int),
 fW BinOp.quo k a b=if b=0 then none else some (D.int k (k.wrap (a.tdiv b))):=
 fun k a b=>nd (fW.eq_4 k a b)
theorem Sc : ∀ (k:IntKind) (a b:Int),fW BinOp.rem k a b=if b=0 then none else some (D.int k (a.tmod b)):=
 fun k a b=>nd (fW.eq_5 k a b)
theorem Sd : ∀ (k:IntKind) (a b:Int),fW BinOp.eql k a b=some (D.bool (a==b)):=
 fun k a b=>nd (fW.eq_6 k a b)
theorem Se : ∀ (k:IntKind) (a b:Int),fW BinOp.neq k a b=some (D.bool (a != b)):=
 fun k a b=>nd (fW.eq_7 k a b)
theorem Sf : ∀ (k:IntKind) (a b:Int),fW BinOp.lss k a b=some (D.bool (decide (a<b))):=
 fun k a b=>nd (fW.eq_8 k a b)
theorem Sg : ∀ (k:IntKind) (a b:Int),fW BinOp.leq k a b=some (D.bool (decide (a≤b))):=
 fun k a b=>nd (fW.eq_9 k a b)
theorem Ot : ∀ (k:IntKind) (a b:Int),fW BinOp.gtr k a b=some (D.bool (decide (a > b))):=
 fun k a b=>nd (fW.eq_10 k a b)
theorem Ou : ∀ (k:IntKind) (a b:Int),fW BinOp.geq k a b=some (D.bool (decide (a≥b))):=
 fun k a b=>nd (fW.eq_11 k a b)
theorem Si : ∀ (a b:List UInt8),
 pN BinOp.add a b=if a.length+b.length≤aV then some (D.str (a++b))else none:=
 fun a b=>nd (pN.eq_1 a b)
theorem Sj : ∀ (a b:List UInt8),pN BinOp.eql a b=some (D.bool (a==b)):=
 fun a b=>nd (pN.eq_2 a b)
theorem Sk : ∀ (a b:List UInt8),pN BinOp.neq a b=some (D.bool !a==b):=
 fun a b=>nd (pN.eq_3 a b)
theorem Sl : ∀ (a b:List UInt8),pN BinOp.lss a b=some (D.bool (bytesLess a b)):=
 fun a b=>nd (pN.eq_4 a b)
theorem Ov (k:IntKind) (a b:Int):fW BinOp.and k a b=some (D.int k (HQ k a b)):=nd rfl
theorem Ow (k:IntKind) (a b:Int):fW BinOp.or k a b=some (D.int k (Z2 k a b)):=nd rfl
theorem Ox (k:IntKind) (a b:Int):fW BinOp.xor k a b=some (D.int k (AB k a b)):=nd rfl
theorem Oy (k:IntKind) (a b:Int):fW BinOp.shl k a b=if b<0 then none else some (D.int k (E0 k a b)):=nd rfl
theorem Oz (k:IntKind) (a b:Int):fW BinOp.shr k a b=if b<0 then none else some (D.int k (HR k a b)):=nd rfl
theorem abR (k:IntKind) (n:Int):Jh UnOp.xor (D.int k n)=some (D.int k (AB k (if k.signed then -1 else k.max) n)):=nd rfl
theorem abS : ∀ (k:IntKind) (n:Int),Jh UnOp.neg (D.int k n)=some (D.int k (k.wrap (0 - n))):=
 fun k n=>nd (Jh.eq_1 k n)
theorem abT : ∀ (b:Bool),Jh UnOp.not (D.bool b)=some (D.bool !b):=
 fun b=>nd (Jh.eq_2 b)
theorem Sn : ∀ (k:IntKind) (a:Int) (k':IntKind) (b:Int),
 oB 0 (D.int k a) (D.int k' b)=if k=k' then some (a==b)else none:=
 fun k a k' b=>nd (oB.eq_1 k a k' b)
theorem Sp : ∀ (a b:Bool),oB 1 (D.bool a) (D.bool b)=some (a==b):=
 fun a b=>nd (oB.eq_2 a b)
theorem Sq : ∀ (a b:List UInt8),oB 2 (D.str a) (D.str b)=some (a==b):=
 fun a b=>nd (oB.eq_3 a b)
theorem OA:mw [] [] [] = some true:=
 nd (mw.eq_1)
theorem OB : ∀ (k:Nat) (ks:List Nat) (x_3:D) (xs:List D) (y:D) (ys:List D),
 mw (k::ks) (x_3::xs) (y::ys) =
  match oB k x_3 y with
  |none=>none
  |some true=>mw ks xs ys
  |some false=>some false:=
 fun k ks x_3 xs y ys=>nd (mw.eq_2 k ks x_3 xs y ys)
theorem abU:ud none=some 0:=
 nd (ud.eq_1)
theorem abV : ∀ (k:IntKind) (n:Int),ud (some (D.int k n))=some n:=
 fun k n=>nd (ud.eq_2 k n)
theorem abW : ∀ (len:Nat),uf none len=some ↑len:=
 fun len=>nd (uf.eq_1 len)
theorem abX : ∀ (len:Nat) (k:IntKind) (n:Int),uf (some (D.int k n)) len=some n:=
 fun len k n=>nd (uf.eq_2 len k n)
theorem OC : ∀ (zero:List D),(AO.alloc zero).core=true:=
 fun zero=>nd (AO.core.eq_1 zero)
theorem OD : ∀ (fR:X),(AO.box fR).core=true:=
 fun fR=>nd (AO.core.eq_2 fR)
theorem OE : ∀ (zero:List D) (size n:Nat) (parts:List (Nat×X)),(AO.wR zero size n parts).core=true:=
 fun zero size n parts=>nd (AO.core.eq_3 zero size n parts)
theorem OF : ∀ (fR:X),(AO.Cd fR).core=true:=
 fun fR=>nd (AO.core.eq_4 fR)
theorem OG : ∀ (p fR:X) (size:Nat),(AO.store p fR size).core=true:=
 fun p fR size=>nd (AO.core.eq_5 p fR size)
theorem OH : ∀ (size bytes:Nat) (fR y:X),(AO.app size bytes fR y).core=true:=
 fun size bytes fR y=>nd (AO.core.eq_6 size bytes fR y)
theorem OI : ∀ (val:Nat) (zero:List D),(AI.op (some val) none (AO.alloc zero)).kind=AK.alloc:=
 fun val zero=>nd (AI.kind.eq_1 val zero)
theorem OM : ∀ (zero:List D),(AO.alloc zero).kind=AK.core:=
 fun zero=>nd (AO.kind.eq_1 zero)
theorem ON : ∀ (fR:X),(AO.box fR).kind=AK.core:=
 fun fR=>nd (AO.kind.eq_2 fR)
theorem OO : ∀ (zero:List D) (size n:Nat) (parts:List (Nat×X)),(AO.wR zero size n parts).kind=AK.core:=
 fun zero size n parts=>nd (AO.kind.eq_3 zero size n parts)
theorem OP : ∀ (fR:X),(AO.Cd fR).kind=AK.core:=
 fun fR=>nd (AO.kind.eq_4 fR)
theorem OQ : ∀ (p fR:X) (size:Nat),(AO.store p fR size).kind=AK.core:=
 fun p fR size=>nd (AO.kind.eq_5 p fR size)
theorem OR : ∀ (size bytes:Nat) (fR y:X),(AO.app size bytes fR y).kind=AK.core:=
 fun size bytes fR y=>nd (AO.kind.eq_6 size bytes fR y)
theorem OS : ∀ (fR:X) (agg:Bool) (size:Nat),(AO.load fR agg size).kind=AK.load:=
 fun _ _ _=>nd rfl
theorem Sr:iM AK.core=true:=
 nd (iM.eq_1)
theorem Ss:iM AK.alloc=true:=
 nd (iM.eq_2)
theorem Sv : ∀ (i:AI) (tm:Tm) (d:D),pT i tm d [] = True:=
 fun i tm d=>nd (pT.eq_1 i tm d)
theorem Sw : ∀ (i:AI) (tm:Tm) (d:D) (s:St) (r:List St),
 pT i tm d (s::r)=(kR i tm s=some d∧pT i tm d r):=
 fun i tm d s r=>nd (pT.eq_2 i tm d s r)
theorem abY : ∀ (tm:Tm) (s:St) (dst:Option Nat) (o:AO),
 kR (AI.op dst none o) tm s=Option.map (fun(x:D×St)=>x.fst) (aS o tm s):=
 fun tm s dst o=>nd (kR.eq_1 tm s dst o)
theorem abZ : ∀ (tm:Tm) (s:St) (dst:Option Nat) (t:Nat) (want:Bool) (o:AO),
 kR (AI.op dst (some (t,want)) o) tm s =
  match tm.get t with
  |D.bool b=>if b=want then Option.map (fun(x:D×St)=>x.fst) (aS o tm s)else some (D.tuple [])
  |D.tuple vs=>some (D.tuple [])
  |x=>none:=
 fun tm s dst t want o=>nd (kR.eq_2 tm s dst t want o)
theorem OT : ∀ (is:List AI),oI is [] = some []:=
 fun is=>nd (oI.eq_1 is)
theorem OU : ∀ (is:List AI) (q b:Nat) (r:List (Nat×Nat)),
 oI is ((q,b)::r) =
  match is[q]?,oI is r with
  |some ai,some l=>some ((ai,b)::l)
  |x,fR=>none:=
 fun is q b r=>nd (oI.eq_2 is q b r)
theorem ab0 : ∀ (tm:Tm) (n m:Nat),xX tm n m [] = True:=
 fun tm n m=>nd (xX.eq_1 tm n m)
theorem ab1 : ∀ (tm:Tm) (n m k:Nat) (d:D) (r:List (Nat×D)),
 xX tm n m ((k,d)::r)=(Wk (D.fg n m (tm.get k)) d∧xX tm n m r):=
 fun tm n m k d r=>nd (xX.eq_2 tm n m k d r)
theorem Xy : ∀ (n m o off:Nat),D.fg n m (D.ptr o off)=if o<n then D.ptr o off else D.junk:=
 fun n m o off=>nd (D.fg.eq_1 n m o off)
theorem Xz : ∀ (n m:Nat) (row:List D) (off:Nat),D.fg n m (D.dO row off)=D.dO (D.iz n m row) off:=
 fun n m row off=>nd (D.fg.eq_2 n m row off)
theorem XA : ∀ (n m:Nat) (g:Tag) (z:Nat) (rows:List (List D)),
 D.fg n m (D.slice g z rows)=D.slice (Tag.fg m g) z (D.lB n m rows):=
 fun n m g z rows=>nd (D.fg.eq_3 n m g z rows)
theorem XB : ∀ (n m:Nat) (cs:List D),D.fg n m (D.agg cs)=D.agg (D.iz n m cs):=
 fun n m cs=>nd (D.fg.eq_4 n m cs)
theorem XC : ∀ (n m:Nat) (ds:List D),D.fg n m (D.tuple ds)=D.tuple (D.iz n m ds):=
 fun n m ds=>nd (D.fg.eq_5 n m ds)
theorem XD : ∀ (n m:Nat),D.fg n m D.junk=D.junk:=
 fun n m=>nd (D.fg.eq_6 n m)
theorem XE : ∀ (n m:Nat) (k:IntKind) (fR:Int),D.fg n m (D.int k fR)=D.int k fR:=
 fun n m k fR=>nd (D.fg.eq_7 n m k fR)
theorem XF : ∀ (n m:Nat) (b:Bool),D.fg n m (D.bool b)=D.bool b:=
 fun n m b=>nd (D.fg.eq_8 n m b)
theorem XG : ∀ (n m:Nat) (l:List UInt8),D.fg n m (D.str l)=D.str l:=
 fun n m l=>nd (D.fg.eq_9 n m l)
theorem UT : ∀ (n m:Nat),D.fg n m D.fv=D.fv:=
 fun n m=>nd (D.fg.eq_10 n m)
theorem UU : ∀ (n m:Nat),D.iz n m [] = []:=
 fun n m=>nd (D.iz.eq_1 n m)
theorem UW : ∀ (n m:Nat) (d:D) (r:List D),D.iz n m (d::r)=D.fg n m d::D.iz n m r:=
 fun n m d r=>nd (D.iz.eq_2 n m d r)
theorem UX : ∀ (n m:Nat),D.lB n m [] = []:=
 fun n m=>nd (D.lB.eq_1 n m)
theorem UY : ∀ (n m:Nat) (d:List D) (r:List (List D)),D.lB n m (d::r)=D.iz n m d::D.lB n m r:=
 fun n m d r=>nd (D.lB.eq_2 n m d r)
theorem Sx : ∀ (m t:Nat) (y:Bool),Tag.fg m (Tag.tok t y)=if t<m then Tag.tok t y else Tag.shared:=
 fun _ _ _=>nd rfl
theorem Sy : ∀ (s:St) (n m:Nat),
 s.cut n m = {aq:=List.map (D.iz n m) (List.take n s.aq),ay:=List.take m s.ay}:=
 fun s n m=>nd (St.cut.eq_1 s n m)
theorem XH : ∀ (d:D),bG [d] = d:=
 fun d=>nd (bG.eq_1 d)
theorem XI (size bytes t:Nat) (rows:List (List D)) (g:Tag) (r:List D) (s:St):fH size bytes (.slice (.tok t) size rows) (.slice g size [r]) s =
 if(rows.length+1)*(bytes+1)≤aV∧s.ay[t]? = some (some rows.length)then some (.slice (.tok t) size (rows++ [r]),⟨s.aq,s.ay.set t (some (rows.length+1))⟩)else none:=by
 simp only[fH,zaK]
 by_cases h1:(rows.length+1)*(bytes+1)≤aV<;>by_cases h2:s.ay[t]? = some (some rows.length)<;>simp[h1,h2]
theorem kB {size bytes t:Nat} {rows new:List (List D)} {g:Tag} {s:St} (h1:(rows.length+new.length)*(bytes+1)≤aV) (h2:s.ay[t]? = some (some rows.length)) :
 fH size bytes (.slice (.tok t) size rows) (.slice g size new) s=some (.slice (.tok t) size (rows++new),⟨s.aq,s.ay.set t (some (rows.length+new.length))⟩):=by
 cases new with
 | nil=>
  have:s.ay.set t (some rows.length)=s.ay:=by
   apply zbV
   intro i
   rw[zaL]
   split
   ·rename_i hi;subst hi;rw[h2,if_pos (zac.1 h2).1]
   ·rfl
  simp only[zaD,zaS]at h1
  simp[fH,h1,this]
 |cons x l=>
  simp only[fH,h1,h2]
  simp
theorem UZ (size bytes z:Nat) (g:Tag) (r:List D) (s:St):fH size bytes (.slice .full z []) (.slice g size [r]) s =
 if bytes+1≤aV then some (.slice (.tok s.ay.length) size [r],⟨s.aq,s.ay++ [some 1]⟩)else none:=by
 simp[fH]
theorem ab2 {P:Program} {B:gY} {nt:Nat} (ac:AC) (Q:Exit→Tm→St→Prop) (tm:Tm) (s:St):AY P B nt ac Q .normal tm s=Q .normal tm s:=nd rfl
theorem ab3 {P:Program} {B:gY} {nt:Nat} (ac:AC) (Q:Exit→Tm→St→Prop) (tm:Tm) (s:St):AY P B nt ac Q .ret tm s=Q .ret tm s:=nd rfl
theorem ab4 {P:Program} {B:gY} {nt:Nat} (ac:AC) (Q:Exit→Tm→St→Prop) (tm:Tm) (s:St) (i:Nat):AY P B nt ac Q (.exit i) tm s=Q (.exit i) tm s:=nd rfl
theorem ab5 (m:Nat):Tag.fg m .full = .full:=nd rfl
theorem U0 (m:Nat):Tag.fg m .shared = .shared:=nd rfl
theorem aiu {P:Program} (K:Tm→St→Prop) (tm:Tm) (s:St):lk P [] K tm s=K tm s:=nd rfl
theorem s_op {P:Program} (dst:Option Nat) (o:AO) (r:List AI) (K:Tm→St→Prop) (tm:Tm) (s:St) :
 lk P (.op dst none o::r) K tm s=(match aS o tm s with|some (d,s')=>lk P r K (tm.put dst d) s'|none=>False):=nd rfl
def KJ (P:Program) (r:List AI) (K:Tm→St→Prop) (tm:Tm) (dst:Option Nat) (d:D) (s:St):Prop:=lk P r K (tm.put dst d) s
theorem amc {P:Program} (r:List AI) (K:Tm→St→Prop) (tm:Tm) (dst:Option Nat) (d:D) (s:St):KJ P r K tm dst d s=lk P r K (tm.put dst d) s:=nd rfl
theorem s_call {P:Program} (dst:Option Nat) (f:Nat) (xs:List X) (r:List AI) (K:Tm→St→Prop) (tm:Tm) (s:St) :
 lk P (.call dst none f xs::r) K tm s=CL false P f (xs.map (·.ev tm)) s (KJ P r K tm dst):=nd rfl
def NJ (P:Program) (dst:Option Nat) (neg:Bool) (x:D) (r:List AI) (K:Tm→St→Prop) (tm:Tm) (s:St):Prop:=
 match x with
 | .slice _ _ rows=>∀ b:Bool,(rows≠ []→b=false)→lk P r K (tm.put dst (.bool (if neg then !b else b))) s
 |_=>False
theorem aew {P:Program} (dst:Option Nat) (neg:Bool) (x:X) (r:List AI) (K:Tm→St→Prop) (tm:Tm) (s:St) :
 lk P (.nil dst none neg x::r) K tm s=NJ P dst neg (x.ev tm) r K tm s:=nd rfl
theorem ab6 {P:Program} (dst:Option Nat) (neg:Bool) (g:Tag) (z:Nat) (d:List D) (l:List (List D)) (r:List AI) (K:Tm→St→Prop) (tm:Tm) (s:St) :
 NJ P dst neg (.slice g z (d::l)) r K tm s=lk P r K (tm.put dst (.bool neg)) s:=by
 simp only[NJ,ne_eq,reduceCtorEq,not_false_eq_true,true_imp_iff,eq_iff_iff]
 refine⟨fun h=>by have:=h false rfl;cases neg<;>exact this,fun h b hb=>?_⟩
 subst hb;cases neg<;>exact h
theorem XJ {P:Program} {dst:Option Nat} {neg:Bool} {g:Tag} {z:Nat} {l:List (List D)} {r:List AI} {K:Tm→St→Prop} {tm:Tm} {s:St}
 (h1:l = []→lk P r K (tm.put dst (.bool (!neg))) s) (h2:lk P r K (tm.put dst (.bool neg)) s):NJ P dst neg (.slice g z l) r K tm s:=by
 intro b hb
 cases b with
 |false=>cases neg<;>exact h2
 |true=>
  have:l = []:=Decidable.byContradiction fun h=>by cases hb h
  cases neg<;>exact h1 this
theorem aiw {P:Program} (dst:Option Nat) (t:Nat) (w:Bool) (o:AO) (r:List AI) (K:Tm→St→Prop) (tm:Tm) (s:St) :
 lk P (.op dst (some (t,w)) o::r) K tm s = @GB (tm.get t) w ⟨(lk P (.op dst none o::r) K tm s),(lk P r K (tm.put dst (.tuple [])) s)⟩:=nd rfl
def CV (P:Program) (x:D) (aix:List D) (s:St) (K:D→St→Prop):Prop:=
 match x with
 | .il f pf=>enters P f=true∧CL false P f (aix++pf) s K
 |_=>False
theorem ab7 {P:Program} (dst:Option Nat) (t:Nat) (xs:List X) (r:List AI) (K:Tm→St→Prop) (tm:Tm) (s:St) :
 lk P (.k6 dst none t xs::r) K tm s=CV P (tm.get t) (xs.map (·.ev tm)) s (KJ P r K tm dst):=nd rfl
theorem CV.use {P:Program} {f:Nat} {pf aix:List D} {s s':St} {d:D} {K:D→St→Prop} (he:enters P f=true) (h:az P f (aix++pf) s d s') (k:K d s'):CV P (.il f pf) aix s K:=⟨he,CU h k⟩
theorem XK {P:Program} (dst:Option Nat) (t:Nat) (w:Bool) (u:Nat) (xs:List X) (r:List AI) (K:Tm→St→Prop) (tm:Tm) (s:St) :
 lk P (.k6 dst (some (t,w)) u xs::r) K tm s = @GB (tm.get t) w ⟨(lk P (.k6 dst none u xs::r) K tm s),(lk P r K (tm.put dst (.tuple [])) s)⟩:=nd rfl
theorem ab8 {P:Program} (dst:Option Nat) (t:Nat) (w:Bool) (f:Nat) (xs:List X) (r:List AI) (K:Tm→St→Prop) (tm:Tm) (s:St) :
 lk P (.call dst (some (t,w)) f xs::r) K tm s = @GB (tm.get t) w ⟨(lk P (.call dst none f xs::r) K tm s),(lk P r K (tm.put dst (.tuple [])) s)⟩:=nd rfl
theorem aey {P:Program} (dst:Option Nat) (t:Nat) (w:Bool) (neg:Bool) (x:X) (r:List AI) (K:Tm→St→Prop) (tm:Tm) (s:St) :
 lk P (.nil dst (some (t,w)) neg x::r) K tm s = @GB (tm.get t) w ⟨(lk P (.nil dst none neg x::r) K tm s),(lk P r K (tm.put dst (.tuple [])) s)⟩:=nd rfl
theorem amd (b:Bool) (A C:Prop) : @GB (.bool b) true ⟨A,C⟩ = @CB (.bool b) ⟨A,C⟩:=nd rfl
theorem ame (b:Bool) (A C:Prop) : @GB (.bool b) false ⟨A,C⟩ = @CB (.bool b) ⟨C,A⟩:=by
 cases b<;>simp[GB,CB,GJ,wy]
theorem amf (l:List D) (w:Bool) (A C:Prop) : @GB (.tuple l) w ⟨A,C⟩=C:=nd rfl
theorem aiy {P:Program} {K:Tm→St→Prop} (bW:List St) (tm:Tm) (s:St):iw P K [] bW tm s=K tm s:=nd rfl
def OJ (P:Program) (o:AO) (dst:Option Nat) (b:Nat) (r:List (AI×Nat)) (K:Tm→St→Prop) (bW:List St) (tm:Tm) (s:St):Bool→Prop
 |true=>match aS o tm s with|some (d,s')=>iw P K r (s::bW) (tm.put dst d) s'|none=>False
 |false=>match aS o tm s with|some (d,_)=>pT (.op dst none o) tm d (bW.take b)∧iw P K r bW (tm.put dst d) s|none=>False
theorem amh {P:Program} {K:Tm→St→Prop} (dst:Option Nat) (o:AO) (b:Nat) (r:List (AI×Nat)) (bW:List St) (tm:Tm) (s:St) :
 iw P K ((.op dst none o,b)::r) bW tm s=OJ P o dst b r K bW tm s o.core:=by
 simp only[iw,oJ]
 cases o.core<;>rfl
theorem ami {P:Program} (o:AO) (dst:Option Nat) (b:Nat) (r:List (AI×Nat)) (K:Tm→St→Prop) (bW:List St) (tm:Tm) (s:St) :
 OJ P o dst b r K bW tm s true=match aS o tm s with|some (d,s')=>iw P K r (s::bW) (tm.put dst d) s'|none=>False:=nd rfl
theorem amj {P:Program} (o:AO) (dst:Option Nat) (b:Nat) (r:List (AI×Nat)) (K:Tm→St→Prop) (bW:List St) (tm:Tm) (s:St) :
 OJ P o dst b r K bW tm s false=match aS o tm s with|some (d,_)=>pT (.op dst none o) tm d (bW.take b)∧iw P K r bW (tm.put dst d) s|none=>False:=nd rfl
theorem aiz {P:Program} {K:Tm→St→Prop} (dst:Option Nat) (t:Nat) (w:Bool) (o:AO) (b:Nat) (r:List (AI×Nat)) (bW:List St) (tm:Tm) (s:St) :
 iw P K ((.op dst (some (t,w)) o,b)::r) bW tm s = @GB (tm.get t) w ⟨(iw P K ((.op dst none o,b)::r) bW tm s),(iw P K r (if o.core then s::bW else bW) (tm.put dst (.tuple [])) s)⟩:=by
 simp only[GB,iw,oJ]
 cases o.core<;>rfl
def KG (P:Program) (K:Tm→St→Prop) (r:List (AI×Nat)) (bW:List St) (tm:Tm) (dst:Option Nat) (d:D) (s:St):Prop:=iw P K r bW (tm.put dst d) s
theorem amk {P:Program} (K:Tm→St→Prop) (r:List (AI×Nat)) (bW:List St) (tm:Tm) (dst:Option Nat) (d:D) (s:St):KG P K r bW tm dst d s=iw P K r bW (tm.put dst d) s:=nd rfl
theorem g_call {P:Program} {K:Tm→St→Prop} (dst:Option Nat) (f:Nat) (xs:List X) (b:Nat) (r:List (AI×Nat)) (bW:List St) (tm:Tm) (s:St) :
 iw P K ((.call dst none f xs,b)::r) bW tm s=CL true P f (xs.map (·.ev tm)) s (KG P K r (s::bW) tm dst):=nd rfl
theorem ab9 {P:Program} {K:Tm→St→Prop} (dst:Option Nat) (t:Nat) (w:Bool) (f:Nat) (xs:List X) (b:Nat) (r:List (AI×Nat)) (bW:List St) (tm:Tm) (s:St) :
 iw P K ((.call dst (some (t,w)) f xs,b)::r) bW tm s = @GB (tm.get t) w ⟨(iw P K ((.call dst none f xs,b)::r) bW tm s),(iw P K r (s::bW) (tm.put dst (.tuple [])) s)⟩:=nd rfl
class Ok (p:Prop):Prop where
 out:p
instance:Ok True:=⟨trivial⟩
instance {p q:Prop} [Ok p] [Ok q] : Ok (p∧q):=⟨⟨Ok.out,Ok.out⟩⟩
instance {α:Type} (a:α):Ok (a=a):=⟨rfl⟩
instance (d:D):Ok (Wk d .junk):=⟨Wk.junk d⟩
instance {l l':List D} [Ok (jh l l')] : Ok (Wk (.tuple l) (.tuple l')):=⟨Wk.tuple Ok.out⟩
instance {l l':List D} [Ok (jh l l')] : Ok (Wk (.agg l) (.agg l')):=⟨Wk.agg Ok.out⟩
instance {g:Tag} {z:Nat} {l l':List (List D)} [Ok (ie l l')] : Ok (Wk (.slice g z l) (.slice g z l')):=⟨Wk.rows Ok.out⟩
instance {g:Tag} {z:Nat} {l l':List (List D)} [Ok (ie l l')] : Ok (Wk (.slice g z l) (.slice .shared z l')):=⟨Wk.slice Ok.out⟩
instance (z z':Nat):Ok (Wk (.slice .full z []) (.slice .full z' [])):=⟨Wk.al3 z z'⟩
instance (g:Tag) (z z':Nat):Ok (Wk (.slice g z []) (.slice .shared z' [])):=⟨Wk.nil g z z'⟩
instance (d:D):Ok (Wk d d):=⟨Wk.refl d⟩
instance:Ok (jh [] []):=⟨.nil⟩
instance {d d':D} {l l':List D} [Ok (Wk d d')] [Ok (jh l l')] : Ok (jh (d::l) (d'::l')):=⟨.cons Ok.out Ok.out⟩
instance (l:List D):Ok (jh l l):=⟨jh.refl l⟩
instance:Ok (ie [] []):=⟨.nil⟩
instance {d d':List D} {l l':List (List D)} [Ok (jh d d')] [Ok (ie l l')] : Ok (ie (d::l) (d'::l')):=⟨.cons Ok.out Ok.out⟩
instance {a a' b b':List (List D)} [Ok (ie a a')] [Ok (ie b b')] : Ok (ie (a++b) (a'++b')):=⟨ie.append Ok.out Ok.out⟩
instance (l:List (List D)):Ok (ie l l):=⟨ie.refl l⟩
theorem bs:(∀ b,(true ||b)=true)∧(∀ b,(false ||b)=b)∧(∀ b,(b ||true)=true)∧(∀ b,(b ||false)=b)∧(∀ b,(true && b)=b)∧(∀ b,(false && b)=false)∧(∀ b,(b && true)=b)∧(∀ b,(b && false)=false)∧
 (!true)=false∧(!false)=true∧(∀ b,(!!b)=b)∧((false=true)=False)∧(∀ (α β:Type) (a:α) (f:α→Option β),(some a).bind f=f a)∧
 (∀ (α β γ:Type) (x:Option α) (f:α→Option β) (g:β→Option γ),(x.bind f).bind g=x.bind fun y=>(f y).bind g):=
 ⟨zbj,zbg,zbI,Bool.or_false,zbf,zaN,zbG,zbt,rfl,rfl,zbP,by simp,fun _ _ _ _=>rfl,fun _ _ _ x f g=>Option.bind_assoc x f g⟩
attribute [go_sem] aet al9 ama aiu s_op amc s_call aew ab6 aiw ab8 aey amd ame amf aiy amh ami amj aiz amk g_call ab9 AO.core AI.kind AO.kind iM
attribute [go_sem] RS RT L3 L4 ab7 XK RO RP RQ RR L5 L6 L7 L8 UL UM RU abG Xf
attribute [go_sem] RN L9 RK RL RM Ma Mb Md UN UO abF Ux abB Xc abC Xd abD Xe Uw abE Xg Rk Xh
attribute [go_sem] UC UD UE UF UG UH UI UJ UK Ro Rp Rq Rr Rs Rt Ru Rv Rw Rx Ry Rz RA RB RC RE RF RG RH RI RJ Xs Xt RV RW RX RY RZ R0 UP UQ R3 R4 R5 Xu Xv R6 UR US Me Mg Mh Mi Xw Xx R7 R8 R9 Sb Sc Sd Se Sf Sg Ot Ou Ov Ow Ox Oy Oz abR Si Sj Sk Sl abS abT Sn Sp Sq OA OB abU abV abW abX OC OD OE OF OG OH OI OM ON OO OP OQ OR OS Sr Ss Sv Sw abY abZ OT OU ab0 ab1 Xy Xz XA XB XC XD XE XF XG UT UU UW UX UY Sx Sy XH XI UZ ab5 U0 ab2 ab3 ab4
attribute [go_sem] zaf zai zbe za2 zat zaD zbQ zbu List.take_succ_cons List.take_zero List.take_nil List.drop_succ_cons List.drop_zero List.drop_nil zaR zaV zaI zaZ zaS za3 zbU
attribute [go_sem] zax zau zaw zao zaQ zbR Int.toNat_zero and_self and_true true_and
attribute [go_sem_proc ↓] reduceIte
attribute [go_sem_proc] Int.reduceLE reduceCtorEq Nat.reduceEqDiff Nat.reduceLeDiff Nat.reduceAdd Nat.reduceMul Nat.reduceSub Nat.reduceLT
theorem cf {b:Bool} {A C:Prop} (h1:b=true→A) (h:b=true:=by assumption) : @CB (.bool b) ⟨A,C⟩:=aeu h h1
theorem cj {b:Bool} {A C:Prop} (h1:b=false→C) (h:b=false:=by assumption) : @CB (.bool b) ⟨A,C⟩:=aev h h1
theorem cm {b:Bool} {A C:Prop} (h1:b=true→A) (h2:b=false→C) : @CB (.bool b) ⟨A,C⟩:=⟨h1,h2⟩
theorem ei {a b:Prop} (x:a) (y:b):a∧b:=⟨x,y⟩
theorem bZ {α:Type _} (a b:α):(some a=some b)=(a=b):=Option.some.injEq a b
theorem cb {α:Sort _} {p:α→Prop} {a:α} : (∃ x,a=x∧p x)↔p a:=exists_eq_left'
theorem ql {n m:Nat} (h:Nat.ble n m=true):n≤m:=zbp h
theorem ax {n m:Nat} {res:List (Nat×Option (Bool×Nat))} {d:D} {s':St} {e:Exit} {tm:Tm} {s:St} {Q:Exit→Tm→St→Prop} (hQ:mN n m res d s'=Q) (h : ∃ l,bF res tm s=some l∧Wk ((bG l).fg n m) d∧ie (s.cut n m).aq s'.aq∧(s.cut n m).ay=s'.ay) (he:e = .ret∨e = .normal:=by first|exact .inl rfl|exact .inr rfl):Q e tm s:=by cases he with|inl x=>cases x;exact ais hQ h|inr x=>cases x;exact ait hQ h
theorem eQ {p:Prop} (h:p:=by repeat' (first|exact Ok.out|with_reducible refine ei ?_ ?_|(simp;done))):p:=h
theorem aU {p:Prop} (h:p:=by repeat' (first|exact Ok.out|with_reducible refine ei ?_ ?_)):p:=h
theorem fL {p:Prop} (h:p:=by(try cases h);simp only[bF,bG,bZ,cb,go_sem,hD,hY,hZ,gC];repeat' (first|exact Ok.out|with_reducible refine ei ?_ ?_|(simp;done))):p:=h
theorem aB {p:Prop} (h:p:=by simp only[bF,bG,bZ,cb,go_sem,hD,hY,hZ,gC];repeat' (first|exact Ok.out|with_reducible refine ei ?_ ?_|(simp;done))):p:=h
theorem lX_ {p:Prop} (h:p:=by simp only[go_sem,hD,hY,hZ,gC];repeat' (first|exact Ok.out|with_reducible refine ei ?_ ?_)):p:=h
theorem di {P:Program} {B:gY} {nt:Nat} {a:AC} {Q:Exit→Tm→St→Prop} {tm bQ:Tm} {s:St} {ix:List (List D)} (n m:Nat) (h:aN P B nt a Q bQ ⟨ix,(s.cut n m).ay⟩) (hn:B.s.aq.length≤n:=by rw[hB];exact ql rfl) (hm:B.s.ay.length≤m:=by rw[hB];exact ql rfl) (ht:xX tm n m bQ:=by exact lX_) (ho:ie (s.cut n m).aq ix:=by exact lX_):aN P B nt a Q tm s:=aN.re bQ ix n m hn hm ht ho h
theorem cv {P:Program} {B:gY} {nt:Nat} {a:AC} {Q:Exit→Tm→St→Prop} {tm bQ:Tm} {s:St} {ix:List (List D)} (n m:Nat) (ht:xX tm n m bQ) (ho:ie (s.cut n m).aq ix) (h:aN P B nt a Q bQ ⟨ix,(s.cut n m).ay⟩) (hn:B.s.aq.length≤n:=by rw[hB];exact ql rfl) (hm:B.s.ay.length≤m:=by rw[hB];exact ql rfl):aN P B nt a Q tm s:=aN.re bQ ix n m hn hm ht ho h
theorem bb:0<1∧0<1∧0<1∧0<1:=⟨Nat.zero_lt_one,Nat.zero_lt_one,Nat.zero_lt_one,Nat.zero_lt_one⟩
end Go.Abs
namespace Go.Abs
mutual
theorem Sz (n m:Nat) : ∀ d,D.ok 0 0 d=true→D.fg n m d=d
 | .junk,_=>by simp[D.fg]
 | .int k n,_=>by simp[D.fg]
 | .bool b,_=>by simp[D.fg]
 | .str l,_=>by simp[D.fg]
 | .fv,_=>by simp[D.fg]
 | .val v,_=>by simp[D.fg]
 | .ek z,_=>by simp[D.fg]
 | .fM T o,h=>by simp[D.ok]at h
 | .gU o,h=>by simp[D.ok]at h
 | .il f cs,h=>by
  simp only[D.ok]at h
  simp only[D.fg,jk n m cs h]
 | .ptr o f,h=>by simp[D.ok]at h
 | .dO r f,h=>by
  simp only[D.ok]at h
  simp only[D.fg,jk n m r h]
 | .slice g z rows,h=>by
  simp only[D.ok,zar]at h
  simp only[D.fg,Mj n m rows h.2]
  cases g with
  |tok t y=>simp[Tag.ok]at h
  |full=>rfl
  |shared=>rfl
 | .agg cs,h=>by
  simp only[D.ok]at h
  simp only[D.fg,jk n m cs h]
 | .tuple cs,h=>by
  simp only[D.ok]at h
  simp only[D.fg,jk n m cs h]
theorem jk (n m:Nat) : ∀ l,D.bM 0 0 l=true→D.iz n m l=l
 | [],_=>by simp[D.iz]
 |d::r,h=>by
  simp only[D.bM,zar]at h
  simp only[D.iz,Sz n m d h.1,jk n m r h.2]
theorem Mj (n m:Nat) : ∀ l,D.iW 0 0 l=true→D.lB n m l=l
 | [],_=>by simp[D.lB]
 |d::r,h=>by
  simp only[D.iW,zar]at h
  simp only[D.lB,jk n m d h.1,Mj n m r h.2]
end
theorem iX {α:Type} {f:α→List D} (h : ∀ x,D.bM 0 0 (f x)=true) (l:List α):D.iW 0 0 (l.map f)=true:=by
 simp[Gm,h]
theorem ng {α:Type} {f:α→List D} (h : ∀ x,D.bM 0 0 (f x)=true) (n m:Nat) (l:List α):D.lB n m (l.map f)=l.map f:=Mj n m _ (iX h l)
theorem Pr (n m:Nat) : ∀ a b,D.lB n m (a++b)=D.lB n m a++D.lB n m b
 | [],b=>by simp[D.lB]
 |x::a,b=>by simp[D.lB,Pr n m a b]
abbrev aF:=List UInt8
structure rT where
 kind:Int
 text:aF
 n:Int
 pos:Int
deriving DecidableEq
structure Ex where
 op:Int
 n:Int
 name:aF
 kids:List Ex
structure Ar where
 ref:Bool
 name:aF
 x:Ex
structure Sm where
 id:Int
 kind:Int
 labels:List aF
 name:aF
 proc:aF
 x:Ex
 has:Bool
 args:List Ar
 a8:List Sm
 aK:List Sm
structure Pm where
 name:aF
 ref:Bool
structure Pc where
 name:aF
 params:List Pm
 vars:List aF
 body:List Sm
 fin:List aF
structure Pg where
 globals:List aF
 procs:List Pc
def ti:Ex:=⟨0,0,[],[]⟩
def ar0:Ar:=⟨false,[],ti⟩
def Mk:Sm:=⟨0,0,[],[],[],ti,false,[],[],[]⟩
def pg0:Pg:=⟨[],[]⟩
def encStr (s:aF):List D:= [.str s]
def kS (t:rT):List D:= [.int .i64 t.kind, .str t.text, .int .i64 t.n, .int .i64 t.pos]
def sl (z:Nat) (rows:List (List D)):D:= .slice .shared z rows
mutual
def bT:Ex→List D
 |⟨op,n,name,kids⟩=> [.int .i64 op, .int .i64 n, .str name, .slice .shared 4 (w9 kids)]
def w9:List Ex→List (List D)
 | []=> []
 |x::l=>bT x::w9 l
end
theorem JA : ∀ l,w9 l=l.map bT
 | []=>by simp[w9]
 |x::l=>by simp[w9,JA l]
theorem jT (x:Ex):bT x = [.int .i64 x.op, .int .i64 x.n, .str x.name, .slice .shared 4 (x.kids.map bT)]:=by
 cases x;simp[bT,JA]
def dE (a:Ar):List D:= [.bool a.ref, .str a.name, .int .i64 a.x.op, .int .i64 a.x.n, .str a.x.name, .slice .shared 4 (a.x.kids.map bT)]
mutual
def aY:Sm→List D
 |⟨id,kind,labels,name,proc,x,has,args,a8,aK⟩=> [.int .i64 id, .int .i64 kind, .slice .shared 1 (labels.map encStr), .str name, .str proc,
  .int .i64 x.op, .int .i64 x.n, .str x.name, .slice .shared 4 (x.kids.map bT), .bool has, .slice .shared 6 (args.map dE), .slice .shared 13 (vv a8), .slice .shared 13 (vv aK)]
def vv:List Sm→List (List D)
 | []=> []
 |x::l=>aY x::vv l
end
theorem JB : ∀ l,vv l=l.map aY
 | []=>by simp[vv]
 |x::l=>by simp[vv,JB l]
theorem eR (s:Sm):aY s = [.int .i64 s.id, .int .i64 s.kind, .slice .shared 1 (s.labels.map encStr), .str s.name, .str s.proc,
 .int .i64 s.x.op, .int .i64 s.x.n, .str s.x.name, .slice .shared 4 (s.x.kids.map bT), .bool s.has, .slice .shared 6 (s.args.map dE), .slice .shared 13 (s.a8.map aY), .slice .shared 13 (s.aK.map aY)]:=by
 cases s;simp[aY,JB]
def fz (p:Pm):List D:= [.str p.name, .bool p.ref]
def bN (p:Pc):List D:= [.str p.name, .slice .shared 2 (p.params.map fz), .slice .shared 1 (p.vars.map encStr), .slice .shared 13 (p.body.map aY), .slice .shared 1 (p.fin.map encStr)]
def bS (p:Pg):List D:= [.slice .shared 1 (p.globals.map encStr), .slice .shared 5 (p.procs.map bN)]
theorem aeA (x:rT):(kS x).length=4:=nd rfl
theorem aca (x:rT):List.take 4 (kS x)=kS x:=nd rfl
theorem acb (x:rT):List.drop 4 (kS x) = []:=nd rfl
theorem U1 (x:rT):(kS x)[0]? = some (.int .i64 x.kind):=nd rfl
theorem U2 (x:rT):(kS x)[1]? = some (.str x.text):=nd rfl
theorem U3 (x:rT):(kS x)[2]? = some (.int .i64 x.n):=nd rfl
theorem U4 (x:rT):(kS x)[3]? = some (.int .i64 x.pos):=nd rfl
theorem aiA (Gu:Int) (aax:aF) (n_:Int) (aeC:Int):kS ⟨Gu,aax,n_,aeC⟩ = [.int .i64 Gu, .str aax, .int .i64 n_, .int .i64 aeC]:=by simp only[kS]
theorem aay (x:Ex):(bT x).length=4:=by simp only[jT];rfl
theorem aeD (x:Ex):List.take 4 (bT x)=bT x:=by simp only[jT];rfl
theorem aeE (x:Ex):List.drop 4 (bT x) = []:=by simp only[jT];rfl
theorem XL (x:Ex):(bT x)[0]? = some (.int .i64 x.op):=by simp only[jT];rfl
theorem XM (x:Ex):(bT x)[1]? = some (.int .i64 x.n):=by simp only[jT];rfl
theorem XN (x:Ex):(bT x)[2]? = some (.str x.name):=by simp only[jT];rfl
theorem XO (x:Ex):(bT x)[3]? = some (.slice .shared 4 (x.kids.map bT)):=by simp only[jT];rfl
theorem aml (op_:Int) (n_:Int) (qm:aF) (aaz:List Ex):bT ⟨op_,n_,qm,aaz⟩ = [.int .i64 op_, .int .i64 n_, .str qm, .slice .shared 4 (aaz.map bT)]:=by simp only[jT]
theorem aiB (x:Ar):(dE x).length=6:=nd rfl
theorem aeF (x:Ar):List.take 6 (dE x)=dE x:=nd rfl
theorem aeG (x:Ar):List.drop 6 (dE x) = []:=nd rfl
theorem XP (x:Ar):(dE x)[0]? = some (.bool x.ref):=nd rfl
theorem XQ (x:Ar):(dE x)[1]? = some (.str x.name):=nd rfl
theorem XR (x:Ar):(dE x)[2]? = some (.int .i64 x.x.op):=nd rfl
theorem XS (x:Ar):(dE x)[3]? = some (.int .i64 x.x.n):=nd rfl
theorem XT (x:Ar):(dE x)[4]? = some (.str x.x.name):=nd rfl
theorem XU (x:Ar):(dE x)[5]? = some (.slice .shared 4 (x.x.kids.map bT)):=nd rfl
theorem XV (x:Ar):List.take 4 (List.drop 2 (dE x))=bT x.x:=by simp only[dE,jT];rfl
theorem amm (Ml:Bool) (qm:aF) (x_:Ex):dE ⟨Ml,qm,x_⟩ = [.bool Ml, .str qm, .int .i64 x_.op, .int .i64 x_.n, .str x_.name, .slice .shared 4 (x_.kids.map bT)]:=by simp only[dE]
theorem K4 (x:Sm):(aY x).length=13:=by simp only[eR];rfl
theorem aeH (x:Sm):List.take 13 (aY x)=aY x:=by simp only[eR];rfl
theorem aeI (x:Sm):List.drop 13 (aY x) = []:=by simp only[eR];rfl
theorem XW (x:Sm):(aY x)[0]? = some (.int .i64 x.id):=by simp only[eR];rfl
theorem XX (x:Sm):(aY x)[1]? = some (.int .i64 x.kind):=by simp only[eR];rfl
theorem XY (x:Sm):(aY x)[2]? = some (.slice .shared 1 (x.labels.map encStr)):=by simp only[eR];rfl
theorem XZ (x:Sm):(aY x)[3]? = some (.str x.name):=by simp only[eR];rfl
theorem X0 (x:Sm):(aY x)[4]? = some (.str x.proc):=by simp only[eR];rfl
theorem X1 (x:Sm):(aY x)[5]? = some (.int .i64 x.x.op):=by simp only[eR];rfl
theorem X2 (x:Sm):(aY x)[6]? = some (.int .i64 x.x.n):=by simp only[eR];rfl
theorem X3 (x:Sm):(aY x)[7]? = some (.str x.x.name):=by simp only[eR];rfl
theorem X4 (x:Sm):(aY x)[8]? = some (.slice .shared 4 (x.x.kids.map bT)):=by simp only[eR];rfl
theorem X5 (x:Sm):(aY x)[9]? = some (.bool x.has):=by simp only[eR];rfl
theorem U5 (x:Sm):(aY x)[10]? = some (.slice .shared 6 (x.args.map dE)):=by simp only[eR];rfl
theorem U6 (x:Sm):(aY x)[11]? = some (.slice .shared 13 (x.a8.map aY)):=by simp only[eR];rfl
theorem U7 (x:Sm):(aY x)[12]? = some (.slice .shared 13 (x.aK.map aY)):=by simp only[eR];rfl
theorem X6 (x:Sm):List.take 4 (List.drop 5 (aY x))=bT x.x:=by simp only[eR,jT];rfl
theorem amn (id_:Int) (Gu:Int) (Ps:List aF) (qm:aF) (aaA:aF) (x_:Ex) (aeJ:Bool) (aaB:List Ar) (aeK:List Sm) (aeL:List Sm):aY ⟨id_,Gu,Ps,qm,aaA,x_,aeJ,aaB,aeK,aeL⟩ = [.int .i64 id_, .int .i64 Gu, .slice .shared 1 (Ps.map encStr), .str qm, .str aaA, .int .i64 x_.op, .int .i64 x_.n, .str x_.name, .slice .shared 4 (x_.kids.map bT), .bool aeJ, .slice .shared 6 (aaB.map dE), .slice .shared 13 (aeK.map aY), .slice .shared 13 (aeL.map aY)]:=by simp only[eR]
theorem aiC (x:Pm):(fz x).length=2:=nd rfl
theorem aeM (x:Pm):List.take 2 (fz x)=fz x:=nd rfl
theorem aeN (x:Pm):List.drop 2 (fz x) = []:=nd rfl
theorem X7 (x:Pm):(fz x)[0]? = some (.str x.name):=nd rfl
theorem X8 (x:Pm):(fz x)[1]? = some (.bool x.ref):=nd rfl
theorem amo (qm:aF) (Ml:Bool):fz ⟨qm,Ml⟩ = [.str qm, .bool Ml]:=by simp only[fz]
theorem aiD (x:Pc):(bN x).length=5:=nd rfl
theorem aeO (x:Pc):List.take 5 (bN x)=bN x:=nd rfl
theorem aeP (x:Pc):List.drop 5 (bN x) = []:=nd rfl
theorem X9 (x:Pc):(bN x)[0]? = some (.str x.name):=nd rfl
theorem Ya (x:Pc):(bN x)[1]? = some (.slice .shared 2 (x.params.map fz)):=nd rfl
theorem Yb (x:Pc):(bN x)[2]? = some (.slice .shared 1 (x.vars.map encStr)):=nd rfl
theorem Yc (x:Pc):(bN x)[3]? = some (.slice .shared 13 (x.body.map aY)):=nd rfl
theorem Yd (x:Pc):(bN x)[4]? = some (.slice .shared 1 (x.fin.map encStr)):=nd rfl
theorem amp (qm:aF) (Pt:List Pm) (aaC:List aF) (aaD:List Sm) (aeQ:List aF):bN ⟨qm,Pt,aaC,aaD,aeQ⟩ = [.str qm, .slice .shared 2 (Pt.map fz), .slice .shared 1 (aaC.map encStr), .slice .shared 13 (aaD.map aY), .slice .shared 1 (aeQ.map encStr)]:=by simp only[bN]
theorem aiE (x:Pg):(bS x).length=2:=nd rfl
theorem aeR (x:Pg):List.take 2 (bS x)=bS x:=nd rfl
theorem aeS (x:Pg):List.drop 2 (bS x) = []:=nd rfl
theorem Ye (x:Pg):(bS x)[0]? = some (.slice .shared 1 (x.globals.map encStr)):=nd rfl
theorem Yf (x:Pg):(bS x)[1]? = some (.slice .shared 5 (x.procs.map bN)):=nd rfl
theorem amq (Mm:List aF) (U8:List Pc):bS ⟨Mm,U8⟩ = [.slice .shared 1 (Mm.map encStr), .slice .shared 5 (U8.map bN)]:=by simp only[bS]
attribute [go_sem] aeA aca acb U1 U2 U3 U4 aiA aay aeD aeE XL XM XN XO aml aiB aeF aeG XP XQ XR XS XT XU XV amm K4 aeH aeI XW XX XY XZ X0 X1 X2 X3 X4 X5 U5 U6 U7 X6 amn aiC aeM aeN X7 X8 amo aiD aeO aeP X9 Ya Yb Yc Yd amp aiE aeR aeS Ye Yf amq
theorem Gv (s:aF):D.bM 0 0 (encStr s)=true:=rfl
theorem aaE (t:rT):D.bM 0 0 (kS t)=true:=rfl
mutual
theorem jM : ∀ x,D.bM 0 0 (bT x)=true
 |⟨op,n,name,kids⟩=>by simp[bT,D.bM,D.ok,Tag.ok,aaF kids]
theorem aaF : ∀ l,D.iW 0 0 (w9 l)=true
 | []=>rfl
 |x::l=>by simp[w9,D.iW,jM x,aaF l]
end
theorem Mn (a:Ar):D.bM 0 0 (dE a)=true:=by simp[dE,D.bM,D.ok,Tag.ok,iX jM]
mutual
theorem qe : ∀ x,D.bM 0 0 (aY x)=true
 |⟨id,kind,labels,name,proc,x,has,args,a8,aK⟩=>by simp[aY,D.bM,D.ok,Tag.ok,SA a8,SA aK,iX Gv,iX jM,iX Mn]
theorem SA : ∀ l,D.iW 0 0 (vv l)=true
 | []=>rfl
 |x::l=>by simp[vv,D.iW,qe x,SA l]
end
theorem SB (p:Pm):D.bM 0 0 (fz p)=true:=rfl
theorem sw (p:Pc):D.bM 0 0 (bN p)=true:=by simp[bN,D.bM,D.ok,Tag.ok,iX SB,iX Gv,iX qe]
theorem gR (p:Pg):D.bM 0 0 (bS p)=true:=by simp[bS,D.bM,D.ok,Tag.ok,iX Gv,iX sw]
theorem aeT (n m:Nat) (x:rT):D.iz n m (kS x)=kS x:=jk n m _ (aaE x)
theorem aiF (n m:Nat) (x:Ex):D.iz n m (bT x)=bT x:=jk n m _ (jM x)
theorem aiG (n m:Nat) (x:Ar):D.iz n m (dE x)=dE x:=jk n m _ (Mn x)
theorem aiH (n m:Nat) (x:Sm):D.iz n m (aY x)=aY x:=jk n m _ (qe x)
theorem aiI (n m:Nat) (x:Pm):D.iz n m (fz x)=fz x:=jk n m _ (SB x)
theorem aiJ (n m:Nat) (x:Pc):D.iz n m (bN x)=bN x:=jk n m _ (sw x)
theorem aiK (n m:Nat) (x:Pg):D.iz n m (bS x)=bS x:=jk n m _ (gR x)
attribute [go_sem] aeT aiF aiG aiH aiI aiJ aiK
theorem dz (l:List aF):D.iW 0 0 (l.map encStr)=true:=iX Gv l
theorem aaG (l:List Ex):D.iW 0 0 (l.map bT)=true:=iX jM l
theorem K5 (l:List Ar):D.iW 0 0 (l.map dE)=true:=iX Mn l
theorem q7 (l:List Sm):D.iW 0 0 (l.map aY)=true:=iX qe l
theorem aiL (l:List Pm):D.iW 0 0 (l.map fz)=true:=iX SB l
theorem xY (l:List Pc):D.iW 0 0 (l.map bN)=true:=iX sw l
theorem U9 (n m:Nat) (l:List aF):D.lB n m (l.map encStr)=l.map encStr:=ng Gv n m l
theorem aeU (n m:Nat) (l:List rT):D.lB n m (l.map kS)=l.map kS:=ng aaE n m l
theorem aiM (n m:Nat) (l:List Ex):D.lB n m (l.map bT)=l.map bT:=ng jM n m l
theorem aiN (n m:Nat) (l:List Ar):D.lB n m (l.map dE)=l.map dE:=ng Mn n m l
theorem aiO (n m:Nat) (l:List Sm):D.lB n m (l.map aY)=l.map aY:=ng qe n m l
theorem aiP (n m:Nat) (l:List Pm):D.lB n m (l.map fz)=l.map fz:=ng SB n m l
theorem aaH (n m:Nat) (l:List Pc):D.lB n m (l.map bN)=l.map bN:=ng sw n m l
theorem aeV (x:Ex) (r:List D):bT x++r = .int .i64 x.op:: .int .i64 x.n:: .str x.name:: .slice .shared 4 (x.kids.map bT)::r:=by rw[jT];rfl
theorem acd (d:D) (x:Ex):d::bT x = [d, .int .i64 x.op, .int .i64 x.n, .str x.name, .slice .shared 4 (x.kids.map bT)]:=by rw[jT]
attribute [go_sem] aeV acd
theorem aiQ:((0:Nat):Int)=0:=nd rfl
theorem aiR:((1:Nat):Int)=1:=nd rfl
theorem aiS:((2:Nat):Int)=2:=nd rfl
attribute [go_sem] aiQ aiR aiS Pr zaj zag encStr ti ar0 Mk pg0 U9 aeU aiM aiN aiO aiP aaH
theorem mx (a b:Nat):(if(b:Int) > (a:Int)then(b:Int)else(a:Int))=((max a b:Nat):Int):=by split<;>omega
theorem dv {x:Int} (h1 : -9223372036854775808≤x) (h2:x<9223372036854775808):IntKind.wrap .i64 x=x:=by
 rw[IntKind.wrap_i64];omega
@[go_sem] theorem aw {n:Nat} (h:n<4611686018427387904):IntKind.wrap .i64 ((n:Int)+1)=((n+1:Nat):Int):=by
 rw[dv]<;>omega
def inc (n:Nat):Option Nat:=if n<4611686018427387904 then some (n+1)else none
def amr (n:Int):Option Int:=if -4611686018427387904<n∧n<4611686018427387904 then some (n+1)else none
@[go_sem] theorem akT {n:Nat} (h:n+1<4611686018427387904):IntKind.wrap .i64 ((n:Int)+1)=((n+1:Nat):Int):=by
 rw[dv]<;>omega
@[go_sem] theorem akU {n:Nat} (h:n<4611686018427387904):IntKind.wrap .i64 ((n:Int)+2)=((n+2:Nat):Int):=by
 rw[dv]<;>omega
def aeW {α:Type} (l:List α) (i:Nat):Option α:=if i<4611686018427387904 then l[i]? else none
def push {α:Type} (k:Nat) (l:List α) (x:α):Option (List α):=if(l.length+1)*k≤aV then some (l++ [x])else none
end Go.Abs
namespace Go.Abs
def EF (os ts:List Nat) (tm:Tm):Tm→Prop
 | []=>True
 |(k,d)::r=>tm.get k=d.dm os ts∧d.ok os.length ts.length=true∧EF os ts tm r
theorem EF.get {os ts:List Nat} {tm:Tm} : ∀ {bQ:Tm},EF os ts tm bQ→∀ k,bQ.get k = .junk∨(tm.get k=(bQ.get k).dm os ts∧(bQ.get k).ok os.length ts.length=true)
 | [],_,k=> .inl rfl
 |(q,d)::r,⟨h1,h2,h3⟩,k=>by
  simp only[Tm.get]
  split
  ·rename_i e;subst e;exact .inr ⟨h1,h2⟩
  ·exact h3.get k
section
variable {P:Program} {B:gY} {nt:Nat}
theorem Holds.sel {tm:Tm} {s:St} {act:Act} {w:World} (os:List Nat) (ix:List (List D)) (bQ:Tm) (wa:os.Nodup) (kn : ∀ o∈os,o<s.aq.length) (hn:B.s.aq.length≤os.length)
 (hold : ∀ i,i<B.s.aq.length→os[i]? = some i) (du : ∀ (i o:Nat),os[i]? = some o→B.s.aq.length≤i→B.s.aq.length≤o) (ho:ix.length=os.length)
 (yM : ∀ (i o:Nat) (ds:List D),os[i]? = some o→ix[i]? = some ds→s.aq[o]? = some (D.fu os (List.range s.ay.length) ds)∧D.bM os.length s.ay.length ds=true)
 (Va:EF os (List.range s.ay.length) tm bQ) (h:Holds B nt tm s act w):Holds B nt bQ ⟨ix,s.ay⟩ act w:=by
 obtain⟨M,e,r,hr,h1,h2⟩:=h
 have zp:(List.range s.ay.length).length=s.ay.length:=List.length_range
 have rg : ∀ (i t:Nat),(List.range s.ay.length)[i]? = some t→i=t:=fun i t h=>by
  rw[zac]at h
  obtain⟨h3,h4⟩:=h
  simpa using h4
 have r0:Rel (iO M os (List.range s.ay.length)) ⟨ix,s.ay⟩ w:=r.sub wa List.nodup_range kn ho (fun i o ds e1 e2=>by rw[zp];exact yM i o ds e1 e2) zp.symm (fun i t h=>by rw[rg i t h])
 have loc : ∀ (i:Nat) o,os[i]? = some o→(iO M os (List.range s.ay.length)).loc i=M.loc o:=fun i o h=>by simp only[iO,wL h]
 have be : ∀ t,t<s.ay.length→(iO M os (List.range s.ay.length)).be t=M.be t:=fun t h=>by
  have:(List.range s.ay.length)[t]? = some t:=zbX h
  simp only[iO,wL this]
 refine⟨iO M os (List.range s.ay.length),⟨⟨e.le.G,by rw[ho];exact hn,fun o h=>?_,e.le.t,fun t n' h e'=>?_⟩,e.kept,fun o h3 h4=>?_,fun t b c z hl hb=>?_,e.ui,e.size,e.os,e.tape,e.output⟩,r0,fun k=>?_,h1,h2⟩
 ·rw[loc o o (hold o h)];exact e.le.loc o h
 ·obtain⟨n,g1,g2,g3⟩:=e.le.tk t n' h e'
  exact⟨n,g1,g2,fun eq=>by rw[be t (zaX h e.le.t)];exact g3 eq⟩
 ·simp only at h4
  rw[ho]at h4
  obtain⟨q,hq⟩ : ∃ q,os[o]? = some q:=⟨_,zah h4⟩
  have oD:(iO M os (List.range s.ay.length)).mu o=M.mu q:=congrArg Prod.fst (loc o q hq)
  rw[oD]at h3 ⊢
  refine e.vH q ?_ (kn q (zad hq))
  by_cases h5:B.s.aq.length≤o
  ·exact .inl (du o q hq h5)
  ·have:=hold o (by omega)
   rw[hq]at this
   cases this
   rcases h3 with h3|h3
   ·exact(h5 h3).elim
   ·exact .inr h3
 ·obtain⟨n,s5⟩:=hl
  have hD:=(zac.1 s5).1
  rw[be t hD]at hb
  exact e.sj t b c z ⟨n,s5⟩ hb
 ·rcases Va.get k with h3 | ⟨h3,h4⟩
  ·rw[h3];exact .junk _
  ·exact RD.DO (M:=M) (M0:=iO M os (List.range s.ay.length)) (s:=s) (s0:=⟨ix,s.ay⟩) rfl loc ho (fun i t h=>by
    have:=rg i t h;subst this;exact be i (by have:=(zac.1 h).1;rwa [zp]at this)) (fun i t h=>by rw[rg i t h]) zp.symm (h3 ▸ hr k) _ rfl h4
theorem aN.sel {a:AC} {Q:Exit→Tm→St→Prop} {tm:Tm} {s:St} (os:List Nat) (ix:List (List D)) (bQ:Tm) (wa:os.Nodup) (kn : ∀ o∈os,o<s.aq.length) (hn:B.s.aq.length≤os.length)
 (hold : ∀ i,i<B.s.aq.length→os[i]? = some i) (du : ∀ (i o:Nat),os[i]? = some o→B.s.aq.length≤i→B.s.aq.length≤o) (ho:ix.length=os.length)
 (yM : ∀ (i o:Nat) (ds:List D),os[i]? = some o→ix[i]? = some ds→s.aq[o]? = some (D.fu os (List.range s.ay.length) ds)∧D.bM os.length s.ay.length ds=true)
 (Va:EF os (List.range s.ay.length) tm bQ) (h:aN P B nt a Q bQ ⟨ix,s.ay⟩):aN P B nt a Q tm s:=
 fun c hc act w hh=>h c hc act w (hh.sel os ix bQ wa kn hn hold du ho yM Va)
mutual
def D.gF (o g:Nat) (rows:List (List D)):D→D
 | .dM z o' g' len=>if o'=o∧g'=g∧len=rows.length then .slice .shared z rows else .dM z o' g' len
 | .dO row off=> .dO (D.kC o g rows row) off
 | .slice t z rs=> .slice t z (D.tj o g rows rs)
 | .agg cs=> .agg (D.kC o g rows cs)
 | .tuple ds=> .tuple (D.kC o g rows ds)
 | .il f cs=> .il f (D.kC o g rows cs)
 | .ptr o off=> .ptr o off
 | .junk=> .junk
 | .int k x=> .int k x
 | .bool b=> .bool b
 | .str l=> .str l
 | .fv=> .fv
 | .val v=> .val v
 | .fM T o=> .fM T o
 | .gU o=> .gU o
 | .fC o g off=> .fC o g off
 | .ek z=> .ek z
def D.kC (o g:Nat) (rows:List (List D)):List D→List D
 | []=> []
 |d::r=>D.gF o g rows d::D.kC o g rows r
def D.tj (o g:Nat) (rows:List (List D)):List (List D)→List (List D)
 | []=> []
 |d::r=>D.kC o g rows d::D.tj o g rows r
end
theorem p7 (o g:Nat) (rows:List (List D)) : ∀ l,D.kC o g rows l=l.map (D.gF o g rows)
 | []=>by simp[D.kC]
 |d::r=>by simp[D.kC,p7 o g rows r]
theorem Pu (o g:Nat) (rows:List (List D)) : ∀ l,D.tj o g rows l=l.map (D.kC o g rows)
 | []=>by simp[D.tj]
 |d::r=>by simp[D.tj,Pu o g rows r]
theorem RD.gF {M:Map} {s:St} {o g:Nat} {rows:List (List D)} {b cap z:Nat} {A:Nat→Option (Nat×Nat)} (hm:M.ob o = .arr z A) (ha:A g=some (b,cap))
 (hs : ∀ row∈rows,row.length=z) (h1 : ∀ (i:Nat) (row:List D) (j:Nat) (d:D),rows[i]? = some row→row[j]? = some d→∃ u,M.G b (0+(i*z+j))=some u)
 (h2 : ∀ (i:Nat) (row:List D) (j:Nat) (d:D) (u:Value),rows[i]? = some row→row[j]? = some d→M.G b (0+(i*z+j))=some u→RD M s d u)
 {d:D} {v:Value} (h:RD M s d v):RD M s (d.gF o g rows) v:=by
 induction h with
 | dM z' o' g' len b' sn A' ho BK zG hl=>
  simp only[D.gF]
  split
  ·rename_i hc
   obtain⟨rfl,rfl,rfl⟩:=hc
   rw[hm]at BK
   cases BK
   rw[ha]at zG
   cases zG
   exact .slice .shared z rows b 0 cap hl hs h1 h2 trivial
  ·exact .dM z' o' g' len b' sn A' ho BK zG hl
 |fC z' o' g' off b' sn A' ho BK zG=>simp only[D.gF];exact .fC z' o' g' off b' sn A' ho BK zG
 |ek z a=>simp only[D.gF];exact .ek z a
 |junk v=>simp only[D.gF];exact .junk v
 |int k x=>simp only[D.gF];exact .int k x
 |bool b=>simp only[D.gF];exact .bool b
 |str l=>simp only[D.gF];exact .str l
 |fv=>simp only[D.gF];exact .fv
 |val v hv=>simp only[D.gF];exact .val v hv
 |fM T o v h ht hv=>simp only[D.gF];exact .fM T o v h ht hv
 |gU o h hm=>simp only[D.gF];exact .gU o h hm
 |ptr o off h hm=>simp only[D.gF];exact .ptr o off h hm
 |il f ds vs hl _ ih=>
  simp only[D.gF,p7]
  refine .il f _ vs (by simpa using hl) (fun i d v e1 e2=>?_)
  simp only[zao,zav]at e1
  obtain⟨d',e1,rfl⟩:=e1
  exact ih i d' v e1 e2
 | dO row off b k h1 h2 ih=>
  simp only[D.gF,p7]
  refine .dO _ off b k (fun i d e=>?_) (fun i d u e eu=>?_)
  ·simp only [zao,zav]at e
   obtain⟨d',e,rfl⟩:=e
   exact h1 i d' e
  ·simp only [zao,zav]at e
   obtain⟨d',e,rfl⟩:=e
   exact ih i d' u e eu
 |jz t z cap hc ht=>simp only[D.gF,D.tj];exact .jz _ z cap hc ht
 |mF z a cap=>simp only[D.gF,D.tj];exact .mF z a cap
 | slice t z rs b k cap hl hs h1 h2 ht ih=>
  simp only[D.gF,Pu]
  have hlen:(rs.map (D.kC o g rows)).length=rs.length:=by simp
  have key:=RD.slice (M:=M) (s:=s) t z (rs.map (D.kC o g rows)) b k cap (by rw[hlen];exact hl) (fun row hr=>by
   obtain⟨lh,h',rfl⟩:=zaF.1 hr
   rw[p7,zaw];exact hs lh h')
   (fun i row j d e1 e2=>by
    simp only[zao,zav]at e1
    obtain⟨lh,e1,rfl⟩:=e1
    rw[p7]at e2
    simp only[zao,zav]at e2
    obtain⟨d',e2,rfl⟩:=e2
    exact h1 i lh j d' e1 e2)
   (fun i row j d u e1 e2 eu=>by
    simp only[zao,zav]at e1
    obtain⟨lh,e1,rfl⟩:=e1
    rw[p7]at e2
    simp only[zao,zav]at e2
    obtain⟨d',e2,rfl⟩:=e2
    exact ih i lh j d' u e1 e2 eu)
   (by rw[hlen];exact ht)
  rw[hlen]at key
  exact key
 |agg cells vs hl h1 _ ih=>
  simp only[D.gF,p7]
  refine .agg _ vs (by simpa using hl) h1 (fun i d v e1 e2=>?_)
  simp only[zao,zav]at e1
  obtain⟨d',e1,rfl⟩:=e1
  exact ih i d' v e1 e2
 |tuple ds vs hl _ ih=>
  simp only[D.gF,p7]
  refine .tuple _ vs (by simpa using hl) (fun i d v e1 e2=>?_)
  simp only[zao,zav]at e1
  obtain⟨d',e1,rfl⟩:=e1
  exact ih i d' v e1 e2
def fzR (o g:Nat) (rows:List (List D)) (n m:Nat) (ds:List D):List D:=D.iz n m (D.kC o g rows ds)
def TmF (o g:Nat) (rows:List (List D)) (m:Nat) (tm:Tm):Tm→Prop
 | []=>True
 |(k,d)::r=>Wk (((tm.get k).gF o g rows).fg o m) d∧TmF o g rows m tm r
end
end Go.Abs
namespace Go.Abs
mutual
def D.flat:D→Bool
 | .int _ _=>true
 | .bool _=>true
 | .str _=>true
 | .tuple ds=>D.Gw ds
 |_=>false
def D.Gw:List D→Bool
 | []=>true
 |d::r=>d.flat && D.Gw r
end
theorem JC : ∀ {l:List D},D.Gw l=true→∀ {i:Nat} {d:D},l[i]? = some d→d.flat=true
 | [],_,i,d,e=>by simp at e
 |a::l,h,i,d,e=>by
  simp only[D.Gw,zar]at h
  cases i with
  |zero=>simp at e;subst e;exact h.1
  |succ i=>exact JC h.2 (by simpa using e)
theorem RD.flat {M M':Map} {s s':St} {d:D} {v:Value} (h:RD M s d v):d.flat=true→RD M' s' d v:=by
 induction h with
 |int k n=>exact fun _=> .int k n
 |bool b=>exact fun _=> .bool b
 |str l=>exact fun _=> .str l
 |tuple ds vs hl _ ih=>exact fun hf=> .tuple ds vs hl fun i d v e1 e2=>ih i d v e1 e2 (JC (by simpa only[D.flat]using hf) e1)
 |_=>intro hf;simp only[D.flat,zab]at hf
theorem Pv {n m:Nat} : ∀ {l:List D},D.bM n m l=true→∀ {i:Nat} {d:D},l[i]? = some d→d.ok n m=true
 | [],_,i,d,e=>by simp at e
 |a::l,h,i,d,e=>by
  simp only[D.bM,zar]at h
  cases i with
  |zero=>simp at e;subst e;exact h.1
  |succ i=>exact Pv h.2 (by simpa using e)
theorem Rel.EA {M:Map} {s:St} {w w':World} (r:Rel M s w) (EA : ∀ k,k<w.heap.size→w'.heap[k]? = w.heap[k]?) (hs:w.heap.size≤w'.heap.size) (h1:w'.os=w.os) (h2:w'.tape=w.tape) (h3:w'.output=w.output) :
 Rel M s w'∧Ext M s w M s w':=by
 refine⟨⟨fun p o v e=>?_,fun o ds e=>?_,r.kv,r.inj,fun t n e=>?_,r.fw,r.gP⟩,⟨Le.refl M s,fun k hk _ _=>EA k hk,fun o h h'=>by rcases h with h|h;omega;exact(h rfl).elim,fun t b c z h e=> .inl ⟨h,c,z,e⟩,fun _ _ h=>(h rfl).elim,hs,h1,h2,h3⟩⟩
 ·obtain⟨h1,h2⟩:=r.comm p o v e
  refine⟨?_,h2⟩
  rw[← h1]
  simp only[World.cell?,EA _ (r.Co e)]
 ·obtain⟨vs,T,h1,h2⟩:=r.obj o ds e
  exact⟨vs,T,h1.keep (EA _ h1.lt),h2⟩
 ·rcases r.tok t n e with h | ⟨p,cap,z,vs,T,h1,h2,h3⟩
  ·exact .inl h
  ·exact .inr ⟨p,cap,z,vs,T,h1,by rw[EA _ (k7 h2)];exact h2,h3⟩
theorem az.ams {P:Program} {f:FuncId} {args:List D} {d:D} {s:St} {o g z:Nat} {rows:List (List D)} {k:Nat} (hk:args[k]? = some (.dM z o g rows.length)) {more:List D}
 (dX:s.aq[o]? = some (.int .i64 (g:Int)::(rows.flatten++more))) (hs : ∀ row∈rows,row.length=z) (h:az P f (D.kC o g rows args) S0 d S0) (ha:D.bM 0 0 (D.kC o g rows args)=true)
 (hd:d.flat=true):az P f args s d s:=by
 intro M w fN r hl dT wx
 have hD:=(zac.1 hk).1
 obtain⟨b0,aeY,A,_,_,hm,_⟩:=(wx k _ _ hk (zbl (by omega))).zt
 have jg:pg s o g=some (rows.flatten++more):=by unfold pg;rw[dX];simp
 obtain⟨us,T,cap,hh,ve,Es,aqU,hle,ig,jG⟩:=r.LD hm jg
 have Ia:o<s.aq.length:=(zac.1 dX).1
 have hGo : ∀ q,M.G (M.mu o) q=none:=r.kv o Ia
 let M':Map:= {M with G:=fun b q=>if b=M.mu o then us[q]? else M.G b q}
 have rQ : ∀ b,b≠M.mu o→∀ q,M'.G b q=M.G b q:=fun b hb q=>if_neg hb
 have le:Le M s M' s:=⟨fun b q v hq=>by
  by_cases hb:b=M.mu o
  ·subst hb;rw[hGo]at hq;cases hq
  ·rw[rQ b hb];exact hq,zal _,fun _ _=> .refl _,zal _,fun t n' _ e=>⟨n',e,zal _,fun _=>rfl⟩⟩
 have iN : ∀ (i:Nat) (row:List D) (j:Nat) (d:D),rows[i]? = some row→row[j]? = some d→(rows.flatten++more)[i*z+j]? = some d:=by
  have gen : ∀ (rows:List (List D)),(∀ row∈rows,row.length=z)→∀ (i:Nat) (row:List D) (j:Nat) (d:D),rows[i]? = some row→row[j]? = some d→rows.flatten[i*z+j]? = some d:=by
   intro rows
   induction rows with
   |nil=>intro _ i row j d e1;simp at e1
   | cons a rows ih=>
    intro hs i row j d e1 e2
    have qk:=hs a (zaA ..)
    rw[zbi]
    cases i with
    |zero=>
     simp at e1;subst e1
     rw[Nat.zero_mul,zaZ,zak (zac.1 e2).1];exact e2
    |succ i=>
     rw[zas (by rw[zbm];omega),qk,show(i+1)*z+j - z=i*z+j by rw[zbm];omega]
     exact ih (fun q hq=>hs q (zan _ hq)) i row j d (by simpa using e1) e2
  intro i row j d e1 e2
  have:=gen rows hs i row j d e1 e2
  rw[zak (zac.1 this).1];exact this
 have g1 : ∀ (i:Nat) (row:List D) (j:Nat) (d:D),rows[i]? = some row→row[j]? = some d→∃ u,M'.G (M.mu o) (0+(i*z+j))=some u:=fun i row j d e1 e2=>by
  have hD:=(zac.1 (iN i row j d e1 e2)).1
  refine⟨us[i*z+j]'(by omega), ?_⟩
  show(if M.mu o=M.mu o then us[0+(i*z+j)]? else _)=_
  rw[if_pos rfl,zaZ]
  exact zbl _
 have g2 : ∀ (i:Nat) (row:List D) (j:Nat) (d:D) (u:Value),rows[i]? = some row→row[j]? = some d→M'.G (M.mu o) (0+(i*z+j))=some u→RD M' s d u:=fun i row j d u e1 e2 eu=>by
  have Gx:(if M.mu o=M.mu o then us[0+(i*z+j)]? else M.G (M.mu o) (0+(i*z+j)))=some u:=eu
  rw[if_pos rfl,zaZ]at Gx
  exact(jG _ d u (iN i row j d e1 e2) Gx).mono le
 have r0:Rel M' S0 w:=⟨fun b q v hq=>by
  have nq:(if b=M.mu o then us[q]? else M.G b q)=some v:=hq
  by_cases hb:b=M.mu o
  ·rw [if_pos hb]at nq
   rw[hb,j8 hh]
   exact⟨nq,ig v (zbJ nq)⟩
  ·rw [if_neg hb]at nq
   exact r.comm b q v nq,fun o ds e=>by simp[S0]at e,fun o h=>by simp[S0]at h,fun o _ h=>by simp[S0]at h,fun t n e=>by simp[S0]at e,
  fun t b c z o hl _ ho=>by simp[S0]at ho,fun t t' b c z c' z' hl=>by obtain⟨n,hn⟩:=hl;simp[S0]at hn⟩
 have l0:Laid M' S0 w:=fun q cs hq=>⟨(hl q cs hq).1,fun o ho=>by simp[S0]at ho,fun t c z ht=>by obtain⟨n,hn⟩:=ht;simp[S0]at hn⟩
 have a0 : ∀ (i:Nat) (d:D) (v:Value),(D.kC o g rows args)[i]? = some d→fN[i]? = some v→RD M' S0 d v:=fun i d0 v e1 e2=>by
  have o8:=Pv ha e1
  rw[p7,zao,zav]at e1
  obtain⟨d1,e1,rfl⟩:=e1
  have tt:=((wx i d1 v e1 e2).mono le).gF (M:=M') hm ve hs g1 g2
  exact RD.DO (M:=M') (M0:=M') (s:=s) (s0:=S0) (os:= []) (ts:= []) rfl (by simp) rfl (by simp) (by simp) rfl tt _ (sv _ _ _ o8) o8
 refine(h M' w fN r0 l0 (by rw[dT,p7,zaw]) a0).mono fun e w' ⟨M2,d2,v,s2,h1,⟨h2,h3⟩,hx,_,h4⟩=>?_
 subst h2 h3
 have EA : ∀ k,k<w.heap.size→w'.heap[k]? = w.heap[k]? :=fun k hk=>hx.kept k hk (fun o ho=>by simp[S0]at ho) (fun t c z ht=>by obtain⟨n,hn⟩:=ht;simp[S0]at hn)
 obtain⟨r',e'⟩:=r.EA EA hx.size hx.os hx.tape hx.output
 exact⟨M,d2,v,s,h1,⟨rfl,rfl⟩,e',r',h4.flat hd⟩
section
variable {P:Program} {B:gY} {nt:Nat}
theorem bp.iY {f:FuncId} {res:List (Nat×Option (Bool×Nat))} {body:AC} {args:List D} {s:St} {R:D→St→Prop} (h0:Has P f nt res body) (hl:Nat.ble args.length nt=true)
 (h : ∀ (B:gY) (Q:Exit→Tm→St→Prop),B.s=s→W6 res R=Q→jJ P B nt body Q (ov 0 args) s):bp P f args s R:=by
 obtain⟨fn,hf,hc⟩:=h0
 refine bp.K3 (bp.Uj (Q:=R) hf hc (zbp hl) fun B hB=>ji (h B _ hB rfl)) fun d s1 h=>⟨d,s1,Wk.refl _,ie.refl _,rfl,h⟩
theorem dG {res:List (Nat×Option (Bool×Nat))} {R:D→St→Prop} {tm:Tm} {s:St} {e:Exit} {Q:Exit→Tm→St→Prop} (hQ:W6 res R=Q) (h : ∃ l,bF res tm s=some l∧R (bG l) s) (he:e = .ret∨e = .normal:=by first|exact .inl rfl|exact .inr rfl):Q e tm s:=by
 subst hQ
 rcases he with rfl|rfl<;>exact h
def upD (R:D→St→Prop) (d:D) (s:St):Prop:=∃ d' s',Wk d d'∧ie s.aq s'.aq∧s.ay=s'.ay∧R d' s'
theorem bp.up {f:FuncId} {args:List D} {s:St} {R:D→St→Prop} (h:bp P f args s (upD R)):bp P f args s R:=
 bp.K3 h fun d s1 ⟨d',s',h1,h2,h3,h4⟩=>⟨d',s',h1,h2,h3,h4⟩
def xa (tm:Tm):Tm→Prop
 | []=>True
 |(k,d)::r=>Wk (tm.get k) d∧xa tm r
theorem xa.get {tm:Tm} : ∀ {bQ:Tm},xa tm bQ→∀ t,Wk (tm.get t) (bQ.get t)
 | [],_,t=>Wk.junk _
 |(k,d)::r,h,t=>by
  simp only[Tm.get]
  split
  ·rename_i hk;subst hk;exact h.1
  ·exact xa.get h.2 t
theorem ae0 (tm:Tm):xa tm [] = True:=nd rfl
theorem ae1 (tm:Tm) (k:Nat) (d:D) (r:Tm):xa tm ((k,d)::r)=(Wk (tm.get k) d∧xa tm r):=nd rfl
attribute [go_sem] ae0 ae1
theorem Holds.jx {tm bQ:Tm} {s:St} {act:Act} {w:World} (ht:xa tm bQ) (h:Holds B nt tm s act w):Holds B nt bQ s act w:=by
 obtain⟨M,e,r,hr,h1,h2⟩:=h
 exact⟨M,e,r,fun k=>ht.get k _ _ _ (hr k),h1,h2⟩
theorem aN.jx {a:AC} {Q:Exit→Tm→St→Prop} {tm bQ:Tm} {s:St} (ht:xa tm bQ) (h:aN P B nt a Q bQ s):aN P B nt a Q tm s:=fun c hc act w hh=>h c hc act w (hh.jx ht)
theorem mM.jx {a r:AC} {Q:Exit→Tm→St→Prop} {tm bQ:Tm} {s:St} (ht:xa tm bQ) (h:mM P B nt a r Q bQ s):mM P B nt a r Q tm s:=fun c rest hc hr act w hh=>h c rest hc hr act w (hh.jx ht)
theorem Sem.jx {a:AC} {Q:Exit→Tm→St→Prop} {tm bQ:Tm} {s:St} (ht:xa tm bQ) (h:Sem P B nt a Q bQ s):Sem P B nt a Q tm s:=fun c hc act w hh=>h c hc act w (hh.jx ht)
end
theorem df {s:St} {o:Nat} {r:List D} (h:s.aq[o]? = some r):o<s.aq.length:=(zac.1 h).1
theorem Pw {s:St} {a b:Nat} {r r':List D} (h:s.aq[a]? = some r) (h':s.aq[b]? = some r') (hn:r≠r'):a≠b:=fun e=>by subst e;rw[h]at h';cases h';exact hn rfl
end Go.Abs
namespace Go.Abs
theorem az.Cd {P:Program} {f:Nat} {args:List D} {s0 s:St} {o off n m:Nat} {row:List D} (h:az P f args s0 (.ptr o off) s) (ho:s.aq[o]? = some row) (hn:s0.aq.length≤n) (zN:n≤o) (hm:s0.ay.length≤m) :
 az P f args s0 (.dO (D.iz n m row) off) (s.cut n m):=by
 intro M0 w0 fN r0 lC amt ha
 refine(h M0 w0 fN r0 lC amt ha).mono ?_
 rintro en w ⟨M,d,v0,s',rfl,⟨rfl,rfl⟩,e,r,hv⟩
 have zo:=hv.Cp
 have qD:v0 = .pointer (some ⟨M.mu o,off,none⟩):=hv.ur.1
 have Ia:o<s'.aq.length:=(zac.1 ho).1
 obtain⟨vs,T,hh,dT,⟨ig,_⟩,jG⟩:=r.obj o row ho
 replace hh:w.heap[M.mu o]? = some (.cells vs T (0,0)):=hh.cells zo
 let M':Map:= {M with G:=fun b q=>if b=M.mu o then vs[q]? else M.G b q}
 have hGo : ∀ q,M.G (M.mu o) q=none:=r.kv o Ia
 have le:Le M s' M' s':=⟨fun b q v hq=>by
  show(if b=M.mu o then vs[q]? else M.G b q)=some v
  by_cases hb:b=M.mu o
  ·subst hb;rw[hGo]at hq;cases hq
  ·rw[if_neg hb];exact hq,zal _,fun _ _=> .refl _,zal _,fun t n' _ e=>⟨n',e,zal _,fun _=>rfl⟩⟩
 have hD : ∀ q,q<(s'.cut n m).aq.length→q<s'.aq.length∧q≠o:=fun q h=>by rw[pw]at h;omega
 have q8:w0.heap.size≤M.mu o:=e.vH o (.inl (by omega)) Ia
 have ec:=e.cut hn hm
 have lec:Le M (s'.cut n m) M' (s'.cut n m):=⟨le.G,zal _,fun _ _=> .refl _,zal _,fun t n' _ e=>⟨n',e,zal _,fun _=>rfl⟩⟩
 have rc:=r.cut n m
 have rQ : ∀ b,b≠M.mu o→∀ q,M'.G b q=M.G b q:=fun b hb q=>if_neg hb
 refine⟨M',_,v0,_,rfl,⟨rfl,rfl⟩,⟨ec.le.trans lec,ec.kept,ec.vH,ec.sj,fun b q eO=>?_,ec.size,ec.os,ec.tape,ec.output⟩,⟨fun b q v hq=>?_,fun q ds hq=>?_,fun q hq yH=>?_,rc.inj,fun t n' Ul=>?_,rc.fw,rc.gP⟩, ?_⟩
 ·by_cases hb:b=M.mu o
  ·subst hb;exact .inl q8
  ·rw[rQ b hb]at eO;exact ec.ui b q eO
 ·have nq:(if b=M.mu o then vs[q]? else M.G b q)=some v:=hq
  by_cases hb:b=M.mu o
  ·rw [if_pos hb]at nq
   rw[hb,j8 hh]
   exact⟨nq,ig v (zbJ nq)⟩
  ·rw [if_neg hb]at nq
   exact r.comm b q v nq
 ·obtain⟨fP,T',h3,h4,h5,h6⟩:=rc.obj q ds hq
  exact⟨fP,T',h3,h4,h5,fun i d v e1 e2=>(h6 i d v e1 e2).mono lec⟩
 ·obtain⟨h3,h4⟩:=hD q hq
  show M'.G (M.mu q) yH=none
  rw[rQ _ (fun e=>h4 (r.inj q o h3 Ia e))]
  exact r.kv q h3 yH
 ·rcases rc.tok t n' Ul with h3 | ⟨b,cap,z,fP,T',h3,h4,h5,h6,h7⟩
  ·exact .inl h3
  ·refine .inr ⟨b,cap,z,fP,T',h3,h4,h5,h6,fun yH Fe=> ?_,h7.2⟩
   rw[rQ _ (fun e=>r.fw t b cap z o (wZ ⟨n',Ul⟩) h3 Ia e.symm)]
   exact h7.1 yH Fe
 ·rw [qD]
  have:=RD.dO (M:=M') (s:=s'.cut n m) (D.iz n m row) off (M.mu o) 0 (fun i d e1=>?_) (fun i d u e1 eu=>?_)
  ·simpa using this
  ·rw [oH,zao,zav]at e1
   obtain⟨d0,e1,rfl⟩:=e1
   have hi:=(zac.1 e1).1
   refine⟨vs[i]'(by omega), ?_⟩
   show(if M.mu o=M.mu o then vs[0+i]? else _)=_
   rw[if_pos rfl,zaZ]
   exact zbl _
  ·rw [oH,zao,zav]at e1
   obtain⟨d0,e1,rfl⟩:=e1
   have Gx:(if M.mu o=M.mu o then vs[0+i]? else M.G (M.mu o) (0+i))=some u:=eu
   rw[if_pos rfl,zaZ]at Gx
   exact((jG i d0 u e1 Gx).fg n m).mono lec
theorem az.goK {P:Program} {f:FuncId} {res:List (Nat×Option (Bool×Nat))} {body:AC} {args:List D} {s:St} {d:D} {s':St} {nt:Nat} (n m:Nat) (hn:s.aq.length≤n) (hm:s.ay.length≤m) (h0:Has P f nt res body) (hl:Nat.ble args.length nt=true)
 (h : ∀ (B:gY) (Q:Exit→Tm→St→Prop),B.s=s→mN n m res d s'=Q→jJ P B nt body Q (ov 0 args) s):az P f args s d s':=by
 obtain⟨fn,hf,hc⟩:=h0
 refine bp.K3 (bp.intro (Q:=fun d1 s1=>Wk d1 d∧ie s1.aq s'.aq∧s1.ay=s'.ay) hf hc (zbp hl) fun B hB=>(ji (h B _ hB rfl)).mono fun e tm s1 hr=>?_) fun d1 s1 ⟨h1,h2,h3⟩=>⟨d,s',h1,h2,h3,rfl,rfl⟩
 subst hB
 cases e with
 |normal=>obtain⟨l,h1,h2,h3,h4⟩:=hr;exact⟨l,h1,_,_,hn,hm,h2,h3,h4⟩
 |ret=>obtain⟨l,h1,h2,h3,h4⟩:=hr;exact⟨l,h1,_,_,hn,hm,h2,h3,h4⟩
 |exit id=>exact hr.elim
 |goto l=>exact hr.elim
 |panic ch=>exact hr.elim
 |outgrown=>exact hr.elim
section
variable (s:St) (o g off len k z size bytes:Nat) (kk:IntKind)
theorem aiT:pg s o g=match s.aq[o]? with|some (.int .i64 n::cells)=>if n=(g:Int)then some cells else none|_=>none:=nd rfl
theorem ae3 (agg:Bool):AG (.fC o g off) agg size s=match pg s o g with|some cells=>(match part cells off agg size with|some d=>some (d,s)|none=>none)|none=>none:=nd rfl
theorem ace (r:List D):Cl (.fC o g off) (some r) size s=match pg s o g with
 |some cells=>if r.length=size∧off+size≤cells.length then some (.tuple [],⟨s.aq.set o (.int .i64 g::gV cells off r),s.ay⟩)else none
 |none=>none:=nd rfl
theorem aiU:Qr (.fC o g off)=some (.fC o g off):=nd rfl
theorem acf:Ga (.fC o g k) off=some (.fC o g (k+off)):=nd rfl
theorem acg:zm (.dM z o g len) (.int kk (k:Int)) size=if k<len then(if z=size then some (.fC o g (k*z))else none)else none:=by
 simp only[zm]
 by_cases h1:k<len<;>by_cases h2:z=size<;>simp[h1,h2]
theorem aiV:HS (.dM z o g len)=some (.int .i64 len):=nd rfl
theorem ae4:HS (.ek z)=some (.int .i64 0):=nd rfl
theorem Fh {z bytes:Nat} (t:Tag) (r:List D) (s:St) (hm:bytes+1≤aV):AH z bytes (.ek z) (.slice t z [r]) s=some (.dM z s.aq.length 0 1,⟨s.aq++ [.int .i64 ((0:Nat):Int)::r],s.ay⟩):=by
 simp[AH,hm]
theorem aiW (n m:Nat):D.fg n m (.dM z o g len)=if o<n then .dM z o g len else .junk:=nd (by simp only[D.fg])
theorem aiX (n m:Nat):D.fg n m (.fC o g off)=if o<n then .fC o g off else .junk:=nd (by simp only[D.fg])
theorem aiY (n m:Nat):D.fg n m (.ek z) = .ek z:=nd (by simp only[D.fg])
theorem ae5:(D.dM z o g len).row=some [.dM z o g len]:=nd rfl
theorem ae6:(D.fC o g off).row=some [.fC o g off]:=nd rfl
theorem ae7:(D.ek z).row=some [.ek z]:=nd rfl
end
attribute [go_sem] aiT ae3 ace aiU acf acg aiV ae4 aiW aiX aiY ae5 ae6 ae7
theorem Wk.ek (z z':Nat):Wk (.slice .full z []) (.ek z'):=fun M s v h=>by
 cases h with
 |jz _ _ cap hc ht=>subst hc;exact .ek z' none
 |slice _ _ _ b k cap hl hs h1 h2 ht=>
  have:cap=0:=ht
  subst this
  exact .ek z' _
instance (z z':Nat):Ok (Wk (.slice .full z []) (.ek z')):=⟨Wk.ek z z'⟩
instance {a a' b b':List D} [Ok (jh a a')] [Ok (jh b b')] : Ok (jh (a++b) (a'++b')):=⟨jh.append Ok.out Ok.out⟩
theorem aiZ (n m:Nat) (a b:List D):D.iz n m (a++b)=D.iz n m a++D.iz n m b:=nd (by simp only[oH,zag])
attribute [go_sem] aiZ
def CQ (os:List Nat) (m:Nat) (aq:List (List D)):List Nat→List (List D)→Prop
 | [],[]=>True
 |o::l,ds::r=>aq[o]? = some (D.fu os (List.range m) ds)∧D.bM os.length m ds=true∧CQ os m aq l r
 |_,_=>False
theorem CQ.get {os:List Nat} {m:Nat} {aq:List (List D)} : ∀ {l:List Nat} {r:List (List D)},CQ os m aq l r→r.length=l.length∧∀ (i o:Nat) (ds:List D),l[i]? = some o→r[i]? = some ds→aq[o]? = some (D.fu os (List.range m) ds)∧D.bM os.length m ds=true
 | [],[],_=>⟨rfl,fun i o ds h=>by simp at h⟩
 |o::l,ds::r,⟨h1,h2,h3⟩=>by
  obtain⟨g1,g2⟩:=h3.get
  refine⟨by simp[g1],fun i o' o6 e1 e2=>?_⟩
  cases i with
  |zero=>simp at e1 e2;subst e1 e2;exact⟨h1,h2⟩
  |succ i=>exact g2 i o' o6 (by simpa using e1) (by simpa using e2)
 | [],_::_,h=>h.elim
 |_::_,[],h=>h.elim
section
variable {P:Program} {B:gY} {nt:Nat} {a:AC} {Q:Exit→Tm→St→Prop} {tm:Tm} {s:St}
theorem aN.amu (hB:B.s = ⟨[],[]⟩) (os:List Nat) (ix:List (List D)) (bQ:Tm) (wa:os.Nodup) (kn : ∀ o∈os,o<s.aq.length) (yM:CQ os s.ay.length s.aq os ix) (Va:EF os (List.range s.ay.length) tm bQ)
 (h:aN P B nt a Q bQ ⟨ix,s.ay⟩):aN P B nt a Q tm s:=
 aN.sel os ix bQ wa kn (by rw[hB];exact zaz _) (fun i h=>by rw[hB]at h;exact absurd h (za9 _)) (fun i o _ _=>by rw[hB];exact zaz _) yM.get.1 yM.get.2 Va h
end
section
variable (os ts:List Nat) (n m:Nat)
theorem ai0 (o off:Nat):D.dm os ts (.ptr o off)=match os[o]? with|some o'=> .ptr o' off|none=> .junk:=nd (by simp only[D.dm]<;>rfl)
theorem ai1 (z o g len:Nat):D.dm os ts (.dM z o g len)=match os[o]? with|some o'=> .dM z o' g len|none=> .junk:=nd (by simp only[D.dm]<;>rfl)
theorem ach (g:Tag) (z:Nat) (rows:List (List D)):D.dm os ts (.slice g z rows) = .slice (g.dm ts) z (D.px os ts rows):=nd (by simp only[D.dm])
theorem ai2 (l:List D):D.dm os ts (.agg l) = .agg (D.fu os ts l):=nd (by simp only[D.dm])
theorem ae8:D.dm os ts .junk = .junk:=nd (by simp only[D.dm])
theorem ai3 (k:IntKind) (x:Int):D.dm os ts (.int k x) = .int k x:=nd (by simp only[D.dm])
theorem ae9 (b:Bool):D.dm os ts (.bool b) = .bool b:=nd (by simp only[D.dm])
theorem ai4 (l:List UInt8):D.dm os ts (.str l) = .str l:=nd (by simp only[D.dm])
theorem afa:D.dm os ts .fv = .fv:=nd (by simp only[D.dm])
theorem afb (z:Nat):D.dm os ts (.ek z) = .ek z:=nd (by simp only[D.dm])
theorem aci:D.fu os ts [] = []:=nd (by simp only[D.fu])
theorem acj (d:D) (l:List D):D.fu os ts (d::l)=D.dm os ts d::D.fu os ts l:=nd (by simp only[D.fu])
theorem Yg:Tag.dm ts .shared = .shared:=nd rfl
theorem afc:Tag.dm ts .full = .full:=nd rfl
theorem ack (o off:Nat):D.ok n m (.ptr o off)=decide (o<n):=nd (by simp only[D.ok])
theorem acm (z o g len:Nat):D.ok n m (.dM z o g len)=decide (o<n):=nd (by simp only[D.ok])
theorem Vb (g:Tag) (z:Nat) (rows:List (List D)):D.ok n m (.slice g z rows)=(g.ok m && D.iW n m rows):=nd (by simp only[D.ok])
theorem acn (l:List D):D.ok n m (.agg l)=D.bM n m l:=nd (by simp only[D.ok])
theorem Yh:D.ok n m .junk=true:=nd (by simp only[D.ok])
theorem aco (k:IntKind) (x:Int):D.ok n m (.int k x)=true:=nd (by simp only[D.ok])
theorem Yi (b:Bool):D.ok n m (.bool b)=true:=nd (by simp only[D.ok])
theorem acp (l:List UInt8):D.ok n m (.str l)=true:=nd (by simp only[D.ok])
theorem Yj:D.ok n m .fv=true:=nd (by simp only[D.ok])
theorem Yk (z:Nat):D.ok n m (.ek z)=true:=nd (by simp only[D.ok])
theorem afd:D.bM n m [] = true:=nd (by simp only[D.bM])
theorem afe (d:D) (l:List D):D.bM n m (d::l)=(D.ok n m d && D.bM n m l):=nd (by simp only[D.bM])
theorem SC:Tag.ok m .shared=true:=nd rfl
theorem Yl:Tag.ok m .full=true:=nd rfl
theorem acq (os:List Nat) (m:Nat) (aq:List (List D)):CQ os m aq [] [] = True:=nd rfl
theorem acr (os:List Nat) (m:Nat) (aq:List (List D)) (o:Nat) (l:List Nat) (ds:List D) (r:List (List D)):CQ os m aq (o::l) (ds::r)=(aq[o]? = some (D.fu os (List.range m) ds)∧D.bM os.length m ds=true∧CQ os m aq l r):=nd rfl
theorem aff (tm:Tm):EF os ts tm [] = True:=nd rfl
theorem afg (tm:Tm) (k:Nat) (d:D) (r:Tm):EF os ts tm ((k,d)::r)=(tm.get k=d.dm os ts∧d.ok os.length ts.length=true∧EF os ts tm r):=nd rfl
theorem Mp (rows:List (List D)) (h:D.iW 0 0 rows=true):D.px os ts rows=rows:=kb os ts rows h
theorem Gy (row:List D) (h:D.bM 0 0 row=true):D.fu os ts row=row:=gf os ts row h
theorem SD (rows:List (List D)) (h:D.iW 0 0 rows=true):D.iW n m rows=true:=nR (zaz n) (zaz m) rows h
theorem K6 (row:List D) (h:D.bM 0 0 row=true):D.bM n m row=true:=jB (zaz n) (zaz m) row h
theorem Px (p:Pg):D.fu os ts (bS p)=bS p:=Gy _ _ _ (gR p)
theorem acs (p:Sm):D.fu os ts (aY p)=aY p:=Gy _ _ _ (qe p)
theorem Ym (l:List Pc):D.px os ts (l.map bN)=l.map bN:=Mp _ _ _ (xY l)
theorem Yn (l:List Sm):D.px os ts (l.map aY)=l.map aY:=Mp _ _ _ (q7 l)
theorem Vc (l:List aF):D.px os ts (l.map encStr)=l.map encStr:=Mp _ _ _ (dz l)
theorem acu (p:Pc):D.fu os ts (bN p)=bN p:=Gy _ _ _ (sw p)
theorem afh (p:Pc):D.bM n m (bN p)=true:=K6 _ _ _ (sw p)
theorem Vd (p:Pg):D.bM n m (bS p)=true:=K6 _ _ _ (gR p)
theorem afi (p:Sm):D.bM n m (aY p)=true:=K6 _ _ _ (qe p)
theorem acv (l:List Pc):D.iW n m (l.map bN)=true:=SD _ _ _ (xY l)
theorem acw (l:List Sm):D.iW n m (l.map aY)=true:=SD _ _ _ (q7 l)
theorem Yo (l:List aF):D.iW n m (l.map encStr)=true:=SD _ _ _ (dz l)
theorem SE : ∀ l:List Pc,D.bM 0 0 ((l.map bN).flatten)=true:=fun l=>by
 have h:=xY l
 rw[Gm,za0]at h
 rw[zI,za0]
 intro d hd
 obtain⟨r,hr,hd⟩:=zbE.1 hd
 have:=h r hr
 rw[zI,za0]at this
 exact this d hd
theorem Yp (l:List Pc):D.fu os ts ((l.map bN).flatten)=(l.map bN).flatten:=Gy _ _ _ (SE l)
theorem acx (l:List Pc):D.bM n m ((l.map bN).flatten)=true:=K6 _ _ _ (SE l)
theorem acy (l:List Pc):D.iz n m ((l.map bN).flatten)=(l.map bN).flatten:=jk _ _ _ (SE l)
end
attribute [go_sem] acu afh ai0 ai1 ach ai2 ae8 ai3 ae9 ai4 afa afb aci acj Yg afc ack acm Vb acn Yh aco Yi acp Yj Yk afd afe SC Yl acq acr aff afg Px acs Ym Yn Vc Vd afi acv acw Yo Yp acx acy
mutual
theorem Mq (o g:Nat) (rows:List (List D)) : ∀ d,D.ok 0 0 d=true→D.gF o g rows d=d
 | .junk,_=>by simp[D.gF]
 | .int k n,_=>by simp[D.gF]
 | .bool b,_=>by simp[D.gF]
 | .str l,_=>by simp[D.gF]
 | .fv,_=>by simp[D.gF]
 | .val v,_=>by simp[D.gF]
 | .ek z,_=>by simp[D.gF]
 | .fM T o,h=>by simp[D.ok]at h
 | .gU o,h=>by simp[D.ok]at h
 | .dM z o g len,h=>by simp[D.ok]at h
 | .fC o g off,h=>by simp[D.ok]at h
 | .ptr o f,h=>by simp[D.ok]at h
 | .il f cs,h=>by
  simp only[D.ok]at h
  simp only[D.gF,uw o g rows cs h]
 | .dO r f,h=>by
  simp only[D.ok]at h
  simp only[D.gF,uw o g rows r h]
 | .slice t z rs,h=>by
  simp only[D.ok,zar]at h
  simp only[D.gF,zO o g rows rs h.2]
 | .agg cs,h=>by
  simp only[D.ok]at h
  simp only[D.gF,uw o g rows cs h]
 | .tuple cs,h=>by
  simp only[D.ok]at h
  simp only[D.gF,uw o g rows cs h]
theorem uw (o g:Nat) (rows:List (List D)) : ∀ l,D.bM 0 0 l=true→D.kC o g rows l=l
 | [],_=>by simp[D.kC]
 |d::r,h=>by
  simp only[D.bM,zar]at h
  simp only[D.kC,Mq o g rows d h.1,uw o g rows r h.2]
theorem zO (o g:Nat) (rows:List (List D)) : ∀ l,D.iW 0 0 l=true→D.tj o g rows l=l
 | [],_=>by simp[D.tj]
 |d::r,h=>by
  simp only[D.iW,zar]at h
  simp only[D.tj,uw o g rows d h.1,zO o g rows r h.2]
end
section
variable (o g:Nat) (rows:List (List D)) (n m:Nat)
theorem ai5 (q off:Nat):D.gF o g rows (.ptr q off) = .ptr q off:=nd (by simp only[D.gF])
theorem afj (q h off:Nat):D.gF o g rows (.fC q h off) = .fC q h off:=nd (by simp only[D.gF])
theorem ai6 (z o' g' len:Nat):D.gF o g rows (.dM z o' g' len)=if o'=o∧g'=g∧len=rows.length then .slice .shared z rows else .dM z o' g' len:=nd (by simp only[D.gF])
theorem acz (t:Tag) (z:Nat) (rs:List (List D)):D.gF o g rows (.slice t z rs) = .slice t z (D.tj o g rows rs):=nd (by simp only[D.gF])
theorem ai7 (l:List D):D.gF o g rows (.agg l) = .agg (D.kC o g rows l):=nd (by simp only[D.gF])
theorem afk:D.gF o g rows .junk = .junk:=nd (by simp only[D.gF])
theorem ai8 (k:IntKind) (x:Int):D.gF o g rows (.int k x) = .int k x:=nd (by simp only[D.gF])
theorem afl (b:Bool):D.gF o g rows (.bool b) = .bool b:=nd (by simp only[D.gF])
theorem ai9 (l:List UInt8):D.gF o g rows (.str l) = .str l:=nd (by simp only[D.gF])
theorem acA:D.kC o g rows [] = []:=nd (by simp only[D.kC])
theorem acB (d:D) (l:List D):D.kC o g rows (d::l)=D.gF o g rows d::D.kC o g rows l:=nd (by simp only[D.kC])
theorem amv (p:Pg):D.kC o g rows (bS p)=bS p:=uw _ _ _ _ (gR p)
theorem aja (l:List Pc):D.tj o g rows (l.map bN)=l.map bN:=zO _ _ _ _ (xY l)
theorem ajb (l:List Sm):D.tj o g rows (l.map aY)=l.map aY:=zO _ _ _ _ (q7 l)
theorem afm (l:List aF):D.tj o g rows (l.map encStr)=l.map encStr:=zO _ _ _ _ (dz l)
theorem ajc (ds:List D):fzR o g rows n m ds=D.iz n m (D.kC o g rows ds):=nd rfl
theorem afn (tm:Tm):TmF o g rows m tm [] = True:=nd rfl
theorem afo (tm:Tm) (k:Nat) (d:D) (r:Tm):TmF o g rows m tm ((k,d)::r)=(Wk (((tm.get k).gF o g rows).fg o m) d∧TmF o g rows m tm r):=nd rfl
end
attribute [go_sem] ai5 afj ai6 acz ai7 afk ai8 afl ai9 acA acB amv aja ajb afm ajc afn afo
end Go.Abs
namespace Go.Abs
mutual
def Ex.size:Ex→Nat
 |⟨_,_,_,kids⟩=>1+Ex.bq kids
def Ex.bq:List Ex→Nat
 | []=>0
 |x::l=>1+x.size+Ex.bq l
end
mutual
def Ex.depth:Ex→Nat
 |⟨_,_,_,kids⟩=>Ex.lO kids+1
def Ex.lO:List Ex→Nat
 | []=>0
 |x::l=>max x.depth (Ex.lO l)
end
def afp (x:Ex):Option Int:=if x.size<4611686018427387904 then some (x.depth:Int)else none
theorem Ex.cq {x:Ex} : ∀ {l:List Ex},x∈l→x.size<Ex.bq l
 |y::l,h=>by
  simp only[Ex.bq]
  rcases zap.1 h with rfl|h
  ·omega
  ·have:=Ex.cq h;omega
theorem Ex.dI : ∀ (l:List Ex),l.length≤Ex.bq l
 | []=>zal _
 |x::l=>by simp only[Ex.bq,zat];have:=Ex.dI l;omega
def SF (t:rT):Int×Int:=
 if t.kind != 4 then(0,0)
 else if t.text == [124,124]then(17,1)
 else if t.text == [38,38]then(16,2)
 else if t.text == [61,61]then(14,3)
 else if t.text == [33,61]then(15,3)
 else if t.text == [60]then(10,4)
 else if t.text == [60,61]then(11,4)
 else if t.text == [62]then(12,4)
 else if t.text == [62,61]then(13,4)
 else if t.text == [43]then(8,5)
 else if t.text == [45]then(9,5)
 else if t.text == [42]then(5,6)
 else if t.text == [47]then(6,6)
 else if t.text == [37]then(7,6)
 else(0,0)
structure Rd where
 l:List rT
 i:Nat
 code:Int
 Mr:Int
 n:Nat
abbrev Rd.good (r:Rd):Bool:=r.code==0
def Rd.xb (r:Rd):Option rT:=(aeW r.l r.i).bind fun t=>if decide (0≤t.kind) && decide (t.kind≤4)then some t else none
def Rd.bad (c:Int) (r:Rd):Option Rd:=if r.good then r.xb.bind fun t=>some {r with code:=c,Mr:=t.pos}else some r
def Rd.is (text:aF) (r:Rd):Option Bool:=r.xb.bind fun t=>some ((t.kind==3 ||t.kind==4) && t.text==text)
def Rd.take (text:aF) (r:Rd):Option (Bool×Rd):=
 if !r.good then some (false,r)else(r.is text).bind fun b=>if !b then some (false,r)else some (true,{r with i:=r.i+1})
def Rd.want (text:aF) (r:Rd):Option Rd:=(r.take text).bind fun p=>if !p.1 then p.2.bad 3 else some p.2
def Rd.name (room:Bool) (r:Rd):Option (aF×Rd):=
 r.xb.bind fun t=>if !r.good ||t.kind != 1 then(r.bad 3).bind fun r=>some ([],r)else if !room then(r.bad 4).bind fun r=>some ([],r)else some (t.text,{r with i:=r.i+1})
def Rd.on (r:Rd):Rd:= {r with i:=r.i+1}
mutual
def Rd.one:Nat→Rd→Option (Ex×Rd)
 | 0,_=>none
 | n+1,r=>r.xb.bind fun t=>
  if !r.good then some (ti,r)
  else if t.kind==2 then some (⟨1,t.n,[],[]⟩,{r with i:=r.i+1})
  else if t.kind==1 then some (⟨2,0,t.text,[]⟩,{r with i:=r.i+1})
  else(r.take [40]).bind fun p=>
   if p.1 then(Rd.two n 1 p.2).bind fun x=>(x.2.want [41]).bind fun r=>some (x.1,r)
   else(p.2.take [45]).bind fun p=>
    if p.1 then(Rd.one n p.2).bind fun x=>some (⟨3,0,[],[x.1]⟩,x.2)
    else(p.2.take [33]).bind fun p=>
     if p.1 then(Rd.one n p.2).bind fun x=>some (⟨4,0,[],[x.1]⟩,x.2)
     else(p.2.bad 3).bind fun r=>some (ti,r)
def Rd.two:Nat→Int→Rd→Option (Ex×Rd)
 | 0,_,_=>none
 |n+1,least,r=>(Rd.one n r).bind fun x=>Rd.afq n least x.1 x.2
def Rd.afq:Nat→Int→Ex→Rd→Option (Ex×Rd)
 | 0,_,_,_=>none
 | n+1,least,x,r=>
  if r.good then r.xb.bind fun t=>
   if decide ((SF t).2<least) ||(SF t).1==0 then some (x,r)
   else(Rd.two n ((SF t).2+1) {r with i:=r.i+1}).bind fun y=>Rd.afq n least ⟨(SF t).1,0,[],[x,y.1]⟩ y.2
  else some (x,r)
end
def Rd.whole (n:Nat) (r:Rd):Option (Ex×Rd):=
 r.xb.bind fun t=>(Rd.two n 1 r).bind fun x=>
  if x.2.good then(afp x.1).bind fun d=>if decide (d > 20)then some (x.1,{x.2 with code:=4,Mr:=t.pos})else some (x.1,x.2)
  else some (x.1,x.2)
def Rd.names:Nat→List aF→Int→Rd→Option (List aF×Rd)
 | 0,_,_,_=>none
 | n+1,l,kD,r=>
  if r.good then(r.name (decide ((l.length:Int)<kD))).bind fun p=>(push 17 l p.1).bind fun l=>(p.2.take [44]).bind fun q=>
   if !q.1 then(q.2.want [59]).bind fun r=>some (l,r)else Rd.names n l kD q.2
  else some (l,r)
def Rd.ahead (sign:aF) (r:Rd):Option Bool:=
 if r.good then r.xb.bind fun t=>if t.kind==1 then(aeW r.l (r.i+1)).bind fun u=>some (u.kind==4 && u.text==sign)else some false
 else some false
def Rd.labels:Nat→List aF→Rd→Option (List aF×Rd)
 | 0,_,_=>none
 |n+1,l,r=>(r.ahead [58]).bind fun b=>if b then r.xb.bind fun t=>(push 17 l t.text).bind fun l=>Rd.labels n l {r with i:=r.i+2}else some (l,r)
def Rd.afr (r:Rd):Option Bool:=
 r.xb.bind fun t=>some (if t.kind==1 then true else if t.kind != 3 then false
  else t.text == [105,102] ||t.text == [119,104,105,108,101] ||t.text == [98,114,101,97,107] ||t.text == [99,111,110,116,105,110,117,101] ||t.text == [114,101,116,117,114,110] ||t.text == [103,111,116,111] ||t.text == [114,101,97,100] ||t.text == [112,114,105,110,116])
def Rd.SG (m:Nat):Nat→List Ar→Rd→Option (List Ar×Rd)
 | 0,_,_=>none
 | n+1,l,r=>
  if r.good then(r.take [114,101,102]).bind fun p=>
   if p.1 then(p.2.name true).bind fun x=>(push 81 l ⟨true,x.1,ti⟩).bind fun l=>(x.2.take [44]).bind fun c=>if !c.1 then some (l,c.2)else Rd.SG m n l c.2
   else(Rd.whole m p.2).bind fun x=>(push 81 l ⟨false,[],x.1⟩).bind fun l=>(x.2.take [44]).bind fun c=>if !c.1 then some (l,c.2)else Rd.SG m n l c.2
  else some (l,r)
def Rd.other (sign:aF) (r:Rd):Option Bool:=if r.good then(r.is sign).bind fun b=>some !b else some false
def Rd.call (m:Nat) (name proc:aF) (r:Rd):Option (Sm×Rd):=
 (r.want [40]).bind fun r=>(r.other [41]).bind fun b=>
  if b then(Rd.SG m m [] r).bind fun q=>(q.2.want [41]).bind fun r=>(r.want [59]).bind fun r=>some (⟨0,4,[],name,proc,ti,false,q.1,[],[]⟩,r)
  else(r.want [41]).bind fun r=>(r.want [59]).bind fun r=>some (⟨0,4,[],name,proc,ti,false,[],[],[]⟩,r)
def Rd.named (m:Nat) (r:Rd):Option (Sm×Rd):=
 (r.name true).bind fun x=>(x.2.is [40]).bind fun b=>
  if b then Rd.call m [] x.1 x.2
  else(x.2.want [61]).bind fun r=>(r.ahead [40]).bind fun b=>
   if b then(r.name true).bind fun y=>Rd.call m x.1 y.1 y.2
   else(Rd.whole m r).bind fun y=>(y.2.want [59]).bind fun r=>some (⟨0,1,[],x.1,[],y.1,false,[],[],[]⟩,r)
def Rd.plain (m:Nat) (word:aF) (r:Rd):Option (Sm×Rd):=
 if word == [98,114,101,97,107]then some (⟨0,7,[],[],[],ti,false,[],[],[]⟩,r)
 else if word == [99,111,110,116,105,110,117,101]then some (⟨0,8,[],[],[],ti,false,[],[],[]⟩,r)
 else if word == [114,101,116,117,114,110]then(r.is [59]).bind fun b=>
  if !b then(Rd.whole m r).bind fun x=>some (⟨0,9,[],[],[],x.1,true,[],[],[]⟩,x.2)else some (⟨0,9,[],[],[],ti,false,[],[],[]⟩,r)
 else if word == [103,111,116,111]then(r.name true).bind fun x=>some (⟨0,10,[],x.1,[],ti,false,[],[],[]⟩,x.2)
 else if word == [114,101,97,100]then(r.name true).bind fun x=>some (⟨0,2,[],x.1,[],ti,false,[],[],[]⟩,x.2)
 else if word == [112,114,105,110,116]then(Rd.whole m r).bind fun x=>some (⟨0,3,[],[],[],x.1,false,[],[],[]⟩,x.2)
 else some (Mk,r)
def Rd.head (m:Nat) (r:Rd):Option (Ex×Rd):=(r.want [40]).bind fun r=>(Rd.whole m r).bind fun x=>(x.2.want [41]).bind fun r=>some (x.1,r)
mutual
def Rd.rows (m:Nat):Nat→Int→Bool→Rd→Option ((List Sm×List aF)×Rd)
 | 0,_,_,_=>none
 |n+1,nest,body,r=>Rd.aaJ m n nest body [] r
def Rd.aaJ (m:Nat):Nat→Int→Bool→List Sm→Rd→Option ((List Sm×List aF)×Rd)
 | 0,_,_,_,_=>none
 | n+1,nest,body,out,r=>
  if r.good then(Rd.labels m [] r).bind fun l=>(l.2.is [125]).bind fun b=>
   if b && (body ||(l.1.length:Int)==0)then some ((out,l.1),{l.2 with i:=l.2.i+1})
   else(Rd.stmt m n nest l.2).bind fun s=>(push 209 out {s.1 with labels:=l.1}).bind fun out=>Rd.aaJ m n nest body out s.2
  else some (([],[]),r)
def Rd.stmt (m:Nat):Nat→Int→Rd→Option (Sm×Rd)
 | 0,_,_=>none
 | n+1,nest,r=>r.afr.bind fun b=>
  if !b then(r.bad 3).bind fun r=>some (Mk,r)
  else(inc r.n).bind fun k=>
   if decide ((k:Int) > 200) ||decide (nest > 12)then(({r with n:=k} : Rd).bad 4).bind fun r=>some (Mk,r)
   else({r with n:=k} : Rd).xb.bind fun t=>
    if t.kind==1 then Rd.named m {r with n:=k}
    else if t.text == [105,102]then Rd.choice m n nest {r with n:=k,i:=r.i+1}
    else if t.text == [119,104,105,108,101]then(Rd.head m {r with n:=k,i:=r.i+1}).bind fun x=>(Rd.block m n nest x.2).bind fun b=>some (⟨0,6,[],[],[],x.1,false,[],b.1,[]⟩,b.2)
    else(Rd.plain m t.text {r with n:=k,i:=r.i+1}).bind fun s=>(s.2.want [59]).bind fun r=>some (s.1,r)
def Rd.block (m:Nat):Nat→Int→Rd→Option (List Sm×Rd)
 | 0,_,_=>none
 |n+1,nest,r=>(r.want [123]).bind fun r=>(amr nest).bind fun k=>(Rd.rows m n k false r).bind fun p=>some (p.1.1,p.2)
def Rd.choice (m:Nat):Nat→Int→Rd→Option (Sm×Rd)
 | 0,_,_=>none
 |n+1,nest,r=>(Rd.head m r).bind fun x=>(Rd.block m n nest x.2).bind fun t=>(t.2.take [101,108,115,101]).bind fun q=>
  if q.1 then(Rd.block m n nest q.2).bind fun e=>some (⟨0,5,[],[],[],x.1,false,[],t.1,e.1⟩,e.2)
  else some (⟨0,5,[],[],[],x.1,false,[],t.1,[]⟩,q.2)
end
def Rd.params:Nat→List Pm→Rd→Option (List Pm×Rd)
 | 0,_,_=>none
 | n+1,l,r=>
  if r.good then(r.take [114,101,102]).bind fun q=>(q.2.name (decide ((l.length:Int)<8))).bind fun x=>(push 25 l ⟨x.1,q.1⟩).bind fun l=>(x.2.take [44]).bind fun c=>
   if !c.1 then some (l,c.2)else Rd.params n l c.2
  else some (l,r)
def Rd.vars (m:Nat):Nat→List aF→Rd→Option (List aF×Rd)
 | 0,_,_=>none
 |n+1,l,r=>(r.take [118,97,114]).bind fun q=>if q.1 then(Rd.names m l 16 q.2).bind fun x=>Rd.vars m n x.1 x.2 else some (l,q.2)
def Rd.aaK (m:Nat) (name:aF) (ps:List Pm) (r:Rd):Option (Pc×Rd):=
 (Rd.vars m m [] r).bind fun v=>(Rd.rows m m 1 true v.2).bind fun b=>some (⟨name,ps,v.1,b.1.1,b.1.2⟩,b.2)
def Rd.proc (m:Nat) (r:Rd):Option (Pc×Rd):=
 (r.name true).bind fun x=>(x.2.want [40]).bind fun r=>(r.other [41]).bind fun b=>
  if b then(Rd.params m [] r).bind fun q=>(q.2.want [41]).bind fun r=>(r.want [123]).bind fun r=>Rd.aaK m x.1 q.1 r
  else(r.want [41]).bind fun r=>(r.want [123]).bind fun r=>Rd.aaK m x.1 [] r
def Rd.globals (m:Nat):Nat→List aF→Rd→Option (List aF×Rd)
 | 0,_,_=>none
 |n+1,l,r=>(r.take [103,108,111,98,97,108]).bind fun q=>if q.1 then(Rd.names m l 16 q.2).bind fun x=>Rd.globals m n x.1 x.2 else some (l,q.2)
def Rd.afs (r:Rd):Option Bool:=if r.good then r.is [112,114,111,99]else some false
def Rd.Ve (r:Rd):Option Bool:=if r.good then r.xb.bind fun t=>some (t.kind != 0)else some false
def Rd.procs (m:Nat):Nat→List Pc→Rd→Option (List Pc×Rd)
 | 0,_,_=>none
 | n+1,l,r=>r.afs.bind fun b=>
  if b then
   if(l.length:Int)==16 then(r.bad 4).bind fun r=>some (l,r)
   else(Rd.proc m {r with i:=r.i+1}).bind fun x=>(push 113 l x.1).bind fun l=>Rd.procs m n l x.2
  else r.Ve.bind fun b=>if b then(r.bad 3).bind fun r=>some (l,r)else some (l,r)
def Rd.program (m:Nat) (r:Rd):Option (Pg×Rd):=(Rd.globals m m [] r).bind fun g=>(Rd.procs m m [] g.2).bind fun q=>some (⟨g.1,q.1⟩,q.2)
mutual
def Ex.beq:Ex→Ex→Bool
 |⟨op,n,name,kids⟩,⟨op',n',SH,aaL⟩=>if op != op' ||n != n' || !(name==SH) ||(kids.length:Int) != (aaL.length:Int)then false else Ex.rH kids aaL
def Ex.rH:List Ex→List Ex→Bool
 | [],_=>true
 |_::_,[]=>true
 |x::l,y::l'=>if !Ex.beq x y then false else Ex.rH l l'
end
def Ar.bq:List Ar→Nat
 | []=>0
 |a::l=>1+a.x.size+Ar.bq l
mutual
def Sm.size:Sm→Nat
 |⟨_,_,labels,_,_,x,_,args,a8,aK⟩=>1+labels.length+x.size+Ar.bq args+Sm.bq a8+Sm.bq aK
def Sm.bq:List Sm→Nat
 | []=>0
 |s::l=>1+s.size+Sm.bq l
end
def Pc.size (f:Pc):Nat:=1+f.params.length+f.vars.length+f.fin.length+Sm.bq f.body
def Pc.bq:List Pc→Nat
 | []=>0
 |f::l=>1+f.size+Pc.bq l
def Pg.size (p:Pg):Nat:=1+p.globals.length+Pc.bq p.procs
mutual
def Sm.num (b:Bool) (n:Nat):Sm→Sm×Nat
 |⟨id,kind,labels,name,proc,x,has,args,a8,aK⟩=>
  (⟨if b then((n+1:Nat):Int)else id,kind,labels,name,proc,x,has,args,(Sm.vN b (n+1) a8).1,(Sm.vN b (Sm.vN b (n+1) a8).2 aK).1⟩,(Sm.vN b (Sm.vN b (n+1) a8).2 aK).2)
def Sm.vN (b:Bool) (n:Nat):List Sm→List Sm×Nat
 | []=>([],n)
 |s::l=>((Sm.num b n s).1::(Sm.vN b (Sm.num b n s).2 l).1,(Sm.vN b (Sm.num b n s).2 l).2)
end
def Pc.vN (n:Nat):List Pc→List Pc
 | []=> []
 |f::l=> {f with body:=(Sm.vN true n f.body).1}::Pc.vN (Sm.vN true n f.body).2 l
def Pg.number (p:Pg):Pg:= {p with procs:=Pc.vN 0 p.procs}
def Pg.acC (p:Pg):Option Pg:=if p.size<1073741824 then some p.number else none
theorem Sm.dI : ∀ (l:List Sm),l.length≤Sm.bq l
 | []=>zal _
 |x::l=>by simp only[Sm.bq,zat];have:=Sm.dI l;omega
theorem Ar.dI : ∀ (l:List Ar),l.length≤Ar.bq l
 | []=>zal _
 |x::l=>by simp only[Ar.bq,zat];have:=Ar.dI l;omega
theorem Pc.dI : ∀ (l:List Pc),l.length≤Pc.bq l
 | []=>zal _
 |x::l=>by simp only[Pc.bq,zat];have:=Pc.dI l;omega
theorem Ar.cq {x:Ar} : ∀ {l:List Ar},x∈l→x.x.size<Ar.bq l
 |y::l,h=>by
  simp only[Ar.bq]
  rcases zap.1 h with rfl|h
  ·omega
  ·have:=Ar.cq h;omega
theorem Sm.cq {x:Sm} : ∀ {l:List Sm},x∈l→x.size<Sm.bq l
 |y::l,h=>by
  simp only[Sm.bq]
  rcases zap.1 h with rfl|h
  ·omega
  ·have:=Sm.cq h;omega
theorem Pc.cq {x:Pc} : ∀ {l:List Pc},x∈l→x.size<Pc.bq l
 |y::l,h=>by
  simp only[Pc.bq]
  rcases zap.1 h with rfl|h
  ·omega
  ·have:=Pc.cq h;omega
mutual
def Sm.kE:Sm→Nat
 |⟨_,_,_,_,_,_,_,_,a8,aK⟩=>1+Sm.jV a8+Sm.jV aK
def Sm.jV:List Sm→Nat
 | []=>0
 |s::l=>s.kE+Sm.jV l
end
structure Im where
 s:Sm
 proc:Int
 up:Int
 next:Int
 loop:Int
mutual
def Im.one (proc up next loop:Int) (out:List Im):Sm→List Im
 | ⟨id,kind,labels,name,pc,x,has,args,a8,aK⟩=>
  Im.rows proc ((out.length:Int)+1) (if kind==6 then(out.length:Int)+1 else next) (if kind==6 then(out.length:Int)+1 else loop)
   (Im.rows proc ((out.length:Int)+1) (if kind==6 then(out.length:Int)+1 else next) (if kind==6 then(out.length:Int)+1 else loop) (out++ [⟨⟨id,kind,labels,name,pc,x,has,args,a8,aK⟩,proc,up,next,loop⟩]) a8) aK
def Im.rows (proc up next loop:Int) (out:List Im):List Sm→List Im
 | []=>out
 |s::l=>Im.rows proc up next loop (Im.one proc up (if l.length=0 then next else(out.length:Int)+1+(s.kE:Int)) loop out s) l
end
theorem Im.aft (proc up next loop:Int) (out:List Im) (s:Sm):Im.one proc up next loop out s =
 Im.rows proc ((out.length:Int)+1) (if s.kind==6 then(out.length:Int)+1 else next) (if s.kind==6 then(out.length:Int)+1 else loop)
  (Im.rows proc ((out.length:Int)+1) (if s.kind==6 then(out.length:Int)+1 else next) (if s.kind==6 then(out.length:Int)+1 else loop) (out++ [⟨s,proc,up,next,loop⟩]) s.a8) s.aK:=by
 cases s;simp only[Im.one]
mutual
theorem acD (proc up next loop:Int) (out:List Im) : ∀ s:Sm,(Im.one proc up next loop out s).length=out.length+s.kE
 |⟨id,kind,labels,name,pc,x,has,args,a8,aK⟩=>by
  simp only[Im.one,Sm.kE]
  rw[iK,iK]
  simp only[zaj,zat,zaD];omega
theorem iK (proc up next loop:Int) (out:List Im) : ∀ l:List Sm,(Im.rows proc up next loop out l).length=out.length+Sm.jV l
 | []=>rfl
 |s::l=>by
  simp only[Im.rows,Sm.jV]
  rw[iK,acD];omega
end
mutual
theorem Fi : ∀ s:Sm,s.kE≤s.size
 |⟨_,_,labels,_,_,x,_,args,a8,aK⟩=>by
  have:=pb a8;have:=pb aK
  simp only[Sm.kE,Sm.size];omega
theorem pb : ∀ l:List Sm,Sm.jV l≤Sm.bq l
 | []=>zal _
 |s::l=>by
  have:=Fi s;have:=pb l
  simp only[Sm.jV,Sm.bq];omega
end
structure Sh where
 L:List Im
 lo:List Int
 hi:List Int
def Sh.go (i:Nat) (h:Sh):List Pc→Sh
 | []=>h
 |f::l=>Sh.go (i+1) ⟨Im.rows i 0 (-1) 0 h.L f.body,h.lo++ [(h.L.length:Int)+1],h.hi++ [((Im.rows i 0 (-1) 0 h.L f.body).length:Int)+1]⟩ l
def Pg.aR (p:Pg):Sh:=Sh.go 0 ⟨[],[],[]⟩ p.procs
end Go.Abs
