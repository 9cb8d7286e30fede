/-
  What is proved here: part 1 of the road to the claim (Frame, Frame2, Walk, Par, Par1, Par2, Par3, Step, SemAny, Wp, WpW, Types, SelA, Frz, WpA, Thaw, Lend, Sym, Mir, MirTree, Cnt, MirFlat).
  No conditions.
-/
import Derived.Test.YtpcnegjdjghfcaaGreatRoA0
import Derived.Attr
import Derived.KernelRfl

set_option linter.unusedSimpArgs false
set_option linter.unusedVariables false
namespace Go.Abs
def Tag.ok (m:Nat):Tag→Bool
 | .tok t _=>decide (t<m)
 |_=>true
def Tag.di (ts:List Nat):Tag→Tag
 | .tok t y=>match ts[t]? with|some t'=> .tok t' y|none=> .shared
 |g=>g
mutual
def D.ok (n m:Nat):D→Bool
 | .ptr o _=>decide (o<n)
 | .dW row _=>D.bJ n m row
 | .slice g _ rows=>g.ok m && D.jB n m rows
 | .agg cs=>D.bJ n m cs
 | .tuple ds=>D.bJ n m ds
 | .gd _ o=>decide (o<n)
 | .iL _ cs=>D.bJ n m cs
 | .iC o=>decide (o<n)
 | .dr _ o _ _=>decide (o<n)
 | .fK o _ _=>decide (o<n)
 |_=>true
def D.bJ (n m:Nat):List D→Bool
 | []=>true
 |d::r=>D.ok n m d && D.bJ n m r
def D.jB (n m:Nat):List (List D)→Bool
 | []=>true
 |d::r=>D.bJ n m d && D.jB n m r
end
mutual
def D.di (os ts:List Nat):D→D
 | .ptr o off=>match os[o]? with|some o'=> .ptr o' off|none=> .junk
 | .dW row off=> .dW (D.eJ os ts row) off
 | .slice g z rows=> .slice (g.di ts) z (D.n8 os ts rows)
 | .agg cs=> .agg (D.eJ os ts cs)
 | .tuple ds=> .tuple (D.eJ os ts ds)
 | .junk=> .junk
 | .int k x=> .int k x
 | .bool b=> .bool b
 | .str l=> .str l
 | .fJ=> .fJ
 | .val v=> .val v
 | .gd T o=>match os[o]? with|some o'=> .gd T o'|none=> .junk
 | .iL f cs=> .iL f (D.eJ os ts cs)
 | .iC o=>match os[o]? with|some o'=> .iC o'|none=> .junk
 | .dr z o g len=>match os[o]? with|some o'=> .dr z o' g len|none=> .junk
 | .fK o g off=>match os[o]? with|some o'=> .fK o' g off|none=> .junk
 | .ew z=> .ew z
def D.eJ (os ts:List Nat):List D→List D
 | []=> []
 |d::r=>D.di os ts d::D.eJ os ts r
def D.n8 (os ts:List Nat):List (List D)→List (List D)
 | []=> []
 |d::r=>D.eJ os ts d::D.n8 os ts r
end
theorem iw (os ts:List Nat) : ∀ l,D.eJ os ts l=l.map (D.di os ts)
 | []=>by simp[D.eJ]
 |d::r=>by simp[D.eJ,iw os ts r]
theorem Fz (os ts:List Nat) : ∀ l,D.n8 os ts l=l.map (D.eJ os ts)
 | []=>by simp[D.n8]
 |d::r=>by simp[D.n8,Fz os ts r]
theorem By (n m:Nat) : ∀ l,D.bJ n m l=l.all (D.ok n m)
 | []=>by simp[D.bJ]
 |d::r=>by simp[D.bJ,By n m r]
theorem IB (n m:Nat) : ∀ l,D.jB n m l=l.all (D.bJ n m)
 | []=>by simp[D.jB]
 |d::r=>by simp[D.jB,IB n m r]
theorem yA {n m:Nat} {l:List D} (h:D.bJ n m l=true) {i:Nat} {d:D} (e:l[i]? = some d):D.ok n m d=true:=by
 rw[By]at h;exact za3.1 h d (zad e)
theorem aeZ {n m:Nat} {l:List (List D)} (h:D.jB n m l=true) {i:Nat} {d:List D} (e:l[i]? = some d):D.bJ n m d=true:=by
 rw[IB]at h;exact za3.1 h d (zad e)
section
variable {M M0:Map} {s s0:St} {os ts:List Nat}
theorem ko.FA (jK : ∀ (i:Nat) t,ts[i]? = some t→M0.be i=M.be t) (ht : ∀ (i t:Nat),ts[i]? = some t→s0.au[i]? = s.au[t]?) (hlen:s0.au.length=ts.length) {g:Tag} {z len cap:Nat} {base:Option (Nat×Nat)} (qj:g.ok ts.length=true) (h:ko M s (g.di ts) z len base cap):ko M0 s0 g z len base cap:=by
 cases g with
 |full=>exact h
 |shared=>exact h
 |tok t y=>
  have hD:t<ts.length:=by simpa[Tag.ok]using qj
  have e:ts[t]? = some ts[t]:=zah hD
  simp only[Tag.di,e]at h
  obtain⟨h1,h2⟩:=h
  refine⟨by omega,fun n hn=>?_⟩
  rw[ht t _ e]at hn
  rw[jK t _ e]
  exact h2 n hn
theorem RD.FA (hG:M0.G=M.G) (kW : ∀ (i:Nat) o,os[i]? = some o→M0.loc i=M.loc o) (kg:s0.ag.length=os.length)
 (jK : ∀ (i:Nat) t,ts[i]? = some t→M0.be i=M.be t) (ht : ∀ (i t:Nat),ts[i]? = some t→s0.au[i]? = s.au[t]?) (hlen:s0.au.length=ts.length) {d:D} {v:Value} (h:RD M s d v) :
 ∀ d0:D,d0.di os ts=d→d0.ok os.length ts.length=true→RD M0 s0 d0 v:=by
 have pL : ∀ (i:Nat) o,os[i]? = some o→M0.mu i=M.mu o:=fun i o h=>congrArg Prod.fst (kW i o h)
 have tag:=fun {g z len cap base}=>@ko.FA M M0 s s0 ts jK ht hlen g z len cap base
 induction h with
 | junk v=>
  intro d0 e ok
  cases d0<;>simp only[D.di]at e<;>try (cases e;done)
  ·exact .junk v
  ·rename_i o off
   have hD:o<os.length:=by simpa[D.ok]using ok
   rw[zah hD]at e;cases e
  ·rename_i T o
   have hD:o<os.length:=by simpa[D.ok]using ok
   rw[zah hD]at e;cases e
  ·rename_i o
   have hD:o<os.length:=by simpa[D.ok]using ok
   rw[zah hD]at e;cases e
  ·rename_i z o g len
   have hD:o<os.length:=by simpa[D.ok]using ok
   rw[zah hD]at e;cases e
  ·rename_i o g off
   have hD:o<os.length:=by simpa[D.ok]using ok
   rw[zah hD]at e;cases e
 |ew z a=>intro d0 e ok;cases d0<;>simp only[D.di]at e<;>first|(cases e;exact .ew _ _)|(split at e<;>cases e)|cases e
 |dr z o g len b cap A ho hm ha hl=>
  intro d0 e ok
  cases d0<;>simp only[D.di]at e<;>first|(cases e;done)|skip
  all_goals try (split at e<;>cases e;done)
  rename_i z0 o0 g0 T4
  have hD:o0<os.length:=by simpa[D.ok]using ok
  rw[zah hD]at e
  cases e
  exact RD.dr (s:=s0) z o0 g len b cap A (by omega) ((congrArg Prod.snd (kW o0 _ (zah hD))).trans hm) ha hl
 |fK z o g off b cap A ho hm ha=>
  intro d0 e ok
  cases d0<;>simp only[D.di]at e<;>first|(cases e;done)|skip
  all_goals try (split at e<;>cases e;done)
  rename_i o0 g0 aag
  have hD:o0<os.length:=by simpa[D.ok]using ok
  rw[zah hD]at e
  cases e
  exact RD.fK (s:=s0) z o0 g off b cap A (by omega) ((congrArg Prod.snd (kW o0 _ (zah hD))).trans hm) ha
 |val v hv=>intro d0 e ok;cases d0<;>simp only[D.di]at e<;>first|(cases e;exact .val _ hv)|(split at e<;>cases e)|cases e
 |gd T o v ho ht hv=>
  intro d0 e ok
  cases d0<;>simp only[D.di]at e<;>first|(split at e<;>cases e;done)|skip
  all_goals try (cases e;done)
  rename_i T0 o0
  have hD:o0<os.length:=by simpa[D.ok]using ok
  rw[zah hD]at e
  cases e
  have hl:=kW o0 _ (zah hD)
  exact .gd _ o0 v (by omega) ((congrArg (fun x=>x.2.ty?) hl).trans ht) (by rw[pL o0 _ (zah hD)];exact hv)
 |int k x=>intro d0 e ok;cases d0<;>simp only[D.di]at e<;>first|(cases e;exact .int _ _)|(split at e<;>cases e)|cases e
 |bool b=>intro d0 e ok;cases d0<;>simp only[D.di]at e<;>first|(cases e;exact .bool _)|(split at e<;>cases e)|cases e
 |str l=>intro d0 e ok;cases d0<;>simp only[D.di]at e<;>first|(cases e;exact .str _)|(split at e<;>cases e)|cases e
 |fJ=>intro d0 e ok;cases d0<;>simp only[D.di]at e<;>first|(cases e;exact .fJ)|(split at e<;>cases e)|cases e
 |iC o ho hm=>
  intro d0 e ok
  cases d0<;>simp only[D.di]at e<;>first|(cases e;done)|skip
  all_goals try (split at e<;>cases e;done)
  rename_i o0
  have hD:o0<os.length:=by simpa[D.ok]using ok
  rw[zah hD]at e
  cases e
  rw[← pL o0 _ (zah hD)]
  exact RD.iC (s:=s0) o0 (by omega) ((congrArg Prod.snd (kW o0 _ (zah hD))).trans hm)
 |iL f ds vs hl _ ih=>
  intro d0 e ok
  cases d0<;>simp only[D.di]at e<;>first|(split at e<;>cases e;done)|skip
  all_goals try (cases e;done)
  rename_i f0 W8
  simp only[D.iL.injEq]at e
  obtain⟨rfl,rfl⟩:=e
  simp only[D.ok]at ok
  rw[iw]at hl ih
  refine .iL _ W8 vs (by simpa using hl) (fun i d v e1 e2=>ih i _ v (by rw[zap,e1];rfl) e2 d rfl (yA ok e1))
 |ptr o off ho hm=>
  intro d0 e ok
  cases d0<;>simp only[D.di]at e<;>first|(cases e;done)|skip
  all_goals try (split at e<;>cases e;done)
  rename_i o0 aag
  have hD:o0<os.length:=by simpa[D.ok]using ok
  rw[zah hD]at e
  cases e
  rw[← pL o0 _ (zah hD)]
  exact RD.ptr (s:=s0) o0 _ (by omega) (by rw[show M0.ob o0=_ from congrArg Prod.snd (kW o0 _ (zah hD))];exact hm)
 |dW row off b k h1 h2 ih=>
  intro d0 e ok
  cases d0<;>simp only[D.di]at e<;>first|(split at e<;>cases e;done)|skip
  all_goals try (cases e;done)
  rename_i apW aag
  simp only[D.dW.injEq]at e
  obtain⟨rfl,rfl⟩:=e
  simp only[D.ok]at ok
  rw[iw]at h1 ih
  refine .dW apW aag b k (fun i d e=>?_) (fun i d u e eu=>?_)
  ·rw[hG];exact h1 i _ (by rw[zap,e];rfl)
  ·rw[hG]at eu;exact ih i _ u (by rw[zap,e];rfl) eu d rfl (yA ok e)
 |jw g z cap hc pf=>
  intro d0 e ok
  cases d0<;>simp only[D.di]at e<;>first|(split at e<;>cases e;done)|skip
  all_goals try (cases e;done)
  rename_i g0 z0 lW
  simp only[D.slice.injEq]at e
  obtain⟨rfl,rfl,e⟩:=e
  have:lW = []:=by cases lW<;>simp[D.n8]at e;rfl
  subst this
  simp only[D.ok,zat]at ok
  exact .jw g0 z0 cap hc (tag ok.1 pf)
 | lY z a cap=>
  intro d0 e ok
  cases d0<;>simp only[D.di]at e<;>first|(split at e<;>cases e;done)|skip
  all_goals try (cases e;done)
  rename_i g0 z0 lW
  simp only[D.slice.injEq]at e
  obtain⟨hg,rfl,e⟩:=e
  have:lW = []:=by cases lW<;>simp[D.n8]at e;rfl
  subst this
  simp only[D.ok,zat]at ok
  have:g0 = .shared:=by
   cases g0 with
   |tok t y=>
    have ht:t<ts.length:=by simpa[Tag.ok]using ok.1
    simp[Tag.di,ht]at hg
   |shared=>rfl
   |_=>simp[Tag.di]at hg
  subst this
  exact .lY _ a cap
 | slice g z rows b k cap hl hs h1 h2 pf ih=>
  intro d0 e ok
  cases d0<;>simp only[D.di]at e<;>first|(split at e<;>cases e;done)|skip
  all_goals try (cases e;done)
  rename_i g0 z0 lW
  simp only[D.slice.injEq]at e
  obtain⟨rfl,rfl,rfl⟩:=e
  simp only[D.ok,zat]at ok
  rw[Fz]at hl hs h1 ih pf
  simp only[Fz,zau]at hl pf ⊢
  have dL : ∀ (i:Nat) (row:List D),lW[i]? = some row→(lW.map (D.eJ os ts))[i]? = some (D.eJ os ts row):=fun i row e=>by rw[zap,e];rfl
  have jS : ∀ (row:List D) (j:Nat) (d:D),row[j]? = some d→(D.eJ os ts row)[j]? = some (D.di os ts d):=fun row j d e=>by rw[iw,zap,e];rfl
  refine .slice g0 z0 lW b k cap hl (fun row hr=>?_) (fun i row j d e1 e2=>?_) (fun i row j d u e1 e2 eu=>?_) (tag ok.1 pf)
  ·have:=hs (D.eJ os ts row) (zaG.2 ⟨row,hr,rfl⟩)
   rwa [iw,zau]at this
  ·rw[hG];exact h1 i _ j _ (dL i row e1) (jS row j d e2)
  ·rw[hG]at eu;exact ih i _ j _ u (dL i row e1) (jS row j d e2) eu d rfl (yA (aeZ ok.2 e1) e2)
 |agg cells vs hl h1 _ ih=>
  intro d0 e ok
  cases d0<;>simp only[D.di]at e<;>first|(split at e<;>cases e;done)|skip
  all_goals try (cases e;done)
  rename_i W8
  simp only[D.agg.injEq]at e
  subst e
  simp only[D.ok]at ok
  rw[iw]at hl ih
  refine .agg W8 vs (by simpa using hl) h1 (fun i d v e1 e2=>ih i _ v (by rw[zap,e1];rfl) e2 d rfl (yA ok e1))
 |tuple ds vs hl _ ih=>
  intro d0 e ok
  cases d0<;>simp only[D.di]at e<;>first|(split at e<;>cases e;done)|skip
  all_goals try (cases e;done)
  rename_i W8
  simp only[D.tuple.injEq]at e
  subst e
  simp only[D.ok]at ok
  rw[iw]at hl ih
  refine .tuple W8 vs (by simpa using hl) (fun i d v e1 e2=>ih i _ v (by rw[zap,e1];rfl) e2 d rfl (yA ok e1))
theorem RD.di (hG:M0.G=M.G) (kW : ∀ i,i<s0.ag.length→∃ o,os[i]? = some o∧o<s.ag.length∧M.loc o=M0.loc i)
 (jK : ∀ i,i<s0.au.length→∃ t,ts[i]? = some t∧t<s.au.length∧s.au[t]? = s0.au[i]? ∧M.be t=M0.be i) {d:D} {v:Value} (h:RD M0 s0 d v):RD M s (d.di os ts) v:=by
 have tag : ∀ {g:Tag} {z len cap:Nat} {base:Option (Nat×Nat)},ko M0 s0 g z len base cap→ko M s (g.di ts) z len base cap:=by
  intro g z len cap base h
  cases g with
  |full=>exact h
  |shared=>exact h
  |tok t y=>
   obtain⟨h1,h2⟩:=h
   obtain⟨t',e,hD,qL,hb⟩:=jK t h1
   simp only[Tag.di,e]
   refine⟨hD,fun n hn=>?_⟩
   rw[hb]
   exact h2 n (qL ▸ hn)
 induction h with
 |junk v=>simp only[D.di];exact .junk v
 |int k x=>simp only[D.di];exact .int k x
 |bool b=>simp only[D.di];exact .bool b
 |str l=>simp only[D.di];exact .str l
 |fJ=>simp only[D.di];exact .fJ
 |ptr o off ho hk=>
  obtain⟨o',e,hD,hm⟩:=kW o ho
  simp only[D.di,e]
  have hb:M.ob o'=M0.ob o:=congrArg Prod.snd hm
  have hm:M.mu o'=M0.mu o:=congrArg Prod.fst hm
  rw[← hm]
  exact .ptr o' off hD (by rw[hb];exact hk)
 |iC o ho hk=>
  obtain⟨o',e,hD,hm⟩:=kW o ho
  simp only[D.di,e]
  have hb:M.ob o'=M0.ob o:=congrArg Prod.snd hm
  have hm:M.mu o'=M0.mu o:=congrArg Prod.fst hm
  rw[← hm]
  exact .iC o' hD (by rw[hb];exact hk)
 |ew z a=>simp only[D.di];exact .ew z a
 |dr z o g len b cap A ho hk ha hl=>
  obtain⟨o',e,hD,hm⟩:=kW o ho
  simp only[D.di,e]
  exact .dr z o' g len b cap A hD ((congrArg Prod.snd hm).trans hk) ha hl
 |fK z o g off b cap A ho hk ha=>
  obtain⟨o',e,hD,hm⟩:=kW o ho
  simp only[D.di,e]
  exact .fK z o' g off b cap A hD ((congrArg Prod.snd hm).trans hk) ha
 |iL f ds vs hl _ ih=>
  simp only[D.di,iw]
  refine .iL f _ vs (by simpa using hl) (fun i d v e1 e2=>?_)
  simp only[zap,zaw]at e1
  obtain⟨d',e1,rfl⟩:=e1
  exact ih i d' v e1 e2
 |val v hv=>simp only[D.di];exact .val v hv
 |gd T o v ho ht hv=>
  obtain⟨o',e,hD,hm⟩:=kW o ho
  simp only[D.di,e]
  have h1:M.mu o'=M0.mu o:=congrArg Prod.fst hm
  have h2:M.ty o'=M0.ty o:=congrArg (fun x=>x.2.ty?) hm
  exact .gd T o' v hD (by rw[h2];exact ht) (by rw[h1];exact hv)
 | dW row off b k h1 h2 ih=>
  simp only[D.di,iw]
  refine .dW _ off b k (fun i d e=>?_) (fun i d u e eu=>?_)
  ·simp only [zap,zaw]at e
   obtain⟨d',e,rfl⟩:=e
   rw[← hG];exact h1 i d' e
  ·simp only [zap,zaw]at e
   obtain⟨d',e,rfl⟩:=e
   rw[← hG]at eu;exact ih i d' u e eu
 |jw g z cap hc ht=>simp only[D.di,D.n8];exact .jw _ z cap hc (tag ht)
 |lY z a cap=>simp only[D.di,D.n8,Tag.di];exact .lY z a cap
 | slice g z rows b k cap hl hs h1 h2 ht ih=>
  simp only[D.di,Fz]
  have hlen:(rows.map (D.eJ os ts)).length=rows.length:=by simp
  have key:=RD.slice (M:=M) (s:=s) (g.di ts) z (rows.map (D.eJ os ts)) b k cap (by rw[hlen];exact hl) (fun row hr=>by
   obtain⟨l5,h',rfl⟩:=zaG.1 hr
   rw[iw,zau];exact hs l5 h')
   (fun i row j d e1 e2=>by
    simp only[zap,zaw]at e1
    obtain⟨l5,e1,rfl⟩:=e1
    rw[iw]at e2
    simp only[zap,zaw]at e2
    obtain⟨d',e2,rfl⟩:=e2
    rw[← hG];exact h1 i l5 j d' e1 e2)
   (fun i row j d u e1 e2 eu=>by
    simp only[zap,zaw]at e1
    obtain⟨l5,e1,rfl⟩:=e1
    rw[iw]at e2
    simp only[zap,zaw]at e2
    obtain⟨d',e2,rfl⟩:=e2
    rw[← hG]at eu;exact ih i l5 j d' u e1 e2 eu)
   (by rw[hlen];exact tag ht)
  rw[hlen]at key
  exact key
 |agg cells vs hl h1 _ ih=>
  simp only[D.di,iw]
  refine .agg _ vs (by simpa using hl) h1 (fun i d v e1 e2=>?_)
  simp only[zap,zaw]at e1
  obtain⟨d',e1,rfl⟩:=e1
  exact ih i d' v e1 e2
 |tuple ds vs hl _ ih=>
  simp only[D.di,iw]
  refine .tuple _ vs (by simpa using hl) (fun i d v e1 e2=>?_)
  simp only[zap,zaw]at e1
  obtain⟨d',e1,rfl⟩:=e1
  exact ih i d' v e1 e2
def l6 {α:Type} : List Nat→List α→List α→List α
 | [],new,l=>l++new
 |_::_,[],l=>l
 |o::os,x::xs,l=>l6 os xs (l.set o x)
def lj (os:List Nat) (n k:Nat):List Nat:=os++(List.range k).map (n + ·)
theorem AL {α:Type} : ∀ (os:List Nat) (xs l:List α),os.length≤xs.length→(l6 os xs l).length=l.length+(xs.length - os.length)
 | [],xs,l,_=>by simp[l6]
 |o::os,[],l,h=>by simp at h
 |o::os,x::xs,l,h=>by
  simp only[l6]
  rw[AL os xs _ (by simpa using h)]
  simp
theorem Hj {α:Type} : ∀ (os:List Nat) (xs l:List α),os.length≤xs.length→os.Nodup→(∀ o∈os,o<l.length)→
 (∀ (i:Nat) (o:Nat),os[i]? = some o→(l6 os xs l)[o]? = xs[i]?)∧(∀ o,o<l.length→o∉os→(l6 os xs l)[o]? = l[o]?)∧
 (∀ k,(l6 os xs l)[l.length+k]? = xs[os.length+k]?)
 | [],xs,l,_,_,_=>by
  refine⟨by simp,fun o ho _=>by simp only[l6];rw[zai ho],fun k=>by simp only[l6];rw[zao (by omega)];simp⟩
 |o::os,[],l,h,_,_=>by simp at h
 | o::os,x::xs,l,h,hn,hD=>by
  simp only[za4]at hn
  have Bz : ∀ q∈os,q<(l.set o x).length:=fun q hq=>by simpa using hD q (by simp[hq])
  obtain⟨h1,h2,h3⟩:=Hj os xs (l.set o x) (by simpa using h) hn.2 Bz
  have ho:o<l.length:=hD o (by simp)
  simp only[l6]
  refine⟨fun i q e=>?_,fun q hq zF=>?_,fun k=>?_⟩
  ·cases i with
   |zero=>
    simp only[zbh,Option.some.injEq]at e
    subst e
    rw[h2 o (by simpa using ho) hn.1]
    simp[ho]
   |succ i=>simpa using h1 i q (by simpa using e)
  ·have yv:q≠o:=fun e=>zF (by simp [e])
   rw[h2 q (by simpa using hq) (fun h=>zF (by simp[h])),zam (Ne.symm yv)]
  ·have:=h3 k
   simp only[zbr]at this
   rw[this]
   simp only[zas]
   rw[show os.length+1+k=(os.length+k)+1 by omega];simp
theorem AN (os:List Nat) (n k i:Nat):(lj os n k)[i]? = if i<os.length then os[i]? else if i<os.length+k then some (n+(i - os.length))else none:=by
 unfold lj
 split
 ·rename_i h;rw[zai h]
 ·rename_i h
  rw[zao (by omega)]
  split
  ·rename_i h2
   rw[zap,zb2 (by omega)];rfl
  ·rename_i h2
   rw[zbF]
   simp;omega
def posOf:List Nat→Nat→Option Nat
 | [],_=>none
 |x::r,o=>if x=o then some 0 else(posOf r o).map (· + 1)
theorem kq : ∀ {l:List Nat} {o i:Nat},posOf l o=some i→l[i]? = some o
 | x::r,o,i,h=>by
  simp only[posOf]at h
  split at h
  ·rename_i e;cases h;simp[e]
  ·cases hp:posOf r o with
   |none=>rw[hp]at h;cases h
   |some j=>rw[hp]at h;cases h;simpa using kq hp
theorem oy : ∀ {l:List Nat} {o i:Nat},l.Nodup→l[i]? = some o→posOf l o=some i
 | x::r,o,i,hn,h=>by
  simp only[za4]at hn
  simp only[posOf]
  cases i with
  |zero=>simp at h;simp[h]
  |succ i=>
   simp at h
   have:x≠o:=fun e=>hn.1 (by rw[e];exact zad h)
   rw[if_neg this,oy hn.2 h];rfl
end
end Go.Abs
namespace Go.Abs
theorem DA {l:List Nat} {n k:Nat} (h:l.Nodup) (hl : ∀ o∈l,o<n):(lj l n k).Nodup:=by
 unfold lj
 rw[za8]
 refine⟨h, ?_,fun a ha b hb=>?_⟩
 ·rw [zby,List.pairwise_map]
  exact List.Pairwise.imp (fun h=>by omega) (zby.1 List.nodup_range)
 ·obtain⟨c,hc,rfl⟩:=zaG.1 hb
  have:=hl a ha
  omega
def jl (M:Map) (os ts:List Nat):Map:=⟨M.G,fun i=>M.loc (os.getD i 0),fun i=>M.be (ts.getD i 0)⟩
def BA (M M0:Map) (os ts:List Nat):Map:=
 ⟨M0.G,fun o=>match posOf os o with|some i=>M0.loc i|none=>M.loc o,fun t=>match posOf ts t with|some i=>M0.be i|none=>M.be t⟩
section
variable {P:Program} {M:Map} {s s0:St} {w:World} {os ts:List Nat}
theorem yc {l:List Nat} {i o:Nat} (h:l[i]? = some o):l.getD i 0=o:=by simp[List.getD,h]
theorem Rel.sub (r:Rel M s w) (xD:os.Nodup) (yB:ts.Nodup) (kg : ∀ o∈os,o<s.ag.length)
 (ho:s0.ag.length=os.length) (AP : ∀ (i o:Nat) (ds:List D),os[i]? = some o→s0.ag[i]? = some ds→s.ag[o]? = some (D.eJ os ts ds)∧D.bJ os.length ts.length ds=true)
 (ht:s0.au.length=ts.length) (xe : ∀ (i t:Nat),ts[i]? = some t→s0.au[i]? = s.au[t]?):Rel (jl M os ts) s0 w:=by
 have nth : ∀ i,i<s0.ag.length→∃ o,os[i]? = some o∧o<s.ag.length:=fun i hi=>⟨os[i],zah (by omega),kg _ (List.getElem_mem _)⟩
 have loc : ∀ (i:Nat) o,os[i]? = some o→(jl M os ts).loc i=M.loc o:=fun i o h=>by simp only[jl,yc h]
 have mu : ∀ (i:Nat) o,os[i]? = some o→(jl M os ts).mu i=M.mu o:=fun i o h=>congrArg Prod.fst (loc i o h)
 have be : ∀ (i:Nat) t,ts[i]? = some t→(jl M os ts).be i=M.be t:=fun i t h=>by simp only[jl,yc h]
 have tth : ∀ t,s0.live t→∃ t',ts[t]? = some t'∧s.live t':=fun t ⟨n,hn⟩=>by
  have hD:=(zac.1 hn).1
  have e:ts[t]? = some ts[t]:=zah (by omega)
  exact⟨_,e,n,by rw[← xe t _ e];exact hn⟩
 refine⟨r.comm,fun i ds e=>?_,fun i hi off=>?_,fun i i' hi jL e=>?_,fun t n e=>?_,fun t b c z i hl e hi=>?_,fun t t' b c z c' z' h h' e e'=>?_⟩
 ·obtain⟨o,h1,_⟩:=nth i (zac.1 e).1
  obtain⟨h2,h3⟩:=AP i o ds h1 e
  obtain⟨vs,T,g1,g2,g3,g4⟩:=r.obj o _ h2
  refine⟨vs,T,by rw[loc i o h1];exact g1,by rw[iw]at g2;simpa using g2,⟨g3.1,by rw[show(jl M os ts).ty i=M.ty o from congrArg (fun x=>x.2.ty?) (loc i o h1)];exact g3.2⟩,fun j d v e1 e2=>?_⟩
  exact RD.FA (M:=M) (M0:=jl M os ts) (s:=s) rfl loc ho be xe ht (g4 j (d.di os ts) v (by rw[iw,zap,e1];rfl) e2) d rfl (yA h3 e1)
 ·obtain⟨o,h1,h2⟩:=nth i hi
  rw[mu i o h1];exact r.kU o h2 off
 ·obtain⟨o,h1,h2⟩:=nth i hi
  obtain⟨o',qk,ui⟩:=nth i' jL
  rw[mu i o h1,mu i' o' qk]at e
  have:=r.inj o o' h2 ui e
  subst this
  have a:=oy xD h1
  have b:=oy xD qk
  rw[a]at b;cases b;rfl
 ·obtain⟨t',h1,h2⟩:=tth t ⟨n,e⟩
  rw[be t t' h1]
  exact r.tok t' n (by rw[← xe t t' h1];exact e)
 ·obtain⟨t',h1,h2⟩:=tth t hl
  obtain⟨o,h3,h4⟩:=nth i hi
  rw[be t t' h1]at e
  rw[mu i o h3]
  exact r.fL t' b c z o h2 e h4
 ·obtain⟨q,h1,h2⟩:=tth t h
  obtain⟨q',qk,ui⟩:=tth t' h'
  rw[be t q h1]at e
  rw[be t' q' qk]at e'
  have:=r.gS q q' b c z c' z' h2 ui e e'
  subst this
  have a:=oy yB h1
  have b:=oy yB qk
  rw[a]at b;cases b;rfl
end
def St.back (s:St) (os ts:List Nat) (s':St):St:=
 ⟨l6 os (s'.ag.map (D.eJ (lj os s.ag.length (s'.ag.length - os.length)) (lj ts s.au.length (s'.au.length - ts.length)))) s.ag,l6 ts s'.au s.au⟩
def D.back (s:St) (os ts:List Nat) (s':St) (d:D):D:=
 d.di (lj os s.ag.length (s'.ag.length - os.length)) (lj ts s.au.length (s'.au.length - ts.length))
theorem bk.frame {P:Program} {f:FuncId} {T5 args:List D} {s s0:St} {Q0 Q:D→St→Prop} (os ts:List Nat) (h:bk P f T5 s0 Q0) (xD:os.Nodup) (yB:ts.Nodup) (kg : ∀ o∈os,o<s.ag.length) (Bo : ∀ t∈ts,t<s.au.length)
 (ho:s0.ag.length=os.length) (AP : ∀ (i o:Nat) (ds:List D),os[i]? = some o→s0.ag[i]? = some ds→s.ag[o]? = some (D.eJ os ts ds)∧D.bJ os.length ts.length ds=true)
 (ht:s0.au.length=ts.length) (xe : ∀ (i t:Nat),ts[i]? = some t→s0.au[i]? = s.au[t]?)
 (xR:args=D.eJ os ts T5) (qj:D.bJ os.length ts.length T5=true) (k : ∀ d s',Q0 d s'→Q (d.back s os ts s') (s.back os ts s')):bk P f args s Q:=by
 intro M w fH r kM dJ ha
 have r0:=r.sub xD yB kg ho AP ht xe
 have loc : ∀ (i:Nat) o,os[i]? = some o→(jl M os ts).loc i=M.loc o:=fun i o h=>by simp only[jl,yc h]
 have mu : ∀ (i:Nat) o,os[i]? = some o→(jl M os ts).mu i=M.mu o:=fun i o h=>congrArg Prod.fst (loc i o h)
 have be : ∀ (i:Nat) t,ts[i]? = some t→(jl M os ts).be i=M.be t:=fun i t h=>by simp only[jl,yc h]
 subst xR
 have ahG:Laid (jl M os ts) s0 w:=by
  intro g cs hg
  obtain⟨h1,h2,h3⟩:=kM g cs hg
  refine⟨h1,fun o hD=>?_,fun t c z hl hb=>?_⟩
  ·obtain⟨o',nF⟩ : ∃ o',os[o]? = some o':=⟨_,zah (by omega)⟩
   rw[mu o o' nF]
   exact h2 o' (kg o' (zad nF))
  ·obtain⟨n,hn⟩:=hl
   have hD:=(zac.1 hn).1
   obtain⟨t',W9⟩ : ∃ t',ts[t]? = some t':=⟨_,zah (by omega)⟩
   rw[be t t' W9]at hb
   exact h3 t' c z ⟨n,by rw[← xe t t' W9];exact hn⟩ hb
 have hc:=h (jl M os ts) w fH r0 ahG (by rw[dJ,iw,zau]) (fun i d v e1 e2=>
  RD.FA (M:=M) (M0:=jl M os ts) (s:=s) rfl loc ho be xe ht (ha i (d.di os ts) v (by rw[iw,zap,e1];rfl) e2) d rfl (yA qj e1))
 refine hc.mono ?_
 rintro en w' ⟨BB,d,v,s',rfl,hq,e,r',hv⟩
 have Gs:=e.le.n
 have Ip:=e.le.t
 generalize T6:lj os s.ag.length (s'.ag.length - os.length)=nY
 generalize T7:lj ts s.au.length (s'.au.length - ts.length)=pP
 have nd:nY.Nodup:=by rw[← T6];exact DA xD kg
 have ndt:pP.Nodup:=by rw[← T7];exact DA yB Bo
 have T8 : ∀ i,nY[i]? = if i<os.length then os[i]? else if i<s'.ag.length then some (s.ag.length+(i - os.length))else none:=fun i=>by
  rw[← T6,AN];split
  ·rfl
  ·rw[show os.length+(s'.ag.length - os.length)=s'.ag.length by omega]
 have T9 : ∀ i,pP[i]? = if i<ts.length then ts[i]? else if i<s'.au.length then some (s.au.length+(i - ts.length))else none:=fun i=>by
  rw[← T7,AN];split
  ·rfl
  ·rw[show ts.length+(s'.au.length - ts.length)=s'.au.length by omega]
 have hsb:s.back os ts s' = ⟨l6 os (s'.ag.map (D.eJ nY pP)) s.ag,l6 ts s'.au s.au⟩:=by simp only[St.back,T6,T7]
 have hdb:d.back s os ts s'=d.di nY pP:=by simp only[D.back,T6,T7]
 have om:=k d s' hq
 rw[hsb,hdb]at om
 obtain⟨p1,p2,p3⟩:=Hj os (s'.ag.map (D.eJ nY pP)) s.ag (by simp;omega) xD kg
 obtain⟨q1,q2,q3⟩:=Hj ts s'.au s.au (by omega) yB Bo
 have Oq:=AL os (s'.ag.map (D.eJ nY pP)) s.ag (by simp;omega)
 have Ot:=AL ts s'.au s.au (by omega)
 simp only[zau]at Oq
 generalize uh:(⟨l6 os (s'.ag.map (D.eJ nY pP)) s.ag,l6 ts s'.au s.au⟩:St)=s2 at om
 have so:s2.ag=l6 os (s'.ag.map (D.eJ nY pP)) s.ag:=by rw[← uh]
 have st:s2.au=l6 ts s'.au s.au:=by rw[← uh]
 -- the framed objects
 have fo : ∀ (i o:Nat),nY[i]? = some o→o<s2.ag.length∧s2.ag[o]? = (s'.ag[i]?).map (D.eJ nY pP)∧i<s'.ag.length∧(i<os.length→o<s.ag.length∧os[i]? = some o)∧(os.length≤i→s.ag.length≤o):=by
  intro i o hi
  rw[T8]at hi
  split at hi
  ·rename_i h1
   have hD:=kg o (zad hi)
   refine⟨by rw[so,Oq];omega,by rw[so,p1 i o hi,zap],by omega,fun _=>⟨hD,hi⟩,fun h=>by omega⟩
  ·split at hi
   ·rename_i h1 h2
    cases hi
    refine⟨by rw[so,Oq];omega, ?_,h2,fun h=>by omega,fun _=>by omega⟩
    rw[so,p3,zap,show os.length+(i - os.length)=i by omega]
   ·cases hi
 have ft : ∀ (i t:Nat),pP[i]? = some t→t<s2.au.length∧s2.au[t]? = s'.au[i]? ∧i<s'.au.length∧(i<ts.length→t<s.au.length∧ts[i]? = some t)∧(ts.length≤i→s.au.length≤t):=by
  intro i t hi
  rw[T9]at hi
  split at hi
  ·rename_i h1
   have hD:=Bo t (zad hi)
   refine⟨by rw[st,Ot];omega,by rw[st,q1 i t hi],by omega,fun _=>⟨hD,hi⟩,fun h=>by omega⟩
  ·split at hi
   ·rename_i h1 h2
    cases hi
    refine⟨by rw[st,Ot];omega, ?_,h2,fun h=>by omega,fun _=>by omega⟩
    rw[st,q3,show ts.length+(i - ts.length)=i by omega]
   ·cases hi
 -- all others
 have uo : ∀ o,o<s2.ag.length→posOf nY o=none→o<s.ag.length∧o∉os∧s2.ag[o]? = s.ag[o]? :=by
  intro o hD hp
  have qw : ∀ i,nY[i]? ≠some o:=fun i hi=>by rw[oy nd hi]at hp;cases hp
  have h1:o<s.ag.length:=by
   rcases zaE o s.ag.length with h|h
   ·exact h
   ·exfalso
    rw[so,Oq]at hD
    refine qw (os.length+(o - s.ag.length)) ?_
    rw[T8,if_neg (by omega),if_pos (by omega)]
    congr 1;omega
  have h2:o∉os:=fun hm=>by
   obtain⟨i,hi⟩:=List.mem_iff_getElem?.1 hm
   have sL:=(zac.1 hi).1
   exact qw i (by rw[T8,if_pos sL];exact hi)
  exact⟨h1,h2,by rw[so,p2 o h1 h2]⟩
 have ut : ∀ t,t<s2.au.length→posOf pP t=none→t<s.au.length∧t∉ts∧s2.au[t]? = s.au[t]? :=by
  intro t hD hp
  have qw : ∀ i,pP[i]? ≠some t:=fun i hi=>by rw[oy ndt hi]at hp;cases hp
  have h1:t<s.au.length:=by
   rcases zaE t s.au.length with h|h
   ·exact h
   ·exfalso
    rw[st,Ot]at hD
    refine qw (ts.length+(t - s.au.length)) ?_
    rw[T9,if_neg (by omega),if_pos (by omega)]
    congr 1;omega
  have h2:t∉ts:=fun hm=>by
   obtain⟨i,hi⟩:=List.mem_iff_getElem?.1 hm
   have sL:=(zac.1 hi).1
   exact qw i (by rw[T9,if_pos sL];exact hi)
  exact⟨h1,h2,by rw[st,q2 t h1 h2]⟩
 generalize zG:BA M BB nY pP=M2
 have mG:BB.G=M2.G:=by rw[← zG];rfl
 have lo : ∀ (i o:Nat),nY[i]? = some o→M2.loc o=BB.loc i:=fun i o hi=>by rw[← zG];simp only[BA,oy nd hi]
 have lo0 : ∀ o,posOf nY o=none→M2.loc o=M.loc o:=fun o hp=>by rw[← zG];simp only[BA,hp]
 have mo : ∀ (i o:Nat),nY[i]? = some o→M2.mu o=BB.mu i:=fun i o hi=>congrArg Prod.fst (lo i o hi)
 have Ou : ∀ o,posOf nY o=none→M2.mu o=M.mu o:=fun o hp=>congrArg Prod.fst (lo0 o hp)
 have mt : ∀ (i t:Nat),pP[i]? = some t→M2.be t=BB.be i:=fun i t hi=>by rw[← zG];simp only[BA,oy ndt hi]
 have Ov : ∀ t,posOf pP t=none→M2.be t=M.be t:=fun t hp=>by rw[← zG];simp only[BA,hp]
 have le:Le M s M2 s2:=by
  refine⟨fun b o v hg=>by rw[← mG];exact e.le.G b o v hg,by rw[so,Oq];omega,fun o hD=>?_,by rw[st,Ot];omega,fun t n' hD uK=>?_⟩
  ·cases hp:posOf nY o with
   |none=>rw[lo0 o hp];exact .refl _
   | some i=>
    have hi:=kq hp
    rw[lo i o hi]
    obtain⟨_,_,_,h1,h2⟩:=fo i o hi
    have sL:i<os.length:=by
     rcases zaE i os.length with h|h
     ·exact h
     ·have:=h2 h;omega
    have h3:=e.le.loc i (by omega)
    rw[loc i o (h1 sL).2]at h3
    exact h3
  ·cases hp:posOf pP t with
   |none=>
    obtain⟨_,_,h3⟩:=ut t (by rw[st,Ot];omega) hp
    rw[h3]at uK
    exact⟨n',uK,zak _,fun _=>Ov t hp⟩
   | some i=>
    have hi:=kq hp
    obtain⟨_,g1,_,h1,h2⟩:=ft i t hi
    have sL:i<ts.length:=by
     rcases zaE i ts.length with h|h
     ·exact h
     ·have:=h2 h;omega
    rw[g1]at uK
    obtain⟨n,h3,h4,h5⟩:=e.le.tk i n' (by omega) uK
    refine⟨n,by rw[← xe i t (h1 sL).2];exact h3,h4,fun eq=>?_⟩
    rw[mt i t hi,h5 eq,be i t (h1 sL).2]
 have ahH : ∀ {d:D} {v:Value},RD BB s' d v→RD M2 s2 (d.di nY pP) v:=fun hd=>RD.di mG
  (fun i hi=>by
   obtain⟨o,ho⟩ : ∃ o,nY[i]? = some o:=by
    rw[T8];split
    ·rename_i h1;exact⟨_,zah h1⟩
    ·exact⟨_,rfl⟩
   exact⟨o,ho,(fo i o ho).1,lo i o ho⟩)
  (fun i hi=>by
   obtain⟨t,ht⟩ : ∃ t,pP[i]? = some t:=by
    rw[T9];split
    ·rename_i h1;exact⟨_,zah h1⟩
    ·exact⟨_,rfl⟩
   exact⟨t,ht,(ft i t ht).1,(ft i t ht).2.1,mt i t ht⟩) hd
 -- blocks that the callee did not know
 have Nz : ∀ i,s0.live i→∃ t,ts[i]? = some t∧s.live t:=fun i ⟨n,hn⟩=>by
  have hD:=(zac.1 hn).1
  have e1:ts[i]? = some ts[i]:=zah (by omega)
  exact⟨_,e1,n,by rw[← xe i _ e1];exact hn⟩
 have Ua : ∀ b,b<w.heap.size→(∀ (i o:Nat),os[i]? = some o→M.mu o≠b)→(∀ (i t:Nat) c z,ts[i]? = some t→s.live t→M.be t≠some (b,c,z))→
  w'.heap[b]? = w.heap[b]? ∧∀ off,BB.G b off=M.G b off:=by
  intro b hb h1 h2
  refine⟨e.kept b hb (fun i hi=>?_) (fun i c z hl=>?_),fun off=>?_⟩
  ·have e1:os[i]? = some os[i]:=zah (by omega)
   rw[mu i _ e1];exact h1 i _ e1
  ·obtain⟨t,e1,hD⟩:=Nz i hl
   rw[be i t e1];exact h2 i t c z e1 hD
  ·apply Classical.byContradiction
   intro dj
   rcases e.uE b off dj with h3|⟨i,c,z,hl,h3⟩
   ·omega
   ·obtain⟨t,e1,hD⟩:=Nz i hl
    rw[be i t e1]at h3
    exact h2 i t c z e1 hD h3
 have adL : ∀ o,o<s.ag.length→o∉os→w'.heap[M.mu o]? = w.heap[M.mu o]? ∧∀ off,BB.G (M.mu o) off=M.G (M.mu o) off:=fun o hD qw=>
  Ua _ (r.tz hD) (fun i o' h1 h2=>qw (by rw[← r.inj o' o (kg o' (zad h1)) hD h2];exact zad h1))
   (fun i t c z _ hl h2=>r.fL t _ c z o hl h2 hD rfl)
 have alY : ∀ t b c z,s.live t→t∉ts→M.be t=some (b,c,z)→w'.heap[b]? = w.heap[b]? ∧∀ off,BB.G b off=M.G b off:=fun t b c z hl qw hb=>
  Ua b (r.v8 hl hb) (fun i o h1=>r.fL t b c z o hl hb (kg o (zad h1)))
   (fun i t' c' z' h1 qJ h2=>qw (by rw[r.gS t t' b c z c' z' hl qJ hb h2];exact zad h1))
 have lv : ∀ t,s2.live t→(∃ i,pP[i]? = some t∧s'.live i)∨(posOf pP t=none∧s.live t∧t∉ts):=by
  rintro t ⟨n,hn⟩
  cases hp:posOf pP t with
  |none=>
   obtain⟨h1,h2,h3⟩:=ut t (zac.1 hn).1 hp
   exact .inr ⟨rfl,⟨n,by rw[← h3];exact hn⟩,h2⟩
  |some i=>
   have hi:=kq hp
   exact .inl ⟨i,hi,n,by rw[← (ft i t hi).2.1];exact hn⟩
 -- where a framed object lies
 have muc : ∀ (i o:Nat),nY[i]? = some o→(o<s.ag.length∧o∈os∧BB.mu i=M.mu o)∨w.heap.size≤BB.mu i:=by
  intro i o hi
  obtain⟨_,_,h1,h2,h3⟩:=fo i o hi
  rcases e.mo h1 with ⟨h4,h5⟩|h4
  ·have h:i<os.length:=by omega
   exact .inl ⟨(h2 h).1,zad (h2 h).2,by rw[h5,mu i o (h2 h).2]⟩
  ·exact .inr h4
 have bec : ∀ (i t b c z:Nat),pP[i]? = some t→s'.live i→BB.be i=some (b,c,z)→(s.live t∧t∈ts∧∃ c' z',M.be t=some (b,c',z'))∨w.heap.size≤b:=by
  intro i t b c z hi hl hb
  rcases e.rH i b c z hl hb with ⟨h1,c',z',h2⟩|h1
  ·obtain⟨t',e1,hD⟩:=Nz i h1
   have sL:=(zac.1 e1).1
   obtain⟨_,_,_,h3,_⟩:=ft i t hi
   have:=(h3 sL).2
   rw[e1]at this;cases this
   rw[be i _ e1]at h2
   exact .inl ⟨hD,zad e1,c',z',h2⟩
  ·exact .inr h1
 refine⟨M2,d.di nY pP,v,s2,rfl,om, ?_, ?_,ahH hv⟩
 ·-- Ext
  refine⟨le,fun b hb h1 h2=>?_,fun o h1 h2=>?_,fun t b c z hl hb=>?_,fun b off dj=>?_,e.size,e.os,e.tape,e.output⟩
  ·exact(Ua b hb (fun i o h3=>h1 o (kg o (zad h3))) (fun i t c z _ hl=>h2 t c z hl)).1
  ·cases hp:posOf nY o with
   |none=>
    have:=(uo o h2 hp).1
    rcases h1 with h1|h1
    ·omega
    ·exact(h1 (Ou o hp)).elim
   | some i=>
    have hi:=kq hp
    rw[mo i o hi]at h1 ⊢
    rcases muc i o hi with ⟨h3,_,h5⟩|h3
    ·rcases h1 with h1 | h1
     ·omega
     ·exact(h1 h5).elim
    ·exact h3
  ·rcases lv t hl with ⟨i,hi,qJ⟩ | ⟨hp,qJ,_⟩
   ·rw [mt i t hi]at hb
    rcases bec i t b c z hi qJ hb with ⟨h1,_,h2⟩|h1
    ·exact .inl ⟨h1,h2⟩
    ·exact .inr h1
   ·rw [Ov t hp]at hb
    exact .inl ⟨qJ,c,z,hb⟩
  ·rw [← mG]at dj
   rcases e.uE b off dj with h1|⟨i,c,z,hl,hb⟩
   ·exact .inl h1
   ·obtain⟨t,e1,hD⟩:=Nz i hl
    rw[be i t e1]at hb
    exact .inr ⟨t,c,z,hD,hb⟩
 ·-- Rel
  refine⟨fun b o v hg=>r'.comm b o v (by rw[mG];exact hg),fun o ds xC=>?_,fun o hD off=>?_,fun o o' hD Bz heq=>?_,fun t n hn=>?_,fun t b c z o hl hb hD=>?_,fun t t' b c z c' z' hl qJ hb rQ=>?_⟩
  ·cases hp:posOf nY o with
   |some i=>
    have hi:=kq hp
    obtain⟨_,g1,_⟩:=fo i o hi
    rw[g1]at xC
    obtain⟨qi,h1,rfl⟩:=zaw.1 xC
    obtain⟨vs,T,h2,h3,h4,h5⟩:=r'.obj i qi h1
    refine⟨vs,T,by rw[lo i o hi];exact h2,by rw[iw];simpa using h3,⟨h4.1,by rw[show M2.ty o=BB.ty i from congrArg (fun x=>x.2.ty?) (lo i o hi)];exact h4.2⟩,fun j d v e1 e2=>?_⟩
    rw[iw]at e1
    simp only[zap,zaw]at e1
    obtain⟨d',e1,rfl⟩:=e1
    exact ahH (h5 j d' v e1 e2)
   |none=>
    obtain⟨h1,h2,h3⟩:=uo o (zac.1 xC).1 hp
    rw[h3]at xC
    obtain⟨vs,T,g1,g2,g3,g4⟩:=r.obj o ds xC
    exact⟨vs,T,by rw[lo0 o hp];exact g1.keep (adL o h1 h2).1,g2,⟨g3.1,by rw[show M2.ty o=M.ty o from congrArg (fun x=>x.2.ty?) (lo0 o hp)];exact g3.2⟩,fun j d v e1 e2=>(g4 j d v e1 e2).mono le⟩
  ·cases hp:posOf nY o with
   |some i=>
    have hi:=kq hp
    rw[mo i o hi, ← mG];exact r'.kU i (fo i o hi).2.2.1 off
   |none=>
    obtain⟨h1,h2,h3⟩:=uo o hD hp
    rw[Ou o hp, ← mG,(adL o h1 h2).2 off];exact r.kU o h1 off
  ·cases hp:posOf nY o with
   | some i=>
    have hi:=kq hp
    rw[mo i o hi]at heq
    cases pG:posOf nY o' with
    |some i'=>
     have jL:=kq pG
     rw[mo i' o' jL]at heq
     have:=r'.inj i i' (fo i o hi).2.2.1 (fo i' o' jL).2.2.1 heq
     subst this
     rw[hi]at jL;cases jL;rfl
    | none=>
     obtain⟨h1,h2,_⟩:=uo o' Bz pG
     rw[Ou o' pG]at heq
     rcases muc i o hi with ⟨h3,h4,h5⟩|h3
     ·rw [h5]at heq
      have:=r.inj o o' h3 h1 heq
      subst this;exact(h2 h4).elim
     ·have:=r.tz h1;omega
   | none=>
    obtain⟨h1,h2,_⟩:=uo o hD hp
    rw[Ou o hp]at heq
    cases pG:posOf nY o' with
    | some i'=>
     have jL:=kq pG
     rw[mo i' o' jL]at heq
     rcases muc i' o' jL with ⟨h3,h4,h5⟩|h3
     ·rw [h5]at heq
      have:=r.inj o o' h1 h3 heq
      subst this;exact(h2 h4).elim
     ·have:=r.tz h1;omega
    |none=>
     obtain⟨qk,_,_⟩:=uo o' Bz pG
     rw[Ou o' pG]at heq
     exact r.inj o o' h1 qk heq
  ·rcases lv t ⟨n,hn⟩with ⟨i,hi,hl⟩ | ⟨hp,hl,qw⟩
   ·rw [mt i t hi, ← mG]
    exact r'.tok i n (by rw[← (ft i t hi).2.1];exact hn)
   ·obtain⟨_,_,h3⟩:=ut t (zac.1 hn).1 hp
    rw[h3]at hn
    rw[Ov t hp]
    rcases r.tok t n hn with h4|⟨b,cap,size,vs,T,g1,g2,g3,g4,g5⟩
    ·exact .inl h4
    ·obtain⟨k1,k2⟩:=alY t b cap size hl qw g1
     exact .inr ⟨b,cap,size,vs,T,g1,by rw[k1];exact g2,g3,g4,fun off ho=>by rw[← mG,k2 off];exact g5.1 off ho,g5.2⟩
  ·rcases lv t hl with ⟨i,hi,qJ⟩ | ⟨hp,qJ,qw⟩
   ·rw [mt i t hi]at hb
    cases IC:posOf nY o with
    |some j=>
     have hj:=kq IC
     rw[mo j o hj]
     exact r'.fL i b c z j qJ hb (fo j o hj).2.2.1
    |none=>
     obtain⟨h1,h2,_⟩:=uo o hD IC
     rw[Ou o IC]
     rcases bec i t b c z hi qJ hb with ⟨h3,_,c',z',h4⟩|h3
     ·exact r.fL t b c' z' o h3 h4 h1
     ·have:=r.tz h1;omega
   ·rw [Ov t hp]at hb
    cases IC:posOf nY o with
    |some j=>
     have hj:=kq IC
     rw[mo j o hj]
     rcases muc j o hj with ⟨h3,_,h5⟩|h3
     ·rw[h5];exact r.fL t b c z o qJ hb h3
     ·have:=r.v8 qJ hb;omega
    |none=>
     obtain⟨h1,_,_⟩:=uo o hD IC
     rw[Ou o IC];exact r.fL t b c z o qJ hb h1
  ·rcases lv t hl with ⟨i,hi,DB⟩ | ⟨hp,hD,qw⟩
   ·rw [mt i t hi]at hb
    rcases lv t' qJ with ⟨i',jL,aah⟩|⟨pG,Bz,adO⟩
    ·rw [mt i' t' jL]at rQ
     have:=r'.gS i i' b c z c' z' DB aah hb rQ
     subst this
     rw[hi]at jL;cases jL;rfl
    ·rw [Ov t' pG]at rQ
     rcases bec i t b c z hi DB hb with ⟨h3,h4,c2,z2,h5⟩|h3
     ·have:=r.gS t t' b c2 z2 c' z' h3 Bz h5 rQ
      subst this;exact(adO h4).elim
     ·have:=r.v8 Bz rQ;omega
   ·rw [Ov t hp]at hb
    rcases lv t' qJ with ⟨i',jL,aah⟩|⟨pG,Bz,adO⟩
    ·rw [mt i' t' jL]at rQ
     rcases bec i' t' b c' z' jL aah rQ with ⟨h3,h4,c2,z2,h5⟩|h3
     ·have:=r.gS t t' b c z c2 z2 hD h3 hb h5
      subst this;exact(qw h4).elim
     ·have:=r.v8 hD hb;omega
    ·rw [Ov t' pG]at rQ
     exact r.gS t t' b c z c' z' hD Bz hb rQ
end Go.Abs
namespace Go.Abs
def Wk (d d':D):Prop:=∀ (M:Map) (s:St) (v:Value),RD M s d v→RD M s d' v
inductive jM:List D→List D→Prop where
 |nil:jM [] []
 |cons {d d':D} {l l':List D} (h:Wk d d') (t:jM l l'):jM (d::l) (d'::l')
inductive iF:List (List D)→List (List D)→Prop where
 |nil:iF [] []
 |cons {r r':List D} {l l':List (List D)} (h:jM r r') (t:iF l l'):iF (r::l) (r'::l')
theorem Wk.refl (d:D):Wk d d:=fun _ _ _ h=>h
theorem Wk.trans {a b c:D} (h:Wk a b) (k:Wk b c):Wk a c:=fun M s v r=>k M s v (h M s v r)
theorem Wk.junk (d:D):Wk d .junk:=fun _ _ v _=> .junk v
theorem jM.refl : ∀ l,jM l l
 | []=> .nil
 |d::l=> .cons (Wk.refl d) (jM.refl l)
theorem iF.refl : ∀ l,iF l l
 | []=> .nil
 |d::l=> .cons (jM.refl d) (iF.refl l)
theorem jM.len {l l':List D} (h:jM l l'):l.length=l'.length:=by
 induction h with
 |nil=>rfl
 |cons _ _ ih=>simp[ih]
theorem iF.len {l l':List (List D)} (h:iF l l'):l.length=l'.length:=by
 induction h with
 |nil=>rfl
 |cons _ _ ih=>simp[ih]
theorem jM.get {l l':List D} (h:jM l l') : ∀ {i:Nat} {d':D},l'[i]? = some d'→∃ d,l[i]? = some d∧Wk d d':=by
 induction h with
 |nil=>intro i d' e;simp at e
 |cons hd _ ih=>
  intro i d' e
  cases i with
  |zero=>simp at e;subst e;exact⟨_,rfl,hd⟩
  |succ i=>simp at e;simpa using ih e
theorem iF.get {l l':List (List D)} (h:iF l l') : ∀ {i:Nat} {d':List D},l'[i]? = some d'→∃ d,l[i]? = some d∧jM d d':=by
 induction h with
 |nil=>intro i d' e;simp at e
 |cons hd _ ih=>
  intro i d' e
  cases i with
  |zero=>simp at e;subst e;exact⟨_,rfl,hd⟩
  |succ i=>simp at e;simpa using ih e
theorem jM.append {a a' b b':List D} (h:jM a a') (k:jM b b'):jM (a++b) (a'++b'):=by
 induction h with
 |nil=>exact k
 |cons hd _ ih=>exact .cons hd ih
theorem iF.append {a a' b b':List (List D)} (h:iF a a') (k:iF b b'):iF (a++b) (a'++b'):=by
 induction h with
 |nil=>exact k
 |cons hd _ ih=>exact .cons hd ih
theorem Wk.agg {l l':List D} (h:jM l l'):Wk (.agg l) (.agg l'):=by
 intro M s v r
 cases r with
 |agg _ vs hl h1 hr=>
  refine .agg _ vs (by rw[← hl,h.len]) h1 fun i d' u e e2=>?_
  obtain⟨d,e1,hw⟩:=h.get e
  exact hw M s u (hr i d u e1 e2)
theorem Wk.tuple {l l':List D} (h:jM l l'):Wk (.tuple l) (.tuple l'):=by
 intro M s v r
 cases r with
 |tuple _ vs hl hr=>
  refine .tuple _ vs (by rw[← hl,h.len]) fun i d' u e e2=>?_
  obtain⟨d,e1,hw⟩:=h.get e
  exact hw M s u (hr i d u e1 e2)
theorem Wk.rows {g:Tag} {z:Nat} {l l':List (List D)} (h:iF l l'):Wk (.slice g z l) (.slice g z l'):=by
 intro M s v r
 cases r with
 |jw _ _ cap hc ht=>cases h;exact .jw _ _ _ hc ht
 |lY _ a cap=>cases h;exact .lY _ a cap
 | slice _ _ _ b k cap hl hs h1 h2 ht=>
  rw[h.len]
  refine .slice g z l' b k cap (by rw[← h.len];exact hl) (fun row hm=>?_) (fun i row j d e e2=>?_) (fun i row j d u e e2 eu=>?_) (by rw[← h.len];exact ht)
  ·obtain⟨i,hi,he⟩:=List.mem_iff_getElem.1 hm
   obtain⟨r0,g1,g2⟩:=h.get (i:=i) (by rw[zah hi,he])
   rw[← g2.len];exact hs r0 (zad g1)
  ·obtain⟨r0,g1,g2⟩:=h.get e
   obtain⟨d0,g3,_⟩:=g2.get e2
   exact h1 i r0 j d0 g1 g3
  ·obtain⟨r0,g1,g2⟩:=h.get e
   obtain⟨d0,g3,g4⟩:=g2.get e2
   exact g4 M s u (h2 i r0 j d0 u g1 g3 eu)
theorem Wk.shared (g:Tag) (z:Nat) (l:List (List D)):Wk (.slice g z l) (.slice .shared z l):=by
 intro M s v r
 cases r with
 |jw _ _ cap hc ht=>exact .jw _ _ _ hc trivial
 |lY _ a cap=>exact .lY _ a cap
 |slice _ _ _ b k cap hl hs h1 h2 ht=>exact .slice _ _ _ b k cap hl hs h1 h2 trivial
theorem Wk.slice {g:Tag} {z:Nat} {l l':List (List D)} (h:iF l l'):Wk (.slice g z l) (.slice .shared z l'):=(Wk.shared g z l).trans (Wk.rows h)
theorem Wk.nil (g:Tag) (z z':Nat):Wk (.slice g z []) (.slice .shared z' []):=by
 intro M s v r
 cases r with
 |jw _ _ cap hc ht=>exact .jw _ _ _ hc trivial
 |lY _ a cap=>exact .lY _ a cap
 |slice _ _ _ b k cap hl hs h1 h2 ht=>exact .slice _ _ [] b k cap hl (by simp) (by simp) (by simp) trivial
theorem Wk.apX (z z':Nat):Wk (.slice .full z []) (.slice .full z' []):=by
 intro M s v r
 cases r with
 |jw _ _ cap hc ht=>exact .jw _ _ _ hc ht
 |slice _ _ _ b k cap hl hs h1 h2 ht=>exact .slice _ _ [] b k cap hl (by simp) (by simp) (by simp) ht
theorem Rel.mT {M:Map} {s:St} {w:World} {ag:List (List D)} (r:Rel M s w) (h:iF s.ag ag):Rel M ⟨ag,s.au⟩ w∧Le M s M ⟨ag,s.au⟩:=by
 have le:Le M s M ⟨ag,s.au⟩:=⟨fun _ _ _ h=>h,Nat.le_of_eq h.len,fun _ _=> .refl _,zak _,fun t n' _ e=>⟨n',e,zak _,fun _=>rfl⟩⟩
 have hl:=h.len
 refine⟨⟨r.comm,fun o ds e=>?_,fun o ho=>r.kU o (by rw[hl];exact ho),fun o o' ho nF=>r.inj o o' (by rw[hl];exact ho) (by rw[hl];exact nF),r.tok,
  fun t b c z o hv e ho=>r.fL t b c z o hv e (by rw[hl];exact ho),r.gS⟩,le⟩
 obtain⟨ds0,g1,g2⟩:=h.get e
 obtain⟨vs,T,h1,h2,h3,h4⟩:=r.obj o ds0 g1
 refine⟨vs,T,h1,by rw[h2,g2.len],h3,fun i d v e1 e2=>?_⟩
 obtain⟨d0,k1,k2⟩:=g2.get e1
 exact(k2 _ _ _ (h4 i d0 v k1 e2)).mono le
theorem Rel.blank {M:Map} {s:St} {w:World} (r:Rel M s w) :
 Rel (M.eY s.au.length none) {s with au:=s.au++ [some 0]} w∧Le M s (M.eY s.au.length none) {s with au:=s.au++ [some 0]}:=by
 have kb : ∀ t,St.live {s with au:=s.au++ [some 0]} t→s.live t∨t=s.au.length:=by
  rintro t ⟨k,hk⟩
  rcases zaE t s.au.length with h|h
  ·rw[zai h]at hk;exact .inl ⟨k,hk⟩
  ·have:=(zac.1 hk).1
   simp at this;exact .inr (by omega)
 have hD : ∀ t,s.live t→t<s.au.length:=fun t ⟨k,hk⟩=>(zac.1 hk).1
 have hold : ∀ t,t<s.au.length→(M.eY s.au.length none).be t=M.be t:=fun t h=>by simp[Map.eY];omega
 have dF:(M.eY s.au.length none).be s.au.length=none:=by simp[Map.eY]
 have le:Le M s (M.eY s.au.length none) {s with au:=s.au++ [some 0]}:=
  ⟨fun _ _ _ h=>h,zak _,fun _ _=> .refl _,by simp,fun t k h e=>by
   rw[zai h]at e
   exact⟨k,e,zak _,fun _=>hold t h⟩⟩
 refine⟨⟨r.comm,fun o ds e=>?_,r.kU,r.inj,fun t k e=>?_,fun t b' c z o hl e nF=>?_,fun t t' b' c z c' z' h h' e e'=>?_⟩,le⟩
 ·obtain⟨gf,T',h3,h4,h5,h6⟩:=r.obj o ds e
  exact⟨gf,T',h3,h4,h5,fun i d v e1 e2=>(h6 i d v e1 e2).mono le⟩
 ·rcases zaE t s.au.length with h | h
  ·rw [zai h]at e
   rw[hold t h];exact r.tok t k e
  ·have:=(zac.1 e).1
   simp at this
   have:t=s.au.length:=by omega
   subst this
   simp at e;subst e
   exact .inl ⟨dF,rfl⟩
 ·rcases kb t hl with h | h
  ·rw[hold t (hD t h)]at e;exact r.fL t b' c z o h e nF
  ·subst h;rw[dF]at e;cases e
 ·rcases kb t h with h | h <;> rcases kb t' h' with h' | h'
  ·rw[hold t (hD t h)]at e;rw[hold t' (hD t' h')]at e';exact r.gS t t' b' c z c' z' h h' e e'
  ·subst h';rw[dF]at e';cases e'
  ·subst h;rw[dF]at e;cases e
  ·omega
theorem RD.own {M:Map} {s:St} {z z':Nat} {v:Value} (h:RD M s (.slice .full z []) v):RD (M.eY s.au.length none) {s with au:=s.au++ [some 0]} (.slice (.tok s.au.length) z' []) v:=by
 have key : ∀ base:Option (Nat×Nat),ko (M.eY s.au.length none) {s with au:=s.au++ [some 0]} (.tok s.au.length) z' 0 base 0:=by
  intro base
  refine⟨by simp,fun n e=>?_⟩
  simp at e
  subst e
  exact⟨zak _,fun _=> .inl ⟨by simp[Map.eY],rfl,fun h=>by cases h⟩⟩
 cases h with
 |jw _ _ cap hc ht=>subst hc;exact .jw _ _ _ rfl (key none)
 |slice _ _ _ b k cap hl hs h1 h2 ht=>
  have:cap=0:=ht
  subst this
  exact .slice _ _ [] b k 0 (zak _) (by simp) (by simp) (by simp) (key _)
section
variable {P:Program} {B:gK} {nt:Nat} {Q:Exit→Tm→St→Prop} {tm:Tm} {s:St}
theorem Sem.wkO {ac:AC} (ag:List (List D)) (hw:iF s.ag ag) (h:Sem P B nt ac Q tm ⟨ag,s.au⟩):Sem P B nt ac Q tm s:=by
 intro c hc act w ⟨M,e,r,ht,h1,h2⟩
 obtain⟨r',le⟩:=r.mT hw
 refine h c hc act w ⟨M,e.trans ⟨le,fun _ _ _ _=>rfl,fun o h1 h2=>?_,fun t b c z hl e=> .inl ⟨hl,c,z,e⟩,fun _ _ h=>(h rfl).elim,zak _,rfl,rfl,rfl⟩,r',fun k=>(ht k).mono le,h1,h2⟩
 simp only[← hw.len]at h2
 exact h1.elim (fun h1=>absurd h2 (Nat.not_lt.2 h1)) fun h1=>(h1 rfl).elim
theorem En {M0 M:Map} {s0 s:St} {w0 w:World} (e:Ext M0 s0 w0 M s w) (le:Le M s (M.eY s.au.length none) {s with au:=s.au++ [some 0]}) :
 Ext M0 s0 w0 (M.eY s.au.length none) {s with au:=s.au++ [some 0]} w:=by
 refine e.trans ⟨le,fun _ _ _ _=>rfl,fun o h1 h2=>h1.elim (fun h1=>absurd h2 (Nat.not_lt.2 h1)) (fun h1=>(h1 rfl).elim),fun t b c z hl eq=>?_,fun _ _ h=>(h rfl).elim,zak _,rfl,rfl,rfl⟩
 obtain⟨k,hk⟩:=hl
 rcases zaE t s.au.length with h|h
 ·refine .inl ⟨⟨k,by rw [zai h]at hk;exact hk⟩,c,z, ?_⟩
  have:(M.eY s.au.length none).be t=M.be t:=by simp[Map.eY];omega
  rw[← this];exact eq
 ·have:=(zac.1 hk).1
  simp at this
  have:t=s.au.length:=by omega
  subst this
  simp[Map.eY]at eq
end
def ay (P:Program) (f:Nat) (args:List D) (s:St) (d:D) (s':St):Prop:=bk P f args s fun x y=>x=d∧y=s'
def oa (n m:Nat) (res:List (Nat×Option (Bool×Nat))) (d:D) (s':St):Exit→Tm→St→Prop
 | .normal,tm,s| .ret,tm,s=>∃ l,bZ res tm s=some l∧Wk ((cd l).fg n m) d∧iF (s.cut n m).ag s'.ag∧(s.cut n m).au=s'.au
 |_,_,_=>False
theorem bk.mT {P:Program} {f:FuncId} {args rj:List D} {s:St} {Q:D→St→Prop} (ha:jM args rj) (h:bk P f rj s Q):bk P f args s Q:=
 fun M w fH r kM hl hr=>h M w fH r kM (by rw[hl,ha.len]) fun i d v e1 e2=>by
  obtain⟨d0,g1,g2⟩:=ha.get e1
  exact g2 _ _ _ (hr i d0 v g1 e2)
theorem bk.ID {P:Program} {f:FuncId} {args:List D} {s:St} {Q Q':D→St→Prop} (h:bk P f args s Q) (hq : ∀ d s1,Q d s1→∃ d' s',Wk d d'∧iF s1.ag s'.ag∧s1.au=s'.au∧Q' d' s'):bk P f args s Q':=
 fun M w fH r kM hl ha=>(h M w fH r kM hl ha).mono fun _ _ ⟨M',d,v,s1,h1,h2,h3,h4,h5⟩=>by
  obtain⟨d',s',g1,g2,g3,g4⟩:=hq d s1 h2
  obtain⟨r',le⟩:=h4.mT g2
  have hs:(⟨s'.ag,s1.au⟩:St)=s':=by rw[g3]
  rw[hs]at r' le
  refine⟨M',d',v,s',h1,g4,h3.trans ⟨le,fun _ _ _ _=>rfl,fun o h1 h2=>?_,fun t b c z hl e=> .inl ⟨by obtain⟨n,hn⟩:=hl;exact⟨n,by rw[g3];exact hn⟩,c,z,e⟩,fun _ _ h=>(h rfl).elim,zak _,rfl,rfl,rfl⟩,r',(g1 _ _ _ h5).mono le⟩
  rw[← g2.len]at h2
  exact h1.elim (fun h1=>absurd h2 (Nat.not_lt.2 h1)) fun h1=>(h1 rfl).elim
theorem ay.intro {P:Program} {f:FuncId} {af:AF} {args:List D} {s:St} {d:D} {s':St} (h0 : ∃ fn,P.funcs[f]? = some fn∧cF P fn=some af) (hl:args.length≤af.ntmps)
 (h : ∀ B:gK,B.s=s→Sem P B af.ntmps af.body (oa s.ag.length s.au.length af.results d s') (ox 0 args) s):ay P f args s d s':=by
 obtain⟨fn,hf,hc⟩:=h0
 refine bk.ID (bk.intro (Q:=fun d1 s1=>Wk d1 d∧iF s1.ag s'.ag∧s1.au=s'.au) hf hc hl fun B hB=>(h B hB).mono fun e tm s1 hr=>?_) fun d1 s1 ⟨h1,h2,h3⟩=>⟨d,s',h1,h2,h3,rfl,rfl⟩
 subst hB
 cases e with
 |normal=>obtain⟨l,h1,h2,h3,h4⟩:=hr;exact⟨l,h1,_,_,zak _,zak _,h2,h3,h4⟩
 |ret=>obtain⟨l,h1,h2,h3,h4⟩:=hr;exact⟨l,h1,_,_,zak _,zak _,h2,h3,h4⟩
 |exit id=>exact hr.elim
 |goto l=>exact hr.elim
 |panic ch=>exact hr.elim
 |outgrown=>exact hr.elim
theorem ay.use {P:Program} {f:FuncId} {args:List D} {s:St} {d:D} {s':St} {Q:D→St→Prop} (h:ay P f args s d s') (hq:Q d s'):bk P f args s Q:=
 bk.mono h fun x y ⟨h1,h2⟩=>by subst h1;subst h2;exact hq
mutual
theorem tQ (os ts:List Nat) : ∀ d,D.ok 0 0 d=true→D.di os ts d=d
 | .junk,_=>by simp[D.di]
 | .int k n,_=>by simp[D.di]
 | .bool b,_=>by simp[D.di]
 | .str l,_=>by simp[D.di]
 | .fJ,_=>by simp[D.di]
 | .val v,_=>by simp[D.di]
 | .gd T o,h=>by simp[D.ok]at h
 | .iC o,h=>by simp[D.ok]at h
 | .dr z o g len,h=>by simp[D.ok]at h
 | .fK o g off,h=>by simp[D.ok]at h
 | .ew z,_=>by simp[D.di]
 | .iL f cs,h=>by
  simp only[D.ok]at h
  simp only[D.di,fN os ts cs h]
 | .ptr o f,h=>by simp[D.ok]at h
 | .dW r f,h=>by
  simp only[D.ok]at h
  simp only[D.di,fN os ts r h]
 | .slice g z rows,h=>by
  simp only[D.ok,zat]at h
  simp only[D.di,kH os ts rows h.2]
  cases g with
  |tok t y=>simp[Tag.ok]at h
  |full=>rfl
  |shared=>rfl
 | .agg cs,h=>by
  simp only[D.ok]at h
  simp only[D.di,fN os ts cs h]
 | .tuple cs,h=>by
  simp only[D.ok]at h
  simp only[D.di,fN os ts cs h]
theorem fN (os ts:List Nat) : ∀ l,D.bJ 0 0 l=true→D.eJ os ts l=l
 | [],_=>by simp[D.eJ]
 |d::r,h=>by
  simp only[D.bJ,zat]at h
  simp only[D.eJ,tQ os ts d h.1,fN os ts r h.2]
theorem kH (os ts:List Nat) : ∀ l,D.jB 0 0 l=true→D.n8 os ts l=l
 | [],_=>by simp[D.n8]
 |d::r,h=>by
  simp only[D.jB,zat]at h
  simp only[D.n8,fN os ts d h.1,kH os ts r h.2]
end
mutual
theorem Kb {n m n' m':Nat} (hn:n≤n') (hm:m≤m') : ∀ d,D.ok n m d=true→D.ok n' m' d=true
 | .junk,_=>rfl
 | .int k n,_=>rfl
 | .bool b,_=>rfl
 | .str l,_=>rfl
 | .fJ,_=>rfl
 | .val v,_=>rfl
 | .gd T o,h=>by simp[D.ok]at h ⊢;omega
 | .iC o,h=>by simp[D.ok]at h ⊢;omega
 | .dr z o g len,h=>by simp[D.ok]at h ⊢;omega
 | .fK o g off,h=>by simp[D.ok]at h ⊢;omega
 | .ew z,_=>rfl
 | .iL f cs,h=>by
  simp only[D.ok]at h ⊢
  exact jW hn hm cs h
 | .ptr o f,h=>by simp only[D.ok,decide_eq_true_eq]at h ⊢;omega
 | .dW r f,h=>by
  simp only[D.ok]at h ⊢
  exact jW hn hm r h
 | .slice g z rows,h=>by
  simp only[D.ok,zat]at h ⊢
  refine⟨?_,oU hn hm rows h.2⟩
  cases g with
  |tok t y=>simp only[Tag.ok,decide_eq_true_eq]at h ⊢;omega
  |full=>rfl
  |shared=>rfl
 | .agg cs,h=>by
  simp only[D.ok]at h ⊢
  exact jW hn hm cs h
 | .tuple cs,h=>by
  simp only[D.ok]at h ⊢
  exact jW hn hm cs h
theorem jW {n m n' m':Nat} (hn:n≤n') (hm:m≤m') : ∀ l,D.bJ n m l=true→D.bJ n' m' l=true
 | [],_=>rfl
 |d::r,h=>by
  simp only[D.bJ,zat]at h ⊢
  exact⟨Kb hn hm d h.1,jW hn hm r h.2⟩
theorem oU {n m n' m':Nat} (hn:n≤n') (hm:m≤m') : ∀ l,D.jB n m l=true→D.jB n' m' l=true
 | [],_=>rfl
 |d::r,h=>by
  simp only[D.jB,zat]at h ⊢
  exact⟨jW hn hm d h.1,oU hn hm r h.2⟩
end
def S0:St:=⟨[],[]⟩
section
variable {P:Program} {f:Nat}
theorem ay.pure {args:List D} {d:D} (h:ay P f args S0 d S0) (ha:D.bJ 0 0 args=true) (hd:D.ok 0 0 d=true) (s:St):ay P f args s d s:=by
 refine bk.frame [] [] h zbP zbP (by simp) (by simp) rfl (by simp) rfl (by simp) (by rw[fN _ _ _ ha]) ha ?_
 rintro _ _ ⟨rfl,rfl⟩
 refine⟨tQ _ _ _ hd, ?_⟩
 simp[St.back,l6,S0]
theorem ay.aai {args row l5:List D} {d:D} (h:ay P f (.ptr 0 0::args) ⟨[row],[]⟩ d ⟨[l5],[]⟩) (ha:D.bJ 0 0 args=true) (hr:D.bJ 0 0 row=true) (Lz:D.bJ 0 0 l5=true) (hd:D.ok 0 0 d=true)
 {s:St} {o:Nat} (ho:s.ag[o]? = some row):ay P f (.ptr o 0::args) s d ⟨s.ag.set o l5,s.au⟩:=by
 refine bk.frame [o] [] h (by simp) zbP (by simpa using (zac.1 ho).1) (by simp) rfl (fun i o' ds e1 e2=>?_) rfl (by simp) (by simp[D.eJ,D.di,fN _ _ _ ha])
  (by simp[D.bJ,D.ok,jW (zaA 1) (zak 0) _ ha]) ?_
 ·cases i with
  |zero=>simp at e1 e2;subst e1;subst e2;exact⟨by rw[fN _ _ _ hr];exact ho,jW (zaA 1) (zak 0) _ hr⟩
  |succ i=>simp at e1
 ·rintro _ _ ⟨rfl,rfl⟩
  refine⟨tQ _ _ _ hd, ?_⟩
  simp[St.back,l6,fN _ _ _ Lz]
end
end Go.Abs
namespace Go.Abs
theorem X.CH {x:X} {tm da:Tm} (h : ∀ t∈x.reads,tm.get t=da.get t):x.ev tm=x.ev da:=by
 cases x with
 |s t=>exact h t (by simp[X.reads])
 |k d=>rfl
theorem IE {t:Nat} {x:X} : ∀ {l:List X},x∈l→t∈x.reads→t∈pI l
 | [],h,_=>by cases h
 |y::r,h,ht=>by
  simp only[pI,zar]
  rcases zaq.1 h with rfl|h
  ·exact .inl ht
  ·exact .inr (IE h ht)
theorem zH {x:Option X} {tm da:Tm} (h : ∀ t∈D1 x,tm.get t=da.get t):x.map (·.ev tm)=x.map (·.ev da):=by
 cases x with
 |none=>rfl
 |some y=>simp only[za9];rw[X.CH h]
theorem zI {α β:Type} {l:List α} {g:α→X} {f:α→D→β} {tm da:Tm} (h : ∀ t∈pI (l.map g),tm.get t=da.get t):(l.map fun p=>f p ((g p).ev tm))=l.map fun p=>f p ((g p).ev da):=
 zbB fun p hp=>by rw[X.CH fun t ht=>h t (IE (zbb hp) ht)]
set_option maxHeartbeats 2000000 in
theorem Gu {o : AO} {tm da : Tm} {s : St} (h : ∀ t ∈ o.reads, tm.get t = da.get t) : bF o tm s = bF o da s := by
 cases o<;>simp only[AO.reads, zar]at h<;>simp only[bF]<;>
   (repeat rw[X.CH (tm := tm) (da := da) fun t ht => h t (by first|exact ht|(simp[ht]; done))])<;>try rfl
 case build => rw[zI (g := fun p : Nat × Nat × X => p.2.2) (f := fun p (d : D) => (p.1, p.2.1, d)) h]
 case rI => rw[zI (g := fun p : Nat × X => p.2) (f := fun p (d : D) => (p.1, d)) h]
 case yk => rw[zI (g := fun p : Nat × X => p.2) (f := fun p (d : D) => (p.1, d)) h]
 case Fq => rw[zI (g := fun x : X => x) (f := fun _ (d : D) => d) (by simpa using h)]
 case WG => rw[zH fun t ht => h t (.inr (.inl ht)), zH fun t ht => h t (.inr (.inr ht))]
 case NV => rw[zH fun t ht => h t (.inr (.inl ht)), zH fun t ht => h t (.inr (.inr ht))]
theorem Q9 {x d:D} {agg:Bool} {size:Nat} {s s':St} (h:Cs x agg size s=some (d,s')):s'=s:=by
 unfold Cs at h
 (repeat' (split at h))<;>first|(cases h;rfl)|cases h
theorem Ra {o:AO} (ho:jh o.kind=false) {tm:Tm} {s s':St} {d:D} (h:bF o tm s=some (d,s')):s'=s:=by
 cases o<;>simp only[AO.kind,jh]at ho<;>first|cases ho|skip
 all_goals
  simp only[bF]at h
  first
   |(cases h;rfl)
   |(repeat' (split at h))<;>first|exact Q9 h|(cases h;rfl)|cases h
theorem Ub {o:AO} (ho:o.kind = .pure) {tm:Tm} {s s':St} : (bF o tm s).map (·.1)=(bF o tm s').map (·.1):=by
 cases o<;>simp only[AO.kind]at ho<;>first|cases ho|skip
 all_goals
  simp only[bF]
  first
   |rfl
   |(repeat' split)<;>rfl
def lH (ai:AI) (tm:Tm) (s:St):Option D:=
 match ai with
 | .op _ none o=>(bF o tm s).map (·.1)
 | .op _ (some (t,want)) o=>
  match tm.get t with
  | .bool b=>if b=want then(bF o tm s).map (·.1)else some (.tuple [])
  | .tuple _=>some (.tuple [])
  |_=>none
 |_=>none
def we (P:Program) (ai:AI) (tm:Tm) (s:St) (d:D) (s':St):Prop:=
 match ai with
 | .op _ g o=>guarded g tm (bF o tm s=some (d,s')) (d = .tuple []∧s'=s)
 | .call _ g f xs=>guarded g tm (bk P f (xs.map (·.ev tm)) s fun x y=>x=d∧y=s') (d = .tuple []∧s'=s)
 | .nil .. =>False
 | .lR .. =>False
def mU (P:Program) (is:List AI) (K:Tm→St→Prop):List (Nat×Nat)→List St→Tm→St→Prop
 | [],_,tm,s=>K tm s
 | (q,b)::r,cf,tm,s=>
  match is[q]? with
  |none=>False
  |some ai=>
   match jh ai.kind with
   |true=>∃ d s',we P ai tm s d s'∧mU P is K r (s::cf) (tm.put ai.dst d) s'
   |false=>∃ d,lH ai tm s=some d∧(ai.kind = .load→∀ s'∈cf.take b,lH ai tm s'=some d)∧mU P is K r cf (tm.put ai.dst d) s
def Tm.eqv (a b:Tm):Prop:=∀ t,a.get t=b.get t
theorem Tm.nB (tm:Tm) (dst:Option Nat) (d:D) (t:Nat):(tm.put dst d).get t=if dst=some t then d else tm.get t:=by
 cases dst with
 |none=>simp[Tm.put]
 |some u=>
  simp only[Tm.put,Tm.Fu,Option.some.injEq]
  by_cases h:t=u
  ·subst h;simp
  ·rw[if_neg h,if_neg (fun e=>h e.symm)]
theorem Tm.eqv.put {a b:Tm} (h:a.eqv b) (dst:Option Nat) (d:D):(a.put dst d).eqv (b.put dst d):=fun t=>by
 rw[Tm.nB,Tm.nB,h t]
theorem Tm.Ow (tm:Tm) {x y:Option Nat} (h : ∀ t,x=some t→y≠some t) (d e:D):((tm.put x d).put y e).eqv ((tm.put y e).put x d):=fun t=>by
 simp only[Tm.nB]
 by_cases h1:x=some t
 ·simp only[h1,h t h1,if_true,if_false]
 ·simp only[h1,if_false]
theorem DC {g:Option (Nat×Bool)} {tm da:Tm} {A A' C:Prop} (h : ∀ t∈ym g,tm.get t=da.get t) (ha:A→A') (hh:guarded g tm A C):guarded g da A' C:=by
 cases g with
 |none=>exact ha hh
 | some p=>
  obtain⟨t,want⟩:=p
  unfold guarded at *
  simp only at *
  rw[← h t (by simp[ym])]
  split
  ·rename_i b hb
   rw[hb]at hh
   exact⟨fun e=>ha (hh.1 e),hh.2⟩
  ·rename_i hb
   rw[hb]at hh
   exact hh
  ·rename_i x h1 h2
   split at hh
   ·exact h1 _ ‹_›
   ·exact h2 _ ‹_›
   ·exact hh
theorem LL {tm da:Tm} : ∀ {l:List X},(∀ t∈pI l,tm.get t=da.get t)→l.map (·.ev tm)=l.map (·.ev da)
 | [],_=>rfl
 |x::r,h=>by
  simp only[zaf]
  rw[X.CH fun t ht=>h t (by simp[pI,ht]),LL (l:=r) fun t ht=>h t (by simp[pI,ht])]
theorem AQ {P:Program} {ai:AI} {tm da:Tm} {s s':St} {d:D} (h : ∀ t∈ai.reads,tm.get t=da.get t) (hh:we P ai tm s d s'):we P ai da s d s':=by
 cases ai with
 |op dst g o=>
  simp only[AI.reads,zar]at h
  exact DC (fun t ht=>h t (.inl ht)) (fun e=>by rw[← Gu fun t ht=>h t (.inr ht)];exact e) hh
 |call dst g f xs=>
  simp only[AI.reads,zar]at h
  exact DC (fun t ht=>h t (.inl ht)) (fun e=>by rw[← LL fun t ht=>h t (.inr ht)];exact e) hh
 |nil dst g n x=>exact hh
 |lR dst g t xs=>exact hh
theorem uj {ai:AI} {tm da:Tm} {s:St} (h : ∀ t∈ai.reads,tm.get t=da.get t):lH ai tm s=lH ai da s:=by
 cases ai with
 | op dst g o=>
  simp only[AI.reads,zar]at h
  have he:=Gu (s:=s) fun t ht=>h t (.inr ht)
  cases g with
  |none=>simp only[lH,he]
  |some p=>
   obtain⟨t,want⟩:=p
   simp only[lH,he,h t (.inl (by simp[ym]))]
 |call dst g f xs=>rfl
 |nil dst g n x=>rfl
 |lR dst g t xs=>rfl
theorem R8 {dst:Option Nat} {g:Option (Nat×Bool)} {o:AO} (h:jh (AI.op dst g o).kind=false):(AI.op dst g o).kind=o.kind:=by
 unfold AI.kind at *
 split at h
 ·cases h
 ·rename_i heq;cases heq;rfl
 ·cases h
theorem aaj {ai:AI} (hk:ai.kind = .pure) {tm:Tm} {s s':St} : lH ai tm s=lH ai tm s':=by
 cases ai with
 |op dst g o=>
  have ho:o.kind = .pure:=by rw[← hk];exact(R8 (by rw[hk];rfl)).symm
  have he:=Ub ho (tm:=tm) (s:=s) (s':=s')
  cases g with
  |none=>simp only[lH,he]
  |some p=>simp only[lH,he]
 |call dst g f xs=>rfl
 |nil dst g n x=>rfl
 |lR dst g t xs=>rfl
theorem apart_spec {a q:AI} (h:a.apart q=true):(∀ t,a.dst=some t→t∉q.reads)∧(∀ t,q.dst=some t→t∉a.reads)∧(∀ t,a.dst=some t→q.dst≠some t):=by
 unfold AI.apart at h
 simp only[zat]at h
 obtain⟨⟨h1,h2⟩,h3⟩:=h
 refine⟨fun t e=>?_,fun t e=>?_,fun t e e'=>?_⟩
 ·rw[e]at h1;simpa[Ii]using h1
 ·rw[e]at h2;simpa[Ii]using h2
 ·rw[e,e']at h3;simp at h3
theorem wg {tm:Tm} {dst:Option Nat} {d:D} {l:List Nat} (h : ∀ t,dst=some t→t∉l) : ∀ t∈l,tm.get t=(tm.put dst d).get t:=fun t ht=>by
 rw[Tm.nB,if_neg fun e=>h t e ht]
section
variable {P:Program} {is:List AI} {K:Tm→St→Prop}
theorem wh (hK : ∀ tm da s,Tm.eqv tm da→K tm s→K da s) : ∀ (R:List (Nat×Nat)) (cf:List St) (tm da:Tm) (s:St),tm.eqv da→mU P is K R cf tm s→mU P is K R cf da s
 | [],_,tm,da,s,e,h=>hK tm da s e h
 | (q,b)::R,cf,tm,da,s,e,h=>by
  unfold mU at *
  split at h
  ·exact h.elim
  ·rename_i ai zE
   split at h
   ·rename_i hc
    obtain⟨d,s',h1,h2⟩:=h
    exact⟨d,s',AQ (fun t _=>e t) h1,wh hK R _ _ _ _ (e.put _ d) h2⟩
   ·rename_i hc
    obtain⟨d,h1,h2,h3⟩:=h
    refine⟨d, ?_,fun hl s' rL=>?_,wh hK R _ _ _ _ (e.put _ d) h3⟩
    ·rw[← uj fun t _=>e t];exact h1
    ·rw[← uj fun t _=>e t];exact h2 hl s' rL
theorem Ox (i:Nat) (l:List Nat):lh is (i::l)=(if jh (kF is i)then 1 else 0)+lh is l:=by
 unfold lh
 rw[List.filter_cons]
 split<;>simp<;>omega
theorem AR (hK : ∀ tm da s,Tm.eqv tm da→K tm s→K da s) {q b:Nat} {ai:AI} (hq:is[q]? = some ai) (hm:jh ai.kind=false) (Y:List (Nat×Nat)) :
 ∀ (X:List (Nat×Nat)) (cf:List St) (tm:Tm) (s:St),(∀ a∈X,nr is a.1 q=true)→(ai.kind = .load→lh is (X.map (·.1))≤b)→
  mU P is K (X++(q,b)::Y) cf tm s→
  ∃ d,lH ai tm s=some d∧(ai.kind = .load→∀ s'∈cf.take (b - lh is (X.map (·.1))),lH ai tm s'=some d)∧mU P is K (X++Y) cf (tm.put ai.dst d) s
 | [],cf,tm,s,_,_,h=>by
  simp only[za1,mU,hq,hm]at h
  obtain⟨d,h1,h2,h3⟩:=h
  exact⟨d,h1,fun hl s' rL=>h2 hl s' (by simpa[lh]using rL),h3⟩
 | (a,c)::X,cf,tm,s,dc,hb,h=>by
  have Uc:=dc (a,c) (by simp)
  unfold nr at Uc
  split at Uc
  ·rename_i ia iq hia xE
   rw[hq]at xE
   cases xE
   obtain⟨p1,p2,p3⟩:=apart_spec Uc
   have LH:kF is a=ia.kind:=by simp[kF,hia]
   have Ny : ∀ x∈X,nr is x.1 q=true:=fun x hx=>dc x (zan _ hx)
   rw[zaf,Ox,LH]at hb ⊢
   simp only[zaV,mU,hia]at h ⊢
   cases hc:jh ia.kind
   ·simp only [hc,zab,if_false,zaS]at h hb ⊢
    obtain⟨d,h1,h2,h3⟩:=h
    obtain⟨e,g1,g2,g3⟩:=AR hK hq hm Y X cf _ s Ny hb h3
    have cg : ∀ s,lH ai tm s=lH ai (tm.put ia.dst d) s:=fun s=>uj (wg p1)
    have cg' : ∀ s,lH ia tm s=lH ia (tm.put ai.dst e) s:=fun s=>uj (wg p2)
    refine⟨e,by rw[cg];exact g1,fun hl s' rL=>by rw[cg];exact g2 hl s' rL,d,by rw[← cg'];exact h1,fun hl s' rL=>by rw[← cg'];exact h2 hl s' rL, ?_⟩
    exact wh hK _ _ _ _ _ (Tm.Ow tm p3 d e) g3
   ·simp only [hc,if_true]at h hb ⊢
    obtain⟨d,s1,h1,h3⟩:=h
    obtain⟨e,g1,g2,g3⟩:=AR hK hq hm Y X (s::cf) _ s1 Ny (fun hl=>by have:=hb hl;omega) h3
    have cg : ∀ s,lH ai tm s=lH ai (tm.put ia.dst d) s:=fun s=>uj (wg p1)
    have oz:lH ai tm s=some e:=by
     cases hk:ai.kind with
     |pure=>rw[cg,aaj hk (s':=s1)];exact g1
     |load=>
      have:=hb hk
      rw[cg]
      refine g2 hk s ?_
      rw[show b - lh is (X.map (·.1))=(b - (1+lh is (X.map (·.1))))+1 by omega,List.take_succ_cons]
      exact zaz
     |alloc=>rw[hk]at hm;cases hm
     |core=>rw[hk]at hm;cases hm
    refine⟨e,oz,fun hl s' rL=>?_,d,s1,AQ (wg p2) h1,wh hK _ _ _ _ _ (Tm.Ow tm p3 d e) g3⟩
    have:=hb hl
    rw[cg]
    refine g2 hl s' ?_
    rw[show b - lh is (X.map (·.1))=(b - (1+lh is (X.map (·.1))))+1 by omega,List.take_succ_cons]
    exact zan _ rL
  ·cases Uc
end
end Go.Abs
namespace Go.Abs
section
variable {P:Program}
theorem Xd {o:Oper} {z:List D} (h:Io P o=some (.alloc z)) : ∃ t,o.op = .alloc t∧zeroOf P t=some z:=by
 obtain⟨dst,op,type,pos,after,guard⟩:=o
 unfold Io at h
 simp only at h
 split at h
 case h_4 t=>
  split at h
  ·obtain⟨z',h1,h2⟩:=map_some h;cases h2
  ·obtain⟨z',h1,h2⟩:=map_some h;cases h2;exact⟨t,rfl,h1⟩
 all_goals
  first
   |(rw[zaw]at h;obtain⟨_,_,h⟩:=h;cases h)
   |skip
 all_goals
  (repeat' (split at h))<;>first|(cases h;done)|(rw[zaw]at h;obtain⟨_,_,h⟩:=h;cases h)
theorem Eo {nt:Nat} {ops:Array Oper} {o:Oper} {ai:AI} (h:cI P nt ops o=some ai) :
 ∃ g,yn ops o.guard=some g∧(∀ t,o.dst=some t→t<nt)∧v7 P ops o g=some ai:=by
 have h2:=yx h
 unfold cI at h
 split at h
 ·cases h
 ·rename_i g hg
  split at h
  ·exact⟨g,hg,h2,h⟩
  ·cases h
theorem wN {ops:Array Oper} {o:Oper} {g:Option (Nat×Bool)} {ai:AI} (h:v7 P ops o g=some ai):ai.dst=o.dst:=by
 unfold v7 at h
 split at h
 ·split at h
  ·obtain⟨xs,_,rfl⟩:=map_some h;rfl
  ·cases h
 ·obtain⟨xs,_,rfl⟩:=map_some h;rfl
 ·split at h
  ·cases h;rfl
  ·split at h
   ·cases h;rfl
   ·cases h;rfl
   ·cases h
theorem uk {nt:Nat} {ops:Array Oper} {o:Oper} {ai:AI} (h:cI P nt ops o=some ai):ai.dst=o.dst:=by
 obtain⟨g,_,_,h⟩:=Eo h
 exact wN h
theorem wi {nt:Nat} {ops:Array Oper} {i:Nat} {o:Oper} {ai:AI} (hi:ops[i]? = some o) (hc:cI P nt ops o=some ai)
 {M:Map} {s:St} {w:World} {tm:Tm} {act:Act} (r:Rel M s w) (kM:Laid M s w) (ht:oo M s tm act.tmps) {K':Tm→St→Prop} (h:jA P [ai] K' tm s)
 {K:Act→World→Prop} {Q:Exit→Act→World→Prop}
 (hK : ∀ d v s1 w1 M1,K' (tm.put ai.dst d) s1→Ext M s w M1 s1 w1→Rel M1 s1 w1→RD M1 s1 d v→K (act.put o.dst v) w1):wpOp P ops Q i K act w:=by
 obtain⟨g,hg,_,hb⟩:=Eo hc
 rw[wN hb]at hK
 simp only[wpOp,hi]
 have skip:K' (tm.put o.dst (.tuple [])) s→K (act.put o.dst Go.undef) w:=fun hk=>hK _ _ _ _ _ hk (Ext.refl M s w) r .undef
 unfold v7 at hb
 split at hb
 ·rename_i f args pe pd
  split at hb
  ·rename_i oT
   obtain⟨xs,ri,rfl⟩:=map_some hb
   simp only[jA]at h
   rcases lV hg ht h with ⟨hw,hA⟩|⟨hw,hB⟩
   ·simp only [hw,if_true]
    left
    have hex:(execOp act.eval o).run P w = .ok (.enter f (args.map act.eval)) w:=by
     obtain⟨dst,op,type,pos,after,guard⟩:=o
     simp only at pd
     subst pd
     exact AH act.eval dst f args pe type pos after guard rfl oT w
    obtain⟨c1,c2⟩:=zD ht ri
    unfold Oper.wp
    rw[hex,Oper.upon_enter]
    refine(hA M w (args.map act.eval) r kM (by simp[c1]) (fun i d v e1 e2=>c2 i d v e1 (by simpa using e2))).mono ?_
    rintro en w' ⟨M',d,v,s',rfl,hk,e',r',hv⟩
    exact hK _ _ _ _ _ hk e' r' hv
   ·simp only [hw]
    exact skip hB
  ·cases hb
 ·rename_i t args pe pd
  obtain⟨xs,ri,rfl⟩:=map_some hb
  simp only[jA]at h
  rcases lV hg ht h with ⟨hw,hA⟩|⟨hw,hB⟩
  ·simp only [hw,if_true]
   left
   split at hA
   ·rename_i f qp kP
    obtain⟨oT,hA⟩:=hA
    have W4:=ht t
    rw[kP]at W4
    obtain⟨vs,nh,hlen,Iy⟩:=W4.R3
    have hex:(execOp act.eval o).run P w = .ok (.enter f (args.map act.eval++vs)) w:=by
     obtain⟨dst,op,type,pos,after,guard⟩:=o
     simp only at pd
     subst pd
     exact Ej act.eval dst (.tmp t) f vs args pe type pos after guard nh oT w
    have cc:=LJ ri ht hlen Iy
    unfold Oper.wp
    rw[hex,Oper.upon_enter]
    refine(hA M w (args.map act.eval++vs) r kM cc.1 cc.2).mono ?_
    rintro en w' ⟨M',d,v,s',rfl,hk,e',r',hv⟩
    exact hK _ _ _ _ _ hk e' r' hv
   ·exact hA.elim
  ·simp only [hw]
   exact skip hB
 ·split at hb
  ·rename_i neg x AJ
   cases hb
   simp only[jA]at h
   rcases lV hg ht h with ⟨hw,hA⟩|⟨hw,hB⟩
   ·simp only [hw,if_true]
    left
    split at hA
    ·rename_i g' z rows hx
     obtain⟨b,hb,hex⟩:=Dz (w:=w) AJ ht hx
     unfold Oper.wp
     rw[hex,Oper.upon_value]
     exact hK _ _ _ _ _ (hA b hb) (Ext.refl M s w) r (.bool _)
    ·exact hA.elim
   ·simp only [hw]
    exact skip hB
  ·have fin : ∀ ao,ai = .op o.dst g ao→(∀ d s',bF ao tm s=some (d,s')→dt P M s w (execOp act.eval o) d s')→
    (if Region.wanted o (yielded ops act.tmps)=true then o.wp P act w K Q∨(o.asks P act w∧LetsOut Q)else K (act.put o.dst Go.undef) w):=by
    intro ao zE Ol
    subst zE
    simp only[jA]at h
    rcases lV hg ht h with ⟨hw,hA⟩|⟨hw,hB⟩
    ·simp only [hw,if_true]
     left
     split at hA
     ·rename_i d s' qM
      obtain⟨v,w',M',ek,r',hv,e'⟩:=Ol d s' qM
      unfold Oper.wp
      rcases ek with ek|⟨ek,rfl⟩
      ·rw [ek,Oper.upon_value]
       exact hK _ _ _ _ _ hA e' r' hv
      ·rw [ek,Oper.upon_skip]
       exact hK _ _ _ _ _ hA e' r' hv
     ·exact hA.elim
    ·simp only [hw]
     exact skip hB
   split at hb
   ·rename_i z k n ps qN
    cases hb
    refine fin _ rfl (fun d s' qM=>?_)
    split at qM
    ·exact CC qN r ht qM
    ·exact wc qN r ht qM
   ·rename_i ao qN
    cases hb
    exact fin _ rfl (fun d s' qM=>wc qN r ht qM)
   ·cases hb
structure R9 (M:Map) (s:St) (b:Nat):Prop where
 o : ∀ o,o<s.ag.length→M.mu o≠b
 t : ∀ t c z,s.live t→M.be t≠some (b,c,z)
 g : ∀ off,M.G b off=none
theorem R9.mono {M M':Map} {s s':St} {w w':World} {b:Nat} (h:R9 M s b) (e:Ext M s w M' s' w') (hb:b<w.heap.size):R9 M' s' b:=by
 refine⟨fun o ho=>?_,fun t c z hl he=>?_,fun off=>?_⟩
 ·rcases e.mo ho with ⟨h1,h2⟩ | h1
  ·rw[h2];exact h.o o h1
  ·omega
 ·rcases e.rH t b c z hl he with ⟨h1,c',z',h2⟩ | h1
  ·exact h.t t c' z' h1 h2
  ·omega
 ·by_cases hg:M'.G b off=M.G b off
  ·rw[hg];exact h.g off
  ·rcases e.uE b off hg with h1 | ⟨t,c,z,h1,h2⟩
   ·omega
   ·exact(h.t t c z h1 h2).elim
theorem Rel.idle {M:Map} {s:St} {w:World} (r:Rel M s w) (x:Obj):Rel M s (w.alloc x)∧Ext M s w M s (w.alloc x)∧R9 M s w.heap.size:=by
 refine⟨⟨fun b o v e=>?_,fun o ds e=>?_,r.kU,r.inj,fun t n e=>?_,r.fL,r.gS⟩, ?_,⟨fun o ho=>?_,fun t c z hl e=>?_,fun off=>r.Nw (zak _) off⟩⟩
 ·obtain⟨h3,h4⟩:=r.comm b o v e
  refine⟨?_,h4⟩
  rw[World.cell?_alloc_lt]
  ·exact h3
  ·exact r.D7 e
 ·obtain⟨vs,T,h3,h4,h5,h6⟩:=r.obj o ds e
  exact⟨vs,T,h3.keep (heap_alloc_old w _ _ h3.lt),h4,h5,h6⟩
 ·rcases r.tok t n e with h3 | ⟨b,cap,size,gf,T',h3,h4,h5⟩
  ·exact .inl h3
  ·exact .inr ⟨b,cap,size,gf,T',h3,by rw[heap_alloc_old w _ _ (lT h4)];exact h4,h5⟩
 ·exact⟨Le.refl M s,fun b hb _ _=>heap_alloc_old w _ b hb,fun o h3 h4=>by rcases h3 with h3|h3;omega;exact(h3 rfl).elim,fun t b c z h e=> .inl ⟨h,c,z,e⟩,fun _ _ h=>(h rfl).elim,by simp,rfl,rfl,rfl⟩
 ·have:=r.tz ho;omega
 ·have:=r.v8 hl e;omega
theorem Rel.alZ {M:Map} {s:St} {w:World} (r:Rel M s w) {B:gK} (e:Ext B.M B.s B.w M s w) {b:Nat} (u:R9 M s b) (hb:B.w.heap.size≤b)
 (ds:List D) (vs:Array Value) (T:TypeId) (hh:w.heap[b]? = some (.cells vs T (0,0))) (hl:vs.size=ds.length) (h1 : ∀ v∈vs,v.oneCell'=true)
 (h2 : ∀ (i:Nat) (d:D) (v:Value),ds[i]? = some d→vs[i]? = some v→RD M s d v) :
 Rel (M.eD s.ag.length b) {s with ag:=s.ag++ [ds]} w∧Ext B.M B.s B.w (M.eD s.ag.length b) {s with ag:=s.ag++ [ds]} w∧
 Le M s (M.eD s.ag.length b) {s with ag:=s.ag++ [ds]}:=by
 have le:=vC (M:=M) s b ds
 have pL : ∀ o,o<s.ag.length→(M.eD s.ag.length b).mu o=M.mu o:=fun o ho=>congrArg Prod.fst (wC M b .any ho)
 have dF:(M.eD s.ag.length b).mu s.ag.length=b:=by simp[Map.eD,Map.mu]
 refine⟨⟨r.comm,fun o qi e'=>?_,fun o ho off=>?_,fun o o' ho nF e'=>?_,r.tok,fun t b' c z o hl e' ho=>?_,r.gS⟩, ?_,le⟩
 ·rcases zaE o s.ag.length with ho | ho
  ·rw [zai ho]at e'
   obtain⟨gf,T',h3,h4,h5,h6⟩:=r.obj o qi e'
   refine⟨gf,T', ?_,h4,⟨h5.1,by rw[le.ty o ho];exact h5.2⟩,fun i d v e1 e2=>(h6 i d v e1 e2).mono le⟩
   rw[wC M b .any ho];exact h3
  ·rw [zao ho]at e'
   have:o=s.ag.length:=by
    have:=(zac.1 e').1
    simp at this;omega
   subst this
   simp at e';subst e'
   refine⟨vs,T, ?_,hl,⟨h1,fun T' h=>by simp[Map.eD,Map.ty,Ob.ty?]at h⟩,fun i d v e1 e2=>(h2 i d v e1 e2).mono le⟩
   have hl:(M.eD s.ag.length b).loc s.ag.length=(b, .any):=by simp[Map.eD]
   rw[hl];exact jR.of hh trivial
 ·simp at ho
  rcases zaE o s.ag.length with h3|h3
  ·rw[pL o h3];exact r.kU o h3 off
  ·have:o=s.ag.length:=by omega
   subst this
   rw[dF];exact u.g off
 ·simp at ho nF
  rcases zaE o s.ag.length with h3|h3<;>rcases zaE o' s.ag.length with h4|h4
  ·rw[pL o h3,pL o' h4]at e';exact r.inj o o' h3 h4 e'
  ·have:o'=s.ag.length:=by omega
   subst this
   rw[pL o h3,dF]at e'
   exact(u.o o h3 e').elim
  ·have:o=s.ag.length:=by omega
   subst this
   rw[pL o' h4,dF]at e'
   exact(u.o o' h4 e'.symm).elim
  ·omega
 ·simp at ho
  rcases zaE o s.ag.length with h3|h3
  ·rw[pL o h3];exact r.fL t b' c z o hl e' h3
  ·have:o=s.ag.length:=by omega
   subst this
   rw[dF]
   intro he
   subst he
   exact u.t t c z hl e'
 ·refine⟨e.le.trans le,e.kept,fun o h3 h4=> ?_,e.rH,e.uE,e.size,e.os,e.tape,e.output⟩
  simp at h4
  rcases zaE o s.ag.length with h5|h5
  ·rw[pL o h5]at h3 ⊢;exact e.vz o h3 h5
  ·have:o=s.ag.length:=by omega
   subst this
   rw[dF];exact hb
theorem Rb {nt:Nat} {ops:Array Oper} {i:Nat} {o:Oper} {t:Nat} {z:List D} (hi:ops[i]? = some o) (hc:cI P nt ops o=some (.op (some t) none (.alloc z)))
 {w:World} {act:Act} {K:Act→World→Prop} {Q:Exit→Act→World→Prop}
 (hK : ∀ vs T,vs.size=z.length→(∀ v∈vs,v.oneCell'=true)→(∀ (M:Map) (s:St) (i:Nat) (d:D) (v:Value),z[i]? = some d→vs[i]? = some v→RD M s d v)→
  K (act.put (some t) (.pointer (some ⟨w.heap.size,0,none⟩))) (w.alloc (.cells vs T))):wpOp P ops Q i K act w:=by
 obtain⟨g,hg,_,hb⟩:=Eo hc
 have tO:=wN hb
 simp only[AI.dst]at tO
 simp only[wpOp,hi]
 have pd:g=none∧Io P o=some (.alloc z):=by
  unfold v7 at hb
  split at hb
  ·split at hb
   ·obtain⟨xs,_,h⟩:=map_some hb;cases h
   ·cases hb
  ·obtain⟨xs,_,h⟩:=map_some hb;cases h
  ·split at hb
   ·cases hb
   ·split at hb
    ·rename_i qN
     simp only[Option.some.injEq,AI.op.injEq]at hb
     obtain⟨_,_,h⟩:=hb
     split at h<;>cases h
    ·rename_i ao qN
     simp only[Option.some.injEq,AI.op.injEq]at hb
     obtain⟨_,h1,h2⟩:=hb
     subst h2
     exact⟨h1,qN⟩
    ·cases hb
 obtain⟨rfl,qN⟩:=pd
 obtain⟨T,hT,hz⟩:=Xd qN
 have hw:Region.wanted o (yielded ops act.tmps)=true:=by
  have:o.guard=none:=by
   cases Lx:o.guard with
   |none=>rfl
   |some p=>
    obtain⟨j,b⟩:=p
    rw[Lx]at hg
    unfold yn at hg
    simp only at hg
    split at hg<;>cases hg
  simp[Region.wanted,this]
 simp only[hw,if_true]
 left
 unfold zeroOf at hz
 split at hz
 ·rename_i inf TX
  split at hz
  ·rename_i v hv
   split at hz
   ·have ek:(execOp act.eval o).run P w = .ok (.value (.pointer (some ⟨w.heap.size,0,none⟩))) (w.alloc (.cells v.cells T)):=by
     obtain⟨dst,op,type,pos,after,guard⟩:=o
     simp only at hT
     subst hT
     simp[execOp,Instr.alloc,zeroValue,iE P TX,hv,newVar,newRow]
    have h3:=fun M s=>ny (M:=M) (s:=s) hz
    obtain⟨h1,h2,_⟩:=h3 ⟨fun _ _=>none,fun _=>(0, .any),fun _=>none⟩ ⟨[],[]⟩
    unfold Oper.wp
    rw[ek,Oper.upon_value, ← tO]
    exact hK _ _ (by rw[h1];simp) (fun u hu=>h2 u (by simpa using hu)) (fun M s i d u e1 e2=>(h3 M s).2.2 i d u e1 (by simpa using e2))
   ·cases hz
  ·cases hz
 ·cases hz
end
end Go.Abs
namespace Go.Abs
section
variable {is:List AI} {af pt:List (List Nat)}
theorem DD {pq:List Nat} {l l':List Nat} (h:l'.Sublist l) (hb:ng is pq l=true):ng is pq l'=true:=by
 induction h with
 |slnil=>rfl
 |cons a h ih=>
  simp only[ng,zat]at hb
  exact ih hb.2
 |cons_cons a h ih=>
  simp only[ng,zat,zaD]at hb ⊢
  refine⟨hb.1.imp id fun h1=>?_,ih hb.2⟩
  rw[za3]at h1 ⊢
  exact fun x hx=>h1 x (h.subset hx)
theorem FB {f:Nat→Bool} {l l':List Nat} (h:l'.Sublist l) (ha:l.all f=true):l'.all f=true:=by
 rw[za3]at ha ⊢
 exact fun x hx=>ha x (h.subset hx)
theorem Rc {l l':List Nat} (h:l'.Sublist l):lh is l'≤lh is l:=(h.filter _).length_le
theorem Ud {pre Kc:List Nat} {q b:Nat} (h:Kc.Sublist pre) (hs:rJ is pt pre q b=true):rJ is pt Kc q b=true:=by
 unfold rJ at *
 split at hs
 ·exact FB h hs
 ·exact FB h hs
 ·simp only [zat]at hs ⊢
  exact⟨FB h hs.1,DD h hs.2⟩
 ·simp only [zat,decide_eq_true_eq]at hs ⊢
  exact⟨⟨FB h hs.1.1,DD h hs.1.2⟩,zaZ (Rc (h.filter _)) hs.2⟩
theorem Oy : ∀ {R:List (Nat×Nat)} {pre Kc:List Nat},Kc.Sublist pre→xw is af pt pre R=true→xw is af pt Kc R=true
 | [],_,_,_,_=>rfl
 |(q,b)::R,pre,Kc,h,ho=>by
  simp only[xw,zat,zaL]at ho ⊢
  obtain⟨⟨⟨h1,h2⟩,h3⟩,h4⟩:=ho
  refine⟨⟨⟨Ud h h1, ?_⟩,h3⟩,Oy (h.cons_cons q) h4⟩
  rw[← zbH,zbg]at h2 ⊢
  exact fun hm=>h2 (h.subset hm)
theorem Kd : ∀ {X:List (Nat×Nat)} {e:Nat×Nat} {Y:List (Nat×Nat)} {pre:List Nat},xw is af pt pre (X++e::Y)=true→xw is af pt pre (X++Y)=true
 | [],(q,b),Y,pre,h=>by
  simp only[za1,xw,zat]at h
  exact Oy (List.sublist_cons_self q pre) h.2
 |(a,c)::X,e,Y,pre,h=>by
  simp only[zaV,xw,zat]at h ⊢
  obtain⟨⟨⟨h1,h2⟩,h3⟩,h4⟩:=h
  refine⟨⟨⟨h1,h2⟩, ?_⟩,Kd h4⟩
  rw[za3]at h3 ⊢
  intro j hj
  have:=h3 j hj
  simp only[zat,zaL]at this ⊢
  refine⟨this.1, ?_⟩
  have h5:=this.2
  rw[← zbH,zbg]at h5 ⊢
  refine fun hm=>h5 ?_
  simp only[zag,zaf,zar,zaq]at hm ⊢
  exact hm.imp id .inr
theorem wO : ∀ {X:List (Nat×Nat)} {q b:Nat} {Y:List (Nat×Nat)} {pre:List Nat},xw is af pt pre (X++(q,b)::Y)=true→
 rJ is pt ((X.map (·.1)).reverse++pre) q b=true∧q∉X.map (·.1)∧q∉pre∧(∀ j∈jJ af q,j≠q∧j∉Y.map (·.1))∧xw is af pt (q::((X.map (·.1)).reverse++pre)) Y=true
 | [],q,b,Y,pre,h=>by
  simp only[za1,xw,zat,zaL]at h
  obtain⟨⟨⟨h1,h2⟩,h3⟩,h4⟩:=h
  rw[← zbH,zbg]at h2
  refine⟨h1,by simp,h2,fun j hj=>?_,h4⟩
  rw[za3]at h3
  have:=h3 j hj
  simp only[zat,bne_iff_ne,zaL, ← zbH,zbg]at this
  exact this
 |(a,c)::X,q,b,Y,pre,h=>by
  simp only[zaV,xw,zat]at h
  obtain⟨_,h4⟩:=h
  obtain⟨g1,g2,g3,g4,g5⟩:=wO h4
  simp only[zaf,List.reverse_cons,zaB,List.singleton_append]
  refine⟨g1, ?_,fun h=>g3 (zan _ h),g4,g5⟩
  intro hm
  rcases zaq.1 hm with rfl|hm
  ·exact g3 (by simp)
  ·exact g2 hm
theorem FC : ∀ {Y:List (Nat×Nat)} {pre:List Nat},xw is af pt pre Y=true→∀ x∈Y,x.1∉pre∧(kF is x.1 = .alloc→∀ a∈pre,nr is a x.1=true)
 | [],_,_,x,hx=>by cases hx
 | (q,b)::Y,pre,h,x,hx=>by
  simp only[xw,zat,zaL]at h
  obtain⟨⟨⟨h1,h2⟩,_⟩,h4⟩:=h
  rw[← zbH,zbg]at h2
  rcases zaq.1 hx with rfl|hx
  ·refine⟨h2,fun hk a ha=> ?_⟩
   unfold rJ at h1
   simp only[hk]at h1
   rw[za3]at h1
   exact h1 a ha
  ·obtain⟨g1,g2⟩:=FC h4 x hx
   exact⟨fun h=>g1 (zan _ h),fun hk a ha=>g2 hk a (zan _ ha)⟩
theorem Gv : ∀ {n:Nat},Bm af pt n=true→∀ i,i<n→∀ j∈jJ pt i,j∈jJ af i∨∃ k∈jJ af i,j∈jJ pt k
 | 0,_,i,hi=>by omega
 | n+1,h,i,hi=>by
  simp only[Bm,zat]at h
  rcases zaE i n with h1|h1
  ·exact Gv h.2 i h1
  ·have:i=n:=by omega
   subst this
   intro j hj
   have:=h.1
   rw[za3]at this
   have:=this j hj
   simp only[zaD,zbg,List.any_eq_true]at this
   exact this
theorem BD {pq:List Nat} : ∀ {l:List Nat},ng is pq l=true→∀ (x:Nat) (l1 l2:List Nat),l=l1++x::l2→kF is x = .alloc→x∈pq→∀ y∈l2,y∈pq
 | [],_,x,l1,l2,h=>by simp at h
 | a::l,hb,x,l1,l2,h=>by
  simp only[ng,zat,zaD,zaL,Bool.and_eq_false_iff]at hb
  intro hk hx y hy
  cases l1 with
  | nil=>
   simp only[za1,List.cons.injEq]at h
   obtain⟨rfl,rfl⟩:=h
   rcases hb.1 with h1|h1
   ·rcases h1 with h1 | h1
    ·simp[hk]at h1
    ·rw [← zbH,zbg]at h1
     exact(h1 hx).elim
   ·rw [za3]at h1
    have:=h1 y hy
    rwa [zbg]at this
  |cons b l1=>
   simp only[zaV,List.cons.injEq]at h
   exact BD hb.2 x l1 l2 h.2 hk hx y hy
end
structure Pd where
 q:Nat
 t:Nat
 z:List D
 b:Nat
structure ahI (is:List AI) (R:List (Nat×Nat)) (B:gK) (M:Map) (s:St) (act:Act) (w:World) (p:Pd):Prop where
 mem:p.q∈R.map (·.1)
 ai:is[p.q]? = some (.op (some p.t) none (.alloc p.z))
 cells : ∃ (vs:Array Value) (T:TypeId),w.heap[p.b]? = some (.cells vs T (0,0))∧vs.size=p.z.length∧(∀ v∈vs,v.oneCell'=true)∧
  ∀ (M:Map) (s:St) (i:Nat) (d:D) (v:Value),p.z[i]? = some d→vs[i]? = some v→RD M s d v
 unk:R9 M s p.b
 base:B.w.heap.size≤p.b
 slot:act.tmps.getD p.t Go.undef = .pointer (some ⟨p.b,0,none⟩)
def CI (P:Program) (is:List AI) (K:Tm→St→Prop) (B:gK) (nt:Nat) (R:List (Nat×Nat)) (eZ:List Pd) (act:Act) (w:World):Prop:=
 ∃ (M:Map) (s:St) (tm wP:Tm) (cf:List St),Ext B.M B.s B.w M s w∧Rel M s w∧oo M s wP act.tmps∧(∀ t,(∀ p∈eZ,p.t≠t)→wP.get t=tm.get t)∧
  act.tmps.size=nt∧act.defers = []∧mU P is K R cf tm s∧(∀ p∈eZ,ahI is R B M s act w p)∧
  (∀ p∈eZ,∀ p'∈eZ,p.q=p'.q∨p.t=p'.t∨p.b=p'.b→p=p')
structure uN (is:List AI) (af pt:List (List Nat)) (dQ:Array Bool) (R:List (Nat×Nat)) (eZ:List Pd):Prop where
 ok:xw is af pt [] R=true
 LM : ∀ i,i<is.length→(dQ.getD i false=true↔(i∉R.map (·.1)∨∃ p∈eZ,p.q=i))
 cl : ∀ i,i<is.length→dQ.getD i false=true→∀ j∈jJ pt i,dQ.getD j false=true
 size:dQ.size=is.length
 lt : ∀ x∈R,x.1<is.length
section
variable {P:Program} {is:List AI} {af pt:List (List Nat)} {K:Tm→St→Prop} {B:gK} {nt:Nat}
theorem ahJ {dQ:Array Bool} {q b:Nat} {R:List (Nat×Nat)} {eZ:List Pd} {act:Act} {w:World} (hs:uN is af pt dQ ((q,b)::R) eZ) (h:CI P is K B nt ((q,b)::R) eZ act w)
 {p:Pd} (hp:p∈eZ) (xF:p.q=q) :
 uN is af pt dQ R (eZ.filter fun p'=>decide (p'.q≠q))∧CI P is K B nt R (eZ.filter fun p'=>decide (p'.q≠q)) act w:=by
 have iJ : ∀ p',p'∈(eZ.filter fun p'=>decide (p'.q≠q))↔p'∈eZ∧p'.q≠q:=fun p'=>by simp
 constructor
 ·have qj:=hs.ok
  have Hk:=wO (X:= []) qj
  refine⟨Kd (X:= []) qj,fun i hi=>?_,hs.cl,hs.size,fun x hx=>hs.lt x (zan _ hx)⟩
  rw[hs.LM i hi]
  simp only[zaf,zaq,not_or]
  have hqR:q∉R.map (·.1):=fun hm=>by
   obtain⟨x,hx,rfl⟩:=zaG.1 hm
   exact(FC Hk.2.2.2.2 x hx).1 (by simp)
  constructor
  ·rintro(⟨h1,h2⟩ | ⟨p',h1,h2⟩)
   ·exact .inl h2
   ·by_cases hq:i=q
    ·subst hq;exact .inl hqR
    ·exact .inr ⟨p',(iJ p').2 ⟨h1,by rw[h2];exact hq⟩,h2⟩
  ·rintro(h1 | ⟨p',h1,h2⟩)
   ·by_cases hq:i=q
    ·subst hq;exact .inr ⟨p,hp,xF⟩
    ·exact .inl ⟨hq,h1⟩
   ·exact .inr ⟨p',((iJ p').1 h1).1,h2⟩
 ·obtain⟨M,s,tm,wP,cf,e,r,ht,oz,hn,hd,hg,zJ,wj⟩:=h
  have hk:=zJ p hp
  obtain⟨vs,T,hh,hl,h1,h2⟩:=hk.cells
  have zE:=hk.ai
  rw[xF]at zE
  simp only[mU,zE,AI.kind,jh]at hg
  obtain⟨d,s',gG,hg⟩:=hg
  have qM:bF (.alloc p.z) tm s=some (d,s'):=gG
  simp only[bF,Option.some.injEq,Prod.mk.injEq]at qM
  obtain⟨rfl,rfl⟩:=qM
  obtain⟨r',e',le⟩:=r.alZ e hk.unk hk.base p.z vs T hh hl h1 (h2 M s)
  refine⟨_,_,_,wP.put (some p.t) (.ptr s.ag.length 0),_,e',r',fun u=>?_,fun t Oz=>?_,hn,hd,hg,fun p' pG=>?_,fun p1 h1 p2 h2=>wj p1 ((iJ p1).1 h1).1 p2 ((iJ p2).1 h2).1⟩
  ·rw [Tm.nB]
   split
   ·rename_i heq
    cases heq
    rw[hk.slot]
    have:(M.eD s.ag.length p.b).mu s.ag.length=p.b:=by simp[Map.eD,Map.mu]
    have h5:=RD.ptr (M:=M.eD s.ag.length p.b) (s:= {s with ag:=s.ag++ [p.z]}) s.ag.length 0 (by simp) (by simp[Map.eD,Map.ob,Ob.plain])
    rw[this]at h5
    exact h5
   ·exact(ht u).mono le
  ·simp only [AI.dst]
   rw[Tm.nB,Tm.nB]
   split
   ·rfl
   ·rename_i dj
    refine oz t fun p' pG=>?_
    by_cases hq:p'.q=q
    ·have:=wj p' pG p hp (.inl (hq.trans xF.symm))
     subst this
     exact fun h=>dj (by rw[h])
    ·exact Oz p' ((iJ p').2 ⟨pG,hq⟩)
  ·obtain⟨hp1,hp2⟩:=(iJ p').1 pG
   have uf:=zJ p' hp1
   refine⟨?_,uf.ai,uf.cells,⟨fun o ho=>?_,uf.unk.t,uf.unk.g⟩,uf.base,uf.slot⟩
   ·have:=uf.mem
    simp only[zaf,zaq]at this
    exact this.resolve_left hp2
   ·simp at ho
    rcases zaE o s.ag.length with h5|h5
    ·rw[show(M.eD s.ag.length p.b).mu o=M.mu o from congrArg Prod.fst (wC M p.b .any h5)];exact uf.unk.o o h5
    ·have:o=s.ag.length:=by omega
     subst this
     have:(M.eD s.ag.length p.b).mu s.ag.length=p.b:=by simp[Map.eD,Map.mu]
     rw[this]
     intro hb
     have:=wj p hp p' hp1 (.inr (.inr hb))
     subst this
     exact hp2 xF
theorem norm {dQ:Array Bool} {act:Act} {w:World} : ∀ (R:List (Nat×Nat)) (eZ:List Pd),uN is af pt dQ R eZ→CI P is K B nt R eZ act w→
 ∃ R' zK,uN is af pt dQ R' zK∧CI P is K B nt R' zK act w∧∀ x l,R'=x::l→∀ p∈zK,p.q≠x.1
 | [],eZ,hs,h=>⟨[],eZ,hs,h,fun _ _ he=>by cases he⟩
 | (q,b)::R,eZ,hs,h=>by
  by_cases hp : ∃ p∈eZ,p.q=q
  ·obtain⟨p,hp,xF⟩:=hp
   obtain⟨h1,h2⟩:=ahJ hs h hp xF
   exact norm R _ h1 h2
  ·refine⟨(q,b)::R,eZ,hs,h,fun x l he p LN xF=>hp ⟨p,LN, ?_⟩⟩
   cases he
   exact xF
theorem adP {ops:Array Oper} {q:Nat} {o:Oper} {ai:AI} (hi:ops[q]? = some o) (hc:cI P nt ops o=some ai) {R R':List (Nat×Nat)} {eZ:List Pd} {act:Act} {w:World} {M:Map} {s s1:St} {tm wP:Tm} {d:D} {adQ:List St}
 (e:Ext B.M B.s B.w M s w) (r:Rel M s w) (ht:oo M s wP act.tmps) (oz : ∀ t,(∀ p∈eZ,p.t≠t)→wP.get t=tm.get t) (hn:act.tmps.size=nt) (hd:act.defers = [])
 (zJ : ∀ p∈eZ,ahI is R B M s act w p) (wj : ∀ p∈eZ,∀ p'∈eZ,p.q=p'.q∨p.t=p'.t∨p.b=p'.b→p=p')
 (hv:jA P [ai] (fun a b=>a=wP.put ai.dst d∧b=s1) wP s) (hg:mU P is K R' adQ (tm.put ai.dst d) s1)
 (iJ : ∀ p∈eZ,p.q∈R'.map (·.1)) (tO : ∀ p∈eZ,ai.dst≠some p.t) {Q:Exit→Act→World→Prop} :
 wpOp P ops Q q (CI P is K B nt R' eZ) act w:=by
 refine wi hi hc r (B.laid.ext e) ht hv fun d' v s2 w1 M1 hk e1 r1 jy=>?_
 obtain⟨zw,rfl⟩:=hk
 have hde:=uk hc
 have hD : ∀ t,o.dst=some t→t<act.tmps.size:=fun t h=>by rw[hn];exact yx hc t h
 refine⟨M1,s2,tm.put ai.dst d,wP.put ai.dst d,adQ,e.trans e1,r1, ?_,fun t Oz=>?_, ?_, ?_,hg,fun p hp=>?_,wj⟩
 ·rw [← zw,hde]
  exact(ht.mono e1.le).put hD jy
 ·rw[Tm.nB,Tm.nB,oz t Oz]
 ·cases ho:o.dst<;>simp[Act.put,hn]
 ·cases ho:o.dst<;>simp[Act.put,hd]
 ·have hk:=zJ p hp
  obtain⟨vs,T,hh,hl,h1,h2⟩:=hk.cells
  have hb:=lT hh
  refine⟨iJ p hp,hk.ai,⟨vs,T,by rw[e1.kept p.b hb hk.unk.o hk.unk.t];exact hh,hl,h1,h2⟩,hk.unk.mono e1 hb,hk.base, ?_⟩
  rw[← hk.slot]
  have:=tO p hp
  rw[hde]at this
  cases ho:o.dst with
  |none=>rfl
  |some t=>
   rw[ho]at this
   have dj:t≠p.t:=fun h=>this (by rw[h])
   simp[Act.put,zbL dj]
theorem Ue {ai:AI} (hm:jh ai.kind=false) {tm:Tm} {s:St} {d:D} (h:lH ai tm s=some d):jA P [ai] (fun a b=>a=tm.put ai.dst d∧b=s) tm s:=by
 cases ai with
 | op dst g o=>
  have hko:=R8 hm
  have key : ∀ {d},(bF o tm s).map (·.1)=some d→bF o tm s=some (d,s):=by
   intro d h
   cases he:bF o tm s with
   |none=>rw[he]at h;cases h
   |some p=>
    obtain⟨d',s'⟩:=p
    rw[he]at h
    simp only[za9,Option.some.injEq]at h
    subst h
    rw[Ra (by rw[← hko];exact hm) he]
  simp only[jA,AI.dst]
  cases g with
  |none=>
   simp only[lH]at h
   simp only[guarded,key h,and_self]
  | some p=>
   obtain⟨t,want⟩:=p
   simp only[lH]at h
   simp only[guarded]
   split at h
   ·rename_i b hb
    simp only[hb]
    split at h
    ·rename_i heq
     refine⟨fun _=>by simp only[key h,and_self],fun dj=>?_⟩
     subst heq
     cases b<;>cases dj
    ·rename_i dj
     cases h
     exact⟨fun heq=>(dj heq).elim,fun _=>by simp⟩
   ·rename_i ds hb
    cases h
    simp only[hb,and_self]
   ·cases h
 |call dst g f xs=>cases hm
 |nil dst g n x=>cases hm
 |lR dst g t xs=>cases hm
theorem Ep {g:Option (Nat×Bool)} {tm:Tm} {A A' C C':Prop} (ha:A→A') (hc:C→C') (hh:guarded g tm A C):guarded g tm A' C':=by
 cases g with
 |none=>exact ha hh
 | some p=>
  obtain⟨t,want⟩:=p
  unfold guarded at *
  simp only at *
  split
  ·rename_i b hb;rw[hb]at hh;exact⟨fun e=>ha (hh.1 e),fun e=>hc (hh.2 e)⟩
  ·rename_i hb;rw[hb]at hh;exact hc hh
  ·rename_i x h1 h2
   split at hh
   ·exact h1 _ ‹_›
   ·exact h2 _ ‹_›
   ·exact hh
theorem OA {ai:AI} {tm:Tm} {s s1:St} {d:D} (h:we P ai tm s d s1):jA P [ai] (fun a b=>a=tm.put ai.dst d∧b=s1) tm s:=by
 cases ai with
 |op dst g o=>
  refine Ep (fun e=>?_) (fun e=>?_) h
  ·rw[e];exact⟨rfl,rfl⟩
  ·obtain⟨rfl,rfl⟩:=e;exact⟨rfl,rfl⟩
 |call dst g f xs=>
  refine Ep (fun e=>?_) (fun e=>?_) h
  ·exact e.mono fun x y hxy=>by obtain⟨rfl,rfl⟩:=hxy;exact⟨rfl,rfl⟩
  ·obtain⟨rfl,rfl⟩:=e;exact⟨rfl,rfl⟩
 |nil dst g n x=>exact h.elim
 |lR dst g t xs=>exact h.elim
end
end Go.Abs
namespace Go.Abs
section
variable {P:Program} {is:List AI} {af pt:List (List Nat)} {K:Tm→St→Prop} {B:gK} {nt:Nat}
theorem BE {ops:Array Oper} : ∀ {ol:List Oper} {is:List AI},sI P nt ops ol=some is→is.length=ol.length∧∀ (i:Nat) (o:Oper),ol[i]? = some o→∃ ai,is[i]? = some ai∧cI P nt ops o=some ai
 | [],is,h=>by cases h;exact⟨rfl,by simp⟩
 | o::ol,is,h=>by
  unfold sI at h
  split at h
  ·rename_i ai W3 h1 h2
   cases h
   obtain⟨g1,g2⟩:=BE h2
   refine⟨by simp[g1],fun i o' ho=>?_⟩
   cases i with
   |zero=>simp at ho;subst ho;exact⟨ai,rfl,h1⟩
   |succ i=>exact g2 i o' (by simpa using ho)
  ·cases h
theorem wk {dQ:Array Bool} {i:Nat} (h:i<dQ.size):dQ.getD i true=dQ.getD i false:=by
 simp[h]
theorem uN.done {dQ:Array Bool} {X Y:List (Nat×Nat)} {q b:Nat} {eZ:List Pd} (hs:uN is af pt dQ (X++(q,b)::Y) eZ) (hq:q<is.length)
 (LO : ∀ j∈jJ pt q,dQ.getD j false=true):uN is af pt (dQ.setIfInBounds q true) (X++Y) eZ:=by
 obtain⟨g1,g2,g3,g4,g5⟩:=wO hs.ok
 have hqY:q∉Y.map (·.1):=fun hm=>by
  obtain⟨x,hx,rfl⟩:=zaG.1 hm
  exact(FC g5 x hx).1 (by simp)
 refine⟨Kd hs.ok,fun i hi=>?_,fun i hi hl j hj=>?_,by simp[hs.size],fun x hx=>hs.lt x (by simp at hx ⊢;exact hx.imp id .inr)⟩
 ·by_cases xE:i=q
  ·subst xE
   have:i<dQ.size:=by rw[hs.size];exact hq
   simp only[zag,zar,g2,hqY,or_self,not_false_eq_true,true_or,iff_true]
   simp[this]
  ·rw [getD_set_ne false (Ne.symm xE),hs.LM i hi]
   simp[xE]
 ·by_cases xE:i=q
  ·subst xE;exact getD_set_true (LO j hj)
  ·rw [getD_set_ne false (Ne.symm xE)]at hl
   exact getD_set_true (hs.cl i hi hl j hj)
theorem uN.flag {dQ:Array Bool} {R:List (Nat×Nat)} {eZ:List Pd} (hs:uN is af pt dQ R eZ) {p:Pd} (hq:p.q<is.length)
 (LO : ∀ j∈jJ pt p.q,dQ.getD j false=true):uN is af pt (dQ.setIfInBounds p.q true) R (p::eZ):=by
 refine⟨hs.ok,fun i hi=>?_,fun i hi hl j hj=>?_,by simp[hs.size],hs.lt⟩
 ·by_cases xE:i=p.q
  ·subst xE
   have:p.q<dQ.size:=by rw[hs.size];exact hq
   simp[this]
  ·rw [getD_set_ne false (Ne.symm xE),hs.LM i hi]
   have dj:p.q≠i:=fun h=>xE h.symm
   simp[dj]
 ·by_cases xE:i=p.q
  ·subst xE;exact getD_set_true (LO j hj)
  ·rw [getD_set_ne false (Ne.symm xE)]at hl
   exact getD_set_true (hs.cl i hi hl j hj)
theorem Uf {ai:AI} (h:ai.kind = .alloc) : ∃ t z,ai = .op (some t) none (.alloc z):=by
 cases ai with
 | op dst g o=>
  unfold AI.kind at h
  split at h
  ·rename_i heq;cases heq;exact⟨_,_,rfl⟩
  ·rename_i heq
   cases heq
   exfalso
   revert h
   cases o<;>simp[AO.kind]
  ·cases h
 |call dst g f xs=>cases h
 |nil dst g n x=>cases h
 |lR dst g t xs=>cases h
theorem Ug {ops:Array Oper} (AS:sI P nt ops ops.toList=some is) (Uh:Bm af pt is.length=true)
 (hK : ∀ tm da s,Tm.eqv tm da→K tm s→K da s) {dQ:Array Bool} {R:List (Nat×Nat)} {eZ:List Pd} {act:Act} {w:World} (hs:uN is af pt dQ R eZ) (h:CI P is K B nt R eZ act w)
 (al0 : ∀ x l,R=x::l→∀ p∈eZ,p.q≠x.1) {q:Nat} (hq:q<is.length) (IG:dQ.getD q false=false) (jy : ∀ j∈jJ af q,j<is.length∧dQ.getD j false=true)
 {Q:Exit→Act→World→Prop} {K2:Act→World→Prop} (hK2 : ∀ R' zK a' w',uN is af pt (dQ.setIfInBounds q true) R' zK→CI P is K B nt R' zK a' w'→K2 a' w'):wpOp P ops Q q K2 act w:=by
 obtain⟨hlen,hZ⟩:=BE AS
 have yv:q<ops.size:=by rw[hlen]at hq;simpa using hq
 obtain⟨ai,zE,Xf⟩:=hZ q ops[q] (by simp[yv])
 have hi:ops[q]? = some ops[q]:=by simp[yv]
 have LO : ∀ j∈jJ pt q,dQ.getD j false=true:=fun j hj=>by
  rcases Gv Uh q hq j hj with h1|⟨k,h1,h2⟩
  ·exact(jy j h1).2
  ·exact hs.cl k (jy k h1).1 (jy k h1).2 j h2
 have Xg : ∀ p∈eZ,p.q≠q:=fun p hp xF=>by
  have:=(hs.LM q hq).2 (.inr ⟨p,hp,xF⟩)
  rw[IG]at this;cases this
 have hqR:q∈R.map (·.1):=by
  by_cases hm:q∈R.map (·.1)
  ·exact hm
  ·have:=(hs.LM q hq).2 (.inl hm)
   rw[IG]at this;cases this
 obtain⟨⟨q',b⟩,hx,hqq⟩:=zaG.1 hqR
 simp only at hqq
 subst hqq
 obtain⟨X,Y,rfl⟩:=List.append_of_mem hx
 obtain⟨g1,g2,g3,g4,g5⟩:=wO hs.ok
 rw[zaF]at g1 g5
 obtain⟨M,s,tm,wP,cf,e,r,ht,oz,hn,hd,hg,zJ,wj⟩:=h
 have Xh:kF is q'=ai.kind:=by simp[kF,zE]
 -- what must have come up ahead of it, is not here any more, but for what was allocated early
 have adR : ∀ a∈X.map (·.1),a∈jJ pt q'→∃ p∈eZ,p.q=a:=fun a ha dc=>by
  have h1:=LO a dc
  obtain⟨x,hxX,rfl⟩:=zaG.1 ha
  rcases(hs.LM x.1 (hs.lt x (by simp[hxX]))).1 h1 with h2|h2
  ·exact(h2 (by simp;exact .inl ⟨x.2,hxX⟩)).elim
  ·exact h2
 have adS : ∀ x l,X=x::l→x.1∉jJ pt q':=fun x l hX hxp=>by
  obtain⟨p,hp,xF⟩:=adR x.1 (by simp[hX]) hxp
  exact al0 x (l++(q',b)::Y) (by simp[hX]) p hp xF
 have hpk : ∀ p∈eZ,kF is p.q = .alloc:=fun p hp=>by simp[kF,(zJ p hp).ai,AI.kind]
 have Hk : ∀ p∈eZ,(p.q∈X.map (·.1)→nr is p.q q'=true)→(∀ t,ai.dst=some t→t≠p.t)∧p.t∉ai.reads:=fun p hp hX=>by
  have hk:=zJ p hp
  have hm:=hk.mem
  simp only[zag,zaf,zar,zaq]at hm
  rcases hm with hm|hm|hm
  ·have:=hX hm
   simp only[nr,hk.ai,zE]at this
   obtain⟨p1,p2,p3⟩:=apart_spec this
   exact⟨fun t ht he=>p3 p.t rfl (by rw[ht,he]),p1 p.t rfl⟩
  ·exact(Xg p hp hm).elim
  ·obtain⟨x,hxY,hxq⟩:=zaG.1 hm
   have:=(FC g5 x hxY).2 (by rw[hxq];exact hpk p hp) q' (by simp)
   rw[hxq]at this
   simp only[nr,hk.ai,zE]at this
   obtain⟨p1,p2,p3⟩:=apart_spec this
   exact⟨fun t ht he=>p3 t ht (by rw[he];rfl),p2 p.t rfl⟩
 have Xi:(∀ p∈eZ,p.t∉ai.reads)→∀ t∈ai.reads,tm.get t=wP.get t:=fun hp t ht=>(oz t fun p LN he=>hp p LN (by rw[he];exact ht)).symm
 have adU : ∀ p∈eZ,p.q∈(X++Y).map (·.1):=fun p hp=>by
  have hm:=(zJ p hp).mem
  have:=Xg p hp
  simp only[zag,zaf,zar,zaq]at hm ⊢
  rcases hm with hm|hm|hm
  ·exact .inl hm
  ·exact(this hm).elim
  ·exact .inr hm
 by_cases pg:ai.kind = .alloc
 ·-- an allocation
  obtain⟨t,z,rfl⟩:=Uf pg
  have dc : ∀ a∈X.map (·.1),nr is a q'=true:=fun a ha=>by
   unfold rJ at g1
   rw[Xh,pg]at g1
   simp only[List.all_reverse,za3]at g1
   exact g1 a ha
  have DE:=fun p hp=>Hk p hp (dc p.q)
  refine Rb hi Xf fun vs T hl h1 h2=>?_
  obtain⟨r1,e1,u1⟩:=r.idle (.cells vs T)
  have ahN:t<act.tmps.size:=by
   rw[hn]
   exact yx Xf t (by rw[← uk Xf];rfl)
  have:=hs.flag (p:=⟨q',t,z,w.heap.size⟩) hq LO
  refine hK2 _ _ _ _ this ⟨M,s,tm,wP.put (some t) .junk,cf,e.trans e1,r1,oo.put ht (dst:=some t) (fun u hu=>by cases hu;exact ahN) (.junk _),fun u hu=>?_,by simp[Act.put,hn],by simp[Act.put,hd],hg,fun p hp=>?_,fun p hp p' pG he=>?_⟩
  ·have h3:=hu ⟨q',t,z,w.heap.size⟩ (by simp)
   rw[Tm.nB,if_neg (by simpa using h3)]
   exact oz u fun p hp=>hu p (zan _ hp)
  ·rcases zaq.1 hp with rfl | hp
   ·refine⟨by simp,zE,⟨vs,T,heap_alloc_new w _,hl,h1,h2⟩,u1,e.size, ?_⟩
    simp[Act.put,ahN]
   ·have hk:=zJ p hp
    obtain⟨gf,T',lx,qJ,qk,ui⟩:=hk.cells
    refine⟨hk.mem,hk.ai,⟨gf,T',by rw[heap_alloc_old w _ _ (lT lx)];exact lx,qJ,qk,ui⟩,hk.unk,hk.base, ?_⟩
    rw[← hk.slot]
    have dj:t≠p.t:=(DE p hp).1 t rfl
    simp[Act.put,zbL dj]
  ·have dF : ∀ p∈eZ,¬ (q'=p.q∨t=p.t∨w.heap.size=p.b):=fun p hp h=>by
    rcases h with h|h|h
    ·exact Xg p hp h.symm
    ·exact(DE p hp).1 t rfl h
    ·obtain⟨gf,T',lx,_⟩:=(zJ p hp).cells
     have:=lT lx
     omega
   rcases zaq.1 hp with rfl|hp<;>rcases zaq.1 pG with rfl|pG
   ·rfl
   ·exact(dF p' pG he).elim
   ·exact(dF p hp (he.imp Eq.symm (Or.imp Eq.symm Eq.symm))).elim
   ·exact wj p hp p' pG he
 ·by_cases qN:jh ai.kind=true
  ·-- a step that changes something: it stands first
   have hkc:ai.kind = .core:=by
    cases hk:ai.kind<;>simp_all [jh]
   have hX:X = []:=by
    cases X with
    |nil=>rfl
    |cons x l=>
     refine(adS x l rfl ?_).elim
     unfold rJ at g1
     rw[Xh,hkc]at g1
     simp only[List.all_reverse,za3]at g1
     have:=g1 x.1 (by simp)
     rwa [zbg]at this
   subst hX
   have DE:=fun p hp=>Hk p hp (fun h=>by simp at h)
   simp only[za1,mU,zE,qN]at hg
   obtain⟨d,s1,gG,hg⟩:=hg
   have apY:=AQ (Xi fun p hp=>(DE p hp).2) gG
   refine wpOp_mono (fun a' w' hr=>hK2 _ _ _ _ (hs.done hq LO) hr) ?_
   exact adP hi Xf e r ht oz hn hd zJ wj (OA apY) hg adU (fun p hp he=>(DE p hp).1 _ he rfl)
  ·-- a step that changes nothing
   have hm:jh ai.kind=false:=by simpa using qN
   have qw : ∀ a∈X.map (·.1),a∉jJ pt q':=fun a ha dc=>by
    obtain⟨p,hp,xF⟩:=adR a ha dc
    have LH:kF is a = .alloc:=by rw[← xF];exact hpk p hp
    have jK:ng is (jJ pt q') (X.map (·.1)).reverse=true:=by
     unfold rJ at g1
     rw[Xh]at g1
     cases hk:ai.kind with
     |pure=>simp only[hk,zat]at g1;exact g1.2
     |load=>simp only[hk,zat]at g1;exact g1.1.2
     |alloc=>exact(pg hk).elim
     |core=>rw[hk]at hm;cases hm
    cases X with
    |nil=>simp at ha
    | cons x l=>
     have ha2:a∈((x::l).map (·.1)).reverse:=List.mem_reverse.2 ha
     obtain⟨l1,l2,rS⟩:=List.append_of_mem ha2
     have CJ:=BD jK a l1 l2 rS LH dc
     refine adS x l rfl ?_
     cases ke:l2.reverse with
     |nil=>
      have h3:l2 = []:=by simpa using ke
      subst h3
      have:=congrArg List.reverse rS
      simp at this
      rw[this.1];exact dc
     |cons y l3=>
      have:=congrArg List.reverse rS
      simp only[List.reverse_reverse,zaf,List.reverse_append,List.reverse_cons,List.reverse_nil,zaB,ke,zaV,za1,List.cons.injEq]at this
      rw[this.1]
      exact CJ y (by rw[← List.mem_reverse,ke];simp)
   have dc : ∀ a∈X,nr is a.1 q'=true:=fun a ha=>by
    have h3 : ∀ x∈(X.map (·.1)).reverse,((jJ pt q').contains x ||nr is x q')=true:=by
     unfold rJ at g1
     rw[Xh]at g1
     cases hk:ai.kind with
     |pure=>simp only[hk,zat]at g1;exact za3.1 g1.1
     |load=>simp only[hk,zat]at g1;exact za3.1 g1.1.1
     |alloc=>exact(pg hk).elim
     |core=>rw[hk]at hm;cases hm
    have:=h3 a.1 (List.mem_reverse.2 (zbb ha))
    simp only[zaD,zbg]at this
    exact this.resolve_left (qw a.1 (zbb ha))
   have ahO:ai.kind = .load→lh is (X.map (·.1))≤b:=fun hk=>by
    unfold rJ at g1
    rw[Xh,hk]at g1
    simp only[zat,decide_eq_true_eq]at g1
    have h3:=g1.2
    have h4:(X.map (·.1)).reverse.filter (fun a=> !(jJ pt q').contains a)=(X.map (·.1)).reverse:=by
     rw[List.filter_eq_self]
     intro a ha
     have:=qw a (List.mem_reverse.1 ha)
     simpa using this
    rw[h4]at h3
    unfold lh at h3 ⊢
    rw[List.filter_reverse,List.length_reverse]at h3
    exact h3
   have DE:=fun p hp=>Hk p hp (fun h=>by
    obtain⟨x,hx,hxq⟩:=zaG.1 h
    rw[← hxq];exact dc x hx)
   obtain⟨d,h1,_,Gr⟩:=AR hK zE hm Y X cf tm s dc ahO hg
   have qk:lH ai wP s=some d:=by rw[← uj (Xi fun p hp=>(DE p hp).2)];exact h1
   refine wpOp_mono (fun a' w' hr=>hK2 _ _ _ _ (hs.done hq LO) hr) ?_
   exact adP hi Xf e r ht oz hn hd zJ wj (Ue hm qk) Gr adU (fun p hp he=>(DE p hp).1 _ he rfl)
theorem wq {o:Oper} {j:Nat} : j∈ki o↔∃ e∈o.after,Region.binds .any e=true∧e.on=j:=by
 simp only[ki,zaG,List.mem_filter,zaQ]
 constructor
 ·rintro⟨e,⟨h1,h2⟩,h3⟩;exact⟨e,h1,h2,h3⟩
 ·rintro⟨e,h1,h2,h3⟩;exact⟨e,⟨h1,h2⟩,h3⟩
theorem Ui {ops:Array Oper} (AS:sI P nt ops ops.toList=some is) (Uh:Bm (ops.toList.map ki) pt is.length=true)
 (ahP : ∀ i,i<is.length→∀ j∈jJ (ops.toList.map ki) i,j<is.length) {Q:Exit→Tm→St→Prop} (hK : ∀ tm da s,Tm.eqv tm da→K tm s→K da s)
 (hKQ : ∀ tm s act w,K tm s→Holds B nt tm s act w→n6 B nt Q .normal act w) :
 ∀ (fuel:Nat) (dQ:Array Bool) (R:List (Nat×Nat)) (eZ:List Pd) (act:Act) (w:World) (U:List Nat),U.length≤fuel→(∀ j,j<is.length→dQ.getD j false=false→j∈U)→
  uN is (ops.toList.map ki) pt dQ R eZ→CI P is K B nt R eZ act w→wpAny P .any ops (n6 B nt Q) fuel dQ act w:=by
 obtain⟨hlen,_⟩:=BE AS
 have wb:is.length=ops.size:=by rw[hlen];simp
 have ahQ : ∀ (j:Nat) (o:Oper),ops[j]? = some o→jJ (ops.toList.map ki) j=ki o:=fun j o h=>by
  simp[jJ,List.getD,h]
 have fin : ∀ {dQ:Array Bool} {eZ:List Pd} {act:Act} {w:World},CI P is K B nt [] eZ act w→n6 B nt Q .normal act w:=by
  intro dQ eZ act w h
  obtain⟨M,s,tm,wP,cf,e,r,ht,oz,hn,hd,hg,zJ,wj⟩:=h
  have AJ : ∀ p∈eZ,False:=fun p hp=>by have:=(zJ p hp).mem;simp at this
  exact hKQ wP s act w (hK tm wP s (fun t=>(oz t fun p hp=>(AJ p hp).elim).symm) hg) ⟨M,e,r,ht,hn,hd⟩
 have Xk : ∀ {dQ:Array Bool} {R:List (Nat×Nat)} {eZ:List Pd} {x:Nat×Nat} {l:List (Nat×Nat)},uN is (ops.toList.map ki) pt dQ R eZ→R=x::l→(∀ p∈eZ,p.q≠x.1)→
  x.1∈Region.ready .any ops dQ:=by
  intro dQ R eZ x l hs hR Xg
  subst hR
  have hx:=hs.lt x (by simp)
  rw[mem_ready]
  have IG:dQ.getD x.1 false=false:=by
   cases hl:dQ.getD x.1 false with
   |false=>rfl
   |true=>
    rcases(hs.LM x.1 hx).1 hl with h1|⟨p,hp,xF⟩
    ·exact(h1 (by simp)).elim
    ·exact(Xg p hp xF).elim
  have hxo:x.1<ops.size:=by rw[← wb];exact hx
  refine⟨by rw[wk (by rw[hs.size];exact hx)];exact IG,ops[x.1],by simp[hxo],fun e he hb=>?_⟩
  have hm:e.on∈jJ (ops.toList.map ki) x.1:=by rw[ahQ x.1 ops[x.1] (by simp[hxo])];exact wq.2 ⟨e,he,hb,rfl⟩
  obtain⟨_,_,_,g4,_⟩:=wO (X:= []) (q:=x.1) (b:=x.2) hs.ok
  obtain⟨h1,h2⟩:=g4 _ hm
  refine(hs.LM e.on (ahP x.1 hx _ hm)).2 (.inl ?_)
  simp only[zaf,zaq,not_or]
  exact⟨h1,h2⟩
 intro fuel
 induction fuel with
 | zero=>
  intro dQ R eZ act w U hU IG hs h
  obtain⟨R',zK,rL,h',hn⟩:=norm R eZ hs h
  have hUn:U = []:=List.length_eq_zero_iff.1 (by omega)
  have CJ : ∀ j,j<is.length→dQ.getD j false=true:=fun j hj=>by
   cases hl:dQ.getD j false with
   |true=>rfl
   |false=>have:=IG j hj hl;rw[hUn]at this;cases this
  have hR:R' = []:=by
   cases hR:R' with
   |nil=>rfl
   |cons x l=>
    have hx:=rL.lt x (by simp[hR])
    have:=Xk rL hR (hn x l hR)
    rw[mem_ready,wk (by rw[rL.size];exact hx),CJ x.1 hx]at this
    cases this.1
  subst hR
  refine⟨?_,fin (dQ:=dQ) h'⟩
  cases hr:Region.ready .any ops dQ with
  |nil=>rfl
  |cons j js=>
   have hj:j∈Region.ready .any ops dQ:=by rw[hr];simp
   rw[mem_ready]at hj
   obtain⟨h1,o,ho,_⟩:=hj
   have xG:j<is.length:=by rw[wb];exact(zaU.1 ho).1
   rw[wk (by rw[hs.size];exact xG),CJ j xG]at h1
   cases h1
 | succ fuel ih=>
  intro dQ R eZ act w U hU IG hs h
  obtain⟨R',zK,rL,h',hn⟩:=norm R eZ hs h
  refine⟨fun hr=>?_,fun i hi=>?_⟩
  ·cases hR:R' with
   |nil=>subst hR;exact fin (dQ:=dQ) h'
   |cons x l=>
    have:=Xk rL hR (hn x l hR)
    rw[hr]at this
    cases this
  ·rw [mem_ready]at hi
   obtain⟨h1,o,ho,apZ⟩:=hi
   have sL:i<is.length:=by rw[wb];exact(zaU.1 ho).1
   rw[wk (by rw[hs.size];exact sL)]at h1
   refine Ug AS Uh hK rL h' hn sL h1 (fun j hj=>⟨ahP i sL j hj, ?_⟩) fun R2 al3 a2 w2 uh h2=>?_
   ·rw [ahQ i o ho]at hj
    obtain⟨e,he,hb,rfl⟩:=wq.1 hj
    exact apZ e he hb
   ·refine ih _ R2 al3 a2 w2 (U.erase i) ?_ (fun j hj hl=> ?_) uh h2
    ·have:=List.length_erase_of_mem (IG i sL h1)
     omega
    ·have hji:j≠i:=fun e=>by
      subst e
      have:j<dQ.size:=by rw[hs.size];exact sL
      simp[this]at hl
     rw[getD_set_ne false (Ne.symm hji)]at hl
     exact(List.mem_erase_of_ne hji).2 (IG j hj hl)
theorem Sem.par {is:List AI} {nZ:List (Nat×Nat)} {Q:Exit→Tm→St→Prop} {tm:Tm} {s:St} (h:mU P is (Q .normal) nZ [] tm s):Sem P B nt (.par is nZ) Q tm s:=by
 intro c hc act w hh
 obtain⟨id,ops,rfl,hi,hm,pt,hp⟩:=mM hc
 simp only[Ij,zat,za3,zbQ,zbg,decide_eq_true_eq]at hp
 obtain⟨⟨⟨⟨h1,h2⟩,h3⟩,h4⟩,h5⟩:=hp
 obtain⟨hlen,_⟩:=BE hi
 have wb:is.length=ops.size:=by rw[hlen];simp
 refine wp_region_any hm ?_
 obtain⟨M,e,r,ht,hn,hd⟩:=hh
 have key : ∀ (R:List (Nat×Nat)) (cf:List St) (tm:Tm) (s:St),mU P is (Q .normal) R cf tm s→mU P is (fun tm s=>∃ da,tm.eqv da∧Q .normal da s) R cf tm s:=by
  intro R
  induction R with
  |nil=>intro cf tm s h;exact⟨tm,fun _=>rfl,h⟩
  | cons x R ih=>
   obtain⟨q,b⟩:=x
   intro cf tm s h
   unfold mU at h ⊢
   split at h
   ·exact h.elim
   ·split at h
    ·obtain⟨d,s',h1,h2⟩:=h;exact⟨d,s',h1,ih _ _ _ h2⟩
    ·obtain⟨d,h1,h2,h3⟩:=h;exact⟨d,h1,h2,ih _ _ _ h3⟩
 have hg:=key _ _ _ _ h
 refine Ui (K:=fun tm s=>∃ da,tm.eqv da∧Q .normal da s) hi h1 h5 (fun tm da s he ⟨t2,h3,h4⟩=>⟨t2,fun t=>(he t).symm.trans (h3 t),h4⟩)
  (fun tm s act w ⟨t2,h3,h4⟩ ⟨M,e,r,ht,hn,hd⟩=>⟨t2,s,h4,M,e,r,fun t=>by rw[← h3 t];exact ht t,hn,hd⟩) ops.size _ nZ [] act _ (List.range is.length) (by simp[wb]) (fun j hj _=>by simpa using hj)
  ⟨h2,fun i hi=>?_,fun i hi hl=>?_,by simp[wb],h4⟩ ⟨M,s,tm,tm,[],⟨e.le,e.kept,e.vz,e.rH,e.uE,e.size,e.os,e.tape,e.output⟩,r.of_heap rfl,ht,fun _ _=>rfl,hn,hd,hg,by simp,by simp⟩
 ·have:i<ops.size:=by rw [← wb];exact hi
  have h6:=h3 i hi
  simp only[zbG,false_and,exists_false,or_false]
  rw[show(Array.replicate ops.size false).getD i false=false by simp[this]]
  simp[h6]
 ·have:i<ops.size:=by rw [← wb];exact hi
  rw[show(Array.replicate ops.size false).getD i false=false by simp[this]]at hl
  cases hl
end
end Go.Abs
namespace Go.Abs
theorem ae2 (k:IntKind) (n:Int):D.row (.int k n)=some [.int k n]:=rfl
theorem aak (b:Bool):D.row (.bool b)=some [.bool b]:=rfl
theorem ae3 (l:List UInt8):D.row (.str l)=some [.str l]:=rfl
theorem aal:D.row .fJ=some [.fJ]:=rfl
theorem ae4 (o f:Nat):D.row (.ptr o f)=some [.ptr o f]:=rfl
theorem aam (r:List D) (f:Nat):D.row (.dW r f)=some [.dW r f]:=rfl
theorem Xl (g:Tag) (z:Nat) (r:List (List D)):D.row (.slice g z r)=some [.slice g z r]:=rfl
theorem ae5 (cs:List D):D.row (.agg cs)=some cs:=rfl
theorem ae6 (v:Value):D.row (.val v)=some [.val v]:=rfl
theorem Xm (T:TypeId) (o:Nat):D.row (.gd T o)=some [.gd T o]:=rfl
theorem ae7 (f:Nat) (cs:List D):D.row (.iL f cs)=some [.iL f cs]:=rfl
theorem aan (o:Nat):D.row (.iC o)=some [.iC o]:=rfl
theorem aao (w:Bool):Tag.cut .full w=if w then .full else .shared:=rfl
theorem Uj (w:Bool):Tag.cut .shared w = .shared:=rfl
theorem aap (t:Nat) (y:Bool) (w:Bool):Tag.cut (.tok t y) w = .tok t y:=rfl
section
variable {P:Program}
def KC (P:Program) (r:List AI) (K:Tm→St→Prop) (tm:Tm) (dst:Option Nat) (d:D) (s:St):Prop:=jA P r K (tm.put dst d) s
def GI (P:Program) (g:D) (want:Bool) (i:AI) (r:List AI) (K:Tm→St→Prop) (tm:Tm) (s:St):Prop:=
 match g with
 | .bool b=>(b=want→jA P (i::r) K tm s)∧(b=(!want)→jA P r K (tm.put i.dst (.tuple [])) s)
 | .tuple _=>jA P r K (tm.put i.dst (.tuple [])) s
 |_=>False
def NI (P:Program) (dst:Option Nat) (neg:Bool) (x:D) (r:List AI) (K:Tm→St→Prop) (tm:Tm) (s:St):Prop:=
 match x with
 | .slice _ _ rows=>∀ b:Bool,(rows≠ []→b=false)→jA P r K (tm.put dst (.bool (if neg then !b else b))) s
 |_=>False
def wu (d:D) (A C:Prop):Prop:=
 match d with
 | .bool b=>(b=true→A)∧(b=false→C)
 |_=>False
theorem Sem.adW {B:gK} {nt:Nat} {Q:Exit→Tm→St→Prop} {tm:Tm} {s:St} {x:X} {a b:AC} (h:wu (x.ev tm) (Sem P B nt a Q tm s) (Sem P B nt b Q tm s)):Sem P B nt (.cond x a b) Q tm s:=by
 unfold wu at h
 split at h
 ·rename_i t ht
  exact Sem.cond ht h.1 h.2
 ·exact h.elim
def jm (P:Program) (K:Tm→St→Prop):List (AI×Nat)→List St→Tm→St→Prop
 | [],_,tm,s=>K tm s
 |(ai,b)::r,cf,tm,s=>
  match jh ai.kind with
  |true=>∃ d s',we P ai tm s d s'∧jm P K r (s::cf) (tm.put ai.dst d) s'
  |false=>∃ d,lH ai tm s=some d∧(ai.kind = .load→∀ s'∈cf.take b,lH ai tm s'=some d)∧jm P K r cf (tm.put ai.dst d) s
def pQ (is:List AI):List (Nat×Nat)→Option (List (AI×Nat))
 | []=>some []
 |(q,b)::r=>match is[q]?,pQ is r with
  |some ai,some l=>some ((ai,b)::l)
  |_,_=>none
theorem Ke {is:List AI} {K:Tm→St→Prop} : ∀ {nZ:List (Nat×Nat)} {items:List (AI×Nat)} {cf:List St} {tm:Tm} {s:St},pQ is nZ=some items→jm P K items cf tm s→mU P is K nZ cf tm s
 | [],items,cf,tm,s,h,g=>by cases h;exact g
 | (q,b)::r,items,cf,tm,s,h,g=>by
  simp only[pQ]at h
  split at h
  ·rename_i ai l h1 h2
   cases h
   simp only[jm]at g
   simp only[mU,h1]
   split at g
   ·rename_i hk
    obtain⟨d,s',g1,g2⟩:=g
    try simp only[hk]
    exact⟨d,s',g1,Ke h2 g2⟩
   ·rename_i hk
    obtain⟨d,g1,g2,g3⟩:=g
    try simp only[hk]
    exact⟨d,g1,g2,Ke h2 g3⟩
  ·cases h
theorem Sem.ap0 {B:gK} {nt:Nat} {Q:Exit→Tm→St→Prop} {tm:Tm} {s:St} {is:List AI} {nZ:List (Nat×Nat)} {items:List (AI×Nat)} (hi:pQ is nZ=some items) (h:jm P (Q .normal) items [] tm s):Sem P B nt (.par is nZ) Q tm s:=
 Sem.par (Ke hi h)
def AI.free:AI→AI
 | .op d _ o=> .op d none o
 | .call d _ f xs=> .call d none f xs
 | .nil d _ n x=> .nil d none n x
 | .lR d _ t xs=> .lR d none t xs
def GL (P:Program) (g:D) (want:Bool) (i:AI) (b:Nat) (r:List (AI×Nat)) (K:Tm→St→Prop) (cf:List St) (tm:Tm) (s:St):Prop:=
 match g with
 | .bool v=>(v=want→jm P K ((i,b)::r) cf tm s)∧(v=(!want)→jm P K r (if jh i.kind then s::cf else cf) (tm.put i.dst (.tuple [])) s)
 | .tuple _=>jm P K r (if jh i.kind then s::cf else cf) (tm.put i.dst (.tuple [])) s
 |_=>False
def CL (one:Bool) (P:Program) (f:Nat) (args:List D) (s:St) (K:D→St→Prop):Prop:=
 match one with
 |true=>∃ d s',ay P f args s d s'∧K d s'
 |false=>bk P f args s K
def KL (P:Program) (K:Tm→St→Prop) (r:List (AI×Nat)) (cf:List St) (tm:Tm) (dst:Option Nat) (d:D) (s:St):Prop:=jm P K r cf (tm.put dst d) s
def qP (i:AI) (tm:Tm) (d:D):List St→Prop
 | []=>True
 |s::r=>lH i tm s=some d∧qP i tm d r
theorem II {i:AI} {tm:Tm} {d:D} : ∀ {l:List St},qP i tm d l→∀ s∈l,lH i tm s=some d
 | [],_,s,h=>by cases h
 |a::l,h,s,hs=>by
  rcases zaq.1 hs with rfl|hs
  ·exact h.1
  ·exact II h.2 s hs
def PL (P:Program) (o:AO) (dst:Option Nat) (b:Nat) (r:List (AI×Nat)) (K:Tm→St→Prop) (cf:List St) (tm:Tm) (s:St):Prop:=
 match bF o tm s with
 |some (d,_)=>qP (.op dst none o) tm d (cf.take b)∧jm P K r cf (tm.put dst d) s
 |none=>False
def ML (P:Program) (o:AO) (dst:Option Nat) (r:List (AI×Nat)) (K:Tm→St→Prop) (cf:List St) (tm:Tm) (s:St):Prop:=
 match bF o tm s with
 |some (d,s')=>jm P K r (s::cf) (tm.put dst d) s'
 |none=>False
def AO.core:AO→Bool
 | .alloc _=>true
 | .box _=>true
 | .yk .. =>true
 | .Gi _=>true
 | .store .. =>true
 | .app .. =>true
 | .yl .. =>true
 | .G2 .. =>true
 | .G3 .. =>true
 | .apps .. =>true
 | .Cp=>true
 | .G4 .. =>true
 | .G5 .. =>true
 |_=>false
theorem wQ (dst:Option Nat) (g:Option (Nat×Bool)) (o:AO):jh (AI.op dst g o).kind=o.core:=by
 cases dst<;>cases g<;>cases o<;>rfl
def OL (P:Program) (o:AO) (dst:Option Nat) (b:Nat) (r:List (AI×Nat)) (K:Tm→St→Prop) (cf:List St) (tm:Tm) (s:St):Prop:=
 match o.core with
 |true=>ML P o dst r K cf tm s
 |false=>PL P o dst b r K cf tm s
theorem OB {K:Tm→St→Prop} {dst:Option Nat} {o:AO} {b:Nat} {r:List (AI×Nat)} {cf:List St} {tm:Tm} {s:St} (h:OL P o dst b r K cf tm s) :
 jm P K ((.op dst none o,b)::r) cf tm s:=by
 unfold OL at h
 simp only[jm,wQ]
 cases hc:o.core with
 | true=>
  simp only[hc,ML]at h
  simp only[]
  split at h
  ·rename_i d s' he
   exact⟨d,s',by simpa[we,guarded]using he,h⟩
  ·exact h.elim
 | false=>
  simp only[hc,PL]at h
  simp only[]
  split at h
  ·rename_i d s' he
   exact⟨d,by simp[lH,he],fun _=>II h.1,h.2⟩
  ·exact h.elim
theorem Uk {K:Tm→St→Prop} {dst:Option Nat} {f:Nat} {xs:List X} {b:Nat} {r:List (AI×Nat)} {cf:List St} {tm:Tm} {s:St} (h:CL true P f (xs.map (·.ev tm)) s (KL P K r (s::cf) tm dst)) :
 jm P K ((.call dst none f xs,b)::r) cf tm s:=by
 obtain⟨d,s',h1,h2⟩:=h
 exact⟨d,s',h1,h2⟩
theorem ahR {K:Tm→St→Prop} {i:AI} {t:Nat} {w:Bool} {b:Nat} {r:List (AI×Nat)} {cf:List St} {tm:Tm} {s:St} {j:AI} (hf:(∃ d o,i = .op d none o∧j = .op d (some (t,w)) o)∨(∃ d f xs,i = .call d none f xs∧j = .call d (some (t,w)) f xs))
 (hg:tm.get t = .bool w) (h:jm P K ((i,b)::r) cf tm s):jm P K ((j,b)::r) cf tm s:=by
 rcases hf with ⟨d,o,rfl,rfl⟩|⟨d,f,xs,rfl,rfl⟩
 ·simp only [jm,wQ]at h ⊢
  cases hc:o.core<;>simp only[hc]at h ⊢
  ·obtain⟨x,h1,h2,h3⟩:=h
   refine⟨x,by simpa[lH,hg]using h1,fun hk s' rL=>?_,h3⟩
   have uf:(AI.op d none o).kind = .load:=by
    cases d<;>cases o<;>first|exact hk|(cases hc;done)|(cases hk;done)
   simpa[lH,hg]using h2 uf s' rL
  ·obtain⟨x,s',h1,h2⟩:=h
   exact⟨x,s',by simpa[we,guarded,hg]using h1,h2⟩
 ·obtain⟨x,s',h1,h2⟩:=h
  exact⟨x,s',by simpa[we,guarded,hg]using h1,h2⟩
theorem Xn {K:Tm→St→Prop} {i:AI} {t:Nat} {w:Bool} {b:Nat} {r:List (AI×Nat)} {cf:List St} {tm:Tm} {s:St} {j:AI} (hf:(∃ d o,i = .op d none o∧j = .op d (some (t,w)) o)∨(∃ d f xs,i = .call d none f xs∧j = .call d (some (t,w)) f xs))
 (hg:tm.get t = .bool (!w)∨∃ l,tm.get t = .tuple l) (h:jm P K r (if jh i.kind then s::cf else cf) (tm.put i.dst (.tuple [])) s):jm P K ((j,b)::r) cf tm s:=by
 rcases hf with ⟨d,o,rfl,rfl⟩|⟨d,f,xs,rfl,rfl⟩
 ·simp only [jm,wQ]at h ⊢
  cases hc:o.core<;>simp only[hc]at h ⊢
  ·refine⟨.tuple [], ?_,fun hk s' rL=> ?_,h⟩
   ·rcases hg with hg|⟨l,hg⟩<;>simp[lH,hg]
   ·rcases hg with hg|⟨l,hg⟩<;>simp[lH,hg]
  ·refine⟨.tuple [],s, ?_,h⟩
   rcases hg with hg|⟨l,hg⟩<;>simp[we,guarded,hg]
 ·refine⟨.tuple [],s, ?_,h⟩
  rcases hg with hg|⟨l,hg⟩<;>simp[we,guarded,hg]
theorem Sb {K:Tm→St→Prop} {i j:AI} {t:Nat} {w:Bool} {b:Nat} {r:List (AI×Nat)} {cf:List St} {tm:Tm} {s:St} (hf:(∃ d o,i = .op d none o∧j = .op d (some (t,w)) o)∨(∃ d f xs,i = .call d none f xs∧j = .call d (some (t,w)) f xs))
 (h:GL P (tm.get t) w i b r K cf tm s):jm P K ((j,b)::r) cf tm s:=by
 unfold GL at h
 split at h
 ·rename_i v hv
  by_cases e:v=w
  ·exact ahR hf (by rw[hv,e]) (h.1 e)
  ·exact Xn hf (.inl (by rw[hv];cases v<;>cases w<;>simp_all)) (h.2 (by cases v<;>cases w<;>simp_all))
 ·rename_i l hl
  exact Xn hf (.inr ⟨l,hl⟩) h
 ·exact h.elim
theorem LP {K:Tm→St→Prop} {dst:Option Nat} {o:AO} {t:Nat} {w:Bool} {b:Nat} {r:List (AI×Nat)} {cf:List St} {tm:Tm} {s:St} (h:GL P (tm.get t) w (.op dst none o) b r K cf tm s) :
 jm P K ((.op dst (some (t,w)) o,b)::r) cf tm s:=Sb (.inl ⟨dst,o,rfl,rfl⟩) h
theorem Rf {K:Tm→St→Prop} {dst:Option Nat} {f:Nat} {xs:List X} {t:Nat} {w:Bool} {b:Nat} {r:List (AI×Nat)} {cf:List St} {tm:Tm} {s:St} (h:GL P (tm.get t) w (.call dst none f xs) b r K cf tm s) :
 jm P K ((.call dst (some (t,w)) f xs,b)::r) cf tm s:=Sb (.inr ⟨dst,f,xs,rfl,rfl⟩) h
theorem CL.use {one:Bool} {f:Nat} {args:List D} {s:St} {d:D} {s':St} {K:D→St→Prop} (h:ay P f args s d s') (hk:K d s'):CL one P f args s K:=
 match one with
 |true=>⟨d,s',h,hk⟩
 |false=>h.use hk
theorem CU {one:Bool} {f:Nat} {args:List D} {s:St} {d:D} {s':St} {K:D→St→Prop} (h:ay P f args s d s') (hk:K d s'):CL one P f args s K:=CL.use h hk
theorem CR {f:Nat} {args:List D} {s:St} {Q K:D→St→Prop} (h:bk P f args s Q) (hk : ∀ d s',Q d s'→K d s'):CL false P f args s K:=bk.mono h hk
end
end Go.Abs
namespace Go.Abs
section
variable {P:Program} {B:gK} {nt:Nat}
theorem sy {ops:Array Oper} {i:Nat} {o:Oper} {ai:AI} (hi:ops[i]? = some o) (hc:cI P nt ops o=some ai) {tm da:Tm} {s s':St} {act:Act} {w:World} (hh:Holds B nt tm s act w)
 (h:jA P [ai] (fun a b=>a=da∧b=s') tm s) {K:Act→World→Prop} {Q:Exit→Act→World→Prop} (hK : ∀ a w',Holds B nt da s' a w'→K a w'):wpOp P ops Q i K act w:=by
 obtain⟨M,e,r,ht,hn,hd⟩:=hh
 refine wi hi hc r (B.laid.ext e) ht h fun d v s1 w1 M1 hk e1 r1 jy=>hK _ _ ?_
 obtain⟨rfl,rfl⟩:=hk
 refine⟨M1,e.trans e1,r1, ?_, ?_, ?_⟩
 ·rw [uk hc]
  exact(ht.mono e1.le).put (fun t h=>by rw[hn];exact yx hc t h) jy
 ·cases ho:o.dst<;>simp[Act.put,hn]
 ·cases ho:o.dst<;>simp[Act.put,hd]
set_option maxHeartbeats 1000000 in
theorem Sem.any {a d : Nat} {Q : Exit → Tm → St → Prop} {tm : Tm} {s : St} (h : ∀ b : Bool, Q .normal ((tm.set a (.ptr s.ag.length 0)).set d (.bool b)) ⟨s.ag ++ [[.bool b]], s.au⟩) : Sem P B nt (.any a d) Q tm s := by
 intro c hc act w hh
 obtain ⟨id, ops, rfl, hi, hm, W5⟩ := mM hc
 obtain ⟨hlen, hZ⟩ := BE hi
 obtain ⟨ol, rfl⟩ : ∃ ol : List Oper, ops = ol.toArray := ⟨ops.toList, by simp⟩
 simp only[List.toList_toArray]at hi hlen hZ W5
 obtain ⟨o0, o1, o2, o3, rfl⟩ : ∃ o0 o1 o2 o3, ol = [o0, o1, o2, o3] := by
   have h4 : ol.length = 4 := hlen.symm
   rcases ol with _|⟨o0, _|⟨o1, _|⟨o2, _|⟨o3, _|⟨o4, r⟩⟩⟩⟩⟩<;>simp at h4
   exact ⟨_, _, _, _, rfl⟩
 simp only[zaf, zaj, List.cons.injEq, and_true]at W5
 obtain ⟨e0, e1, e2, e3⟩ := W5
 obtain ⟨a0, g0, c0⟩ := hZ 0 o0 rfl
 obtain ⟨a1, g1, c1⟩ := hZ 1 o1 rfl
 obtain ⟨a2, g2, c2⟩ := hZ 2 o2 rfl
 obtain ⟨a3, g3, c3⟩ := hZ 3 o3 rfl
 cases g0; cases g1; cases g2; cases g3
 refine wp_region_any hm ?_
 have lx : Holds B nt tm s act { w with drawn := w.drawn + 1 } := by
   obtain ⟨M, e, r, ht, hn, hd⟩ := hh
   exact ⟨M, ⟨e.le, e.kept, e.vz, e.rH, e.uE, e.size, e.os, e.tape, e.output⟩, r.of_heap rfl, ht, hn, hd⟩
 have ready : ∀ {L : Array Bool} {i : Nat} {o : Oper}, ([o0, o1, o2, o3].toArray)[i]? = some o → L.getD i true = false → (∀ j ∈ ki o, L.getD j false = true) → Region.ready .any ([o0, o1, o2, o3].toArray) L = [] → False := by
   intro L i o ho h1 h2 h3
   have : i ∈ Region.ready .any ([o0, o1, o2, o3].toArray) L := mem_ready.2 ⟨h1, o, ho, fun e he hb => h2 _ (wq.2 ⟨e, he, hb, rfl⟩)⟩
   rw[h3]at this; cases this
 have Ay : ∀ {L : Array Bool} {i : Nat} {o : Oper}, ([o0, o1, o2, o3].toArray)[i]? = some o → i ∈ Region.ready .any ([o0, o1, o2, o3].toArray) L → L.getD i true = false ∧ ∀ j ∈ ki o, L.getD j false = true := by
   intro L i o ho hr
   obtain ⟨h1, o', nF, h2⟩ := mem_ready.1 hr
   rw[ho]at nF; cases nF
   refine ⟨h1, fun j hj =>?_⟩
   obtain ⟨e, he, hb, rfl⟩ := wq.1 hj
   exact h2 e he hb
 have four : ∀ {L : Array Bool} {i : Nat}, i ∈ Region.ready .any ([o0, o1, o2, o3].toArray) L → i < 4 := by
   intro L i hr
   obtain ⟨_, o, ho, _⟩ := mem_ready.1 hr
   exact (zaU.1 ho).1
 -- the box
 have n0 : ∀ b : Bool, (s.ag ++ [[D.bool b]])[s.ag.length]? = some [.bool b] := fun b => by simp
 let Er := tm.set a (.ptr s.ag.length 0)
 have ga : Er.get a = .ptr s.ag.length 0 := by rw[Tm.Fu, if_pos rfl]
 have v0 : jA P [.op (some a) none (.alloc [.bool false])] (fun x y => x = Er ∧ y = ⟨s.ag ++ [[.bool false]], s.au⟩) tm s := ⟨rfl, rfl⟩
 have vs : ∀ b b' : Bool, jA P [.op none none (.store (.s a) (.k (.bool b')) 1)] (fun x y => x = Er ∧ y = ⟨s.ag ++ [[.bool b']], s.au⟩) Er ⟨s.ag ++ [[.bool b]], s.au⟩ := fun b b' => by
   simp[jA, guarded, bF, X.ev, ga, D.row, fU, Tm.put]
 have vl : ∀ b : Bool, jA P [.op (some d) none (.load (.s a) false 1)] (fun x y => x = Er.set d (.bool b) ∧ y = ⟨s.ag ++ [[.bool b]], s.au⟩) Er ⟨s.ag ++ [[.bool b]], s.au⟩ := fun b => by
   simp[jA, guarded, bF, X.ev, ga, part, Tm.put]
 have last : ∀ (b : Bool) (act : Act) (w : World), Holds B nt (Er.set d (.bool b)) ⟨s.ag ++ [[.bool b]], s.au⟩ act w → wpAny P .any ([o0, o1, o2, o3].toArray) (n6 B nt Q) 0 #[true, true, true, true] act w := fun b act w hw => by
   refine ⟨?_, _, _, h b, hw⟩
   cases hr : Region.ready .any ([o0, o1, o2, o3].toArray) #[true, true, true, true] with
   |nil => rfl
   | cons j js =>
     have hj : j ∈ Region.ready .any ([o0, o1, o2, o3].toArray) #[true, true, true, true] := by rw[hr]; simp
     have := four hj
     obtain ⟨h1, _⟩ := mem_ready.1 hj
     have hv : j = 0 ∨ j = 1 ∨ j = 2 ∨ j = 3 := by omega
     rcases hv with rfl|rfl|rfl|rfl
     · cases h1
     · cases h1
     · cases h1
     · cases h1
 have third : ∀ (b : Bool) (act : Act) (w : World), Holds B nt Er ⟨s.ag ++ [[.bool b]], s.au⟩ act w → wpAny P .any ([o0, o1, o2, o3].toArray) (n6 B nt Q) 1 #[true, true, true, false] act w := fun b act w hw => by
   refine ⟨fun hr => (ready (i := 3) (o := o3) rfl rfl (fun j hj =>?_) hr).elim, fun i hi =>?_⟩
   · rw [e3] at hj
     simp only[zaq, zbG, or_false]at hj
     rcases hj with rfl|rfl|rfl|rfl<;>rfl
   · have h4 := four hi
     obtain ⟨h1, _⟩ := mem_ready.1 hi
     have hv : i = 0 ∨ i = 1 ∨ i = 2 ∨ i = 3 := by omega
     rcases hv with rfl|rfl|rfl|rfl
     · cases h1
     · cases h1
     · cases h1
     · exact sy rfl c3 hw (vl b) fun a' w' h' => last b a' w' h'
 have ae9 : ∀ (act : Act) (w : World), Holds B nt Er ⟨s.ag ++ [[.bool true]], s.au⟩ act w → wpAny P .any ([o0, o1, o2, o3].toArray) (n6 B nt Q) 2 #[true, true, false, false] act w := fun act w hw => by
   refine ⟨fun hr => (ready (i := 2) (o := o2) rfl rfl (fun j hj =>?_) hr).elim, fun i hi =>?_⟩
   · rw [e2] at hj
     simp only[zaq, zbG, or_false]at hj
     subst hj; rfl
   · have h4 := four hi
     obtain ⟨h1, _⟩ := mem_ready.1 hi
     have hv : i = 0 ∨ i = 1 ∨ i = 2 ∨ i = 3 := by omega
     rcases hv with rfl|rfl|rfl|rfl
     · cases h1
     · cases h1
     · exact sy rfl c2 hw (vs true false) fun a' w' h' => third false a' w' h'
     · have := (Ay (i := 3) (o := o3) rfl hi).2 2 (by rw[e3]; simp); cases this
 have afa : ∀ (act : Act) (w : World), Holds B nt Er ⟨s.ag ++ [[.bool false]], s.au⟩ act w → wpAny P .any ([o0, o1, o2, o3].toArray) (n6 B nt Q) 2 #[true, false, true, false] act w := fun act w hw => by
   refine ⟨fun hr => (ready (i := 1) (o := o1) rfl rfl (fun j hj =>?_) hr).elim, fun i hi =>?_⟩
   · rw [e1] at hj
     simp only[zaq, zbG, or_false]at hj
     subst hj; rfl
   · have h4 := four hi
     obtain ⟨h1, _⟩ := mem_ready.1 hi
     have hv : i = 0 ∨ i = 1 ∨ i = 2 ∨ i = 3 := by omega
     rcases hv with rfl|rfl|rfl|rfl
     · cases h1
     · exact sy rfl c1 hw (vs false true) fun a' w' h' => third true a' w' h'
     · cases h1
     · have := (Ay (i := 3) (o := o3) rfl hi).2 1 (by rw[e3]; simp); cases this
 have first : ∀ (act : Act) (w : World), Holds B nt Er ⟨s.ag ++ [[.bool false]], s.au⟩ act w → wpAny P .any ([o0, o1, o2, o3].toArray) (n6 B nt Q) 3 #[true, false, false, false] act w := fun act w hw => by
   refine ⟨fun hr => (ready (i := 1) (o := o1) rfl rfl (fun j hj =>?_) hr).elim, fun i hi =>?_⟩
   · rw [e1] at hj
     simp only[zaq, zbG, or_false]at hj
     subst hj; rfl
   · have h4 := four hi
     obtain ⟨h1, _⟩ := mem_ready.1 hi
     have hv : i = 0 ∨ i = 1 ∨ i = 2 ∨ i = 3 := by omega
     rcases hv with rfl|rfl|rfl|rfl
     · cases h1
     · exact sy rfl c1 hw (vs false true) fun a' w' h' => ae9 a' w' h'
     · exact sy rfl c2 hw (vs false false) fun a' w' h' => afa a' w' h'
     · have := (Ay (i := 3) (o := o3) rfl hi).2 1 (by rw[e3]; simp); cases this
 show wpAny P .any ([o0, o1, o2, o3].toArray) (n6 B nt Q) 4 #[false, false, false, false] act _
 refine ⟨fun hr => (ready (i := 0) (o := o0) rfl rfl (fun j hj => by rw[e0]at hj; cases hj) hr).elim, fun i hi =>?_⟩
 have h4 := four hi
 have hv : i = 0 ∨ i = 1 ∨ i = 2 ∨ i = 3 := by omega
 rcases hv with rfl|rfl|rfl|rfl
 · exact sy rfl c0 lx v0 fun a' w' h' => first a' w' h'
 · have := (Ay (i := 1) (o := o1) rfl hi).2 0 (by rw[e1]; simp); cases this
 · have := (Ay (i := 2) (o := o2) rfl hi).2 0 (by rw[e2]; simp); cases this
 · have := (Ay (i := 3) (o := o3) rfl hi).2 0 (by rw[e3]; simp); cases this
end
end Go.Abs
namespace Go.Abs
theorem nd {α:Type} {a b:α} (h:a=b):a=b:=h
def GJ (g:D) (w:Bool) (A C:Prop):Prop:=
 match g with
 | .bool b=>(b=w→A)∧(b=(!w)→C)
 | .tuple _=>C
 |_=>False
class Two where
 a:Prop
 c:Prop
def CB (d:D) [b:Two] : Prop:=wu d b.a b.c
def GB (d:D) (w:Bool) [b:Two] : Prop:=GJ d w b.a b.c
def pR (g:Option (Nat×Bool)) (tm:Tm) (A C:Prop):Prop:=
 match g with
 |none=>A
 |some (t,w)=>GJ (tm.get t) w A C
def l7 (P:Program):List AI→(Tm→St→Prop)→Tm→St→Prop
 | [],K,tm,s=>K tm s
 | .op dst g o::r,K,tm,s=>pR g tm (match bF o tm s with|some (d,s')=>l7 P r K (tm.put dst d) s'|none=>False) (l7 P r K (tm.put dst (.tuple [])) s)
 | .call dst g f xs::r,K,tm,s=>pR g tm (CL false P f (xs.map (·.ev tm)) s fun d s'=>l7 P r K (tm.put dst d) s') (l7 P r K (tm.put dst (.tuple [])) s)
 | .nil dst g neg x::r,K,tm,s=>
  pR g tm (match x.ev tm with
   | .slice _ _ rows=>∀ b:Bool,(rows≠ []→b=false)→l7 P r K (tm.put dst (.bool (if neg then !b else b))) s
   |_=>False) (l7 P r K (tm.put dst (.tuple [])) s)
 | .lR dst g t xs::r,K,tm,s=>
  pR g tm (match tm.get t with
   | .iL f qp=>enters P f=true∧CL false P f (xs.map (·.ev tm)++qp) s fun d s'=>l7 P r K (tm.put dst d) s'
   |_=>False) (l7 P r K (tm.put dst (.tuple [])) s)
theorem wv {g:Option (Nat×Bool)} {tm:Tm} {A C A' C':Prop} (h:pR g tm A C) (ha:A→A') (hc:C→C'):guarded g tm A' C':=by
 unfold pR at h
 unfold guarded
 cases g with
 |none=>exact ha h
 | some p=>
  obtain⟨t,w⟩:=p
  simp only[GJ]at h ⊢
  split at h
  ·rename_i hb;try simp only [hb]
   exact⟨fun e=>ha (h.1 e),fun e=>hc (h.2 e)⟩
  ·rename_i hb;try simp only [hb]
   exact hc h
  ·exact h.elim
theorem qZ {P:Program} {K:Tm→St→Prop} : ∀ {is:List AI} {tm:Tm} {s:St},l7 P is K tm s→jA P is K tm s
 | [],tm,s,h=>h
 | .op dst g o::r,tm,s,h=>by
  refine wv h (fun h=>?_) qZ
  split at h
  ·rename_i he;try simp only [he]
   exact qZ h
  ·exact h.elim
 | .call dst g f xs::r,tm,s,h=>wv h (fun h=>bk.mono h fun _ _ h=>qZ h) qZ
 | .nil dst g neg x::r,tm,s,h=>by
  refine wv h (fun h=>?_) qZ
  split at h
  ·rename_i he;try simp only [he]
   exact fun b hb=>qZ (h b hb)
  ·exact h.elim
 | .lR dst g t xs::r,tm,s,h=>by
  refine wv h (fun h=>?_) qZ
  split at h
  ·rename_i he;try simp only [he]
   exact⟨h.1,bk.mono h.2 fun _ _ h=>qZ h⟩
  ·exact h.elim
def iP (P:Program) (K:Tm→St→Prop):List (AI×Nat)→List St→Tm→St→Prop
 | [],_,tm,s=>K tm s
 |(.op dst g o,b)::r,cf,tm,s=>
  match o.core with
  |true=>pR g tm (match bF o tm s with|some (d,s')=>iP P K r (s::cf) (tm.put dst d) s'|none=>False) (iP P K r (s::cf) (tm.put dst (.tuple [])) s)
  |false=>pR g tm (match bF o tm s with|some (d,_)=>qP (.op dst none o) tm d (cf.take b)∧iP P K r cf (tm.put dst d) s|none=>False) (iP P K r cf (tm.put dst (.tuple [])) s)
 |(.call dst g f xs,_)::r,cf,tm,s=>pR g tm (CL true P f (xs.map (·.ev tm)) s fun d s'=>iP P K r (s::cf) (tm.put dst d) s') (iP P K r (s::cf) (tm.put dst (.tuple [])) s)
 |(.nil ..,_)::_,_,_,_=>False
 |(.lR ..,_)::_,_,_,_=>False
theorem Et {P:Program} {t:Nat} {w:Bool} {tm:Tm} {i:AI} {b:Nat} {r:List (AI×Nat)} {K:Tm→St→Prop} {cf:List St} {s:St} {A C:Prop} (h:pR (some (t,w)) tm A C) (ha:A→jm P K ((i,b)::r) cf tm s)
 (hc:C→jm P K r (if jh i.kind then s::cf else cf) (tm.put i.dst (.tuple [])) s):GL P (tm.get t) w i b r K cf tm s:=by
 simp only[pR,GJ]at h
 unfold GL
 split at h
 ·rename_i hb;try simp only [hb]
  exact⟨fun e=>ha (h.1 e),fun e=>hc (h.2 e)⟩
 ·rename_i hb;try simp only [hb]
  exact hc h
 ·exact h.elim
theorem oV {P:Program} {K:Tm→St→Prop} : ∀ {l:List (AI×Nat)} {cf:List St} {tm:Tm} {s:St},iP P K l cf tm s→jm P K l cf tm s
 | [],cf,tm,s,h=>h
 | (.op dst g o,b)::r,cf,tm,s,h=>by
  simp only[iP]at h
  cases hc:o.core with
  | true=>
   simp only[hc]at h
   have ha:(match bF o tm s with|some (d,s')=>iP P K r (s::cf) (tm.put dst d) s'|none=>False)→jm P K ((.op dst none o,b)::r) cf tm s:=by
    intro h
    refine OB ?_
    simp only[OL,hc,ML]
    split at h
    ·rename_i he;try simp only [he]
     exact oV h
    ·exact h.elim
   cases g with
   |none=>exact ha h
   |some p=>
    obtain⟨t,w⟩:=p
    refine LP (Et h ha fun h=>?_)
    simp only[wQ,hc,if_true]
    exact oV h
  | false=>
   simp only[hc]at h
   have ha:(match bF o tm s with|some (d,_)=>qP (.op dst none o) tm d (cf.take b)∧iP P K r cf (tm.put dst d) s|none=>False)→jm P K ((.op dst none o,b)::r) cf tm s:=by
    intro h
    refine OB ?_
    simp only[OL,hc,PL]
    split at h
    ·rename_i he;try simp only [he]
     exact⟨h.1,oV h.2⟩
    ·exact h.elim
   cases g with
   |none=>exact ha h
   |some p=>
    obtain⟨t,w⟩:=p
    refine LP (Et h ha fun h=>?_)
    simp only[wQ,hc]
    exact oV h
 | (.call dst g f xs,b)::r,cf,tm,s,h=>by
  simp only[iP]at h
  have ha:(CL true P f (xs.map (·.ev tm)) s fun d s'=>iP P K r (s::cf) (tm.put dst d) s')→jm P K ((.call dst none f xs,b)::r) cf tm s:=
   fun⟨d,s',h1,h2⟩=>Uk ⟨d,s',h1,oV h2⟩
  cases g with
  |none=>exact ha h
  |some p=>
   obtain⟨t,w⟩:=p
   exact Rf (Et h ha fun h=>oV h)
 |(.nil ..,_)::_,cf,tm,s,h=>h.elim
 |(.lR ..,_)::_,cf,tm,s,h=>h.elim
section
variable {P:Program} {B:gK} {nt:Nat}
def iW (P:Program) (B:gK) (nt:Nat):AC→(Exit→Tm→St→Prop)→Tm→St→Prop
 | .skip,Q,tm,s=>Q .normal tm s
 | .run is,Q,tm,s=>l7 P is (Q .normal) tm s
 | .par is nZ,Q,tm,s=>match pQ is nZ with|some l=>iP P (Q .normal) l [] tm s|none=>False
 | .any a d,Q,tm,s=>∀ b:Bool,Q .normal ((tm.set a (.ptr s.ag.length 0)).set d (.bool b)) ⟨s.ag++ [[.bool b]],s.au⟩
 | .seq a b,Q,tm,s=>iW P B nt a (kp (iW P B nt b Q) Q) tm s
 | .cond x a b,Q,tm,s=>wu (x.ev tm) (iW P B nt a Q tm s) (iW P B nt b Q tm s)
 | .block id a,Q,tm,s=>iW P B nt a (fV id Q) tm s
 | .loop a,Q,tm,s=>aJ P B nt a Q tm s
 | .exit id,Q,tm,s=>Q (.exit id) tm s
 | .scope a,Q,tm,s=>nM P B nt a a Q tm s
 | .label _,Q,tm,s=>Q .normal tm s
 | .goto l,Q,tm,s=>Q (.goto l) tm s
 | .ret,Q,tm,s=>Q .ret tm s
theorem iM : ∀ {ac:AC} {Q:Exit→Tm→St→Prop} {tm:Tm} {s:St},iW P B nt ac Q tm s→Sem P B nt ac Q tm s:=by
 intro ac
 induction ac with
 |skip=>exact fun h=>Sem.skip h
 |run is=>exact fun h=>Sem.run (qZ h)
 |par is nZ=>
  intro Q tm s h
  simp only[iW]at h
  split at h
  ·exact Sem.ap0 ‹_› (oV h)
  ·exact h.elim
 |any a d=>exact fun h=>Sem.any h
 |seq a b Iz IA=>
  intro Q tm s h
  refine Sem.seq ((Iz h).mono fun e tm s hq=>?_)
  cases e with
  |normal=>exact IA hq
  |_=>exact hq
 |cond x a b Iz IA=>
  intro Q tm s h
  refine Sem.adW ?_
  simp only[iW]at h
  unfold wu at h ⊢
  split at h
  ·exact⟨fun e=>Iz (h.1 e),fun e=>IA (h.2 e)⟩
  ·exact h.elim
 |block id a ih=>exact fun h=>Sem.block (ih h)
 |loop a ih=>exact fun h=>Sem.loop h
 |exit id=>exact fun h=>Sem.exit h
 |scope a ih=>exact fun h=>Sem.scope h
 |label l=>exact fun h=>Sem.label h
 |goto l=>exact fun h=>Sem.goto h
 |ret=>exact fun h=>Sem.ret h
section
variable (Q:Exit→Tm→St→Prop) (N:Tm→St→Prop) (tm:Tm) (s:St) (a b:AC) (is:List AI) (x:X)
theorem aaq:iW P B nt .skip Q tm s=Q .normal tm s:=nd rfl
theorem afb:iW P B nt (.run is) Q tm s=l7 P is (Q .normal) tm s:=nd rfl
theorem afc (nZ:List (Nat×Nat)):iW P B nt (.par is nZ) Q tm s=match pQ is nZ with|some l=>iP P (Q .normal) l [] tm s|none=>False:=nd rfl
theorem afd (i j:Nat):iW P B nt (.any i j) Q tm s = ∀ b:Bool,Q .normal ((tm.set i (.ptr s.ag.length 0)).set j (.bool b)) ⟨s.ag++ [[.bool b]],s.au⟩:=nd rfl
theorem afe:iW P B nt (.seq a b) Q tm s=iW P B nt a (kp (iW P B nt b Q) Q) tm s:=nd rfl
theorem aar:iW P B nt (.cond x a b) Q tm s = @CB (x.ev tm) ⟨iW P B nt a Q tm s,iW P B nt b Q tm s⟩:=nd rfl
theorem Xo (id:Nat):iW P B nt (.block id a) Q tm s=iW P B nt a (fV id Q) tm s:=nd rfl
theorem aas:iW P B nt (.loop a) Q tm s=aJ P B nt a Q tm s:=nd rfl
theorem Xp:iW P B nt (.scope a) Q tm s=nM P B nt a a Q tm s:=nd rfl
theorem aat (id:Nat):iW P B nt (.exit id) Q tm s=Q (.exit id) tm s:=nd rfl
theorem Xq (id:Nat):iW P B nt (.label id) Q tm s=Q .normal tm s:=nd rfl
theorem aau (id:Nat):iW P B nt (.goto id) Q tm s=Q (.goto id) tm s:=nd rfl
theorem aff:iW P B nt .ret Q tm s=Q .ret tm s:=nd rfl
theorem afg:kp N Q .normal tm s=N tm s:=nd rfl
theorem afh:kp N Q .ret tm s=Q .ret tm s:=nd rfl
theorem afi (id:Nat):kp N Q (.exit id) tm s=Q (.exit id) tm s:=nd rfl
theorem afj (id:Nat):kp N Q (.goto id) tm s=Q (.goto id) tm s:=nd rfl
theorem aav (id:Nat):fV id Q .normal tm s=Q .normal tm s:=nd rfl
theorem aaw (id:Nat):fV id Q .ret tm s=Q .ret tm s:=nd rfl
theorem aax (id l:Nat):fV id Q (.goto l) tm s=Q (.goto l) tm s:=nd rfl
theorem aay (id i:Nat):fV id Q (.exit i) tm s=if i=id then Q .normal tm s else Q (.exit i) tm s:=nd rfl
end
theorem aJ.fl {a:AC} {Q:Exit→Tm→St→Prop} {tm:Tm} {s:St} (h:iW P B nt a (kp (aJ P B nt a Q) Q) tm s):aJ P B nt a Q tm s:=aJ.once (iM h)
theorem nM.fl {a r:AC} {Q:Exit→Tm→St→Prop} {tm:Tm} {s:St} (h:iW P B nt r (CF P B nt a Q) tm s):nM P B nt a r Q tm s:=nM.once (iM h)
def zL (tm:Tm) (n m:Nat):Tm→Prop
 | []=>True
 |(k,d)::r=>Wk ((tm.get k).fg n m) d∧zL tm n m r
theorem zL.get {tm:Tm} {n m:Nat} : ∀ {da:Tm},zL tm n m da→∀ t,Wk ((tm.get t).fg n m) (da.get t)
 | [],_,t=>Wk.junk _
 |(k,d)::r,h,t=>by
  simp only[Tm.get]
  split
  ·rename_i hk;subst hk;exact h.1
  ·exact zL.get h.2 t
theorem Holds.re {Q:Exit→Tm→St→Prop} {tm da:Tm} {s:St} {iQ:List (List D)} {act:Act} {w:World} (n m:Nat) (hn:B.s.ag.length≤n) (hm:B.s.au.length≤m) (ht:zL tm n m da) (ho:iF (s.cut n m).ag iQ)
 (h:Holds B nt tm s act w):Holds B nt da ⟨iQ,(s.cut n m).au⟩ act w:=by
 obtain⟨M,e,r,hr,h1,h2⟩:=h
 obtain⟨r',le⟩:=(r.cut n m).mT ho
 have e':=e.cut hn hm
 refine⟨M,e'.trans ⟨le,fun _ _ _ _=>rfl,fun o h1 h2=>?_,fun t b c z hl e=> .inl ⟨hl,c,z,e⟩,fun _ _ h=>(h rfl).elim,zak _,rfl,rfl,rfl⟩,r',fun k=>((ht.get k) _ _ _ ((hr k).fg n m)).mono le,h1,h2⟩
 rw[← ho.len]at h2
 exact h1.elim (fun h1=>absurd h2 (Nat.not_lt.2 h1)) fun h1=>(h1 rfl).elim
theorem aJ.re {a:AC} {Q:Exit→Tm→St→Prop} {tm:Tm} {s:St} (da:Tm) (iQ:List (List D)) (n m:Nat) (hn:B.s.ag.length≤n) (hm:B.s.au.length≤m) (ht:zL tm n m da) (ho:iF (s.cut n m).ag iQ)
 (h:aJ P B nt a Q da ⟨iQ,(s.cut n m).au⟩):aJ P B nt a Q tm s:=
 fun c hc act w hh=>h c hc act w (hh.re (Q:=Q) n m hn hm ht ho)
theorem aJ.ind {ι:Type} {a:AC} {Q:Exit→Tm→St→Prop} (I:ι→Prop) (μ:ι→Nat) (TM:ι→Tm) (ST:ι→St)
 (step : ∀ i,I i→(∀ j,I j→μ j<μ i→aJ P B nt a Q (TM j) (ST j))→iW P B nt a (kp (aJ P B nt a Q) Q) (TM i) (ST i)) : ∀ i,I i→aJ P B nt a Q (TM i) (ST i):=by
 have key : ∀ n i,μ i<n→I i→aJ P B nt a Q (TM i) (ST i):=by
  intro n
  induction n with
  |zero=>intro i h;exact absurd h (zaT _)
  |succ n ih=>exact fun i h hi=>aJ.fl (step i hi fun j hj hD=>ih j (by omega) hj)
 exact fun i hi=>key (μ i+1) i (zae _) hi
theorem drop_cons {α:Type} {l rest:List α} {k:Nat} {x:α} (h:l.drop k=x::rest):l[k]? = some x∧l.drop (k+1)=rest∧decide ((k:Int)<(l.length:Int))=true∧k<l.length:=by
 have h1:l[k]? = some x:=by
  have:(l.drop k)[0]? = some x:=by rw[h];rfl
  simpa using this
 have h2:=(zac.1 h1).1
 refine⟨h1, ?_,by simpa using h2,h2⟩
 have:l.drop (k+1)=(l.drop k).drop 1:=by rw[List.drop_drop]
 rw[this,h];rfl
theorem drop_nil {α:Type} {l:List α} {k:Nat} (h:l.drop k = []):decide ((k:Int)<(l.length:Int))=false:=by
 have:=zaI.1 h
 simp;omega
theorem aJ.lA {a:AC} {Q:Exit→Tm→St→Prop} {tm:Tm} {s:St} (t z':Nat) {z:Nat} (hw:tm.get t = .slice .full z [])
 (h:aJ P B nt a Q (tm.set t (.slice (.tok s.au.length) z' [])) {s with au:=s.au++ [some 0]}):aJ P B nt a Q tm s:=by
 intro c hc act w ⟨M,e,r,ht,h1,h2⟩
 obtain⟨r',le⟩:=r.blank
 refine h c hc act w ⟨_,En e le,r',fun k=>?_,h1,h2⟩
 rw[Tm.Fu]
 split
 ·rename_i hk;subst hk;have:=ht k;rw[hw]at this;exact this.own
 ·exact(ht k).mono le
theorem aJ.tR {a:AC} {Q:Exit→Tm→St→Prop} {tm:Tm} {s:St} (o i z':Nat) {z:Nat} {cs:List D} (hc:s.ag[o]? = some cs) (hi:cs[i]? = some (.slice .full z []))
 (h:aJ P B nt a Q tm ⟨s.ag.set o (cs.set i (.slice (.tok s.au.length) z' [])),s.au++ [some 0]⟩):aJ P B nt a Q tm s:=by
 intro c hcc act w hh
 obtain⟨M,e,r,ht,h1,h2⟩:=hh
 obtain⟨r',le⟩:=r.blank
 have OC:Le M s (M.eY s.au.length none) ⟨s.ag.set o (cs.set i (.slice (.tok s.au.length) z' [])),s.au++ [some 0]⟩:=⟨le.G,by simp,le.loc,le.t,le.tk⟩
 have OD:Le (M.eY s.au.length none) {s with au:=s.au++ [some 0]} (M.eY s.au.length none) ⟨s.ag.set o (cs.set i (.slice (.tok s.au.length) z' [])),s.au++ [some 0]⟩:=
  ⟨fun _ _ _ h=>h,by simp,fun _ _=> .refl _,zak _,fun t n' _ e=>⟨n',e,zak _,fun _=>rfl⟩⟩
 have r2:Rel (M.eY s.au.length none) ⟨s.ag.set o (cs.set i (.slice (.tok s.au.length) z' [])),s.au++ [some 0]⟩ w:=by
  refine⟨r'.comm,fun o' ds e=>?_,fun o ho=>r'.kU o (by simpa using ho),fun o o' ho nF=>r'.inj o o' (by simpa using ho) (by simpa using nF),r'.tok,
   fun t b c z o hv e ho=>r'.fL t b c z o hv e (by simpa using ho),r'.gS⟩
  simp only[zaM]at e
  split at e
  ·rename_i ho
   subst ho
   split at e
   ·cases e
    obtain⟨vs,T,g1,g2,g3,g4⟩:=r.obj o cs hc
    refine⟨vs,T,g1,by simpa using g2,g3,fun j d v e1 e2=>?_⟩
    rw[zaM]at e1
    split at e1
    ·rename_i hj
     subst hj
     split at e1
     ·cases e1
      exact((g4 i _ v hi e2).own (z':=z')).mono OD
     ·cases e1
    ·exact(g4 j d v e1 e2).mono OC
   ·cases e
  ·obtain⟨vs,T,g1,g2,g3,g4⟩:=r'.obj o' ds e
   exact⟨vs,T,g1,g2,g3,fun i d v e1 e2=>(g4 i d v e1 e2).mono OD⟩
 have ee:Ext B.M B.s B.w (M.eY s.au.length none) ⟨s.ag.set o (cs.set i (.slice (.tok s.au.length) z' [])),s.au++ [some 0]⟩ w:=by
  refine(En e le).trans ⟨OD,fun _ _ _ _=>rfl,fun o h1 h2=>?_,fun t b c z hl e=> .inl ⟨hl,c,z,e⟩,fun _ _ h=>(h rfl).elim,zak _,rfl,rfl,rfl⟩
  simp at h2
  exact h1.elim (fun h1=>absurd h2 (Nat.not_lt.2 h1)) fun h1=>(h1 rfl).elim
 exact h c hcc act w ⟨_,ee,r2,fun k=>(ht k).mono OC,h1,h2⟩
theorem Hn {ac r:AC} {l:Nat} {Q:Exit→Tm→St→Prop} {tm:Tm} {s:St} (hf:xQ ac l=some r) (h:nM P B nt ac r Q tm s):CF P B nt ac Q (.goto l) tm s:=⟨r,hf,h⟩
theorem Sem.lN {a b:AC} {Q:Exit→Tm→St→Prop} {tm:Tm} {s:St} (h:iW P B nt a (kp (Sem P B nt b Q) Q) tm s):Sem P B nt (.seq a b) Q tm s:=Sem.seq (iM h)
theorem Sem.re {a:AC} {Q:Exit→Tm→St→Prop} {tm:Tm} {s:St} (da:Tm) (iQ:List (List D)) (n m:Nat) (hn:B.s.ag.length≤n) (hm:B.s.au.length≤m) (ht:zL tm n m da) (ho:iF (s.cut n m).ag iQ)
 (h:Sem P B nt a Q da ⟨iQ,(s.cut n m).au⟩):Sem P B nt a Q tm s:=
 fun c hc act w hh=>h c hc act w (hh.re (Q:=Q) n m hn hm ht ho)
def Has (P:Program) (f nt:Nat) (res:List (Nat×Option (Bool×Nat))) (body:AC):Prop:=∃ fn,P.funcs[f]? = some fn∧cF P fn=some ⟨nt,res,body⟩
structure bH (P:Program) (f:Nat) where
 {nt:Nat}
 {res:List (Nat×Option (Bool×Nat))}
 {body:AC}
 h:Has P f nt res body
theorem Has.of {P:Program} {f nt:Nat} {res:List (Nat×Option (Bool×Nat))} {body:AC} (fn:Func) (h1:P.funcs[f]? = some fn:=by kernel_rfl) (h2:cF P fn=some ⟨nt,res,body⟩:=by conv=>lhs;cbv):Has P f nt res body:=⟨fn,h1,h2⟩
theorem al6 {P:Program} {fn:Func} {nt:Nat} {r:List (Nat×Option (Bool×Nat))} {c:Code} {b:AC} (h0:fn.body=some c) (h1:fn.ntmps=nt) (h2:cC P nt c=some b) (h3:D6 P fn.results.toList=some r):cF P fn=some ⟨nt,r,b⟩:=by subst h1;simp only[cF,h0,h2,h3]
theorem ahU {P:Program} {nt:Nat} {a b:Code} {a' b':AC} (h1:cC P nt a=some a') (h2:cC P nt b=some b'):cC P nt (.seq a b)=some (.seq a' b'):=by simp only[cC,h1,h2]
theorem aaz {P:Program} {nt i:Nat} {a:Code} {a':AC} (h1:cC P nt a=some a'):cC P nt (.block i a)=some (.block i a'):=by simp only[cC,h1,za9]
theorem afk {P:Program} {nt:Nat} {a:Code} {a':AC} (h1:cC P nt a=some a'):cC P nt (.loop a)=some (.loop a'):=by simp only[cC,h1,za9]
theorem ahV {P:Program} {nt k:Nat} {ops:Array Oper} {is:List AI} {af pt:List (List Nat)} {l:List Nat} {pl:List (Nat×Nat)} (h0:P.follows .mixedOrders=true) (h1:sI P nt ops ops.toList=some is) (h2:ops.toList.map ki=af) (h3:Ik [] af=pt)
 (h4:Tl is pt ((List.range is.length).filter fun i=>kF is i == .core) (List.range is.length) [] = l) (h5:Tn is pt [] l=pl) (h6:Ij is af pt pl=true):cC P nt (.region k ops true)=some (.par is pl):=by
 subst h2 h3 h4 h5
 show(if P.follows .mixedOrders then(sI P nt ops ops.toList).bind (D5 · (ops.toList.map ki))else none)=_
 rw[if_pos h0,h1]
 have h7:Ts is (ops.toList.map ki)=some (.par is (NW is (ops.toList.map ki))):=if_pos h6
 show D5 is _=_
 unfold D5
 rw[h7]
 rfl
theorem afl {P:Program} {nt:Nat} {x:Operand} {x':X} {a b:Code} {a' b':AC} (h0:cX x=some x') (h1:cC P nt a=some a') (h2:cC P nt b=some b'):cC P nt (.cond x a b)=some (.cond x' a' b'):=by simp only[cC,h0,h1,h2]
theorem Has.ofB {P:Program} {f nt:Nat} {res:List (Nat×Option (Bool×Nat))} {body:AC} (fn:Func) (h1:P.funcs[f]? = some fn:=by kernel_rfl) (h2:cF P fn=some ⟨nt,res,body⟩:=by apply al6;(exact rfl);(conv=>lhs;cbv);rotate_left;(conv=>lhs;cbv);repeat' (first|with_reducible apply ahU|(conv=>lhs;cbv)|with_reducible apply aaz|with_reducible apply afk|with_reducible apply afl|(with_reducible apply ahV;(kernel_rfl);(conv=>lhs;cbv);(conv=>lhs;cbv);(conv=>lhs;cbv);(conv=>lhs;cbv);(conv=>lhs;cbv);kernel_rfl))):Has P f nt res body:=⟨fn,h1,h2⟩
def AC.at:List Nat→AC→Option AC
 | [],a=>some a
 | 0::p, .seq a _=>AC.at p a
 |_::p, .seq _ a=>AC.at p a
 | 0::p, .cond _ a _=>AC.at p a
 |_::p, .cond _ _ a=>AC.at p a
 |_::p, .block _ a=>AC.at p a
 |_::p, .loop a=>AC.at p a
 |_::p, .scope a=>AC.at p a
 |_,_=>none
abbrev AC.sub (p:List Nat) (b:AC) {c:AC} (_:AC.at p b=some c:=by rfl):AC:=c
theorem ay.go {f:FuncId} {res:List (Nat×Option (Bool×Nat))} {body:AC} {args:List D} {s:St} {d:D} {s':St} (h0:Has P f nt res body) (hl:Nat.ble args.length nt=true)
 (h : ∀ (B:gK) (Q:Exit→Tm→St→Prop),B.s=s→oa s.ag.length s.au.length res d s'=Q→iW P B nt body Q (ox 0 args) s):ay P f args s d s':=by
 obtain⟨fn,hf,hc⟩:=h0
 exact ay.intro ⟨fn,hf,hc⟩ (zbl hl) fun B hB=>iM (h B _ hB rfl)
theorem ay.Ul {f:FuncId} {pre post:List D} {rows rf:List (List D)} {z z' k k':Nat} (h:ay P f (pre++ .slice (.tok 0) z rows::post) ⟨[],[some k]⟩ (.slice (.tok 0) z' rf) ⟨[],[some k']⟩)
 (hp:D.bJ 0 0 pre=true) (ha:D.bJ 0 0 post=true) (hw:D.jB 0 0 rows=true) (hw':D.jB 0 0 rf=true)
 {s:St} {t:Nat} (ht:s.au[t]? = some (some k)):ay P f (pre++ .slice (.tok t) z rows::post) s (.slice (.tok t) z' rf) ⟨s.ag,s.au.set t (some k')⟩:=by
 refine bk.frame [] [t] h (by simp) (by simp) (by simp) (by simpa using (zac.1 ht).1) rfl (fun i o' ds e1 e2=>by simp at e1) rfl (fun i t' e1=>?_)
  ?_ ?_ ?_
 ·cases i with
  |zero=>simp at e1;subst e1;simp[ht]
  |succ i=>simp at e1
 ·have h1:=fN [] [t] _ hp
  have h2:=fN [] [t] _ ha
  rw[iw]at h1 h2
  simp[iw,D.di,Tag.di,h1,h2,kH _ _ _ hw]
 ·have h1:=jW (n':=0) (m':=1) (zak 0) (zaA 1) _ hp
  have h2:=jW (n':=0) (m':=1) (zak 0) (zaA 1) _ ha
  rw[By]at h1 h2 ⊢
  simp only[zaC,zas,List.all_append,h1,zbf,List.all_cons,h2,zbz,D.ok,Tag.ok,oU (zaA 0) (zaA 1) _ hw]
  rfl
 ·rintro _ _ ⟨rfl,rfl⟩
  refine⟨by simp[D.back,D.di,Tag.di,lj,kH _ _ _ hw'], ?_⟩
  simp[St.back,l6]
theorem ap3 (A C:Prop) : @CB (.bool true) ⟨A,C⟩=A:=by simp[CB,wu]
theorem ap4 (A C:Prop) : @CB (.bool false) ⟨A,C⟩=C:=by simp[CB,wu]
theorem ahX (b:Bool) (A C:Prop) : @CB (.bool (!b)) ⟨A,C⟩ = @CB (.bool b) ⟨C,A⟩:=by
 cases b<;>simp[CB,wu]
theorem OE {b:Bool} {A C:Prop} (h1:b=true→A) (h2:b=false→C) : @CB (.bool b) ⟨A,C⟩:=⟨h1,h2⟩
theorem ahY {b:Bool} {A C:Prop} (h:b=true) (h1:b=true→A) : @CB (.bool b) ⟨A,C⟩:=OE h1 (fun h'=>by rw[h]at h';cases h')
theorem ahZ {b:Bool} {A C:Prop} (h:b=false) (h1:b=false→C) : @CB (.bool b) ⟨A,C⟩:=OE (fun h'=>by rw[h]at h';cases h') h1
theorem al7 {n m:Nat} {res:List (Nat×Option (Bool×Nat))} {d:D} {s':St} {tm:Tm} {s:St} {Q:Exit→Tm→St→Prop} (hQ:oa n m res d s'=Q)
 (h : ∃ l,bZ res tm s=some l∧Wk ((cd l).fg n m) d∧iF (s.cut n m).ag s'.ag∧(s.cut n m).au=s'.au):Q .ret tm s:=hQ ▸ h
theorem al8 {n m:Nat} {res:List (Nat×Option (Bool×Nat))} {d:D} {s':St} {tm:Tm} {s:St} {Q:Exit→Tm→St→Prop} (hQ:oa n m res d s'=Q)
 (h : ∃ l,bZ res tm s=some l∧Wk ((cd l).fg n m) d∧iF (s.cut n m).ag s'.ag∧(s.cut n m).au=s'.au):Q .normal tm s:=hQ ▸ h
end
attribute [go_sem] aaq afb afc afd afe aar Xo aas Xp aat Xq aau aff afg afh afi afj aav aaw aax aay
theorem Xr : ∀ (tm:Tm) (s:St) (x:X),bF (AO.mv x) tm s=some (X.ev tm x,s):=
 fun tm s x=>nd (bF.eq_1 tm s x)
theorem Xs : ∀ (tm:Tm) (s:St) (c a b:X),
 bF (AO.pick c a b) tm s =
  match X.ev tm c with
  |D.bool t=>some (if t=true then X.ev tm a else X.ev tm b,s)
  |x=>none:=
 fun tm s c a b=>nd (bF.eq_2 tm s c a b)
theorem Xt : ∀ (tm:Tm) (s:St) (zero:List D),
 bF (AO.alloc zero) tm s=some (D.ptr s.ag.length 0,{ag:=s.ag++ [zero],au:=s.au}):=
 fun tm s zero=>nd (bF.eq_3 tm s zero)
theorem Xu : ∀ (tm:Tm) (s:St) (x:X),
 bF (AO.box x) tm s =
  match (X.ev tm x).row with
  |some r=>some (D.ptr s.ag.length 0,{ag:=s.ag++ [r],au:=s.au})
  |none=>none:=
 fun tm s x=>nd (bF.eq_4 tm s x)
theorem Xv : ∀ (tm:Tm) (s:St) (zero:List D) (parts:List (Nat×Nat×X)),
 bF (AO.build zero parts) tm s =
  match uF zero (List.map (fun(p:Nat×Nat×X)=>(p.fst,p.snd.fst,X.ev tm p.snd.snd)) parts)with
  |some cs=>some (D.agg cs,s)
  |none=>none:=
 fun tm s zero parts=>nd (bF.eq_5 tm s zero parts)
theorem Xw : ∀ (tm:Tm) (s:St) (zero:List D) (size n:Nat) (parts:List (Nat×X)),
 bF (AO.rI zero size n parts) tm s =
  match lM size (gJ zero n) (List.map (fun(p:Nat×X)=>(p.fst,X.ev tm p.snd)) parts)with
  |some rows=>some (D.slice Tag.full size rows,s)
  |none=>none:=
 fun tm s zero size n parts=>nd (bF.eq_6 tm s zero size n parts)
theorem Xx : ∀ (tm:Tm) (s:St) (zero:List D) (size n:Nat) (parts:List (Nat×X)),
 bF (AO.yk zero size n parts) tm s =
  match lM size (gJ zero n) (List.map (fun(p:Nat×X)=>(p.fst,X.ev tm p.snd)) parts)with
  |some rows=>
   some (D.slice (Tag.tok s.au.length) size rows,{ag:=s.ag,au:=s.au++ [some rows.length]})
  |none=>none:=
 fun tm s zero size n parts=>nd (bF.eq_7 tm s zero size n parts)
theorem Xy : ∀ (tm:Tm) (s:St) (x:X),
 bF (AO.Gi x) tm s =
  match X.ev tm x with
  | D.slice (Tag.tok t _) z rows=>
   if rows≠ []∧s.au[t]? = some (some rows.length)then
    some (D.slice Tag.shared z rows,{ag:=s.ag,au:=s.au.set t none})
   else none
  |x=>none:=
 fun tm s x=>nd (bF.eq_8 tm s x)
theorem Xz : ∀ (tm:Tm) (s:St) (x:X) (agg:Bool) (size:Nat),
 bF (AO.load x agg size) tm s =
  match X.ev tm x with
  | D.ptr o off=>
   match s.ag[o]? with
   |some cs=>
    match part cs off agg size with
    |some d=>some (d,s)
    |none=>none
   |none=>none
  |D.dW row off=>
   match part row off agg size with
   |some d=>some (d,s)
   |none=>none
  |x=>Cs x agg size s:=
 fun tm s x agg size=>nd (bF.eq_9 tm s x agg size)
theorem Um : ∀ (tm:Tm) (s:St) (p x:X) (size:Nat),
 bF (AO.store p x size) tm s =
  match X.ev tm p,(X.ev tm x).row with
  | D.ptr o off,some r=>
   match s.ag[o]? with
   | some cs=>
    if r.length=size∧off+size≤cs.length then
     some (D.tuple [],{ag:=s.ag.set o (fU cs off r),au:=s.au})
    else none
   |none=>none
  |x,gh=>D3 x gh size s:=
 fun tm s p x size=>nd (bF.eq_10 tm s p x size)
theorem Un : ∀ (tm:Tm) (s:St) (x:X),
 bF (AO.Ns x) tm s =
  match X.ev tm x with
  |D.ptr o off=>some (D.ptr o off,s)
  |D.dW row off=>some (D.dW row off,s)
  |x=>match To x with|some d=>some (d,s)|none=>none:=
 fun tm s x=>nd (bF.eq_11 tm s x)
theorem Uo : ∀ (tm:Tm) (s:St) (op:BinOp) (x y:X),
 bF (AO.bin op x y) tm s =
  match Az op (X.ev tm x) (X.ev tm y)with
  |some d=>some (d,s)
  |none=>none:=
 fun tm s op x y=>nd (bF.eq_12 tm s op x y)
theorem Uq : ∀ (tm:Tm) (s:St) (neg:Bool) (x y:X),
 bF (AO.RZ neg x y) tm s =
  match X.ev tm x,X.ev tm y with
  |D.bool a,D.bool b=>some (D.bool (if neg=true then !a==b else a==b),s)
  |x,gh=>none:=
 fun tm s neg x y=>nd (bF.eq_13 tm s neg x y)
theorem Ur : ∀ (tm:Tm) (s:St) (neg:Bool) (ks:List Nat) (x y:X),
 bF (AO.eqs neg ks x y) tm s =
  match X.ev tm x,X.ev tm y with
  |D.agg a,D.agg b=>
   match nu ks a b with
   |some e=>some (D.bool (if neg=true then !e else e),s)
   |none=>none
  |x,gh=>none:=
 fun tm s neg ks x y=>nd (bF.eq_14 tm s neg ks x y)
theorem Us : ∀ (tm:Tm) (s:St) (neg:Bool) (x y:X),
 bF (AO.R0 neg x y) tm s =
  match X.ev tm x,X.ev tm y with
  |D.fJ,D.fJ=>some (D.bool !neg,s)
  |D.ptr o off,D.fJ=>some (D.bool neg,s)
  |D.dW row off,D.fJ=>some (D.bool neg,s)
  |x,gh=>none:=
 fun tm s neg x y=>nd (bF.eq_15 tm s neg x y)
theorem Ut : ∀ (tm:Tm) (s:St) (op:UnOp) (x:X),
 bF (AO.un op x) tm s =
  match Lu op (X.ev tm x)with
  |some d=>some (d,s)
  |none=>none:=
 fun tm s op x=>nd (bF.eq_16 tm s op x)
theorem Uu : ∀ (tm:Tm) (s:St) (k:IntKind) (x:X),
 bF (AO.conv k x) tm s =
  match X.ev tm x with
  |D.int k_1 n=>some (D.int k (k.wrap n),s)
  |x=>none:=
 fun tm s k x=>nd (bF.eq_17 tm s k x)
theorem Uv : ∀ (tm:Tm) (s:St) (x:X),
 bF (AO.Nt x) tm s =
  match X.ev tm x with
  |D.slice g size rows=>
   match qY rows with
   |some b=>some (D.str b,s)
   |none=>none
  |x=>none:=
 fun tm s x=>nd (bF.eq_18 tm s x)
theorem Uw : ∀ (tm:Tm) (s:St) (x:X),
 bF (AO.Fp x) tm s =
  match X.ev tm x with
  |D.str l=>some (D.slice Tag.shared 1 (List.map (fun(c:UInt8)=> [D.int IntKind.u8 ↑c.toNat]) l),s)
  |x=>none:=
 fun tm s x=>nd (bF.eq_19 tm s x)
theorem Ux : ∀ (tm:Tm) (s:St) (size:Nat) (x:X) (lo hi:Option X),
 bF (AO.WG size x lo hi) tm s =
  match X.ev tm x with
  | D.slice g z rows=>
   match vt (Option.map (fun(x:X)=>X.ev tm x) lo),
    vu (Option.map (fun(x:X)=>X.ev tm x) hi) rows.length with
   | some l,some h=>
    if(rows = []∨z=size)∧0≤l∧l≤h∧h≤ ↑rows.length then
     some
      (D.slice (if l=0 then g.cut (decide (h = ↑rows.length))else Tag.shared) z
       (List.drop l.toNat (List.take h.toNat rows)),
       s)
    else none
   |x,gh=>none
  |x=>match vA x (Option.map (fun(x:X)=>X.ev tm x) lo) (Option.map (fun(x:X)=>X.ev tm x) hi)with|some d=>some (d,s)|none=>none:=
 fun tm s size x lo hi=>nd (bF.eq_20 tm s size x lo hi)
theorem Uy : ∀ (tm:Tm) (s:St) (x:X) (lo hi:Option X),
 bF (AO.NV x lo hi) tm s =
  match X.ev tm x with
  | D.str t=>
   match vt (Option.map (fun(x:X)=>X.ev tm x) lo),vu (Option.map (fun(x:X)=>X.ev tm x) hi) t.length with
   |some l,some h=>
    if 0≤l∧l≤h∧h≤ ↑t.length then some (D.str (List.drop l.toNat (List.take h.toNat t)),s)else none
   |x,gh=>none
  |x=>none:=
 fun tm s x lo hi=>nd (bF.eq_21 tm s x lo hi)
theorem Uz : ∀ (tm:Tm) (s:St) (x:X) (off:Nat),
 bF (AO.Nu x off) tm s =
  match X.ev tm x with
  |D.ptr o k=>some (D.ptr o (k+off),s)
  |D.dW row k=>some (D.dW row (k+off),s)
  |x=>match Il x off with|some d=>some (d,s)|none=>none:=
 fun tm s x off=>nd (bF.eq_22 tm s x off)
theorem UA : ∀ (tm:Tm) (s:St) (x:X) (off:Nat) (agg:Bool) (size:Nat),
 bF (AO.fld x off agg size) tm s =
  match X.ev tm x with
  |D.agg cs=>
   match part cs off agg size with
   |some d=>some (d,s)
   |none=>none
  |x=>none:=
 fun tm s x off agg size=>nd (bF.eq_23 tm s x off agg size)
theorem UB : ∀ (tm:Tm) (s:St) (x i:X) (size:Nat),
 bF (AO.Nv x i size) tm s =
  match X.ev tm x,X.ev tm i with
  | D.slice g z rows,D.int k n=>
   if 0≤n∧z=size then
    match rows[n.toNat]? with
    |some row=>some (D.dW row 0,s)
    |none=>none
   else none
  |x,gh=>match wB x gh size with|some d=>some (d,s)|none=>none:=
 fun tm s x i size=>nd (bF.eq_24 tm s x i size)
theorem UC : ∀ (tm:Tm) (s:St) (x i:X),
 bF (AO.Tj x i) tm s =
  match X.ev tm x,X.ev tm i with
  | D.str t,D.int k n=>
   if 0≤n then
    match t[n.toNat]? with
    |some c=>some (D.int IntKind.u8 ↑c.toNat,s)
    |none=>none
   else none
  |x,gh=>none:=
 fun tm s x i=>nd (bF.eq_25 tm s x i)
theorem UD : ∀ (tm:Tm) (s:St) (x:X) (i:Nat),
 bF (AO.ext x i) tm s =
  match X.ev tm x with
  |D.tuple ds=>
   match ds[i]? with
   |some d=>some (d,s)
   |none=>none
  |x=>none:=
 fun tm s x i=>nd (bF.eq_26 tm s x i)
theorem UE : ∀ (tm:Tm) (s:St) (x:X),
 bF (AO.Tk x) tm s =
  match X.ev tm x with
  |D.str t=>some (D.int IntKind.i64 ↑t.length,s)
  |x=>none:=
 fun tm s x=>nd (bF.eq_27 tm s x)
theorem UF : ∀ (tm:Tm) (s:St) (x:X),
 bF (AO.len x) tm s =
  match X.ev tm x with
  |D.slice g size rows=>some (D.int IntKind.i64 ↑rows.length,s)
  |x=>match J0 x with|some d=>some (d,s)|none=>none:=
 fun tm s x=>nd (bF.eq_28 tm s x)
theorem UG : ∀ (tm:Tm) (s:St) (size bytes:Nat) (x y:X),
 bF (AO.app size bytes x y) tm s =
  match X.ev tm x with
  |D.slice g z rows=>fS size bytes (D.slice g z rows) (X.ev tm y) s
  |d=>Ct size bytes d (X.ev tm y) s:=
 fun tm s size bytes x y=>nd (bF.eq_29 tm s size bytes x y)
theorem UH : ∀ (tm:Tm) (s:St) (isMax:Bool) (x y:X),
 bF (AO.mm isMax x y) tm s =
  match X.ev tm x,X.ev tm y with
  |D.int k a,D.int k' b=>
   if k=k' then some (D.int k (if isMax=true then if b > a then b else a else if b<a then b else a),s)
   else none
  |x,gh=>none:=
 fun tm s isMax x y=>nd (bF.eq_30 tm s isMax x y)
theorem UI (tm:Tm) (s:St) (r:List D) (T:TypeId):bF (AO.yl (.fJ::r) T) tm s=some (.ptr s.ag.length 0,{ag:=s.ag++ [.gd T s.ag.length::r],au:=s.au}):=nd rfl
theorem UJ (tm:Tm) (s:St) (x:X) (T:TypeId):bF (AO.G2 x T) tm s =
 match (x.ev tm).row with
 |some (.fJ::r)=>some (.ptr s.ag.length 0,{ag:=s.ag++ [.gd T s.ag.length::r],au:=s.au})
 |_=>none:=nd rfl
theorem UK (tm:Tm) (s:St) (x y:X):bF (AO.apps x y) tm s =
 match y.ev tm with
 | .str l=>D2 (x.ev tm) (.slice .shared 1 (l.map fun c=> [.int .u8 c.toNat])) s
 |_=>none:=nd rfl
theorem UL (tm:Tm) (s:St) (x y:X):bF (AO.G3 x y) tm s=D2 (x.ev tm) (y.ev tm) s:=nd rfl
theorem UM (tm:Tm) (s:St) (f:Nat) (xs:List X):bF (AO.Fq f xs) tm s=some (.iL f (xs.map fun x=>x.ev tm),s):=nd rfl
theorem UN (tm:Tm) (s:St):bF AO.Cp tm s=some (.iC s.ag.length,{ag:=s.ag++ [[]],au:=s.au}):=nd rfl
theorem UO (tm:Tm) (s:St) (m k v:X):bF (AO.G4 m k v) tm s =
 match m.ev tm,k.ev tm,v.ev tm with
 | .iC o, .str key, .slice g z rows=>
  match s.ag[o]? with
  |some cs=>match AA key (.slice g z rows) cs with|some lq=>some (.tuple [],{ag:=s.ag.set o lq,au:=s.au})|none=>none
  |none=>none
 |_,_,_=>none:=nd rfl
theorem UP (tm:Tm) (s:St) (m k:X) (zero:D):bF (AO.Fs m k zero) tm s =
 match m.ev tm,k.ev tm with
 | .iC o, .str key=>
  match s.ag[o]? with
  |some cs=>match Cr key zero cs with|some d=>some (d,s)|none=>none
  |none=>none
 |_,_=>none:=nd rfl
theorem UQ (tm:Tm) (s:St) (o:FO) (x y:X):bF (AO.Bl o x y) tm s=match tL o (x.ev tm) (y.ev tm)with|some d=>some (d,s)|none=>none:=nd rfl
theorem UR (tm:Tm) (s:St) (size bytes:Nat) (zero:List D) (l c:X):bF (AO.G5 size bytes zero l c) tm s =
 match l.ev tm,c.ev tm with
 | .int .i64 n, .int .i64 m=>if n=m∧0≤n∧n*((bytes:Int)+1)≤aT then some (.dr size s.ag.length 0 n.toNat,{s with ag:=s.ag++ [.int .i64 ((0:Nat):Int)::(gJ zero n.toNat).flatten]})else none
 |_,_=>none:=nd rfl
theorem OF (o:FO) (x y:X):(AO.Bl o x y).core=false:=nd rfl
theorem OG (size bytes:Nat) (zero:List D) (l c:X):(AO.G5 size bytes zero l c).core=true:=nd rfl
theorem OH (f:Nat) (xs:List X):(AO.Fq f xs).core=false:=nd rfl
theorem OI:AO.Cp.core=true:=nd rfl
theorem OM (m k v:X):(AO.G4 m k v).core=true:=nd rfl
theorem ON (m k:X) (zero:D):(AO.Fs m k zero).core=false:=nd rfl
theorem XA (n m f:Nat) (cs:List D):D.fg n m (.iL f cs) = .iL f (D.iI n m cs):=nd (by simp only[D.fg])
theorem XB (n m:Nat) (o:Nat):D.fg n m (.iC o)=if o<n then .iC o else .junk:=nd (by simp only[D.fg])
theorem US (d:Option Nat) (g:Option (Nat×Bool)) (t:Nat) (xs:List X):(AI.lR d g t xs).dst=d:=nd rfl
theorem OO (x y:X):(AO.G3 x y).core=true:=nd rfl
theorem OP (z:List D) (T:TypeId):(AO.yl z T).core=true:=nd rfl
theorem OQ (x:X) (T:TypeId):(AO.G2 x T).core=true:=nd rfl
theorem OR (x y:X):(AO.apps x y).core=true:=nd rfl
theorem XC (n m:Nat) (v:Value):D.fg n m (.val v) = .val v:=nd (by simp only[D.fg])
theorem XD (n m:Nat) (T:TypeId) (o:Nat):D.fg n m (.gd T o)=if o<n then .gd T o else .junk:=nd (by simp only[D.fg])
theorem aaA : ∀ (tm:Tm) (t:Nat),X.ev tm (X.s t)=tm.get t:=
 fun tm t=>nd (X.ev.eq_1 tm t)
theorem aaB : ∀ (tm:Tm) (d:D),X.ev tm (X.k d)=d:=
 fun tm d=>nd (X.ev.eq_2 tm d)
theorem UT : ∀ (tm:Tm) (d:D) (t:Nat),tm.put (some t) d=tm.set t d:=
 fun tm d t=>nd (Tm.put.eq_1 tm d t)
theorem UU : ∀ (tm:Tm) (d:D),tm.put none d=tm:=
 fun tm d=>nd (Tm.put.eq_2 tm d)
theorem UW : ∀ (x:Nat) (gh:D),Tm.set [] x gh = [(x,gh)]:=
 fun x gh=>nd (Tm.set.eq_1 x gh)
theorem UX : ∀ (x:Nat) (gh:D) (k:Nat) (e:D) (r:List (Nat×D)),
 Tm.set ((k,e)::r) x gh=if k=x then(k,gh)::r else(k,e)::Tm.set r x gh:=
 fun x gh k e r=>nd (Tm.set.eq_2 x gh k e r)
theorem UY : ∀ (x:Nat),Tm.get [] x=D.junk:=
 fun x=>nd (Tm.get.eq_1 x)
theorem UZ : ∀ (x k:Nat) (d:D) (r:List (Nat×D)),Tm.get ((k,d)::r) x=if k=x then d else Tm.get r x:=
 fun x k d r=>nd (Tm.get.eq_2 x k d r)
theorem XE : ∀ (x:Nat),ox x [] = []:=
 fun x=>nd (ox.eq_1 x)
theorem XF : ∀ (x:Nat) (d:D) (r:List D),ox x (d::r)=(x,d)::ox (x+1) r:=
 fun x d r=>nd (ox.eq_2 x d r)
theorem U0 : ∀ (d:Option Nat) (g:Option (Nat×Bool)) (o:AO),(AI.op d g o).dst=d:=
 fun d g o=>nd (AI.dst.eq_1 d g o)
theorem U1 : ∀ (d:Option Nat) (g:Option (Nat×Bool)) (f:Nat) (xs:List X),(AI.call d g f xs).dst=d:=
 fun d g f xs=>nd (AI.dst.eq_2 d g f xs)
theorem U2 : ∀ (d:Option Nat) (g:Option (Nat×Bool)) (neg:Bool) (gh:X),(AI.nil d g neg gh).dst=d:=
 fun d g neg gh=>nd (AI.dst.eq_3 d g neg gh)
theorem aaC : ∀ (cs:List D) (off size:Nat),
 part cs off true size=if off+size≤cs.length then some (D.agg (List.take size (List.drop off cs)))else none:=
 fun cs off size=>nd (part.eq_1 cs off size)
theorem aaD : ∀ (cs:List D) (off size:Nat),part cs off false size=cs[off]? :=
 fun cs off size=>nd (part.eq_2 cs off size)
theorem U3 : ∀ (cs:List D) (off:Nat) (r:List D),
 fU cs off r=List.take off cs++r++List.drop (off+r.length) cs:=
 fun cs off r=>nd (fU.eq_1 cs off r)
theorem XG : ∀ (cells:List D),uF cells [] = some cells:=
 fun cells=>nd (uF.eq_1 cells)
theorem XH : ∀ (cells:List D) (off size:Nat) (d:D) (rest:List (Nat×Nat×D)),
 uF cells ((off,size,d)::rest) =
  match d.row with
  |none=>none
  |some r=>if r.length=size∧off+size≤cells.length then uF (fU cells off r) rest else none:=
 fun cells off size d rest=>nd (uF.eq_2 cells off size d rest)
theorem OS : ∀ (size:Nat) (rows:List (List D)),lM size rows [] = some rows:=
 fun size rows=>nd (lM.eq_1 size rows)
theorem OT : ∀ (size:Nat) (rows:List (List D)) (i:Nat) (d:D) (rest:List (Nat×D)),
 lM size rows ((i,d)::rest) =
  match d.row with
  |none=>none
  |some r=>if r.length=size∧i<rows.length then lM size (rows.set i r) rest else none:=
 fun size rows i d rest=>nd (lM.eq_2 size rows i d rest)
theorem OU : ∀ (zero:List D),gJ zero 0 = []:=
 fun zero=>nd (gJ.eq_1 zero)
theorem OV : ∀ (zero:List D) (i:Nat),gJ zero i.succ=zero::gJ zero i:=
 fun zero i=>nd (gJ.eq_2 zero i)
theorem aaE : ∀ (op:BinOp) (k:IntKind) (a:Int) (k':IntKind) (b:Int),
 Az op (D.int k a) (D.int k' b)=if k=k' then gu op k a b else none:=
 fun op k a k' b=>nd (Az.eq_1 op k a k' b)
theorem aaF : ∀ (op:BinOp) (a b:List UInt8),Az op (D.str a) (D.str b)=qH op a b:=
 fun op a b=>nd (Az.eq_2 op a b)
theorem U4 : ∀ (k:IntKind) (a b:Int),gu BinOp.add k a b=some (D.int k (k.wrap (a+b))):=
 fun k a b=>nd (gu.eq_1 k a b)
theorem U5 : ∀ (k:IntKind) (a b:Int),gu BinOp.sub k a b=some (D.int k (k.wrap (a - b))):=
 fun k a b=>nd (gu.eq_2 k a b)
theorem U6 : ∀ (k:IntKind) (a b:Int),gu BinOp.mul k a b=some (D.int k (k.wrap (a*b))):=
 fun k a b=>nd (gu.eq_3 k a b)
theorem U7 : ∀ (k:IntKind) (a b:Int),
 gu BinOp.quo k a b=if b=0 then none else some (D.int k (k.wrap (a.tdiv b))):=
 fun k a b=>nd (gu.eq_4 k a b)
theorem U8 : ∀ (k:IntKind) (a b:Int),gu BinOp.rem k a b=if b=0 then none else some (D.int k (a.tmod b)):=
 fun k a b=>nd (gu.eq_5 k a b)
theorem U9 : ∀ (k:IntKind) (a b:Int),gu BinOp.eql k a b=some (D.bool (a==b)):=
 fun k a b=>nd (gu.eq_6 k a b)
theorem Va : ∀ (k:IntKind) (a b:Int),gu BinOp.neq k a b=some (D.bool (a != b)):=
 fun k a b=>nd (gu.eq_7 k a b)
theorem Vb : ∀ (k:IntKind) (a b:Int),gu BinOp.lss k a b=some (D.bool (decide (a<b))):=
 fun k a b=>nd (gu.eq_8 k a b)
theorem Vc : ∀ (k:IntKind) (a b:Int),gu BinOp.leq k a b=some (D.bool (decide (a≤b))):=
 fun k a b=>nd (gu.eq_9 k a b)
theorem Rg : ∀ (k:IntKind) (a b:Int),gu BinOp.gtr k a b=some (D.bool (decide (a > b))):=
 fun k a b=>nd (gu.eq_10 k a b)
theorem Rh : ∀ (k:IntKind) (a b:Int),gu BinOp.geq k a b=some (D.bool (decide (a≥b))):=
 fun k a b=>nd (gu.eq_11 k a b)
theorem Vd : ∀ (a b:List UInt8),
 qH BinOp.add a b=if a.length+b.length≤aT then some (D.str (a++b))else none:=
 fun a b=>nd (qH.eq_1 a b)
theorem Ve : ∀ (a b:List UInt8),qH BinOp.eql a b=some (D.bool (a==b)):=
 fun a b=>nd (qH.eq_2 a b)
theorem Vf : ∀ (a b:List UInt8),qH BinOp.neq a b=some (D.bool !a==b):=
 fun a b=>nd (qH.eq_3 a b)
theorem Vg : ∀ (a b:List UInt8),qH BinOp.lss a b=some (D.bool (bytesLess a b)):=
 fun a b=>nd (qH.eq_4 a b)
theorem Ri (k:IntKind) (a b:Int):gu BinOp.and k a b=some (D.int k (JY k a b)):=nd rfl
theorem Rj (k:IntKind) (a b:Int):gu BinOp.or k a b=some (D.int k (bOr k a b)):=nd rfl
theorem Rk (k:IntKind) (a b:Int):gu BinOp.xor k a b=some (D.int k (Cq k a b)):=nd rfl
theorem Rm (k:IntKind) (a b:Int):gu BinOp.shl k a b=if b<0 then none else some (D.int k (G6 k a b)):=nd rfl
theorem Rn (k:IntKind) (a b:Int):gu BinOp.shr k a b=if b<0 then none else some (D.int k (JZ k a b)):=nd rfl
theorem afm (k:IntKind) (n:Int):Lu UnOp.xor (D.int k n)=some (D.int k (Cq k (if k.signed then -1 else k.max) n)):=nd rfl
theorem afn : ∀ (k:IntKind) (n:Int),Lu UnOp.neg (D.int k n)=some (D.int k (k.wrap (0 - n))):=
 fun k n=>nd (Lu.eq_1 k n)
theorem afo : ∀ (b:Bool),Lu UnOp.not (D.bool b)=some (D.bool !b):=
 fun b=>nd (Lu.eq_2 b)
theorem Vh : ∀ (k:IntKind) (a:Int) (k':IntKind) (b:Int),
 pJ 0 (D.int k a) (D.int k' b)=if k=k' then some (a==b)else none:=
 fun k a k' b=>nd (pJ.eq_1 k a k' b)
theorem Vi : ∀ (a b:Bool),pJ 1 (D.bool a) (D.bool b)=some (a==b):=
 fun a b=>nd (pJ.eq_2 a b)
theorem Vj : ∀ (a b:List UInt8),pJ 2 (D.str a) (D.str b)=some (a==b):=
 fun a b=>nd (pJ.eq_3 a b)
theorem Ro:nu [] [] [] = some true:=
 nd (nu.eq_1)
theorem Rp : ∀ (k:Nat) (ks:List Nat) (x_3:D) (xs:List D) (y:D) (ys:List D),
 nu (k::ks) (x_3::xs) (y::ys) =
  match pJ k x_3 y with
  |none=>none
  |some true=>nu ks xs ys
  |some false=>some false:=
 fun k ks x_3 xs y ys=>nd (nu.eq_2 k ks x_3 xs y ys)
theorem afp:vt none=some 0:=
 nd (vt.eq_1)
theorem afq : ∀ (k:IntKind) (n:Int),vt (some (D.int k n))=some n:=
 fun k n=>nd (vt.eq_2 k n)
theorem afr : ∀ (len:Nat),vu none len=some ↑len:=
 fun len=>nd (vu.eq_1 len)
theorem afs : ∀ (len:Nat) (k:IntKind) (n:Int),vu (some (D.int k n)) len=some n:=
 fun len k n=>nd (vu.eq_2 len k n)
theorem Rq : ∀ (zero:List D),(AO.alloc zero).core=true:=
 fun zero=>nd (AO.core.eq_1 zero)
theorem Rr : ∀ (gh:X),(AO.box gh).core=true:=
 fun gh=>nd (AO.core.eq_2 gh)
theorem Rs : ∀ (zero:List D) (size n:Nat) (parts:List (Nat×X)),(AO.yk zero size n parts).core=true:=
 fun zero size n parts=>nd (AO.core.eq_3 zero size n parts)
theorem Rt : ∀ (gh:X),(AO.Gi gh).core=true:=
 fun gh=>nd (AO.core.eq_4 gh)
theorem Ru : ∀ (p gh:X) (size:Nat),(AO.store p gh size).core=true:=
 fun p gh size=>nd (AO.core.eq_5 p gh size)
theorem Rv : ∀ (size bytes:Nat) (gh y:X),(AO.app size bytes gh y).core=true:=
 fun size bytes gh y=>nd (AO.core.eq_6 size bytes gh y)
theorem Rw : ∀ (val:Nat) (zero:List D),(AI.op (some val) none (AO.alloc zero)).kind=AK.alloc:=
 fun val zero=>nd (AI.kind.eq_1 val zero)
theorem Rx : ∀ (zero:List D),(AO.alloc zero).kind=AK.core:=
 fun zero=>nd (AO.kind.eq_1 zero)
theorem Ry : ∀ (gh:X),(AO.box gh).kind=AK.core:=
 fun gh=>nd (AO.kind.eq_2 gh)
theorem Rz : ∀ (zero:List D) (size n:Nat) (parts:List (Nat×X)),(AO.yk zero size n parts).kind=AK.core:=
 fun zero size n parts=>nd (AO.kind.eq_3 zero size n parts)
theorem RA : ∀ (gh:X),(AO.Gi gh).kind=AK.core:=
 fun gh=>nd (AO.kind.eq_4 gh)
theorem RB : ∀ (p gh:X) (size:Nat),(AO.store p gh size).kind=AK.core:=
 fun p gh size=>nd (AO.kind.eq_5 p gh size)
theorem RC : ∀ (size bytes:Nat) (gh y:X),(AO.app size bytes gh y).kind=AK.core:=
 fun size bytes gh y=>nd (AO.kind.eq_6 size bytes gh y)
theorem RE : ∀ (gh:X) (agg:Bool) (size:Nat),(AO.load gh agg size).kind=AK.load:=
 fun _ _ _=>nd rfl
theorem Vk:jh AK.core=true:=
 nd (jh.eq_1)
theorem Vm:jh AK.alloc=true:=
 nd (jh.eq_2)
theorem Vn : ∀ (i:AI) (tm:Tm) (d:D),qP i tm d [] = True:=
 fun i tm d=>nd (qP.eq_1 i tm d)
theorem Vo : ∀ (i:AI) (tm:Tm) (d:D) (s:St) (r:List St),
 qP i tm d (s::r)=(lH i tm s=some d∧qP i tm d r):=
 fun i tm d s r=>nd (qP.eq_2 i tm d s r)
theorem aft : ∀ (tm:Tm) (s:St) (dst:Option Nat) (o:AO),
 lH (AI.op dst none o) tm s=Option.map (fun(x:D×St)=>x.fst) (bF o tm s):=
 fun tm s dst o=>nd (lH.eq_1 tm s dst o)
theorem afu : ∀ (tm:Tm) (s:St) (dst:Option Nat) (t:Nat) (want:Bool) (o:AO),
 lH (AI.op dst (some (t,want)) o) tm s =
  match tm.get t with
  |D.bool b=>if b=want then Option.map (fun(x:D×St)=>x.fst) (bF o tm s)else some (D.tuple [])
  |D.tuple vs=>some (D.tuple [])
  |x=>none:=
 fun tm s dst t want o=>nd (lH.eq_2 tm s dst t want o)
theorem RF : ∀ (is:List AI),pQ is [] = some []:=
 fun is=>nd (pQ.eq_1 is)
theorem RG : ∀ (is:List AI) (q b:Nat) (r:List (Nat×Nat)),
 pQ is ((q,b)::r) =
  match is[q]?,pQ is r with
  |some ai,some l=>some ((ai,b)::l)
  |x,gh=>none:=
 fun is q b r=>nd (pQ.eq_2 is q b r)
theorem afv : ∀ (tm:Tm) (n m:Nat),zL tm n m [] = True:=
 fun tm n m=>nd (zL.eq_1 tm n m)
theorem afw : ∀ (tm:Tm) (n m k:Nat) (d:D) (r:List (Nat×D)),
 zL tm n m ((k,d)::r)=(Wk (D.fg n m (tm.get k)) d∧zL tm n m r):=
 fun tm n m k d r=>nd (zL.eq_2 tm n m k d r)
theorem aaG : ∀ (n m o off:Nat),D.fg n m (D.ptr o off)=if o<n then D.ptr o off else D.junk:=
 fun n m o off=>nd (D.fg.eq_1 n m o off)
theorem aaH : ∀ (n m:Nat) (row:List D) (off:Nat),D.fg n m (D.dW row off)=D.dW (D.iI n m row) off:=
 fun n m row off=>nd (D.fg.eq_2 n m row off)
theorem aaI : ∀ (n m:Nat) (g:Tag) (z:Nat) (rows:List (List D)),
 D.fg n m (D.slice g z rows)=D.slice (Tag.fg m g) z (D.kY n m rows):=
 fun n m g z rows=>nd (D.fg.eq_3 n m g z rows)
theorem aaJ : ∀ (n m:Nat) (cs:List D),D.fg n m (D.agg cs)=D.agg (D.iI n m cs):=
 fun n m cs=>nd (D.fg.eq_4 n m cs)
theorem aaK : ∀ (n m:Nat) (ds:List D),D.fg n m (D.tuple ds)=D.tuple (D.iI n m ds):=
 fun n m ds=>nd (D.fg.eq_5 n m ds)
theorem aaL : ∀ (n m:Nat),D.fg n m D.junk=D.junk:=
 fun n m=>nd (D.fg.eq_6 n m)
theorem aaM : ∀ (n m:Nat) (k:IntKind) (gh:Int),D.fg n m (D.int k gh)=D.int k gh:=
 fun n m k gh=>nd (D.fg.eq_7 n m k gh)
theorem aaN : ∀ (n m:Nat) (b:Bool),D.fg n m (D.bool b)=D.bool b:=
 fun n m b=>nd (D.fg.eq_8 n m b)
theorem aaO : ∀ (n m:Nat) (l:List UInt8),D.fg n m (D.str l)=D.str l:=
 fun n m l=>nd (D.fg.eq_9 n m l)
theorem XI : ∀ (n m:Nat),D.fg n m D.fJ=D.fJ:=
 fun n m=>nd (D.fg.eq_10 n m)
theorem XJ : ∀ (n m:Nat),D.iI n m [] = []:=
 fun n m=>nd (D.iI.eq_1 n m)
theorem XK : ∀ (n m:Nat) (d:D) (r:List D),D.iI n m (d::r)=D.fg n m d::D.iI n m r:=
 fun n m d r=>nd (D.iI.eq_2 n m d r)
theorem XL : ∀ (n m:Nat),D.kY n m [] = []:=
 fun n m=>nd (D.kY.eq_1 n m)
theorem XM : ∀ (n m:Nat) (d:List D) (r:List (List D)),D.kY n m (d::r)=D.iI n m d::D.kY n m r:=
 fun n m d r=>nd (D.kY.eq_2 n m d r)
theorem Vp : ∀ (m t:Nat) (y:Bool),Tag.fg m (Tag.tok t y)=if t<m then Tag.tok t y else Tag.shared:=
 fun _ _ _=>nd rfl
theorem Vq : ∀ (s:St) (n m:Nat),
 s.cut n m = {ag:=List.map (D.iI n m) (List.take n s.ag),au:=List.take m s.au}:=
 fun s n m=>nd (St.cut.eq_1 s n m)
theorem aaP : ∀ (d:D),cd [d] = d:=
 fun d=>nd (cd.eq_1 d)
theorem aaQ (size bytes t:Nat) (rows:List (List D)) (g:Tag) (r:List D) (s:St):fS size bytes (.slice (.tok t) size rows) (.slice g size [r]) s =
 if(rows.length+1)*(bytes+1)≤aT∧s.au[t]? = some (some rows.length)then some (.slice (.tok t) size (rows++ [r]),⟨s.ag,s.au.set t (some (rows.length+1))⟩)else none:=by
 simp only[fS,zaH]
 by_cases h1:(rows.length+1)*(bytes+1)≤aT<;>by_cases h2:s.au[t]? = some (some rows.length)<;>simp[h1,h2]
theorem kZ {size bytes t:Nat} {rows new:List (List D)} {g:Tag} {s:St} (h1:(rows.length+new.length)*(bytes+1)≤aT) (h2:s.au[t]? = some (some rows.length)) :
 fS size bytes (.slice (.tok t) size rows) (.slice g size new) s=some (.slice (.tok t) size (rows++new),⟨s.ag,s.au.set t (some (rows.length+new.length))⟩):=by
 cases new with
 | nil=>
  have:s.au.set t (some rows.length)=s.au:=by
   apply zbZ
   intro i
   rw[zaM]
   split
   ·rename_i hi;subst hi;rw[h2,if_pos (zac.1 h2).1]
   ·rfl
  simp only[zaC,zaP]at h1
  simp[fS,h1,this]
 |cons x l=>
  simp only[fS,h1,h2]
  simp
theorem XN (size bytes z:Nat) (g:Tag) (r:List D) (s:St):fS size bytes (.slice .full z []) (.slice g size [r]) s =
 if bytes+1≤aT then some (.slice (.tok s.au.length) size [r],⟨s.ag,s.au++ [some 1]⟩)else none:=by
 simp[fS]
theorem afx {P:Program} {B:gK} {nt:Nat} (ac:AC) (Q:Exit→Tm→St→Prop) (tm:Tm) (s:St):CF P B nt ac Q .normal tm s=Q .normal tm s:=nd rfl
theorem afy {P:Program} {B:gK} {nt:Nat} (ac:AC) (Q:Exit→Tm→St→Prop) (tm:Tm) (s:St):CF P B nt ac Q .ret tm s=Q .ret tm s:=nd rfl
theorem afz {P:Program} {B:gK} {nt:Nat} (ac:AC) (Q:Exit→Tm→St→Prop) (tm:Tm) (s:St) (i:Nat):CF P B nt ac Q (.exit i) tm s=Q (.exit i) tm s:=nd rfl
theorem afA (m:Nat):Tag.fg m .full = .full:=nd rfl
theorem XO (m:Nat):Tag.fg m .shared = .shared:=nd rfl
theorem al9 {P:Program} (K:Tm→St→Prop) (tm:Tm) (s:St):l7 P [] K tm s=K tm s:=nd rfl
theorem s_op {P:Program} (dst:Option Nat) (o:AO) (r:List AI) (K:Tm→St→Prop) (tm:Tm) (s:St) :
 l7 P (.op dst none o::r) K tm s=(match bF o tm s with|some (d,s')=>l7 P r K (tm.put dst d) s'|none=>False):=nd rfl
def KJ (P:Program) (r:List AI) (K:Tm→St→Prop) (tm:Tm) (dst:Option Nat) (d:D) (s:St):Prop:=l7 P r K (tm.put dst d) s
theorem ap6 {P:Program} (r:List AI) (K:Tm→St→Prop) (tm:Tm) (dst:Option Nat) (d:D) (s:St):KJ P r K tm dst d s=l7 P r K (tm.put dst d) s:=nd rfl
theorem s_call {P:Program} (dst:Option Nat) (f:Nat) (xs:List X) (r:List AI) (K:Tm→St→Prop) (tm:Tm) (s:St) :
 l7 P (.call dst none f xs::r) K tm s=CL false P f (xs.map (·.ev tm)) s (KJ P r K tm dst):=nd rfl
def NJ (P:Program) (dst:Option Nat) (neg:Bool) (x:D) (r:List AI) (K:Tm→St→Prop) (tm:Tm) (s:St):Prop:=
 match x with
 | .slice _ _ rows=>∀ b:Bool,(rows≠ []→b=false)→l7 P r K (tm.put dst (.bool (if neg then !b else b))) s
 |_=>False
theorem ah0 {P:Program} (dst:Option Nat) (neg:Bool) (x:X) (r:List AI) (K:Tm→St→Prop) (tm:Tm) (s:St) :
 l7 P (.nil dst none neg x::r) K tm s=NJ P dst neg (x.ev tm) r K tm s:=nd rfl
theorem afB {P:Program} (dst:Option Nat) (neg:Bool) (g:Tag) (z:Nat) (d:List D) (l:List (List D)) (r:List AI) (K:Tm→St→Prop) (tm:Tm) (s:St) :
 NJ P dst neg (.slice g z (d::l)) r K tm s=l7 P r K (tm.put dst (.bool neg)) s:=by
 simp only[NJ,ne_eq,reduceCtorEq,not_false_eq_true,true_imp_iff,eq_iff_iff]
 refine⟨fun h=>by have:=h false rfl;cases neg<;>exact this,fun h b hb=>?_⟩
 subst hb;cases neg<;>exact h
theorem aaR {P:Program} {dst:Option Nat} {neg:Bool} {g:Tag} {z:Nat} {l:List (List D)} {r:List AI} {K:Tm→St→Prop} {tm:Tm} {s:St}
 (h1:l = []→l7 P r K (tm.put dst (.bool (!neg))) s) (h2:l7 P r K (tm.put dst (.bool neg)) s):NJ P dst neg (.slice g z l) r K tm s:=by
 intro b hb
 cases b with
 |false=>cases neg<;>exact h2
 |true=>
  have:l = []:=Decidable.byContradiction fun h=>by cases hb h
  cases neg<;>exact h1 this
theorem amb {P:Program} (dst:Option Nat) (t:Nat) (w:Bool) (o:AO) (r:List AI) (K:Tm→St→Prop) (tm:Tm) (s:St) :
 l7 P (.op dst (some (t,w)) o::r) K tm s = @GB (tm.get t) w ⟨(l7 P (.op dst none o::r) K tm s),(l7 P r K (tm.put dst (.tuple [])) s)⟩:=nd rfl
def CV (P:Program) (x:D) (amc:List D) (s:St) (K:D→St→Prop):Prop:=
 match x with
 | .iL f qp=>enters P f=true∧CL false P f (amc++qp) s K
 |_=>False
theorem afC {P:Program} (dst:Option Nat) (t:Nat) (xs:List X) (r:List AI) (K:Tm→St→Prop) (tm:Tm) (s:St) :
 l7 P (.lR dst none t xs::r) K tm s=CV P (tm.get t) (xs.map (·.ev tm)) s (KJ P r K tm dst):=nd rfl
theorem CV.use {P:Program} {f:Nat} {qp amc:List D} {s s':St} {d:D} {K:D→St→Prop} (he:enters P f=true) (h:ay P f (amc++qp) s d s') (k:K d s'):CV P (.iL f qp) amc s K:=⟨he,CU h k⟩
theorem aaS {P:Program} (dst:Option Nat) (t:Nat) (w:Bool) (u:Nat) (xs:List X) (r:List AI) (K:Tm→St→Prop) (tm:Tm) (s:St) :
 l7 P (.lR dst (some (t,w)) u xs::r) K tm s = @GB (tm.get t) w ⟨(l7 P (.lR dst none u xs::r) K tm s),(l7 P r K (tm.put dst (.tuple [])) s)⟩:=nd rfl
theorem afD {P:Program} (dst:Option Nat) (t:Nat) (w:Bool) (f:Nat) (xs:List X) (r:List AI) (K:Tm→St→Prop) (tm:Tm) (s:St) :
 l7 P (.call dst (some (t,w)) f xs::r) K tm s = @GB (tm.get t) w ⟨(l7 P (.call dst none f xs::r) K tm s),(l7 P r K (tm.put dst (.tuple [])) s)⟩:=nd rfl
theorem ah2 {P:Program} (dst:Option Nat) (t:Nat) (w:Bool) (neg:Bool) (x:X) (r:List AI) (K:Tm→St→Prop) (tm:Tm) (s:St) :
 l7 P (.nil dst (some (t,w)) neg x::r) K tm s = @GB (tm.get t) w ⟨(l7 P (.nil dst none neg x::r) K tm s),(l7 P r K (tm.put dst (.tuple [])) s)⟩:=nd rfl
theorem ap7 (b:Bool) (A C:Prop) : @GB (.bool b) true ⟨A,C⟩ = @CB (.bool b) ⟨A,C⟩:=nd rfl
theorem ap8 (b:Bool) (A C:Prop) : @GB (.bool b) false ⟨A,C⟩ = @CB (.bool b) ⟨C,A⟩:=by
 cases b<;>simp[GB,CB,GJ,wu]
theorem ap9 (l:List D) (w:Bool) (A C:Prop) : @GB (.tuple l) w ⟨A,C⟩=C:=nd rfl
theorem amd {P:Program} {K:Tm→St→Prop} (cf:List St) (tm:Tm) (s:St):iP P K [] cf tm s=K tm s:=nd rfl
def OJ (P:Program) (o:AO) (dst:Option Nat) (b:Nat) (r:List (AI×Nat)) (K:Tm→St→Prop) (cf:List St) (tm:Tm) (s:St):Bool→Prop
 |true=>match bF o tm s with|some (d,s')=>iP P K r (s::cf) (tm.put dst d) s'|none=>False
 |false=>match bF o tm s with|some (d,_)=>qP (.op dst none o) tm d (cf.take b)∧iP P K r cf (tm.put dst d) s|none=>False
theorem aqb {P:Program} {K:Tm→St→Prop} (dst:Option Nat) (o:AO) (b:Nat) (r:List (AI×Nat)) (cf:List St) (tm:Tm) (s:St) :
 iP P K ((.op dst none o,b)::r) cf tm s=OJ P o dst b r K cf tm s o.core:=by
 simp only[iP,pR]
 cases o.core<;>rfl
theorem aqc {P:Program} (o:AO) (dst:Option Nat) (b:Nat) (r:List (AI×Nat)) (K:Tm→St→Prop) (cf:List St) (tm:Tm) (s:St) :
 OJ P o dst b r K cf tm s true=match bF o tm s with|some (d,s')=>iP P K r (s::cf) (tm.put dst d) s'|none=>False:=nd rfl
theorem aqd {P:Program} (o:AO) (dst:Option Nat) (b:Nat) (r:List (AI×Nat)) (K:Tm→St→Prop) (cf:List St) (tm:Tm) (s:St) :
 OJ P o dst b r K cf tm s false=match bF o tm s with|some (d,_)=>qP (.op dst none o) tm d (cf.take b)∧iP P K r cf (tm.put dst d) s|none=>False:=nd rfl
theorem ame {P:Program} {K:Tm→St→Prop} (dst:Option Nat) (t:Nat) (w:Bool) (o:AO) (b:Nat) (r:List (AI×Nat)) (cf:List St) (tm:Tm) (s:St) :
 iP P K ((.op dst (some (t,w)) o,b)::r) cf tm s = @GB (tm.get t) w ⟨(iP P K ((.op dst none o,b)::r) cf tm s),(iP P K r (if o.core then s::cf else cf) (tm.put dst (.tuple [])) s)⟩:=by
 simp only[GB,iP,pR]
 cases o.core<;>rfl
def KG (P:Program) (K:Tm→St→Prop) (r:List (AI×Nat)) (cf:List St) (tm:Tm) (dst:Option Nat) (d:D) (s:St):Prop:=iP P K r cf (tm.put dst d) s
theorem aqe {P:Program} (K:Tm→St→Prop) (r:List (AI×Nat)) (cf:List St) (tm:Tm) (dst:Option Nat) (d:D) (s:St):KG P K r cf tm dst d s=iP P K r cf (tm.put dst d) s:=nd rfl
theorem g_call {P:Program} {K:Tm→St→Prop} (dst:Option Nat) (f:Nat) (xs:List X) (b:Nat) (r:List (AI×Nat)) (cf:List St) (tm:Tm) (s:St) :
 iP P K ((.call dst none f xs,b)::r) cf tm s=CL true P f (xs.map (·.ev tm)) s (KG P K r (s::cf) tm dst):=nd rfl
theorem afE {P:Program} {K:Tm→St→Prop} (dst:Option Nat) (t:Nat) (w:Bool) (f:Nat) (xs:List X) (b:Nat) (r:List (AI×Nat)) (cf:List St) (tm:Tm) (s:St) :
 iP P K ((.call dst (some (t,w)) f xs,b)::r) cf tm s = @GB (tm.get t) w ⟨(iP P K ((.call dst none f xs,b)::r) cf tm s),(iP P K r (s::cf) (tm.put dst (.tuple [])) s)⟩:=nd rfl
class Ok (p:Prop):Prop where
 out:p
instance:Ok True:=⟨trivial⟩
instance {p q:Prop} [Ok p] [Ok q] : Ok (p∧q):=⟨⟨Ok.out,Ok.out⟩⟩
instance {α:Type} (a:α):Ok (a=a):=⟨rfl⟩
instance (d:D):Ok (Wk d .junk):=⟨Wk.junk d⟩
instance {l l':List D} [Ok (jM l l')] : Ok (Wk (.tuple l) (.tuple l')):=⟨Wk.tuple Ok.out⟩
instance {l l':List D} [Ok (jM l l')] : Ok (Wk (.agg l) (.agg l')):=⟨Wk.agg Ok.out⟩
instance {g:Tag} {z:Nat} {l l':List (List D)} [Ok (iF l l')] : Ok (Wk (.slice g z l) (.slice g z l')):=⟨Wk.rows Ok.out⟩
instance {g:Tag} {z:Nat} {l l':List (List D)} [Ok (iF l l')] : Ok (Wk (.slice g z l) (.slice .shared z l')):=⟨Wk.slice Ok.out⟩
instance (z z':Nat):Ok (Wk (.slice .full z []) (.slice .full z' [])):=⟨Wk.apX z z'⟩
instance (g:Tag) (z z':Nat):Ok (Wk (.slice g z []) (.slice .shared z' [])):=⟨Wk.nil g z z'⟩
instance (d:D):Ok (Wk d d):=⟨Wk.refl d⟩
instance:Ok (jM [] []):=⟨.nil⟩
instance {d d':D} {l l':List D} [Ok (Wk d d')] [Ok (jM l l')] : Ok (jM (d::l) (d'::l')):=⟨.cons Ok.out Ok.out⟩
instance (l:List D):Ok (jM l l):=⟨jM.refl l⟩
instance:Ok (iF [] []):=⟨.nil⟩
instance {d d':List D} {l l':List (List D)} [Ok (jM d d')] [Ok (iF l l')] : Ok (iF (d::l) (d'::l')):=⟨.cons Ok.out Ok.out⟩
instance {a a' b b':List (List D)} [Ok (iF a a')] [Ok (iF b b')] : Ok (iF (a++b) (a'++b')):=⟨iF.append Ok.out Ok.out⟩
instance (l:List (List D)):Ok (iF l l):=⟨iF.refl l⟩
theorem bs:(∀ b,(true ||b)=true)∧(∀ b,(false ||b)=b)∧(∀ b,(b ||true)=true)∧(∀ b,(b ||false)=b)∧(∀ b,(true && b)=b)∧(∀ b,(false && b)=false)∧(∀ b,(b && true)=b)∧(∀ b,(b && false)=false)∧
 (!true)=false∧(!false)=true∧(∀ b,(!!b)=b)∧((false=true)=False)∧(∀ (α β:Type) (a:α) (f:α→Option β),(some a).bind f=f a)∧
 (∀ (α β γ:Type) (x:Option α) (f:α→Option β) (g:β→Option γ),(x.bind f).bind g=x.bind fun y=>(f y).bind g):=
 ⟨zbk,zbj,zbI,zb3,zbf,zaN,zbz,zbp,rfl,rfl,zbS,by simp,fun _ _ _ _=>rfl,fun _ _ _ x f g=>Option.bind_assoc x f g⟩
attribute [go_sem] ahX ap3 ap4 al9 s_op ap6 s_call ah0 afB amb afD ah2 ap7 ap8 ap9 amd aqb aqc aqd ame aqe g_call afE AO.core AI.kind AO.kind jh
attribute [go_sem] UQ UR OF OG afC aaS UM UN UO UP OH OI OM ON XA XB US ae7 aan
attribute [go_sem] UL OO UI UJ UK OP OQ OR XC XD ae6 Xm ae2 aak ae3 aal ae4 aam Xl ae5 aao Uj aap
attribute [go_sem] Xr Xs Xt Xu Xv Xw Xx Xy Xz Um Un Uo Uq Ur Us Ut Uu Uv Uw Ux Uy Uz UA UB UC UD UE UF UG UH aaA aaB UT UU UW UX UY UZ XE XF U0 U1 U2 aaC aaD U3 XG XH OS OT OU OV aaE aaF U4 U5 U6 U7 U8 U9 Va Vb Vc Rg Rh Ri Rj Rk Rm Rn afm Vd Ve Vf Vg afn afo Vh Vi Vj Ro Rp afp afq afr afs Rq Rr Rs Rt Ru Rv Rw Rx Ry Rz RA RB RC RE Vk Vm Vn Vo aft afu RF RG afv afw aaG aaH aaI aaJ aaK aaL aaM aaN aaO XI XJ XK XL XM Vp Vq aaP aaQ XN afA XO afx afy afz
attribute [go_sem] zaf zaj zbh za5 zas zaC zbT zbt List.take_succ_cons List.take_zero List.take_nil List.drop_succ_cons List.drop_zero List.drop_nil zaV za1 zaF zaS zaP za9 zbX
attribute [go_sem] zax zav zau zap zaW zbU Int.toNat_zero and_self and_true true_and
attribute [go_sem_proc ↓] reduceIte
attribute [go_sem_proc] Int.reduceLE reduceCtorEq Nat.reduceEqDiff Nat.reduceLeDiff Nat.reduceAdd Nat.reduceMul Nat.reduceSub Nat.reduceLT
theorem fv {b:Bool} {A C:Prop} (h1:b=true→A) (h:b=true:=by assumption) : @CB (.bool b) ⟨A,C⟩:=ahY h h1
theorem fw {b:Bool} {A C:Prop} (h1:b=false→C) (h:b=false:=by assumption) : @CB (.bool b) ⟨A,C⟩:=ahZ h h1
theorem fx {b:Bool} {A C:Prop} (h1:b=true→A) (h2:b=false→C) : @CB (.bool b) ⟨A,C⟩:=⟨h1,h2⟩
theorem ej {a b:Prop} (x:a) (y:b):a∧b:=⟨x,y⟩
theorem dn {α:Type _} (a b:α):(some a=some b)=(a=b):=Option.some.injEq a b
theorem dq {α:Sort _} {p:α→Prop} {a:α} : (∃ x,a=x∧p x)↔p a:=exists_eq_left'
theorem rk {n m:Nat} (h:Nat.ble n m=true):n≤m:=zbl h
theorem aX {n m:Nat} {res:List (Nat×Option (Bool×Nat))} {d:D} {s':St} {e:Exit} {tm:Tm} {s:St} {Q:Exit→Tm→St→Prop} (hQ:oa n m res d s'=Q) (h : ∃ l,bZ res tm s=some l∧Wk ((cd l).fg n m) d∧iF (s.cut n m).ag s'.ag∧(s.cut n m).au=s'.au) (he:e = .ret∨e = .normal:=by first|exact .inl rfl|exact .inr rfl):Q e tm s:=by cases he with|inl x=>cases x;exact al7 hQ h|inr x=>cases x;exact al8 hQ h
theorem kI {p:Prop} (h:p:=by repeat' (first|exact Ok.out|with_reducible refine ej ?_ ?_|(simp;done))):p:=h
theorem aQ {p:Prop} (h:p:=by repeat' (first|exact Ok.out|with_reducible refine ej ?_ ?_)):p:=h
theorem oA {p:Prop} (h:p:=by(try cases h);simp only[bZ,cd,dn,dq,go_sem,hD,hZ,gC,gD];repeat' (first|exact Ok.out|with_reducible refine ej ?_ ?_|(simp;done))):p:=h
theorem bK {p:Prop} (h:p:=by simp only[bZ,cd,dn,dq,go_sem,hD,hZ,gC,gD];repeat' (first|exact Ok.out|with_reducible refine ej ?_ ?_|(simp;done))):p:=h
theorem lX_ {p:Prop} (h:p:=by simp only[go_sem,hD,hZ,gC,gD];repeat' (first|exact Ok.out|with_reducible refine ej ?_ ?_)):p:=h
theorem dg {P:Program} {B:gK} {nt:Nat} {a:AC} {Q:Exit→Tm→St→Prop} {tm da:Tm} {s:St} {iQ:List (List D)} (n m:Nat) (h:aJ P B nt a Q da ⟨iQ,(s.cut n m).au⟩) (hn:B.s.ag.length≤n:=by rw[hB];exact rk rfl) (hm:B.s.au.length≤m:=by rw[hB];exact rk rfl) (ht:zL tm n m da:=by exact lX_) (ho:iF (s.cut n m).ag iQ:=by exact lX_):aJ P B nt a Q tm s:=aJ.re da iQ n m hn hm ht ho h
theorem cr {P:Program} {B:gK} {nt:Nat} {a:AC} {Q:Exit→Tm→St→Prop} {tm da:Tm} {s:St} {iQ:List (List D)} (n m:Nat) (ht:zL tm n m da) (ho:iF (s.cut n m).ag iQ) (h:aJ P B nt a Q da ⟨iQ,(s.cut n m).au⟩) (hn:B.s.ag.length≤n:=by rw[hB];exact rk rfl) (hm:B.s.au.length≤m:=by rw[hB];exact rk rfl):aJ P B nt a Q tm s:=aJ.re da iQ n m hn hm ht ho h
theorem bc:0<1∧0<1∧0<1∧0<1:=⟨Nat.zero_lt_one,Nat.zero_lt_one,Nat.zero_lt_one,Nat.zero_lt_one⟩
end Go.Abs
namespace Go.Abs
theorem eK {A0 A1:Prop} (a0:A0) (a1:A1):A0∧A1:=⟨a0,a1⟩
theorem ly {A0 A1 A2:Prop} (a0:A0) (a1:A1) (a2:A2):A0∧A1∧A2:=⟨a0,a1,a2⟩
theorem ql {A0 A1 A2 A3:Prop} (a0:A0) (a1:A1) (a2:A2) (a3:A3):A0∧A1∧A2∧A3:=⟨a0,a1,a2,a3⟩
theorem um {A0 A1 A2 A3 A4:Prop} (a0:A0) (a1:A1) (a2:A2) (a3:A3) (a4:A4):A0∧A1∧A2∧A3∧A4:=⟨a0,a1,a2,a3,a4⟩
theorem BG {A0 A1 A2 A3 A4 A5:Prop} (a0:A0) (a1:A1) (a2:A2) (a3:A3) (a4:A4) (a5:A5):A0∧A1∧A2∧A3∧A4∧A5:=⟨a0,a1,a2,a3,a4,a5⟩
theorem Gw {A0 A1 A2 A3 A4 A5 A6:Prop} (a0:A0) (a1:A1) (a2:A2) (a3:A3) (a4:A4) (a5:A5) (a6:A6):A0∧A1∧A2∧A3∧A4∧A5∧A6:=⟨a0,a1,a2,a3,a4,a5,a6⟩
theorem DF {A0 A1 A2 A3 A4 A5 A6 A7:Prop} (a0:A0) (a1:A1) (a2:A2) (a3:A3) (a4:A4) (a5:A5) (a6:A6) (a7:A7):A0∧A1∧A2∧A3∧A4∧A5∧A6∧A7:=⟨a0,a1,a2,a3,a4,a5,a6,a7⟩
theorem IJ {A0 A1 A2 A3 A4 A5 A6 A7 A8:Prop} (a0:A0) (a1:A1) (a2:A2) (a3:A3) (a4:A4) (a5:A5) (a6:A6) (a7:A7) (a8:A8):A0∧A1∧A2∧A3∧A4∧A5∧A6∧A7∧A8:=⟨a0,a1,a2,a3,a4,a5,a6,a7,a8⟩
theorem OW {A0 A1 A2 A3 A4 A5 A6 A7 A8 A9:Prop} (a0:A0) (a1:A1) (a2:A2) (a3:A3) (a4:A4) (a5:A5) (a6:A6) (a7:A7) (a8:A8) (a9:A9):A0∧A1∧A2∧A3∧A4∧A5∧A6∧A7∧A8∧A9:=⟨a0,a1,a2,a3,a4,a5,a6,a7,a8,a9⟩
theorem Vr {A0 A1 A2 A3 A4 A5 A6 A7 A8 A9 wS:Prop} (a0:A0) (a1:A1) (a2:A2) (a3:A3) (a4:A4) (a5:A5) (a6:A6) (a7:A7) (a8:A8) (a9:A9) (Ew:wS):A0∧A1∧A2∧A3∧A4∧A5∧A6∧A7∧A8∧A9∧wS:=⟨a0,a1,a2,a3,a4,a5,a6,a7,a8,a9,Ew⟩
theorem Vs {A0 A1 A2 A3 A4 A5 A6 A7 A8 A9 wS zM:Prop} (a0:A0) (a1:A1) (a2:A2) (a3:A3) (a4:A4) (a5:A5) (a6:A6) (a7:A7) (a8:A8) (a9:A9) (Ew:wS) (IK:zM):A0∧A1∧A2∧A3∧A4∧A5∧A6∧A7∧A8∧A9∧wS∧zM:=⟨a0,a1,a2,a3,a4,a5,a6,a7,a8,a9,Ew,IK⟩
theorem ah3 {A0 A1 A2 A3 A4 A5 A6 A7 A8 A9 wS zM Ey:Prop} (a0:A0) (a1:A1) (a2:A2) (a3:A3) (a4:A4) (a5:A5) (a6:A6) (a7:A7) (a8:A8) (a9:A9) (Ew:wS) (IK:zM) (a12:Ey):A0∧A1∧A2∧A3∧A4∧A5∧A6∧A7∧A8∧A9∧wS∧zM∧Ey:=⟨a0,a1,a2,a3,a4,a5,a6,a7,a8,a9,Ew,IK,a12⟩
theorem aqf {A0 A1 A2 A3 A4 A5 A6 A7 A8 A9 wS zM Ey LQ LR LS:Prop} (a0:A0) (a1:A1) (a2:A2) (a3:A3) (a4:A4) (a5:A5) (a6:A6) (a7:A7) (a8:A8) (a9:A9) (Ew:wS) (IK:zM) (a12:Ey) (XP:LQ) (XQ:LR) (XR:LS):A0∧A1∧A2∧A3∧A4∧A5∧A6∧A7∧A8∧A9∧wS∧zM∧Ey∧LQ∧LR∧LS:=⟨a0,a1,a2,a3,a4,a5,a6,a7,a8,a9,Ew,IK,a12,XP,XQ,XR⟩
theorem ah4 {A0 A1 A2 A3 A4 A5 A6 A7 A8 A9 wS zM Ey LQ LR LS XS:Prop} (a0:A0) (a1:A1) (a2:A2) (a3:A3) (a4:A4) (a5:A5) (a6:A6) (a7:A7) (a8:A8) (a9:A9) (Ew:wS) (IK:zM) (a12:Ey) (XP:LQ) (XQ:LR) (XR:LS) (a16:XS):A0∧A1∧A2∧A3∧A4∧A5∧A6∧A7∧A8∧A9∧wS∧zM∧Ey∧LQ∧LR∧LS∧XS:=⟨a0,a1,a2,a3,a4,a5,a6,a7,a8,a9,Ew,IK,a12,XP,XQ,XR,a16⟩
theorem aqg {A0 A1 A2 A3 A4 A5 A6 A7 A8 A9 wS zM Ey LQ LR LS XS A17 A18 A19:Prop} (a0:A0) (a1:A1) (a2:A2) (a3:A3) (a4:A4) (a5:A5) (a6:A6) (a7:A7) (a8:A8) (a9:A9) (Ew:wS) (IK:zM) (a12:Ey) (XP:LQ) (XQ:LR) (XR:LS) (a16:XS) (a17:A17) (a18:A18) (a19:A19):A0∧A1∧A2∧A3∧A4∧A5∧A6∧A7∧A8∧A9∧wS∧zM∧Ey∧LQ∧LR∧LS∧XS∧A17∧A18∧A19:=⟨a0,a1,a2,a3,a4,a5,a6,a7,a8,a9,Ew,IK,a12,XP,XQ,XR,a16,a17,a18,a19⟩
theorem dR {E G:Prop} (e:E) (h:E→G:=by intro E;repeat' (first|simp only[go_sem,hD,hZ,gC,gD,E]|((with_reducible refine aX hQ ?_);exact oA))):G:=h e
theorem iX {E G:Prop} (e:E) (h:E→G:=by intro E;repeat' (first|simp only[go_sem,hD,hZ,gC,gD,E]|(with_reducible first|refine fv fun hc=>?_|refine fw fun hc=>?_|refine fx (fun hc=>?_) fun hc=>?_)<;>(try simp only[hc,bs,↓reduceIte]at h)<;>try simp only[hc]|((with_reducible refine aX hQ ?_);(try cases h);simp only[bZ,cd,dn,dq,go_sem,hD,hZ,gC,gD,E];try exact kI)|(cases h;done))):G:=h e
theorem bT {E R G:Prop} (e:E) (r:R) (h:E→R→G:=by intro E R;repeat' (first|simp only[go_sem,hD,hZ,gC,gD,E]);exact R):G:=h e r
theorem jn {E K0 G:Prop} (e:E) (k0:K0) (h:E→K0→G:=by intro E K0;repeat' (first|simp only[go_sem,hD,hZ,gC,gD,E]|(with_reducible refine CU K0 ?_)|(with_reducible refine CU (K0 _) ?_)|(with_reducible refine CU (K0 _ _) ?_)|(with_reducible refine CU (K0 _ _ _) ?_)|((with_reducible refine aX hQ ?_);exact oA))):G:=h e k0
theorem wT {E K0 G:Prop} (e:E) (k0:K0) (h:E→K0→G:=by intro E K0;repeat' (first|simp only[go_sem,hD,hZ,gC,gD,E]|(with_reducible refine CU K0 ?_)|(with_reducible refine CU (K0 _) ?_)|(with_reducible refine CU (K0 _ _) ?_)|(with_reducible refine CU (K0 _ _ _) ?_)|(with_reducible first|refine fv fun hc=>?_|refine fw fun hc=>?_|refine fx (fun hc=>?_) fun hc=>?_)<;>(try simp only[hc,bs,↓reduceIte]at h)<;>try simp only[hc]|((with_reducible refine aX hQ ?_);(try cases h);simp only[bZ,cd,dn,dq,go_sem,hD,hZ,gC,gD,E];try exact kI)|(cases h;done))):G:=h e k0
theorem XT {E K0 R G:Prop} (e:E) (k0:K0) (r:R) (h:E→K0→R→G:=by intro E K0 R;repeat' (first|simp only[go_sem,hD,hZ,gC,gD,E]|(with_reducible refine CU K0 ?_)|(with_reducible refine CU (K0 _) ?_)|(with_reducible refine CU (K0 _ _) ?_)|(with_reducible refine CU (K0 _ _ _) ?_));exact R):G:=h e k0 r
theorem pT {E K0 K1 G:Prop} (e:E) (k0:K0) (k1:K1) (h:E→K0→K1→G:=by intro E K0 K1;repeat' (first|simp only[go_sem,hD,hZ,gC,gD,E]|(with_reducible refine CU K0 ?_)|(with_reducible refine CU (K0 _) ?_)|(with_reducible refine CU (K0 _ _) ?_)|(with_reducible refine CU (K0 _ _ _) ?_)|(with_reducible refine CU K1 ?_)|(with_reducible refine CU (K1 _) ?_)|(with_reducible refine CU (K1 _ _) ?_)|(with_reducible refine CU (K1 _ _ _) ?_)|((with_reducible refine aX hQ ?_);exact oA))):G:=h e k0 k1
theorem DG {E K0 K1 G:Prop} (e:E) (k0:K0) (k1:K1) (h:E→K0→K1→G:=by intro E K0 K1;repeat' (first|simp only[go_sem,hD,hZ,gC,gD,E]|(with_reducible refine CU K0 ?_)|(with_reducible refine CU (K0 _) ?_)|(with_reducible refine CU (K0 _ _) ?_)|(with_reducible refine CU (K0 _ _ _) ?_)|(with_reducible refine CU K1 ?_)|(with_reducible refine CU (K1 _) ?_)|(with_reducible refine CU (K1 _ _) ?_)|(with_reducible refine CU (K1 _ _ _) ?_)|(with_reducible first|refine fv fun hc=>?_|refine fw fun hc=>?_|refine fx (fun hc=>?_) fun hc=>?_)<;>(try simp only[hc,bs,↓reduceIte]at h)<;>try simp only[hc]|((with_reducible refine aX hQ ?_);(try cases h);simp only[bZ,cd,dn,dq,go_sem,hD,hZ,gC,gD,E];try exact kI)|(cases h;done))):G:=h e k0 k1
theorem zv2 {E K0 K1 R G:Prop} (e:E) (k0:K0) (k1:K1) (r:R) (h:E→K0→K1→R→G:=by intro E K0 K1 R;repeat' (first|simp only[go_sem,hD,hZ,gC,gD,E]|(with_reducible refine CU K0 ?_)|(with_reducible refine CU (K0 _) ?_)|(with_reducible refine CU (K0 _ _) ?_)|(with_reducible refine CU (K0 _ _ _) ?_)|(with_reducible refine CU K1 ?_)|(with_reducible refine CU (K1 _) ?_)|(with_reducible refine CU (K1 _ _) ?_)|(with_reducible refine CU (K1 _ _ _) ?_));exact R):G:=h e k0 k1 r
theorem zN {E K0 K1 K2 G:Prop} (e:E) (k0:K0) (k1:K1) (k2:K2) (h:E→K0→K1→K2→G:=by intro E K0 K1 K2;repeat' (first|simp only[go_sem,hD,hZ,gC,gD,E]|(with_reducible refine CU K0 ?_)|(with_reducible refine CU (K0 _) ?_)|(with_reducible refine CU (K0 _ _) ?_)|(with_reducible refine CU (K0 _ _ _) ?_)|(with_reducible refine CU K1 ?_)|(with_reducible refine CU (K1 _) ?_)|(with_reducible refine CU (K1 _ _) ?_)|(with_reducible refine CU (K1 _ _ _) ?_)|(with_reducible refine CU K2 ?_)|(with_reducible refine CU (K2 _) ?_)|(with_reducible refine CU (K2 _ _) ?_)|(with_reducible refine CU (K2 _ _ _) ?_)|((with_reducible refine aX hQ ?_);exact oA))):G:=h e k0 k1 k2
theorem zf3 {E K0 K1 K2 G:Prop} (e:E) (k0:K0) (k1:K1) (k2:K2) (h:E→K0→K1→K2→G:=by intro E K0 K1 K2;repeat' (first|simp only[go_sem,hD,hZ,gC,gD,E]|(with_reducible refine CU K0 ?_)|(with_reducible refine CU (K0 _) ?_)|(with_reducible refine CU (K0 _ _) ?_)|(with_reducible refine CU (K0 _ _ _) ?_)|(with_reducible refine CU K1 ?_)|(with_reducible refine CU (K1 _) ?_)|(with_reducible refine CU (K1 _ _) ?_)|(with_reducible refine CU (K1 _ _ _) ?_)|(with_reducible refine CU K2 ?_)|(with_reducible refine CU (K2 _) ?_)|(with_reducible refine CU (K2 _ _) ?_)|(with_reducible refine CU (K2 _ _ _) ?_)|(with_reducible first|refine fv fun hc=>?_|refine fw fun hc=>?_|refine fx (fun hc=>?_) fun hc=>?_)<;>(try simp only[hc,bs,↓reduceIte]at h)<;>try simp only[hc]|((with_reducible refine aX hQ ?_);(try cases h);simp only[bZ,cd,dn,dq,go_sem,hD,hZ,gC,gD,E];try exact kI)|(cases h;done))):G:=h e k0 k1 k2
theorem Gx {E K0 K1 K2 K3 G:Prop} (e:E) (k0:K0) (k1:K1) (k2:K2) (k3:K3) (h:E→K0→K1→K2→K3→G:=by intro E K0 K1 K2 K3;repeat' (first|simp only[go_sem,hD,hZ,gC,gD,E]|(with_reducible refine CU K0 ?_)|(with_reducible refine CU (K0 _) ?_)|(with_reducible refine CU (K0 _ _) ?_)|(with_reducible refine CU (K0 _ _ _) ?_)|(with_reducible refine CU K1 ?_)|(with_reducible refine CU (K1 _) ?_)|(with_reducible refine CU (K1 _ _) ?_)|(with_reducible refine CU (K1 _ _ _) ?_)|(with_reducible refine CU K2 ?_)|(with_reducible refine CU (K2 _) ?_)|(with_reducible refine CU (K2 _ _) ?_)|(with_reducible refine CU (K2 _ _ _) ?_)|(with_reducible refine CU K3 ?_)|(with_reducible refine CU (K3 _) ?_)|(with_reducible refine CU (K3 _ _) ?_)|(with_reducible refine CU (K3 _ _ _) ?_)|((with_reducible refine aX hQ ?_);exact oA))):G:=h e k0 k1 k2 k3
theorem zf4 {E K0 K1 K2 K3 G:Prop} (e:E) (k0:K0) (k1:K1) (k2:K2) (k3:K3) (h:E→K0→K1→K2→K3→G:=by intro E K0 K1 K2 K3;repeat' (first|simp only[go_sem,hD,hZ,gC,gD,E]|(with_reducible refine CU K0 ?_)|(with_reducible refine CU (K0 _) ?_)|(with_reducible refine CU (K0 _ _) ?_)|(with_reducible refine CU (K0 _ _ _) ?_)|(with_reducible refine CU K1 ?_)|(with_reducible refine CU (K1 _) ?_)|(with_reducible refine CU (K1 _ _) ?_)|(with_reducible refine CU (K1 _ _ _) ?_)|(with_reducible refine CU K2 ?_)|(with_reducible refine CU (K2 _) ?_)|(with_reducible refine CU (K2 _ _) ?_)|(with_reducible refine CU (K2 _ _ _) ?_)|(with_reducible refine CU K3 ?_)|(with_reducible refine CU (K3 _) ?_)|(with_reducible refine CU (K3 _ _) ?_)|(with_reducible refine CU (K3 _ _ _) ?_)|(with_reducible first|refine fv fun hc=>?_|refine fw fun hc=>?_|refine fx (fun hc=>?_) fun hc=>?_)<;>(try simp only[hc,bs,↓reduceIte]at h)<;>try simp only[hc]|((with_reducible refine aX hQ ?_);(try cases h);simp only[bZ,cd,dn,dq,go_sem,hD,hZ,gC,gD,E];try exact kI)|(cases h;done))):G:=h e k0 k1 k2 k3
theorem Sc {E K0 K1 K2 K3 K4 G:Prop} (e:E) (k0:K0) (k1:K1) (k2:K2) (k3:K3) (k4:K4) (h:E→K0→K1→K2→K3→K4→G:=by intro E K0 K1 K2 K3 K4;repeat' (first|simp only[go_sem,hD,hZ,gC,gD,E]|(with_reducible refine CU K0 ?_)|(with_reducible refine CU (K0 _) ?_)|(with_reducible refine CU (K0 _ _) ?_)|(with_reducible refine CU (K0 _ _ _) ?_)|(with_reducible refine CU K1 ?_)|(with_reducible refine CU (K1 _) ?_)|(with_reducible refine CU (K1 _ _) ?_)|(with_reducible refine CU (K1 _ _ _) ?_)|(with_reducible refine CU K2 ?_)|(with_reducible refine CU (K2 _) ?_)|(with_reducible refine CU (K2 _ _) ?_)|(with_reducible refine CU (K2 _ _ _) ?_)|(with_reducible refine CU K3 ?_)|(with_reducible refine CU (K3 _) ?_)|(with_reducible refine CU (K3 _ _) ?_)|(with_reducible refine CU (K3 _ _ _) ?_)|(with_reducible refine CU K4 ?_)|(with_reducible refine CU (K4 _) ?_)|(with_reducible refine CU (K4 _ _) ?_)|(with_reducible refine CU (K4 _ _ _) ?_)|((with_reducible refine aX hQ ?_);exact oA))):G:=h e k0 k1 k2 k3 k4
mutual
theorem Vt (n m:Nat) : ∀ d,D.ok 0 0 d=true→D.fg n m d=d
 | .junk,_=>by simp[D.fg]
 | .int k n,_=>by simp[D.fg]
 | .bool b,_=>by simp[D.fg]
 | .str l,_=>by simp[D.fg]
 | .fJ,_=>by simp[D.fg]
 | .val v,_=>by simp[D.fg]
 | .ew z,_=>by simp[D.fg]
 | .gd T o,h=>by simp[D.ok]at h
 | .iC o,h=>by simp[D.ok]at h
 | .iL f cs,h=>by
  simp only[D.ok]at h
  simp only[D.fg,jN n m cs h]
 | .ptr o f,h=>by simp[D.ok]at h
 | .dW r f,h=>by
  simp only[D.ok]at h
  simp only[D.fg,jN n m r h]
 | .slice g z rows,h=>by
  simp only[D.ok,zat]at h
  simp only[D.fg,Ez n m rows h.2]
  cases g with
  |tok t y=>simp[Tag.ok]at h
  |full=>rfl
  |shared=>rfl
 | .agg cs,h=>by
  simp only[D.ok]at h
  simp only[D.fg,jN n m cs h]
 | .tuple cs,h=>by
  simp only[D.ok]at h
  simp only[D.fg,jN n m cs h]
theorem jN (n m:Nat) : ∀ l,D.bJ 0 0 l=true→D.iI n m l=l
 | [],_=>by simp[D.iI]
 |d::r,h=>by
  simp only[D.bJ,zat]at h
  simp only[D.iI,Vt n m d h.1,jN n m r h.2]
theorem Ez (n m:Nat) : ∀ l,D.jB 0 0 l=true→D.kY n m l=l
 | [],_=>by simp[D.kY]
 |d::r,h=>by
  simp only[D.jB,zat]at h
  simp only[D.kY,jN n m d h.1,Ez n m r h.2]
end
theorem jC {α:Type} {f:α→List D} (h : ∀ x,D.bJ 0 0 (f x)=true) (l:List α):D.jB 0 0 (l.map f)=true:=by
 simp[IB,h]
theorem oe {α:Type} {f:α→List D} (h : ∀ x,D.bJ 0 0 (f x)=true) (n m:Nat) (l:List α):D.kY n m (l.map f)=l.map f:=Ez n m _ (jC h l)
theorem Sd (n m:Nat) : ∀ a b,D.kY n m (a++b)=D.kY n m a++D.kY n m b
 | [],b=>by simp[D.kY]
 |x::a,b=>by simp[D.kY,Sd n m a b]
abbrev aD:=List UInt8
structure s7 where
 kind:Int
 text:aD
 n:Int
 pos:Int
deriving DecidableEq
structure Ex where
 op:Int
 n:Int
 name:aD
 kids:List Ex
structure Ar where
 ref:Bool
 name:aD
 x:Ex
structure Sm where
 id:Int
 kind:Int
 labels:List aD
 name:aD
 proc:aD
 x:Ex
 has:Bool
 args:List Ar
 aY:List Sm
 aH:List Sm
structure Pm where
 name:aD
 ref:Bool
structure Pc where
 name:aD
 params:List Pm
 vars:List aD
 body:List Sm
 fin:List aD
structure Pg where
 globals:List aD
 procs:List Pc
def sM:Ex:=⟨0,0,[],[]⟩
def ar0:Ar:=⟨false,[],sM⟩
def LU:Sm:=⟨0,0,[],[],[],sM,false,[],[],[]⟩
def pg0:Pg:=⟨[],[]⟩
def encStr (s:aD):List D:= [.str s]
def lI (t:s7):List D:= [.int .i64 t.kind, .str t.text, .int .i64 t.n, .int .i64 t.pos]
def sl (z:Nat) (rows:List (List D)):D:= .slice .shared z rows
mutual
def bQ:Ex→List D
 |⟨op,n,name,kids⟩=> [.int .i64 op, .int .i64 n, .str name, .slice .shared 4 (yF kids)]
def yF:List Ex→List (List D)
 | []=> []
 |x::l=>bQ x::yF l
end
theorem LV : ∀ l,yF l=l.map bQ
 | []=>by simp[yF]
 |x::l=>by simp[yF,LV l]
theorem jc (x:Ex):bQ x = [.int .i64 x.op, .int .i64 x.n, .str x.name, .slice .shared 4 (x.kids.map bQ)]:=by
 cases x;simp[bQ,LV]
def dH (a:Ar):List D:= [.bool a.ref, .str a.name, .int .i64 a.x.op, .int .i64 a.x.n, .str a.x.name, .slice .shared 4 (a.x.kids.map bQ)]
mutual
def aO:Sm→List D
 |⟨id,kind,labels,name,proc,x,has,args,aY,aH⟩=> [.int .i64 id, .int .i64 kind, .slice .shared 1 (labels.map encStr), .str name, .str proc,
  .int .i64 x.op, .int .i64 x.n, .str x.name, .slice .shared 4 (x.kids.map bQ), .bool has, .slice .shared 6 (args.map dH), .slice .shared 13 (wU aY), .slice .shared 13 (wU aH)]
def wU:List Sm→List (List D)
 | []=> []
 |x::l=>aO x::wU l
end
theorem LW : ∀ l,wU l=l.map aO
 | []=>by simp[wU]
 |x::l=>by simp[wU,LW l]
theorem ep (s:Sm):aO s = [.int .i64 s.id, .int .i64 s.kind, .slice .shared 1 (s.labels.map encStr), .str s.name, .str s.proc,
 .int .i64 s.x.op, .int .i64 s.x.n, .str s.x.name, .slice .shared 4 (s.x.kids.map bQ), .bool s.has, .slice .shared 6 (s.args.map dH), .slice .shared 13 (s.aY.map aO), .slice .shared 13 (s.aH.map aO)]:=by
 cases s;simp[aO,LW]
def fc (p:Pm):List D:= [.str p.name, .bool p.ref]
def bP (p:Pc):List D:= [.str p.name, .slice .shared 2 (p.params.map fc), .slice .shared 1 (p.vars.map encStr), .slice .shared 13 (p.body.map aO), .slice .shared 1 (p.fin.map encStr)]
def bG (p:Pg):List D:= [.slice .shared 1 (p.globals.map encStr), .slice .shared 5 (p.procs.map bP)]
theorem ah6 (x:s7):(lI x).length=4:=nd rfl
theorem afF (x:s7):List.take 4 (lI x)=lI x:=nd rfl
theorem afG (x:s7):List.drop 4 (lI x) = []:=nd rfl
theorem XU (x:s7):(lI x)[0]? = some (.int .i64 x.kind):=nd rfl
theorem XV (x:s7):(lI x)[1]? = some (.str x.text):=nd rfl
theorem XW (x:s7):(lI x)[2]? = some (.int .i64 x.n):=nd rfl
theorem XX (x:s7):(lI x)[3]? = some (.int .i64 x.pos):=nd rfl
theorem amf (IL:Int) (ad1:aD) (n_:Int) (ah8:Int):lI ⟨IL,ad1,n_,ah8⟩ = [.int .i64 IL, .str ad1, .int .i64 n_, .int .i64 ah8]:=by simp only[lI]
theorem ad2 (x:Ex):(bQ x).length=4:=by simp only[jc];rfl
theorem ah9 (x:Ex):List.take 4 (bQ x)=bQ x:=by simp only[jc];rfl
theorem aia (x:Ex):List.drop 4 (bQ x) = []:=by simp only[jc];rfl
theorem aaU (x:Ex):(bQ x)[0]? = some (.int .i64 x.op):=by simp only[jc];rfl
theorem aaV (x:Ex):(bQ x)[1]? = some (.int .i64 x.n):=by simp only[jc];rfl
theorem aaW (x:Ex):(bQ x)[2]? = some (.str x.name):=by simp only[jc];rfl
theorem aaX (x:Ex):(bQ x)[3]? = some (.slice .shared 4 (x.kids.map bQ)):=by simp only[jc];rfl
theorem aqh (op_:Int) (n_:Int) (rl:aD) (ad3:List Ex):bQ ⟨op_,n_,rl,ad3⟩ = [.int .i64 op_, .int .i64 n_, .str rl, .slice .shared 4 (ad3.map bQ)]:=by simp only[jc]
theorem amg (x:Ar):(dH x).length=6:=nd rfl
theorem aib (x:Ar):List.take 6 (dH x)=dH x:=nd rfl
theorem aic (x:Ar):List.drop 6 (dH x) = []:=nd rfl
theorem aaY (x:Ar):(dH x)[0]? = some (.bool x.ref):=nd rfl
theorem aaZ (x:Ar):(dH x)[1]? = some (.str x.name):=nd rfl
theorem aa0 (x:Ar):(dH x)[2]? = some (.int .i64 x.x.op):=nd rfl
theorem aa1 (x:Ar):(dH x)[3]? = some (.int .i64 x.x.n):=nd rfl
theorem aa2 (x:Ar):(dH x)[4]? = some (.str x.x.name):=nd rfl
theorem aa3 (x:Ar):(dH x)[5]? = some (.slice .shared 4 (x.x.kids.map bQ)):=nd rfl
theorem aa4 (x:Ar):List.take 4 (List.drop 2 (dH x))=bQ x.x:=by simp only[dH,jc];rfl
theorem aqi (OX:Bool) (rl:aD) (x_:Ex):dH ⟨OX,rl,x_⟩ = [.bool OX, .str rl, .int .i64 x_.op, .int .i64 x_.n, .str x_.name, .slice .shared 4 (x_.kids.map bQ)]:=by simp only[dH]
theorem NA (x:Sm):(aO x).length=13:=by simp only[ep];rfl
theorem aid (x:Sm):List.take 13 (aO x)=aO x:=by simp only[ep];rfl
theorem aie (x:Sm):List.drop 13 (aO x) = []:=by simp only[ep];rfl
theorem aa5 (x:Sm):(aO x)[0]? = some (.int .i64 x.id):=by simp only[ep];rfl
theorem aa6 (x:Sm):(aO x)[1]? = some (.int .i64 x.kind):=by simp only[ep];rfl
theorem aa7 (x:Sm):(aO x)[2]? = some (.slice .shared 1 (x.labels.map encStr)):=by simp only[ep];rfl
theorem aa8 (x:Sm):(aO x)[3]? = some (.str x.name):=by simp only[ep];rfl
theorem aa9 (x:Sm):(aO x)[4]? = some (.str x.proc):=by simp only[ep];rfl
theorem abb (x:Sm):(aO x)[5]? = some (.int .i64 x.x.op):=by simp only[ep];rfl
theorem abd (x:Sm):(aO x)[6]? = some (.int .i64 x.x.n):=by simp only[ep];rfl
theorem abe (x:Sm):(aO x)[7]? = some (.str x.x.name):=by simp only[ep];rfl
theorem abf (x:Sm):(aO x)[8]? = some (.slice .shared 4 (x.x.kids.map bQ)):=by simp only[ep];rfl
theorem abg (x:Sm):(aO x)[9]? = some (.bool x.has):=by simp only[ep];rfl
theorem XY (x:Sm):(aO x)[10]? = some (.slice .shared 6 (x.args.map dH)):=by simp only[ep];rfl
theorem XZ (x:Sm):(aO x)[11]? = some (.slice .shared 13 (x.aY.map aO)):=by simp only[ep];rfl
theorem X0 (x:Sm):(aO x)[12]? = some (.slice .shared 13 (x.aH.map aO)):=by simp only[ep];rfl
theorem abh (x:Sm):List.take 4 (List.drop 5 (aO x))=bQ x.x:=by simp only[ep,jc];rfl
theorem aqj (id_:Int) (IL:Int) (Se:List aD) (rl:aD) (ad4:aD) (x_:Ex) (aif:Bool) (ad5:List Ar) (aih:List Sm) (aii:List Sm):aO ⟨id_,IL,Se,rl,ad4,x_,aif,ad5,aih,aii⟩ = [.int .i64 id_, .int .i64 IL, .slice .shared 1 (Se.map encStr), .str rl, .str ad4, .int .i64 x_.op, .int .i64 x_.n, .str x_.name, .slice .shared 4 (x_.kids.map bQ), .bool aif, .slice .shared 6 (ad5.map dH), .slice .shared 13 (aih.map aO), .slice .shared 13 (aii.map aO)]:=by simp only[ep]
theorem amh (x:Pm):(fc x).length=2:=nd rfl
theorem aij (x:Pm):List.take 2 (fc x)=fc x:=nd rfl
theorem aik (x:Pm):List.drop 2 (fc x) = []:=nd rfl
theorem abi (x:Pm):(fc x)[0]? = some (.str x.name):=nd rfl
theorem abj (x:Pm):(fc x)[1]? = some (.bool x.ref):=nd rfl
theorem aqk (rl:aD) (OX:Bool):fc ⟨rl,OX⟩ = [.str rl, .bool OX]:=by simp only[fc]
theorem ami (x:Pc):(bP x).length=5:=nd rfl
theorem ail (x:Pc):List.take 5 (bP x)=bP x:=nd rfl
theorem aim (x:Pc):List.drop 5 (bP x) = []:=nd rfl
theorem abk (x:Pc):(bP x)[0]? = some (.str x.name):=nd rfl
theorem abl (x:Pc):(bP x)[1]? = some (.slice .shared 2 (x.params.map fc)):=nd rfl
theorem abm (x:Pc):(bP x)[2]? = some (.slice .shared 1 (x.vars.map encStr)):=nd rfl
theorem abn (x:Pc):(bP x)[3]? = some (.slice .shared 13 (x.body.map aO)):=nd rfl
theorem abo (x:Pc):(bP x)[4]? = some (.slice .shared 1 (x.fin.map encStr)):=nd rfl
theorem aql (rl:aD) (Sf:List Pm) (ad6:List aD) (ad7:List Sm) (ain:List aD):bP ⟨rl,Sf,ad6,ad7,ain⟩ = [.str rl, .slice .shared 2 (Sf.map fc), .slice .shared 1 (ad6.map encStr), .slice .shared 13 (ad7.map aO), .slice .shared 1 (ain.map encStr)]:=by simp only[bP]
theorem amj (x:Pg):(bG x).length=2:=nd rfl
theorem aio (x:Pg):List.take 2 (bG x)=bG x:=nd rfl
theorem aip (x:Pg):List.drop 2 (bG x) = []:=nd rfl
theorem abp (x:Pg):(bG x)[0]? = some (.slice .shared 1 (x.globals.map encStr)):=nd rfl
theorem abq (x:Pg):(bG x)[1]? = some (.slice .shared 5 (x.procs.map bP)):=nd rfl
theorem aqm (OY:List aD) (X1:List Pc):bG ⟨OY,X1⟩ = [.slice .shared 1 (OY.map encStr), .slice .shared 5 (X1.map bP)]:=by simp only[bG]
attribute [go_sem] ah6 afF afG XU XV XW XX amf ad2 ah9 aia aaU aaV aaW aaX aqh amg aib aic aaY aaZ aa0 aa1 aa2 aa3 aa4 aqi NA aid aie aa5 aa6 aa7 aa8 aa9 abb abd abe abf abg XY XZ X0 abh aqj amh aij aik abi abj aqk ami ail aim abk abl abm abn abo aql amj aio aip abp abq aqm
theorem IM (s:aD):D.bJ 0 0 (encStr s)=true:=rfl
theorem ad8 (t:s7):D.bJ 0 0 (lI t)=true:=rfl
mutual
theorem je : ∀ x,D.bJ 0 0 (bQ x)=true
 |⟨op,n,name,kids⟩=>by simp[bQ,D.bJ,D.ok,Tag.ok,ad9 kids]
theorem ad9 : ∀ l,D.jB 0 0 (yF l)=true
 | []=>rfl
 |x::l=>by simp[yF,D.jB,je x,ad9 l]
end
theorem OZ (a:Ar):D.bJ 0 0 (dH a)=true:=by simp[dH,D.bJ,D.ok,Tag.ok,jC je]
mutual
theorem nN : ∀ x,D.bJ 0 0 (aO x)=true
 |⟨id,kind,labels,name,proc,x,has,args,aY,aH⟩=>by simp[aO,D.bJ,D.ok,Tag.ok,Vu aY,Vu aH,jC IM,jC je,jC OZ]
theorem Vu : ∀ l,D.jB 0 0 (wU l)=true
 | []=>rfl
 |x::l=>by simp[wU,D.jB,nN x,Vu l]
end
theorem Vv (p:Pm):D.bJ 0 0 (fc p)=true:=rfl
theorem tT (p:Pc):D.bJ 0 0 (bP p)=true:=by simp[bP,D.bJ,D.ok,Tag.ok,jC Vv,jC IM,jC nN]
theorem fW (p:Pg):D.bJ 0 0 (bG p)=true:=by simp[bG,D.bJ,D.ok,Tag.ok,jC IM,jC tT]
theorem aiq (n m:Nat) (x:s7):D.iI n m (lI x)=lI x:=jN n m _ (ad8 x)
theorem amk (n m:Nat) (x:Ex):D.iI n m (bQ x)=bQ x:=jN n m _ (je x)
theorem aml (n m:Nat) (x:Ar):D.iI n m (dH x)=dH x:=jN n m _ (OZ x)
theorem amm (n m:Nat) (x:Sm):D.iI n m (aO x)=aO x:=jN n m _ (nN x)
theorem amn (n m:Nat) (x:Pm):D.iI n m (fc x)=fc x:=jN n m _ (Vv x)
theorem amo (n m:Nat) (x:Pc):D.iI n m (bP x)=bP x:=jN n m _ (tT x)
theorem amp (n m:Nat) (x:Pg):D.iI n m (bG x)=bG x:=jN n m _ (fW x)
attribute [go_sem] aiq amk aml amm amn amo amp
theorem dv (l:List aD):D.jB 0 0 (l.map encStr)=true:=jC IM l
theorem aea (l:List Ex):D.jB 0 0 (l.map bQ)=true:=jC je l
theorem NB (l:List Ar):D.jB 0 0 (l.map dH)=true:=jC OZ l
theorem pB (l:List Sm):D.jB 0 0 (l.map aO)=true:=jC nN l
theorem amq (l:List Pm):D.jB 0 0 (l.map fc)=true:=jC Vv l
theorem zO (l:List Pc):D.jB 0 0 (l.map bP)=true:=jC tT l
theorem O0 (n m:Nat) (l:List aD):D.kY n m (l.map encStr)=l.map encStr:=oe IM n m l
theorem air (n m:Nat) (l:List s7):D.kY n m (l.map lI)=l.map lI:=oe ad8 n m l
theorem amr (n m:Nat) (l:List Ex):D.kY n m (l.map bQ)=l.map bQ:=oe je n m l
theorem ams (n m:Nat) (l:List Ar):D.kY n m (l.map dH)=l.map dH:=oe OZ n m l
theorem amt (n m:Nat) (l:List Sm):D.kY n m (l.map aO)=l.map aO:=oe nN n m l
theorem amu (n m:Nat) (l:List Pm):D.kY n m (l.map fc)=l.map fc:=oe Vv n m l
theorem aeb (n m:Nat) (l:List Pc):D.kY n m (l.map bP)=l.map bP:=oe tT n m l
theorem ais (x:Ex) (r:List D):bQ x++r = .int .i64 x.op:: .int .i64 x.n:: .str x.name:: .slice .shared 4 (x.kids.map bQ)::r:=by rw[jc];rfl
theorem afH (d:D) (x:Ex):d::bQ x = [d, .int .i64 x.op, .int .i64 x.n, .str x.name, .slice .shared 4 (x.kids.map bQ)]:=by rw[jc]
attribute [go_sem] ais afH
theorem amv:((0:Nat):Int)=0:=nd rfl
theorem amw:((1:Nat):Int)=1:=nd rfl
theorem amx:((2:Nat):Int)=2:=nd rfl
attribute [go_sem] amv amw amx Sd zal zag encStr sM ar0 LU pg0 O0 air amr ams amt amu aeb
theorem mx (a b:Nat):(if(b:Int) > (a:Int)then(b:Int)else(a:Int))=((max a b:Nat):Int):=by split<;>omega
theorem dE {x:Int} (h1 : -9223372036854775808≤x) (h2:x<9223372036854775808):IntKind.wrap .i64 x=x:=by
 rw[IntKind.wrap_i64];omega
@[go_sem] theorem ak {n:Nat} (h:n<4611686018427387904):IntKind.wrap .i64 ((n:Int)+1)=((n+1:Nat):Int):=by
 rw[dE]<;>omega
def inc (n:Nat):Option Nat:=if n<4611686018427387904 then some (n+1)else none
def aqn (n:Int):Option Int:=if -4611686018427387904<n∧n<4611686018427387904 then some (n+1)else none
@[go_sem] theorem aoJ {n:Nat} (h:n+1<4611686018427387904):IntKind.wrap .i64 ((n:Int)+1)=((n+1:Nat):Int):=by
 rw[dE]<;>omega
@[go_sem] theorem aoK {n:Nat} (h:n<4611686018427387904):IntKind.wrap .i64 ((n:Int)+2)=((n+2:Nat):Int):=by
 rw[dE]<;>omega
def ait {α:Type} (l:List α) (i:Nat):Option α:=if i<4611686018427387904 then l[i]? else none
def push {α:Type} (k:Nat) (l:List α) (x:α):Option (List α):=if(l.length+1)*k≤aT then some (l++ [x])else none
end Go.Abs
namespace Go.Abs
def Gy (os ts:List Nat) (tm:Tm):Tm→Prop
 | []=>True
 |(k,d)::r=>tm.get k=d.di os ts∧d.ok os.length ts.length=true∧Gy os ts tm r
theorem Gy.get {os ts:List Nat} {tm:Tm} : ∀ {da:Tm},Gy os ts tm da→∀ k,da.get k = .junk∨(tm.get k=(da.get k).di os ts∧(da.get k).ok os.length ts.length=true)
 | [],_,k=> .inl rfl
 |(q,d)::r,⟨h1,h2,h3⟩,k=>by
  simp only[Tm.get]
  split
  ·rename_i e;subst e;exact .inr ⟨h1,h2⟩
  ·exact h3.get k
section
variable {P:Program} {B:gK} {nt:Nat}
theorem Holds.sel {tm:Tm} {s:St} {act:Act} {w:World} (os:List Nat) (iQ:List (List D)) (da:Tm) (xD:os.Nodup) (kg : ∀ o∈os,o<s.ag.length) (hn:B.s.ag.length≤os.length)
 (hold : ∀ i,i<B.s.ag.length→os[i]? = some i) (dF : ∀ (i o:Nat),os[i]? = some o→B.s.ag.length≤i→B.s.ag.length≤o) (ho:iQ.length=os.length)
 (AP : ∀ (i o:Nat) (ds:List D),os[i]? = some o→iQ[i]? = some ds→s.ag[o]? = some (D.eJ os (List.range s.au.length) ds)∧D.bJ os.length s.au.length ds=true)
 (X2:Gy os (List.range s.au.length) tm da) (h:Holds B nt tm s act w):Holds B nt da ⟨iQ,s.au⟩ act w:=by
 obtain⟨M,e,r,hr,h1,h2⟩:=h
 have Bo:(List.range s.au.length).length=s.au.length:=List.length_range
 have rg : ∀ (i t:Nat),(List.range s.au.length)[i]? = some t→i=t:=fun i t h=>by
  rw[zac]at h
  obtain⟨h3,h4⟩:=h
  simpa using h4
 have r0:Rel (jl M os (List.range s.au.length)) ⟨iQ,s.au⟩ w:=r.sub xD List.nodup_range kg ho (fun i o ds e1 e2=>by rw[Bo];exact AP i o ds e1 e2) Bo.symm (fun i t h=>by rw[rg i t h])
 have loc : ∀ (i:Nat) o,os[i]? = some o→(jl M os (List.range s.au.length)).loc i=M.loc o:=fun i o h=>by simp only[jl,yc h]
 have be : ∀ t,t<s.au.length→(jl M os (List.range s.au.length)).be t=M.be t:=fun t h=>by
  have:(List.range s.au.length)[t]? = some t:=zb2 h
  simp only[jl,yc this]
 refine⟨jl M os (List.range s.au.length),⟨⟨e.le.G,by rw[ho];exact hn,fun o h=>?_,e.le.t,fun t n' h e'=>?_⟩,e.kept,fun o h3 h4=>?_,fun t b c z hl hb=>?_,e.uE,e.size,e.os,e.tape,e.output⟩,r0,fun k=>?_,h1,h2⟩
 ·rw[loc o o (hold o h)];exact e.le.loc o h
 ·obtain⟨n,g1,g2,g3⟩:=e.le.tk t n' h e'
  exact⟨n,g1,g2,fun eq=>by rw[be t (zaX h e.le.t)];exact g3 eq⟩
 ·simp only at h4
  rw[ho]at h4
  obtain⟨q,hq⟩ : ∃ q,os[o]? = some q:=⟨_,zah h4⟩
  have pL:(jl M os (List.range s.au.length)).mu o=M.mu q:=congrArg Prod.fst (loc o q hq)
  rw[pL]at h3 ⊢
  refine e.vz q ?_ (kg q (zad hq))
  by_cases h5:B.s.ag.length≤o
  ·exact .inl (dF o q hq h5)
  ·have:=hold o (by omega)
   rw[hq]at this
   cases this
   rcases h3 with h3|h3
   ·exact(h5 h3).elim
   ·exact .inr h3
 ·obtain⟨n,uK⟩:=hl
  have hD:=(zac.1 uK).1
  rw[be t hD]at hb
  exact e.rH t b c z ⟨n,uK⟩ hb
 ·rcases X2.get k with h3 | ⟨h3,h4⟩
  ·rw[h3];exact .junk _
  ·exact RD.FA (M:=M) (M0:=jl M os (List.range s.au.length)) (s:=s) (s0:=⟨iQ,s.au⟩) rfl loc ho (fun i t h=>by
    have:=rg i t h;subst this;exact be i (by have:=(zac.1 h).1;rwa [Bo]at this)) (fun i t h=>by rw[rg i t h]) Bo.symm (h3 ▸ hr k) _ rfl h4
theorem aJ.sel {a:AC} {Q:Exit→Tm→St→Prop} {tm:Tm} {s:St} (os:List Nat) (iQ:List (List D)) (da:Tm) (xD:os.Nodup) (kg : ∀ o∈os,o<s.ag.length) (hn:B.s.ag.length≤os.length)
 (hold : ∀ i,i<B.s.ag.length→os[i]? = some i) (dF : ∀ (i o:Nat),os[i]? = some o→B.s.ag.length≤i→B.s.ag.length≤o) (ho:iQ.length=os.length)
 (AP : ∀ (i o:Nat) (ds:List D),os[i]? = some o→iQ[i]? = some ds→s.ag[o]? = some (D.eJ os (List.range s.au.length) ds)∧D.bJ os.length s.au.length ds=true)
 (X2:Gy os (List.range s.au.length) tm da) (h:aJ P B nt a Q da ⟨iQ,s.au⟩):aJ P B nt a Q tm s:=
 fun c hc act w hh=>h c hc act w (hh.sel os iQ da xD kg hn hold dF ho AP X2)
mutual
def D.gW (o g:Nat) (rows:List (List D)):D→D
 | .dr z o' g' len=>if o'=o∧g'=g∧len=rows.length then .slice .shared z rows else .dr z o' g' len
 | .dW row off=> .dW (D.k6 o g rows row) off
 | .slice t z rs=> .slice t z (D.uP o g rows rs)
 | .agg cs=> .agg (D.k6 o g rows cs)
 | .tuple ds=> .tuple (D.k6 o g rows ds)
 | .iL f cs=> .iL f (D.k6 o g rows cs)
 | .ptr o off=> .ptr o off
 | .junk=> .junk
 | .int k x=> .int k x
 | .bool b=> .bool b
 | .str l=> .str l
 | .fJ=> .fJ
 | .val v=> .val v
 | .gd T o=> .gd T o
 | .iC o=> .iC o
 | .fK o g off=> .fK o g off
 | .ew z=> .ew z
def D.k6 (o g:Nat) (rows:List (List D)):List D→List D
 | []=> []
 |d::r=>D.gW o g rows d::D.k6 o g rows r
def D.uP (o g:Nat) (rows:List (List D)):List (List D)→List (List D)
 | []=> []
 |d::r=>D.k6 o g rows d::D.uP o g rows r
end
theorem q5 (o g:Nat) (rows:List (List D)) : ∀ l,D.k6 o g rows l=l.map (D.gW o g rows)
 | []=>by simp[D.k6]
 |d::r=>by simp[D.k6,q5 o g rows r]
theorem Sg (o g:Nat) (rows:List (List D)) : ∀ l,D.uP o g rows l=l.map (D.k6 o g rows)
 | []=>by simp[D.uP]
 |d::r=>by simp[D.uP,Sg o g rows r]
theorem RD.gW {M:Map} {s:St} {o g:Nat} {rows:List (List D)} {b cap z:Nat} {A:Nat→Option (Nat×Nat)} (hm:M.ob o = .arr z A) (ha:A g=some (b,cap))
 (hs : ∀ row∈rows,row.length=z) (h1 : ∀ (i:Nat) (row:List D) (j:Nat) (d:D),rows[i]? = some row→row[j]? = some d→∃ u,M.G b (0+(i*z+j))=some u)
 (h2 : ∀ (i:Nat) (row:List D) (j:Nat) (d:D) (u:Value),rows[i]? = some row→row[j]? = some d→M.G b (0+(i*z+j))=some u→RD M s d u)
 {d:D} {v:Value} (h:RD M s d v):RD M s (d.gW o g rows) v:=by
 induction h with
 | dr z' o' g' len b' sR A' ho Dv Bx hl=>
  simp only[D.gW]
  split
  ·rename_i hc
   obtain⟨rfl,rfl,rfl⟩:=hc
   rw[hm]at Dv
   cases Dv
   rw[ha]at Bx
   cases Bx
   exact .slice .shared z rows b 0 cap hl hs h1 h2 trivial
  ·exact .dr z' o' g' len b' sR A' ho Dv Bx hl
 |fK z' o' g' off b' sR A' ho Dv Bx=>simp only[D.gW];exact .fK z' o' g' off b' sR A' ho Dv Bx
 |ew z a=>simp only[D.gW];exact .ew z a
 |junk v=>simp only[D.gW];exact .junk v
 |int k x=>simp only[D.gW];exact .int k x
 |bool b=>simp only[D.gW];exact .bool b
 |str l=>simp only[D.gW];exact .str l
 |fJ=>simp only[D.gW];exact .fJ
 |val v hv=>simp only[D.gW];exact .val v hv
 |gd T o v h ht hv=>simp only[D.gW];exact .gd T o v h ht hv
 |iC o h hm=>simp only[D.gW];exact .iC o h hm
 |ptr o off h hm=>simp only[D.gW];exact .ptr o off h hm
 |iL f ds vs hl _ ih=>
  simp only[D.gW,q5]
  refine .iL f _ vs (by simpa using hl) (fun i d v e1 e2=>?_)
  simp only[zap,zaw]at e1
  obtain⟨d',e1,rfl⟩:=e1
  exact ih i d' v e1 e2
 | dW row off b k h1 h2 ih=>
  simp only[D.gW,q5]
  refine .dW _ off b k (fun i d e=>?_) (fun i d u e eu=>?_)
  ·simp only [zap,zaw]at e
   obtain⟨d',e,rfl⟩:=e
   exact h1 i d' e
  ·simp only [zap,zaw]at e
   obtain⟨d',e,rfl⟩:=e
   exact ih i d' u e eu
 |jw t z cap hc ht=>simp only[D.gW,D.uP];exact .jw _ z cap hc ht
 |lY z a cap=>simp only[D.gW,D.uP];exact .lY z a cap
 | slice t z rs b k cap hl hs h1 h2 ht ih=>
  simp only[D.gW,Sg]
  have hlen:(rs.map (D.k6 o g rows)).length=rs.length:=by simp
  have key:=RD.slice (M:=M) (s:=s) t z (rs.map (D.k6 o g rows)) b k cap (by rw[hlen];exact hl) (fun row hr=>by
   obtain⟨l5,h',rfl⟩:=zaG.1 hr
   rw[q5,zau];exact hs l5 h')
   (fun i row j d e1 e2=>by
    simp only[zap,zaw]at e1
    obtain⟨l5,e1,rfl⟩:=e1
    rw[q5]at e2
    simp only[zap,zaw]at e2
    obtain⟨d',e2,rfl⟩:=e2
    exact h1 i l5 j d' e1 e2)
   (fun i row j d u e1 e2 eu=>by
    simp only[zap,zaw]at e1
    obtain⟨l5,e1,rfl⟩:=e1
    rw[q5]at e2
    simp only[zap,zaw]at e2
    obtain⟨d',e2,rfl⟩:=e2
    exact ih i l5 j d' u e1 e2 eu)
   (by rw[hlen];exact ht)
  rw[hlen]at key
  exact key
 |agg cells vs hl h1 _ ih=>
  simp only[D.gW,q5]
  refine .agg _ vs (by simpa using hl) h1 (fun i d v e1 e2=>?_)
  simp only[zap,zaw]at e1
  obtain⟨d',e1,rfl⟩:=e1
  exact ih i d' v e1 e2
 |tuple ds vs hl _ ih=>
  simp only[D.gW,q5]
  refine .tuple _ vs (by simpa using hl) (fun i d v e1 e2=>?_)
  simp only[zap,zaw]at e1
  obtain⟨d',e1,rfl⟩:=e1
  exact ih i d' v e1 e2
def fzR (o g:Nat) (rows:List (List D)) (n m:Nat) (ds:List D):List D:=D.iI n m (D.k6 o g rows ds)
def TmF (o g:Nat) (rows:List (List D)) (m:Nat) (tm:Tm):Tm→Prop
 | []=>True
 |(k,d)::r=>Wk (((tm.get k).gW o g rows).fg o m) d∧TmF o g rows m tm r
end
end Go.Abs
namespace Go.Abs
theorem ay.Gi {P:Program} {f:Nat} {args:List D} {s0 s:St} {o off n m:Nat} {row:List D} (h:ay P f args s0 (.ptr o off) s) (ho:s.ag[o]? = some row) (hn:s0.ag.length≤n) (BJ:n≤o) (hm:s0.au.length≤m) :
 ay P f args s0 (.dW (D.iI n m row) off) (s.cut n m):=by
 intro M0 w0 fH r0 kM aqo ha
 refine(h M0 w0 fH r0 kM aqo ha).mono ?_
 rintro en w ⟨M,d,v0,s',rfl,⟨rfl,rfl⟩,e,r,hv⟩
 have yo:=hv.D8
 have sT:v0 = .pointer (some ⟨M.mu o,off,none⟩):=hv.vE.1
 have Kg:o<s'.ag.length:=(zac.1 ho).1
 obtain⟨vs,T,hh,dJ,⟨ig,_⟩,jy⟩:=r.obj o row ho
 replace hh:w.heap[M.mu o]? = some (.cells vs T (0,0)):=hh.cells yo
 let M':Map:= {M with G:=fun b q=>if b=M.mu o then vs[q]? else M.G b q}
 have hGo : ∀ q,M.G (M.mu o) q=none:=r.kU o Kg
 have le:Le M s' M' s':=⟨fun b q v hq=>by
  show(if b=M.mu o then vs[q]? else M.G b q)=some v
  by_cases hb:b=M.mu o
  ·subst hb;rw[hGo]at hq;cases hq
  ·rw[if_neg hb];exact hq,zak _,fun _ _=> .refl _,zak _,fun t n' _ e=>⟨n',e,zak _,fun _=>rfl⟩⟩
 have hD : ∀ q,q<(s'.cut n m).ag.length→q<s'.ag.length∧q≠o:=fun q h=>by rw[qv]at h;omega
 have sA:w0.heap.size≤M.mu o:=e.vz o (.inl (by omega)) Kg
 have ec:=e.cut hn hm
 have lec:Le M (s'.cut n m) M' (s'.cut n m):=⟨le.G,zak _,fun _ _=> .refl _,zak _,fun t n' _ e=>⟨n',e,zak _,fun _=>rfl⟩⟩
 have rc:=r.cut n m
 have s5 : ∀ b,b≠M.mu o→∀ q,M'.G b q=M.G b q:=fun b hb q=>if_neg hb
 refine⟨M',_,v0,_,rfl,⟨rfl,rfl⟩,⟨ec.le.trans lec,ec.kept,ec.vz,ec.rH,fun b q dj=>?_,ec.size,ec.os,ec.tape,ec.output⟩,⟨fun b q v hq=>?_,fun q ds hq=>?_,fun q hq AE=>?_,rc.inj,fun t n' W9=>?_,rc.fL,rc.gS⟩, ?_⟩
 ·by_cases hb:b=M.mu o
  ·subst hb;exact .inl sA
  ·rw[s5 b hb]at dj;exact ec.uE b q dj
 ·have om:(if b=M.mu o then vs[q]? else M.G b q)=some v:=hq
  by_cases hb:b=M.mu o
  ·rw [if_pos hb]at om
   rw[hb,j9 hh]
   exact⟨om,ig v (zbE om)⟩
  ·rw [if_neg hb]at om
   exact r.comm b q v om
 ·obtain⟨gf,T',h3,h4,h5,h6⟩:=rc.obj q ds hq
  exact⟨gf,T',h3,h4,h5,fun i d v e1 e2=>(h6 i d v e1 e2).mono lec⟩
 ·obtain⟨h3,h4⟩:=hD q hq
  show M'.G (M.mu q) AE=none
  rw[s5 _ (fun e=>h4 (r.inj q o h3 Kg e))]
  exact r.kU q h3 AE
 ·rcases rc.tok t n' W9 with h3 | ⟨b,cap,z,gf,T',h3,h4,h5,h6,h7⟩
  ·exact .inl h3
  ·refine .inr ⟨b,cap,z,gf,T',h3,h4,h5,h6,fun AE Hk=> ?_,h7.2⟩
   rw[s5 _ (fun e=>r.fL t b cap z o (yz ⟨n',W9⟩) h3 Kg e.symm)]
   exact h7.1 AE Hk
 ·rw [sT]
  have:=RD.dW (M:=M') (s:=s'.cut n m) (D.iI n m row) off (M.mu o) 0 (fun i d e1=>?_) (fun i d u e1 eu=>?_)
  ·simpa using this
  ·rw [pO,zap,zaw]at e1
   obtain⟨d0,e1,rfl⟩:=e1
   have hi:=(zac.1 e1).1
   refine⟨vs[i]'(by omega), ?_⟩
   show(if M.mu o=M.mu o then vs[0+i]? else _)=_
   rw[if_pos rfl,zaS]
   exact za6 _
  ·rw [pO,zap,zaw]at e1
   obtain⟨d0,e1,rfl⟩:=e1
   have IN:(if M.mu o=M.mu o then vs[0+i]? else M.G (M.mu o) (0+i))=some u:=eu
   rw[if_pos rfl,zaS]at IN
   exact((jy i d0 u e1 IN).fg n m).mono lec
theorem ay.goK {P:Program} {f:FuncId} {res:List (Nat×Option (Bool×Nat))} {body:AC} {args:List D} {s:St} {d:D} {s':St} {nt:Nat} (n m:Nat) (hn:s.ag.length≤n) (hm:s.au.length≤m) (h0:Has P f nt res body) (hl:Nat.ble args.length nt=true)
 (h : ∀ (B:gK) (Q:Exit→Tm→St→Prop),B.s=s→oa n m res d s'=Q→iW P B nt body Q (ox 0 args) s):ay P f args s d s':=by
 obtain⟨fn,hf,hc⟩:=h0
 refine bk.ID (bk.intro (Q:=fun d1 s1=>Wk d1 d∧iF s1.ag s'.ag∧s1.au=s'.au) hf hc (zbl hl) fun B hB=>(iM (h B _ hB rfl)).mono fun e tm s1 hr=>?_) fun d1 s1 ⟨h1,h2,h3⟩=>⟨d,s',h1,h2,h3,rfl,rfl⟩
 subst hB
 cases e with
 |normal=>obtain⟨l,h1,h2,h3,h4⟩:=hr;exact⟨l,h1,_,_,hn,hm,h2,h3,h4⟩
 |ret=>obtain⟨l,h1,h2,h3,h4⟩:=hr;exact⟨l,h1,_,_,hn,hm,h2,h3,h4⟩
 |exit id=>exact hr.elim
 |goto l=>exact hr.elim
 |panic ch=>exact hr.elim
 |outgrown=>exact hr.elim
section
variable (s:St) (o g off len k z size bytes:Nat) (kk:IntKind)
theorem amy:qq s o g=match s.ag[o]? with|some (.int .i64 n::cells)=>if n=(g:Int)then some cells else none|_=>none:=nd rfl
theorem aix (agg:Bool):Cs (.fK o g off) agg size s=match qq s o g with|some cells=>(match part cells off agg size with|some d=>some (d,s)|none=>none)|none=>none:=nd rfl
theorem afI (r:List D):D3 (.fK o g off) (some r) size s=match qq s o g with
 |some cells=>if r.length=size∧off+size≤cells.length then some (.tuple [],⟨s.ag.set o (.int .i64 g::fU cells off r),s.au⟩)else none
 |none=>none:=nd rfl
theorem amz:To (.fK o g off)=some (.fK o g off):=nd rfl
theorem afJ:Il (.fK o g k) off=some (.fK o g (k+off)):=nd rfl
theorem afK:wB (.dr z o g len) (.int kk (k:Int)) size=if k<len then(if z=size then some (.fK o g (k*z))else none)else none:=by
 simp only[wB]
 by_cases h1:k<len<;>by_cases h2:z=size<;>simp[h1,h2]
theorem amA:J0 (.dr z o g len)=some (.int .i64 len):=nd rfl
theorem aiy:J0 (.ew z)=some (.int .i64 0):=nd rfl
theorem Hp {z bytes:Nat} (t:Tag) (r:List D) (s:St) (hm:bytes+1≤aT):Ct z bytes (.ew z) (.slice t z [r]) s=some (.dr z s.ag.length 0 1,⟨s.ag++ [.int .i64 ((0:Nat):Int)::r],s.au⟩):=by
 simp[Ct,hm]
theorem amB (n m:Nat):D.fg n m (.dr z o g len)=if o<n then .dr z o g len else .junk:=nd (by simp only[D.fg])
theorem amC (n m:Nat):D.fg n m (.fK o g off)=if o<n then .fK o g off else .junk:=nd (by simp only[D.fg])
theorem amD (n m:Nat):D.fg n m (.ew z) = .ew z:=nd (by simp only[D.fg])
theorem aiz:(D.dr z o g len).row=some [.dr z o g len]:=nd rfl
theorem aiA:(D.fK o g off).row=some [.fK o g off]:=nd rfl
theorem aiB:(D.ew z).row=some [.ew z]:=nd rfl
end
attribute [go_sem] amy aix afI amz afJ afK amA aiy amB amC amD aiz aiA aiB
theorem Wk.ew (z z':Nat):Wk (.slice .full z []) (.ew z'):=fun M s v h=>by
 cases h with
 |jw _ _ cap hc ht=>subst hc;exact .ew z' none
 |slice _ _ _ b k cap hl hs h1 h2 ht=>
  have:cap=0:=ht
  subst this
  exact .ew z' _
instance (z z':Nat):Ok (Wk (.slice .full z []) (.ew z')):=⟨Wk.ew z z'⟩
instance {a a' b b':List D} [Ok (jM a a')] [Ok (jM b b')] : Ok (jM (a++b) (a'++b')):=⟨jM.append Ok.out Ok.out⟩
theorem amE (n m:Nat) (a b:List D):D.iI n m (a++b)=D.iI n m a++D.iI n m b:=nd (by simp only[pO,zag])
attribute [go_sem] amE
def EB (os:List Nat) (m:Nat) (ag:List (List D)):List Nat→List (List D)→Prop
 | [],[]=>True
 |o::l,ds::r=>ag[o]? = some (D.eJ os (List.range m) ds)∧D.bJ os.length m ds=true∧EB os m ag l r
 |_,_=>False
theorem EB.get {os:List Nat} {m:Nat} {ag:List (List D)} : ∀ {l:List Nat} {r:List (List D)},EB os m ag l r→r.length=l.length∧∀ (i o:Nat) (ds:List D),l[i]? = some o→r[i]? = some ds→ag[o]? = some (D.eJ os (List.range m) ds)∧D.bJ os.length m ds=true
 | [],[],_=>⟨rfl,fun i o ds h=>by simp at h⟩
 |o::l,ds::r,⟨h1,h2,h3⟩=>by
  obtain⟨g1,g2⟩:=h3.get
  refine⟨by simp[g1],fun i o' qi e1 e2=>?_⟩
  cases i with
  |zero=>simp at e1 e2;subst e1 e2;exact⟨h1,h2⟩
  |succ i=>exact g2 i o' qi (by simpa using e1) (by simpa using e2)
 | [],_::_,h=>h.elim
 |_::_,[],h=>h.elim
section
variable {P:Program} {B:gK} {nt:Nat} {a:AC} {Q:Exit→Tm→St→Prop} {tm:Tm} {s:St}
theorem aJ.aqp (hB:B.s = ⟨[],[]⟩) (os:List Nat) (iQ:List (List D)) (da:Tm) (xD:os.Nodup) (kg : ∀ o∈os,o<s.ag.length) (AP:EB os s.au.length s.ag os iQ) (X2:Gy os (List.range s.au.length) tm da)
 (h:aJ P B nt a Q da ⟨iQ,s.au⟩):aJ P B nt a Q tm s:=
 aJ.sel os iQ da xD kg (by rw[hB];exact zaA _) (fun i h=>by rw[hB]at h;exact absurd h (zaT _)) (fun i o _ _=>by rw[hB];exact zaA _) AP.get.1 AP.get.2 X2 h
end
section
variable (os ts:List Nat) (n m:Nat)
theorem amF (o off:Nat):D.di os ts (.ptr o off)=match os[o]? with|some o'=> .ptr o' off|none=> .junk:=nd (by simp only[D.di]<;>rfl)
theorem amG (z o g len:Nat):D.di os ts (.dr z o g len)=match os[o]? with|some o'=> .dr z o' g len|none=> .junk:=nd (by simp only[D.di]<;>rfl)
theorem afL (g:Tag) (z:Nat) (rows:List (List D)):D.di os ts (.slice g z rows) = .slice (g.di ts) z (D.n8 os ts rows):=nd (by simp only[D.di])
theorem amH (l:List D):D.di os ts (.agg l) = .agg (D.eJ os ts l):=nd (by simp only[D.di])
theorem aiC:D.di os ts .junk = .junk:=nd (by simp only[D.di])
theorem amI (k:IntKind) (x:Int):D.di os ts (.int k x) = .int k x:=nd (by simp only[D.di])
theorem aiD (b:Bool):D.di os ts (.bool b) = .bool b:=nd (by simp only[D.di])
theorem amJ (l:List UInt8):D.di os ts (.str l) = .str l:=nd (by simp only[D.di])
theorem aiE:D.di os ts .fJ = .fJ:=nd (by simp only[D.di])
theorem aiF (z:Nat):D.di os ts (.ew z) = .ew z:=nd (by simp only[D.di])
theorem afM:D.eJ os ts [] = []:=nd (by simp only[D.eJ])
theorem afN (d:D) (l:List D):D.eJ os ts (d::l)=D.di os ts d::D.eJ os ts l:=nd (by simp only[D.eJ])
theorem abr:Tag.di ts .shared = .shared:=nd rfl
theorem aiG:Tag.di ts .full = .full:=nd rfl
theorem afO (o off:Nat):D.ok n m (.ptr o off)=decide (o<n):=nd (by simp only[D.ok])
theorem afP (z o g len:Nat):D.ok n m (.dr z o g len)=decide (o<n):=nd (by simp only[D.ok])
theorem X3 (g:Tag) (z:Nat) (rows:List (List D)):D.ok n m (.slice g z rows)=(g.ok m && D.jB n m rows):=nd (by simp only[D.ok])
theorem afQ (l:List D):D.ok n m (.agg l)=D.bJ n m l:=nd (by simp only[D.ok])
theorem abt:D.ok n m .junk=true:=nd (by simp only[D.ok])
theorem afR (k:IntKind) (x:Int):D.ok n m (.int k x)=true:=nd (by simp only[D.ok])
theorem abu (b:Bool):D.ok n m (.bool b)=true:=nd (by simp only[D.ok])
theorem afS (l:List UInt8):D.ok n m (.str l)=true:=nd (by simp only[D.ok])
theorem abv:D.ok n m .fJ=true:=nd (by simp only[D.ok])
theorem abw (z:Nat):D.ok n m (.ew z)=true:=nd (by simp only[D.ok])
theorem aiH:D.bJ n m [] = true:=nd (by simp only[D.bJ])
theorem aiI (d:D) (l:List D):D.bJ n m (d::l)=(D.ok n m d && D.bJ n m l):=nd (by simp only[D.bJ])
theorem Vw:Tag.ok m .shared=true:=nd rfl
theorem abx:Tag.ok m .full=true:=nd rfl
theorem afT (os:List Nat) (m:Nat) (ag:List (List D)):EB os m ag [] [] = True:=nd rfl
theorem afU (os:List Nat) (m:Nat) (ag:List (List D)) (o:Nat) (l:List Nat) (ds:List D) (r:List (List D)):EB os m ag (o::l) (ds::r)=(ag[o]? = some (D.eJ os (List.range m) ds)∧D.bJ os.length m ds=true∧EB os m ag l r):=nd rfl
theorem aiJ (tm:Tm):Gy os ts tm [] = True:=nd rfl
theorem aiK (tm:Tm) (k:Nat) (d:D) (r:Tm):Gy os ts tm ((k,d)::r)=(tm.get k=d.di os ts∧d.ok os.length ts.length=true∧Gy os ts tm r):=nd rfl
theorem O1 (rows:List (List D)) (h:D.jB 0 0 rows=true):D.n8 os ts rows=rows:=kH os ts rows h
theorem IP (row:List D) (h:D.bJ 0 0 row=true):D.eJ os ts row=row:=fN os ts row h
theorem Vx (rows:List (List D)) (h:D.jB 0 0 rows=true):D.jB n m rows=true:=oU (zaA n) (zaA m) rows h
theorem NC (row:List D) (h:D.bJ 0 0 row=true):D.bJ n m row=true:=jW (zaA n) (zaA m) row h
theorem Si (p:Pg):D.eJ os ts (bG p)=bG p:=IP _ _ _ (fW p)
theorem afV (p:Sm):D.eJ os ts (aO p)=aO p:=IP _ _ _ (nN p)
theorem aby (l:List Pc):D.n8 os ts (l.map bP)=l.map bP:=O1 _ _ _ (zO l)
theorem abz (l:List Sm):D.n8 os ts (l.map aO)=l.map aO:=O1 _ _ _ (pB l)
theorem X4 (l:List aD):D.n8 os ts (l.map encStr)=l.map encStr:=O1 _ _ _ (dv l)
theorem afW (p:Pc):D.eJ os ts (bP p)=bP p:=IP _ _ _ (tT p)
theorem aiL (p:Pc):D.bJ n m (bP p)=true:=NC _ _ _ (tT p)
theorem X5 (p:Pg):D.bJ n m (bG p)=true:=NC _ _ _ (fW p)
theorem aiM (p:Sm):D.bJ n m (aO p)=true:=NC _ _ _ (nN p)
theorem afX (l:List Pc):D.jB n m (l.map bP)=true:=Vx _ _ _ (zO l)
theorem afY (l:List Sm):D.jB n m (l.map aO)=true:=Vx _ _ _ (pB l)
theorem abA (l:List aD):D.jB n m (l.map encStr)=true:=Vx _ _ _ (dv l)
theorem Vy : ∀ l:List Pc,D.bJ 0 0 ((l.map bP).flatten)=true:=fun l=>by
 have h:=zO l
 rw[IB,za3]at h
 rw[By,za3]
 intro d hd
 obtain⟨r,hr,hd⟩:=zbx.1 hd
 have:=h r hr
 rw[By,za3]at this
 exact this d hd
theorem abB (l:List Pc):D.eJ os ts ((l.map bP).flatten)=(l.map bP).flatten:=IP _ _ _ (Vy l)
theorem afZ (l:List Pc):D.bJ n m ((l.map bP).flatten)=true:=NC _ _ _ (Vy l)
theorem af0 (l:List Pc):D.iI n m ((l.map bP).flatten)=(l.map bP).flatten:=jN _ _ _ (Vy l)
end
attribute [go_sem] afW aiL amF amG afL amH aiC amI aiD amJ aiE aiF afM afN abr aiG afO afP X3 afQ abt afR abu afS abv abw aiH aiI Vw abx afT afU aiJ aiK Si afV aby abz X4 X5 aiM afX afY abA abB afZ af0
mutual
theorem O2 (o g:Nat) (rows:List (List D)) : ∀ d,D.ok 0 0 d=true→D.gW o g rows d=d
 | .junk,_=>by simp[D.gW]
 | .int k n,_=>by simp[D.gW]
 | .bool b,_=>by simp[D.gW]
 | .str l,_=>by simp[D.gW]
 | .fJ,_=>by simp[D.gW]
 | .val v,_=>by simp[D.gW]
 | .ew z,_=>by simp[D.gW]
 | .gd T o,h=>by simp[D.ok]at h
 | .iC o,h=>by simp[D.ok]at h
 | .dr z o g len,h=>by simp[D.ok]at h
 | .fK o g off,h=>by simp[D.ok]at h
 | .ptr o f,h=>by simp[D.ok]at h
 | .iL f cs,h=>by
  simp only[D.ok]at h
  simp only[D.gW,vG o g rows cs h]
 | .dW r f,h=>by
  simp only[D.ok]at h
  simp only[D.gW,vG o g rows r h]
 | .slice t z rs,h=>by
  simp only[D.ok,zat]at h
  simp only[D.gW,BK o g rows rs h.2]
 | .agg cs,h=>by
  simp only[D.ok]at h
  simp only[D.gW,vG o g rows cs h]
 | .tuple cs,h=>by
  simp only[D.ok]at h
  simp only[D.gW,vG o g rows cs h]
theorem vG (o g:Nat) (rows:List (List D)) : ∀ l,D.bJ 0 0 l=true→D.k6 o g rows l=l
 | [],_=>by simp[D.k6]
 |d::r,h=>by
  simp only[D.bJ,zat]at h
  simp only[D.k6,O2 o g rows d h.1,vG o g rows r h.2]
theorem BK (o g:Nat) (rows:List (List D)) : ∀ l,D.jB 0 0 l=true→D.uP o g rows l=l
 | [],_=>by simp[D.uP]
 |d::r,h=>by
  simp only[D.jB,zat]at h
  simp only[D.uP,vG o g rows d h.1,BK o g rows r h.2]
end
section
variable (o g:Nat) (rows:List (List D)) (n m:Nat)
theorem amK (q off:Nat):D.gW o g rows (.ptr q off) = .ptr q off:=nd (by simp only[D.gW])
theorem aiN (q h off:Nat):D.gW o g rows (.fK q h off) = .fK q h off:=nd (by simp only[D.gW])
theorem amL (z o' g' len:Nat):D.gW o g rows (.dr z o' g' len)=if o'=o∧g'=g∧len=rows.length then .slice .shared z rows else .dr z o' g' len:=nd (by simp only[D.gW])
theorem af1 (t:Tag) (z:Nat) (rs:List (List D)):D.gW o g rows (.slice t z rs) = .slice t z (D.uP o g rows rs):=nd (by simp only[D.gW])
theorem amM (l:List D):D.gW o g rows (.agg l) = .agg (D.k6 o g rows l):=nd (by simp only[D.gW])
theorem aiO:D.gW o g rows .junk = .junk:=nd (by simp only[D.gW])
theorem amN (k:IntKind) (x:Int):D.gW o g rows (.int k x) = .int k x:=nd (by simp only[D.gW])
theorem aiP (b:Bool):D.gW o g rows (.bool b) = .bool b:=nd (by simp only[D.gW])
theorem amO (l:List UInt8):D.gW o g rows (.str l) = .str l:=nd (by simp only[D.gW])
theorem af2:D.k6 o g rows [] = []:=nd (by simp only[D.k6])
theorem af3 (d:D) (l:List D):D.k6 o g rows (d::l)=D.gW o g rows d::D.k6 o g rows l:=nd (by simp only[D.k6])
theorem aqq (p:Pg):D.k6 o g rows (bG p)=bG p:=vG _ _ _ _ (fW p)
theorem amP (l:List Pc):D.uP o g rows (l.map bP)=l.map bP:=BK _ _ _ _ (zO l)
theorem amQ (l:List Sm):D.uP o g rows (l.map aO)=l.map aO:=BK _ _ _ _ (pB l)
theorem aiQ (l:List aD):D.uP o g rows (l.map encStr)=l.map encStr:=BK _ _ _ _ (dv l)
theorem amR (ds:List D):fzR o g rows n m ds=D.iI n m (D.k6 o g rows ds):=nd rfl
theorem aiR (tm:Tm):TmF o g rows m tm [] = True:=nd rfl
theorem aiS (tm:Tm) (k:Nat) (d:D) (r:Tm):TmF o g rows m tm ((k,d)::r)=(Wk (((tm.get k).gW o g rows).fg o m) d∧TmF o g rows m tm r):=nd rfl
end
attribute [go_sem] amK aiN amL af1 amM aiO amN aiP amO af2 af3 aqq amP amQ aiQ amR aiR aiS
end Go.Abs
namespace Go.Abs
inductive Th (I:List (Nat×Nat×List (List D))):D→D→Prop where
 |int (k:IntKind) (n:Int):Th I (.int k n) (.int k n)
 |nil (g:Tag) (z:Nat):Th I (.slice g z []) (.slice .shared z [])
 |tok (i k z:Nat) (rows:List (List D)) (h:I[i]? = some (k,z,rows)):Th I (.slice (.tok k) z rows) (.dr z i 0 rows.length)
 |agg (l l':List D) (hl:l.length=l'.length) (h : ∀ (i:Nat) (d d':D),l[i]? = some d→l'[i]? = some d'→Th I d d'):Th I (.agg l) (.agg l')
 |tuple (l l':List D) (hl:l.length=l'.length) (h : ∀ (i:Nat) (d d':D),l[i]? = some d→l'[i]? = some d'→Th I d d'):Th I (.tuple l) (.tuple l')
def DH (I:List (Nat×Nat×List (List D))) (l l':List D):Prop:=l.length=l'.length∧∀ (i:Nat) (d d':D),l[i]? = some d→l'[i]? = some d'→Th I d d'
theorem DH.nil {I:List (Nat×Nat×List (List D))} : DH I [] []:=⟨rfl,fun i d d' h=>by simp at h⟩
theorem DH.cons {I:List (Nat×Nat×List (List D))} {a a':D} {l l':List D} (h:Th I a a') (k:DH I l l'):DH I (a::l) (a'::l'):=
 ⟨by simp [k.1],fun i d d' h1 h2=>by
  cases i with
  |zero=>cases h1;cases h2;exact h
  |succ i=>exact k.2 i d d' (by simpa using h1) (by simpa using h2)⟩
section
variable {M0 M:Map} {s:St} {w0 w:World} {I:List (Nat×Nat×List (List D))}
theorem Sj (t:Nat) : ¬ S0.live t:=fun⟨n,h⟩=>by simp[S0]at h
theorem Rel.Vz (r:Rel M s w) (e:Ext M0 S0 w0 M s w) {k z:Nat} {rows:List (List D)} {v:Value} (hz:0<z) (hn:rows≠ []) (ht:s.au[k]? = some (some rows.length)) (hv:RD M s (.slice (.tok k) z rows) v) :
 ∃ (b cap:Nat) (vs:Array Value) (T:TypeId),v = .slice (some ⟨b,0,none⟩) rows.length cap∧M.be k=some (b,cap,z)∧w.heap[b]? = some (.cells vs T (0,0))∧vs.size=cap*z∧rows.length≤cap∧(∀ u∈vs,u.oneCell'=true)∧(∀ row∈rows,row.length=z)∧w0.heap.size≤b∧
  ∀ (i:Nat) (row:List D) (j:Nat) (d:D) (u:Value),rows[i]? = some row→row[j]? = some d→vs[i*z+j]? = some u→RD M s d u:=by
 cases hv with
 |jw _ _ cap hc h=>exact absurd rfl hn
 | slice _ _ _ b q cap hl hs h1 h2 hta=>
  obtain⟨_,h3⟩:=hta
  obtain⟨_,h4⟩:=h3 _ ht
  rcases h4 rfl with ⟨_,h5,_⟩|⟨b',h5,h6⟩
  ·subst h5
   exact absurd (za2 (Nat.le_zero.1 hl)) hn
  cases h5
  simp only[bz]at h6
  rcases r.tok k _ ht with ⟨h7,_⟩|⟨b',sR,z',vs,T,g1,g2,g3,g4,g5,g6,g7⟩
  ·rw[h6]at h7;cases h7
  rw[h6]at g1
  cases g1
  have yr:zs z=z:=by unfold zs;rw[if_neg (by omega)]
  rw[yr]at g3
  refine⟨b,cap,vs,T,rfl,h6,g2,g3,hl,g7,hs, ?_,fun i row j d u e1 e2 eu=>?_⟩
  ·rcases e.rH k b cap z ⟨_,ht⟩ h6 with ⟨h,_⟩ | h
   ·exact absurd h (Sj k)
   ·exact h
  ·obtain⟨u',hu⟩:=h1 i row j d e1 e2
   have:=(r.comm _ _ _ hu).1
   rw[j9 g2,zaS,eu]at this
   cases this
   exact h2 i row j d u e1 e2 hu
theorem Rel.abC (r0:Rel M0 S0 w0) (e:Ext M0 S0 w0 M s w) (r:Rel M s w) (ag:List (List D)) (O3:(I.map (·.1)).Nodup)
 (iG : ∀ (i k z:Nat) (rows:List (List D)),I[i]? = some (k,z,rows)→0<z∧rows≠ []∧s.au[k]? = some (some rows.length)∧∃ v,RD M s (.slice (.tok k) z rows) v) (kg:ag.length=I.length)
 (yo : ∀ (i k z:Nat) (rows:List (List D)),I[i]? = some (k,z,rows)→∃ cells,ag[i]? = some (.int .i64 ((0:Nat):Int)::cells)∧DH I rows.flatten cells) :
 ∃ M',Rel M' ⟨ag,[]⟩ w∧Ext M0 S0 w0 M' ⟨ag,[]⟩ w∧∀ d d' v,Th I d d'→RD M s d v→RD M' ⟨ag,[]⟩ d' v:=by
 let M':Map:=⟨M0.G,fun i=>match I[i]? with
  |some (k,z,_)=>match M.be k with
   |some (b,cap,_)=>(b, .arr z fun g=>if g=0 then some (b,cap)else none)
   |none=>(0, .any)
  |none=>(0, .any),fun _=>none⟩
 have loc : ∀ {i k z b cap z':Nat} {rows:List (List D)},I[i]? = some (k,z,rows)→M.be k=some (b,cap,z')→M'.loc i=(b, .arr z fun g=>if g=0 then some (b,cap)else none):=fun h1 h2=>by
  simp only[M',h1,h2]
 have at_ : ∀ {i:Nat},i<ag.length→∃ k z rows,I[i]? = some (k,z,rows):=fun {i} h=>⟨_,_,_,zah (by omega)⟩
 have VA : ∀ t,¬ St.live ⟨ag,[]⟩ t:=fun t ⟨n,h⟩=>by simp at h
 have rd : ∀ d d',Th I d d'→∀ v,RD M s d v→RD M' ⟨ag,[]⟩ d' v:=by
  intro d d' h
  induction h with
  |int k n=>intro v hv;cases hv;exact .int k n
  |nil g z=>
   intro v hv
   cases hv with
   |jw _ _ cap hc _=>exact .jw _ _ _ hc trivial
   |lY _ a cap=>exact .lY _ _ _
   |slice _ _ _ b k cap hl hs h1 h2 ht=>exact .lY _ _ _
  |tok i k z rows h=>
   intro v hv
   obtain⟨hz,hn,ht,_⟩:=iG i k z rows h
   obtain⟨b,cap,vs,T,rfl,jK,_,_,hl,_⟩:=r.Vz e hz hn ht hv
   refine .dr z i 0 _ b cap _ ?_ (congrArg Prod.snd (loc h jK)) (if_pos rfl) hl
   rw[kg];exact(zac.1 h).1
  | agg l l' hl h ih=>
   intro v hv
   cases hv with
   | agg _ vs g1 g2 g3=>
    exact .agg l' vs (by rw[← hl];exact g1) g2 fun i d v e1 e2=>by
     have hi:=(zac.1 e1).1
     have e0:=zah (l:=l) (show i<l.length by omega)
     exact ih i _ d e0 e1 v (g3 i _ v e0 e2)
  | tuple l l' hl h ih=>
   intro v hv
   cases hv with
   | tuple _ vs g1 g3=>
    exact .tuple l' vs (by rw[← hl];exact g1) fun i d v e1 e2=>by
     have hi:=(zac.1 e1).1
     have e0:=zah (l:=l) (show i<l.length by omega)
     exact ih i _ d e0 e1 v (g3 i _ v e0 e2)
 have new : ∀ {i:Nat},i<ag.length→w0.heap.size≤M'.mu i∧∃ k c z,s.live k∧M.be k=some (M'.mu i,c,z)∧(I.map (·.1))[i]? = some k:=fun {i} h=>by
  obtain⟨k,z,rows,hi⟩:=at_ h
  obtain⟨hz,hn,ht,v,hv⟩:=iG i k z rows hi
  obtain⟨b,cap,vs,T,rfl,jK,_,_,_,_,_,hb,_⟩:=r.Vz e hz hn ht hv
  have hm:M'.mu i=b:=congrArg Prod.fst (loc hi jK)
  rw[hm]
  exact⟨hb,k,cap,z,⟨_,ht⟩,jK,by rw[zap,hi];rfl⟩
 refine⟨M',⟨fun b o v h=>r.comm b o v (e.le.G b o v h),fun i ds xC=>?_,fun i hi off=>r0.Nw (new hi).1 off,fun i j hi hj h=>?_,fun t n h=>by simp at h,fun t b c z o h=>absurd h (VA t),fun t t' b c z c' z' h=>absurd h (VA t)⟩,
  ⟨⟨fun _ _ _ h=>h,zaA _,fun o h=>absurd h (zaT o),zak _,fun t n' h=>absurd h (zaT t)⟩,fun b hb _ _=>e.kept b hb (fun o h=>absurd h (zaT o)) (fun t c z h=>absurd h (Sj t)),
   fun i _ hi=>(new hi).1,fun t b c z h=>absurd h (VA t),fun b o h=>absurd rfl h,e.size,e.os,e.tape,e.output⟩,fun d d' v h=>rd d d' h v⟩
 ·obtain⟨k,z,rows,hi⟩:=at_ (zac.1 xC).1
  obtain⟨hz,hn,ht,v,hv⟩:=iG i k z rows hi
  obtain⟨b,cap,vs,T,rfl,jK,hh,dJ,hl,ig,dL,hb,jy⟩:=r.Vz e hz hn ht hv
  obtain⟨cells,hc,hlen,IQ⟩:=yo i k z rows hi
  rw[xC]at hc
  cases hc
  obtain⟨f1,f2⟩:=yw dL
  have hle:cells.length≤vs.size:=by rw[← hlen,f1,dJ];exact zaR _ hl
  refine⟨⟨.int .i64 ((0:Nat):Int)::vs.toList.take cells.length⟩,T, ?_,by simp;omega,⟨fun u hu=>?_,fun T' hT=>?_⟩,fun j d' u e1 e2=>?_⟩
  ·unfold jR
   rw[loc hi jK]
   exact⟨vs,0,cells.length,cap,hh,if_pos rfl,fun g h=>if_neg (by omega),dJ,hle,rfl,ig⟩
  ·simp at hu
   rcases hu with rfl|hu
   ·rfl
   ·exact ig u (zaQ.1 (za0 hu))
  ·have:M'.ty i=none:=by unfold Map.ty;rw [loc hi jK];rfl
   rw[this]at hT;cases hT
  ·cases j with
   |zero=>simp at e1 e2;subst e1 e2;exact .int _ _
   | succ j=>
    simp at e1 e2
    rw[zaY]at e2
    split at e2
    ·have hj:=(zac.1 e1).1
     have e0:=zah (l:=rows.flatten) (show j<rows.flatten.length by omega)
     obtain⟨a,row,q,g1,g2,g3⟩:=f2 j _ e0
     exact rd _ _ (IQ j _ d' e0 e1) u (jy a row q _ u g1 g2 (by rw[← g3];simpa using e2))
    ·cases e2
 ·obtain⟨_,k,c,z,g1,g2,g3⟩:=new hi
  obtain⟨_,k',c',z',g1',IS,g3'⟩:=new hj
  rw[← h]at IS
  have:=r.gS k k' _ c z c' z' g1 g1' g2 IS
  subst this
  exact(List.getElem?_inj (by rw[zau, ← kg];exact hi) O3).1 (g3.trans g3'.symm)
end
end Go.Abs
namespace Go.Abs
mutual
def D.flat:D→Bool
 | .int _ _=>true
 | .bool _=>true
 | .str _=>true
 | .tuple ds=>D.IT ds
 |_=>false
def D.IT:List D→Bool
 | []=>true
 |d::r=>d.flat && D.IT r
end
theorem LX : ∀ {l:List D},D.IT l=true→∀ {i:Nat} {d:D},l[i]? = some d→d.flat=true
 | [],_,i,d,e=>by simp at e
 |a::l,h,i,d,e=>by
  simp only[D.IT,zat]at h
  cases i with
  |zero=>simp at e;subst e;exact h.1
  |succ i=>exact LX h.2 (by simpa using e)
theorem RD.flat {M M':Map} {s s':St} {d:D} {v:Value} (h:RD M s d v):d.flat=true→RD M' s' d v:=by
 induction h with
 |int k n=>exact fun _=> .int k n
 |bool b=>exact fun _=> .bool b
 |str l=>exact fun _=> .str l
 |tuple ds vs hl _ ih=>exact fun hf=> .tuple ds vs hl fun i d v e1 e2=>ih i d v e1 e2 (LX (by simpa only[D.flat]using hf) e1)
 |_=>intro hf;simp only[D.flat,zab]at hf
theorem Sk {n m:Nat} : ∀ {l:List D},D.bJ n m l=true→∀ {i:Nat} {d:D},l[i]? = some d→d.ok n m=true
 | [],_,i,d,e=>by simp at e
 |a::l,h,i,d,e=>by
  simp only[D.bJ,zat]at h
  cases i with
  |zero=>simp at e;subst e;exact h.1
  |succ i=>exact Sk h.2 (by simpa using e)
theorem Rel.Gt {M:Map} {s:St} {w w':World} (r:Rel M s w) (Gt : ∀ k,k<w.heap.size→w'.heap[k]? = w.heap[k]?) (hs:w.heap.size≤w'.heap.size) (h1:w'.os=w.os) (h2:w'.tape=w.tape) (h3:w'.output=w.output) :
 Rel M s w'∧Ext M s w M s w':=by
 refine⟨⟨fun p o v e=>?_,fun o ds e=>?_,r.kU,r.inj,fun t n e=>?_,r.fL,r.gS⟩,⟨Le.refl M s,fun k hk _ _=>Gt k hk,fun o h h'=>by rcases h with h|h;omega;exact(h rfl).elim,fun t b c z h e=> .inl ⟨h,c,z,e⟩,fun _ _ h=>(h rfl).elim,hs,h1,h2,h3⟩⟩
 ·obtain⟨h1,h2⟩:=r.comm p o v e
  refine⟨?_,h2⟩
  rw[← h1]
  simp only[World.cell?,Gt _ (r.D7 e)]
 ·obtain⟨vs,T,h1,h2⟩:=r.obj o ds e
  exact⟨vs,T,h1.keep (Gt _ h1.lt),h2⟩
 ·rcases r.tok t n e with h | ⟨p,cap,z,vs,T,h1,h2,h3⟩
  ·exact .inl h
  ·exact .inr ⟨p,cap,z,vs,T,h1,by rw[Gt _ (lT h2)];exact h2,h3⟩
theorem ay.aqr {P:Program} {f:FuncId} {args:List D} {d:D} {s:St} {o g z:Nat} {rows:List (List D)} {k:Nat} (hk:args[k]? = some (.dr z o g rows.length)) {more:List D}
 (dL:s.ag[o]? = some (.int .i64 (g:Int)::(rows.flatten++more))) (hs : ∀ row∈rows,row.length=z) (h:ay P f (D.k6 o g rows args) S0 d S0) (ha:D.bJ 0 0 (D.k6 o g rows args)=true)
 (hd:d.flat=true):ay P f args s d s:=by
 intro M w fH r hl dJ xR
 have hD:=(zac.1 hk).1
 obtain⟨b0,aqs,A,_,_,hm,_⟩:=(xR k _ _ hk (za6 (by omega))).Bq
 have jb:qq s o g=some (rows.flatten++more):=by unfold qq;rw[dL];simp
 obtain⟨us,T,cap,hh,wD,Gl,avg,hle,ig,jy⟩:=r.Oa hm jb
 have Kg:o<s.ag.length:=(zac.1 dL).1
 have hGo : ∀ q,M.G (M.mu o) q=none:=r.kU o Kg
 let M':Map:= {M with G:=fun b q=>if b=M.mu o then us[q]? else M.G b q}
 have s5 : ∀ b,b≠M.mu o→∀ q,M'.G b q=M.G b q:=fun b hb q=>if_neg hb
 have le:Le M s M' s:=⟨fun b q v hq=>by
  by_cases hb:b=M.mu o
  ·subst hb;rw[hGo]at hq;cases hq
  ·rw[s5 b hb];exact hq,zak _,fun _ _=> .refl _,zak _,fun t n' _ e=>⟨n',e,zak _,fun _=>rfl⟩⟩
 have jS : ∀ (i:Nat) (row:List D) (j:Nat) (d:D),rows[i]? = some row→row[j]? = some d→(rows.flatten++more)[i*z+j]? = some d:=by
  have gen : ∀ (rows:List (List D)),(∀ row∈rows,row.length=z)→∀ (i:Nat) (row:List D) (j:Nat) (d:D),rows[i]? = some row→row[j]? = some d→rows.flatten[i*z+j]? = some d:=by
   intro rows
   induction rows with
   |nil=>intro _ i row j d e1;simp at e1
   | cons a rows ih=>
    intro hs i row j d e1 e2
    have pg:=hs a (zaz ..)
    rw[zbi]
    cases i with
    |zero=>
     simp at e1;subst e1
     rw[Nat.zero_mul,zaS,zai (zac.1 e2).1];exact e2
    |succ i=>
     rw[zao (by rw[zbm];omega),pg,show(i+1)*z+j - z=i*z+j by rw[zbm];omega]
     exact ih (fun q hq=>hs q (zan _ hq)) i row j d (by simpa using e1) e2
  intro i row j d e1 e2
  have:=gen rows hs i row j d e1 e2
  rw[zai (zac.1 this).1];exact this
 have g1 : ∀ (i:Nat) (row:List D) (j:Nat) (d:D),rows[i]? = some row→row[j]? = some d→∃ u,M'.G (M.mu o) (0+(i*z+j))=some u:=fun i row j d e1 e2=>by
  have hD:=(zac.1 (jS i row j d e1 e2)).1
  refine⟨us[i*z+j]'(by omega), ?_⟩
  show(if M.mu o=M.mu o then us[0+(i*z+j)]? else _)=_
  rw[if_pos rfl,zaS]
  exact za6 _
 have g2 : ∀ (i:Nat) (row:List D) (j:Nat) (d:D) (u:Value),rows[i]? = some row→row[j]? = some d→M'.G (M.mu o) (0+(i*z+j))=some u→RD M' s d u:=fun i row j d u e1 e2 eu=>by
  have IN:(if M.mu o=M.mu o then us[0+(i*z+j)]? else M.G (M.mu o) (0+(i*z+j)))=some u:=eu
  rw[if_pos rfl,zaS]at IN
  exact(jy _ d u (jS i row j d e1 e2) IN).mono le
 have r0:Rel M' S0 w:=⟨fun b q v hq=>by
  have om:(if b=M.mu o then us[q]? else M.G b q)=some v:=hq
  by_cases hb:b=M.mu o
  ·rw [if_pos hb]at om
   rw[hb,j9 hh]
   exact⟨om,ig v (zbE om)⟩
  ·rw [if_neg hb]at om
   exact r.comm b q v om,fun o ds e=>by simp[S0]at e,fun o h=>by simp[S0]at h,fun o _ h=>by simp[S0]at h,fun t n e=>by simp[S0]at e,
  fun t b c z o hl _ ho=>by simp[S0]at ho,fun t t' b c z c' z' hl=>by obtain⟨n,hn⟩:=hl;simp[S0]at hn⟩
 have l0:Laid M' S0 w:=fun q cs hq=>⟨(hl q cs hq).1,fun o ho=>by simp[S0]at ho,fun t c z ht=>by obtain⟨n,hn⟩:=ht;simp[S0]at hn⟩
 have a0 : ∀ (i:Nat) (d:D) (v:Value),(D.k6 o g rows args)[i]? = some d→fH[i]? = some v→RD M' S0 d v:=fun i d0 v e1 e2=>by
  have qj:=Sk ha e1
  rw[q5,zap,zaw]at e1
  obtain⟨d1,e1,rfl⟩:=e1
  have vw:=((xR i d1 v e1 e2).mono le).gW (M:=M') hm wD hs g1 g2
  exact RD.FA (M:=M') (M0:=M') (s:=s) (s0:=S0) (os:= []) (ts:= []) rfl (by simp) rfl (by simp) (by simp) rfl vw _ (tQ _ _ _ qj) qj
 refine(h M' w fH r0 l0 (by rw[dJ,q5,zau]) a0).mono fun e w' ⟨M2,d2,v,s2,h1,⟨h2,h3⟩,hx,_,h4⟩=>?_
 subst h2 h3
 have Gt : ∀ k,k<w.heap.size→w'.heap[k]? = w.heap[k]? :=fun k hk=>hx.kept k hk (fun o ho=>by simp[S0]at ho) (fun t c z ht=>by obtain⟨n,hn⟩:=ht;simp[S0]at hn)
 obtain⟨r',e'⟩:=r.Gt Gt hx.size hx.os hx.tape hx.output
 exact⟨M,d2,v,s,h1,⟨rfl,rfl⟩,e',r',h4.flat hd⟩
section
variable {P:Program} {B:gK} {nt:Nat}
theorem bk.jO {f:FuncId} {res:List (Nat×Option (Bool×Nat))} {body:AC} {args:List D} {s:St} {R:D→St→Prop} (h0:Has P f nt res body) (hl:Nat.ble args.length nt=true)
 (h : ∀ (B:gK) (Q:Exit→Tm→St→Prop),B.s=s→Hi res R=Q→iW P B nt body Q (ox 0 args) s):bk P f args s R:=by
 obtain⟨fn,hf,hc⟩:=h0
 refine bk.ID (bk.Oo (Q:=R) hf hc (zbl hl) fun B hB=>iM (h B _ hB rfl)) fun d s1 h=>⟨d,s1,Wk.refl _,iF.refl _,rfl,h⟩
theorem dI {res:List (Nat×Option (Bool×Nat))} {R:D→St→Prop} {tm:Tm} {s:St} {e:Exit} {Q:Exit→Tm→St→Prop} (hQ:Hi res R=Q) (h : ∃ l,bZ res tm s=some l∧R (cd l) s) (he:e = .ret∨e = .normal:=by first|exact .inl rfl|exact .inr rfl):Q e tm s:=by
 subst hQ
 rcases he with rfl|rfl<;>exact h
def upD (R:D→St→Prop) (d:D) (s:St):Prop:=∃ d' s',Wk d d'∧iF s.ag s'.ag∧s.au=s'.au∧R d' s'
theorem bk.up {f:FuncId} {args:List D} {s:St} {R:D→St→Prop} (h:bk P f args s (upD R)):bk P f args s R:=
 bk.ID h fun d s1 ⟨d',s',h1,h2,h3,h4⟩=>⟨d',s',h1,h2,h3,h4⟩
def yG (tm:Tm):Tm→Prop
 | []=>True
 |(k,d)::r=>Wk (tm.get k) d∧yG tm r
theorem yG.get {tm:Tm} : ∀ {da:Tm},yG tm da→∀ t,Wk (tm.get t) (da.get t)
 | [],_,t=>Wk.junk _
 |(k,d)::r,h,t=>by
  simp only[Tm.get]
  split
  ·rename_i hk;subst hk;exact h.1
  ·exact yG.get h.2 t
theorem aiT (tm:Tm):yG tm [] = True:=nd rfl
theorem aiU (tm:Tm) (k:Nat) (d:D) (r:Tm):yG tm ((k,d)::r)=(Wk (tm.get k) d∧yG tm r):=nd rfl
attribute [go_sem] aiT aiU
theorem Holds.iS {tm da:Tm} {s:St} {act:Act} {w:World} (ht:yG tm da) (h:Holds B nt tm s act w):Holds B nt da s act w:=by
 obtain⟨M,e,r,hr,h1,h2⟩:=h
 exact⟨M,e,r,fun k=>ht.get k _ _ _ (hr k),h1,h2⟩
theorem aJ.iS {a:AC} {Q:Exit→Tm→St→Prop} {tm da:Tm} {s:St} (ht:yG tm da) (h:aJ P B nt a Q da s):aJ P B nt a Q tm s:=fun c hc act w hh=>h c hc act w (hh.iS ht)
theorem nM.iS {a r:AC} {Q:Exit→Tm→St→Prop} {tm da:Tm} {s:St} (ht:yG tm da) (h:nM P B nt a r Q da s):nM P B nt a r Q tm s:=fun c rest hc hr act w hh=>h c rest hc hr act w (hh.iS ht)
theorem Sem.iS {a:AC} {Q:Exit→Tm→St→Prop} {tm da:Tm} {s:St} (ht:yG tm da) (h:Sem P B nt a Q da s):Sem P B nt a Q tm s:=fun c hc act w hh=>h c hc act w (hh.iS ht)
end
theorem cY {s:St} {o:Nat} {r:List D} (h:s.ag[o]? = some r):o<s.ag.length:=(zac.1 h).1
theorem Kh {s:St} {a b:Nat} {r r':List D} (h:s.ag[a]? = some r) (h':s.ag[b]? = some r') (hn:r≠r'):a≠b:=fun e=>by subst e;rw[h]at h';cases h';exact hn rfl
end Go.Abs
namespace Go.Abs
mutual
def Ex.size:Ex→Nat
 |⟨_,_,_,kids⟩=>1+Ex.bB kids
def Ex.bB:List Ex→Nat
 | []=>0
 |x::l=>1+x.size+Ex.bB l
end
mutual
def Ex.depth:Ex→Nat
 |⟨_,_,_,kids⟩=>Ex.mN kids+1
def Ex.mN:List Ex→Nat
 | []=>0
 |x::l=>max x.depth (Ex.mN l)
end
def aiV (x:Ex):Option Int:=if x.size<4611686018427387904 then some (x.depth:Int)else none
theorem Ex.cb {x:Ex} : ∀ {l:List Ex},x∈l→x.size<Ex.bB l
 |y::l,h=>by
  simp only[Ex.bB]
  rcases zaq.1 h with rfl|h
  ·omega
  ·have:=Ex.cb h;omega
theorem Ex.dk : ∀ (l:List Ex),l.length≤Ex.bB l
 | []=>zak _
 |x::l=>by simp only[Ex.bB,zas];have:=Ex.dk l;omega
def VB (t:s7):Int×Int:=
 if t.kind != 4 then(0,0)
 else if t.text == [124,124]then(17,1)
 else if t.text == [38,38]then(16,2)
 else if t.text == [61,61]then(14,3)
 else if t.text == [33,61]then(15,3)
 else if t.text == [60]then(10,4)
 else if t.text == [60,61]then(11,4)
 else if t.text == [62]then(12,4)
 else if t.text == [62,61]then(13,4)
 else if t.text == [43]then(8,5)
 else if t.text == [45]then(9,5)
 else if t.text == [42]then(5,6)
 else if t.text == [47]then(6,6)
 else if t.text == [37]then(7,6)
 else(0,0)
structure Rd where
 l:List s7
 i:Nat
 code:Int
 O4:Int
 n:Nat
abbrev Rd.good (r:Rd):Bool:=r.code==0
def Rd.yH (r:Rd):Option s7:=(ait r.l r.i).bind fun t=>if decide (0≤t.kind) && decide (t.kind≤4)then some t else none
def Rd.bad (c:Int) (r:Rd):Option Rd:=if r.good then r.yH.bind fun t=>some {r with code:=c,O4:=t.pos}else some r
def Rd.is (text:aD) (r:Rd):Option Bool:=r.yH.bind fun t=>some ((t.kind==3 ||t.kind==4) && t.text==text)
def Rd.take (text:aD) (r:Rd):Option (Bool×Rd):=
 if !r.good then some (false,r)else(r.is text).bind fun b=>if !b then some (false,r)else some (true,{r with i:=r.i+1})
def Rd.want (text:aD) (r:Rd):Option Rd:=(r.take text).bind fun p=>if !p.1 then p.2.bad 3 else some p.2
def Rd.name (room:Bool) (r:Rd):Option (aD×Rd):=
 r.yH.bind fun t=>if !r.good ||t.kind != 1 then(r.bad 3).bind fun r=>some ([],r)else if !room then(r.bad 4).bind fun r=>some ([],r)else some (t.text,{r with i:=r.i+1})
def Rd.on (r:Rd):Rd:= {r with i:=r.i+1}
mutual
def Rd.one:Nat→Rd→Option (Ex×Rd)
 | 0,_=>none
 | n+1,r=>r.yH.bind fun t=>
  if !r.good then some (sM,r)
  else if t.kind==2 then some (⟨1,t.n,[],[]⟩,{r with i:=r.i+1})
  else if t.kind==1 then some (⟨2,0,t.text,[]⟩,{r with i:=r.i+1})
  else(r.take [40]).bind fun p=>
   if p.1 then(Rd.two n 1 p.2).bind fun x=>(x.2.want [41]).bind fun r=>some (x.1,r)
   else(p.2.take [45]).bind fun p=>
    if p.1 then(Rd.one n p.2).bind fun x=>some (⟨3,0,[],[x.1]⟩,x.2)
    else(p.2.take [33]).bind fun p=>
     if p.1 then(Rd.one n p.2).bind fun x=>some (⟨4,0,[],[x.1]⟩,x.2)
     else(p.2.bad 3).bind fun r=>some (sM,r)
def Rd.two:Nat→Int→Rd→Option (Ex×Rd)
 | 0,_,_=>none
 |n+1,least,r=>(Rd.one n r).bind fun x=>Rd.aiW n least x.1 x.2
def Rd.aiW:Nat→Int→Ex→Rd→Option (Ex×Rd)
 | 0,_,_,_=>none
 | n+1,least,x,r=>
  if r.good then r.yH.bind fun t=>
   if decide ((VB t).2<least) ||(VB t).1==0 then some (x,r)
   else(Rd.two n ((VB t).2+1) {r with i:=r.i+1}).bind fun y=>Rd.aiW n least ⟨(VB t).1,0,[],[x,y.1]⟩ y.2
  else some (x,r)
end
def Rd.whole (n:Nat) (r:Rd):Option (Ex×Rd):=
 r.yH.bind fun t=>(Rd.two n 1 r).bind fun x=>
  if x.2.good then(aiV x.1).bind fun d=>if decide (d > 20)then some (x.1,{x.2 with code:=4,O4:=t.pos})else some (x.1,x.2)
  else some (x.1,x.2)
def Rd.names:Nat→List aD→Int→Rd→Option (List aD×Rd)
 | 0,_,_,_=>none
 | n+1,l,k7,r=>
  if r.good then(r.name (decide ((l.length:Int)<k7))).bind fun p=>(push 17 l p.1).bind fun l=>(p.2.take [44]).bind fun q=>
   if !q.1 then(q.2.want [59]).bind fun r=>some (l,r)else Rd.names n l k7 q.2
  else some (l,r)
def Rd.ahead (sign:aD) (r:Rd):Option Bool:=
 if r.good then r.yH.bind fun t=>if t.kind==1 then(ait r.l (r.i+1)).bind fun u=>some (u.kind==4 && u.text==sign)else some false
 else some false
def Rd.labels:Nat→List aD→Rd→Option (List aD×Rd)
 | 0,_,_=>none
 |n+1,l,r=>(r.ahead [58]).bind fun b=>if b then r.yH.bind fun t=>(push 17 l t.text).bind fun l=>Rd.labels n l {r with i:=r.i+2}else some (l,r)
def Rd.aiX (r:Rd):Option Bool:=
 r.yH.bind fun t=>some (if t.kind==1 then true else if t.kind != 3 then false
  else t.text == [105,102] ||t.text == [119,104,105,108,101] ||t.text == [98,114,101,97,107] ||t.text == [99,111,110,116,105,110,117,101] ||t.text == [114,101,116,117,114,110] ||t.text == [103,111,116,111] ||t.text == [114,101,97,100] ||t.text == [112,114,105,110,116])
def Rd.VC (m:Nat):Nat→List Ar→Rd→Option (List Ar×Rd)
 | 0,_,_=>none
 | n+1,l,r=>
  if r.good then(r.take [114,101,102]).bind fun p=>
   if p.1 then(p.2.name true).bind fun x=>(push 81 l ⟨true,x.1,sM⟩).bind fun l=>(x.2.take [44]).bind fun c=>if !c.1 then some (l,c.2)else Rd.VC m n l c.2
   else(Rd.whole m p.2).bind fun x=>(push 81 l ⟨false,[],x.1⟩).bind fun l=>(x.2.take [44]).bind fun c=>if !c.1 then some (l,c.2)else Rd.VC m n l c.2
  else some (l,r)
def Rd.other (sign:aD) (r:Rd):Option Bool:=if r.good then(r.is sign).bind fun b=>some !b else some false
def Rd.call (m:Nat) (name proc:aD) (r:Rd):Option (Sm×Rd):=
 (r.want [40]).bind fun r=>(r.other [41]).bind fun b=>
  if b then(Rd.VC m m [] r).bind fun q=>(q.2.want [41]).bind fun r=>(r.want [59]).bind fun r=>some (⟨0,4,[],name,proc,sM,false,q.1,[],[]⟩,r)
  else(r.want [41]).bind fun r=>(r.want [59]).bind fun r=>some (⟨0,4,[],name,proc,sM,false,[],[],[]⟩,r)
def Rd.named (m:Nat) (r:Rd):Option (Sm×Rd):=
 (r.name true).bind fun x=>(x.2.is [40]).bind fun b=>
  if b then Rd.call m [] x.1 x.2
  else(x.2.want [61]).bind fun r=>(r.ahead [40]).bind fun b=>
   if b then(r.name true).bind fun y=>Rd.call m x.1 y.1 y.2
   else(Rd.whole m r).bind fun y=>(y.2.want [59]).bind fun r=>some (⟨0,1,[],x.1,[],y.1,false,[],[],[]⟩,r)
def Rd.plain (m:Nat) (word:aD) (r:Rd):Option (Sm×Rd):=
 if word == [98,114,101,97,107]then some (⟨0,7,[],[],[],sM,false,[],[],[]⟩,r)
 else if word == [99,111,110,116,105,110,117,101]then some (⟨0,8,[],[],[],sM,false,[],[],[]⟩,r)
 else if word == [114,101,116,117,114,110]then(r.is [59]).bind fun b=>
  if !b then(Rd.whole m r).bind fun x=>some (⟨0,9,[],[],[],x.1,true,[],[],[]⟩,x.2)else some (⟨0,9,[],[],[],sM,false,[],[],[]⟩,r)
 else if word == [103,111,116,111]then(r.name true).bind fun x=>some (⟨0,10,[],x.1,[],sM,false,[],[],[]⟩,x.2)
 else if word == [114,101,97,100]then(r.name true).bind fun x=>some (⟨0,2,[],x.1,[],sM,false,[],[],[]⟩,x.2)
 else if word == [112,114,105,110,116]then(Rd.whole m r).bind fun x=>some (⟨0,3,[],[],[],x.1,false,[],[],[]⟩,x.2)
 else some (LU,r)
def Rd.head (m:Nat) (r:Rd):Option (Ex×Rd):=(r.want [40]).bind fun r=>(Rd.whole m r).bind fun x=>(x.2.want [41]).bind fun r=>some (x.1,r)
mutual
def Rd.rows (m:Nat):Nat→Int→Bool→Rd→Option ((List Sm×List aD)×Rd)
 | 0,_,_,_=>none
 |n+1,nest,body,r=>Rd.aed m n nest body [] r
def Rd.aed (m:Nat):Nat→Int→Bool→List Sm→Rd→Option ((List Sm×List aD)×Rd)
 | 0,_,_,_,_=>none
 | n+1,nest,body,out,r=>
  if r.good then(Rd.labels m [] r).bind fun l=>(l.2.is [125]).bind fun b=>
   if b && (body ||(l.1.length:Int)==0)then some ((out,l.1),{l.2 with i:=l.2.i+1})
   else(Rd.stmt m n nest l.2).bind fun s=>(push 209 out {s.1 with labels:=l.1}).bind fun out=>Rd.aed m n nest body out s.2
  else some (([],[]),r)
def Rd.stmt (m:Nat):Nat→Int→Rd→Option (Sm×Rd)
 | 0,_,_=>none
 | n+1,nest,r=>r.aiX.bind fun b=>
  if !b then(r.bad 3).bind fun r=>some (LU,r)
  else(inc r.n).bind fun k=>
   if decide ((k:Int) > 200) ||decide (nest > 12)then(({r with n:=k} : Rd).bad 4).bind fun r=>some (LU,r)
   else({r with n:=k} : Rd).yH.bind fun t=>
    if t.kind==1 then Rd.named m {r with n:=k}
    else if t.text == [105,102]then Rd.choice m n nest {r with n:=k,i:=r.i+1}
    else if t.text == [119,104,105,108,101]then(Rd.head m {r with n:=k,i:=r.i+1}).bind fun x=>(Rd.block m n nest x.2).bind fun b=>some (⟨0,6,[],[],[],x.1,false,[],b.1,[]⟩,b.2)
    else(Rd.plain m t.text {r with n:=k,i:=r.i+1}).bind fun s=>(s.2.want [59]).bind fun r=>some (s.1,r)
def Rd.block (m:Nat):Nat→Int→Rd→Option (List Sm×Rd)
 | 0,_,_=>none
 |n+1,nest,r=>(r.want [123]).bind fun r=>(aqn nest).bind fun k=>(Rd.rows m n k false r).bind fun p=>some (p.1.1,p.2)
def Rd.choice (m:Nat):Nat→Int→Rd→Option (Sm×Rd)
 | 0,_,_=>none
 |n+1,nest,r=>(Rd.head m r).bind fun x=>(Rd.block m n nest x.2).bind fun t=>(t.2.take [101,108,115,101]).bind fun q=>
  if q.1 then(Rd.block m n nest q.2).bind fun e=>some (⟨0,5,[],[],[],x.1,false,[],t.1,e.1⟩,e.2)
  else some (⟨0,5,[],[],[],x.1,false,[],t.1,[]⟩,q.2)
end
def Rd.params:Nat→List Pm→Rd→Option (List Pm×Rd)
 | 0,_,_=>none
 | n+1,l,r=>
  if r.good then(r.take [114,101,102]).bind fun q=>(q.2.name (decide ((l.length:Int)<8))).bind fun x=>(push 25 l ⟨x.1,q.1⟩).bind fun l=>(x.2.take [44]).bind fun c=>
   if !c.1 then some (l,c.2)else Rd.params n l c.2
  else some (l,r)
def Rd.vars (m:Nat):Nat→List aD→Rd→Option (List aD×Rd)
 | 0,_,_=>none
 |n+1,l,r=>(r.take [118,97,114]).bind fun q=>if q.1 then(Rd.names m l 16 q.2).bind fun x=>Rd.vars m n x.1 x.2 else some (l,q.2)
def Rd.aee (m:Nat) (name:aD) (ps:List Pm) (r:Rd):Option (Pc×Rd):=
 (Rd.vars m m [] r).bind fun v=>(Rd.rows m m 1 true v.2).bind fun b=>some (⟨name,ps,v.1,b.1.1,b.1.2⟩,b.2)
def Rd.proc (m:Nat) (r:Rd):Option (Pc×Rd):=
 (r.name true).bind fun x=>(x.2.want [40]).bind fun r=>(r.other [41]).bind fun b=>
  if b then(Rd.params m [] r).bind fun q=>(q.2.want [41]).bind fun r=>(r.want [123]).bind fun r=>Rd.aee m x.1 q.1 r
  else(r.want [41]).bind fun r=>(r.want [123]).bind fun r=>Rd.aee m x.1 [] r
def Rd.globals (m:Nat):Nat→List aD→Rd→Option (List aD×Rd)
 | 0,_,_=>none
 |n+1,l,r=>(r.take [103,108,111,98,97,108]).bind fun q=>if q.1 then(Rd.names m l 16 q.2).bind fun x=>Rd.globals m n x.1 x.2 else some (l,q.2)
def Rd.aiY (r:Rd):Option Bool:=if r.good then r.is [112,114,111,99]else some false
def Rd.X6 (r:Rd):Option Bool:=if r.good then r.yH.bind fun t=>some (t.kind != 0)else some false
def Rd.procs (m:Nat):Nat→List Pc→Rd→Option (List Pc×Rd)
 | 0,_,_=>none
 | n+1,l,r=>r.aiY.bind fun b=>
  if b then
   if(l.length:Int)==16 then(r.bad 4).bind fun r=>some (l,r)
   else(Rd.proc m {r with i:=r.i+1}).bind fun x=>(push 113 l x.1).bind fun l=>Rd.procs m n l x.2
  else r.X6.bind fun b=>if b then(r.bad 3).bind fun r=>some (l,r)else some (l,r)
def Rd.program (m:Nat) (r:Rd):Option (Pg×Rd):=(Rd.globals m m [] r).bind fun g=>(Rd.procs m m [] g.2).bind fun q=>some (⟨g.1,q.1⟩,q.2)
mutual
def Ex.beq:Ex→Ex→Bool
 |⟨op,n,name,kids⟩,⟨op',n',tD,xT⟩=>if op != op' ||n != n' || !(name==tD) ||(kids.length:Int) != (xT.length:Int)then false else Ex.ik kids xT
def Ex.ik:List Ex→List Ex→Bool
 | [],_=>true
 |_::_,[]=>true
 |x::l,y::l'=>if !Ex.beq x y then false else Ex.ik l l'
end
mutual
theorem Ex.beq_refl : ∀ x:Ex,Ex.beq x x=true
 |⟨op,n,name,kids⟩=>by simp[Ex.beq,Ex.iY kids]
theorem Ex.iY : ∀ l:List Ex,Ex.ik l l=true
 | []=>rfl
 |x::l=>by simp[Ex.ik,Ex.beq_refl x,Ex.iY l]
end
def Ar.bB:List Ar→Nat
 | []=>0
 |a::l=>1+a.x.size+Ar.bB l
mutual
def Sm.size:Sm→Nat
 |⟨_,_,labels,_,_,x,_,args,aY,aH⟩=>1+labels.length+x.size+Ar.bB args+Sm.bB aY+Sm.bB aH
def Sm.bB:List Sm→Nat
 | []=>0
 |s::l=>1+s.size+Sm.bB l
end
def Pc.size (f:Pc):Nat:=1+f.params.length+f.vars.length+f.fin.length+Sm.bB f.body
def Pc.bB:List Pc→Nat
 | []=>0
 |f::l=>1+f.size+Pc.bB l
def Pg.size (p:Pg):Nat:=1+p.globals.length+Pc.bB p.procs
mutual
def Sm.num (b:Bool) (n:Nat):Sm→Sm×Nat
 |⟨id,kind,labels,name,proc,x,has,args,aY,aH⟩=>
  (⟨if b then((n+1:Nat):Int)else id,kind,labels,name,proc,x,has,args,(Sm.xi b (n+1) aY).1,(Sm.xi b (Sm.xi b (n+1) aY).2 aH).1⟩,(Sm.xi b (Sm.xi b (n+1) aY).2 aH).2)
def Sm.xi (b:Bool) (n:Nat):List Sm→List Sm×Nat
 | []=>([],n)
 |s::l=>((Sm.num b n s).1::(Sm.xi b (Sm.num b n s).2 l).1,(Sm.xi b (Sm.num b n s).2 l).2)
end
def Pc.xi (n:Nat):List Pc→List Pc
 | []=> []
 |f::l=> {f with body:=(Sm.xi true n f.body).1}::Pc.xi (Sm.xi true n f.body).2 l
def Pg.number (p:Pg):Pg:= {p with procs:=Pc.xi 0 p.procs}
def Pg.af4 (p:Pg):Option Pg:=if p.size<1073741824 then some p.number else none
theorem Sm.dk : ∀ (l:List Sm),l.length≤Sm.bB l
 | []=>zak _
 |x::l=>by simp only[Sm.bB,zas];have:=Sm.dk l;omega
theorem Ar.dk : ∀ (l:List Ar),l.length≤Ar.bB l
 | []=>zak _
 |x::l=>by simp only[Ar.bB,zas];have:=Ar.dk l;omega
theorem Pc.dk : ∀ (l:List Pc),l.length≤Pc.bB l
 | []=>zak _
 |x::l=>by simp only[Pc.bB,zas];have:=Pc.dk l;omega
theorem Ar.cb {x:Ar} : ∀ {l:List Ar},x∈l→x.x.size<Ar.bB l
 |y::l,h=>by
  simp only[Ar.bB]
  rcases zaq.1 h with rfl|h
  ·omega
  ·have:=Ar.cb h;omega
theorem Sm.cb {x:Sm} : ∀ {l:List Sm},x∈l→x.size<Sm.bB l
 |y::l,h=>by
  simp only[Sm.bB]
  rcases zaq.1 h with rfl|h
  ·omega
  ·have:=Sm.cb h;omega
theorem Pc.cb {x:Pc} : ∀ {l:List Pc},x∈l→x.size<Pc.bB l
 |y::l,h=>by
  simp only[Pc.bB]
  rcases zaq.1 h with rfl|h
  ·omega
  ·have:=Pc.cb h;omega
mutual
def Sm.k8:Sm→Nat
 |⟨_,_,_,_,_,_,_,_,aY,aH⟩=>1+Sm.kB aY+Sm.kB aH
def Sm.kB:List Sm→Nat
 | []=>0
 |s::l=>s.k8+Sm.kB l
end
structure Im where
 s:Sm
 proc:Int
 up:Int
 next:Int
 loop:Int
mutual
def Im.one (proc up next loop:Int) (out:List Im):Sm→List Im
 | ⟨id,kind,labels,name,pc,x,has,args,aY,aH⟩=>
  Im.rows proc ((out.length:Int)+1) (if kind==6 then(out.length:Int)+1 else next) (if kind==6 then(out.length:Int)+1 else loop)
   (Im.rows proc ((out.length:Int)+1) (if kind==6 then(out.length:Int)+1 else next) (if kind==6 then(out.length:Int)+1 else loop) (out++ [⟨⟨id,kind,labels,name,pc,x,has,args,aY,aH⟩,proc,up,next,loop⟩]) aY) aH
def Im.rows (proc up next loop:Int) (out:List Im):List Sm→List Im
 | []=>out
 |s::l=>Im.rows proc up next loop (Im.one proc up (if l.length=0 then next else(out.length:Int)+1+(s.k8:Int)) loop out s) l
end
theorem Im.aiZ (proc up next loop:Int) (out:List Im) (s:Sm):Im.one proc up next loop out s =
 Im.rows proc ((out.length:Int)+1) (if s.kind==6 then(out.length:Int)+1 else next) (if s.kind==6 then(out.length:Int)+1 else loop)
  (Im.rows proc ((out.length:Int)+1) (if s.kind==6 then(out.length:Int)+1 else next) (if s.kind==6 then(out.length:Int)+1 else loop) (out++ [⟨s,proc,up,next,loop⟩]) s.aY) s.aH:=by
 cases s;simp only[Im.one]
mutual
theorem af5 (proc up next loop:Int) (out:List Im) : ∀ s:Sm,(Im.one proc up next loop out s).length=out.length+s.k8
 |⟨id,kind,labels,name,pc,x,has,args,aY,aH⟩=>by
  simp only[Im.one,Sm.k8]
  rw[jf,jf]
  simp only[zal,zas,zaC];omega
theorem jf (proc up next loop:Int) (out:List Im) : ∀ l:List Sm,(Im.rows proc up next loop out l).length=out.length+Sm.kB l
 | []=>rfl
 |s::l=>by
  simp only[Im.rows,Sm.kB]
  rw[jf,af5];omega
end
mutual
theorem Hq : ∀ s:Sm,s.k8≤s.size
 |⟨_,_,labels,_,_,x,_,args,aY,aH⟩=>by
  have:=qm aY;have:=qm aH
  simp only[Sm.k8,Sm.size];omega
theorem qm : ∀ l:List Sm,Sm.kB l≤Sm.bB l
 | []=>zak _
 |s::l=>by
  have:=Hq s;have:=qm l
  simp only[Sm.kB,Sm.bB];omega
end
structure Sh where
 L:List Im
 lo:List Int
 hi:List Int
def Sh.go (i:Nat) (h:Sh):List Pc→Sh
 | []=>h
 |f::l=>Sh.go (i+1) ⟨Im.rows i 0 (-1) 0 h.L f.body,h.lo++ [(h.L.length:Int)+1],h.hi++ [((Im.rows i 0 (-1) 0 h.L f.body).length:Int)+1]⟩ l
def Pg.aU (p:Pg):Sh:=Sh.go 0 ⟨[],[],[]⟩ p.procs
end Go.Abs
