/-
  What is proved here: part 1 of the road to the claim (Frame, Frame2, Walk, Par, Par1, Par2, Par3, Step, Wp, Types, SelA, Lend, Sym, Frz, WpA, Mir, MirTree, Cnt, MirFlat, Nums, Codes0, Have0).
  No conditions.
-/
import Derived.Test.YtpjadlleefgcpaaGreatRnF0
import Derived.Attr
import Derived.Test.YtpjadlleefgcpaaGreatProg
import Derived.KernelRfl

set_option linter.unusedSimpArgs false
set_option linter.unusedVariables false
namespace Go.Abs
def Tag.ok (m:Nat):Tag→Bool
 | .tok t _=>decide (t<m)
 |_=>true
def Tag.cU (ts:List Nat):Tag→Tag
 | .tok t y=>match ts[t]? with|some t'=> .tok t' y|none=> .shared
 |g=>g
mutual
def D.ok (n m:Nat):D→Bool
 | .ptr o _=>decide (o<n)
 | .dv row _=>D.bL n m row
 | .slice g _ rows=>g.ok m && D.gS n m rows
 | .agg cs=>D.bL n m cs
 | .tuple ds=>D.bL n m ds
 | .fl _ o=>decide (o<n)
 | .gd _ cs=>D.bL n m cs
 | .fP o=>decide (o<n)
 | .ep _ o _ _=>decide (o<n)
 | .fm o _ _=>decide (o<n)
 |_=>true
def D.bL (n m:Nat):List D→Bool
 | []=>true
 |d::r=>D.ok n m d && D.bL n m r
def D.gS (n m:Nat):List (List D)→Bool
 | []=>true
 |d::r=>D.bL n m d && D.gS n m r
end
mutual
def D.cU (os ts:List Nat):D→D
 | .ptr o off=>match os[o]? with|some o'=> .ptr o' off|none=> .junk
 | .dv row off=> .dv (D.e9 os ts row) off
 | .slice g z rows=> .slice (g.cU ts) z (D.nT os ts rows)
 | .agg cs=> .agg (D.e9 os ts cs)
 | .tuple ds=> .tuple (D.e9 os ts ds)
 | .junk=> .junk
 | .int k x=> .int k x
 | .bool b=> .bool b
 | .str l=> .str l
 | .dR=> .dR
 | .val v=> .val v
 | .fl T o=>match os[o]? with|some o'=> .fl T o'|none=> .junk
 | .gd f cs=> .gd f (D.e9 os ts cs)
 | .fP o=>match os[o]? with|some o'=> .fP o'|none=> .junk
 | .ep z o g len=>match os[o]? with|some o'=> .ep z o' g len|none=> .junk
 | .fm o g off=>match os[o]? with|some o'=> .fm o' g off|none=> .junk
 | .ei z=> .ei z
def D.e9 (os ts:List Nat):List D→List D
 | []=> []
 |d::r=>D.cU os ts d::D.e9 os ts r
def D.nT (os ts:List Nat):List (List D)→List (List D)
 | []=> []
 |d::r=>D.e9 os ts d::D.nT os ts r
end
theorem fN (os ts:List Nat) : ∀ l,D.e9 os ts l=l.map (D.cU os ts)
 | []=>by simp[D.e9]
 |d::r=>by simp[D.e9,fN os ts r]
theorem B8 (os ts:List Nat) : ∀ l,D.nT os ts l=l.map (D.e9 os ts)
 | []=>by simp[D.nT]
 |d::r=>by simp[D.nT,B8 os ts r]
theorem ya (n m:Nat) : ∀ l,D.bL n m l=l.all (D.ok n m)
 | []=>by simp[D.bL]
 |d::r=>by simp[D.bL,ya n m r]
theorem Ea (n m:Nat) : ∀ l,D.gS n m l=l.all (D.bL n m)
 | []=>by simp[D.gS]
 |d::r=>by simp[D.gS,Ea n m r]
theorem vv {n m:Nat} {l:List D} (h:D.bL n m l=true) {i:Nat} {d:D} (e:l[i]? = some d):D.ok n m d=true:=by
 rw[ya]at h;exact List.all_eq_true.1 h d (List.mem_of_getElem? e)
theorem Yb {n m:Nat} {l:List (List D)} (h:D.gS n m l=true) {i:Nat} {d:List D} (e:l[i]? = some d):D.bL n m d=true:=by
 rw[Ea]at h;exact List.all_eq_true.1 h d (List.mem_of_getElem? e)
section
variable {M M0:Map} {s s0:St} {os ts:List Nat}
theorem iO.B9 (kN : ∀ (i:Nat) t,ts[i]? = some t→M0.be i=M.be t) (ht : ∀ (i t:Nat),ts[i]? = some t→s0.aw[i]? = s.aw[t]?) (hlen:s0.aw.length=ts.length) {g:Tag} {z len cap:Nat} {base:Option (Nat×Nat)} (pJ:g.ok ts.length=true) (h:iO M s (g.cU ts) z len base cap):iO M0 s0 g z len base cap:=by
 cases g with
 |full=>exact h
 |shared=>exact h
 |tok t y=>
  have hD:t<ts.length:=by simpa[Tag.ok]using pJ
  have e:ts[t]? = some ts[t]:=List.getElem?_eq_getElem hD
  simp only[Tag.cU,e]at h
  obtain⟨h1,h2⟩:=h
  refine⟨by omega,fun n hn=>?_⟩
  rw[ht t _ e]at hn
  rw[kN t _ e]
  exact h2 n hn
theorem RD.B9 (hG:M0.G=M.G) (jn : ∀ (i:Nat) o,os[i]? = some o→M0.loc i=M.loc o) (iX:s0.ah.length=os.length)
 (kN : ∀ (i:Nat) t,ts[i]? = some t→M0.be i=M.be t) (ht : ∀ (i t:Nat),ts[i]? = some t→s0.aw[i]? = s.aw[t]?) (hlen:s0.aw.length=ts.length) {d:D} {v:Value} (h:RD M s d v) :
 ∀ d0:D,d0.cU os ts=d→d0.ok os.length ts.length=true→RD M0 s0 d0 v:=by
 have mW : ∀ (i:Nat) o,os[i]? = some o→M0.mu i=M.mu o:=fun i o h=>congrArg Prod.fst (jn i o h)
 have tag:=fun {g z len cap base}=>@iO.B9 M M0 s s0 ts kN ht hlen g z len cap base
 induction h with
 | junk v=>
  intro d0 e ok
  cases d0<;>simp only[D.cU]at e<;>try (cases e;done)
  ·exact .junk v
  ·rename_i o off
   have hD:o<os.length:=by simpa[D.ok]using ok
   rw[List.getElem?_eq_getElem hD]at e;cases e
  ·rename_i T o
   have hD:o<os.length:=by simpa[D.ok]using ok
   rw[List.getElem?_eq_getElem hD]at e;cases e
  ·rename_i o
   have hD:o<os.length:=by simpa[D.ok]using ok
   rw[List.getElem?_eq_getElem hD]at e;cases e
  ·rename_i z o g len
   have hD:o<os.length:=by simpa[D.ok]using ok
   rw[List.getElem?_eq_getElem hD]at e;cases e
  ·rename_i o g off
   have hD:o<os.length:=by simpa[D.ok]using ok
   rw[List.getElem?_eq_getElem hD]at e;cases e
 |ei z a=>intro d0 e ok;cases d0<;>simp only[D.cU]at e<;>first|(cases e;exact .ei _ _)|(split at e<;>cases e)|cases e
 |ep z o g len b cap A ho hm ha hl=>
  intro d0 e ok
  cases d0<;>simp only[D.cU]at e<;>first|(cases e;done)|skip
  all_goals try (split at e<;>cases e;done)
  rename_i z0 o0 g0 M6
  have hD:o0<os.length:=by simpa[D.ok]using ok
  rw[List.getElem?_eq_getElem hD]at e
  cases e
  exact RD.ep (s:=s0) z o0 g len b cap A (by omega) ((congrArg Prod.snd (jn o0 _ (List.getElem?_eq_getElem hD))).trans hm) ha hl
 |fm z o g off b cap A ho hm ha=>
  intro d0 e ok
  cases d0<;>simp only[D.cU]at e<;>first|(cases e;done)|skip
  all_goals try (split at e<;>cases e;done)
  rename_i o0 g0 Ts
  have hD:o0<os.length:=by simpa[D.ok]using ok
  rw[List.getElem?_eq_getElem hD]at e
  cases e
  exact RD.fm (s:=s0) z o0 g off b cap A (by omega) ((congrArg Prod.snd (jn o0 _ (List.getElem?_eq_getElem hD))).trans hm) ha
 |val v hv=>intro d0 e ok;cases d0<;>simp only[D.cU]at e<;>first|(cases e;exact .val _ hv)|(split at e<;>cases e)|cases e
 |fl T o v ho ht hv=>
  intro d0 e ok
  cases d0<;>simp only[D.cU]at e<;>first|(split at e<;>cases e;done)|skip
  all_goals try (cases e;done)
  rename_i T0 o0
  have hD:o0<os.length:=by simpa[D.ok]using ok
  rw[List.getElem?_eq_getElem hD]at e
  cases e
  have hl:=jn o0 _ (List.getElem?_eq_getElem hD)
  exact .fl _ o0 v (by omega) ((congrArg (fun x=>x.2.ty?) hl).trans ht) (by rw[mW o0 _ (List.getElem?_eq_getElem hD)];exact hv)
 |int k x=>intro d0 e ok;cases d0<;>simp only[D.cU]at e<;>first|(cases e;exact .int _ _)|(split at e<;>cases e)|cases e
 |bool b=>intro d0 e ok;cases d0<;>simp only[D.cU]at e<;>first|(cases e;exact .bool _)|(split at e<;>cases e)|cases e
 |str l=>intro d0 e ok;cases d0<;>simp only[D.cU]at e<;>first|(cases e;exact .str _)|(split at e<;>cases e)|cases e
 |dR=>intro d0 e ok;cases d0<;>simp only[D.cU]at e<;>first|(cases e;exact .dR)|(split at e<;>cases e)|cases e
 |fP o ho hm=>
  intro d0 e ok
  cases d0<;>simp only[D.cU]at e<;>first|(cases e;done)|skip
  all_goals try (split at e<;>cases e;done)
  rename_i o0
  have hD:o0<os.length:=by simpa[D.ok]using ok
  rw[List.getElem?_eq_getElem hD]at e
  cases e
  rw[← mW o0 _ (List.getElem?_eq_getElem hD)]
  exact RD.fP (s:=s0) o0 (by omega) ((congrArg Prod.snd (jn o0 _ (List.getElem?_eq_getElem hD))).trans hm)
 |gd f ds vs hl _ ih=>
  intro d0 e ok
  cases d0<;>simp only[D.cU]at e<;>first|(split at e<;>cases e;done)|skip
  all_goals try (cases e;done)
  rename_i f0 Qu
  simp only[D.gd.injEq]at e
  obtain⟨rfl,rfl⟩:=e
  simp only[D.ok]at ok
  rw[fN]at hl ih
  refine .gd _ Qu vs (by simpa using hl) (fun i d v e1 e2=>ih i _ v (by rw[List.getElem?_map,e1];rfl) e2 d rfl (vv ok e1))
 |ptr o off ho hm=>
  intro d0 e ok
  cases d0<;>simp only[D.cU]at e<;>first|(cases e;done)|skip
  all_goals try (split at e<;>cases e;done)
  rename_i o0 Ts
  have hD:o0<os.length:=by simpa[D.ok]using ok
  rw[List.getElem?_eq_getElem hD]at e
  cases e
  rw[← mW o0 _ (List.getElem?_eq_getElem hD)]
  exact RD.ptr (s:=s0) o0 _ (by omega) (by rw[show M0.ob o0=_ from congrArg Prod.snd (jn o0 _ (List.getElem?_eq_getElem hD))];exact hm)
 |dv row off b k h1 h2 ih=>
  intro d0 e ok
  cases d0<;>simp only[D.cU]at e<;>first|(split at e<;>cases e;done)|skip
  all_goals try (cases e;done)
  rename_i ajf Ts
  simp only[D.dv.injEq]at e
  obtain⟨rfl,rfl⟩:=e
  simp only[D.ok]at ok
  rw[fN]at h1 ih
  refine .dv ajf Ts b k (fun i d e=>?_) (fun i d u e eu=>?_)
  ·rw[hG];exact h1 i _ (by rw[List.getElem?_map,e];rfl)
  ·rw[hG]at eu;exact ih i _ u (by rw[List.getElem?_map,e];rfl) eu d rfl (vv ok e)
 |iK g z cap hc pK=>
  intro d0 e ok
  cases d0<;>simp only[D.cU]at e<;>first|(split at e<;>cases e;done)|skip
  all_goals try (cases e;done)
  rename_i g0 z0 kl
  simp only[D.slice.injEq]at e
  obtain⟨rfl,rfl,e⟩:=e
  have:kl = []:=by cases kl<;>simp[D.nT]at e;rfl
  subst this
  simp only[D.ok,Bool.and_eq_true]at ok
  exact .iK g0 z0 cap hc (tag ok.1 pK)
 | lB z a cap=>
  intro d0 e ok
  cases d0<;>simp only[D.cU]at e<;>first|(split at e<;>cases e;done)|skip
  all_goals try (cases e;done)
  rename_i g0 z0 kl
  simp only[D.slice.injEq]at e
  obtain⟨hg,rfl,e⟩:=e
  have:kl = []:=by cases kl<;>simp[D.nT]at e;rfl
  subst this
  simp only[D.ok,Bool.and_eq_true]at ok
  have:g0 = .shared:=by
   cases g0 with
   |tok t y=>
    have ht:t<ts.length:=by simpa[Tag.ok]using ok.1
    simp[Tag.cU,ht]at hg
   |shared=>rfl
   |_=>simp[Tag.cU]at hg
  subst this
  exact .lB _ a cap
 | slice g z rows b k cap hl hs h1 h2 pK ih=>
  intro d0 e ok
  cases d0<;>simp only[D.cU]at e<;>first|(split at e<;>cases e;done)|skip
  all_goals try (cases e;done)
  rename_i g0 z0 kl
  simp only[D.slice.injEq]at e
  obtain⟨rfl,rfl,rfl⟩:=e
  simp only[D.ok,Bool.and_eq_true]at ok
  rw[B8]at hl hs h1 ih pK
  simp only[B8,List.length_map]at hl pK ⊢
  have dY : ∀ (i:Nat) (row:List D),kl[i]? = some row→(kl.map (D.e9 os ts))[i]? = some (D.e9 os ts row):=fun i row e=>by rw[List.getElem?_map,e];rfl
  have iE : ∀ (row:List D) (j:Nat) (d:D),row[j]? = some d→(D.e9 os ts row)[j]? = some (D.cU os ts d):=fun row j d e=>by rw[fN,List.getElem?_map,e];rfl
  refine .slice g0 z0 kl b k cap hl (fun row hr=>?_) (fun i row j d e1 e2=>?_) (fun i row j d u e1 e2 eu=>?_) (tag ok.1 pK)
  ·have:=hs (D.e9 os ts row) (List.mem_map.2 ⟨row,hr,rfl⟩)
   rwa [fN,List.length_map]at this
  ·rw[hG];exact h1 i _ j _ (dY i row e1) (iE row j d e2)
  ·rw[hG]at eu;exact ih i _ j _ u (dY i row e1) (iE row j d e2) eu d rfl (vv (Yb ok.2 e1) e2)
 |agg cells vs hl h1 _ ih=>
  intro d0 e ok
  cases d0<;>simp only[D.cU]at e<;>first|(split at e<;>cases e;done)|skip
  all_goals try (cases e;done)
  rename_i Qu
  simp only[D.agg.injEq]at e
  subst e
  simp only[D.ok]at ok
  rw[fN]at hl ih
  refine .agg Qu vs (by simpa using hl) h1 (fun i d v e1 e2=>ih i _ v (by rw[List.getElem?_map,e1];rfl) e2 d rfl (vv ok e1))
 |tuple ds vs hl _ ih=>
  intro d0 e ok
  cases d0<;>simp only[D.cU]at e<;>first|(split at e<;>cases e;done)|skip
  all_goals try (cases e;done)
  rename_i Qu
  simp only[D.tuple.injEq]at e
  subst e
  simp only[D.ok]at ok
  rw[fN]at hl ih
  refine .tuple Qu vs (by simpa using hl) (fun i d v e1 e2=>ih i _ v (by rw[List.getElem?_map,e1];rfl) e2 d rfl (vv ok e1))
theorem RD.cU (hG:M0.G=M.G) (jn : ∀ i,i<s0.ah.length→∃ o,os[i]? = some o∧o<s.ah.length∧M.loc o=M0.loc i)
 (kN : ∀ i,i<s0.aw.length→∃ t,ts[i]? = some t∧t<s.aw.length∧s.aw[t]? = s0.aw[i]? ∧M.be t=M0.be i) {d:D} {v:Value} (h:RD M0 s0 d v):RD M s (d.cU os ts) v:=by
 have tag : ∀ {g:Tag} {z len cap:Nat} {base:Option (Nat×Nat)},iO M0 s0 g z len base cap→iO M s (g.cU ts) z len base cap:=by
  intro g z len cap base h
  cases g with
  |full=>exact h
  |shared=>exact h
  |tok t y=>
   obtain⟨h1,h2⟩:=h
   obtain⟨t',e,hD,Iw,hb⟩:=kN t h1
   simp only[Tag.cU,e]
   refine⟨hD,fun n hn=>?_⟩
   rw[hb]
   exact h2 n (Iw ▸ hn)
 induction h with
 |junk v=>simp only[D.cU];exact .junk v
 |int k x=>simp only[D.cU];exact .int k x
 |bool b=>simp only[D.cU];exact .bool b
 |str l=>simp only[D.cU];exact .str l
 |dR=>simp only[D.cU];exact .dR
 |ptr o off ho hk=>
  obtain⟨o',e,hD,hm⟩:=jn o ho
  simp only[D.cU,e]
  have hb:M.ob o'=M0.ob o:=congrArg Prod.snd hm
  have hm:M.mu o'=M0.mu o:=congrArg Prod.fst hm
  rw[← hm]
  exact .ptr o' off hD (by rw[hb];exact hk)
 |fP o ho hk=>
  obtain⟨o',e,hD,hm⟩:=jn o ho
  simp only[D.cU,e]
  have hb:M.ob o'=M0.ob o:=congrArg Prod.snd hm
  have hm:M.mu o'=M0.mu o:=congrArg Prod.fst hm
  rw[← hm]
  exact .fP o' hD (by rw[hb];exact hk)
 |ei z a=>simp only[D.cU];exact .ei z a
 |ep z o g len b cap A ho hk ha hl=>
  obtain⟨o',e,hD,hm⟩:=jn o ho
  simp only[D.cU,e]
  exact .ep z o' g len b cap A hD ((congrArg Prod.snd hm).trans hk) ha hl
 |fm z o g off b cap A ho hk ha=>
  obtain⟨o',e,hD,hm⟩:=jn o ho
  simp only[D.cU,e]
  exact .fm z o' g off b cap A hD ((congrArg Prod.snd hm).trans hk) ha
 |gd f ds vs hl _ ih=>
  simp only[D.cU,fN]
  refine .gd f _ vs (by simpa using hl) (fun i d v e1 e2=>?_)
  simp only[List.getElem?_map,Option.map_eq_some_iff]at e1
  obtain⟨d',e1,rfl⟩:=e1
  exact ih i d' v e1 e2
 |val v hv=>simp only[D.cU];exact .val v hv
 |fl T o v ho ht hv=>
  obtain⟨o',e,hD,hm⟩:=jn o ho
  simp only[D.cU,e]
  have h1:M.mu o'=M0.mu o:=congrArg Prod.fst hm
  have h2:M.ty o'=M0.ty o:=congrArg (fun x=>x.2.ty?) hm
  exact .fl T o' v hD (by rw[h2];exact ht) (by rw[h1];exact hv)
 | dv row off b k h1 h2 ih=>
  simp only[D.cU,fN]
  refine .dv _ off b k (fun i d e=>?_) (fun i d u e eu=>?_)
  ·simp only [List.getElem?_map,Option.map_eq_some_iff]at e
   obtain⟨d',e,rfl⟩:=e
   rw[← hG];exact h1 i d' e
  ·simp only [List.getElem?_map,Option.map_eq_some_iff]at e
   obtain⟨d',e,rfl⟩:=e
   rw[← hG]at eu;exact ih i d' u e eu
 |iK g z cap hc ht=>simp only[D.cU,D.nT];exact .iK _ z cap hc (tag ht)
 |lB z a cap=>simp only[D.cU,D.nT,Tag.cU];exact .lB z a cap
 | slice g z rows b k cap hl hs h1 h2 ht ih=>
  simp only[D.cU,B8]
  have hlen:(rows.map (D.e9 os ts)).length=rows.length:=by simp
  have key:=RD.slice (M:=M) (s:=s) (g.cU ts) z (rows.map (D.e9 os ts)) b k cap (by rw[hlen];exact hl) (fun row hr=>by
   obtain⟨kp,h',rfl⟩:=List.mem_map.1 hr
   rw[fN,List.length_map];exact hs kp h')
   (fun i row j d e1 e2=>by
    simp only[List.getElem?_map,Option.map_eq_some_iff]at e1
    obtain⟨kp,e1,rfl⟩:=e1
    rw[fN]at e2
    simp only[List.getElem?_map,Option.map_eq_some_iff]at e2
    obtain⟨d',e2,rfl⟩:=e2
    rw[← hG];exact h1 i kp j d' e1 e2)
   (fun i row j d u e1 e2 eu=>by
    simp only[List.getElem?_map,Option.map_eq_some_iff]at e1
    obtain⟨kp,e1,rfl⟩:=e1
    rw[fN]at e2
    simp only[List.getElem?_map,Option.map_eq_some_iff]at e2
    obtain⟨d',e2,rfl⟩:=e2
    rw[← hG]at eu;exact ih i kp j d' u e1 e2 eu)
   (by rw[hlen];exact tag ht)
  rw[hlen]at key
  exact key
 |agg cells vs hl h1 _ ih=>
  simp only[D.cU,fN]
  refine .agg _ vs (by simpa using hl) h1 (fun i d v e1 e2=>?_)
  simp only[List.getElem?_map,Option.map_eq_some_iff]at e1
  obtain⟨d',e1,rfl⟩:=e1
  exact ih i d' v e1 e2
 |tuple ds vs hl _ ih=>
  simp only[D.cU,fN]
  refine .tuple _ vs (by simpa using hl) (fun i d v e1 e2=>?_)
  simp only[List.getElem?_map,Option.map_eq_some_iff]at e1
  obtain⟨d',e1,rfl⟩:=e1
  exact ih i d' v e1 e2
def kF {α:Type} : List Nat→List α→List α→List α
 | [],new,l=>l++new
 |_::_,[],l=>l
 |o::os,x::xs,l=>kF os xs (l.set o x)
def kB (os:List Nat) (n k:Nat):List Nat:=os++(List.range k).map (n + ·)
theorem xg {α:Type} : ∀ (os:List Nat) (xs l:List α),os.length≤xs.length→(kF os xs l).length=l.length+(xs.length - os.length)
 | [],xs,l,_=>by simp[kF]
 |o::os,[],l,h=>by simp at h
 |o::os,x::xs,l,h=>by
  simp only[kF]
  rw[xg os xs _ (by simpa using h)]
  simp
theorem Dk {α:Type} : ∀ (os:List Nat) (xs l:List α),os.length≤xs.length→os.Nodup→(∀ o∈os,o<l.length)→
 (∀ (i:Nat) (o:Nat),os[i]? = some o→(kF os xs l)[o]? = xs[i]?)∧(∀ o,o<l.length→o∉os→(kF os xs l)[o]? = l[o]?)∧
 (∀ k,(kF os xs l)[l.length+k]? = xs[os.length+k]?)
 | [],xs,l,_,_,_=>by
  refine⟨by simp,fun o ho _=>by simp only[kF];rw[List.getElem?_append_left ho],fun k=>by simp only[kF];rw[List.getElem?_append_right (by omega)];simp⟩
 |o::os,[],l,h,_,_=>by simp at h
 | o::os,x::xs,l,h,hn,hD=>by
  simp only[List.nodup_cons]at hn
  have Ac : ∀ q∈os,q<(l.set o x).length:=fun q hq=>by simpa using hD q (by simp[hq])
  obtain⟨h1,h2,h3⟩:=Dk os xs (l.set o x) (by simpa using h) hn.2 Ac
  have ho:o<l.length:=hD o (by simp)
  simp only[kF]
  refine⟨fun i q e=>?_,fun q hq Bd=>?_,fun k=>?_⟩
  ·cases i with
   |zero=>
    simp only[List.getElem?_cons_zero,Option.some.injEq]at e
    subst e
    rw[h2 o (by simpa using ho) hn.1]
    simp[ho]
   |succ i=>simpa using h1 i q (by simpa using e)
  ·have vr:q≠o:=fun e=>Bd (by simp [e])
   rw[h2 q (by simpa using hq) (fun h=>Bd (by simp[h])),List.getElem?_set_ne (Ne.symm vr)]
  ·have:=h3 k
   simp only[List.length_set]at this
   rw[this]
   simp only[List.length_cons]
   rw[show os.length+1+k=(os.length+k)+1 by omega];simp
theorem CQ (os:List Nat) (n k i:Nat):(kB os n k)[i]? = if i<os.length then os[i]? else if i<os.length+k then some (n+(i - os.length))else none:=by
 unfold kB
 split
 ·rename_i h;rw[List.getElem?_append_left h]
 ·rename_i h
  rw[List.getElem?_append_right (by omega)]
  split
  ·rename_i h2
   rw[List.getElem?_map,List.getElem?_range (by omega)];rfl
  ·rename_i h2
   rw[List.getElem?_eq_none]
   simp;omega
def posOf:List Nat→Nat→Option Nat
 | [],_=>none
 |x::r,o=>if x=o then some 0 else(posOf r o).map (· + 1)
theorem iP : ∀ {l:List Nat} {o i:Nat},posOf l o=some i→l[i]? = some o
 | x::r,o,i,h=>by
  simp only[posOf]at h
  split at h
  ·rename_i e;cases h;simp[e]
  ·cases hp:posOf r o with
   |none=>rw[hp]at h;cases h
   |some j=>rw[hp]at h;cases h;simpa using iP hp
theorem mh : ∀ {l:List Nat} {o i:Nat},l.Nodup→l[i]? = some o→posOf l o=some i
 | x::r,o,i,hn,h=>by
  simp only[List.nodup_cons]at hn
  simp only[posOf]
  cases i with
  |zero=>simp at h;simp[h]
  |succ i=>
   simp at h
   have:x≠o:=fun e=>hn.1 (by rw[e];exact List.mem_of_getElem? h)
   rw[if_neg this,mh hn.2 h];rfl
end
end Go.Abs
namespace Go.Abs
theorem Ad {l:List Nat} {n k:Nat} (h:l.Nodup) (hl : ∀ o∈l,o<n):(kB l n k).Nodup:=by
 unfold kB
 rw[List.nodup_append]
 refine⟨h, ?_,fun a ha b hb=>?_⟩
 ·rw [List.nodup_iff_pairwise_ne,List.pairwise_map]
  exact List.Pairwise.imp (fun h=>by omega) (List.nodup_iff_pairwise_ne.1 List.nodup_range)
 ·obtain⟨c,hc,rfl⟩:=List.mem_map.1 hb
  have:=hl a ha
  omega
def gJ (M:Map) (os ts:List Nat):Map:=⟨M.G,fun i=>M.loc (os.getD i 0),fun i=>M.be (ts.getD i 0)⟩
def yc (M M0:Map) (os ts:List Nat):Map:=
 ⟨M0.G,fun o=>match posOf os o with|some i=>M0.loc i|none=>M.loc o,fun t=>match posOf ts t with|some i=>M0.be i|none=>M.be t⟩
section
variable {P:Program} {M:Map} {s s0:St} {w:World} {os ts:List Nat}
theorem ve {l:List Nat} {i o:Nat} (h:l[i]? = some o):l.getD i 0=o:=by simp[List.getD,h]
theorem Rel.sub (r:Rel M s w) (uD:os.Nodup) (vw:ts.Nodup) (iX : ∀ o∈os,o<s.ah.length)
 (ho:s0.ah.length=os.length) (xh : ∀ (i o:Nat) (ds:List D),os[i]? = some o→s0.ah[i]? = some ds→s.ah[o]? = some (D.e9 os ts ds)∧D.bL os.length ts.length ds=true)
 (ht:s0.aw.length=ts.length) (tT : ∀ (i t:Nat),ts[i]? = some t→s0.aw[i]? = s.aw[t]?):Rel (gJ M os ts) s0 w:=by
 have nth : ∀ i,i<s0.ah.length→∃ o,os[i]? = some o∧o<s.ah.length:=fun i hi=>⟨os[i],List.getElem?_eq_getElem (by omega),iX _ (List.getElem_mem _)⟩
 have loc : ∀ (i:Nat) o,os[i]? = some o→(gJ M os ts).loc i=M.loc o:=fun i o h=>by simp only[gJ,ve h]
 have mu : ∀ (i:Nat) o,os[i]? = some o→(gJ M os ts).mu i=M.mu o:=fun i o h=>congrArg Prod.fst (loc i o h)
 have be : ∀ (i:Nat) t,ts[i]? = some t→(gJ M os ts).be i=M.be t:=fun i t h=>by simp only[gJ,ve h]
 have Wn : ∀ t,s0.live t→∃ t',ts[t]? = some t'∧s.live t':=fun t ⟨n,hn⟩=>by
  have hD:=(List.getElem?_eq_some_iff.1 hn).1
  have e:ts[t]? = some ts[t]:=List.getElem?_eq_getElem (by omega)
  exact⟨_,e,n,by rw[← tT t _ e];exact hn⟩
 refine⟨r.comm,fun i ds e=>?_,fun i hi off=>?_,fun i i' hi gY e=>?_,fun t n e=>?_,fun t b c z i hl e hi=>?_,fun t t' b c z c' z' h h' e e'=>?_⟩
 ·obtain⟨o,h1,_⟩:=nth i (List.getElem?_eq_some_iff.1 e).1
  obtain⟨h2,h3⟩:=xh i o ds h1 e
  obtain⟨vs,T,g1,g2,g3,g4⟩:=r.obj o _ h2
  refine⟨vs,T,by rw[loc i o h1];exact g1,by rw[fN]at g2;simpa using g2,⟨g3.1,by rw[show(gJ M os ts).ty i=M.ty o from congrArg (fun x=>x.2.ty?) (loc i o h1)];exact g3.2⟩,fun j d v e1 e2=>?_⟩
  exact RD.B9 (M:=M) (M0:=gJ M os ts) (s:=s) rfl loc ho be tT ht (g4 j (d.cU os ts) v (by rw[fN,List.getElem?_map,e1];rfl) e2) d rfl (vv h3 e1)
 ·obtain⟨o,h1,h2⟩:=nth i hi
  rw[mu i o h1];exact r.jK o h2 off
 ·obtain⟨o,h1,h2⟩:=nth i hi
  obtain⟨o',sa,uE⟩:=nth i' gY
  rw[mu i o h1,mu i' o' sa]at e
  have:=r.inj o o' h2 uE e
  subst this
  have a:=mh uD h1
  have b:=mh uD sa
  rw[a]at b;cases b;rfl
 ·obtain⟨t',h1,h2⟩:=Wn t ⟨n,e⟩
  rw[be t t' h1]
  exact r.tok t' n (by rw[← tT t t' h1];exact e)
 ·obtain⟨t',h1,h2⟩:=Wn t hl
  obtain⟨o,h3,h4⟩:=nth i hi
  rw[be t t' h1]at e
  rw[mu i o h3]
  exact r.ff t' b c z o h2 e h4
 ·obtain⟨q,h1,h2⟩:=Wn t h
  obtain⟨q',sa,uE⟩:=Wn t' h'
  rw[be t q h1]at e
  rw[be t' q' sa]at e'
  have:=r.fQ q q' b c z c' z' h2 uE e e'
  subst this
  have a:=mh vw h1
  have b:=mh vw sa
  rw[a]at b;cases b;rfl
end
def St.back (s:St) (os ts:List Nat) (s':St):St:=
 ⟨kF os (s'.ah.map (D.e9 (kB os s.ah.length (s'.ah.length - os.length)) (kB ts s.aw.length (s'.aw.length - ts.length)))) s.ah,kF ts s'.aw s.aw⟩
def D.back (s:St) (os ts:List Nat) (s':St) (d:D):D:=
 d.cU (kB os s.ah.length (s'.ah.length - os.length)) (kB ts s.aw.length (s'.aw.length - ts.length))
theorem bM.frame {P:Program} {f:FuncId} {M7 args:List D} {s s0:St} {Q0 Q:D→St→Prop} (os ts:List Nat) (h:bM P f M7 s0 Q0) (uD:os.Nodup) (vw:ts.Nodup) (iX : ∀ o∈os,o<s.ah.length) (s6 : ∀ t∈ts,t<s.aw.length)
 (ho:s0.ah.length=os.length) (xh : ∀ (i o:Nat) (ds:List D),os[i]? = some o→s0.ah[i]? = some ds→s.ah[o]? = some (D.e9 os ts ds)∧D.bL os.length ts.length ds=true)
 (ht:s0.aw.length=ts.length) (tT : ∀ (i t:Nat),ts[i]? = some t→s0.aw[i]? = s.aw[t]?)
 (yY:args=D.e9 os ts M7) (pJ:D.bL os.length ts.length M7=true) (k : ∀ d s',Q0 d s'→Q (d.back s os ts s') (s.back os ts s')):bM P f args s Q:=by
 intro M w fI r kA dM ha
 have r0:=r.sub uD vw iX ho xh ht tT
 have loc : ∀ (i:Nat) o,os[i]? = some o→(gJ M os ts).loc i=M.loc o:=fun i o h=>by simp only[gJ,ve h]
 have mu : ∀ (i:Nat) o,os[i]? = some o→(gJ M os ts).mu i=M.mu o:=fun i o h=>congrArg Prod.fst (loc i o h)
 have be : ∀ (i:Nat) t,ts[i]? = some t→(gJ M os ts).be i=M.be t:=fun i t h=>by simp only[gJ,ve h]
 subst yY
 have aaS:Laid (gJ M os ts) s0 w:=by
  intro g cs hg
  obtain⟨h1,h2,h3⟩:=kA g cs hg
  refine⟨h1,fun o hD=>?_,fun t c z hl hb=>?_⟩
  ·obtain⟨o',nI⟩ : ∃ o',os[o]? = some o':=⟨_,List.getElem?_eq_getElem (by omega)⟩
   rw[mu o o' nI]
   exact h2 o' (iX o' (List.mem_of_getElem? nI))
  ·obtain⟨n,hn⟩:=hl
   have hD:=(List.getElem?_eq_some_iff.1 hn).1
   obtain⟨t',Eb⟩ : ∃ t',ts[t]? = some t':=⟨_,List.getElem?_eq_getElem (by omega)⟩
   rw[be t t' Eb]at hb
   exact h3 t' c z ⟨n,by rw[← tT t t' Eb];exact hn⟩ hb
 have hc:=h (gJ M os ts) w fI r0 aaS (by rw[dM,fN,List.length_map]) (fun i d v e1 e2=>
  RD.B9 (M:=M) (M0:=gJ M os ts) (s:=s) rfl loc ho be tT ht (ha i (d.cU os ts) v (by rw[fN,List.getElem?_map,e1];rfl) e2) d rfl (vv pJ e1))
 refine hc.mono ?_
 rintro en w' ⟨yd,d,v,s',rfl,hq,e,r',hv⟩
 have IA:=e.le.n
 have D0:=e.le.t
 generalize M8:kB os s.ah.length (s'.ah.length - os.length)=lP
 generalize M9:kB ts s.aw.length (s'.aw.length - ts.length)=oZ
 have nd:lP.Nodup:=by rw[← M8];exact Ad uD iX
 have ndt:oZ.Nodup:=by rw[← M9];exact Ad vw s6
 have Na : ∀ i,lP[i]? = if i<os.length then os[i]? else if i<s'.ah.length then some (s.ah.length+(i - os.length))else none:=fun i=>by
  rw[← M8,CQ];split
  ·rfl
  ·rw[show os.length+(s'.ah.length - os.length)=s'.ah.length by omega]
 have Nb : ∀ i,oZ[i]? = if i<ts.length then ts[i]? else if i<s'.aw.length then some (s.aw.length+(i - ts.length))else none:=fun i=>by
  rw[← M9,CQ];split
  ·rfl
  ·rw[show ts.length+(s'.aw.length - ts.length)=s'.aw.length by omega]
 have hsb:s.back os ts s' = ⟨kF os (s'.ah.map (D.e9 lP oZ)) s.ah,kF ts s'.aw s.aw⟩:=by simp only[St.back,M8,M9]
 have hdb:d.back s os ts s'=d.cU lP oZ:=by simp only[D.back,M8,M9]
 have mI:=k d s' hq
 rw[hsb,hdb]at mI
 obtain⟨p1,p2,p3⟩:=Dk os (s'.ah.map (D.e9 lP oZ)) s.ah (by simp;omega) uD iX
 obtain⟨q1,q2,q3⟩:=Dk ts s'.aw s.aw (by omega) vw s6
 have IG:=xg os (s'.ah.map (D.e9 lP oZ)) s.ah (by simp;omega)
 have II:=xg ts s'.aw s.aw (by omega)
 simp only[List.length_map]at IG
 generalize z8:(⟨kF os (s'.ah.map (D.e9 lP oZ)) s.ah,kF ts s'.aw s.aw⟩:St)=s2 at mI
 have so:s2.ah=kF os (s'.ah.map (D.e9 lP oZ)) s.ah:=by rw[← z8]
 have st:s2.aw=kF ts s'.aw s.aw:=by rw[← z8]
 -- the framed objects
 have fo : ∀ (i o:Nat),lP[i]? = some o→o<s2.ah.length∧s2.ah[o]? = (s'.ah[i]?).map (D.e9 lP oZ)∧i<s'.ah.length∧(i<os.length→o<s.ah.length∧os[i]? = some o)∧(os.length≤i→s.ah.length≤o):=by
  intro i o hi
  rw[Na]at hi
  split at hi
  ·rename_i h1
   have hD:=iX o (List.mem_of_getElem? hi)
   refine⟨by rw[so,IG];omega,by rw[so,p1 i o hi,List.getElem?_map],by omega,fun _=>⟨hD,hi⟩,fun h=>by omega⟩
  ·split at hi
   ·rename_i h1 h2
    cases hi
    refine⟨by rw[so,IG];omega, ?_,h2,fun h=>by omega,fun _=>by omega⟩
    rw[so,p3,List.getElem?_map,show os.length+(i - os.length)=i by omega]
   ·cases hi
 have ft : ∀ (i t:Nat),oZ[i]? = some t→t<s2.aw.length∧s2.aw[t]? = s'.aw[i]? ∧i<s'.aw.length∧(i<ts.length→t<s.aw.length∧ts[i]? = some t)∧(ts.length≤i→s.aw.length≤t):=by
  intro i t hi
  rw[Nb]at hi
  split at hi
  ·rename_i h1
   have hD:=s6 t (List.mem_of_getElem? hi)
   refine⟨by rw[st,II];omega,by rw[st,q1 i t hi],by omega,fun _=>⟨hD,hi⟩,fun h=>by omega⟩
  ·split at hi
   ·rename_i h1 h2
    cases hi
    refine⟨by rw[st,II];omega, ?_,h2,fun h=>by omega,fun _=>by omega⟩
    rw[st,q3,show ts.length+(i - ts.length)=i by omega]
   ·cases hi
 -- all others
 have uo : ∀ o,o<s2.ah.length→posOf lP o=none→o<s.ah.length∧o∉os∧s2.ah[o]? = s.ah[o]? :=by
  intro o hD hp
  have nU : ∀ i,lP[i]? ≠some o:=fun i hi=>by rw[mh nd hi]at hp;cases hp
  have h1:o<s.ah.length:=by
   rcases Nat.lt_or_ge o s.ah.length with h|h
   ·exact h
   ·exfalso
    rw[so,IG]at hD
    refine nU (os.length+(o - s.ah.length)) ?_
    rw[Na,if_neg (by omega),if_pos (by omega)]
    congr 1;omega
  have h2:o∉os:=fun hm=>by
   obtain⟨i,hi⟩:=List.mem_iff_getElem?.1 hm
   have qQ:=(List.getElem?_eq_some_iff.1 hi).1
   exact nU i (by rw[Na,if_pos qQ];exact hi)
  exact⟨h1,h2,by rw[so,p2 o h1 h2]⟩
 have ut : ∀ t,t<s2.aw.length→posOf oZ t=none→t<s.aw.length∧t∉ts∧s2.aw[t]? = s.aw[t]? :=by
  intro t hD hp
  have nU : ∀ i,oZ[i]? ≠some t:=fun i hi=>by rw[mh ndt hi]at hp;cases hp
  have h1:t<s.aw.length:=by
   rcases Nat.lt_or_ge t s.aw.length with h|h
   ·exact h
   ·exfalso
    rw[st,II]at hD
    refine nU (ts.length+(t - s.aw.length)) ?_
    rw[Nb,if_neg (by omega),if_pos (by omega)]
    congr 1;omega
  have h2:t∉ts:=fun hm=>by
   obtain⟨i,hi⟩:=List.mem_iff_getElem?.1 hm
   have qQ:=(List.getElem?_eq_some_iff.1 hi).1
   exact nU i (by rw[Nb,if_pos qQ];exact hi)
  exact⟨h1,h2,by rw[st,q2 t h1 h2]⟩
 generalize Qw:yc M yd lP oZ=M2
 have mG:yd.G=M2.G:=by rw[← Qw];rfl
 have lo : ∀ (i o:Nat),lP[i]? = some o→M2.loc o=yd.loc i:=fun i o hi=>by rw[← Qw];simp only[yc,mh nd hi]
 have Wo : ∀ o,posOf lP o=none→M2.loc o=M.loc o:=fun o hp=>by rw[← Qw];simp only[yc,hp]
 have mo : ∀ (i o:Nat),lP[i]? = some o→M2.mu o=yd.mu i:=fun i o hi=>congrArg Prod.fst (lo i o hi)
 have IJ : ∀ o,posOf lP o=none→M2.mu o=M.mu o:=fun o hp=>congrArg Prod.fst (Wo o hp)
 have mt : ∀ (i t:Nat),oZ[i]? = some t→M2.be t=yd.be i:=fun i t hi=>by rw[← Qw];simp only[yc,mh ndt hi]
 have IK : ∀ t,posOf oZ t=none→M2.be t=M.be t:=fun t hp=>by rw[← Qw];simp only[yc,hp]
 have le:Le M s M2 s2:=by
  refine⟨fun b o v hg=>by rw[← mG];exact e.le.G b o v hg,by rw[so,IG];omega,fun o hD=>?_,by rw[st,II];omega,fun t n' hD rh=>?_⟩
  ·cases hp:posOf lP o with
   |none=>rw[Wo o hp];exact .refl _
   | some i=>
    have hi:=iP hp
    rw[lo i o hi]
    obtain⟨_,_,_,h1,h2⟩:=fo i o hi
    have qQ:i<os.length:=by
     rcases Nat.lt_or_ge i os.length with h|h
     ·exact h
     ·have:=h2 h;omega
    have h3:=e.le.loc i (by omega)
    rw[loc i o (h1 qQ).2]at h3
    exact h3
  ·cases hp:posOf oZ t with
   |none=>
    obtain⟨_,_,h3⟩:=ut t (by rw[st,II];omega) hp
    rw[h3]at rh
    exact⟨n',rh,Nat.le_refl _,fun _=>IK t hp⟩
   | some i=>
    have hi:=iP hp
    obtain⟨_,g1,_,h1,h2⟩:=ft i t hi
    have qQ:i<ts.length:=by
     rcases Nat.lt_or_ge i ts.length with h|h
     ·exact h
     ·have:=h2 h;omega
    rw[g1]at rh
    obtain⟨n,h3,h4,h5⟩:=e.le.tk i n' (by omega) rh
    refine⟨n,by rw[← tT i t (h1 qQ).2];exact h3,h4,fun eq=>?_⟩
    rw[mt i t hi,h5 eq,be i t (h1 qQ).2]
 have aaT : ∀ {d:D} {v:Value},RD yd s' d v→RD M2 s2 (d.cU lP oZ) v:=fun hd=>RD.cU mG
  (fun i hi=>by
   obtain⟨o,ho⟩ : ∃ o,lP[i]? = some o:=by
    rw[Na];split
    ·rename_i h1;exact⟨_,List.getElem?_eq_getElem h1⟩
    ·exact⟨_,rfl⟩
   exact⟨o,ho,(fo i o ho).1,lo i o ho⟩)
  (fun i hi=>by
   obtain⟨t,ht⟩ : ∃ t,oZ[i]? = some t:=by
    rw[Nb];split
    ·rename_i h1;exact⟨_,List.getElem?_eq_getElem h1⟩
    ·exact⟨_,rfl⟩
   exact⟨t,ht,(ft i t ht).1,(ft i t ht).2.1,mt i t ht⟩) hd
 -- blocks that the callee did not know
 have HR : ∀ i,s0.live i→∃ t,ts[i]? = some t∧s.live t:=fun i ⟨n,hn⟩=>by
  have hD:=(List.getElem?_eq_some_iff.1 hn).1
  have e1:ts[i]? = some ts[i]:=List.getElem?_eq_getElem (by omega)
  exact⟨_,e1,n,by rw[← tT i _ e1];exact hn⟩
 have Nc : ∀ b,b<w.heap.size→(∀ (i o:Nat),os[i]? = some o→M.mu o≠b)→(∀ (i t:Nat) c z,ts[i]? = some t→s.live t→M.be t≠some (b,c,z))→
  w'.heap[b]? = w.heap[b]? ∧∀ off,yd.G b off=M.G b off:=by
  intro b hb h1 h2
  refine⟨e.kept b hb (fun i hi=>?_) (fun i c z hl=>?_),fun off=>?_⟩
  ·have e1:os[i]? = some os[i]:=List.getElem?_eq_getElem (by omega)
   rw[mu i _ e1];exact h1 i _ e1
  ·obtain⟨t,e1,hD⟩:=HR i hl
   rw[be i t e1];exact h2 i t c z e1 hD
  ·apply Classical.byContradiction
   intro eJ
   rcases e.se b off eJ with h3|⟨i,c,z,hl,h3⟩
   ·omega
   ·obtain⟨t,e1,hD⟩:=HR i hl
    rw[be i t e1]at h3
    exact h2 i t c z e1 hD h3
 have Wp : ∀ o,o<s.ah.length→o∉os→w'.heap[M.mu o]? = w.heap[M.mu o]? ∧∀ off,yd.G (M.mu o) off=M.G (M.mu o) off:=fun o hD nU=>
  Nc _ (r.qk hD) (fun i o' h1 h2=>nU (by rw[← r.inj o' o (iX o' (List.mem_of_getElem? h1)) hD h2];exact List.mem_of_getElem? h1))
   (fun i t c z _ hl h2=>r.ff t _ c z o hl h2 hD rfl)
 have aeZ : ∀ t b c z,s.live t→t∉ts→M.be t=some (b,c,z)→w'.heap[b]? = w.heap[b]? ∧∀ off,yd.G b off=M.G b off:=fun t b c z hl nU hb=>
  Nc b (r.sE hl hb) (fun i o h1=>r.ff t b c z o hl hb (iX o (List.mem_of_getElem? h1)))
   (fun i t' c' z' h1 l6 h2=>nU (by rw[r.fQ t t' b c z c' z' hl l6 hb h2];exact List.mem_of_getElem? h1))
 have lv : ∀ t,s2.live t→(∃ i,oZ[i]? = some t∧s'.live i)∨(posOf oZ t=none∧s.live t∧t∉ts):=by
  rintro t ⟨n,hn⟩
  cases hp:posOf oZ t with
  |none=>
   obtain⟨h1,h2,h3⟩:=ut t (List.getElem?_eq_some_iff.1 hn).1 hp
   exact .inr ⟨rfl,⟨n,by rw[← h3];exact hn⟩,h2⟩
  |some i=>
   have hi:=iP hp
   exact .inl ⟨i,hi,n,by rw[← (ft i t hi).2.1];exact hn⟩
 -- where a framed object lies
 have Wq : ∀ (i o:Nat),lP[i]? = some o→(o<s.ah.length∧o∈os∧yd.mu i=M.mu o)∨w.heap.size≤yd.mu i:=by
  intro i o hi
  obtain⟨_,_,h1,h2,h3⟩:=fo i o hi
  rcases e.mo h1 with ⟨h4,h5⟩|h4
  ·have h:i<os.length:=by omega
   exact .inl ⟨(h2 h).1,List.mem_of_getElem? (h2 h).2,by rw[h5,mu i o (h2 h).2]⟩
  ·exact .inr h4
 have Wr : ∀ (i t b c z:Nat),oZ[i]? = some t→s'.live i→yd.be i=some (b,c,z)→(s.live t∧t∈ts∧∃ c' z',M.be t=some (b,c',z'))∨w.heap.size≤b:=by
  intro i t b c z hi hl hb
  rcases e.qu i b c z hl hb with ⟨h1,c',z',h2⟩|h1
  ·obtain⟨t',e1,hD⟩:=HR i h1
   have qQ:=(List.getElem?_eq_some_iff.1 e1).1
   obtain⟨_,_,_,h3,_⟩:=ft i t hi
   have:=(h3 qQ).2
   rw[e1]at this;cases this
   rw[be i _ e1]at h2
   exact .inl ⟨hD,List.mem_of_getElem? e1,c',z',h2⟩
  ·exact .inr h1
 refine⟨M2,d.cU lP oZ,v,s2,rfl,mI, ?_, ?_,aaT hv⟩
 ·-- Ext
  refine⟨le,fun b hb h1 h2=>?_,fun o h1 h2=>?_,fun t b c z hl hb=>?_,fun b off eJ=>?_,e.size,e.os,e.tape,e.output⟩
  ·exact(Nc b hb (fun i o h3=>h1 o (iX o (List.mem_of_getElem? h3))) (fun i t c z _ hl=>h2 t c z hl)).1
  ·cases hp:posOf lP o with
   |none=>
    have:=(uo o h2 hp).1
    rcases h1 with h1|h1
    ·omega
    ·exact(h1 (IJ o hp)).elim
   | some i=>
    have hi:=iP hp
    rw[mo i o hi]at h1 ⊢
    rcases Wq i o hi with ⟨h3,_,h5⟩|h3
    ·rcases h1 with h1 | h1
     ·omega
     ·exact(h1 h5).elim
    ·exact h3
  ·rcases lv t hl with ⟨i,hi,l6⟩ | ⟨hp,l6,_⟩
   ·rw [mt i t hi]at hb
    rcases Wr i t b c z hi l6 hb with ⟨h1,_,h2⟩|h1
    ·exact .inl ⟨h1,h2⟩
    ·exact .inr h1
   ·rw [IK t hp]at hb
    exact .inl ⟨l6,c,z,hb⟩
  ·rw [← mG]at eJ
   rcases e.se b off eJ with h1|⟨i,c,z,hl,hb⟩
   ·exact .inl h1
   ·obtain⟨t,e1,hD⟩:=HR i hl
    rw[be i t e1]at hb
    exact .inr ⟨t,c,z,hD,hb⟩
 ·-- Rel
  refine⟨fun b o v hg=>r'.comm b o v (by rw[mG];exact hg),fun o ds A7=>?_,fun o hD off=>?_,fun o o' hD Ac heq=>?_,fun t n hn=>?_,fun t b c z o hl hb hD=>?_,fun t t' b c z c' z' hl l6 hb rY=>?_⟩
  ·cases hp:posOf lP o with
   |some i=>
    have hi:=iP hp
    obtain⟨_,g1,_⟩:=fo i o hi
    rw[g1]at A7
    obtain⟨nH,h1,rfl⟩:=Option.map_eq_some_iff.1 A7
    obtain⟨vs,T,h2,h3,h4,h5⟩:=r'.obj i nH h1
    refine⟨vs,T,by rw[lo i o hi];exact h2,by rw[fN];simpa using h3,⟨h4.1,by rw[show M2.ty o=yd.ty i from congrArg (fun x=>x.2.ty?) (lo i o hi)];exact h4.2⟩,fun j d v e1 e2=>?_⟩
    rw[fN]at e1
    simp only[List.getElem?_map,Option.map_eq_some_iff]at e1
    obtain⟨d',e1,rfl⟩:=e1
    exact aaT (h5 j d' v e1 e2)
   |none=>
    obtain⟨h1,h2,h3⟩:=uo o (List.getElem?_eq_some_iff.1 A7).1 hp
    rw[h3]at A7
    obtain⟨vs,T,g1,g2,g3,g4⟩:=r.obj o ds A7
    exact⟨vs,T,by rw[Wo o hp];exact g1.keep (Wp o h1 h2).1,g2,⟨g3.1,by rw[show M2.ty o=M.ty o from congrArg (fun x=>x.2.ty?) (Wo o hp)];exact g3.2⟩,fun j d v e1 e2=>(g4 j d v e1 e2).mono le⟩
  ·cases hp:posOf lP o with
   |some i=>
    have hi:=iP hp
    rw[mo i o hi, ← mG];exact r'.jK i (fo i o hi).2.2.1 off
   |none=>
    obtain⟨h1,h2,h3⟩:=uo o hD hp
    rw[IJ o hp, ← mG,(Wp o h1 h2).2 off];exact r.jK o h1 off
  ·cases hp:posOf lP o with
   | some i=>
    have hi:=iP hp
    rw[mo i o hi]at heq
    cases mT:posOf lP o' with
    |some i'=>
     have gY:=iP mT
     rw[mo i' o' gY]at heq
     have:=r'.inj i i' (fo i o hi).2.2.1 (fo i' o' gY).2.2.1 heq
     subst this
     rw[hi]at gY;cases gY;rfl
    | none=>
     obtain⟨h1,h2,_⟩:=uo o' Ac mT
     rw[IJ o' mT]at heq
     rcases Wq i o hi with ⟨h3,h4,h5⟩|h3
     ·rw [h5]at heq
      have:=r.inj o o' h3 h1 heq
      subst this;exact(h2 h4).elim
     ·have:=r.qk h1;omega
   | none=>
    obtain⟨h1,h2,_⟩:=uo o hD hp
    rw[IJ o hp]at heq
    cases mT:posOf lP o' with
    | some i'=>
     have gY:=iP mT
     rw[mo i' o' gY]at heq
     rcases Wq i' o' gY with ⟨h3,h4,h5⟩|h3
     ·rw [h5]at heq
      have:=r.inj o o' h1 h3 heq
      subst this;exact(h2 h4).elim
     ·have:=r.qk h1;omega
    |none=>
     obtain⟨sa,_,_⟩:=uo o' Ac mT
     rw[IJ o' mT]at heq
     exact r.inj o o' h1 sa heq
  ·rcases lv t ⟨n,hn⟩with ⟨i,hi,hl⟩ | ⟨hp,hl,nU⟩
   ·rw [mt i t hi, ← mG]
    exact r'.tok i n (by rw[← (ft i t hi).2.1];exact hn)
   ·obtain⟨_,_,h3⟩:=ut t (List.getElem?_eq_some_iff.1 hn).1 hp
    rw[h3]at hn
    rw[IK t hp]
    rcases r.tok t n hn with h4|⟨b,cap,size,vs,T,g1,g2,g3,g4,g5⟩
    ·exact .inl h4
    ·obtain⟨k1,k2⟩:=aeZ t b cap size hl nU g1
     exact .inr ⟨b,cap,size,vs,T,g1,by rw[k1];exact g2,g3,g4,fun off ho=>by rw[← mG,k2 off];exact g5.1 off ho,g5.2⟩
  ·rcases lv t hl with ⟨i,hi,l6⟩ | ⟨hp,l6,nU⟩
   ·rw [mt i t hi]at hb
    cases IL:posOf lP o with
    |some j=>
     have hj:=iP IL
     rw[mo j o hj]
     exact r'.ff i b c z j l6 hb (fo j o hj).2.2.1
    |none=>
     obtain⟨h1,h2,_⟩:=uo o hD IL
     rw[IJ o IL]
     rcases Wr i t b c z hi l6 hb with ⟨h3,_,c',z',h4⟩|h3
     ·exact r.ff t b c' z' o h3 h4 h1
     ·have:=r.qk h1;omega
   ·rw [IK t hp]at hb
    cases IL:posOf lP o with
    |some j=>
     have hj:=iP IL
     rw[mo j o hj]
     rcases Wq j o hj with ⟨h3,_,h5⟩|h3
     ·rw[h5];exact r.ff t b c z o l6 hb h3
     ·have:=r.sE l6 hb;omega
    |none=>
     obtain⟨h1,_,_⟩:=uo o hD IL
     rw[IJ o IL];exact r.ff t b c z o l6 hb h1
  ·rcases lv t hl with ⟨i,hi,Ae⟩ | ⟨hp,hD,nU⟩
   ·rw [mt i t hi]at hb
    rcases lv t' l6 with ⟨i',gY,Tt⟩|⟨mT,Ac,Ws⟩
    ·rw [mt i' t' gY]at rY
     have:=r'.fQ i i' b c z c' z' Ae Tt hb rY
     subst this
     rw[hi]at gY;cases gY;rfl
    ·rw [IK t' mT]at rY
     rcases Wr i t b c z hi Ae hb with ⟨h3,h4,c2,z2,h5⟩|h3
     ·have:=r.fQ t t' b c2 z2 c' z' h3 Ac h5 rY
      subst this;exact(Ws h4).elim
     ·have:=r.sE Ac rY;omega
   ·rw [IK t hp]at hb
    rcases lv t' l6 with ⟨i',gY,Tt⟩|⟨mT,Ac,Ws⟩
    ·rw [mt i' t' gY]at rY
     rcases Wr i' t' b c' z' gY Tt rY with ⟨h3,h4,c2,z2,h5⟩|h3
     ·have:=r.fQ t t' b c z c2 z2 hD h3 hb h5
      subst this;exact(nU h4).elim
     ·have:=r.sE hD hb;omega
    ·rw [IK t' mT]at rY
     exact r.fQ t t' b c z c' z' hD Ac hb rY
end Go.Abs
namespace Go.Abs
def Wk (d d':D):Prop:=∀ (M:Map) (s:St) (v:Value),RD M s d v→RD M s d' v
inductive ju:List D→List D→Prop where
 |nil:ju [] []
 |cons {d d':D} {l l':List D} (h:Wk d d') (t:ju l l'):ju (d::l) (d'::l')
inductive gy:List (List D)→List (List D)→Prop where
 |nil:gy [] []
 |cons {r r':List D} {l l':List (List D)} (h:ju r r') (t:gy l l'):gy (r::l) (r'::l')
theorem Wk.refl (d:D):Wk d d:=fun _ _ _ h=>h
theorem Wk.trans {a b c:D} (h:Wk a b) (k:Wk b c):Wk a c:=fun M s v r=>k M s v (h M s v r)
theorem Wk.junk (d:D):Wk d .junk:=fun _ _ v _=> .junk v
theorem ju.refl : ∀ l,ju l l
 | []=> .nil
 |d::l=> .cons (Wk.refl d) (ju.refl l)
theorem gy.refl : ∀ l,gy l l
 | []=> .nil
 |d::l=> .cons (ju.refl d) (gy.refl l)
theorem ju.len {l l':List D} (h:ju l l'):l.length=l'.length:=by
 induction h with
 |nil=>rfl
 |cons _ _ ih=>simp[ih]
theorem gy.len {l l':List (List D)} (h:gy l l'):l.length=l'.length:=by
 induction h with
 |nil=>rfl
 |cons _ _ ih=>simp[ih]
theorem ju.get {l l':List D} (h:ju l l') : ∀ {i:Nat} {d':D},l'[i]? = some d'→∃ d,l[i]? = some d∧Wk d d':=by
 induction h with
 |nil=>intro i d' e;simp at e
 |cons hd _ ih=>
  intro i d' e
  cases i with
  |zero=>simp at e;subst e;exact⟨_,rfl,hd⟩
  |succ i=>simp at e;simpa using ih e
theorem gy.get {l l':List (List D)} (h:gy l l') : ∀ {i:Nat} {d':List D},l'[i]? = some d'→∃ d,l[i]? = some d∧ju d d':=by
 induction h with
 |nil=>intro i d' e;simp at e
 |cons hd _ ih=>
  intro i d' e
  cases i with
  |zero=>simp at e;subst e;exact⟨_,rfl,hd⟩
  |succ i=>simp at e;simpa using ih e
theorem ju.append {a a' b b':List D} (h:ju a a') (k:ju b b'):ju (a++b) (a'++b'):=by
 induction h with
 |nil=>exact k
 |cons hd _ ih=>exact .cons hd ih
theorem gy.append {a a' b b':List (List D)} (h:gy a a') (k:gy b b'):gy (a++b) (a'++b'):=by
 induction h with
 |nil=>exact k
 |cons hd _ ih=>exact .cons hd ih
theorem Wk.agg {l l':List D} (h:ju l l'):Wk (.agg l) (.agg l'):=by
 intro M s v r
 cases r with
 |agg _ vs hl h1 hr=>
  refine .agg _ vs (by rw[← hl,h.len]) h1 fun i d' u e e2=>?_
  obtain⟨d,e1,hw⟩:=h.get e
  exact hw M s u (hr i d u e1 e2)
theorem Wk.tuple {l l':List D} (h:ju l l'):Wk (.tuple l) (.tuple l'):=by
 intro M s v r
 cases r with
 |tuple _ vs hl hr=>
  refine .tuple _ vs (by rw[← hl,h.len]) fun i d' u e e2=>?_
  obtain⟨d,e1,hw⟩:=h.get e
  exact hw M s u (hr i d u e1 e2)
theorem Wk.rows {g:Tag} {z:Nat} {l l':List (List D)} (h:gy l l'):Wk (.slice g z l) (.slice g z l'):=by
 intro M s v r
 cases r with
 |iK _ _ cap hc ht=>cases h;exact .iK _ _ _ hc ht
 |lB _ a cap=>cases h;exact .lB _ a cap
 | slice _ _ _ b k cap hl hs h1 h2 ht=>
  rw[h.len]
  refine .slice g z l' b k cap (by rw[← h.len];exact hl) (fun row hm=>?_) (fun i row j d e e2=>?_) (fun i row j d u e e2 eu=>?_) (by rw[← h.len];exact ht)
  ·obtain⟨i,hi,he⟩:=List.mem_iff_getElem.1 hm
   obtain⟨r0,g1,g2⟩:=h.get (i:=i) (by rw[List.getElem?_eq_getElem hi,he])
   rw[← g2.len];exact hs r0 (List.mem_of_getElem? g1)
  ·obtain⟨r0,g1,g2⟩:=h.get e
   obtain⟨d0,g3,_⟩:=g2.get e2
   exact h1 i r0 j d0 g1 g3
  ·obtain⟨r0,g1,g2⟩:=h.get e
   obtain⟨d0,g3,g4⟩:=g2.get e2
   exact g4 M s u (h2 i r0 j d0 u g1 g3 eu)
theorem Wk.shared (g:Tag) (z:Nat) (l:List (List D)):Wk (.slice g z l) (.slice .shared z l):=by
 intro M s v r
 cases r with
 |iK _ _ cap hc ht=>exact .iK _ _ _ hc trivial
 |lB _ a cap=>exact .lB _ a cap
 |slice _ _ _ b k cap hl hs h1 h2 ht=>exact .slice _ _ _ b k cap hl hs h1 h2 trivial
theorem Wk.slice {g:Tag} {z:Nat} {l l':List (List D)} (h:gy l l'):Wk (.slice g z l) (.slice .shared z l'):=(Wk.shared g z l).trans (Wk.rows h)
theorem Wk.nil (g:Tag) (z z':Nat):Wk (.slice g z []) (.slice .shared z' []):=by
 intro M s v r
 cases r with
 |iK _ _ cap hc ht=>exact .iK _ _ _ hc trivial
 |lB _ a cap=>exact .lB _ a cap
 |slice _ _ _ b k cap hl hs h1 h2 ht=>exact .slice _ _ [] b k cap hl (by simp) (by simp) (by simp) trivial
theorem Wk.ajg (z z':Nat):Wk (.slice .full z []) (.slice .full z' []):=by
 intro M s v r
 cases r with
 |iK _ _ cap hc ht=>exact .iK _ _ _ hc ht
 |slice _ _ _ b k cap hl hs h1 h2 ht=>exact .slice _ _ [] b k cap hl (by simp) (by simp) (by simp) ht
theorem Rel.pR {M:Map} {s:St} {w:World} {ah:List (List D)} (r:Rel M s w) (h:gy s.ah ah):Rel M ⟨ah,s.aw⟩ w∧Le M s M ⟨ah,s.aw⟩:=by
 have le:Le M s M ⟨ah,s.aw⟩:=⟨fun _ _ _ h=>h,Nat.le_of_eq h.len,fun _ _=> .refl _,Nat.le_refl _,fun t n' _ e=>⟨n',e,Nat.le_refl _,fun _=>rfl⟩⟩
 have hl:=h.len
 refine⟨⟨r.comm,fun o ds e=>?_,fun o ho=>r.jK o (by rw[hl];exact ho),fun o o' ho nI=>r.inj o o' (by rw[hl];exact ho) (by rw[hl];exact nI),r.tok,
  fun t b c z o hv e ho=>r.ff t b c z o hv e (by rw[hl];exact ho),r.fQ⟩,le⟩
 obtain⟨ds0,g1,g2⟩:=h.get e
 obtain⟨vs,T,h1,h2,h3,h4⟩:=r.obj o ds0 g1
 refine⟨vs,T,h1,by rw[h2,g2.len],h3,fun i d v e1 e2=>?_⟩
 obtain⟨d0,k1,k2⟩:=g2.get e1
 exact(k2 _ _ _ (h4 i d0 v k1 e2)).mono le
theorem Rel.blank {M:Map} {s:St} {w:World} (r:Rel M s w) :
 Rel (M.eY s.aw.length none) {s with aw:=s.aw++ [some 0]} w∧Le M s (M.eY s.aw.length none) {s with aw:=s.aw++ [some 0]}:=by
 have iD : ∀ t,St.live {s with aw:=s.aw++ [some 0]} t→s.live t∨t=s.aw.length:=by
  rintro t ⟨k,hk⟩
  rcases Nat.lt_or_ge t s.aw.length with h|h
  ·rw[List.getElem?_append_left h]at hk;exact .inl ⟨k,hk⟩
  ·have:=(List.getElem?_eq_some_iff.1 hk).1
   simp at this;exact .inr (by omega)
 have hD : ∀ t,s.live t→t<s.aw.length:=fun t ⟨k,hk⟩=>(List.getElem?_eq_some_iff.1 hk).1
 have hold : ∀ t,t<s.aw.length→(M.eY s.aw.length none).be t=M.be t:=fun t h=>by simp[Map.eY];omega
 have dh:(M.eY s.aw.length none).be s.aw.length=none:=by simp[Map.eY]
 have le:Le M s (M.eY s.aw.length none) {s with aw:=s.aw++ [some 0]}:=
  ⟨fun _ _ _ h=>h,Nat.le_refl _,fun _ _=> .refl _,by simp,fun t k h e=>by
   rw[List.getElem?_append_left h]at e
   exact⟨k,e,Nat.le_refl _,fun _=>hold t h⟩⟩
 refine⟨⟨r.comm,fun o ds e=>?_,r.jK,r.inj,fun t k e=>?_,fun t b' c z o hl e nI=>?_,fun t t' b' c z c' z' h h' e e'=>?_⟩,le⟩
 ·obtain⟨fD,T',h3,h4,h5,h6⟩:=r.obj o ds e
  exact⟨fD,T',h3,h4,h5,fun i d v e1 e2=>(h6 i d v e1 e2).mono le⟩
 ·rcases Nat.lt_or_ge t s.aw.length with h | h
  ·rw [List.getElem?_append_left h]at e
   rw[hold t h];exact r.tok t k e
  ·have:=(List.getElem?_eq_some_iff.1 e).1
   simp at this
   have:t=s.aw.length:=by omega
   subst this
   simp at e;subst e
   exact .inl ⟨dh,rfl⟩
 ·rcases iD t hl with h | h
  ·rw[hold t (hD t h)]at e;exact r.ff t b' c z o h e nI
  ·subst h;rw[dh]at e;cases e
 ·rcases iD t h with h | h <;> rcases iD t' h' with h' | h'
  ·rw[hold t (hD t h)]at e;rw[hold t' (hD t' h')]at e';exact r.fQ t t' b' c z c' z' h h' e e'
  ·subst h';rw[dh]at e';cases e'
  ·subst h;rw[dh]at e;cases e
  ·omega
theorem RD.own {M:Map} {s:St} {z z':Nat} {v:Value} (h:RD M s (.slice .full z []) v):RD (M.eY s.aw.length none) {s with aw:=s.aw++ [some 0]} (.slice (.tok s.aw.length) z' []) v:=by
 have key : ∀ base:Option (Nat×Nat),iO (M.eY s.aw.length none) {s with aw:=s.aw++ [some 0]} (.tok s.aw.length) z' 0 base 0:=by
  intro base
  refine⟨by simp,fun n e=>?_⟩
  simp at e
  subst e
  exact⟨Nat.le_refl _,fun _=> .inl ⟨by simp[Map.eY],rfl,fun h=>by cases h⟩⟩
 cases h with
 |iK _ _ cap hc ht=>subst hc;exact .iK _ _ _ rfl (key none)
 |slice _ _ _ b k cap hl hs h1 h2 ht=>
  have:cap=0:=ht
  subst this
  exact .slice _ _ [] b k 0 (Nat.le_refl _) (by simp) (by simp) (by simp) (key _)
section
variable {P:Program} {B:fU} {nt:Nat} {Q:Exit→Tm→St→Prop} {tm:Tm} {s:St}
theorem Sem.wkO {ac:AC} (ah:List (List D)) (hw:gy s.ah ah) (h:Sem P B nt ac Q tm ⟨ah,s.aw⟩):Sem P B nt ac Q tm s:=by
 intro c hc act w ⟨M,e,r,ht,h1,h2⟩
 obtain⟨r',le⟩:=r.pR hw
 refine h c hc act w ⟨M,e.trans ⟨le,fun _ _ _ _=>rfl,fun o h1 h2=>?_,fun t b c z hl e=> .inl ⟨hl,c,z,e⟩,fun _ _ h=>(h rfl).elim,Nat.le_refl _,rfl,rfl,rfl⟩,r',fun k=>(ht k).mono le,h1,h2⟩
 simp only[← hw.len]at h2
 exact h1.elim (fun h1=>absurd h2 (Nat.not_lt.2 h1)) fun h1=>(h1 rfl).elim
theorem Gp {M0 M:Map} {s0 s:St} {w0 w:World} (e:Ext M0 s0 w0 M s w) (le:Le M s (M.eY s.aw.length none) {s with aw:=s.aw++ [some 0]}) :
 Ext M0 s0 w0 (M.eY s.aw.length none) {s with aw:=s.aw++ [some 0]} w:=by
 refine e.trans ⟨le,fun _ _ _ _=>rfl,fun o h1 h2=>h1.elim (fun h1=>absurd h2 (Nat.not_lt.2 h1)) (fun h1=>(h1 rfl).elim),fun t b c z hl eq=>?_,fun _ _ h=>(h rfl).elim,Nat.le_refl _,rfl,rfl,rfl⟩
 obtain⟨k,hk⟩:=hl
 rcases Nat.lt_or_ge t s.aw.length with h|h
 ·refine .inl ⟨⟨k,by rw [List.getElem?_append_left h]at hk;exact hk⟩,c,z, ?_⟩
  have:(M.eY s.aw.length none).be t=M.be t:=by simp[Map.eY];omega
  rw[← this];exact eq
 ·have:=(List.getElem?_eq_some_iff.1 hk).1
  simp at this
  have:t=s.aw.length:=by omega
  subst this
  simp[Map.eY]at eq
end
def aF (P:Program) (f:Nat) (args:List D) (s:St) (d:D) (s':St):Prop:=bM P f args s fun x y=>x=d∧y=s'
def pS (n m:Nat) (res:List (Nat×Option (Bool×Nat))) (d:D) (s':St):Exit→Tm→St→Prop
 | .normal,tm,s| .ret,tm,s=>∃ l,aU res tm s=some l∧Wk ((aV l).fg n m) d∧gy (s.cut n m).ah s'.ah∧(s.cut n m).aw=s'.aw
 |_,_,_=>False
theorem bM.pR {P:Program} {f:FuncId} {args Ec:List D} {s:St} {Q:D→St→Prop} (ha:ju args Ec) (h:bM P f Ec s Q):bM P f args s Q:=
 fun M w fI r kA hl hr=>h M w fI r kA (by rw[hl,ha.len]) fun i d v e1 e2=>by
  obtain⟨d0,g1,g2⟩:=ha.get e1
  exact g2 _ _ _ (hr i d0 v g1 e2)
theorem bM.HS {P:Program} {f:FuncId} {args:List D} {s:St} {Q Q':D→St→Prop} (h:bM P f args s Q) (hq : ∀ d s1,Q d s1→∃ d' s',Wk d d'∧gy s1.ah s'.ah∧s1.aw=s'.aw∧Q' d' s'):bM P f args s Q':=
 fun M w fI r kA hl ha=>(h M w fI r kA hl ha).mono fun _ _ ⟨M',d,v,s1,h1,h2,h3,h4,h5⟩=>by
  obtain⟨d',s',g1,g2,g3,g4⟩:=hq d s1 h2
  obtain⟨r',le⟩:=h4.pR g2
  have hs:(⟨s'.ah,s1.aw⟩:St)=s':=by rw[g3]
  rw[hs]at r' le
  refine⟨M',d',v,s',h1,g4,h3.trans ⟨le,fun _ _ _ _=>rfl,fun o h1 h2=>?_,fun t b c z hl e=> .inl ⟨by obtain⟨n,hn⟩:=hl;exact⟨n,by rw[g3];exact hn⟩,c,z,e⟩,fun _ _ h=>(h rfl).elim,Nat.le_refl _,rfl,rfl,rfl⟩,r',(g1 _ _ _ h5).mono le⟩
  rw[← g2.len]at h2
  exact h1.elim (fun h1=>absurd h2 (Nat.not_lt.2 h1)) fun h1=>(h1 rfl).elim
theorem aF.intro {P:Program} {f:FuncId} {af:AF} {args:List D} {s:St} {d:D} {s':St} (h0 : ∃ fn,P.funcs[f]? = some fn∧cF P fn=some af) (hl:args.length≤af.ntmps)
 (h : ∀ B:fU,B.s=s→Sem P B af.ntmps af.body (pS s.ah.length s.aw.length af.results d s') (mR 0 args) s):aF P f args s d s':=by
 obtain⟨fn,hf,hc⟩:=h0
 refine bM.HS (bM.intro (Q:=fun d1 s1=>Wk d1 d∧gy s1.ah s'.ah∧s1.aw=s'.aw) hf hc hl fun B hB=>(h B hB).mono fun e tm s1 hr=>?_) fun d1 s1 ⟨h1,h2,h3⟩=>⟨d,s',h1,h2,h3,rfl,rfl⟩
 subst hB
 cases e with
 |normal=>obtain⟨l,h1,h2,h3,h4⟩:=hr;exact⟨l,h1,_,_,Nat.le_refl _,Nat.le_refl _,h2,h3,h4⟩
 |ret=>obtain⟨l,h1,h2,h3,h4⟩:=hr;exact⟨l,h1,_,_,Nat.le_refl _,Nat.le_refl _,h2,h3,h4⟩
 |exit id=>exact hr.elim
 |goto l=>exact hr.elim
 |panic ch=>exact hr.elim
 |outgrown=>exact hr.elim
theorem aF.use {P:Program} {f:FuncId} {args:List D} {s:St} {d:D} {s':St} {Q:D→St→Prop} (h:aF P f args s d s') (hq:Q d s'):bM P f args s Q:=
 bM.mono h fun x y ⟨h1,h2⟩=>by subst h1;subst h2;exact hq
mutual
theorem qB (os ts:List Nat) : ∀ d,D.ok 0 0 d=true→D.cU os ts d=d
 | .junk,_=>by simp[D.cU]
 | .int k n,_=>by simp[D.cU]
 | .bool b,_=>by simp[D.cU]
 | .str l,_=>by simp[D.cU]
 | .dR,_=>by simp[D.cU]
 | .val v,_=>by simp[D.cU]
 | .fl T o,h=>by simp[D.ok]at h
 | .fP o,h=>by simp[D.ok]at h
 | .ep z o g len,h=>by simp[D.ok]at h
 | .fm o g off,h=>by simp[D.ok]at h
 | .ei z,_=>by simp[D.cU]
 | .gd f cs,h=>by
  simp only[D.ok]at h
  simp only[D.cU,fB os ts cs h]
 | .ptr o f,h=>by simp[D.ok]at h
 | .dv r f,h=>by
  simp only[D.ok]at h
  simp only[D.cU,fB os ts r h]
 | .slice g z rows,h=>by
  simp only[D.ok,Bool.and_eq_true]at h
  simp only[D.cU,jk os ts rows h.2]
  cases g with
  |tok t y=>simp[Tag.ok]at h
  |full=>rfl
  |shared=>rfl
 | .agg cs,h=>by
  simp only[D.ok]at h
  simp only[D.cU,fB os ts cs h]
 | .tuple cs,h=>by
  simp only[D.ok]at h
  simp only[D.cU,fB os ts cs h]
theorem fB (os ts:List Nat) : ∀ l,D.bL 0 0 l=true→D.e9 os ts l=l
 | [],_=>by simp[D.e9]
 |d::r,h=>by
  simp only[D.bL,Bool.and_eq_true]at h
  simp only[D.e9,qB os ts d h.1,fB os ts r h.2]
theorem jk (os ts:List Nat) : ∀ l,D.gS 0 0 l=true→D.nT os ts l=l
 | [],_=>by simp[D.nT]
 |d::r,h=>by
  simp only[D.gS,Bool.and_eq_true]at h
  simp only[D.nT,fB os ts d h.1,jk os ts r h.2]
end
mutual
theorem Ft {n m n' m':Nat} (hn:n≤n') (hm:m≤m') : ∀ d,D.ok n m d=true→D.ok n' m' d=true
 | .junk,_=>rfl
 | .int k n,_=>rfl
 | .bool b,_=>rfl
 | .str l,_=>rfl
 | .dR,_=>rfl
 | .val v,_=>rfl
 | .fl T o,h=>by simp[D.ok]at h ⊢;omega
 | .fP o,h=>by simp[D.ok]at h ⊢;omega
 | .ep z o g len,h=>by simp[D.ok]at h ⊢;omega
 | .fm o g off,h=>by simp[D.ok]at h ⊢;omega
 | .ei z,_=>rfl
 | .gd f cs,h=>by
  simp only[D.ok]at h ⊢
  exact iy hn hm cs h
 | .ptr o f,h=>by simp only[D.ok,decide_eq_true_eq]at h ⊢;omega
 | .dv r f,h=>by
  simp only[D.ok]at h ⊢
  exact iy hn hm r h
 | .slice g z rows,h=>by
  simp only[D.ok,Bool.and_eq_true]at h ⊢
  refine⟨?_,mA hn hm rows h.2⟩
  cases g with
  |tok t y=>simp only[Tag.ok,decide_eq_true_eq]at h ⊢;omega
  |full=>rfl
  |shared=>rfl
 | .agg cs,h=>by
  simp only[D.ok]at h ⊢
  exact iy hn hm cs h
 | .tuple cs,h=>by
  simp only[D.ok]at h ⊢
  exact iy hn hm cs h
theorem iy {n m n' m':Nat} (hn:n≤n') (hm:m≤m') : ∀ l,D.bL n m l=true→D.bL n' m' l=true
 | [],_=>rfl
 |d::r,h=>by
  simp only[D.bL,Bool.and_eq_true]at h ⊢
  exact⟨Ft hn hm d h.1,iy hn hm r h.2⟩
theorem mA {n m n' m':Nat} (hn:n≤n') (hm:m≤m') : ∀ l,D.gS n m l=true→D.gS n' m' l=true
 | [],_=>rfl
 |d::r,h=>by
  simp only[D.gS,Bool.and_eq_true]at h ⊢
  exact⟨iy hn hm d h.1,mA hn hm r h.2⟩
end
def S0:St:=⟨[],[]⟩
section
variable {P:Program} {f:Nat}
theorem aF.pure {args:List D} {d:D} (h:aF P f args S0 d S0) (ha:D.bL 0 0 args=true) (hd:D.ok 0 0 d=true) (s:St):aF P f args s d s:=by
 refine bM.frame [] [] h List.nodup_nil List.nodup_nil (by simp) (by simp) rfl (by simp) rfl (by simp) (by rw[fB _ _ _ ha]) ha ?_
 rintro _ _ ⟨rfl,rfl⟩
 refine⟨qB _ _ _ hd, ?_⟩
 simp[St.back,kF,S0]
theorem aF.Tv {args row kp:List D} {d:D} (h:aF P f (.ptr 0 0::args) ⟨[row],[]⟩ d ⟨[kp],[]⟩) (ha:D.bL 0 0 args=true) (hr:D.bL 0 0 row=true) (Qb:D.bL 0 0 kp=true) (hd:D.ok 0 0 d=true)
 {s:St} {o:Nat} (ho:s.ah[o]? = some row):aF P f (.ptr o 0::args) s d ⟨s.ah.set o kp,s.aw⟩:=by
 refine bM.frame [o] [] h (by simp) List.nodup_nil (by simpa using (List.getElem?_eq_some_iff.1 ho).1) (by simp) rfl (fun i o' ds e1 e2=>?_) rfl (by simp) (by simp[D.e9,D.cU,fB _ _ _ ha])
  (by simp[D.bL,D.ok,iy (Nat.zero_le 1) (Nat.le_refl 0) _ ha]) ?_
 ·cases i with
  |zero=>simp at e1 e2;subst e1;subst e2;exact⟨by rw[fB _ _ _ hr];exact ho,iy (Nat.zero_le 1) (Nat.le_refl 0) _ hr⟩
  |succ i=>simp at e1
 ·rintro _ _ ⟨rfl,rfl⟩
  refine⟨qB _ _ _ hd, ?_⟩
  simp[St.back,kF,fB _ _ _ Qb]
end
end Go.Abs
namespace Go.Abs
theorem X.bY {x:X} {tm bu:Tm} (h : ∀ t∈x.reads,tm.get t=bu.get t):x.ev tm=x.ev bu:=by
 cases x with
 |s t=>exact h t (by simp[X.reads])
 |k d=>rfl
theorem rp {t:Nat} {x:X} : ∀ {l:List X},x∈l→t∈x.reads→t∈oc l
 | [],h,_=>by cases h
 |y::r,h,ht=>by
  simp only[oc,List.mem_append]
  rcases List.mem_cons.1 h with rfl|h
  ·exact .inl ht
  ·exact .inr (rp h ht)
theorem wy {x:Option X} {tm bu:Tm} (h : ∀ t∈AR x,tm.get t=bu.get t):x.map (·.ev tm)=x.map (·.ev bu):=by
 cases x with
 |none=>rfl
 |some y=>simp only[Option.map_some];rw[X.bY h]
theorem CS {o:AO} {tm bu:Tm} {s:St} (h : ∀ t∈o.reads,tm.get t=bu.get t):aJ o tm s=aJ o bu s:=by
 cases o with
 |mv x=>
  have hx:x.ev tm=x.ev bu:=X.bY fun t ht=>h t (by simp[AO.reads,ht])
  simp only[aJ,hx]
 |pick c a b=>
  have hc:c.ev tm=c.ev bu:=X.bY fun t ht=>h t (by simp[AO.reads,ht])
  have ha:a.ev tm=a.ev bu:=X.bY fun t ht=>h t (by simp[AO.reads,ht])
  have hb:b.ev tm=b.ev bu:=X.bY fun t ht=>h t (by simp[AO.reads,ht])
  simp only[aJ,hc,ha,hb]
 |alloc z=>
  rfl
 |sX z T=>rfl
 |AN x T=>
  have hx:x.ev tm=x.ev bu:=X.bY fun t ht=>h t (by simp[AO.reads,ht])
  simp only[aJ,hx]
 |AP x y=>
  have hx:x.ev tm=x.ev bu:=X.bY fun t ht=>h t (by simp[AO.reads,ht])
  have hy:y.ev tm=y.ev bu:=X.bY fun t ht=>h t (by simp[AO.reads,ht])
  simp only[aJ,hx,hy]
 |apps x y=>
  have hx:x.ev tm=x.ev bu:=X.bY fun t ht=>h t (by simp[AO.reads,ht])
  have hy:y.ev tm=y.ev bu:=X.bY fun t ht=>h t (by simp[AO.reads,ht])
  simp only[aJ,hx,hy]
 |box x=>
  have hx:x.ev tm=x.ev bu:=X.bY fun t ht=>h t (by simp[AO.reads,ht])
  simp only[aJ,hx]
 |AH x=>
  have hx:x.ev tm=x.ev bu:=X.bY fun t ht=>h t (by simp[AO.reads,ht])
  simp only[aJ,hx]
 |load x g n=>
  have hx:x.ev tm=x.ev bu:=X.bY fun t ht=>h t (by simp[AO.reads,ht])
  simp only[aJ,hx]
 |store p x n=>
  have hp:p.ev tm=p.ev bu:=X.bY fun t ht=>h t (by simp[AO.reads,ht])
  have hx:x.ev tm=x.ev bu:=X.bY fun t ht=>h t (by simp[AO.reads,ht])
  simp only[aJ,hp,hx]
 |bS x=>
  have hx:x.ev tm=x.ev bu:=X.bY fun t ht=>h t (by simp[AO.reads,ht])
  simp only[aJ,hx]
 |bin op x y=>
  have hx:x.ev tm=x.ev bu:=X.bY fun t ht=>h t (by simp[AO.reads,ht])
  have hy:y.ev tm=y.ev bu:=X.bY fun t ht=>h t (by simp[AO.reads,ht])
  simp only[aJ,hx,hy]
 |Ga n x y=>
  have hx:x.ev tm=x.ev bu:=X.bY fun t ht=>h t (by simp[AO.reads,ht])
  have hy:y.ev tm=y.ev bu:=X.bY fun t ht=>h t (by simp[AO.reads,ht])
  simp only[aJ,hx,hy]
 |eqs n ks x y=>
  have hx:x.ev tm=x.ev bu:=X.bY fun t ht=>h t (by simp[AO.reads,ht])
  have hy:y.ev tm=y.ev bu:=X.bY fun t ht=>h t (by simp[AO.reads,ht])
  simp only[aJ,hx,hy]
 |Gb n x y=>
  have hx:x.ev tm=x.ev bu:=X.bY fun t ht=>h t (by simp[AO.reads,ht])
  have hy:y.ev tm=y.ev bu:=X.bY fun t ht=>h t (by simp[AO.reads,ht])
  simp only[aJ,hx,hy]
 |un op x=>
  have hx:x.ev tm=x.ev bu:=X.bY fun t ht=>h t (by simp[AO.reads,ht])
  simp only[aJ,hx]
 |conv k x=>
  have hx:x.ev tm=x.ev bu:=X.bY fun t ht=>h t (by simp[AO.reads,ht])
  simp only[aJ,hx]
 |DU x=>
  have hx:x.ev tm=x.ev bu:=X.bY fun t ht=>h t (by simp[AO.reads,ht])
  simp only[aJ,hx]
 |xO x=>
  have hx:x.ev tm=x.ev bu:=X.bY fun t ht=>h t (by simp[AO.reads,ht])
  simp only[aJ,hx]
 |aq x n=>
  have hx:x.ev tm=x.ev bu:=X.bY fun t ht=>h t (by simp[AO.reads,ht])
  simp only[aJ,hx]
 |AJ x n g m=>
  have hx:x.ev tm=x.ev bu:=X.bY fun t ht=>h t (by simp[AO.reads,ht])
  simp only[aJ,hx]
 |cm x i n=>
  have hx:x.ev tm=x.ev bu:=X.bY fun t ht=>h t (by simp[AO.reads,ht])
  have hi:i.ev tm=i.ev bu:=X.bY fun t ht=>h t (by simp[AO.reads,ht])
  simp only[aJ,hx,hi]
 |AL x i=>
  have hx:x.ev tm=x.ev bu:=X.bY fun t ht=>h t (by simp[AO.reads,ht])
  have hi:i.ev tm=i.ev bu:=X.bY fun t ht=>h t (by simp[AO.reads,ht])
  simp only[aJ,hx,hi]
 |ext x i=>
  have hx:x.ev tm=x.ev bu:=X.bY fun t ht=>h t (by simp[AO.reads,ht])
  simp only[aJ,hx]
 |len x=>
  have hx:x.ev tm=x.ev bu:=X.bY fun t ht=>h t (by simp[AO.reads,ht])
  simp only[aJ,hx]
 |vh x=>
  have hx:x.ev tm=x.ev bu:=X.bY fun t ht=>h t (by simp[AO.reads,ht])
  simp only[aJ,hx]
 |app a b x y=>
  have hx:x.ev tm=x.ev bu:=X.bY fun t ht=>h t (by simp[AO.reads,ht])
  have hy:y.ev tm=y.ev bu:=X.bY fun t ht=>h t (by simp[AO.reads,ht])
  simp only[aJ,hx,hy]
 |mm b x y=>
  have hx:x.ev tm=x.ev bu:=X.bY fun t ht=>h t (by simp[AO.reads,ht])
  have hy:y.ev tm=y.ev bu:=X.bY fun t ht=>h t (by simp[AO.reads,ht])
  simp only[aJ,hx,hy]
 | build z ps=>
  have hp:(ps.map fun p=>(p.1,p.2.1,p.2.2.ev tm))=ps.map fun p=>(p.1,p.2.1,p.2.2.ev bu):=List.map_congr_left fun p hp=>by
   have:p.2.2.ev tm=p.2.2.ev bu:=X.bY fun t ht=>h t (by simp only[AO.reads];exact rp (List.mem_map_of_mem hp) ht)
   rw[this]
  simp only[aJ,hp]
 | du z m n ps=>
  have hp:(ps.map fun p=>(p.1,p.2.ev tm))=ps.map fun p=>(p.1,p.2.ev bu):=List.map_congr_left fun p hp=>by
   have:p.2.ev tm=p.2.ev bu:=X.bY fun t ht=>h t (by simp only[AO.reads];exact rp (List.mem_map_of_mem hp) ht)
   rw[this]
  simp only[aJ,hp]
 | vg z m n ps=>
  have hp:(ps.map fun p=>(p.1,p.2.ev tm))=ps.map fun p=>(p.1,p.2.ev bu):=List.map_congr_left fun p hp=>by
   have:p.2.ev tm=p.2.ev bu:=X.bY fun t ht=>h t (by simp only[AO.reads];exact rp (List.mem_map_of_mem hp) ht)
   rw[this]
  simp only[aJ,hp]
 |CH n x lo hi=>
  have hx:x.ev tm=x.ev bu:=X.bY fun t ht=>h t (by simp[AO.reads,ht])
  have hl:lo.map (·.ev tm)=lo.map (·.ev bu):=wy fun t ht=>h t (by simp[AO.reads,ht])
  have hh:hi.map (·.ev tm)=hi.map (·.ev bu):=wy fun t ht=>h t (by simp[AO.reads,ht])
  simp only[aJ,hx,hl,hh]
 |H8 x lo hi=>
  have hx:x.ev tm=x.ev bu:=X.bY fun t ht=>h t (by simp[AO.reads,ht])
  have hl:lo.map (·.ev tm)=lo.map (·.ev bu):=wy fun t ht=>h t (by simp[AO.reads,ht])
  have hh:hi.map (·.ev tm)=hi.map (·.ev bu):=wy fun t ht=>h t (by simp[AO.reads,ht])
  simp only[aJ,hx,hl,hh]
 |uP f xs=>
  have hp:(xs.map fun x=>x.ev tm)=xs.map fun x=>x.ev bu:=List.map_congr_left fun x hx=>X.bY fun t ht=>h t (by simp only[AO.reads];exact rp hx ht)
  simp only[aJ,hp]
 |uQ=>rfl
 |yJ m k v=>
  have hm:m.ev tm=m.ev bu:=X.bY fun t ht=>h t (by simp[AO.reads,ht])
  have hk:k.ev tm=k.ev bu:=X.bY fun t ht=>h t (by simp[AO.reads,ht])
  have hv:v.ev tm=v.ev bu:=X.bY fun t ht=>h t (by simp[AO.reads,ht])
  simp only[aJ,hm,hk,hv]
 |AQ a b z l c=>
  have hl:l.ev tm=l.ev bu:=X.bY fun t ht=>h t (by simp[AO.reads,ht])
  have hk:c.ev tm=c.ev bu:=X.bY fun t ht=>h t (by simp[AO.reads,ht])
  simp only[aJ,hl,hk]
 |qX o x y=>
  have hx:x.ev tm=x.ev bu:=X.bY fun t ht=>h t (by simp[AO.reads,ht])
  have hy:y.ev tm=y.ev bu:=X.bY fun t ht=>h t (by simp[AO.reads,ht])
  simp only[aJ,hx,hy]
 |wg m k z=>
  have hm:m.ev tm=m.ev bu:=X.bY fun t ht=>h t (by simp[AO.reads,ht])
  have hk:k.ev tm=k.ev bu:=X.bY fun t ht=>h t (by simp[AO.reads,ht])
  simp only[aJ,hm,hk]
theorem KM {x d:D} {agg:Bool} {size:Nat} {s s':St} (h:yL x agg size s=some (d,s')):s'=s:=by
 unfold yL at h
 (repeat' (split at h))<;>first|(cases h;rfl)|cases h
theorem KN {o:AO} (ho:gI o.kind=false) {tm:Tm} {s s':St} {d:D} (h:aJ o tm s=some (d,s')):s'=s:=by
 cases o<;>simp only[AO.kind,gI]at ho<;>first|cases ho|skip
 all_goals
  simp only[aJ]at h
  first
   |(cases h;rfl)
   |(repeat' (split at h))<;>first|exact KM h|(cases h;rfl)|cases h
theorem Nd {o:AO} (ho:o.kind = .pure) {tm:Tm} {s s':St} : (aJ o tm s).map (·.1)=(aJ o tm s').map (·.1):=by
 cases o<;>simp only[AO.kind]at ho<;>first|cases ho|skip
 all_goals
  simp only[aJ]
  first
   |rfl
   |(repeat' split)<;>rfl
def jQ (ai:AI) (tm:Tm) (s:St):Option D:=
 match ai with
 | .op _ none o=>(aJ o tm s).map (·.1)
 | .op _ (some (t,want)) o=>
  match tm.get t with
  | .bool b=>if b=want then(aJ o tm s).map (·.1)else some (.tuple [])
  | .tuple _=>some (.tuple [])
  |_=>none
 |_=>none
def sI (P:Program) (ai:AI) (tm:Tm) (s:St) (d:D) (s':St):Prop:=
 match ai with
 | .op _ g o=>guarded g tm (aJ o tm s=some (d,s')) (d = .tuple []∧s'=s)
 | .call _ g f xs=>guarded g tm (bM P f (xs.map (·.ev tm)) s fun x y=>x=d∧y=s') (d = .tuple []∧s'=s)
 | .nil .. =>False
 | .jv .. =>False
def kS (P:Program) (is:List AI) (K:Tm→St→Prop):List (Nat×Nat)→List St→Tm→St→Prop
 | [],_,tm,s=>K tm s
 | (q,b)::r,bF,tm,s=>
  match is[q]? with
  |none=>False
  |some ai=>
   match gI ai.kind with
   |true=>∃ d s',sI P ai tm s d s'∧kS P is K r (s::bF) (tm.put ai.dst d) s'
   |false=>∃ d,jQ ai tm s=some d∧(ai.kind = .load→∀ s'∈bF.take b,jQ ai tm s'=some d)∧kS P is K r bF (tm.put ai.dst d) s
def Tm.eqv (a b:Tm):Prop:=∀ t,a.get t=b.get t
theorem Tm.lz (tm:Tm) (dst:Option Nat) (d:D) (t:Nat):(tm.put dst d).get t=if dst=some t then d else tm.get t:=by
 cases dst with
 |none=>simp[Tm.put]
 |some u=>
  simp only[Tm.put,Tm.Fk,Option.some.injEq]
  by_cases h:t=u
  ·subst h;simp
  ·rw[if_neg h,if_neg (fun e=>h e.symm)]
theorem Tm.eqv.put {a b:Tm} (h:a.eqv b) (dst:Option Nat) (d:D):(a.put dst d).eqv (b.put dst d):=fun t=>by
 rw[Tm.lz,Tm.lz,h t]
theorem Tm.IM (tm:Tm) {x y:Option Nat} (h : ∀ t,x=some t→y≠some t) (d e:D):((tm.put x d).put y e).eqv ((tm.put y e).put x d):=fun t=>by
 simp only[Tm.lz]
 by_cases h1:x=some t
 ·simp only[h1,h t h1,if_true,if_false]
 ·simp only[h1,if_false]
theorem Af {g:Option (Nat×Bool)} {tm bu:Tm} {A A' C:Prop} (h : ∀ t∈vi g,tm.get t=bu.get t) (ha:A→A') (hh:guarded g tm A C):guarded g bu A' C:=by
 cases g with
 |none=>exact ha hh
 | some p=>
  obtain⟨t,want⟩:=p
  unfold guarded at *
  simp only at *
  rw[← h t (by simp[vi])]
  split
  ·rename_i b hb
   rw[hb]at hh
   exact⟨fun e=>ha (hh.1 e),hh.2⟩
  ·rename_i hb
   rw[hb]at hh
   exact hh
  ·rename_i x h1 h2
   split at hh
   ·exact h1 _ ‹_›
   ·exact h2 _ ‹_›
   ·exact hh
theorem Gq {tm bu:Tm} : ∀ {l:List X},(∀ t∈oc l,tm.get t=bu.get t)→l.map (·.ev tm)=l.map (·.ev bu)
 | [],_=>rfl
 |x::r,h=>by
  simp only[List.map_cons]
  rw[X.bY fun t ht=>h t (by simp[oc,ht]),Gq (l:=r) fun t ht=>h t (by simp[oc,ht])]
theorem xi {P:Program} {ai:AI} {tm bu:Tm} {s s':St} {d:D} (h : ∀ t∈ai.reads,tm.get t=bu.get t) (hh:sI P ai tm s d s'):sI P ai bu s d s':=by
 cases ai with
 |op dst g o=>
  simp only[AI.reads,List.mem_append]at h
  exact Af (fun t ht=>h t (.inl ht)) (fun e=>by rw[← CS fun t ht=>h t (.inr ht)];exact e) hh
 |call dst g f xs=>
  simp only[AI.reads,List.mem_append]at h
  exact Af (fun t ht=>h t (.inl ht)) (fun e=>by rw[← Gq fun t ht=>h t (.inr ht)];exact e) hh
 |nil dst g n x=>exact hh
 |jv dst g t xs=>exact hh
theorem qR {ai:AI} {tm bu:Tm} {s:St} (h : ∀ t∈ai.reads,tm.get t=bu.get t):jQ ai tm s=jQ ai bu s:=by
 cases ai with
 | op dst g o=>
  simp only[AI.reads,List.mem_append]at h
  have he:=CS (s:=s) fun t ht=>h t (.inr ht)
  cases g with
  |none=>simp only[jQ,he]
  |some p=>
   obtain⟨t,want⟩:=p
   simp only[jQ,he,h t (.inl (by simp[vi]))]
 |call dst g f xs=>rfl
 |nil dst g n x=>rfl
 |jv dst g t xs=>rfl
theorem Lz {dst:Option Nat} {g:Option (Nat×Bool)} {o:AO} (h:gI (AI.op dst g o).kind=false):(AI.op dst g o).kind=o.kind:=by
 unfold AI.kind at *
 split at h
 ·cases h
 ·rename_i heq;cases heq;rfl
 ·cases h
theorem Tw {ai:AI} (hk:ai.kind = .pure) {tm:Tm} {s s':St} : jQ ai tm s=jQ ai tm s':=by
 cases ai with
 |op dst g o=>
  have ho:o.kind = .pure:=by rw[← hk];exact(Lz (by rw[hk];rfl)).symm
  have he:=Nd ho (tm:=tm) (s:=s) (s':=s')
  cases g with
  |none=>simp only[jQ,he]
  |some p=>simp only[jQ,he]
 |call dst g f xs=>rfl
 |nil dst g n x=>rfl
 |jv dst g t xs=>rfl
theorem apart_spec {a q:AI} (h:a.apart q=true):(∀ t,a.dst=some t→t∉q.reads)∧(∀ t,q.dst=some t→t∉a.reads)∧(∀ t,a.dst=some t→q.dst≠some t):=by
 unfold AI.apart at h
 simp only[Bool.and_eq_true]at h
 obtain⟨⟨h1,h2⟩,h3⟩:=h
 refine⟨fun t e=>?_,fun t e=>?_,fun t e e'=>?_⟩
 ·rw[e]at h1;simpa[DW]using h1
 ·rw[e]at h2;simpa[DW]using h2
 ·rw[e,e']at h3;simp at h3
theorem sJ {tm:Tm} {dst:Option Nat} {d:D} {l:List Nat} (h : ∀ t,dst=some t→t∉l) : ∀ t∈l,tm.get t=(tm.put dst d).get t:=fun t ht=>by
 rw[Tm.lz,if_neg fun e=>h t e ht]
section
variable {P:Program} {is:List AI} {K:Tm→St→Prop}
theorem sK (hK : ∀ tm bu s,Tm.eqv tm bu→K tm s→K bu s) : ∀ (R:List (Nat×Nat)) (bF:List St) (tm bu:Tm) (s:St),tm.eqv bu→kS P is K R bF tm s→kS P is K R bF bu s
 | [],_,tm,bu,s,e,h=>hK tm bu s e h
 | (q,b)::R,bF,tm,bu,s,e,h=>by
  unfold kS at *
  split at h
  ·exact h.elim
  ·rename_i ai wx
   split at h
   ·rename_i hc
    obtain⟨d,s',h1,h2⟩:=h
    exact⟨d,s',xi (fun t _=>e t) h1,sK hK R _ _ _ _ (e.put _ d) h2⟩
   ·rename_i hc
    obtain⟨d,h1,h2,h3⟩:=h
    refine⟨d, ?_,fun hl s' mZ=>?_,sK hK R _ _ _ _ (e.put _ d) h3⟩
    ·rw[← qR fun t _=>e t];exact h1
    ·rw[← qR fun t _=>e t];exact h2 hl s' mZ
theorem IN (i:Nat) (l:List Nat):jG is (i::l)=(if gI (jw is i)then 1 else 0)+jG is l:=by
 unfold jG
 rw[List.filter_cons]
 split<;>simp<;>omega
theorem xj (hK : ∀ tm bu s,Tm.eqv tm bu→K tm s→K bu s) {q b:Nat} {ai:AI} (hq:is[q]? = some ai) (hm:gI ai.kind=false) (Y:List (Nat×Nat)) :
 ∀ (X:List (Nat×Nat)) (bF:List St) (tm:Tm) (s:St),(∀ a∈X,ln is a.1 q=true)→(ai.kind = .load→jG is (X.map (·.1))≤b)→
  kS P is K (X++(q,b)::Y) bF tm s→
  ∃ d,jQ ai tm s=some d∧(ai.kind = .load→∀ s'∈bF.take (b - jG is (X.map (·.1))),jQ ai tm s'=some d)∧kS P is K (X++Y) bF (tm.put ai.dst d) s
 | [],bF,tm,s,_,_,h=>by
  simp only[List.nil_append,kS,hq,hm]at h
  obtain⟨d,h1,h2,h3⟩:=h
  exact⟨d,h1,fun hl s' mZ=>h2 hl s' (by simpa[jG]using mZ),h3⟩
 | (a,c)::X,bF,tm,s,eK,hb,h=>by
  have Nf:=eK (a,c) (by simp)
  unfold ln at Nf
  split at Nf
  ·rename_i ia iq hia uF
   rw[hq]at uF
   cases uF
   obtain⟨p1,p2,p3⟩:=apart_spec Nf
   have Qk:jw is a=ia.kind:=by simp[jw,hia]
   have HQ : ∀ x∈X,ln is x.1 q=true:=fun x hx=>eK x (List.mem_cons_of_mem _ hx)
   rw[List.map_cons,IN,Qk]at hb ⊢
   simp only[List.cons_append,kS,hia]at h ⊢
   cases hc:gI ia.kind
   ·simp only [hc,Bool.false_eq_true,if_false,Nat.zero_add]at h hb ⊢
    obtain⟨d,h1,h2,h3⟩:=h
    obtain⟨e,g1,g2,g3⟩:=xj hK hq hm Y X bF _ s HQ hb h3
    have cg : ∀ s,jQ ai tm s=jQ ai (tm.put ia.dst d) s:=fun s=>qR (sJ p1)
    have cg' : ∀ s,jQ ia tm s=jQ ia (tm.put ai.dst e) s:=fun s=>qR (sJ p2)
    refine⟨e,by rw[cg];exact g1,fun hl s' mZ=>by rw[cg];exact g2 hl s' mZ,d,by rw[← cg'];exact h1,fun hl s' mZ=>by rw[← cg'];exact h2 hl s' mZ, ?_⟩
    exact sK hK _ _ _ _ _ (Tm.IM tm p3 d e) g3
   ·simp only [hc,if_true]at h hb ⊢
    obtain⟨d,s1,h1,h3⟩:=h
    obtain⟨e,g1,g2,g3⟩:=xj hK hq hm Y X (s::bF) _ s1 HQ (fun hl=>by have:=hb hl;omega) h3
    have cg : ∀ s,jQ ai tm s=jQ ai (tm.put ia.dst d) s:=fun s=>qR (sJ p1)
    have qm:jQ ai tm s=some e:=by
     cases hk:ai.kind with
     |pure=>rw[cg,Tw hk (s':=s1)];exact g1
     |load=>
      have:=hb hk
      rw[cg]
      refine g2 hk s ?_
      rw[show b - jG is (X.map (·.1))=(b - (1+jG is (X.map (·.1))))+1 by omega,List.take_succ_cons]
      exact List.mem_cons_self
     |alloc=>rw[hk]at hm;cases hm
     |core=>rw[hk]at hm;cases hm
    refine⟨e,qm,fun hl s' mZ=>?_,d,s1,xi (sJ p2) h1,sK hK _ _ _ _ _ (Tm.IM tm p3 d e) g3⟩
    have:=hb hl
    rw[cg]
    refine g2 hl s' ?_
    rw[show b - jG is (X.map (·.1))=(b - (1+jG is (X.map (·.1))))+1 by omega,List.take_succ_cons]
    exact List.mem_cons_of_mem _ mZ
  ·cases Nf
end
end Go.Abs
namespace Go.Abs
section
variable {P:Program}
theorem Qy {o:Oper} {z:List D} (h:DY P o=some (.alloc z)) : ∃ t,o.op = .alloc t∧zeroOf P t=some z:=by
 obtain⟨dst,op,type,pos,after,guard⟩:=o
 unfold DY at h
 simp only at h
 split at h
 case h_4 t=>
  split at h
  ·obtain⟨z',h1,h2⟩:=map_some h;cases h2
  ·obtain⟨z',h1,h2⟩:=map_some h;cases h2;exact⟨t,rfl,h1⟩
 all_goals
  first
   |(rw[Option.map_eq_some_iff]at h;obtain⟨_,_,h⟩:=h;cases h)
   |skip
 all_goals
  (repeat' (split at h))<;>first|(cases h;done)|(rw[Option.map_eq_some_iff]at h;obtain⟨_,_,h⟩:=h;cases h)
theorem Be {nt:Nat} {ops:Array Oper} {o:Oper} {ai:AI} (h:cI P nt ops o=some ai) :
 ∃ g,vj ops o.guard=some g∧(∀ t,o.dst=some t→t<nt)∧sD P ops o g=some ai:=by
 have h2:=x9 h
 unfold cI at h
 split at h
 ·cases h
 ·rename_i g hg
  split at h
  ·exact⟨g,hg,h2,h⟩
  ·cases h
theorem ti {ops:Array Oper} {o:Oper} {g:Option (Nat×Bool)} {ai:AI} (h:sD P ops o g=some ai):ai.dst=o.dst:=by
 unfold sD at h
 split at h
 ·split at h
  ·obtain⟨xs,_,rfl⟩:=map_some h;rfl
  ·cases h
 ·obtain⟨xs,_,rfl⟩:=map_some h;rfl
 ·split at h
  ·cases h;rfl
  ·split at h
   ·cases h;rfl
   ·cases h;rfl
   ·cases h
theorem tj {nt:Nat} {ops:Array Oper} {o:Oper} {ai:AI} (h:cI P nt ops o=some ai):ai.dst=o.dst:=by
 obtain⟨g,_,_,h⟩:=Be h
 exact ti h
theorem xk {nt:Nat} {ops:Array Oper} {i:Nat} {o:Oper} {ai:AI} (hi:ops[i]? = some o) (hc:cI P nt ops o=some ai)
 {M:Map} {s:St} {w:World} {tm:Tm} {act:Act} (r:Rel M s w) (kA:Laid M s w) (ht:l5 M s tm act.tmps) {K':Tm→St→Prop} (h:iY P [ai] K' tm s)
 {K:Act→World→Prop} {Q:Exit→Act→World→Prop}
 (hK : ∀ d v s1 w1 M1,K' (tm.put ai.dst d) s1→Ext M s w M1 s1 w1→Rel M1 s1 w1→RD M1 s1 d v→K (act.put o.dst v) w1):wpOp P ops Q i K act w:=by
 obtain⟨g,hg,_,hb⟩:=Be hc
 rw[ti hb]at hK
 simp only[wpOp,hi]
 have skip:K' (tm.put o.dst (.tuple [])) s→K (act.put o.dst Go.undef) w:=fun hk=>hK _ _ _ _ _ hk (Ext.refl M s w) r .undef
 unfold sD at hb
 split at hb
 ·rename_i f args mK mJ
  split at hb
  ·rename_i yV
   obtain⟨xs,oM,rfl⟩:=map_some hb
   simp only[iY]at h
   rcases kj hg ht h with ⟨hw,hA⟩|⟨hw,hB⟩
   ·simp only [hw,if_true]
    left
    have hex:(execOp act.eval o).run P w = .ok (.enter f (args.map act.eval)) w:=by
     obtain⟨dst,op,type,pos,after,guard⟩:=o
     simp only at mJ
     subst mJ
     exact xf act.eval dst f args mK type pos after guard rfl yV w
    obtain⟨c1,c2⟩:=wv ht oM
    unfold Oper.wp
    rw[hex,Oper.upon_enter]
    refine(hA M w (args.map act.eval) r kA (by simp[c1]) (fun i d v e1 e2=>c2 i d v e1 (by simpa using e2))).mono ?_
    rintro en w' ⟨M',d,v,s',rfl,hk,e',r',hv⟩
    exact hK _ _ _ _ _ hk e' r' hv
   ·simp only [hw]
    exact skip hB
  ·cases hb
 ·rename_i t args mK mJ
  obtain⟨xs,oM,rfl⟩:=map_some hb
  simp only[iY]at h
  rcases kj hg ht h with ⟨hw,hA⟩|⟨hw,hB⟩
  ·simp only [hw,if_true]
   left
   split at hA
   ·rename_i f nN oK
    obtain⟨yV,hA⟩:=hA
    have Qn:=ht t
    rw[oK]at Qn
    obtain⟨vs,oY,hlen,D9⟩:=Qn.Lu
    have hex:(execOp act.eval o).run P w = .ok (.enter f (args.map act.eval++vs)) w:=by
     obtain⟨dst,op,type,pos,after,guard⟩:=o
     simp only at mJ
     subst mJ
     exact A9 act.eval dst (.tmp t) f vs args mK type pos after guard oY yV w
    have cc:=Gm oM ht hlen D9
    unfold Oper.wp
    rw[hex,Oper.upon_enter]
    refine(hA M w (args.map act.eval++vs) r kA cc.1 cc.2).mono ?_
    rintro en w' ⟨M',d,v,s',rfl,hk,e',r',hv⟩
    exact hK _ _ _ _ _ hk e' r' hv
   ·exact hA.elim
  ·simp only [hw]
   exact skip hB
 ·split at hb
  ·rename_i neg x Di
   cases hb
   simp only[iY]at h
   rcases kj hg ht h with ⟨hw,hA⟩|⟨hw,hB⟩
   ·simp only [hw,if_true]
    left
    split at hA
    ·rename_i g' z rows hx
     obtain⟨b,hb,hex⟩:=Ab (w:=w) Di ht hx
     unfold Oper.wp
     rw[hex,Oper.upon_value]
     exact hK _ _ _ _ _ (hA b hb) (Ext.refl M s w) r (.bool _)
    ·exact hA.elim
   ·simp only [hw]
    exact skip hB
  ·have fin : ∀ ao,ai = .op o.dst g ao→(∀ d s',aJ ao tm s=some (d,s')→cQ P M s w (execOp act.eval o) d s')→
    (if Region.wanted o (yielded ops act.tmps)=true then o.wp P act w K Q∨(o.asks P act w∧LetsOut Q)else K (act.put o.dst Go.undef) w):=by
    intro ao wx hdo
    subst wx
    simp only[iY]at h
    rcases kj hg ht h with ⟨hw,hA⟩|⟨hw,hB⟩
    ·simp only [hw,if_true]
     left
     split at hA
     ·rename_i d s' qP
      obtain⟨v,w',M',dE,r',hv,e'⟩:=hdo d s' qP
      unfold Oper.wp
      rcases dE with dE|⟨dE,rfl⟩
      ·rw [dE,Oper.upon_value]
       exact hK _ _ _ _ _ hA e' r' hv
      ·rw [dE,Oper.upon_skip]
       exact hK _ _ _ _ _ hA e' r' hv
     ·exact hA.elim
    ·simp only [hw]
     exact skip hB
   split at hb
   ·rename_i z k n ps oe
    cases hb
    refine fin _ rfl (fun d s' qP=>?_)
    split at qP
    ·exact yU oe r ht qP
    ·exact sH oe r ht qP
   ·rename_i ao oe
    cases hb
    exact fin _ rfl (fun d s' qP=>sH oe r ht qP)
   ·cases hb
structure LA (M:Map) (s:St) (b:Nat):Prop where
 o : ∀ o,o<s.ah.length→M.mu o≠b
 t : ∀ t c z,s.live t→M.be t≠some (b,c,z)
 g : ∀ off,M.G b off=none
theorem LA.mono {M M':Map} {s s':St} {w w':World} {b:Nat} (h:LA M s b) (e:Ext M s w M' s' w') (hb:b<w.heap.size):LA M' s' b:=by
 refine⟨fun o ho=>?_,fun t c z hl he=>?_,fun off=>?_⟩
 ·rcases e.mo ho with ⟨h1,h2⟩ | h1
  ·rw[h2];exact h.o o h1
  ·omega
 ·rcases e.qu t b c z hl he with ⟨h1,c',z',h2⟩ | h1
  ·exact h.t t c' z' h1 h2
  ·omega
 ·by_cases hg:M'.G b off=M.G b off
  ·rw[hg];exact h.g off
  ·rcases e.se b off hg with h1 | ⟨t,c,z,h1,h2⟩
   ·omega
   ·exact(h.t t c z h1 h2).elim
theorem Rel.idle {M:Map} {s:St} {w:World} (r:Rel M s w) (x:Obj):Rel M s (w.alloc x)∧Ext M s w M s (w.alloc x)∧LA M s w.heap.size:=by
 refine⟨⟨fun b o v e=>?_,fun o ds e=>?_,r.jK,r.inj,fun t n e=>?_,r.ff,r.fQ⟩, ?_,⟨fun o ho=>?_,fun t c z hl e=>?_,fun off=>r.Mx (Nat.le_refl _) off⟩⟩
 ·obtain⟨h3,h4⟩:=r.comm b o v e
  refine⟨?_,h4⟩
  rw[World.cell?_alloc_lt]
  ·exact h3
  ·exact r.AW e
 ·obtain⟨vs,T,h3,h4,h5,h6⟩:=r.obj o ds e
  exact⟨vs,T,h3.keep (heap_alloc_old w _ _ h3.lt),h4,h5,h6⟩
 ·rcases r.tok t n e with h3 | ⟨b,cap,size,fD,T',h3,h4,h5⟩
  ·exact .inl h3
  ·exact .inr ⟨b,cap,size,fD,T',h3,by rw[heap_alloc_old w _ _ (kg h4)];exact h4,h5⟩
 ·exact⟨Le.refl M s,fun b hb _ _=>heap_alloc_old w _ b hb,fun o h3 h4=>by rcases h3 with h3|h3;omega;exact(h3 rfl).elim,fun t b c z h e=> .inl ⟨h,c,z,e⟩,fun _ _ h=>(h rfl).elim,by simp,rfl,rfl,rfl⟩
 ·have:=r.qk ho;omega
 ·have:=r.sE hl e;omega
theorem Rel.ae0 {M:Map} {s:St} {w:World} (r:Rel M s w) {B:fU} (e:Ext B.M B.s B.w M s w) {b:Nat} (u:LA M s b) (hb:B.w.heap.size≤b)
 (ds:List D) (vs:Array Value) (T:TypeId) (hh:w.heap[b]? = some (.cells vs T (0,0))) (hl:vs.size=ds.length) (h1 : ∀ v∈vs,v.oneCell'=true)
 (h2 : ∀ (i:Nat) (d:D) (v:Value),ds[i]? = some d→vs[i]? = some v→RD M s d v) :
 Rel (M.dL s.ah.length b) {s with ah:=s.ah++ [ds]} w∧Ext B.M B.s B.w (M.dL s.ah.length b) {s with ah:=s.ah++ [ds]} w∧
 Le M s (M.dL s.ah.length b) {s with ah:=s.ah++ [ds]}:=by
 have le:=sg (M:=M) s b ds
 have mW : ∀ o,o<s.ah.length→(M.dL s.ah.length b).mu o=M.mu o:=fun o ho=>congrArg Prod.fst (s5 M b .any ho)
 have dh:(M.dL s.ah.length b).mu s.ah.length=b:=by simp[Map.dL,Map.mu]
 refine⟨⟨r.comm,fun o nH e'=>?_,fun o ho off=>?_,fun o o' ho nI e'=>?_,r.tok,fun t b' c z o hl e' ho=>?_,r.fQ⟩, ?_,le⟩
 ·rcases Nat.lt_or_ge o s.ah.length with ho | ho
  ·rw [List.getElem?_append_left ho]at e'
   obtain⟨fD,T',h3,h4,h5,h6⟩:=r.obj o nH e'
   refine⟨fD,T', ?_,h4,⟨h5.1,by rw[le.ty o ho];exact h5.2⟩,fun i d v e1 e2=>(h6 i d v e1 e2).mono le⟩
   rw[s5 M b .any ho];exact h3
  ·rw [List.getElem?_append_right ho]at e'
   have:o=s.ah.length:=by
    have:=(List.getElem?_eq_some_iff.1 e').1
    simp at this;omega
   subst this
   simp at e';subst e'
   refine⟨vs,T, ?_,hl,⟨h1,fun T' h=>by simp[Map.dL,Map.ty,Ob.ty?]at h⟩,fun i d v e1 e2=>(h2 i d v e1 e2).mono le⟩
   have hl:(M.dL s.ah.length b).loc s.ah.length=(b, .any):=by simp[Map.dL]
   rw[hl];exact iC.of hh trivial
 ·simp at ho
  rcases Nat.lt_or_ge o s.ah.length with h3|h3
  ·rw[mW o h3];exact r.jK o h3 off
  ·have:o=s.ah.length:=by omega
   subst this
   rw[dh];exact u.g off
 ·simp at ho nI
  rcases Nat.lt_or_ge o s.ah.length with h3|h3<;>rcases Nat.lt_or_ge o' s.ah.length with h4|h4
  ·rw[mW o h3,mW o' h4]at e';exact r.inj o o' h3 h4 e'
  ·have:o'=s.ah.length:=by omega
   subst this
   rw[mW o h3,dh]at e'
   exact(u.o o h3 e').elim
  ·have:o=s.ah.length:=by omega
   subst this
   rw[mW o' h4,dh]at e'
   exact(u.o o' h4 e'.symm).elim
  ·omega
 ·simp at ho
  rcases Nat.lt_or_ge o s.ah.length with h3|h3
  ·rw[mW o h3];exact r.ff t b' c z o hl e' h3
  ·have:o=s.ah.length:=by omega
   subst this
   rw[dh]
   intro he
   subst he
   exact u.t t c z hl e'
 ·refine⟨e.le.trans le,e.kept,fun o h3 h4=> ?_,e.qu,e.se,e.size,e.os,e.tape,e.output⟩
  simp at h4
  rcases Nat.lt_or_ge o s.ah.length with h5|h5
  ·rw[mW o h5]at h3 ⊢;exact e.tQ o h3 h5
  ·have:o=s.ah.length:=by omega
   subst this
   rw[dh];exact hb
theorem KO {nt:Nat} {ops:Array Oper} {i:Nat} {o:Oper} {t:Nat} {z:List D} (hi:ops[i]? = some o) (hc:cI P nt ops o=some (.op (some t) none (.alloc z)))
 {w:World} {act:Act} {K:Act→World→Prop} {Q:Exit→Act→World→Prop}
 (hK : ∀ vs T,vs.size=z.length→(∀ v∈vs,v.oneCell'=true)→(∀ (M:Map) (s:St) (i:Nat) (d:D) (v:Value),z[i]? = some d→vs[i]? = some v→RD M s d v)→
  K (act.put (some t) (.pointer (some ⟨w.heap.size,0,none⟩))) (w.alloc (.cells vs T))):wpOp P ops Q i K act w:=by
 obtain⟨g,hg,_,hb⟩:=Be hc
 have qA:=ti hb
 simp only[AI.dst]at qA
 simp only[wpOp,hi]
 have mJ:g=none∧DY P o=some (.alloc z):=by
  unfold sD at hb
  split at hb
  ·split at hb
   ·obtain⟨xs,_,h⟩:=map_some hb;cases h
   ·cases hb
  ·obtain⟨xs,_,h⟩:=map_some hb;cases h
  ·split at hb
   ·cases hb
   ·split at hb
    ·rename_i oe
     simp only[Option.some.injEq,AI.op.injEq]at hb
     obtain⟨_,_,h⟩:=hb
     split at h<;>cases h
    ·rename_i ao oe
     simp only[Option.some.injEq,AI.op.injEq]at hb
     obtain⟨_,h1,h2⟩:=hb
     subst h2
     exact⟨h1,oe⟩
    ·cases hb
 obtain⟨rfl,oe⟩:=mJ
 obtain⟨T,hT,hz⟩:=Qy oe
 have hw:Region.wanted o (yielded ops act.tmps)=true:=by
  have:o.guard=none:=by
   cases Ge:o.guard with
   |none=>rfl
   |some p=>
    obtain⟨j,b⟩:=p
    rw[Ge]at hg
    unfold vj at hg
    simp only at hg
    split at hg<;>cases hg
  simp[Region.wanted,this]
 simp only[hw,if_true]
 left
 unfold zeroOf at hz
 split at hz
 ·rename_i inf M4
  split at hz
  ·rename_i v hv
   split at hz
   ·have dE:(execOp act.eval o).run P w = .ok (.value (.pointer (some ⟨w.heap.size,0,none⟩))) (w.alloc (.cells v.cells T)):=by
     obtain⟨dst,op,type,pos,after,guard⟩:=o
     simp only at hT
     subst hT
     simp[execOp,Instr.alloc,zeroValue,fS P M4,hv,newVar,newRow]
    have h3:=fun M s=>lu (M:=M) (s:=s) hz
    obtain⟨h1,h2,_⟩:=h3 ⟨fun _ _=>none,fun _=>(0, .any),fun _=>none⟩ ⟨[],[]⟩
    unfold Oper.wp
    rw[dE,Oper.upon_value, ← qA]
    exact hK _ _ (by rw[h1];simp) (fun u hu=>h2 u (by simpa using hu)) (fun M s i d u e1 e2=>(h3 M s).2.2 i d u e1 (by simpa using e2))
   ·cases hz
  ·cases hz
 ·cases hz
end
end Go.Abs
namespace Go.Abs
section
variable {is:List AI} {af pt:List (List Nat)}
theorem Ag {pq:List Nat} {l l':List Nat} (h:l'.Sublist l) (hb:ld is pq l=true):ld is pq l'=true:=by
 induction h with
 |slnil=>rfl
 |cons a h ih=>
  simp only[ld,Bool.and_eq_true]at hb
  exact ih hb.2
 |cons_cons a h ih=>
  simp only[ld,Bool.and_eq_true,Bool.or_eq_true]at hb ⊢
  refine⟨hb.1.imp id fun h1=>?_,ih hb.2⟩
  rw[List.all_eq_true]at h1 ⊢
  exact fun x hx=>h1 x (h.subset hx)
theorem Ca {f:Nat→Bool} {l l':List Nat} (h:l'.Sublist l) (ha:l.all f=true):l'.all f=true:=by
 rw[List.all_eq_true]at ha ⊢
 exact fun x hx=>ha x (h.subset hx)
theorem KP {l l':List Nat} (h:l'.Sublist l):jG is l'≤jG is l:=(h.filter _).length_le
theorem Ng {pre Fu:List Nat} {q b:Nat} (h:Fu.Sublist pre) (hs:oV is pt pre q b=true):oV is pt Fu q b=true:=by
 unfold oV at *
 split at hs
 ·exact Ca h hs
 ·exact Ca h hs
 ·simp only [Bool.and_eq_true]at hs ⊢
  exact⟨Ca h hs.1,Ag h hs.2⟩
 ·simp only [Bool.and_eq_true,decide_eq_true_eq]at hs ⊢
  exact⟨⟨Ca h hs.1.1,Ag h hs.1.2⟩,Nat.le_trans (KP (h.filter _)) hs.2⟩
theorem IP : ∀ {R:List (Nat×Nat)} {pre Fu:List Nat},Fu.Sublist pre→uB is af pt pre R=true→uB is af pt Fu R=true
 | [],_,_,_,_=>rfl
 |(q,b)::R,pre,Fu,h,ho=>by
  simp only[uB,Bool.and_eq_true,Bool.not_eq_true']at ho ⊢
  obtain⟨⟨⟨h1,h2⟩,h3⟩,h4⟩:=ho
  refine⟨⟨⟨Ng h h1, ?_⟩,h3⟩,IP (h.cons_cons q) h4⟩
  rw[← Bool.not_eq_true,List.contains_iff_mem]at h2 ⊢
  exact fun hm=>h2 (h.subset hm)
theorem Fv : ∀ {X:List (Nat×Nat)} {e:Nat×Nat} {Y:List (Nat×Nat)} {pre:List Nat},uB is af pt pre (X++e::Y)=true→uB is af pt pre (X++Y)=true
 | [],(q,b),Y,pre,h=>by
  simp only[List.nil_append,uB,Bool.and_eq_true]at h
  exact IP (List.sublist_cons_self q pre) h.2
 |(a,c)::X,e,Y,pre,h=>by
  simp only[List.cons_append,uB,Bool.and_eq_true]at h ⊢
  obtain⟨⟨⟨h1,h2⟩,h3⟩,h4⟩:=h
  refine⟨⟨⟨h1,h2⟩, ?_⟩,Fv h4⟩
  rw[List.all_eq_true]at h3 ⊢
  intro j hj
  have:=h3 j hj
  simp only[Bool.and_eq_true,Bool.not_eq_true']at this ⊢
  refine⟨this.1, ?_⟩
  have h5:=this.2
  rw[← Bool.not_eq_true,List.contains_iff_mem]at h5 ⊢
  refine fun hm=>h5 ?_
  simp only[List.map_append,List.map_cons,List.mem_append,List.mem_cons]at hm ⊢
  exact hm.imp id .inr
theorem tn : ∀ {X:List (Nat×Nat)} {q b:Nat} {Y:List (Nat×Nat)} {pre:List Nat},uB is af pt pre (X++(q,b)::Y)=true→
 oV is pt ((X.map (·.1)).reverse++pre) q b=true∧q∉X.map (·.1)∧q∉pre∧(∀ j∈gW af q,j≠q∧j∉Y.map (·.1))∧uB is af pt (q::((X.map (·.1)).reverse++pre)) Y=true
 | [],q,b,Y,pre,h=>by
  simp only[List.nil_append,uB,Bool.and_eq_true,Bool.not_eq_true']at h
  obtain⟨⟨⟨h1,h2⟩,h3⟩,h4⟩:=h
  rw[← Bool.not_eq_true,List.contains_iff_mem]at h2
  refine⟨h1,by simp,h2,fun j hj=>?_,h4⟩
  rw[List.all_eq_true]at h3
  have:=h3 j hj
  simp only[Bool.and_eq_true,bne_iff_ne,Bool.not_eq_true', ← Bool.not_eq_true,List.contains_iff_mem]at this
  exact this
 |(a,c)::X,q,b,Y,pre,h=>by
  simp only[List.cons_append,uB,Bool.and_eq_true]at h
  obtain⟨_,h4⟩:=h
  obtain⟨g1,g2,g3,g4,g5⟩:=tn h4
  simp only[List.map_cons,List.reverse_cons,List.append_assoc,List.singleton_append]
  refine⟨g1, ?_,fun h=>g3 (List.mem_cons_of_mem _ h),g4,g5⟩
  intro hm
  rcases List.mem_cons.1 hm with rfl|hm
  ·exact g3 (by simp)
  ·exact g2 hm
theorem Cb : ∀ {Y:List (Nat×Nat)} {pre:List Nat},uB is af pt pre Y=true→∀ x∈Y,x.1∉pre∧(jw is x.1 = .alloc→∀ a∈pre,ln is a x.1=true)
 | [],_,_,x,hx=>by cases hx
 | (q,b)::Y,pre,h,x,hx=>by
  simp only[uB,Bool.and_eq_true,Bool.not_eq_true']at h
  obtain⟨⟨⟨h1,h2⟩,_⟩,h4⟩:=h
  rw[← Bool.not_eq_true,List.contains_iff_mem]at h2
  rcases List.mem_cons.1 hx with rfl|hx
  ·refine⟨h2,fun hk a ha=> ?_⟩
   unfold oV at h1
   simp only[hk]at h1
   rw[List.all_eq_true]at h1
   exact h1 a ha
  ·obtain⟨g1,g2⟩:=Cb h4 x hx
   exact⟨fun h=>g1 (List.mem_cons_of_mem _ h),fun hk a ha=>g2 hk a (List.mem_cons_of_mem _ ha)⟩
theorem CT : ∀ {n:Nat},xP af pt n=true→∀ i,i<n→∀ j∈gW pt i,j∈gW af i∨∃ k∈gW af i,j∈gW pt k
 | 0,_,i,hi=>by omega
 | n+1,h,i,hi=>by
  simp only[xP,Bool.and_eq_true]at h
  rcases Nat.lt_or_ge i n with h1|h1
  ·exact CT h.2 i h1
  ·have:i=n:=by omega
   subst this
   intro j hj
   have:=h.1
   rw[List.all_eq_true]at this
   have:=this j hj
   simp only[Bool.or_eq_true,List.contains_iff_mem,List.any_eq_true]at this
   exact this
theorem ye {pq:List Nat} : ∀ {l:List Nat},ld is pq l=true→∀ (x:Nat) (l1 l2:List Nat),l=l1++x::l2→jw is x = .alloc→x∈pq→∀ y∈l2,y∈pq
 | [],_,x,l1,l2,h=>by simp at h
 | a::l,hb,x,l1,l2,h=>by
  simp only[ld,Bool.and_eq_true,Bool.or_eq_true,Bool.not_eq_true',Bool.and_eq_false_iff]at hb
  intro hk hx y hy
  cases l1 with
  | nil=>
   simp only[List.nil_append,List.cons.injEq]at h
   obtain⟨rfl,rfl⟩:=h
   rcases hb.1 with h1|h1
   ·rcases h1 with h1 | h1
    ·simp[hk]at h1
    ·rw [← Bool.not_eq_true,List.contains_iff_mem]at h1
     exact(h1 hx).elim
   ·rw [List.all_eq_true]at h1
    have:=h1 y hy
    rwa [List.contains_iff_mem]at this
  |cons b l1=>
   simp only[List.cons_append,List.cons.injEq]at h
   exact ye hb.2 x l1 l2 h.2 hk hx y hy
end
structure Pd where
 q:Nat
 t:Nat
 z:List D
 b:Nat
structure aaU (is:List AI) (R:List (Nat×Nat)) (B:fU) (M:Map) (s:St) (act:Act) (w:World) (p:Pd):Prop where
 mem:p.q∈R.map (·.1)
 ai:is[p.q]? = some (.op (some p.t) none (.alloc p.z))
 cells : ∃ (vs:Array Value) (T:TypeId),w.heap[p.b]? = some (.cells vs T (0,0))∧vs.size=p.z.length∧(∀ v∈vs,v.oneCell'=true)∧
  ∀ (M:Map) (s:St) (i:Nat) (d:D) (v:Value),p.z[i]? = some d→vs[i]? = some v→RD M s d v
 unk:LA M s p.b
 base:B.w.heap.size≤p.b
 slot:act.tmps.getD p.t Go.undef = .pointer (some ⟨p.b,0,none⟩)
def yZ (P:Program) (is:List AI) (K:Tm→St→Prop) (B:fU) (nt:Nat) (R:List (Nat×Nat)) (dZ:List Pd) (act:Act) (w:World):Prop:=
 ∃ (M:Map) (s:St) (tm tq:Tm) (bF:List St),Ext B.M B.s B.w M s w∧Rel M s w∧l5 M s tq act.tmps∧(∀ t,(∀ p∈dZ,p.t≠t)→tq.get t=tm.get t)∧
  act.tmps.size=nt∧act.defers = []∧kS P is K R bF tm s∧(∀ p∈dZ,aaU is R B M s act w p)∧
  (∀ p∈dZ,∀ p'∈dZ,p.q=p'.q∨p.t=p'.t∨p.b=p'.b→p=p')
structure rr (is:List AI) (af pt:List (List Nat)) (dr:Array Bool) (R:List (Nat×Nat)) (dZ:List Pd):Prop where
 ok:uB is af pt [] R=true
 Gr : ∀ i,i<is.length→(dr.getD i false=true↔(i∉R.map (·.1)∨∃ p∈dZ,p.q=i))
 cl : ∀ i,i<is.length→dr.getD i false=true→∀ j∈gW pt i,dr.getD j false=true
 size:dr.size=is.length
 lt : ∀ x∈R,x.1<is.length
section
variable {P:Program} {is:List AI} {af pt:List (List Nat)} {K:Tm→St→Prop} {B:fU} {nt:Nat}
theorem aaV {dr:Array Bool} {q b:Nat} {R:List (Nat×Nat)} {dZ:List Pd} {act:Act} {w:World} (hs:rr is af pt dr ((q,b)::R) dZ) (h:yZ P is K B nt ((q,b)::R) dZ act w)
 {p:Pd} (hp:p∈dZ) (uG:p.q=q) :
 rr is af pt dr R (dZ.filter fun p'=>decide (p'.q≠q))∧yZ P is K B nt R (dZ.filter fun p'=>decide (p'.q≠q)) act w:=by
 have gC : ∀ p',p'∈(dZ.filter fun p'=>decide (p'.q≠q))↔p'∈dZ∧p'.q≠q:=fun p'=>by simp
 constructor
 ·have pJ:=hs.ok
  have Dl:=tn (X:= []) pJ
  refine⟨Fv (X:= []) pJ,fun i hi=>?_,hs.cl,hs.size,fun x hx=>hs.lt x (List.mem_cons_of_mem _ hx)⟩
  rw[hs.Gr i hi]
  simp only[List.map_cons,List.mem_cons,not_or]
  have hqR:q∉R.map (·.1):=fun hm=>by
   obtain⟨x,hx,rfl⟩:=List.mem_map.1 hm
   exact(Cb Dl.2.2.2.2 x hx).1 (by simp)
  constructor
  ·rintro(⟨h1,h2⟩ | ⟨p',h1,h2⟩)
   ·exact .inl h2
   ·by_cases hq:i=q
    ·subst hq;exact .inl hqR
    ·exact .inr ⟨p',(gC p').2 ⟨h1,by rw[h2];exact hq⟩,h2⟩
  ·rintro(h1 | ⟨p',h1,h2⟩)
   ·by_cases hq:i=q
    ·subst hq;exact .inr ⟨p,hp,uG⟩
    ·exact .inl ⟨hq,h1⟩
   ·exact .inr ⟨p',((gC p').1 h1).1,h2⟩
 ·obtain⟨M,s,tm,tq,bF,e,r,ht,qm,hn,hd,hg,wz,sL⟩:=h
  have hk:=wz p hp
  obtain⟨vs,T,hh,hl,h1,h2⟩:=hk.cells
  have wx:=hk.ai
  rw[uG]at wx
  simp only[kS,wx,AI.kind,gI]at hg
  obtain⟨d,s',ji,hg⟩:=hg
  have qP:aJ (.alloc p.z) tm s=some (d,s'):=ji
  simp only[aJ,Option.some.injEq,Prod.mk.injEq]at qP
  obtain⟨rfl,rfl⟩:=qP
  obtain⟨r',e',le⟩:=r.ae0 e hk.unk hk.base p.z vs T hh hl h1 (h2 M s)
  refine⟨_,_,_,tq.put (some p.t) (.ptr s.ah.length 0),_,e',r',fun u=>?_,fun t LB=>?_,hn,hd,hg,fun p' mT=>?_,fun p1 h1 p2 h2=>sL p1 ((gC p1).1 h1).1 p2 ((gC p2).1 h2).1⟩
  ·rw [Tm.lz]
   split
   ·rename_i heq
    cases heq
    rw[hk.slot]
    have:(M.dL s.ah.length p.b).mu s.ah.length=p.b:=by simp[Map.dL,Map.mu]
    have h5:=RD.ptr (M:=M.dL s.ah.length p.b) (s:= {s with ah:=s.ah++ [p.z]}) s.ah.length 0 (by simp) (by simp[Map.dL,Map.ob,Ob.plain])
    rw[this]at h5
    exact h5
   ·exact(ht u).mono le
  ·simp only [AI.dst]
   rw[Tm.lz,Tm.lz]
   split
   ·rfl
   ·rename_i eJ
    refine qm t fun p' mT=>?_
    by_cases hq:p'.q=q
    ·have:=sL p' mT p hp (.inl (hq.trans uG.symm))
     subst this
     exact fun h=>eJ (by rw[h])
    ·exact LB p' ((gC p').2 ⟨mT,hq⟩)
  ·obtain⟨hp1,hp2⟩:=(gC p').1 mT
   have uA:=wz p' hp1
   refine⟨?_,uA.ai,uA.cells,⟨fun o ho=>?_,uA.unk.t,uA.unk.g⟩,uA.base,uA.slot⟩
   ·have:=uA.mem
    simp only[List.map_cons,List.mem_cons]at this
    exact this.resolve_left hp2
   ·simp at ho
    rcases Nat.lt_or_ge o s.ah.length with h5|h5
    ·rw[show(M.dL s.ah.length p.b).mu o=M.mu o from congrArg Prod.fst (s5 M p.b .any h5)];exact uA.unk.o o h5
    ·have:o=s.ah.length:=by omega
     subst this
     have:(M.dL s.ah.length p.b).mu s.ah.length=p.b:=by simp[Map.dL,Map.mu]
     rw[this]
     intro hb
     have:=sL p hp p' hp1 (.inr (.inr hb))
     subst this
     exact hp2 uG
theorem norm {dr:Array Bool} {act:Act} {w:World} : ∀ (R:List (Nat×Nat)) (dZ:List Pd),rr is af pt dr R dZ→yZ P is K B nt R dZ act w→
 ∃ R' wA,rr is af pt dr R' wA∧yZ P is K B nt R' wA act w∧∀ x l,R'=x::l→∀ p∈wA,p.q≠x.1
 | [],dZ,hs,h=>⟨[],dZ,hs,h,fun _ _ he=>by cases he⟩
 | (q,b)::R,dZ,hs,h=>by
  by_cases hp : ∃ p∈dZ,p.q=q
  ·obtain⟨p,hp,uG⟩:=hp
   obtain⟨h1,h2⟩:=aaV hs h hp uG
   exact norm R _ h1 h2
  ·refine⟨(q,b)::R,dZ,hs,h,fun x l he p hpm uG=>hp ⟨p,hpm, ?_⟩⟩
   cases he
   exact uG
theorem Wt {ops:Array Oper} {q:Nat} {o:Oper} {ai:AI} (hi:ops[q]? = some o) (hc:cI P nt ops o=some ai) {R R':List (Nat×Nat)} {dZ:List Pd} {act:Act} {w:World} {M:Map} {s s1:St} {tm tq:Tm} {d:D} {Wu:List St}
 (e:Ext B.M B.s B.w M s w) (r:Rel M s w) (ht:l5 M s tq act.tmps) (qm : ∀ t,(∀ p∈dZ,p.t≠t)→tq.get t=tm.get t) (hn:act.tmps.size=nt) (hd:act.defers = [])
 (wz : ∀ p∈dZ,aaU is R B M s act w p) (sL : ∀ p∈dZ,∀ p'∈dZ,p.q=p'.q∨p.t=p'.t∨p.b=p'.b→p=p')
 (hv:iY P [ai] (fun a b=>a=tq.put ai.dst d∧b=s1) tq s) (hg:kS P is K R' Wu (tm.put ai.dst d) s1)
 (gC : ∀ p∈dZ,p.q∈R'.map (·.1)) (qA : ∀ p∈dZ,ai.dst≠some p.t) {Q:Exit→Act→World→Prop} :
 wpOp P ops Q q (yZ P is K B nt R' dZ) act w:=by
 refine xk hi hc r (B.laid.ext e) ht hv fun d' v s2 w1 M1 hk e1 r1 jt=>?_
 obtain⟨wj,rfl⟩:=hk
 have hde:=tj hc
 have hD : ∀ t,o.dst=some t→t<act.tmps.size:=fun t h=>by rw[hn];exact x9 hc t h
 refine⟨M1,s2,tm.put ai.dst d,tq.put ai.dst d,Wu,e.trans e1,r1, ?_,fun t LB=>?_, ?_, ?_,hg,fun p hp=>?_,sL⟩
 ·rw [← wj,hde]
  exact(ht.mono e1.le).put hD jt
 ·rw[Tm.lz,Tm.lz,qm t LB]
 ·cases ho:o.dst<;>simp[Act.put,hn]
 ·cases ho:o.dst<;>simp[Act.put,hd]
 ·have hk:=wz p hp
  obtain⟨vs,T,hh,hl,h1,h2⟩:=hk.cells
  have hb:=kg hh
  refine⟨gC p hp,hk.ai,⟨vs,T,by rw[e1.kept p.b hb hk.unk.o hk.unk.t];exact hh,hl,h1,h2⟩,hk.unk.mono e1 hb,hk.base, ?_⟩
  rw[← hk.slot]
  have:=qA p hp
  rw[hde]at this
  cases ho:o.dst with
  |none=>rfl
  |some t=>
   rw[ho]at this
   have eJ:t≠p.t:=fun h=>this (by rw[h])
   simp[Act.put,Array.getElem?_setIfInBounds_ne eJ]
theorem Nh {ai:AI} (hm:gI ai.kind=false) {tm:Tm} {s:St} {d:D} (h:jQ ai tm s=some d):iY P [ai] (fun a b=>a=tm.put ai.dst d∧b=s) tm s:=by
 cases ai with
 | op dst g o=>
  have hko:=Lz hm
  have key : ∀ {d},(aJ o tm s).map (·.1)=some d→aJ o tm s=some (d,s):=by
   intro d h
   cases he:aJ o tm s with
   |none=>rw[he]at h;cases h
   |some p=>
    obtain⟨d',s'⟩:=p
    rw[he]at h
    simp only[Option.map_some,Option.some.injEq]at h
    subst h
    rw[KN (by rw[← hko];exact hm) he]
  simp only[iY,AI.dst]
  cases g with
  |none=>
   simp only[jQ]at h
   simp only[guarded,key h,and_self]
  | some p=>
   obtain⟨t,want⟩:=p
   simp only[jQ]at h
   simp only[guarded]
   split at h
   ·rename_i b hb
    simp only[hb]
    split at h
    ·rename_i heq
     refine⟨fun _=>by simp only[key h,and_self],fun eJ=>?_⟩
     subst heq
     cases b<;>cases eJ
    ·rename_i eJ
     cases h
     exact⟨fun heq=>(eJ heq).elim,fun _=>by simp⟩
   ·rename_i ds hb
    cases h
    simp only[hb,and_self]
   ·cases h
 |call dst g f xs=>cases hm
 |nil dst g n x=>cases hm
 |jv dst g t xs=>cases hm
theorem Bf {g:Option (Nat×Bool)} {tm:Tm} {A A' C C':Prop} (ha:A→A') (hc:C→C') (hh:guarded g tm A C):guarded g tm A' C':=by
 cases g with
 |none=>exact ha hh
 | some p=>
  obtain⟨t,want⟩:=p
  unfold guarded at *
  simp only at *
  split
  ·rename_i b hb;rw[hb]at hh;exact⟨fun e=>ha (hh.1 e),fun e=>hc (hh.2 e)⟩
  ·rename_i hb;rw[hb]at hh;exact hc hh
  ·rename_i x h1 h2
   split at hh
   ·exact h1 _ ‹_›
   ·exact h2 _ ‹_›
   ·exact hh
theorem IQ {ai:AI} {tm:Tm} {s s1:St} {d:D} (h:sI P ai tm s d s1):iY P [ai] (fun a b=>a=tm.put ai.dst d∧b=s1) tm s:=by
 cases ai with
 |op dst g o=>
  refine Bf (fun e=>?_) (fun e=>?_) h
  ·rw[e];exact⟨rfl,rfl⟩
  ·obtain⟨rfl,rfl⟩:=e;exact⟨rfl,rfl⟩
 |call dst g f xs=>
  refine Bf (fun e=>?_) (fun e=>?_) h
  ·exact e.mono fun x y hxy=>by obtain⟨rfl,rfl⟩:=hxy;exact⟨rfl,rfl⟩
  ·obtain⟨rfl,rfl⟩:=e;exact⟨rfl,rfl⟩
 |nil dst g n x=>exact h.elim
 |jv dst g t xs=>exact h.elim
end
end Go.Abs
namespace Go.Abs
section
variable {P:Program} {is:List AI} {af pt:List (List Nat)} {K:Tm→St→Prop} {B:fU} {nt:Nat}
theorem Cc {ops:Array Oper} : ∀ {ol:List Oper} {is:List AI},q5 P nt ops ol=some is→is.length=ol.length∧∀ (i:Nat) (o:Oper),ol[i]? = some o→∃ ai,is[i]? = some ai∧cI P nt ops o=some ai
 | [],is,h=>by cases h;exact⟨rfl,by simp⟩
 | o::ol,is,h=>by
  unfold q5 at h
  split at h
  ·rename_i ai Qm h1 h2
   cases h
   obtain⟨g1,g2⟩:=Cc h2
   refine⟨by simp[g1],fun i o' ho=>?_⟩
   cases i with
   |zero=>simp at ho;subst ho;exact⟨ai,rfl,h1⟩
   |succ i=>exact g2 i o' (by simpa using ho)
  ·cases h
theorem sM {dr:Array Bool} {i:Nat} (h:i<dr.size):dr.getD i true=dr.getD i false:=by
 simp[h]
theorem rr.done {dr:Array Bool} {X Y:List (Nat×Nat)} {q b:Nat} {dZ:List Pd} (hs:rr is af pt dr (X++(q,b)::Y) dZ) (hq:q<is.length)
 (Gs : ∀ j∈gW pt q,dr.getD j false=true):rr is af pt (dr.setIfInBounds q true) (X++Y) dZ:=by
 obtain⟨g1,g2,g3,g4,g5⟩:=tn hs.ok
 have hqY:q∉Y.map (·.1):=fun hm=>by
  obtain⟨x,hx,rfl⟩:=List.mem_map.1 hm
  exact(Cb g5 x hx).1 (by simp)
 refine⟨Fv hs.ok,fun i hi=>?_,fun i hi hl j hj=>?_,by simp[hs.size],fun x hx=>hs.lt x (by simp at hx ⊢;exact hx.imp id .inr)⟩
 ·by_cases uF:i=q
  ·subst uF
   have:i<dr.size:=by rw[hs.size];exact hq
   simp only[List.map_append,List.mem_append,g2,hqY,or_self,not_false_eq_true,true_or,iff_true]
   simp[this]
  ·rw [getD_set_ne false (Ne.symm uF),hs.Gr i hi]
   simp[uF]
 ·by_cases uF:i=q
  ·subst uF;exact getD_set_true (Gs j hj)
  ·rw [getD_set_ne false (Ne.symm uF)]at hl
   exact getD_set_true (hs.cl i hi hl j hj)
theorem rr.flag {dr:Array Bool} {R:List (Nat×Nat)} {dZ:List Pd} (hs:rr is af pt dr R dZ) {p:Pd} (hq:p.q<is.length)
 (Gs : ∀ j∈gW pt p.q,dr.getD j false=true):rr is af pt (dr.setIfInBounds p.q true) R (p::dZ):=by
 refine⟨hs.ok,fun i hi=>?_,fun i hi hl j hj=>?_,by simp[hs.size],hs.lt⟩
 ·by_cases uF:i=p.q
  ·subst uF
   have:p.q<dr.size:=by rw[hs.size];exact hq
   simp[this]
  ·rw [getD_set_ne false (Ne.symm uF),hs.Gr i hi]
   have eJ:p.q≠i:=fun h=>uF h.symm
   simp[eJ]
 ·by_cases uF:i=p.q
  ·subst uF;exact getD_set_true (Gs j hj)
  ·rw [getD_set_ne false (Ne.symm uF)]at hl
   exact getD_set_true (hs.cl i hi hl j hj)
theorem Ni {ai:AI} (h:ai.kind = .alloc) : ∃ t z,ai = .op (some t) none (.alloc z):=by
 cases ai with
 | op dst g o=>
  unfold AI.kind at h
  split at h
  ·rename_i heq;cases heq;exact⟨_,_,rfl⟩
  ·rename_i heq
   cases heq
   exfalso
   revert h
   cases o<;>simp[AO.kind]
  ·cases h
 |call dst g f xs=>cases h
 |nil dst g n x=>cases h
 |jv dst g t xs=>cases h
theorem Nj {ops:Array Oper} (xl:q5 P nt ops ops.toList=some is) (Nk:xP af pt is.length=true)
 (hK : ∀ tm bu s,Tm.eqv tm bu→K tm s→K bu s) {dr:Array Bool} {R:List (Nat×Nat)} {dZ:List Pd} {act:Act} {w:World} (hs:rr is af pt dr R dZ) (h:yZ P is K B nt R dZ act w)
 (ae2 : ∀ x l,R=x::l→∀ p∈dZ,p.q≠x.1) {q:Nat} (hq:q<is.length) (Ee:dr.getD q false=false) (jt : ∀ j∈gW af q,j<is.length∧dr.getD j false=true)
 {Q:Exit→Act→World→Prop} {K2:Act→World→Prop} (hK2 : ∀ R' wA a' w',rr is af pt (dr.setIfInBounds q true) R' wA→yZ P is K B nt R' wA a' w'→K2 a' w'):wpOp P ops Q q K2 act w:=by
 obtain⟨hlen,hY⟩:=Cc xl
 have vr:q<ops.size:=by rw[hlen]at hq;simpa using hq
 obtain⟨ai,wx,QA⟩:=hY q ops[q] (by simp[vr])
 have hi:ops[q]? = some ops[q]:=by simp[vr]
 have Gs : ∀ j∈gW pt q,dr.getD j false=true:=fun j hj=>by
  rcases CT Nk q hq j hj with h1|⟨k,h1,h2⟩
  ·exact(jt j h1).2
  ·exact hs.cl k (jt k h1).1 (jt k h1).2 j h2
 have QB : ∀ p∈dZ,p.q≠q:=fun p hp uG=>by
  have:=(hs.Gr q hq).2 (.inr ⟨p,hp,uG⟩)
  rw[Ee]at this;cases this
 have hqR:q∈R.map (·.1):=by
  by_cases hm:q∈R.map (·.1)
  ·exact hm
  ·have:=(hs.Gr q hq).2 (.inl hm)
   rw[Ee]at this;cases this
 obtain⟨⟨q',b⟩,hx,hqq⟩:=List.mem_map.1 hqR
 simp only at hqq
 subst hqq
 obtain⟨X,Y,rfl⟩:=List.append_of_mem hx
 obtain⟨g1,g2,g3,g4,g5⟩:=tn hs.ok
 rw[List.append_nil]at g1 g5
 obtain⟨M,s,tm,tq,bF,e,r,ht,qm,hn,hd,hg,wz,sL⟩:=h
 have QC:jw is q'=ai.kind:=by simp[jw,wx]
 -- what must have come up ahead of it, is not here any more, but for what was allocated early
 have Wv : ∀ a∈X.map (·.1),a∈gW pt q'→∃ p∈dZ,p.q=a:=fun a ha eK=>by
  have h1:=Gs a eK
  obtain⟨x,hxX,rfl⟩:=List.mem_map.1 ha
  rcases(hs.Gr x.1 (hs.lt x (by simp[hxX]))).1 h1 with h2|h2
  ·exact(h2 (by simp;exact .inl ⟨x.2,hxX⟩)).elim
  ·exact h2
 have Ww : ∀ x l,X=x::l→x.1∉gW pt q':=fun x l hX hxp=>by
  obtain⟨p,hp,uG⟩:=Wv x.1 (by simp[hX]) hxp
  exact ae2 x (l++(q',b)::Y) (by simp[hX]) p hp uG
 have hpk : ∀ p∈dZ,jw is p.q = .alloc:=fun p hp=>by simp[jw,(wz p hp).ai,AI.kind]
 have Dl : ∀ p∈dZ,(p.q∈X.map (·.1)→ln is p.q q'=true)→(∀ t,ai.dst=some t→t≠p.t)∧p.t∉ai.reads:=fun p hp hX=>by
  have hk:=wz p hp
  have hm:=hk.mem
  simp only[List.map_append,List.map_cons,List.mem_append,List.mem_cons]at hm
  rcases hm with hm|hm|hm
  ·have:=hX hm
   simp only[ln,hk.ai,wx]at this
   obtain⟨p1,p2,p3⟩:=apart_spec this
   exact⟨fun t ht he=>p3 p.t rfl (by rw[ht,he]),p1 p.t rfl⟩
  ·exact(QB p hp hm).elim
  ·obtain⟨x,hxY,Wx⟩:=List.mem_map.1 hm
   have:=(Cb g5 x hxY).2 (by rw[Wx];exact hpk p hp) q' (by simp)
   rw[Wx]at this
   simp only[ln,hk.ai,wx]at this
   obtain⟨p1,p2,p3⟩:=apart_spec this
   exact⟨fun t ht he=>p3 t ht (by rw[he];rfl),p2 p.t rfl⟩
 have QD:(∀ p∈dZ,p.t∉ai.reads)→∀ t∈ai.reads,tm.get t=tq.get t:=fun hp t ht=>(qm t fun p hpm he=>hp p hpm (by rw[he];exact ht)).symm
 have Wy : ∀ p∈dZ,p.q∈(X++Y).map (·.1):=fun p hp=>by
  have hm:=(wz p hp).mem
  have:=QB p hp
  simp only[List.map_append,List.map_cons,List.mem_append,List.mem_cons]at hm ⊢
  rcases hm with hm|hm|hm
  ·exact .inl hm
  ·exact(this hm).elim
  ·exact .inr hm
 by_cases yf:ai.kind = .alloc
 ·-- an allocation
  obtain⟨t,z,rfl⟩:=Ni yf
  have eK : ∀ a∈X.map (·.1),ln is a q'=true:=fun a ha=>by
   unfold oV at g1
   rw[QC,yf]at g1
   simp only[List.all_reverse,List.all_eq_true]at g1
   exact g1 a ha
  have sb:=fun p hp=>Dl p hp (eK p.q)
  refine KO hi QA fun vs T hl h1 h2=>?_
  obtain⟨r1,e1,u1⟩:=r.idle (.cells vs T)
  have aa0:t<act.tmps.size:=by
   rw[hn]
   exact x9 QA t (by rw[← tj QA];rfl)
  have:=hs.flag (p:=⟨q',t,z,w.heap.size⟩) hq Gs
  refine hK2 _ _ _ _ this ⟨M,s,tm,tq.put (some t) .junk,bF,e.trans e1,r1,l5.put ht (dst:=some t) (fun u hu=>by cases hu;exact aa0) (.junk _),fun u hu=>?_,by simp[Act.put,hn],by simp[Act.put,hd],hg,fun p hp=>?_,fun p hp p' mT he=>?_⟩
  ·have h3:=hu ⟨q',t,z,w.heap.size⟩ (by simp)
   rw[Tm.lz,if_neg (by simpa using h3)]
   exact qm u fun p hp=>hu p (List.mem_cons_of_mem _ hp)
  ·rcases List.mem_cons.1 hp with rfl | hp
   ·refine⟨by simp,wx,⟨vs,T,heap_alloc_new w _,hl,h1,h2⟩,u1,e.size, ?_⟩
    simp[Act.put,aa0]
   ·have hk:=wz p hp
    obtain⟨fD,T',j9,l6,sa,uE⟩:=hk.cells
    refine⟨hk.mem,hk.ai,⟨fD,T',by rw[heap_alloc_old w _ _ (kg j9)];exact j9,l6,sa,uE⟩,hk.unk,hk.base, ?_⟩
    rw[← hk.slot]
    have eJ:t≠p.t:=(sb p hp).1 t rfl
    simp[Act.put,Array.getElem?_setIfInBounds_ne eJ]
  ·have dh : ∀ p∈dZ,¬ (q'=p.q∨t=p.t∨w.heap.size=p.b):=fun p hp h=>by
    rcases h with h|h|h
    ·exact QB p hp h.symm
    ·exact(sb p hp).1 t rfl h
    ·obtain⟨fD,T',j9,_⟩:=(wz p hp).cells
     have:=kg j9
     omega
   rcases List.mem_cons.1 hp with rfl|hp<;>rcases List.mem_cons.1 mT with rfl|mT
   ·rfl
   ·exact(dh p' mT he).elim
   ·exact(dh p hp (he.imp Eq.symm (Or.imp Eq.symm Eq.symm))).elim
   ·exact sL p hp p' mT he
 ·by_cases oe:gI ai.kind=true
  ·-- a step that changes something: it stands first
   have hkc:ai.kind = .core:=by
    cases hk:ai.kind<;>simp_all [gI]
   have hX:X = []:=by
    cases X with
    |nil=>rfl
    |cons x l=>
     refine(Ww x l rfl ?_).elim
     unfold oV at g1
     rw[QC,hkc]at g1
     simp only[List.all_reverse,List.all_eq_true]at g1
     have:=g1 x.1 (by simp)
     rwa [List.contains_iff_mem]at this
   subst hX
   have sb:=fun p hp=>Dl p hp (fun h=>by simp at h)
   simp only[List.nil_append,kS,wx,oe]at hg
   obtain⟨d,s1,ji,hg⟩:=hg
   have ajh:=xi (QD fun p hp=>(sb p hp).2) ji
   refine wpOp_mono (fun a' w' hr=>hK2 _ _ _ _ (hs.done hq Gs) hr) ?_
   exact Wt hi QA e r ht qm hn hd wz sL (IQ ajh) hg Wy (fun p hp he=>(sb p hp).1 _ he rfl)
  ·-- a step that changes nothing
   have hm:gI ai.kind=false:=by simpa using oe
   have nU : ∀ a∈X.map (·.1),a∉gW pt q':=fun a ha eK=>by
    obtain⟨p,hp,uG⟩:=Wv a ha eK
    have Qk:jw is a = .alloc:=by rw[← uG];exact hpk p hp
    have kN:ld is (gW pt q') (X.map (·.1)).reverse=true:=by
     unfold oV at g1
     rw[QC]at g1
     cases hk:ai.kind with
     |pure=>simp only[hk,Bool.and_eq_true]at g1;exact g1.2
     |load=>simp only[hk,Bool.and_eq_true]at g1;exact g1.1.2
     |alloc=>exact(yf hk).elim
     |core=>rw[hk]at hm;cases hm
    cases X with
    |nil=>simp at ha
    | cons x l=>
     have ha2:a∈((x::l).map (·.1)).reverse:=List.mem_reverse.2 ha
     obtain⟨l1,l2,CW⟩:=List.append_of_mem ha2
     have za:=ye kN a l1 l2 CW Qk eK
     refine Ww x l rfl ?_
     cases iL:l2.reverse with
     |nil=>
      have h3:l2 = []:=by simpa using iL
      subst h3
      have:=congrArg List.reverse CW
      simp at this
      rw[this.1];exact eK
     |cons y l3=>
      have:=congrArg List.reverse CW
      simp only[List.reverse_reverse,List.map_cons,List.reverse_append,List.reverse_cons,List.reverse_nil,List.append_assoc,iL,List.cons_append,List.nil_append,List.cons.injEq]at this
      rw[this.1]
      exact za y (by rw[← List.mem_reverse,iL];simp)
   have eK : ∀ a∈X,ln is a.1 q'=true:=fun a ha=>by
    have h3 : ∀ x∈(X.map (·.1)).reverse,((gW pt q').contains x ||ln is x q')=true:=by
     unfold oV at g1
     rw[QC]at g1
     cases hk:ai.kind with
     |pure=>simp only[hk,Bool.and_eq_true]at g1;exact List.all_eq_true.1 g1.1
     |load=>simp only[hk,Bool.and_eq_true]at g1;exact List.all_eq_true.1 g1.1.1
     |alloc=>exact(yf hk).elim
     |core=>rw[hk]at hm;cases hm
    have:=h3 a.1 (List.mem_reverse.2 (List.mem_map_of_mem ha))
    simp only[Bool.or_eq_true,List.contains_iff_mem]at this
    exact this.resolve_left (nU a.1 (List.mem_map_of_mem ha))
   have aa1:ai.kind = .load→jG is (X.map (·.1))≤b:=fun hk=>by
    unfold oV at g1
    rw[QC,hk]at g1
    simp only[Bool.and_eq_true,decide_eq_true_eq]at g1
    have h3:=g1.2
    have h4:(X.map (·.1)).reverse.filter (fun a=> !(gW pt q').contains a)=(X.map (·.1)).reverse:=by
     rw[List.filter_eq_self]
     intro a ha
     have:=nU a (List.mem_reverse.1 ha)
     simpa using this
    rw[h4]at h3
    unfold jG at h3 ⊢
    rw[List.filter_reverse,List.length_reverse]at h3
    exact h3
   have sb:=fun p hp=>Dl p hp (fun h=>by
    obtain⟨x,hx,Wx⟩:=List.mem_map.1 h
    rw[← Wx];exact eK x hx)
   obtain⟨d,h1,_,CO⟩:=xj hK wx hm Y X bF tm s eK aa1 hg
   have sa:jQ ai tq s=some d:=by rw[← qR (QD fun p hp=>(sb p hp).2)];exact h1
   refine wpOp_mono (fun a' w' hr=>hK2 _ _ _ _ (hs.done hq Gs) hr) ?_
   exact Wt hi QA e r ht qm hn hd wz sL (Nh hm sa) CO Wy (fun p hp he=>(sb p hp).1 _ he rfl)
theorem CX {o:Oper} {j:Nat} : j∈mU o↔∃ e∈o.after,Region.binds .any e=true∧e.on=j:=by
 simp only[mU,List.mem_map,List.mem_filter,Array.mem_toList_iff]
 constructor
 ·rintro⟨e,⟨h1,h2⟩,h3⟩;exact⟨e,h1,h2,h3⟩
 ·rintro⟨e,h1,h2,h3⟩;exact⟨e,⟨h1,h2⟩,h3⟩
theorem Nl {ops:Array Oper} (xl:q5 P nt ops ops.toList=some is) (Nk:xP (ops.toList.map mU) pt is.length=true)
 (aa2 : ∀ i,i<is.length→∀ j∈gW (ops.toList.map mU) i,j<is.length) {Q:Exit→Tm→St→Prop} (hK : ∀ tm bu s,Tm.eqv tm bu→K tm s→K bu s)
 (hKQ : ∀ tm s act w,K tm s→Holds B nt tm s act w→pP B nt Q .normal act w) :
 ∀ (fuel:Nat) (dr:Array Bool) (R:List (Nat×Nat)) (dZ:List Pd) (act:Act) (w:World) (U:List Nat),U.length≤fuel→(∀ j,j<is.length→dr.getD j false=false→j∈U)→
  rr is (ops.toList.map mU) pt dr R dZ→yZ P is K B nt R dZ act w→wpAny P .any ops (pP B nt Q) fuel dr act w:=by
 obtain⟨hlen,_⟩:=Cc xl
 have sG:is.length=ops.size:=by rw[hlen];simp
 have aa3 : ∀ (j:Nat) (o:Oper),ops[j]? = some o→gW (ops.toList.map mU) j=mU o:=fun j o h=>by
  simp[gW,List.getD,h]
 have fin : ∀ {dr:Array Bool} {dZ:List Pd} {act:Act} {w:World},yZ P is K B nt [] dZ act w→pP B nt Q .normal act w:=by
  intro dr dZ act w h
  obtain⟨M,s,tm,tq,bF,e,r,ht,qm,hn,hd,hg,wz,sL⟩:=h
  have Di : ∀ p∈dZ,False:=fun p hp=>by have:=(wz p hp).mem;simp at this
  exact hKQ tq s act w (hK tm tq s (fun t=>(qm t fun p hp=>(Di p hp).elim).symm) hg) ⟨M,e,r,ht,hn,hd⟩
 have QE : ∀ {dr:Array Bool} {R:List (Nat×Nat)} {dZ:List Pd} {x:Nat×Nat} {l:List (Nat×Nat)},rr is (ops.toList.map mU) pt dr R dZ→R=x::l→(∀ p∈dZ,p.q≠x.1)→
  x.1∈Region.ready .any ops dr:=by
  intro dr R dZ x l hs hR QB
  subst hR
  have hx:=hs.lt x (by simp)
  rw[mem_ready]
  have Ee:dr.getD x.1 false=false:=by
   cases hl:dr.getD x.1 false with
   |false=>rfl
   |true=>
    rcases(hs.Gr x.1 hx).1 hl with h1|⟨p,hp,uG⟩
    ·exact(h1 (by simp)).elim
    ·exact(QB p hp uG).elim
  have hxo:x.1<ops.size:=by rw[← sG];exact hx
  refine⟨by rw[sM (by rw[hs.size];exact hx)];exact Ee,ops[x.1],by simp[hxo],fun e he hb=>?_⟩
  have hm:e.on∈gW (ops.toList.map mU) x.1:=by rw[aa3 x.1 ops[x.1] (by simp[hxo])];exact CX.2 ⟨e,he,hb,rfl⟩
  obtain⟨_,_,_,g4,_⟩:=tn (X:= []) (q:=x.1) (b:=x.2) hs.ok
  obtain⟨h1,h2⟩:=g4 _ hm
  refine(hs.Gr e.on (aa2 x.1 hx _ hm)).2 (.inl ?_)
  simp only[List.map_cons,List.mem_cons,not_or]
  exact⟨h1,h2⟩
 intro fuel
 induction fuel with
 | zero=>
  intro dr R dZ act w U hU Ee hs h
  obtain⟨R',wA,mZ,h',hn⟩:=norm R dZ hs h
  have hUn:U = []:=List.length_eq_zero_iff.1 (by omega)
  have za : ∀ j,j<is.length→dr.getD j false=true:=fun j hj=>by
   cases hl:dr.getD j false with
   |true=>rfl
   |false=>have:=Ee j hj hl;rw[hUn]at this;cases this
  have hR:R' = []:=by
   cases hR:R' with
   |nil=>rfl
   |cons x l=>
    have hx:=mZ.lt x (by simp[hR])
    have:=QE mZ hR (hn x l hR)
    rw[mem_ready,sM (by rw[mZ.size];exact hx),za x.1 hx]at this
    cases this.1
  subst hR
  refine⟨?_,fin (dr:=dr) h'⟩
  cases hr:Region.ready .any ops dr with
  |nil=>rfl
  |cons j js=>
   have hj:j∈Region.ready .any ops dr:=by rw[hr];simp
   rw[mem_ready]at hj
   obtain⟨h1,o,ho,_⟩:=hj
   have Wz:j<is.length:=by rw[sG];exact(Array.getElem?_eq_some_iff.1 ho).1
   rw[sM (by rw[hs.size];exact Wz),za j Wz]at h1
   cases h1
 | succ fuel ih=>
  intro dr R dZ act w U hU Ee hs h
  obtain⟨R',wA,mZ,h',hn⟩:=norm R dZ hs h
  refine⟨fun hr=>?_,fun i hi=>?_⟩
  ·cases hR:R' with
   |nil=>subst hR;exact fin (dr:=dr) h'
   |cons x l=>
    have:=QE mZ hR (hn x l hR)
    rw[hr]at this
    cases this
  ·rw [mem_ready]at hi
   obtain⟨h1,o,ho,ajj⟩:=hi
   have qQ:i<is.length:=by rw[sG];exact(Array.getElem?_eq_some_iff.1 ho).1
   rw[sM (by rw[hs.size];exact qQ)]at h1
   refine Nj xl Nk hK mZ h' hn qQ h1 (fun j hj=>⟨aa2 i qQ j hj, ?_⟩) fun R2 ae4 a2 w2 z8 h2=>?_
   ·rw [aa3 i o ho]at hj
    obtain⟨e,he,hb,rfl⟩:=CX.1 hj
    exact ajj e he hb
   ·refine ih _ R2 ae4 a2 w2 (U.erase i) ?_ (fun j hj hl=> ?_) z8 h2
    ·have:=List.length_erase_of_mem (Ee i qQ h1)
     omega
    ·have hji:j≠i:=fun e=>by
      subst e
      have:j<dr.size:=by rw[hs.size];exact qQ
      simp[this]at hl
     rw[getD_set_ne false (Ne.symm hji)]at hl
     exact(List.mem_erase_of_ne hji).2 (Ee j hj hl)
theorem Sem.par {is:List AI} {lQ:List (Nat×Nat)} {Q:Exit→Tm→St→Prop} {tm:Tm} {s:St} (h:kS P is (Q .normal) lQ [] tm s):Sem P B nt (.par is lQ) Q tm s:=by
 intro c hc act w hh
 obtain⟨id,ops,rfl,hi,hm,pt,hp⟩:=lF hc
 simp only[H9,Bool.and_eq_true,List.all_eq_true,List.mem_range,List.contains_iff_mem,decide_eq_true_eq]at hp
 obtain⟨⟨⟨⟨h1,h2⟩,h3⟩,h4⟩,h5⟩:=hp
 obtain⟨hlen,_⟩:=Cc hi
 have sG:is.length=ops.size:=by rw[hlen];simp
 refine wp_region_any hm ?_
 obtain⟨M,e,r,ht,hn,hd⟩:=hh
 have key : ∀ (R:List (Nat×Nat)) (bF:List St) (tm:Tm) (s:St),kS P is (Q .normal) R bF tm s→kS P is (fun tm s=>∃ bu,tm.eqv bu∧Q .normal bu s) R bF tm s:=by
  intro R
  induction R with
  |nil=>intro bF tm s h;exact⟨tm,fun _=>rfl,h⟩
  | cons x R ih=>
   obtain⟨q,b⟩:=x
   intro bF tm s h
   unfold kS at h ⊢
   split at h
   ·exact h.elim
   ·split at h
    ·obtain⟨d,s',h1,h2⟩:=h;exact⟨d,s',h1,ih _ _ _ h2⟩
    ·obtain⟨d,h1,h2,h3⟩:=h;exact⟨d,h1,h2,ih _ _ _ h3⟩
 have hg:=key _ _ _ _ h
 refine Nl (K:=fun tm s=>∃ bu,tm.eqv bu∧Q .normal bu s) hi h1 h5 (fun tm bu s he ⟨t2,h3,h4⟩=>⟨t2,fun t=>(he t).symm.trans (h3 t),h4⟩)
  (fun tm s act w ⟨t2,h3,h4⟩ ⟨M,e,r,ht,hn,hd⟩=>⟨t2,s,h4,M,e,r,fun t=>by rw[← h3 t];exact ht t,hn,hd⟩) ops.size _ lQ [] act _ (List.range is.length) (by simp[sG]) (fun j hj _=>by simpa using hj)
  ⟨h2,fun i hi=>?_,fun i hi hl=>?_,by simp[sG],h4⟩ ⟨M,s,tm,tm,[],⟨e.le,e.kept,e.tQ,e.qu,e.se,e.size,e.os,e.tape,e.output⟩,r.of_heap rfl,ht,fun _ _=>rfl,hn,hd,hg,by simp,by simp⟩
 ·have:i<ops.size:=by rw [← sG];exact hi
  have h6:=h3 i hi
  simp only[List.not_mem_nil,false_and,exists_false,or_false]
  rw[show(Array.replicate ops.size false).getD i false=false by simp[this]]
  simp[h6]
 ·have:i<ops.size:=by rw [← sG];exact hi
  rw[show(Array.replicate ops.size false).getD i false=false by simp[this]]at hl
  cases hl
end
end Go.Abs
namespace Go.Abs
theorem Yg (k:IntKind) (n:Int):D.row (.int k n)=some [.int k n]:=rfl
theorem Tx (b:Bool):D.row (.bool b)=some [.bool b]:=rfl
theorem Yh (l:List UInt8):D.row (.str l)=some [.str l]:=rfl
theorem Ty:D.row .dR=some [.dR]:=rfl
theorem Yi (o f:Nat):D.row (.ptr o f)=some [.ptr o f]:=rfl
theorem Tz (r:List D) (f:Nat):D.row (.dv r f)=some [.dv r f]:=rfl
theorem QF (g:Tag) (z:Nat) (r:List (List D)):D.row (.slice g z r)=some [.slice g z r]:=rfl
theorem Yj (cs:List D):D.row (.agg cs)=some cs:=rfl
theorem Yk (v:Value):D.row (.val v)=some [.val v]:=rfl
theorem QG (T:TypeId) (o:Nat):D.row (.fl T o)=some [.fl T o]:=rfl
theorem Yl (f:Nat) (cs:List D):D.row (.gd f cs)=some [.gd f cs]:=rfl
theorem TA (o:Nat):D.row (.fP o)=some [.fP o]:=rfl
theorem TB (w:Bool):Tag.cut .full w=if w then .full else .shared:=rfl
theorem Nn (w:Bool):Tag.cut .shared w = .shared:=rfl
theorem TC (t:Nat) (y:Bool) (w:Bool):Tag.cut (.tok t y) w = .tok t y:=rfl
section
variable {P:Program}
def KC (P:Program) (r:List AI) (K:Tm→St→Prop) (tm:Tm) (dst:Option Nat) (d:D) (s:St):Prop:=iY P r K (tm.put dst d) s
def GI (P:Program) (g:D) (want:Bool) (i:AI) (r:List AI) (K:Tm→St→Prop) (tm:Tm) (s:St):Prop:=
 match g with
 | .bool b=>(b=want→iY P (i::r) K tm s)∧(b=(!want)→iY P r K (tm.put i.dst (.tuple [])) s)
 | .tuple _=>iY P r K (tm.put i.dst (.tuple [])) s
 |_=>False
def NI (P:Program) (dst:Option Nat) (neg:Bool) (x:D) (r:List AI) (K:Tm→St→Prop) (tm:Tm) (s:St):Prop:=
 match x with
 | .slice _ _ rows=>∀ b:Bool,(rows≠ []→b=false)→iY P r K (tm.put dst (.bool (if neg then !b else b))) s
 |_=>False
def uT (d:D) (A C:Prop):Prop:=
 match d with
 | .bool b=>(b=true→A)∧(b=false→C)
 |_=>False
theorem Sem.ae5 {B:fU} {nt:Nat} {Q:Exit→Tm→St→Prop} {tm:Tm} {s:St} {x:X} {a b:AC} (h:uT (x.ev tm) (Sem P B nt a Q tm s) (Sem P B nt b Q tm s)):Sem P B nt (.cond x a b) Q tm s:=by
 unfold uT at h
 split at h
 ·rename_i t ht
  exact Sem.cond ht h.1 h.2
 ·exact h.elim
def gK (P:Program) (K:Tm→St→Prop):List (AI×Nat)→List St→Tm→St→Prop
 | [],_,tm,s=>K tm s
 |(ai,b)::r,bF,tm,s=>
  match gI ai.kind with
  |true=>∃ d s',sI P ai tm s d s'∧gK P K r (s::bF) (tm.put ai.dst d) s'
  |false=>∃ d,jQ ai tm s=some d∧(ai.kind = .load→∀ s'∈bF.take b,jQ ai tm s'=some d)∧gK P K r bF (tm.put ai.dst d) s
def ng (is:List AI):List (Nat×Nat)→Option (List (AI×Nat))
 | []=>some []
 |(q,b)::r=>match is[q]?,ng is r with
  |some ai,some l=>some ((ai,b)::l)
  |_,_=>none
theorem Fw {is:List AI} {K:Tm→St→Prop} : ∀ {lQ:List (Nat×Nat)} {items:List (AI×Nat)} {bF:List St} {tm:Tm} {s:St},ng is lQ=some items→gK P K items bF tm s→kS P is K lQ bF tm s
 | [],items,bF,tm,s,h,g=>by cases h;exact g
 | (q,b)::r,items,bF,tm,s,h,g=>by
  simp only[ng]at h
  split at h
  ·rename_i ai l h1 h2
   cases h
   simp only[gK]at g
   simp only[kS,h1]
   split at g
   ·rename_i hk
    obtain⟨d,s',g1,g2⟩:=g
    try simp only[hk]
    exact⟨d,s',g1,Fw h2 g2⟩
   ·rename_i hk
    obtain⟨d,g1,g2,g3⟩:=g
    try simp only[hk]
    exact⟨d,g1,g2,Fw h2 g3⟩
  ·cases h
theorem Sem.ajk {B:fU} {nt:Nat} {Q:Exit→Tm→St→Prop} {tm:Tm} {s:St} {is:List AI} {lQ:List (Nat×Nat)} {items:List (AI×Nat)} (hi:ng is lQ=some items) (h:gK P (Q .normal) items [] tm s):Sem P B nt (.par is lQ) Q tm s:=
 Sem.par (Fw hi h)
def AI.free:AI→AI
 | .op d _ o=> .op d none o
 | .call d _ f xs=> .call d none f xs
 | .nil d _ n x=> .nil d none n x
 | .jv d _ t xs=> .jv d none t xs
def GL (P:Program) (g:D) (want:Bool) (i:AI) (b:Nat) (r:List (AI×Nat)) (K:Tm→St→Prop) (bF:List St) (tm:Tm) (s:St):Prop:=
 match g with
 | .bool v=>(v=want→gK P K ((i,b)::r) bF tm s)∧(v=(!want)→gK P K r (if gI i.kind then s::bF else bF) (tm.put i.dst (.tuple [])) s)
 | .tuple _=>gK P K r (if gI i.kind then s::bF else bF) (tm.put i.dst (.tuple [])) s
 |_=>False
def CL (one:Bool) (P:Program) (f:Nat) (args:List D) (s:St) (K:D→St→Prop):Prop:=
 match one with
 |true=>∃ d s',aF P f args s d s'∧K d s'
 |false=>bM P f args s K
def KL (P:Program) (K:Tm→St→Prop) (r:List (AI×Nat)) (bF:List St) (tm:Tm) (dst:Option Nat) (d:D) (s:St):Prop:=gK P K r bF (tm.put dst d) s
def og (i:AI) (tm:Tm) (d:D):List St→Prop
 | []=>True
 |s::r=>jQ i tm s=some d∧og i tm d r
theorem Ef {i:AI} {tm:Tm} {d:D} : ∀ {l:List St},og i tm d l→∀ s∈l,jQ i tm s=some d
 | [],_,s,h=>by cases h
 |a::l,h,s,hs=>by
  rcases List.mem_cons.1 hs with rfl|hs
  ·exact h.1
  ·exact Ef h.2 s hs
def PL (P:Program) (o:AO) (dst:Option Nat) (b:Nat) (r:List (AI×Nat)) (K:Tm→St→Prop) (bF:List St) (tm:Tm) (s:St):Prop:=
 match aJ o tm s with
 |some (d,_)=>og (.op dst none o) tm d (bF.take b)∧gK P K r bF (tm.put dst d) s
 |none=>False
def ML (P:Program) (o:AO) (dst:Option Nat) (r:List (AI×Nat)) (K:Tm→St→Prop) (bF:List St) (tm:Tm) (s:St):Prop:=
 match aJ o tm s with
 |some (d,s')=>gK P K r (s::bF) (tm.put dst d) s'
 |none=>False
def AO.core:AO→Bool
 | .alloc _=>true
 | .box _=>true
 | .vg .. =>true
 | .AH _=>true
 | .store .. =>true
 | .app .. =>true
 | .sX .. =>true
 | .AN .. =>true
 | .AP .. =>true
 | .apps .. =>true
 | .uQ=>true
 | .yJ .. =>true
 | .AQ .. =>true
 |_=>false
theorem tu (dst:Option Nat) (g:Option (Nat×Bool)) (o:AO):gI (AI.op dst g o).kind=o.core:=by
 cases dst<;>cases g<;>cases o<;>rfl
def OL (P:Program) (o:AO) (dst:Option Nat) (b:Nat) (r:List (AI×Nat)) (K:Tm→St→Prop) (bF:List St) (tm:Tm) (s:St):Prop:=
 match o.core with
 |true=>ML P o dst r K bF tm s
 |false=>PL P o dst b r K bF tm s
theorem IS {K:Tm→St→Prop} {dst:Option Nat} {o:AO} {b:Nat} {r:List (AI×Nat)} {bF:List St} {tm:Tm} {s:St} (h:OL P o dst b r K bF tm s) :
 gK P K ((.op dst none o,b)::r) bF tm s:=by
 unfold OL at h
 simp only[gK,tu]
 cases hc:o.core with
 | true=>
  simp only[hc,ML]at h
  simp only[]
  split at h
  ·rename_i d s' he
   exact⟨d,s',by simpa[sI,guarded]using he,h⟩
  ·exact h.elim
 | false=>
  simp only[hc,PL]at h
  simp only[]
  split at h
  ·rename_i d s' he
   exact⟨d,by simp[jQ,he],fun _=>Ef h.1,h.2⟩
  ·exact h.elim
theorem No {K:Tm→St→Prop} {dst:Option Nat} {f:Nat} {xs:List X} {b:Nat} {r:List (AI×Nat)} {bF:List St} {tm:Tm} {s:St} (h:CL true P f (xs.map (·.ev tm)) s (KL P K r (s::bF) tm dst)) :
 gK P K ((.call dst none f xs,b)::r) bF tm s:=by
 obtain⟨d,s',h1,h2⟩:=h
 exact⟨d,s',h1,h2⟩
theorem aa4 {K:Tm→St→Prop} {i:AI} {t:Nat} {w:Bool} {b:Nat} {r:List (AI×Nat)} {bF:List St} {tm:Tm} {s:St} {j:AI} (hf:(∃ d o,i = .op d none o∧j = .op d (some (t,w)) o)∨(∃ d f xs,i = .call d none f xs∧j = .call d (some (t,w)) f xs))
 (hg:tm.get t = .bool w) (h:gK P K ((i,b)::r) bF tm s):gK P K ((j,b)::r) bF tm s:=by
 rcases hf with ⟨d,o,rfl,rfl⟩|⟨d,f,xs,rfl,rfl⟩
 ·simp only [gK,tu]at h ⊢
  cases hc:o.core<;>simp only[hc]at h ⊢
  ·obtain⟨x,h1,h2,h3⟩:=h
   refine⟨x,by simpa[jQ,hg]using h1,fun hk s' mZ=>?_,h3⟩
   have uA:(AI.op d none o).kind = .load:=by
    cases d<;>cases o<;>first|exact hk|(cases hc;done)|(cases hk;done)
   simpa[jQ,hg]using h2 uA s' mZ
  ·obtain⟨x,s',h1,h2⟩:=h
   exact⟨x,s',by simpa[sI,guarded,hg]using h1,h2⟩
 ·obtain⟨x,s',h1,h2⟩:=h
  exact⟨x,s',by simpa[sI,guarded,hg]using h1,h2⟩
theorem QH {K:Tm→St→Prop} {i:AI} {t:Nat} {w:Bool} {b:Nat} {r:List (AI×Nat)} {bF:List St} {tm:Tm} {s:St} {j:AI} (hf:(∃ d o,i = .op d none o∧j = .op d (some (t,w)) o)∨(∃ d f xs,i = .call d none f xs∧j = .call d (some (t,w)) f xs))
 (hg:tm.get t = .bool (!w)∨∃ l,tm.get t = .tuple l) (h:gK P K r (if gI i.kind then s::bF else bF) (tm.put i.dst (.tuple [])) s):gK P K ((j,b)::r) bF tm s:=by
 rcases hf with ⟨d,o,rfl,rfl⟩|⟨d,f,xs,rfl,rfl⟩
 ·simp only [gK,tu]at h ⊢
  cases hc:o.core<;>simp only[hc]at h ⊢
  ·refine⟨.tuple [], ?_,fun hk s' mZ=> ?_,h⟩
   ·rcases hg with hg|⟨l,hg⟩<;>simp[jQ,hg]
   ·rcases hg with hg|⟨l,hg⟩<;>simp[jQ,hg]
  ·refine⟨.tuple [],s, ?_,h⟩
   rcases hg with hg|⟨l,hg⟩<;>simp[sI,guarded,hg]
 ·refine⟨.tuple [],s, ?_,h⟩
  rcases hg with hg|⟨l,hg⟩<;>simp[sI,guarded,hg]
theorem LC {K:Tm→St→Prop} {i j:AI} {t:Nat} {w:Bool} {b:Nat} {r:List (AI×Nat)} {bF:List St} {tm:Tm} {s:St} (hf:(∃ d o,i = .op d none o∧j = .op d (some (t,w)) o)∨(∃ d f xs,i = .call d none f xs∧j = .call d (some (t,w)) f xs))
 (h:GL P (tm.get t) w i b r K bF tm s):gK P K ((j,b)::r) bF tm s:=by
 unfold GL at h
 split at h
 ·rename_i v hv
  by_cases e:v=w
  ·exact aa4 hf (by rw[hv,e]) (h.1 e)
  ·exact QH hf (.inl (by rw[hv];cases v<;>cases w<;>simp_all)) (h.2 (by cases v<;>cases w<;>simp_all))
 ·rename_i l hl
  exact QH hf (.inr ⟨l,hl⟩) h
 ·exact h.elim
theorem Gt {K:Tm→St→Prop} {dst:Option Nat} {o:AO} {t:Nat} {w:Bool} {b:Nat} {r:List (AI×Nat)} {bF:List St} {tm:Tm} {s:St} (h:GL P (tm.get t) w (.op dst none o) b r K bF tm s) :
 gK P K ((.op dst (some (t,w)) o,b)::r) bF tm s:=LC (.inl ⟨dst,o,rfl,rfl⟩) h
theorem KQ {K:Tm→St→Prop} {dst:Option Nat} {f:Nat} {xs:List X} {t:Nat} {w:Bool} {b:Nat} {r:List (AI×Nat)} {bF:List St} {tm:Tm} {s:St} (h:GL P (tm.get t) w (.call dst none f xs) b r K bF tm s) :
 gK P K ((.call dst (some (t,w)) f xs,b)::r) bF tm s:=LC (.inr ⟨dst,f,xs,rfl,rfl⟩) h
theorem CL.use {one:Bool} {f:Nat} {args:List D} {s:St} {d:D} {s':St} {K:D→St→Prop} (h:aF P f args s d s') (hk:K d s'):CL one P f args s K:=
 match one with
 |true=>⟨d,s',h,hk⟩
 |false=>h.use hk
theorem CU {one:Bool} {f:Nat} {args:List D} {s:St} {d:D} {s':St} {K:D→St→Prop} (h:aF P f args s d s') (hk:K d s'):CL one P f args s K:=CL.use h hk
theorem CR {f:Nat} {args:List D} {s:St} {Q K:D→St→Prop} (h:bM P f args s Q) (hk : ∀ d s',Q d s'→K d s'):CL false P f args s K:=bM.mono h hk
end
end Go.Abs
namespace Go.Abs
theorem nd {α:Type} {a b:α} (h:a=b):a=b:=h
def GJ (g:D) (w:Bool) (A C:Prop):Prop:=
 match g with
 | .bool b=>(b=w→A)∧(b=(!w)→C)
 | .tuple _=>C
 |_=>False
class Two where
 a:Prop
 c:Prop
def CB (d:D) [b:Two] : Prop:=uT d b.a b.c
def GB (d:D) (w:Bool) [b:Two] : Prop:=GJ d w b.a b.c
def nh (g:Option (Nat×Bool)) (tm:Tm) (A C:Prop):Prop:=
 match g with
 |none=>A
 |some (t,w)=>GJ (tm.get t) w A C
def kq (P:Program):List AI→(Tm→St→Prop)→Tm→St→Prop
 | [],K,tm,s=>K tm s
 | .op dst g o::r,K,tm,s=>nh g tm (match aJ o tm s with|some (d,s')=>kq P r K (tm.put dst d) s'|none=>False) (kq P r K (tm.put dst (.tuple [])) s)
 | .call dst g f xs::r,K,tm,s=>nh g tm (CL false P f (xs.map (·.ev tm)) s fun d s'=>kq P r K (tm.put dst d) s') (kq P r K (tm.put dst (.tuple [])) s)
 | .nil dst g neg x::r,K,tm,s=>
  nh g tm (match x.ev tm with
   | .slice _ _ rows=>∀ b:Bool,(rows≠ []→b=false)→kq P r K (tm.put dst (.bool (if neg then !b else b))) s
   |_=>False) (kq P r K (tm.put dst (.tuple [])) s)
 | .jv dst g t xs::r,K,tm,s=>
  nh g tm (match tm.get t with
   | .gd f nN=>enters P f=true∧CL false P f (xs.map (·.ev tm)++nN) s fun d s'=>kq P r K (tm.put dst d) s'
   |_=>False) (kq P r K (tm.put dst (.tuple [])) s)
theorem sN {g:Option (Nat×Bool)} {tm:Tm} {A C A' C':Prop} (h:nh g tm A C) (ha:A→A') (hc:C→C'):guarded g tm A' C':=by
 unfold nh at h
 unfold guarded
 cases g with
 |none=>exact ha h
 | some p=>
  obtain⟨t,w⟩:=p
  simp only[GJ]at h ⊢
  split at h
  ·rename_i hb;try simp only [hb]
   exact⟨fun e=>ha (h.1 e),fun e=>hc (h.2 e)⟩
  ·rename_i hb;try simp only [hb]
   exact hc h
  ·exact h.elim
theorem oq {P:Program} {K:Tm→St→Prop} : ∀ {is:List AI} {tm:Tm} {s:St},kq P is K tm s→iY P is K tm s
 | [],tm,s,h=>h
 | .op dst g o::r,tm,s,h=>by
  refine sN h (fun h=>?_) oq
  split at h
  ·rename_i he;try simp only [he]
   exact oq h
  ·exact h.elim
 | .call dst g f xs::r,tm,s,h=>sN h (fun h=>bM.mono h fun _ _ h=>oq h) oq
 | .nil dst g neg x::r,tm,s,h=>by
  refine sN h (fun h=>?_) oq
  split at h
  ·rename_i he;try simp only [he]
   exact fun b hb=>oq (h b hb)
  ·exact h.elim
 | .jv dst g t xs::r,tm,s,h=>by
  refine sN h (fun h=>?_) oq
  split at h
  ·rename_i he;try simp only [he]
   exact⟨h.1,bM.mono h.2 fun _ _ h=>oq h⟩
  ·exact h.elim
def gj (P:Program) (K:Tm→St→Prop):List (AI×Nat)→List St→Tm→St→Prop
 | [],_,tm,s=>K tm s
 |(.op dst g o,b)::r,bF,tm,s=>
  match o.core with
  |true=>nh g tm (match aJ o tm s with|some (d,s')=>gj P K r (s::bF) (tm.put dst d) s'|none=>False) (gj P K r (s::bF) (tm.put dst (.tuple [])) s)
  |false=>nh g tm (match aJ o tm s with|some (d,_)=>og (.op dst none o) tm d (bF.take b)∧gj P K r bF (tm.put dst d) s|none=>False) (gj P K r bF (tm.put dst (.tuple [])) s)
 |(.call dst g f xs,_)::r,bF,tm,s=>nh g tm (CL true P f (xs.map (·.ev tm)) s fun d s'=>gj P K r (s::bF) (tm.put dst d) s') (gj P K r (s::bF) (tm.put dst (.tuple [])) s)
 |(.nil ..,_)::_,_,_,_=>False
 |(.jv ..,_)::_,_,_,_=>False
theorem Bh {P:Program} {t:Nat} {w:Bool} {tm:Tm} {i:AI} {b:Nat} {r:List (AI×Nat)} {K:Tm→St→Prop} {bF:List St} {s:St} {A C:Prop} (h:nh (some (t,w)) tm A C) (ha:A→gK P K ((i,b)::r) bF tm s)
 (hc:C→gK P K r (if gI i.kind then s::bF else bF) (tm.put i.dst (.tuple [])) s):GL P (tm.get t) w i b r K bF tm s:=by
 simp only[nh,GJ]at h
 unfold GL
 split at h
 ·rename_i hb;try simp only [hb]
  exact⟨fun e=>ha (h.1 e),fun e=>hc (h.2 e)⟩
 ·rename_i hb;try simp only [hb]
  exact hc h
 ·exact h.elim
theorem mC {P:Program} {K:Tm→St→Prop} : ∀ {l:List (AI×Nat)} {bF:List St} {tm:Tm} {s:St},gj P K l bF tm s→gK P K l bF tm s
 | [],bF,tm,s,h=>h
 | (.op dst g o,b)::r,bF,tm,s,h=>by
  simp only[gj]at h
  cases hc:o.core with
  | true=>
   simp only[hc]at h
   have ha:(match aJ o tm s with|some (d,s')=>gj P K r (s::bF) (tm.put dst d) s'|none=>False)→gK P K ((.op dst none o,b)::r) bF tm s:=by
    intro h
    refine IS ?_
    simp only[OL,hc,ML]
    split at h
    ·rename_i he;try simp only [he]
     exact mC h
    ·exact h.elim
   cases g with
   |none=>exact ha h
   |some p=>
    obtain⟨t,w⟩:=p
    refine Gt (Bh h ha fun h=>?_)
    simp only[tu,hc,if_true]
    exact mC h
  | false=>
   simp only[hc]at h
   have ha:(match aJ o tm s with|some (d,_)=>og (.op dst none o) tm d (bF.take b)∧gj P K r bF (tm.put dst d) s|none=>False)→gK P K ((.op dst none o,b)::r) bF tm s:=by
    intro h
    refine IS ?_
    simp only[OL,hc,PL]
    split at h
    ·rename_i he;try simp only [he]
     exact⟨h.1,mC h.2⟩
    ·exact h.elim
   cases g with
   |none=>exact ha h
   |some p=>
    obtain⟨t,w⟩:=p
    refine Gt (Bh h ha fun h=>?_)
    simp only[tu,hc]
    exact mC h
 | (.call dst g f xs,b)::r,bF,tm,s,h=>by
  simp only[gj]at h
  have ha:(CL true P f (xs.map (·.ev tm)) s fun d s'=>gj P K r (s::bF) (tm.put dst d) s')→gK P K ((.call dst none f xs,b)::r) bF tm s:=
   fun⟨d,s',h1,h2⟩=>No ⟨d,s',h1,mC h2⟩
  cases g with
  |none=>exact ha h
  |some p=>
   obtain⟨t,w⟩:=p
   exact KQ (Bh h ha fun h=>mC h)
 |(.nil ..,_)::_,bF,tm,s,h=>h.elim
 |(.jv ..,_)::_,bF,tm,s,h=>h.elim
section
variable {P:Program} {B:fU} {nt:Nat}
def kb (P:Program) (B:fU) (nt:Nat):AC→(Exit→Tm→St→Prop)→Tm→St→Prop
 | .skip,Q,tm,s=>Q .normal tm s
 | .run is,Q,tm,s=>kq P is (Q .normal) tm s
 | .par is lQ,Q,tm,s=>match ng is lQ with|some l=>gj P (Q .normal) l [] tm s|none=>False
 | .seq a b,Q,tm,s=>kb P B nt a (nR (kb P B nt b Q) Q) tm s
 | .cond x a b,Q,tm,s=>uT (x.ev tm) (kb P B nt a Q tm s) (kb P B nt b Q tm s)
 | .block id a,Q,tm,s=>kb P B nt a (kE id Q) tm s
 | .loop a,Q,tm,s=>bl P B nt a Q tm s
 | .exit id,Q,tm,s=>Q (.exit id) tm s
 | .scope a,Q,tm,s=>lG P B nt a a Q tm s
 | .label _,Q,tm,s=>Q .normal tm s
 | .goto l,Q,tm,s=>Q (.goto l) tm s
 | .ret,Q,tm,s=>Q .ret tm s
theorem iF : ∀ {ac:AC} {Q:Exit→Tm→St→Prop} {tm:Tm} {s:St},kb P B nt ac Q tm s→Sem P B nt ac Q tm s:=by
 intro ac
 induction ac with
 |skip=>exact fun h=>Sem.skip h
 |run is=>exact fun h=>Sem.run (oq h)
 |par is lQ=>
  intro Q tm s h
  simp only[kb]at h
  split at h
  ·exact Sem.ajk ‹_› (mC h)
  ·exact h.elim
 |seq a b Qp Qq=>
  intro Q tm s h
  refine Sem.seq ((Qp h).mono fun e tm s hq=>?_)
  cases e with
  |normal=>exact Qq hq
  |_=>exact hq
 |cond x a b Qp Qq=>
  intro Q tm s h
  refine Sem.ae5 ?_
  simp only[kb]at h
  unfold uT at h ⊢
  split at h
  ·exact⟨fun e=>Qp (h.1 e),fun e=>Qq (h.2 e)⟩
  ·exact h.elim
 |block id a ih=>exact fun h=>Sem.block (ih h)
 |loop a ih=>exact fun h=>Sem.loop h
 |exit id=>exact fun h=>Sem.exit h
 |scope a ih=>exact fun h=>Sem.scope h
 |label l=>exact fun h=>Sem.label h
 |goto l=>exact fun h=>Sem.goto h
 |ret=>exact fun h=>Sem.ret h
section
variable (Q:Exit→Tm→St→Prop) (N:Tm→St→Prop) (tm:Tm) (s:St) (a b:AC) (is:List AI) (x:X)
theorem TD:kb P B nt .skip Q tm s=Q .normal tm s:=nd rfl
theorem Yn:kb P B nt (.run is) Q tm s=kq P is (Q .normal) tm s:=nd rfl
theorem Yo (lQ:List (Nat×Nat)):kb P B nt (.par is lQ) Q tm s=match ng is lQ with|some l=>gj P (Q .normal) l [] tm s|none=>False:=nd rfl
theorem Yp:kb P B nt (.seq a b) Q tm s=kb P B nt a (nR (kb P B nt b Q) Q) tm s:=nd rfl
theorem TE:kb P B nt (.cond x a b) Q tm s = @CB (x.ev tm) ⟨kb P B nt a Q tm s,kb P B nt b Q tm s⟩:=nd rfl
theorem QI (id:Nat):kb P B nt (.block id a) Q tm s=kb P B nt a (kE id Q) tm s:=nd rfl
theorem TF:kb P B nt (.loop a) Q tm s=bl P B nt a Q tm s:=nd rfl
theorem QJ:kb P B nt (.scope a) Q tm s=lG P B nt a a Q tm s:=nd rfl
theorem TG (id:Nat):kb P B nt (.exit id) Q tm s=Q (.exit id) tm s:=nd rfl
theorem QK (id:Nat):kb P B nt (.label id) Q tm s=Q .normal tm s:=nd rfl
theorem TH (id:Nat):kb P B nt (.goto id) Q tm s=Q (.goto id) tm s:=nd rfl
theorem Yq:kb P B nt .ret Q tm s=Q .ret tm s:=nd rfl
theorem Yr:nR N Q .normal tm s=N tm s:=nd rfl
theorem Ys:nR N Q .ret tm s=Q .ret tm s:=nd rfl
theorem Yt (id:Nat):nR N Q (.exit id) tm s=Q (.exit id) tm s:=nd rfl
theorem Yu (id:Nat):nR N Q (.goto id) tm s=Q (.goto id) tm s:=nd rfl
theorem TI (id:Nat):kE id Q .normal tm s=Q .normal tm s:=nd rfl
theorem TJ (id:Nat):kE id Q .ret tm s=Q .ret tm s:=nd rfl
theorem TK (id l:Nat):kE id Q (.goto l) tm s=Q (.goto l) tm s:=nd rfl
theorem TL (id i:Nat):kE id Q (.exit i) tm s=if i=id then Q .normal tm s else Q (.exit i) tm s:=nd rfl
end
theorem bl.kT {a:AC} {Q:Exit→Tm→St→Prop} {tm:Tm} {s:St} (h:kb P B nt a (nR (bl P B nt a Q) Q) tm s):bl P B nt a Q tm s:=bl.once (iF h)
theorem lG.kT {a r:AC} {Q:Exit→Tm→St→Prop} {tm:Tm} {s:St} (h:kb P B nt r (yX P B nt a Q) tm s):lG P B nt a r Q tm s:=lG.once (iF h)
def wB (tm:Tm) (n m:Nat):Tm→Prop
 | []=>True
 |(k,d)::r=>Wk ((tm.get k).fg n m) d∧wB tm n m r
theorem wB.get {tm:Tm} {n m:Nat} : ∀ {bu:Tm},wB tm n m bu→∀ t,Wk ((tm.get t).fg n m) (bu.get t)
 | [],_,t=>Wk.junk _
 |(k,d)::r,h,t=>by
  simp only[Tm.get]
  split
  ·rename_i hk;subst hk;exact h.1
  ·exact wB.get h.2 t
theorem Holds.re {Q:Exit→Tm→St→Prop} {tm bu:Tm} {s:St} {gk:List (List D)} {act:Act} {w:World} (n m:Nat) (hn:B.s.ah.length≤n) (hm:B.s.aw.length≤m) (ht:wB tm n m bu) (ho:gy (s.cut n m).ah gk)
 (h:Holds B nt tm s act w):Holds B nt bu ⟨gk,(s.cut n m).aw⟩ act w:=by
 obtain⟨M,e,r,hr,h1,h2⟩:=h
 obtain⟨r',le⟩:=(r.cut n m).pR ho
 have e':=e.cut hn hm
 refine⟨M,e'.trans ⟨le,fun _ _ _ _=>rfl,fun o h1 h2=>?_,fun t b c z hl e=> .inl ⟨hl,c,z,e⟩,fun _ _ h=>(h rfl).elim,Nat.le_refl _,rfl,rfl,rfl⟩,r',fun k=>((ht.get k) _ _ _ ((hr k).fg n m)).mono le,h1,h2⟩
 rw[← ho.len]at h2
 exact h1.elim (fun h1=>absurd h2 (Nat.not_lt.2 h1)) fun h1=>(h1 rfl).elim
theorem bl.re {a:AC} {Q:Exit→Tm→St→Prop} {tm:Tm} {s:St} (bu:Tm) (gk:List (List D)) (n m:Nat) (hn:B.s.ah.length≤n) (hm:B.s.aw.length≤m) (ht:wB tm n m bu) (ho:gy (s.cut n m).ah gk)
 (h:bl P B nt a Q bu ⟨gk,(s.cut n m).aw⟩):bl P B nt a Q tm s:=
 fun c hc act w hh=>h c hc act w (hh.re (Q:=Q) n m hn hm ht ho)
theorem bl.ind {ι:Type} {a:AC} {Q:Exit→Tm→St→Prop} (I:ι→Prop) (μ:ι→Nat) (TM:ι→Tm) (ST:ι→St)
 (step : ∀ i,I i→(∀ j,I j→μ j<μ i→bl P B nt a Q (TM j) (ST j))→kb P B nt a (nR (bl P B nt a Q) Q) (TM i) (ST i)) : ∀ i,I i→bl P B nt a Q (TM i) (ST i):=by
 have key : ∀ n i,μ i<n→I i→bl P B nt a Q (TM i) (ST i):=by
  intro n
  induction n with
  |zero=>intro i h;exact absurd h (Nat.not_lt_zero _)
  |succ n ih=>exact fun i h hi=>bl.kT (step i hi fun j hj hD=>ih j (by omega) hj)
 exact fun i hi=>key (μ i+1) i (Nat.lt_succ_self _) hi
theorem drop_cons {α:Type} {l rest:List α} {k:Nat} {x:α} (h:l.drop k=x::rest):l[k]? = some x∧l.drop (k+1)=rest∧decide ((k:Int)<(l.length:Int))=true∧k<l.length:=by
 have h1:l[k]? = some x:=by
  have:(l.drop k)[0]? = some x:=by rw[h];rfl
  simpa using this
 have h2:=(List.getElem?_eq_some_iff.1 h1).1
 refine⟨h1, ?_,by simpa using h2,h2⟩
 have:l.drop (k+1)=(l.drop k).drop 1:=by rw[List.drop_drop]
 rw[this,h];rfl
theorem drop_nil {α:Type} {l:List α} {k:Nat} (h:l.drop k = []):decide ((k:Int)<(l.length:Int))=false:=by
 have:=List.drop_eq_nil_iff.1 h
 simp;omega
theorem bl.qC {a:AC} {Q:Exit→Tm→St→Prop} {tm:Tm} {s:St} (t z':Nat) {z:Nat} (hw:tm.get t = .slice .full z [])
 (h:bl P B nt a Q (tm.set t (.slice (.tok s.aw.length) z' [])) {s with aw:=s.aw++ [some 0]}):bl P B nt a Q tm s:=by
 intro c hc act w ⟨M,e,r,ht,h1,h2⟩
 obtain⟨r',le⟩:=r.blank
 refine h c hc act w ⟨_,Gp e le,r',fun k=>?_,h1,h2⟩
 rw[Tm.Fk]
 split
 ·rename_i hk;subst hk;have:=ht k;rw[hw]at this;exact this.own
 ·exact(ht k).mono le
theorem bl.Dn {a:AC} {Q:Exit→Tm→St→Prop} {tm:Tm} {s:St} (o i z':Nat) {z:Nat} {cs:List D} (hc:s.ah[o]? = some cs) (hi:cs[i]? = some (.slice .full z []))
 (h:bl P B nt a Q tm ⟨s.ah.set o (cs.set i (.slice (.tok s.aw.length) z' [])),s.aw++ [some 0]⟩):bl P B nt a Q tm s:=by
 intro c hcc act w hh
 obtain⟨M,e,r,ht,h1,h2⟩:=hh
 obtain⟨r',le⟩:=r.blank
 have le':Le M s (M.eY s.aw.length none) ⟨s.ah.set o (cs.set i (.slice (.tok s.aw.length) z' [])),s.aw++ [some 0]⟩:=⟨le.G,by simp,le.loc,le.t,le.tk⟩
 have le2:Le (M.eY s.aw.length none) {s with aw:=s.aw++ [some 0]} (M.eY s.aw.length none) ⟨s.ah.set o (cs.set i (.slice (.tok s.aw.length) z' [])),s.aw++ [some 0]⟩:=
  ⟨fun _ _ _ h=>h,by simp,fun _ _=> .refl _,Nat.le_refl _,fun t n' _ e=>⟨n',e,Nat.le_refl _,fun _=>rfl⟩⟩
 have r2:Rel (M.eY s.aw.length none) ⟨s.ah.set o (cs.set i (.slice (.tok s.aw.length) z' [])),s.aw++ [some 0]⟩ w:=by
  refine⟨r'.comm,fun o' ds e=>?_,fun o ho=>r'.jK o (by simpa using ho),fun o o' ho nI=>r'.inj o o' (by simpa using ho) (by simpa using nI),r'.tok,
   fun t b c z o hv e ho=>r'.ff t b c z o hv e (by simpa using ho),r'.fQ⟩
  simp only[List.getElem?_set]at e
  split at e
  ·rename_i ho
   subst ho
   split at e
   ·cases e
    obtain⟨vs,T,g1,g2,g3,g4⟩:=r.obj o cs hc
    refine⟨vs,T,g1,by simpa using g2,g3,fun j d v e1 e2=>?_⟩
    rw[List.getElem?_set]at e1
    split at e1
    ·rename_i hj
     subst hj
     split at e1
     ·cases e1
      exact((g4 i _ v hi e2).own (z':=z')).mono le2
     ·cases e1
    ·exact(g4 j d v e1 e2).mono le'
   ·cases e
  ·obtain⟨vs,T,g1,g2,g3,g4⟩:=r'.obj o' ds e
   exact⟨vs,T,g1,g2,g3,fun i d v e1 e2=>(g4 i d v e1 e2).mono le2⟩
 have ee:Ext B.M B.s B.w (M.eY s.aw.length none) ⟨s.ah.set o (cs.set i (.slice (.tok s.aw.length) z' [])),s.aw++ [some 0]⟩ w:=by
  refine(Gp e le).trans ⟨le2,fun _ _ _ _=>rfl,fun o h1 h2=>?_,fun t b c z hl e=> .inl ⟨hl,c,z,e⟩,fun _ _ h=>(h rfl).elim,Nat.le_refl _,rfl,rfl,rfl⟩
  simp at h2
  exact h1.elim (fun h1=>absurd h2 (Nat.not_lt.2 h1)) fun h1=>(h1 rfl).elim
 exact h c hcc act w ⟨_,ee,r2,fun k=>(ht k).mono le',h1,h2⟩
theorem Dp {ac r:AC} {l:Nat} {Q:Exit→Tm→St→Prop} {tm:Tm} {s:St} (hf:uS ac l=some r) (h:lG P B nt ac r Q tm s):yX P B nt ac Q (.goto l) tm s:=⟨r,hf,h⟩
theorem Sem.ni {a b:AC} {Q:Exit→Tm→St→Prop} {tm:Tm} {s:St} (h:kb P B nt a (nR (Sem P B nt b Q) Q) tm s):Sem P B nt (.seq a b) Q tm s:=Sem.seq (iF h)
theorem Sem.re {a:AC} {Q:Exit→Tm→St→Prop} {tm:Tm} {s:St} (bu:Tm) (gk:List (List D)) (n m:Nat) (hn:B.s.ah.length≤n) (hm:B.s.aw.length≤m) (ht:wB tm n m bu) (ho:gy (s.cut n m).ah gk)
 (h:Sem P B nt a Q bu ⟨gk,(s.cut n m).aw⟩):Sem P B nt a Q tm s:=
 fun c hc act w hh=>h c hc act w (hh.re (Q:=Q) n m hn hm ht ho)
def Has (P:Program) (f nt:Nat) (res:List (Nat×Option (Bool×Nat))) (body:AC):Prop:=∃ fn,P.funcs[f]? = some fn∧cF P fn=some ⟨nt,res,body⟩
theorem aF.go {f:FuncId} {res:List (Nat×Option (Bool×Nat))} {body:AC} {args:List D} {s:St} {d:D} {s':St} (h0:Has P f nt res body) (hl:Nat.ble args.length nt=true)
 (h : ∀ (B:fU) (Q:Exit→Tm→St→Prop),B.s=s→pS s.ah.length s.aw.length res d s'=Q→kb P B nt body Q (mR 0 args) s):aF P f args s d s':=by
 obtain⟨fn,hf,hc⟩:=h0
 exact aF.intro ⟨fn,hf,hc⟩ (Nat.le_of_ble_eq_true hl) fun B hB=>iF (h B _ hB rfl)
theorem aF.aa7 {f:FuncId} {pre post:List D} {rows oJ:List (List D)} {z z' k k':Nat} (h:aF P f (pre++ .slice (.tok 0) z rows::post) ⟨[],[some k]⟩ (.slice (.tok 0) z' oJ) ⟨[],[some k']⟩)
 (hp:D.bL 0 0 pre=true) (ha:D.bL 0 0 post=true) (hw:D.gS 0 0 rows=true) (hw':D.gS 0 0 oJ=true)
 {s:St} {t:Nat} (ht:s.aw[t]? = some (some k)):aF P f (pre++ .slice (.tok t) z rows::post) s (.slice (.tok t) z' oJ) ⟨s.ah,s.aw.set t (some k')⟩:=by
 refine bM.frame [] [t] h (by simp) (by simp) (by simp) (by simpa using (List.getElem?_eq_some_iff.1 ht).1) rfl (fun i o' ds e1 e2=>by simp at e1) rfl (fun i t' e1=>?_)
  ?_ ?_ ?_
 ·cases i with
  |zero=>simp at e1;subst e1;simp[ht]
  |succ i=>simp at e1
 ·have h1:=fB [] [t] _ hp
  have h2:=fB [] [t] _ ha
  rw[fN]at h1 h2
  simp[fN,D.cU,Tag.cU,h1,h2,jk _ _ _ hw]
 ·have h1:=iy (n':=0) (m':=1) (Nat.le_refl 0) (Nat.zero_le 1) _ hp
  have h2:=iy (n':=0) (m':=1) (Nat.le_refl 0) (Nat.zero_le 1) _ ha
  rw[ya]at h1 h2 ⊢
  simp only[List.length_nil,List.length_cons,List.all_append,h1,Bool.true_and,List.all_cons,h2,Bool.and_true,D.ok,Tag.ok,mA (Nat.zero_le 0) (Nat.zero_le 1) _ hw]
  rfl
 ·rintro _ _ ⟨rfl,rfl⟩
  refine⟨by simp[D.back,D.cU,Tag.cU,kB,jk _ _ _ hw'], ?_⟩
  simp[St.back,kF]
theorem ajn (A C:Prop) : @CB (.bool true) ⟨A,C⟩=A:=by simp[CB,uT]
theorem ajo (A C:Prop) : @CB (.bool false) ⟨A,C⟩=C:=by simp[CB,uT]
theorem aa9 (b:Bool) (A C:Prop) : @CB (.bool (!b)) ⟨A,C⟩ = @CB (.bool b) ⟨C,A⟩:=by
 cases b<;>simp[CB,uT]
theorem IT {b:Bool} {A C:Prop} (h1:b=true→A) (h2:b=false→C) : @CB (.bool b) ⟨A,C⟩:=⟨h1,h2⟩
theorem abb {b:Bool} {A C:Prop} (h:b=true) (h1:b=true→A) : @CB (.bool b) ⟨A,C⟩:=IT h1 (fun h'=>by rw[h]at h';cases h')
theorem abd {b:Bool} {A C:Prop} (h:b=false) (h1:b=false→C) : @CB (.bool b) ⟨A,C⟩:=IT (fun h'=>by rw[h]at h';cases h') h1
theorem ae8 {n m:Nat} {res:List (Nat×Option (Bool×Nat))} {d:D} {s':St} {tm:Tm} {s:St} {Q:Exit→Tm→St→Prop} (hQ:pS n m res d s'=Q)
 (h : ∃ l,aU res tm s=some l∧Wk ((aV l).fg n m) d∧gy (s.cut n m).ah s'.ah∧(s.cut n m).aw=s'.aw):Q .ret tm s:=hQ ▸ h
theorem ae9 {n m:Nat} {res:List (Nat×Option (Bool×Nat))} {d:D} {s':St} {tm:Tm} {s:St} {Q:Exit→Tm→St→Prop} (hQ:pS n m res d s'=Q)
 (h : ∃ l,aU res tm s=some l∧Wk ((aV l).fg n m) d∧gy (s.cut n m).ah s'.ah∧(s.cut n m).aw=s'.aw):Q .normal tm s:=hQ ▸ h
end
attribute [go_sem] TD Yn Yo Yp TE QI TF QJ TG QK TH Yq Yr Ys Yt Yu TI TJ TK TL
theorem QL : ∀ (tm:Tm) (s:St) (x:X),aJ (AO.mv x) tm s=some (X.ev tm x,s):=
 fun tm s x=>nd (aJ.eq_1 tm s x)
theorem QM : ∀ (tm:Tm) (s:St) (c a b:X),
 aJ (AO.pick c a b) tm s =
  match X.ev tm c with
  |D.bool t=>some (if t=true then X.ev tm a else X.ev tm b,s)
  |x=>none:=
 fun tm s c a b=>nd (aJ.eq_2 tm s c a b)
theorem QN : ∀ (tm:Tm) (s:St) (zero:List D),
 aJ (AO.alloc zero) tm s=some (D.ptr s.ah.length 0,{ah:=s.ah++ [zero],aw:=s.aw}):=
 fun tm s zero=>nd (aJ.eq_3 tm s zero)
theorem QO : ∀ (tm:Tm) (s:St) (x:X),
 aJ (AO.box x) tm s =
  match (X.ev tm x).row with
  |some r=>some (D.ptr s.ah.length 0,{ah:=s.ah++ [r],aw:=s.aw})
  |none=>none:=
 fun tm s x=>nd (aJ.eq_4 tm s x)
theorem QP : ∀ (tm:Tm) (s:St) (zero:List D) (parts:List (Nat×Nat×X)),
 aJ (AO.build zero parts) tm s =
  match qY zero (List.map (fun(p:Nat×Nat×X)=>(p.fst,p.snd.fst,X.ev tm p.snd.snd)) parts)with
  |some cs=>some (D.agg cs,s)
  |none=>none:=
 fun tm s zero parts=>nd (aJ.eq_5 tm s zero parts)
theorem QQ : ∀ (tm:Tm) (s:St) (zero:List D) (size n:Nat) (parts:List (Nat×X)),
 aJ (AO.du zero size n parts) tm s =
  match jV size (fR zero n) (List.map (fun(p:Nat×X)=>(p.fst,X.ev tm p.snd)) parts)with
  |some rows=>some (D.slice Tag.full size rows,s)
  |none=>none:=
 fun tm s zero size n parts=>nd (aJ.eq_6 tm s zero size n parts)
theorem QR : ∀ (tm:Tm) (s:St) (zero:List D) (size n:Nat) (parts:List (Nat×X)),
 aJ (AO.vg zero size n parts) tm s =
  match jV size (fR zero n) (List.map (fun(p:Nat×X)=>(p.fst,X.ev tm p.snd)) parts)with
  |some rows=>
   some (D.slice (Tag.tok s.aw.length) size rows,{ah:=s.ah,aw:=s.aw++ [some rows.length]})
  |none=>none:=
 fun tm s zero size n parts=>nd (aJ.eq_7 tm s zero size n parts)
theorem QS : ∀ (tm:Tm) (s:St) (x:X),
 aJ (AO.AH x) tm s =
  match X.ev tm x with
  | D.slice (Tag.tok t _) z rows=>
   if rows≠ []∧s.aw[t]? = some (some rows.length)then
    some (D.slice Tag.shared z rows,{ah:=s.ah,aw:=s.aw.set t none})
   else none
  |x=>none:=
 fun tm s x=>nd (aJ.eq_8 tm s x)
theorem QT : ∀ (tm:Tm) (s:St) (x:X) (agg:Bool) (size:Nat),
 aJ (AO.load x agg size) tm s =
  match X.ev tm x with
  | D.ptr o off=>
   match s.ah[o]? with
   |some cs=>
    match part cs off agg size with
    |some d=>some (d,s)
    |none=>none
   |none=>none
  |D.dv row off=>
   match part row off agg size with
   |some d=>some (d,s)
   |none=>none
  |x=>yL x agg size s:=
 fun tm s x agg size=>nd (aJ.eq_9 tm s x agg size)
theorem Np : ∀ (tm:Tm) (s:St) (p x:X) (size:Nat),
 aJ (AO.store p x size) tm s =
  match X.ev tm p,(X.ev tm x).row with
  | D.ptr o off,some r=>
   match s.ah[o]? with
   | some cs=>
    if r.length=size∧off+size≤cs.length then
     some (D.tuple [],{ah:=s.ah.set o (iu cs off r),aw:=s.aw})
    else none
   |none=>none
  |x,fw=>AT x fw size s:=
 fun tm s p x size=>nd (aJ.eq_10 tm s p x size)
theorem Nq : ∀ (tm:Tm) (s:St) (x:X),
 aJ (AO.bS x) tm s =
  match X.ev tm x with
  |D.ptr o off=>some (D.ptr o off,s)
  |D.dv row off=>some (D.dv row off,s)
  |x=>match Mt x with|some d=>some (d,s)|none=>none:=
 fun tm s x=>nd (aJ.eq_11 tm s x)
theorem Nr : ∀ (tm:Tm) (s:St) (op:BinOp) (x y:X),
 aJ (AO.bin op x y) tm s =
  match xa op (X.ev tm x) (X.ev tm y)with
  |some d=>some (d,s)
  |none=>none:=
 fun tm s op x y=>nd (aJ.eq_12 tm s op x y)
theorem Ns : ∀ (tm:Tm) (s:St) (neg:Bool) (x y:X),
 aJ (AO.Ga neg x y) tm s =
  match X.ev tm x,X.ev tm y with
  |D.bool a,D.bool b=>some (D.bool (if neg=true then !a==b else a==b),s)
  |x,fw=>none:=
 fun tm s neg x y=>nd (aJ.eq_13 tm s neg x y)
theorem Nt : ∀ (tm:Tm) (s:St) (neg:Bool) (ks:List Nat) (x y:X),
 aJ (AO.eqs neg ks x y) tm s =
  match X.ev tm x,X.ev tm y with
  |D.agg a,D.agg b=>
   match lq ks a b with
   |some e=>some (D.bool (if neg=true then !e else e),s)
   |none=>none
  |x,fw=>none:=
 fun tm s neg ks x y=>nd (aJ.eq_14 tm s neg ks x y)
theorem Nu : ∀ (tm:Tm) (s:St) (neg:Bool) (x y:X),
 aJ (AO.Gb neg x y) tm s =
  match X.ev tm x,X.ev tm y with
  |D.dR,D.dR=>some (D.bool !neg,s)
  |D.ptr o off,D.dR=>some (D.bool neg,s)
  |D.dv row off,D.dR=>some (D.bool neg,s)
  |x,fw=>none:=
 fun tm s neg x y=>nd (aJ.eq_15 tm s neg x y)
theorem Nv : ∀ (tm:Tm) (s:St) (op:UnOp) (x:X),
 aJ (AO.un op x) tm s =
  match Ib op (X.ev tm x)with
  |some d=>some (d,s)
  |none=>none:=
 fun tm s op x=>nd (aJ.eq_16 tm s op x)
theorem Nw : ∀ (tm:Tm) (s:St) (k:IntKind) (x:X),
 aJ (AO.conv k x) tm s =
  match X.ev tm x with
  |D.int k_1 n=>some (D.int k (k.wrap n),s)
  |x=>none:=
 fun tm s k x=>nd (aJ.eq_17 tm s k x)
theorem Nx : ∀ (tm:Tm) (s:St) (x:X),
 aJ (AO.DU x) tm s =
  match X.ev tm x with
  |D.slice g size rows=>
   match oo rows with
   |some b=>some (D.str b,s)
   |none=>none
  |x=>none:=
 fun tm s x=>nd (aJ.eq_18 tm s x)
theorem Ny : ∀ (tm:Tm) (s:St) (x:X),
 aJ (AO.xO x) tm s =
  match X.ev tm x with
  |D.str l=>some (D.slice Tag.shared 1 (List.map (fun(c:UInt8)=> [D.int IntKind.u8 ↑c.toNat]) l),s)
  |x=>none:=
 fun tm s x=>nd (aJ.eq_19 tm s x)
theorem Nz : ∀ (tm:Tm) (s:St) (size:Nat) (x:X) (lo hi:Option X),
 aJ (AO.CH size x lo hi) tm s =
  match X.ev tm x with
  | D.slice g z rows=>
   match sY (Option.map (fun(x:X)=>X.ev tm x) lo),
    sZ (Option.map (fun(x:X)=>X.ev tm x) hi) rows.length with
   | some l,some h=>
    if(rows = []∨z=size)∧0≤l∧l≤h∧h≤ ↑rows.length then
     some
      (D.slice (if l=0 then g.cut (decide (h = ↑rows.length))else Tag.shared) z
       (List.drop l.toNat (List.take h.toNat rows)),
       s)
    else none
   |x,fw=>none
  |x=>match xc x (Option.map (fun(x:X)=>X.ev tm x) lo) (Option.map (fun(x:X)=>X.ev tm x) hi)with|some d=>some (d,s)|none=>none:=
 fun tm s size x lo hi=>nd (aJ.eq_20 tm s size x lo hi)
theorem NA : ∀ (tm:Tm) (s:St) (x:X) (lo hi:Option X),
 aJ (AO.H8 x lo hi) tm s =
  match X.ev tm x with
  | D.str t=>
   match sY (Option.map (fun(x:X)=>X.ev tm x) lo),sZ (Option.map (fun(x:X)=>X.ev tm x) hi) t.length with
   |some l,some h=>
    if 0≤l∧l≤h∧h≤ ↑t.length then some (D.str (List.drop l.toNat (List.take h.toNat t)),s)else none
   |x,fw=>none
  |x=>none:=
 fun tm s x lo hi=>nd (aJ.eq_21 tm s x lo hi)
theorem NB : ∀ (tm:Tm) (s:St) (x:X) (off:Nat),
 aJ (AO.aq x off) tm s =
  match X.ev tm x with
  |D.ptr o k=>some (D.ptr o (k+off),s)
  |D.dv row k=>some (D.dv row (k+off),s)
  |x=>match DX x off with|some d=>some (d,s)|none=>none:=
 fun tm s x off=>nd (aJ.eq_22 tm s x off)
theorem NC : ∀ (tm:Tm) (s:St) (x:X) (off:Nat) (agg:Bool) (size:Nat),
 aJ (AO.AJ x off agg size) tm s =
  match X.ev tm x with
  |D.agg cs=>
   match part cs off agg size with
   |some d=>some (d,s)
   |none=>none
  |x=>none:=
 fun tm s x off agg size=>nd (aJ.eq_23 tm s x off agg size)
theorem ND : ∀ (tm:Tm) (s:St) (x i:X) (size:Nat),
 aJ (AO.cm x i size) tm s =
  match X.ev tm x,X.ev tm i with
  | D.slice g z rows,D.int k n=>
   if 0≤n∧z=size then
    match rows[n.toNat]? with
    |some row=>some (D.dv row 0,s)
    |none=>none
   else none
  |x,fw=>match xQ x fw size with|some d=>some (d,s)|none=>none:=
 fun tm s x i size=>nd (aJ.eq_24 tm s x i size)
theorem NF : ∀ (tm:Tm) (s:St) (x i:X),
 aJ (AO.AL x i) tm s =
  match X.ev tm x,X.ev tm i with
  | D.str t,D.int k n=>
   if 0≤n then
    match t[n.toNat]? with
    |some c=>some (D.int IntKind.u8 ↑c.toNat,s)
    |none=>none
   else none
  |x,fw=>none:=
 fun tm s x i=>nd (aJ.eq_25 tm s x i)
theorem NG : ∀ (tm:Tm) (s:St) (x:X) (i:Nat),
 aJ (AO.ext x i) tm s =
  match X.ev tm x with
  |D.tuple ds=>
   match ds[i]? with
   |some d=>some (d,s)
   |none=>none
  |x=>none:=
 fun tm s x i=>nd (aJ.eq_26 tm s x i)
theorem NH : ∀ (tm:Tm) (s:St) (x:X),
 aJ (AO.vh x) tm s =
  match X.ev tm x with
  |D.str t=>some (D.int IntKind.i64 ↑t.length,s)
  |x=>none:=
 fun tm s x=>nd (aJ.eq_27 tm s x)
theorem NK : ∀ (tm:Tm) (s:St) (x:X),
 aJ (AO.len x) tm s =
  match X.ev tm x with
  |D.slice g size rows=>some (D.int IntKind.i64 ↑rows.length,s)
  |x=>match Ff x with|some d=>some (d,s)|none=>none:=
 fun tm s x=>nd (aJ.eq_28 tm s x)
theorem NL : ∀ (tm:Tm) (s:St) (size bytes:Nat) (x y:X),
 aJ (AO.app size bytes x y) tm s =
  match X.ev tm x with
  |D.slice g z rows=>ix size bytes (D.slice g z rows) (X.ev tm y) s
  |d=>AU size bytes d (X.ev tm y) s:=
 fun tm s size bytes x y=>nd (aJ.eq_29 tm s size bytes x y)
theorem NM : ∀ (tm:Tm) (s:St) (isMax:Bool) (x y:X),
 aJ (AO.mm isMax x y) tm s =
  match X.ev tm x,X.ev tm y with
  |D.int k a,D.int k' b=>
   if k=k' then some (D.int k (if isMax=true then if b > a then b else a else if b<a then b else a),s)
   else none
  |x,fw=>none:=
 fun tm s isMax x y=>nd (aJ.eq_30 tm s isMax x y)
theorem NN (tm:Tm) (s:St) (r:List D) (T:TypeId):aJ (AO.sX (.dR::r) T) tm s=some (.ptr s.ah.length 0,{ah:=s.ah++ [.fl T s.ah.length::r],aw:=s.aw}):=nd rfl
theorem NO (tm:Tm) (s:St) (x:X) (T:TypeId):aJ (AO.AN x T) tm s =
 match (x.ev tm).row with
 |some (.dR::r)=>some (.ptr s.ah.length 0,{ah:=s.ah++ [.fl T s.ah.length::r],aw:=s.aw})
 |_=>none:=nd rfl
theorem NP (tm:Tm) (s:St) (x y:X):aJ (AO.apps x y) tm s =
 match y.ev tm with
 | .str l=>AS (x.ev tm) (.slice .shared 1 (l.map fun c=> [.int .u8 c.toNat])) s
 |_=>none:=nd rfl
theorem NQ (tm:Tm) (s:St) (x y:X):aJ (AO.AP x y) tm s=AS (x.ev tm) (y.ev tm) s:=nd rfl
theorem NR (tm:Tm) (s:St) (f:Nat) (xs:List X):aJ (AO.uP f xs) tm s=some (.gd f (xs.map fun x=>x.ev tm),s):=nd rfl
theorem NS (tm:Tm) (s:St):aJ AO.uQ tm s=some (.fP s.ah.length,{ah:=s.ah++ [[]],aw:=s.aw}):=nd rfl
theorem NT (tm:Tm) (s:St) (m k v:X):aJ (AO.yJ m k v) tm s =
 match m.ev tm,k.ev tm,v.ev tm with
 | .fP o, .str key, .slice g z rows=>
  match s.ah[o]? with
  |some cs=>match xb key (.slice g z rows) cs with|some jI=>some (.tuple [],{ah:=s.ah.set o jI,aw:=s.aw})|none=>none
  |none=>none
 |_,_,_=>none:=nd rfl
theorem NU (tm:Tm) (s:St) (m k:X) (zero:D):aJ (AO.wg m k zero) tm s =
 match m.ev tm,k.ev tm with
 | .fP o, .str key=>
  match s.ah[o]? with
  |some cs=>match yK key zero cs with|some d=>some (d,s)|none=>none
  |none=>none
 |_,_=>none:=nd rfl
theorem NV (tm:Tm) (s:St) (o:FO) (x y:X):aJ (AO.qX o x y) tm s=match qv o (x.ev tm) (y.ev tm)with|some d=>some (d,s)|none=>none:=nd rfl
theorem NW (tm:Tm) (s:St) (size bytes:Nat) (zero:List D) (l c:X):aJ (AO.AQ size bytes zero l c) tm s =
 match l.ev tm,c.ev tm with
 | .int .i64 n, .int .i64 m=>if n=m∧0≤n∧n*((bytes:Int)+1)≤bA then some (.ep size s.ah.length 0 n.toNat,{s with ah:=s.ah++ [.int .i64 ((0:Nat):Int)::(fR zero n.toNat).flatten]})else none
 |_,_=>none:=nd rfl
theorem IU (o:FO) (x y:X):(AO.qX o x y).core=false:=nd rfl
theorem IV (size bytes:Nat) (zero:List D) (l c:X):(AO.AQ size bytes zero l c).core=true:=nd rfl
theorem IW (f:Nat) (xs:List X):(AO.uP f xs).core=false:=nd rfl
theorem IX:AO.uQ.core=true:=nd rfl
theorem IY (m k v:X):(AO.yJ m k v).core=true:=nd rfl
theorem IZ (m k:X) (zero:D):(AO.wg m k zero).core=false:=nd rfl
theorem QU (n m f:Nat) (cs:List D):D.fg n m (.gd f cs) = .gd f (D.gu n m cs):=nd (by simp only[D.fg])
theorem QV (n m:Nat) (o:Nat):D.fg n m (.fP o)=if o<n then .fP o else .junk:=nd (by simp only[D.fg])
theorem NY (d:Option Nat) (g:Option (Nat×Bool)) (t:Nat) (xs:List X):(AI.jv d g t xs).dst=d:=nd rfl
theorem I0 (x y:X):(AO.AP x y).core=true:=nd rfl
theorem I1 (z:List D) (T:TypeId):(AO.sX z T).core=true:=nd rfl
theorem I2 (x:X) (T:TypeId):(AO.AN x T).core=true:=nd rfl
theorem I3 (x y:X):(AO.apps x y).core=true:=nd rfl
theorem QW (n m:Nat) (v:Value):D.fg n m (.val v) = .val v:=nd (by simp only[D.fg])
theorem QX (n m:Nat) (T:TypeId) (o:Nat):D.fg n m (.fl T o)=if o<n then .fl T o else .junk:=nd (by simp only[D.fg])
theorem TN : ∀ (tm:Tm) (t:Nat),X.ev tm (X.s t)=tm.get t:=
 fun tm t=>nd (X.ev.eq_1 tm t)
theorem TO : ∀ (tm:Tm) (d:D),X.ev tm (X.k d)=d:=
 fun tm d=>nd (X.ev.eq_2 tm d)
theorem NZ : ∀ (tm:Tm) (d:D) (t:Nat),tm.put (some t) d=tm.set t d:=
 fun tm d t=>nd (Tm.put.eq_1 tm d t)
theorem N0 : ∀ (tm:Tm) (d:D),tm.put none d=tm:=
 fun tm d=>nd (Tm.put.eq_2 tm d)
theorem N1 : ∀ (x:Nat) (fw:D),Tm.set [] x fw = [(x,fw)]:=
 fun x fw=>nd (Tm.set.eq_1 x fw)
theorem N2 : ∀ (x:Nat) (fw:D) (k:Nat) (e:D) (r:List (Nat×D)),
 Tm.set ((k,e)::r) x fw=if k=x then(k,fw)::r else(k,e)::Tm.set r x fw:=
 fun x fw k e r=>nd (Tm.set.eq_2 x fw k e r)
theorem N3 : ∀ (x:Nat),Tm.get [] x=D.junk:=
 fun x=>nd (Tm.get.eq_1 x)
theorem N4 : ∀ (x k:Nat) (d:D) (r:List (Nat×D)),Tm.get ((k,d)::r) x=if k=x then d else Tm.get r x:=
 fun x k d r=>nd (Tm.get.eq_2 x k d r)
theorem QY : ∀ (x:Nat),mR x [] = []:=
 fun x=>nd (mR.eq_1 x)
theorem QZ : ∀ (x:Nat) (d:D) (r:List D),mR x (d::r)=(x,d)::mR (x+1) r:=
 fun x d r=>nd (mR.eq_2 x d r)
theorem N5 : ∀ (d:Option Nat) (g:Option (Nat×Bool)) (o:AO),(AI.op d g o).dst=d:=
 fun d g o=>nd (AI.dst.eq_1 d g o)
theorem N6 : ∀ (d:Option Nat) (g:Option (Nat×Bool)) (f:Nat) (xs:List X),(AI.call d g f xs).dst=d:=
 fun d g f xs=>nd (AI.dst.eq_2 d g f xs)
theorem N7 : ∀ (d:Option Nat) (g:Option (Nat×Bool)) (neg:Bool) (fw:X),(AI.nil d g neg fw).dst=d:=
 fun d g neg fw=>nd (AI.dst.eq_3 d g neg fw)
theorem TP : ∀ (cs:List D) (off size:Nat),
 part cs off true size=if off+size≤cs.length then some (D.agg (List.take size (List.drop off cs)))else none:=
 fun cs off size=>nd (part.eq_1 cs off size)
theorem TQ : ∀ (cs:List D) (off size:Nat),part cs off false size=cs[off]? :=
 fun cs off size=>nd (part.eq_2 cs off size)
theorem N8 : ∀ (cs:List D) (off:Nat) (r:List D),
 iu cs off r=List.take off cs++r++List.drop (off+r.length) cs:=
 fun cs off r=>nd (iu.eq_1 cs off r)
theorem Q1 : ∀ (cells:List D),qY cells [] = some cells:=
 fun cells=>nd (qY.eq_1 cells)
theorem Q2 : ∀ (cells:List D) (off size:Nat) (d:D) (rest:List (Nat×Nat×D)),
 qY cells ((off,size,d)::rest) =
  match d.row with
  |none=>none
  |some r=>if r.length=size∧off+size≤cells.length then qY (iu cells off r) rest else none:=
 fun cells off size d rest=>nd (qY.eq_2 cells off size d rest)
theorem I4 : ∀ (size:Nat) (rows:List (List D)),jV size rows [] = some rows:=
 fun size rows=>nd (jV.eq_1 size rows)
theorem I5 : ∀ (size:Nat) (rows:List (List D)) (i:Nat) (d:D) (rest:List (Nat×D)),
 jV size rows ((i,d)::rest) =
  match d.row with
  |none=>none
  |some r=>if r.length=size∧i<rows.length then jV size (rows.set i r) rest else none:=
 fun size rows i d rest=>nd (jV.eq_2 size rows i d rest)
theorem I6 : ∀ (zero:List D),fR zero 0 = []:=
 fun zero=>nd (fR.eq_1 zero)
theorem I7 : ∀ (zero:List D) (i:Nat),fR zero i.succ=zero::fR zero i:=
 fun zero i=>nd (fR.eq_2 zero i)
theorem TR : ∀ (op:BinOp) (k:IntKind) (a:Int) (k':IntKind) (b:Int),
 xa op (D.int k a) (D.int k' b)=if k=k' then gf op k a b else none:=
 fun op k a k' b=>nd (xa.eq_1 op k a k' b)
theorem TS : ∀ (op:BinOp) (a b:List UInt8),xa op (D.str a) (D.str b)=od op a b:=
 fun op a b=>nd (xa.eq_2 op a b)
theorem N9 : ∀ (k:IntKind) (a b:Int),gf BinOp.add k a b=some (D.int k (k.wrap (a+b))):=
 fun k a b=>nd (gf.eq_1 k a b)
theorem Oa : ∀ (k:IntKind) (a b:Int),gf BinOp.sub k a b=some (D.int k (k.wrap (a - b))):=
 fun k a b=>nd (gf.eq_2 k a b)
theorem Oc : ∀ (k:IntKind) (a b:Int),gf BinOp.mul k a b=some (D.int k (k.wrap (a*b))):=
 fun k a b=>nd (gf.eq_3 k a b)
theorem Od : ∀ (k:IntKind) (a b:Int),
 gf BinOp.quo k a b=if b=0 then none else some (D.int k (k.wrap (a.tdiv b))):=
 fun k a b=>nd (gf.eq_4 k a b)
theorem Oe : ∀ (k:IntKind) (a b:Int),gf BinOp.rem k a b=if b=0 then none else some (D.int k (a.tmod b)):=
 fun k a b=>nd (gf.eq_5 k a b)
theorem Og : ∀ (k:IntKind) (a b:Int),gf BinOp.eql k a b=some (D.bool (a==b)):=
 fun k a b=>nd (gf.eq_6 k a b)
theorem Oh : ∀ (k:IntKind) (a b:Int),gf BinOp.neq k a b=some (D.bool (a != b)):=
 fun k a b=>nd (gf.eq_7 k a b)
theorem Oi : ∀ (k:IntKind) (a b:Int),gf BinOp.lss k a b=some (D.bool (decide (a<b))):=
 fun k a b=>nd (gf.eq_8 k a b)
theorem Oj : ∀ (k:IntKind) (a b:Int),gf BinOp.leq k a b=some (D.bool (decide (a≤b))):=
 fun k a b=>nd (gf.eq_9 k a b)
theorem KS : ∀ (k:IntKind) (a b:Int),gf BinOp.gtr k a b=some (D.bool (decide (a > b))):=
 fun k a b=>nd (gf.eq_10 k a b)
theorem KT : ∀ (k:IntKind) (a b:Int),gf BinOp.geq k a b=some (D.bool (decide (a≥b))):=
 fun k a b=>nd (gf.eq_11 k a b)
theorem Ol : ∀ (a b:List UInt8),
 od BinOp.add a b=if a.length+b.length≤bA then some (D.str (a++b))else none:=
 fun a b=>nd (od.eq_1 a b)
theorem Om : ∀ (a b:List UInt8),od BinOp.eql a b=some (D.bool (a==b)):=
 fun a b=>nd (od.eq_2 a b)
theorem On : ∀ (a b:List UInt8),od BinOp.neq a b=some (D.bool !a==b):=
 fun a b=>nd (od.eq_3 a b)
theorem Oo : ∀ (a b:List UInt8),od BinOp.lss a b=some (D.bool (bytesLess a b)):=
 fun a b=>nd (od.eq_4 a b)
theorem Yv : ∀ (k:IntKind) (n:Int),Ib UnOp.neg (D.int k n)=some (D.int k (k.wrap (0 - n))):=
 fun k n=>nd (Ib.eq_1 k n)
theorem Yw : ∀ (b:Bool),Ib UnOp.not (D.bool b)=some (D.bool !b):=
 fun b=>nd (Ib.eq_2 b)
theorem Oq : ∀ (k:IntKind) (a:Int) (k':IntKind) (b:Int),
 mV 0 (D.int k a) (D.int k' b)=if k=k' then some (a==b)else none:=
 fun k a k' b=>nd (mV.eq_1 k a k' b)
theorem Ot : ∀ (a b:Bool),mV 1 (D.bool a) (D.bool b)=some (a==b):=
 fun a b=>nd (mV.eq_2 a b)
theorem Ou : ∀ (a b:List UInt8),mV 2 (D.str a) (D.str b)=some (a==b):=
 fun a b=>nd (mV.eq_3 a b)
theorem KU:lq [] [] [] = some true:=
 nd (lq.eq_1)
theorem KV : ∀ (k:Nat) (ks:List Nat) (WA:D) (xs:List D) (y:D) (ys:List D),
 lq (k::ks) (WA::xs) (y::ys) =
  match mV k WA y with
  |none=>none
  |some true=>lq ks xs ys
  |some false=>some false:=
 fun k ks WA xs y ys=>nd (lq.eq_2 k ks WA xs y ys)
theorem Yx:sY none=some 0:=
 nd (sY.eq_1)
theorem Yy : ∀ (k:IntKind) (n:Int),sY (some (D.int k n))=some n:=
 fun k n=>nd (sY.eq_2 k n)
theorem Yz : ∀ (len:Nat),sZ none len=some ↑len:=
 fun len=>nd (sZ.eq_1 len)
theorem YA : ∀ (len:Nat) (k:IntKind) (n:Int),sZ (some (D.int k n)) len=some n:=
 fun len k n=>nd (sZ.eq_2 len k n)
theorem KW : ∀ (zero:List D),(AO.alloc zero).core=true:=
 fun zero=>nd (AO.core.eq_1 zero)
theorem KX : ∀ (fw:X),(AO.box fw).core=true:=
 fun fw=>nd (AO.core.eq_2 fw)
theorem KY : ∀ (zero:List D) (size n:Nat) (parts:List (Nat×X)),(AO.vg zero size n parts).core=true:=
 fun zero size n parts=>nd (AO.core.eq_3 zero size n parts)
theorem KZ : ∀ (fw:X),(AO.AH fw).core=true:=
 fun fw=>nd (AO.core.eq_4 fw)
theorem K0 : ∀ (p fw:X) (size:Nat),(AO.store p fw size).core=true:=
 fun p fw size=>nd (AO.core.eq_5 p fw size)
theorem K1 : ∀ (size bytes:Nat) (fw y:X),(AO.app size bytes fw y).core=true:=
 fun size bytes fw y=>nd (AO.core.eq_6 size bytes fw y)
theorem K3 : ∀ (val:Nat) (zero:List D),(AI.op (some val) none (AO.alloc zero)).kind=AK.alloc:=
 fun val zero=>nd (AI.kind.eq_1 val zero)
theorem K4 : ∀ (zero:List D),(AO.alloc zero).kind=AK.core:=
 fun zero=>nd (AO.kind.eq_1 zero)
theorem K5 : ∀ (fw:X),(AO.box fw).kind=AK.core:=
 fun fw=>nd (AO.kind.eq_2 fw)
theorem K6 : ∀ (zero:List D) (size n:Nat) (parts:List (Nat×X)),(AO.vg zero size n parts).kind=AK.core:=
 fun zero size n parts=>nd (AO.kind.eq_3 zero size n parts)
theorem K7 : ∀ (fw:X),(AO.AH fw).kind=AK.core:=
 fun fw=>nd (AO.kind.eq_4 fw)
theorem K8 : ∀ (p fw:X) (size:Nat),(AO.store p fw size).kind=AK.core:=
 fun p fw size=>nd (AO.kind.eq_5 p fw size)
theorem K9 : ∀ (size bytes:Nat) (fw y:X),(AO.app size bytes fw y).kind=AK.core:=
 fun size bytes fw y=>nd (AO.kind.eq_6 size bytes fw y)
theorem La : ∀ (fw:X) (agg:Bool) (size:Nat),(AO.load fw agg size).kind=AK.load:=
 fun _ _ _=>nd rfl
theorem Ov:gI AK.core=true:=
 nd (gI.eq_1)
theorem Ow:gI AK.alloc=true:=
 nd (gI.eq_2)
theorem Ox : ∀ (i:AI) (tm:Tm) (d:D),og i tm d [] = True:=
 fun i tm d=>nd (og.eq_1 i tm d)
theorem Oy : ∀ (i:AI) (tm:Tm) (d:D) (s:St) (r:List St),
 og i tm d (s::r)=(jQ i tm s=some d∧og i tm d r):=
 fun i tm d s r=>nd (og.eq_2 i tm d s r)
theorem YB : ∀ (tm:Tm) (s:St) (dst:Option Nat) (o:AO),
 jQ (AI.op dst none o) tm s=Option.map (fun(x:D×St)=>x.fst) (aJ o tm s):=
 fun tm s dst o=>nd (jQ.eq_1 tm s dst o)
theorem YC : ∀ (tm:Tm) (s:St) (dst:Option Nat) (t:Nat) (want:Bool) (o:AO),
 jQ (AI.op dst (some (t,want)) o) tm s =
  match tm.get t with
  |D.bool b=>if b=want then Option.map (fun(x:D×St)=>x.fst) (aJ o tm s)else some (D.tuple [])
  |D.tuple vs=>some (D.tuple [])
  |x=>none:=
 fun tm s dst t want o=>nd (jQ.eq_2 tm s dst t want o)
theorem Lb : ∀ (is:List AI),ng is [] = some []:=
 fun is=>nd (ng.eq_1 is)
theorem Lc : ∀ (is:List AI) (q b:Nat) (r:List (Nat×Nat)),
 ng is ((q,b)::r) =
  match is[q]?,ng is r with
  |some ai,some l=>some ((ai,b)::l)
  |x,fw=>none:=
 fun is q b r=>nd (ng.eq_2 is q b r)
theorem YD : ∀ (tm:Tm) (n m:Nat),wB tm n m [] = True:=
 fun tm n m=>nd (wB.eq_1 tm n m)
theorem YE : ∀ (tm:Tm) (n m k:Nat) (d:D) (r:List (Nat×D)),
 wB tm n m ((k,d)::r)=(Wk (D.fg n m (tm.get k)) d∧wB tm n m r):=
 fun tm n m k d r=>nd (wB.eq_2 tm n m k d r)
theorem TT : ∀ (n m o off:Nat),D.fg n m (D.ptr o off)=if o<n then D.ptr o off else D.junk:=
 fun n m o off=>nd (D.fg.eq_1 n m o off)
theorem TU : ∀ (n m:Nat) (row:List D) (off:Nat),D.fg n m (D.dv row off)=D.dv (D.gu n m row) off:=
 fun n m row off=>nd (D.fg.eq_2 n m row off)
theorem TV : ∀ (n m:Nat) (g:Tag) (z:Nat) (rows:List (List D)),
 D.fg n m (D.slice g z rows)=D.slice (Tag.fg m g) z (D.kz n m rows):=
 fun n m g z rows=>nd (D.fg.eq_3 n m g z rows)
theorem TW : ∀ (n m:Nat) (cs:List D),D.fg n m (D.agg cs)=D.agg (D.gu n m cs):=
 fun n m cs=>nd (D.fg.eq_4 n m cs)
theorem TX : ∀ (n m:Nat) (ds:List D),D.fg n m (D.tuple ds)=D.tuple (D.gu n m ds):=
 fun n m ds=>nd (D.fg.eq_5 n m ds)
theorem TY : ∀ (n m:Nat),D.fg n m D.junk=D.junk:=
 fun n m=>nd (D.fg.eq_6 n m)
theorem T1 : ∀ (n m:Nat) (k:IntKind) (fw:Int),D.fg n m (D.int k fw)=D.int k fw:=
 fun n m k fw=>nd (D.fg.eq_7 n m k fw)
theorem T2 : ∀ (n m:Nat) (b:Bool),D.fg n m (D.bool b)=D.bool b:=
 fun n m b=>nd (D.fg.eq_8 n m b)
theorem T3 : ∀ (n m:Nat) (l:List UInt8),D.fg n m (D.str l)=D.str l:=
 fun n m l=>nd (D.fg.eq_9 n m l)
theorem Q3 : ∀ (n m:Nat),D.fg n m D.dR=D.dR:=
 fun n m=>nd (D.fg.eq_10 n m)
theorem Q4 : ∀ (n m:Nat),D.gu n m [] = []:=
 fun n m=>nd (D.gu.eq_1 n m)
theorem Q5 : ∀ (n m:Nat) (d:D) (r:List D),D.gu n m (d::r)=D.fg n m d::D.gu n m r:=
 fun n m d r=>nd (D.gu.eq_2 n m d r)
theorem Q6 : ∀ (n m:Nat),D.kz n m [] = []:=
 fun n m=>nd (D.kz.eq_1 n m)
theorem Q7 : ∀ (n m:Nat) (d:List D) (r:List (List D)),D.kz n m (d::r)=D.gu n m d::D.kz n m r:=
 fun n m d r=>nd (D.kz.eq_2 n m d r)
theorem Oz : ∀ (m t:Nat) (y:Bool),Tag.fg m (Tag.tok t y)=if t<m then Tag.tok t y else Tag.shared:=
 fun _ _ _=>nd rfl
theorem OA : ∀ (s:St) (n m:Nat),
 s.cut n m = {ah:=List.map (D.gu n m) (List.take n s.ah),aw:=List.take m s.aw}:=
 fun s n m=>nd (St.cut.eq_1 s n m)
theorem T4 : ∀ (d:D),aV [d] = d:=
 fun d=>nd (aV.eq_1 d)
theorem T5 (size bytes t:Nat) (rows:List (List D)) (g:Tag) (r:List D) (s:St):ix size bytes (.slice (.tok t) size rows) (.slice g size [r]) s =
 if(rows.length+1)*(bytes+1)≤bA∧s.aw[t]? = some (some rows.length)then some (.slice (.tok t) size (rows++ [r]),⟨s.ah,s.aw.set t (some (rows.length+1))⟩)else none:=by
 simp only[ix,List.length_singleton]
 by_cases h1:(rows.length+1)*(bytes+1)≤bA<;>by_cases h2:s.aw[t]? = some (some rows.length)<;>simp[h1,h2]
theorem nV {size bytes t:Nat} {rows new:List (List D)} {g:Tag} {s:St} (h1:(rows.length+new.length)*(bytes+1)≤bA) (h2:s.aw[t]? = some (some rows.length)) :
 ix size bytes (.slice (.tok t) size rows) (.slice g size new) s=some (.slice (.tok t) size (rows++new),⟨s.ah,s.aw.set t (some (rows.length+new.length))⟩):=by
 cases new with
 | nil=>
  have:s.aw.set t (some rows.length)=s.aw:=by
   apply List.ext_getElem?
   intro i
   rw[List.getElem?_set]
   split
   ·rename_i hi;subst hi;rw[h2,if_pos (List.getElem?_eq_some_iff.1 h2).1]
   ·rfl
  simp only[List.length_nil,Nat.add_zero]at h1
  simp[ix,h1,this]
 |cons x l=>
  simp only[ix,h1,h2]
  simp
theorem Q8 (size bytes z:Nat) (g:Tag) (r:List D) (s:St):ix size bytes (.slice .full z []) (.slice g size [r]) s =
 if bytes+1≤bA then some (.slice (.tok s.aw.length) size [r],⟨s.ah,s.aw++ [some 1]⟩)else none:=by
 simp[ix]
theorem YF {P:Program} {B:fU} {nt:Nat} (ac:AC) (Q:Exit→Tm→St→Prop) (tm:Tm) (s:St):yX P B nt ac Q .normal tm s=Q .normal tm s:=nd rfl
theorem YG {P:Program} {B:fU} {nt:Nat} (ac:AC) (Q:Exit→Tm→St→Prop) (tm:Tm) (s:St):yX P B nt ac Q .ret tm s=Q .ret tm s:=nd rfl
theorem YH {P:Program} {B:fU} {nt:Nat} (ac:AC) (Q:Exit→Tm→St→Prop) (tm:Tm) (s:St) (i:Nat):yX P B nt ac Q (.exit i) tm s=Q (.exit i) tm s:=nd rfl
theorem YI (m:Nat):Tag.fg m .full = .full:=nd rfl
theorem Q9 (m:Nat):Tag.fg m .shared = .shared:=nd rfl
theorem afa {P:Program} (K:Tm→St→Prop) (tm:Tm) (s:St):kq P [] K tm s=K tm s:=nd rfl
theorem s_op {P:Program} (dst:Option Nat) (o:AO) (r:List AI) (K:Tm→St→Prop) (tm:Tm) (s:St) :
 kq P (.op dst none o::r) K tm s=(match aJ o tm s with|some (d,s')=>kq P r K (tm.put dst d) s'|none=>False):=nd rfl
def KJ (P:Program) (r:List AI) (K:Tm→St→Prop) (tm:Tm) (dst:Option Nat) (d:D) (s:St):Prop:=kq P r K (tm.put dst d) s
theorem ajq {P:Program} (r:List AI) (K:Tm→St→Prop) (tm:Tm) (dst:Option Nat) (d:D) (s:St):KJ P r K tm dst d s=kq P r K (tm.put dst d) s:=nd rfl
theorem s_call {P:Program} (dst:Option Nat) (f:Nat) (xs:List X) (r:List AI) (K:Tm→St→Prop) (tm:Tm) (s:St) :
 kq P (.call dst none f xs::r) K tm s=CL false P f (xs.map (·.ev tm)) s (KJ P r K tm dst):=nd rfl
def NJ (P:Program) (dst:Option Nat) (neg:Bool) (x:D) (r:List AI) (K:Tm→St→Prop) (tm:Tm) (s:St):Prop:=
 match x with
 | .slice _ _ rows=>∀ b:Bool,(rows≠ []→b=false)→kq P r K (tm.put dst (.bool (if neg then !b else b))) s
 |_=>False
theorem abe {P:Program} (dst:Option Nat) (neg:Bool) (x:X) (r:List AI) (K:Tm→St→Prop) (tm:Tm) (s:St) :
 kq P (.nil dst none neg x::r) K tm s=NJ P dst neg (x.ev tm) r K tm s:=nd rfl
theorem YJ {P:Program} (dst:Option Nat) (neg:Bool) (g:Tag) (z:Nat) (d:List D) (l:List (List D)) (r:List AI) (K:Tm→St→Prop) (tm:Tm) (s:St) :
 NJ P dst neg (.slice g z (d::l)) r K tm s=kq P r K (tm.put dst (.bool neg)) s:=by
 simp only[NJ,ne_eq,reduceCtorEq,not_false_eq_true,true_imp_iff,eq_iff_iff]
 refine⟨fun h=>by have:=h false rfl;cases neg<;>exact this,fun h b hb=>?_⟩
 subst hb;cases neg<;>exact h
theorem T6 {P:Program} {dst:Option Nat} {neg:Bool} {g:Tag} {z:Nat} {l:List (List D)} {r:List AI} {K:Tm→St→Prop} {tm:Tm} {s:St}
 (h1:l = []→kq P r K (tm.put dst (.bool (!neg))) s) (h2:kq P r K (tm.put dst (.bool neg)) s):NJ P dst neg (.slice g z l) r K tm s:=by
 intro b hb
 cases b with
 |false=>cases neg<;>exact h2
 |true=>
  have:l = []:=Decidable.byContradiction fun h=>by cases hb h
  cases neg<;>exact h1 this
theorem afc {P:Program} (dst:Option Nat) (t:Nat) (w:Bool) (o:AO) (r:List AI) (K:Tm→St→Prop) (tm:Tm) (s:St) :
 kq P (.op dst (some (t,w)) o::r) K tm s = @GB (tm.get t) w ⟨(kq P (.op dst none o::r) K tm s),(kq P r K (tm.put dst (.tuple [])) s)⟩:=nd rfl
def CV (P:Program) (x:D) (afd:List D) (s:St) (K:D→St→Prop):Prop:=
 match x with
 | .gd f nN=>enters P f=true∧CL false P f (afd++nN) s K
 |_=>False
theorem YK {P:Program} (dst:Option Nat) (t:Nat) (xs:List X) (r:List AI) (K:Tm→St→Prop) (tm:Tm) (s:St) :
 kq P (.jv dst none t xs::r) K tm s=CV P (tm.get t) (xs.map (·.ev tm)) s (KJ P r K tm dst):=nd rfl
theorem CV.use {P:Program} {f:Nat} {nN afd:List D} {s s':St} {d:D} {K:D→St→Prop} (he:enters P f=true) (h:aF P f (afd++nN) s d s') (k:K d s'):CV P (.gd f nN) afd s K:=⟨he,CU h k⟩
theorem T7 {P:Program} (dst:Option Nat) (t:Nat) (w:Bool) (u:Nat) (xs:List X) (r:List AI) (K:Tm→St→Prop) (tm:Tm) (s:St) :
 kq P (.jv dst (some (t,w)) u xs::r) K tm s = @GB (tm.get t) w ⟨(kq P (.jv dst none u xs::r) K tm s),(kq P r K (tm.put dst (.tuple [])) s)⟩:=nd rfl
theorem YL {P:Program} (dst:Option Nat) (t:Nat) (w:Bool) (f:Nat) (xs:List X) (r:List AI) (K:Tm→St→Prop) (tm:Tm) (s:St) :
 kq P (.call dst (some (t,w)) f xs::r) K tm s = @GB (tm.get t) w ⟨(kq P (.call dst none f xs::r) K tm s),(kq P r K (tm.put dst (.tuple [])) s)⟩:=nd rfl
theorem abg {P:Program} (dst:Option Nat) (t:Nat) (w:Bool) (neg:Bool) (x:X) (r:List AI) (K:Tm→St→Prop) (tm:Tm) (s:St) :
 kq P (.nil dst (some (t,w)) neg x::r) K tm s = @GB (tm.get t) w ⟨(kq P (.nil dst none neg x::r) K tm s),(kq P r K (tm.put dst (.tuple [])) s)⟩:=nd rfl
theorem ajr (b:Bool) (A C:Prop) : @GB (.bool b) true ⟨A,C⟩ = @CB (.bool b) ⟨A,C⟩:=nd rfl
theorem ajs (b:Bool) (A C:Prop) : @GB (.bool b) false ⟨A,C⟩ = @CB (.bool b) ⟨C,A⟩:=by
 cases b<;>simp[GB,CB,GJ,uT]
theorem ajt (l:List D) (w:Bool) (A C:Prop) : @GB (.tuple l) w ⟨A,C⟩=C:=nd rfl
theorem afe {P:Program} {K:Tm→St→Prop} (bF:List St) (tm:Tm) (s:St):gj P K [] bF tm s=K tm s:=nd rfl
def OJ (P:Program) (o:AO) (dst:Option Nat) (b:Nat) (r:List (AI×Nat)) (K:Tm→St→Prop) (bF:List St) (tm:Tm) (s:St):Bool→Prop
 |true=>match aJ o tm s with|some (d,s')=>gj P K r (s::bF) (tm.put dst d) s'|none=>False
 |false=>match aJ o tm s with|some (d,_)=>og (.op dst none o) tm d (bF.take b)∧gj P K r bF (tm.put dst d) s|none=>False
theorem ajv {P:Program} {K:Tm→St→Prop} (dst:Option Nat) (o:AO) (b:Nat) (r:List (AI×Nat)) (bF:List St) (tm:Tm) (s:St) :
 gj P K ((.op dst none o,b)::r) bF tm s=OJ P o dst b r K bF tm s o.core:=by
 simp only[gj,nh]
 cases o.core<;>rfl
theorem ajw {P:Program} (o:AO) (dst:Option Nat) (b:Nat) (r:List (AI×Nat)) (K:Tm→St→Prop) (bF:List St) (tm:Tm) (s:St) :
 OJ P o dst b r K bF tm s true=match aJ o tm s with|some (d,s')=>gj P K r (s::bF) (tm.put dst d) s'|none=>False:=nd rfl
theorem ajx {P:Program} (o:AO) (dst:Option Nat) (b:Nat) (r:List (AI×Nat)) (K:Tm→St→Prop) (bF:List St) (tm:Tm) (s:St) :
 OJ P o dst b r K bF tm s false=match aJ o tm s with|some (d,_)=>og (.op dst none o) tm d (bF.take b)∧gj P K r bF (tm.put dst d) s|none=>False:=nd rfl
theorem aff {P:Program} {K:Tm→St→Prop} (dst:Option Nat) (t:Nat) (w:Bool) (o:AO) (b:Nat) (r:List (AI×Nat)) (bF:List St) (tm:Tm) (s:St) :
 gj P K ((.op dst (some (t,w)) o,b)::r) bF tm s = @GB (tm.get t) w ⟨(gj P K ((.op dst none o,b)::r) bF tm s),(gj P K r (if o.core then s::bF else bF) (tm.put dst (.tuple [])) s)⟩:=by
 simp only[GB,gj,nh]
 cases o.core<;>rfl
def KG (P:Program) (K:Tm→St→Prop) (r:List (AI×Nat)) (bF:List St) (tm:Tm) (dst:Option Nat) (d:D) (s:St):Prop:=gj P K r bF (tm.put dst d) s
theorem ajy {P:Program} (K:Tm→St→Prop) (r:List (AI×Nat)) (bF:List St) (tm:Tm) (dst:Option Nat) (d:D) (s:St):KG P K r bF tm dst d s=gj P K r bF (tm.put dst d) s:=nd rfl
theorem g_call {P:Program} {K:Tm→St→Prop} (dst:Option Nat) (f:Nat) (xs:List X) (b:Nat) (r:List (AI×Nat)) (bF:List St) (tm:Tm) (s:St) :
 gj P K ((.call dst none f xs,b)::r) bF tm s=CL true P f (xs.map (·.ev tm)) s (KG P K r (s::bF) tm dst):=nd rfl
theorem YM {P:Program} {K:Tm→St→Prop} (dst:Option Nat) (t:Nat) (w:Bool) (f:Nat) (xs:List X) (b:Nat) (r:List (AI×Nat)) (bF:List St) (tm:Tm) (s:St) :
 gj P K ((.call dst (some (t,w)) f xs,b)::r) bF tm s = @GB (tm.get t) w ⟨(gj P K ((.call dst none f xs,b)::r) bF tm s),(gj P K r (s::bF) (tm.put dst (.tuple [])) s)⟩:=nd rfl
class Ok (p:Prop):Prop where
 out:p
instance:Ok True:=⟨trivial⟩
instance {p q:Prop} [Ok p] [Ok q] : Ok (p∧q):=⟨⟨Ok.out,Ok.out⟩⟩
instance {α:Type} (a:α):Ok (a=a):=⟨rfl⟩
instance (d:D):Ok (Wk d .junk):=⟨Wk.junk d⟩
instance {l l':List D} [Ok (ju l l')] : Ok (Wk (.tuple l) (.tuple l')):=⟨Wk.tuple Ok.out⟩
instance {l l':List D} [Ok (ju l l')] : Ok (Wk (.agg l) (.agg l')):=⟨Wk.agg Ok.out⟩
instance {g:Tag} {z:Nat} {l l':List (List D)} [Ok (gy l l')] : Ok (Wk (.slice g z l) (.slice g z l')):=⟨Wk.rows Ok.out⟩
instance {g:Tag} {z:Nat} {l l':List (List D)} [Ok (gy l l')] : Ok (Wk (.slice g z l) (.slice .shared z l')):=⟨Wk.slice Ok.out⟩
instance (z z':Nat):Ok (Wk (.slice .full z []) (.slice .full z' [])):=⟨Wk.ajg z z'⟩
instance (g:Tag) (z z':Nat):Ok (Wk (.slice g z []) (.slice .shared z' [])):=⟨Wk.nil g z z'⟩
instance (d:D):Ok (Wk d d):=⟨Wk.refl d⟩
instance:Ok (ju [] []):=⟨.nil⟩
instance {d d':D} {l l':List D} [Ok (Wk d d')] [Ok (ju l l')] : Ok (ju (d::l) (d'::l')):=⟨.cons Ok.out Ok.out⟩
instance (l:List D):Ok (ju l l):=⟨ju.refl l⟩
instance:Ok (gy [] []):=⟨.nil⟩
instance {d d':List D} {l l':List (List D)} [Ok (ju d d')] [Ok (gy l l')] : Ok (gy (d::l) (d'::l')):=⟨.cons Ok.out Ok.out⟩
instance {a a' b b':List (List D)} [Ok (gy a a')] [Ok (gy b b')] : Ok (gy (a++b) (a'++b')):=⟨gy.append Ok.out Ok.out⟩
instance (l:List (List D)):Ok (gy l l):=⟨gy.refl l⟩
theorem bs:(∀ b,(true ||b)=true)∧(∀ b,(false ||b)=b)∧(∀ b,(b ||true)=true)∧(∀ b,(b ||false)=b)∧(∀ b,(true && b)=b)∧(∀ b,(false && b)=false)∧(∀ b,(b && true)=b)∧(∀ b,(b && false)=false)∧
 (!true)=false∧(!false)=true∧(∀ b,(!!b)=b)∧((false=true)=False)∧(∀ (α β:Type) (a:α) (f:α→Option β),(some a).bind f=f a)∧
 (∀ (α β γ:Type) (x:Option α) (f:α→Option β) (g:β→Option γ),(x.bind f).bind g=x.bind fun y=>(f y).bind g):=
 ⟨Bool.true_or,Bool.false_or,Bool.or_true,Bool.or_false,Bool.true_and,Bool.false_and,Bool.and_true,Bool.and_false,rfl,rfl,Bool.not_not,by simp,fun _ _ _ _=>rfl,fun _ _ _ x f g=>Option.bind_assoc x f g⟩
attribute [go_sem] aa9 ajn ajo afa s_op ajq s_call abe YJ afc YL abg ajr ajs ajt afe ajv ajw ajx aff ajy g_call YM AO.core AI.kind AO.kind gI
attribute [go_sem] NV NW IU IV YK T7 NR NS NT NU IW IX IY IZ QU QV NY Yl TA
attribute [go_sem] NQ I0 NN NO NP I1 I2 I3 QW QX Yk QG Yg Tx Yh Ty Yi Tz QF Yj TB Nn TC
attribute [go_sem] QL QM QN QO QP QQ QR QS QT Np Nq Nr Ns Nt Nu Nv Nw Nx Ny Nz NA NB NC ND NF NG NH NK NL NM TN TO NZ N0 N1 N2 N3 N4 QY QZ N5 N6 N7 TP TQ N8 Q1 Q2 I4 I5 I6 I7 TR TS N9 Oa Oc Od Oe Og Oh Oi Oj KS KT Ol Om On Oo Yv Yw Oq Ot Ou KU KV Yx Yy Yz YA KW KX KY KZ K0 K1 K3 K4 K5 K6 K7 K8 K9 La Ov Ow Ox Oy YB YC Lb Lc YD YE TT TU TV TW TX TY T1 T2 T3 Q3 Q4 Q5 Q6 Q7 Oz OA T4 T5 Q8 YI Q9 YF YG YH
attribute [go_sem] List.map_cons List.map_nil List.getElem?_cons_zero List.getElem?_cons_succ List.length_cons List.length_nil List.set_cons_zero List.set_cons_succ List.take_succ_cons List.take_zero List.take_nil List.drop_succ_cons List.drop_zero List.drop_nil List.cons_append List.nil_append List.append_nil Nat.zero_add Nat.add_zero Option.map_some Option.map_none
attribute [go_sem] Bool.not_false Bool.not_true List.length_map List.getElem?_map Int.toNat_natCast Int.natCast_nonneg Int.toNat_zero and_self and_true true_and
attribute [go_sem_proc ↓] reduceIte
attribute [go_sem_proc] Int.reduceLE reduceCtorEq Nat.reduceEqDiff Nat.reduceLeDiff Nat.reduceAdd Nat.reduceMul Nat.reduceSub Nat.reduceLT
theorem bo {b:Bool} {A C:Prop} (h1:b=true→A) (h:b=true:=by assumption) : @CB (.bool b) ⟨A,C⟩:=abb h h1
theorem bp {b:Bool} {A C:Prop} (h1:b=false→C) (h:b=false:=by assumption) : @CB (.bool b) ⟨A,C⟩:=abd h h1
theorem bq {b:Bool} {A C:Prop} (h1:b=true→A) (h2:b=false→C) : @CB (.bool b) ⟨A,C⟩:=⟨h1,h2⟩
theorem iZ {a b:Prop} (x:a) (y:b):a∧b:=⟨x,y⟩
theorem bH {α:Type _} (a b:α):(some a=some b)=(a=b):=Option.some.injEq a b
theorem bI {α:Sort _} {p:α→Prop} {a:α} : (∃ x,a=x∧p x)↔p a:=exists_eq_left'
theorem CY {n m:Nat} (h:Nat.ble n m=true):n≤m:=Nat.le_of_ble_eq_true h
theorem aD {n m:Nat} {res:List (Nat×Option (Bool×Nat))} {d:D} {s':St} {e:Exit} {tm:Tm} {s:St} {Q:Exit→Tm→St→Prop} (hQ:pS n m res d s'=Q) (h : ∃ l,aU res tm s=some l∧Wk ((aV l).fg n m) d∧gy (s.cut n m).ah s'.ah∧(s.cut n m).aw=s'.aw) (he:e = .ret∨e = .normal:=by first|exact .inl rfl|exact .inr rfl):Q e tm s:=by cases he with|inl x=>cases x;exact ae8 hQ h|inr x=>cases x;exact ae9 hQ h
theorem cv {p:Prop} (h:p:=by repeat' (first|exact Ok.out|with_reducible refine iZ ?_ ?_|(simp;done))):p:=h
theorem bW {p:Prop} (h:p:=by repeat' (first|exact Ok.out|with_reducible refine iZ ?_ ?_)):p:=h
theorem ga {p:Prop} (h:p:=by(try cases h);simp only[aU,aV,bH,bI,go_sem,hD,hY,hZ,gA];repeat' (first|exact Ok.out|with_reducible refine iZ ?_ ?_|(simp;done))):p:=h
theorem bb {p:Prop} (h:p:=by simp only[aU,aV,bH,bI,go_sem,hD,hY,hZ,gA];repeat' (first|exact Ok.out|with_reducible refine iZ ?_ ?_|(simp;done))):p:=h
theorem lX_ {p:Prop} (h:p:=by simp only[go_sem,hD,hY,hZ,gA];repeat' (first|exact Ok.out|with_reducible refine iZ ?_ ?_)):p:=h
theorem fa {P:Program} {B:fU} {nt:Nat} {a:AC} {Q:Exit→Tm→St→Prop} {tm bu:Tm} {s:St} {gk:List (List D)} (n m:Nat) (h:bl P B nt a Q bu ⟨gk,(s.cut n m).aw⟩) (hn:B.s.ah.length≤n:=by rw[hB];exact CY rfl) (hm:B.s.aw.length≤m:=by rw[hB];exact CY rfl) (ht:wB tm n m bu:=by exact lX_) (ho:gy (s.cut n m).ah gk:=by exact lX_):bl P B nt a Q tm s:=bl.re bu gk n m hn hm ht ho h
theorem eO {P:Program} {B:fU} {nt:Nat} {a:AC} {Q:Exit→Tm→St→Prop} {tm bu:Tm} {s:St} {gk:List (List D)} (n m:Nat) (ht:wB tm n m bu) (ho:gy (s.cut n m).ah gk) (h:bl P B nt a Q bu ⟨gk,(s.cut n m).aw⟩) (hn:B.s.ah.length≤n:=by rw[hB];exact CY rfl) (hm:B.s.aw.length≤m:=by rw[hB];exact CY rfl):bl P B nt a Q tm s:=bl.re bu gk n m hn hm ht ho h
theorem bP:0<1∧0<1∧0<1∧0<1:=⟨Nat.zero_lt_one,Nat.zero_lt_one,Nat.zero_lt_one,Nat.zero_lt_one⟩
end Go.Abs
namespace Go.Abs
mutual
theorem OB (n m:Nat) : ∀ d,D.ok 0 0 d=true→D.fg n m d=d
 | .junk,_=>by simp[D.fg]
 | .int k n,_=>by simp[D.fg]
 | .bool b,_=>by simp[D.fg]
 | .str l,_=>by simp[D.fg]
 | .dR,_=>by simp[D.fg]
 | .val v,_=>by simp[D.fg]
 | .ei z,_=>by simp[D.fg]
 | .fl T o,h=>by simp[D.ok]at h
 | .fP o,h=>by simp[D.ok]at h
 | .gd f cs,h=>by
  simp only[D.ok]at h
  simp only[D.fg,ib n m cs h]
 | .ptr o f,h=>by simp[D.ok]at h
 | .dv r f,h=>by
  simp only[D.ok]at h
  simp only[D.fg,ib n m r h]
 | .slice g z rows,h=>by
  simp only[D.ok,Bool.and_eq_true]at h
  simp only[D.fg,I8 n m rows h.2]
  cases g with
  |tok t y=>simp[Tag.ok]at h
  |full=>rfl
  |shared=>rfl
 | .agg cs,h=>by
  simp only[D.ok]at h
  simp only[D.fg,ib n m cs h]
 | .tuple cs,h=>by
  simp only[D.ok]at h
  simp only[D.fg,ib n m cs h]
theorem ib (n m:Nat) : ∀ l,D.bL 0 0 l=true→D.gu n m l=l
 | [],_=>by simp[D.gu]
 |d::r,h=>by
  simp only[D.bL,Bool.and_eq_true]at h
  simp only[D.gu,OB n m d h.1,ib n m r h.2]
theorem I8 (n m:Nat) : ∀ l,D.gS 0 0 l=true→D.kz n m l=l
 | [],_=>by simp[D.kz]
 |d::r,h=>by
  simp only[D.gS,Bool.and_eq_true]at h
  simp only[D.kz,ib n m d h.1,I8 n m r h.2]
end
theorem gT {α:Type} {f:α→List D} (h : ∀ x,D.bL 0 0 (f x)=true) (l:List α):D.gS 0 0 (l.map f)=true:=by
 simp[Ea,h]
theorem lV {α:Type} {f:α→List D} (h : ∀ x,D.bL 0 0 (f x)=true) (n m:Nat) (l:List α):D.kz n m (l.map f)=l.map f:=I8 n m _ (gT h l)
theorem LD (n m:Nat) : ∀ a b,D.kz n m (a++b)=D.kz n m a++D.kz n m b
 | [],b=>by simp[D.kz]
 |x::a,b=>by simp[D.kz,LD n m a b]
abbrev aG:=List UInt8
structure qa where
 kind:Int
 text:aG
 n:Int
 pos:Int
deriving DecidableEq
structure Ex where
 op:Int
 n:Int
 name:aG
 kids:List Ex
structure Ar where
 ref:Bool
 name:aG
 x:Ex
structure Sm where
 id:Int
 kind:Int
 labels:List aG
 name:aG
 proc:aG
 x:Ex
 has:Bool
 args:List Ar
 aZ:List Sm
 aR:List Sm
structure Pm where
 name:aG
 ref:Bool
structure Pc where
 name:aG
 params:List Pm
 vars:List aG
 body:List Sm
 fin:List aG
structure Pg where
 globals:List aG
 procs:List Pc
def ry:Ex:=⟨0,0,[],[]⟩
def ar0:Ar:=⟨false,[],ry⟩
def I9:Sm:=⟨0,0,[],[],[],ry,false,[],[],[]⟩
def pg0:Pg:=⟨[],[]⟩
def encStr (s:aG):List D:= [.str s]
def jR (t:qa):List D:= [.int .i64 t.kind, .str t.text, .int .i64 t.n, .int .i64 t.pos]
def sl (z:Nat) (rows:List (List D)):D:= .slice .shared z rows
mutual
def cj:Ex→List D
 |⟨op,n,name,kids⟩=> [.int .i64 op, .int .i64 n, .str name, .slice .shared 4 (vx kids)]
def vx:List Ex→List (List D)
 | []=> []
 |x::l=>cj x::vx l
end
theorem Gu : ∀ l,vx l=l.map cj
 | []=>by simp[vx]
 |x::l=>by simp[vx,Gu l]
theorem jb (x:Ex):cj x = [.int .i64 x.op, .int .i64 x.n, .str x.name, .slice .shared 4 (x.kids.map cj)]:=by
 cases x;simp[cj,Gu]
def ew (a:Ar):List D:= [.bool a.ref, .str a.name, .int .i64 a.x.op, .int .i64 a.x.n, .str a.x.name, .slice .shared 4 (a.x.kids.map cj)]
mutual
def bd:Sm→List D
 |⟨id,kind,labels,name,proc,x,has,args,aZ,aR⟩=> [.int .i64 id, .int .i64 kind, .slice .shared 1 (labels.map encStr), .str name, .str proc,
  .int .i64 x.op, .int .i64 x.n, .str x.name, .slice .shared 4 (x.kids.map cj), .bool has, .slice .shared 6 (args.map ew), .slice .shared 13 (tv aZ), .slice .shared 13 (tv aR)]
def tv:List Sm→List (List D)
 | []=> []
 |x::l=>bd x::tv l
end
theorem Gv : ∀ l,tv l=l.map bd
 | []=>by simp[tv]
 |x::l=>by simp[tv,Gv l]
theorem ej (s:Sm):bd s = [.int .i64 s.id, .int .i64 s.kind, .slice .shared 1 (s.labels.map encStr), .str s.name, .str s.proc,
 .int .i64 s.x.op, .int .i64 s.x.n, .str s.x.name, .slice .shared 4 (s.x.kids.map cj), .bool s.has, .slice .shared 6 (s.args.map ew), .slice .shared 13 (s.aZ.map bd), .slice .shared 13 (s.aR.map bd)]:=by
 cases s;simp[bd,Gv]
def iG (p:Pm):List D:= [.str p.name, .bool p.ref]
def cq (p:Pc):List D:= [.str p.name, .slice .shared 2 (p.params.map iG), .slice .shared 1 (p.vars.map encStr), .slice .shared 13 (p.body.map bd), .slice .shared 1 (p.fin.map encStr)]
def cu (p:Pg):List D:= [.slice .shared 1 (p.globals.map encStr), .slice .shared 5 (p.procs.map cq)]
theorem abi (x:qa):(jR x).length=4:=nd rfl
theorem YN (x:qa):List.take 4 (jR x)=jR x:=nd rfl
theorem YO (x:qa):List.drop 4 (jR x) = []:=nd rfl
theorem Ra (x:qa):(jR x)[0]? = some (.int .i64 x.kind):=nd rfl
theorem Rb (x:qa):(jR x)[1]? = some (.str x.text):=nd rfl
theorem Rc (x:qa):(jR x)[2]? = some (.int .i64 x.n):=nd rfl
theorem Re (x:qa):(jR x)[3]? = some (.int .i64 x.pos):=nd rfl
theorem afg (Eg:Int) (WB:aG) (n_:Int) (abk:Int):jR ⟨Eg,WB,n_,abk⟩ = [.int .i64 Eg, .str WB, .int .i64 n_, .int .i64 abk]:=by simp only[jR]
theorem WC (x:Ex):(cj x).length=4:=by simp only[jb];rfl
theorem abl (x:Ex):List.take 4 (cj x)=cj x:=by simp only[jb];rfl
theorem abm (x:Ex):List.drop 4 (cj x) = []:=by simp only[jb];rfl
theorem T8 (x:Ex):(cj x)[0]? = some (.int .i64 x.op):=by simp only[jb];rfl
theorem T9 (x:Ex):(cj x)[1]? = some (.int .i64 x.n):=by simp only[jb];rfl
theorem Ua (x:Ex):(cj x)[2]? = some (.str x.name):=by simp only[jb];rfl
theorem Ub (x:Ex):(cj x)[3]? = some (.slice .shared 4 (x.kids.map cj)):=by simp only[jb];rfl
theorem ajz (op_:Int) (n_:Int) (oN:aG) (WD:List Ex):cj ⟨op_,n_,oN,WD⟩ = [.int .i64 op_, .int .i64 n_, .str oN, .slice .shared 4 (WD.map cj)]:=by simp only[jb]
theorem afh (x:Ar):(ew x).length=6:=nd rfl
theorem abn (x:Ar):List.take 6 (ew x)=ew x:=nd rfl
theorem abo (x:Ar):List.drop 6 (ew x) = []:=nd rfl
theorem Uc (x:Ar):(ew x)[0]? = some (.bool x.ref):=nd rfl
theorem Ud (x:Ar):(ew x)[1]? = some (.str x.name):=nd rfl
theorem Ue (x:Ar):(ew x)[2]? = some (.int .i64 x.x.op):=nd rfl
theorem Uf (x:Ar):(ew x)[3]? = some (.int .i64 x.x.n):=nd rfl
theorem Ug (x:Ar):(ew x)[4]? = some (.str x.x.name):=nd rfl
theorem Uh (x:Ar):(ew x)[5]? = some (.slice .shared 4 (x.x.kids.map cj)):=nd rfl
theorem Ui (x:Ar):List.take 4 (List.drop 2 (ew x))=cj x.x:=by simp only[ew,jb];rfl
theorem ajA (Ja:Bool) (oN:aG) (x_:Ex):ew ⟨Ja,oN,x_⟩ = [.bool Ja, .str oN, .int .i64 x_.op, .int .i64 x_.n, .str x_.name, .slice .shared 4 (x_.kids.map cj)]:=by simp only[ew]
theorem HT (x:Sm):(bd x).length=13:=by simp only[ej];rfl
theorem abp (x:Sm):List.take 13 (bd x)=bd x:=by simp only[ej];rfl
theorem abq (x:Sm):List.drop 13 (bd x) = []:=by simp only[ej];rfl
theorem Uj (x:Sm):(bd x)[0]? = some (.int .i64 x.id):=by simp only[ej];rfl
theorem Uk (x:Sm):(bd x)[1]? = some (.int .i64 x.kind):=by simp only[ej];rfl
theorem Ul (x:Sm):(bd x)[2]? = some (.slice .shared 1 (x.labels.map encStr)):=by simp only[ej];rfl
theorem Um (x:Sm):(bd x)[3]? = some (.str x.name):=by simp only[ej];rfl
theorem Un (x:Sm):(bd x)[4]? = some (.str x.proc):=by simp only[ej];rfl
theorem Uo (x:Sm):(bd x)[5]? = some (.int .i64 x.x.op):=by simp only[ej];rfl
theorem Uq (x:Sm):(bd x)[6]? = some (.int .i64 x.x.n):=by simp only[ej];rfl
theorem Ur (x:Sm):(bd x)[7]? = some (.str x.x.name):=by simp only[ej];rfl
theorem Us (x:Sm):(bd x)[8]? = some (.slice .shared 4 (x.x.kids.map cj)):=by simp only[ej];rfl
theorem Ut (x:Sm):(bd x)[9]? = some (.bool x.has):=by simp only[ej];rfl
theorem Rf (x:Sm):(bd x)[10]? = some (.slice .shared 6 (x.args.map ew)):=by simp only[ej];rfl
theorem Rg (x:Sm):(bd x)[11]? = some (.slice .shared 13 (x.aZ.map bd)):=by simp only[ej];rfl
theorem Rh (x:Sm):(bd x)[12]? = some (.slice .shared 13 (x.aR.map bd)):=by simp only[ej];rfl
theorem Uu (x:Sm):List.take 4 (List.drop 5 (bd x))=cj x.x:=by simp only[ej,jb];rfl
theorem ajB (id_:Int) (Eg:Int) (LF:List aG) (oN:aG) (WE:aG) (x_:Ex) (abr:Bool) (WG:List Ar) (abt:List Sm) (abu:List Sm):bd ⟨id_,Eg,LF,oN,WE,x_,abr,WG,abt,abu⟩ = [.int .i64 id_, .int .i64 Eg, .slice .shared 1 (LF.map encStr), .str oN, .str WE, .int .i64 x_.op, .int .i64 x_.n, .str x_.name, .slice .shared 4 (x_.kids.map cj), .bool abr, .slice .shared 6 (WG.map ew), .slice .shared 13 (abt.map bd), .slice .shared 13 (abu.map bd)]:=by simp only[ej]
theorem afi (x:Pm):(iG x).length=2:=nd rfl
theorem abv (x:Pm):List.take 2 (iG x)=iG x:=nd rfl
theorem abw (x:Pm):List.drop 2 (iG x) = []:=nd rfl
theorem Uv (x:Pm):(iG x)[0]? = some (.str x.name):=nd rfl
theorem Uw (x:Pm):(iG x)[1]? = some (.bool x.ref):=nd rfl
theorem ajC (oN:aG) (Ja:Bool):iG ⟨oN,Ja⟩ = [.str oN, .bool Ja]:=by simp only[iG]
theorem afj (x:Pc):(cq x).length=5:=nd rfl
theorem abx (x:Pc):List.take 5 (cq x)=cq x:=nd rfl
theorem aby (x:Pc):List.drop 5 (cq x) = []:=nd rfl
theorem Ux (x:Pc):(cq x)[0]? = some (.str x.name):=nd rfl
theorem Uy (x:Pc):(cq x)[1]? = some (.slice .shared 2 (x.params.map iG)):=nd rfl
theorem Uz (x:Pc):(cq x)[2]? = some (.slice .shared 1 (x.vars.map encStr)):=nd rfl
theorem UA (x:Pc):(cq x)[3]? = some (.slice .shared 13 (x.body.map bd)):=nd rfl
theorem UB (x:Pc):(cq x)[4]? = some (.slice .shared 1 (x.fin.map encStr)):=nd rfl
theorem ajD (oN:aG) (LG:List Pm) (WH:List aG) (WI:List Sm) (abz:List aG):cq ⟨oN,LG,WH,WI,abz⟩ = [.str oN, .slice .shared 2 (LG.map iG), .slice .shared 1 (WH.map encStr), .slice .shared 13 (WI.map bd), .slice .shared 1 (abz.map encStr)]:=by simp only[cq]
theorem afk (x:Pg):(cu x).length=2:=nd rfl
theorem abA (x:Pg):List.take 2 (cu x)=cu x:=nd rfl
theorem abB (x:Pg):List.drop 2 (cu x) = []:=nd rfl
theorem UC (x:Pg):(cu x)[0]? = some (.slice .shared 1 (x.globals.map encStr)):=nd rfl
theorem UD (x:Pg):(cu x)[1]? = some (.slice .shared 5 (x.procs.map cq)):=nd rfl
theorem ajE (Jb:List aG) (Ri:List Pc):cu ⟨Jb,Ri⟩ = [.slice .shared 1 (Jb.map encStr), .slice .shared 5 (Ri.map cq)]:=by simp only[cu]
attribute [go_sem] abi YN YO Ra Rb Rc Re afg WC abl abm T8 T9 Ua Ub ajz afh abn abo Uc Ud Ue Uf Ug Uh Ui ajA HT abp abq Uj Uk Ul Um Un Uo Uq Ur Us Ut Rf Rg Rh Uu ajB afi abv abw Uv Uw ajC afj abx aby Ux Uy Uz UA UB ajD afk abA abB UC UD ajE
theorem Eh (s:aG):D.bL 0 0 (encStr s)=true:=rfl
theorem WJ (t:qa):D.bL 0 0 (jR t)=true:=rfl
mutual
theorem lR : ∀ x,D.bL 0 0 (cj x)=true
 |⟨op,n,name,kids⟩=>by simp[cj,D.bL,D.ok,Tag.ok,WK kids]
theorem WK : ∀ l,D.gS 0 0 (vx l)=true
 | []=>rfl
 |x::l=>by simp[vx,D.gS,lR x,WK l]
end
theorem OC (a:Ar):D.bL 0 0 (ew a)=true:=by simp[ew,D.bL,D.ok,Tag.ok,gT lR]
mutual
theorem qD : ∀ x,D.bL 0 0 (bd x)=true
 |⟨id,kind,labels,name,proc,x,has,args,aZ,aR⟩=>by simp[bd,D.bL,D.ok,Tag.ok,OD aZ,OD aR,gT Eh,gT lR,gT OC]
theorem OD : ∀ l,D.gS 0 0 (tv l)=true
 | []=>rfl
 |x::l=>by simp[tv,D.gS,qD x,OD l]
end
theorem OE (p:Pm):D.bL 0 0 (iG p)=true:=rfl
theorem xm (p:Pc):D.bL 0 0 (cq p)=true:=by simp[cq,D.bL,D.ok,Tag.ok,gT OE,gT Eh,gT qD]
theorem jc (p:Pg):D.bL 0 0 (cu p)=true:=by simp[cu,D.bL,D.ok,Tag.ok,gT Eh,gT xm]
theorem abC (n m:Nat) (x:qa):D.gu n m (jR x)=jR x:=ib n m _ (WJ x)
theorem afl (n m:Nat) (x:Ex):D.gu n m (cj x)=cj x:=ib n m _ (lR x)
theorem afm (n m:Nat) (x:Ar):D.gu n m (ew x)=ew x:=ib n m _ (OC x)
theorem afn (n m:Nat) (x:Sm):D.gu n m (bd x)=bd x:=ib n m _ (qD x)
theorem afo (n m:Nat) (x:Pm):D.gu n m (iG x)=iG x:=ib n m _ (OE x)
theorem afp (n m:Nat) (x:Pc):D.gu n m (cq x)=cq x:=ib n m _ (xm x)
theorem afq (n m:Nat) (x:Pg):D.gu n m (cu x)=cu x:=ib n m _ (jc x)
attribute [go_sem] abC afl afm afn afo afp afq
theorem fb (l:List aG):D.gS 0 0 (l.map encStr)=true:=gT Eh l
theorem WL (l:List Ex):D.gS 0 0 (l.map cj)=true:=gT lR l
theorem HU (l:List Ar):D.gS 0 0 (l.map ew)=true:=gT OC l
theorem pC (l:List Sm):D.gS 0 0 (l.map bd)=true:=gT qD l
theorem afr (l:List Pm):D.gS 0 0 (l.map iG)=true:=gT OE l
theorem wC (l:List Pc):D.gS 0 0 (l.map cq)=true:=gT xm l
theorem Rj (n m:Nat) (l:List aG):D.kz n m (l.map encStr)=l.map encStr:=lV Eh n m l
theorem abD (n m:Nat) (l:List qa):D.kz n m (l.map jR)=l.map jR:=lV WJ n m l
theorem afs (n m:Nat) (l:List Ex):D.kz n m (l.map cj)=l.map cj:=lV lR n m l
theorem aft (n m:Nat) (l:List Ar):D.kz n m (l.map ew)=l.map ew:=lV OC n m l
theorem afu (n m:Nat) (l:List Sm):D.kz n m (l.map bd)=l.map bd:=lV qD n m l
theorem afv (n m:Nat) (l:List Pm):D.kz n m (l.map iG)=l.map iG:=lV OE n m l
theorem WM (n m:Nat) (l:List Pc):D.kz n m (l.map cq)=l.map cq:=lV xm n m l
theorem abE (x:Ex) (r:List D):cj x++r = .int .i64 x.op:: .int .i64 x.n:: .str x.name:: .slice .shared 4 (x.kids.map cj)::r:=by rw[jb];rfl
theorem YP (d:D) (x:Ex):d::cj x = [d, .int .i64 x.op, .int .i64 x.n, .str x.name, .slice .shared 4 (x.kids.map cj)]:=by rw[jb]
attribute [go_sem] abE YP
theorem afw:((0:Nat):Int)=0:=nd rfl
theorem afx:((1:Nat):Int)=1:=nd rfl
theorem afy:((2:Nat):Int)=2:=nd rfl
attribute [go_sem] afw afx afy LD List.length_append List.map_append encStr ry ar0 I9 pg0 Rj abD afs aft afu afv WM
theorem mx (a b:Nat):(if(b:Int) > (a:Int)then(b:Int)else(a:Int))=((max a b:Nat):Int):=by split<;>omega
theorem eg {x:Int} (h1 : -9223372036854775808≤x) (h2:x<9223372036854775808):IntKind.wrap .i64 x=x:=by
 rw[IntKind.wrap_i64];omega
@[go_sem] theorem aI {n:Nat} (h:n<4611686018427387904):IntKind.wrap .i64 ((n:Int)+1)=((n+1:Nat):Int):=by
 rw[eg]<;>omega
def inc (n:Nat):Option Nat:=if n<4611686018427387904 then some (n+1)else none
def ajF (n:Int):Option Int:=if -4611686018427387904<n∧n<4611686018427387904 then some (n+1)else none
@[go_sem] theorem aik {n:Nat} (h:n+1<4611686018427387904):IntKind.wrap .i64 ((n:Int)+1)=((n+1:Nat):Int):=by
 rw[eg]<;>omega
@[go_sem] theorem ail {n:Nat} (h:n<4611686018427387904):IntKind.wrap .i64 ((n:Int)+2)=((n+2:Nat):Int):=by
 rw[eg]<;>omega
def abF {α:Type} (l:List α) (i:Nat):Option α:=if i<4611686018427387904 then l[i]? else none
def push {α:Type} (k:Nat) (l:List α) (x:α):Option (List α):=if(l.length+1)*k≤bA then some (l++ [x])else none
end Go.Abs
namespace Go.Abs
def CZ (os ts:List Nat) (tm:Tm):Tm→Prop
 | []=>True
 |(k,d)::r=>tm.get k=d.cU os ts∧d.ok os.length ts.length=true∧CZ os ts tm r
theorem CZ.get {os ts:List Nat} {tm:Tm} : ∀ {bu:Tm},CZ os ts tm bu→∀ k,bu.get k = .junk∨(tm.get k=(bu.get k).cU os ts∧(bu.get k).ok os.length ts.length=true)
 | [],_,k=> .inl rfl
 |(q,d)::r,⟨h1,h2,h3⟩,k=>by
  simp only[Tm.get]
  split
  ·rename_i e;subst e;exact .inr ⟨h1,h2⟩
  ·exact h3.get k
section
variable {P:Program} {B:fU} {nt:Nat}
theorem Holds.sel {tm:Tm} {s:St} {act:Act} {w:World} (os:List Nat) (gk:List (List D)) (bu:Tm) (uD:os.Nodup) (iX : ∀ o∈os,o<s.ah.length) (hn:B.s.ah.length≤os.length)
 (hold : ∀ i,i<B.s.ah.length→os[i]? = some i) (dh : ∀ (i o:Nat),os[i]? = some o→B.s.ah.length≤i→B.s.ah.length≤o) (ho:gk.length=os.length)
 (xh : ∀ (i o:Nat) (ds:List D),os[i]? = some o→gk[i]? = some ds→s.ah[o]? = some (D.e9 os (List.range s.aw.length) ds)∧D.bL os.length s.aw.length ds=true)
 (Rk:CZ os (List.range s.aw.length) tm bu) (h:Holds B nt tm s act w):Holds B nt bu ⟨gk,s.aw⟩ act w:=by
 obtain⟨M,e,r,hr,h1,h2⟩:=h
 have s6:(List.range s.aw.length).length=s.aw.length:=List.length_range
 have rg : ∀ (i t:Nat),(List.range s.aw.length)[i]? = some t→i=t:=fun i t h=>by
  rw[List.getElem?_eq_some_iff]at h
  obtain⟨h3,h4⟩:=h
  simpa using h4
 have r0:Rel (gJ M os (List.range s.aw.length)) ⟨gk,s.aw⟩ w:=r.sub uD List.nodup_range iX ho (fun i o ds e1 e2=>by rw[s6];exact xh i o ds e1 e2) s6.symm (fun i t h=>by rw[rg i t h])
 have loc : ∀ (i:Nat) o,os[i]? = some o→(gJ M os (List.range s.aw.length)).loc i=M.loc o:=fun i o h=>by simp only[gJ,ve h]
 have be : ∀ t,t<s.aw.length→(gJ M os (List.range s.aw.length)).be t=M.be t:=fun t h=>by
  have:(List.range s.aw.length)[t]? = some t:=List.getElem?_range h
  simp only[gJ,ve this]
 refine⟨gJ M os (List.range s.aw.length),⟨⟨e.le.G,by rw[ho];exact hn,fun o h=>?_,e.le.t,fun t n' h e'=>?_⟩,e.kept,fun o h3 h4=>?_,fun t b c z hl hb=>?_,e.se,e.size,e.os,e.tape,e.output⟩,r0,fun k=>?_,h1,h2⟩
 ·rw[loc o o (hold o h)];exact e.le.loc o h
 ·obtain⟨n,g1,g2,g3⟩:=e.le.tk t n' h e'
  exact⟨n,g1,g2,fun eq=>by rw[be t (Nat.lt_of_lt_of_le h e.le.t)];exact g3 eq⟩
 ·simp only at h4
  rw[ho]at h4
  obtain⟨q,hq⟩ : ∃ q,os[o]? = some q:=⟨_,List.getElem?_eq_getElem h4⟩
  have mW:(gJ M os (List.range s.aw.length)).mu o=M.mu q:=congrArg Prod.fst (loc o q hq)
  rw[mW]at h3 ⊢
  refine e.tQ q ?_ (iX q (List.mem_of_getElem? hq))
  by_cases h5:B.s.ah.length≤o
  ·exact .inl (dh o q hq h5)
  ·have:=hold o (by omega)
   rw[hq]at this
   cases this
   rcases h3 with h3|h3
   ·exact(h5 h3).elim
   ·exact .inr h3
 ·obtain⟨n,rh⟩:=hl
  have hD:=(List.getElem?_eq_some_iff.1 rh).1
  rw[be t hD]at hb
  exact e.qu t b c z ⟨n,rh⟩ hb
 ·rcases Rk.get k with h3 | ⟨h3,h4⟩
  ·rw[h3];exact .junk _
  ·exact RD.B9 (M:=M) (M0:=gJ M os (List.range s.aw.length)) (s:=s) (s0:=⟨gk,s.aw⟩) rfl loc ho (fun i t h=>by
    have:=rg i t h;subst this;exact be i (by have:=(List.getElem?_eq_some_iff.1 h).1;rwa [s6]at this)) (fun i t h=>by rw[rg i t h]) s6.symm (h3 ▸ hr k) _ rfl h4
theorem bl.sel {a:AC} {Q:Exit→Tm→St→Prop} {tm:Tm} {s:St} (os:List Nat) (gk:List (List D)) (bu:Tm) (uD:os.Nodup) (iX : ∀ o∈os,o<s.ah.length) (hn:B.s.ah.length≤os.length)
 (hold : ∀ i,i<B.s.ah.length→os[i]? = some i) (dh : ∀ (i o:Nat),os[i]? = some o→B.s.ah.length≤i→B.s.ah.length≤o) (ho:gk.length=os.length)
 (xh : ∀ (i o:Nat) (ds:List D),os[i]? = some o→gk[i]? = some ds→s.ah[o]? = some (D.e9 os (List.range s.aw.length) ds)∧D.bL os.length s.aw.length ds=true)
 (Rk:CZ os (List.range s.aw.length) tm bu) (h:bl P B nt a Q bu ⟨gk,s.aw⟩):bl P B nt a Q tm s:=
 fun c hc act w hh=>h c hc act w (hh.sel os gk bu uD iX hn hold dh ho xh Rk)
mutual
def D.fJ (o g:Nat) (rows:List (List D)):D→D
 | .ep z o' g' len=>if o'=o∧g'=g∧len=rows.length then .slice .shared z rows else .ep z o' g' len
 | .dv row off=> .dv (D.jx o g rows row) off
 | .slice t z rs=> .slice t z (D.rz o g rows rs)
 | .agg cs=> .agg (D.jx o g rows cs)
 | .tuple ds=> .tuple (D.jx o g rows ds)
 | .gd f cs=> .gd f (D.jx o g rows cs)
 | .ptr o off=> .ptr o off
 | .junk=> .junk
 | .int k x=> .int k x
 | .bool b=> .bool b
 | .str l=> .str l
 | .dR=> .dR
 | .val v=> .val v
 | .fl T o=> .fl T o
 | .fP o=> .fP o
 | .fm o g off=> .fm o g off
 | .ei z=> .ei z
def D.jx (o g:Nat) (rows:List (List D)):List D→List D
 | []=> []
 |d::r=>D.fJ o g rows d::D.jx o g rows r
def D.rz (o g:Nat) (rows:List (List D)):List (List D)→List (List D)
 | []=> []
 |d::r=>D.jx o g rows d::D.rz o g rows r
end
theorem ou (o g:Nat) (rows:List (List D)) : ∀ l,D.jx o g rows l=l.map (D.fJ o g rows)
 | []=>by simp[D.jx]
 |d::r=>by simp[D.jx,ou o g rows r]
theorem LH (o g:Nat) (rows:List (List D)) : ∀ l,D.rz o g rows l=l.map (D.jx o g rows)
 | []=>by simp[D.rz]
 |d::r=>by simp[D.rz,LH o g rows r]
theorem RD.fJ {M:Map} {s:St} {o g:Nat} {rows:List (List D)} {b cap z:Nat} {A:Nat→Option (Nat×Nat)} (hm:M.ob o = .arr z A) (ha:A g=some (b,cap))
 (hs : ∀ row∈rows,row.length=z) (h1 : ∀ (i:Nat) (row:List D) (j:Nat) (d:D),rows[i]? = some row→row[j]? = some d→∃ u,M.G b (0+(i*z+j))=some u)
 (h2 : ∀ (i:Nat) (row:List D) (j:Nat) (d:D) (u:Value),rows[i]? = some row→row[j]? = some d→M.G b (0+(i*z+j))=some u→RD M s d u)
 {d:D} {v:Value} (h:RD M s d v):RD M s (d.fJ o g rows) v:=by
 induction h with
 | ep z' o' g' len b' qy A' ho z7 wu hl=>
  simp only[D.fJ]
  split
  ·rename_i hc
   obtain⟨rfl,rfl,rfl⟩:=hc
   rw[hm]at z7
   cases z7
   rw[ha]at wu
   cases wu
   exact .slice .shared z rows b 0 cap hl hs h1 h2 trivial
  ·exact .ep z' o' g' len b' qy A' ho z7 wu hl
 |fm z' o' g' off b' qy A' ho z7 wu=>simp only[D.fJ];exact .fm z' o' g' off b' qy A' ho z7 wu
 |ei z a=>simp only[D.fJ];exact .ei z a
 |junk v=>simp only[D.fJ];exact .junk v
 |int k x=>simp only[D.fJ];exact .int k x
 |bool b=>simp only[D.fJ];exact .bool b
 |str l=>simp only[D.fJ];exact .str l
 |dR=>simp only[D.fJ];exact .dR
 |val v hv=>simp only[D.fJ];exact .val v hv
 |fl T o v h ht hv=>simp only[D.fJ];exact .fl T o v h ht hv
 |fP o h hm=>simp only[D.fJ];exact .fP o h hm
 |ptr o off h hm=>simp only[D.fJ];exact .ptr o off h hm
 |gd f ds vs hl _ ih=>
  simp only[D.fJ,ou]
  refine .gd f _ vs (by simpa using hl) (fun i d v e1 e2=>?_)
  simp only[List.getElem?_map,Option.map_eq_some_iff]at e1
  obtain⟨d',e1,rfl⟩:=e1
  exact ih i d' v e1 e2
 | dv row off b k h1 h2 ih=>
  simp only[D.fJ,ou]
  refine .dv _ off b k (fun i d e=>?_) (fun i d u e eu=>?_)
  ·simp only [List.getElem?_map,Option.map_eq_some_iff]at e
   obtain⟨d',e,rfl⟩:=e
   exact h1 i d' e
  ·simp only [List.getElem?_map,Option.map_eq_some_iff]at e
   obtain⟨d',e,rfl⟩:=e
   exact ih i d' u e eu
 |iK t z cap hc ht=>simp only[D.fJ,D.rz];exact .iK _ z cap hc ht
 |lB z a cap=>simp only[D.fJ,D.rz];exact .lB z a cap
 | slice t z rs b k cap hl hs h1 h2 ht ih=>
  simp only[D.fJ,LH]
  have hlen:(rs.map (D.jx o g rows)).length=rs.length:=by simp
  have key:=RD.slice (M:=M) (s:=s) t z (rs.map (D.jx o g rows)) b k cap (by rw[hlen];exact hl) (fun row hr=>by
   obtain⟨kp,h',rfl⟩:=List.mem_map.1 hr
   rw[ou,List.length_map];exact hs kp h')
   (fun i row j d e1 e2=>by
    simp only[List.getElem?_map,Option.map_eq_some_iff]at e1
    obtain⟨kp,e1,rfl⟩:=e1
    rw[ou]at e2
    simp only[List.getElem?_map,Option.map_eq_some_iff]at e2
    obtain⟨d',e2,rfl⟩:=e2
    exact h1 i kp j d' e1 e2)
   (fun i row j d u e1 e2 eu=>by
    simp only[List.getElem?_map,Option.map_eq_some_iff]at e1
    obtain⟨kp,e1,rfl⟩:=e1
    rw[ou]at e2
    simp only[List.getElem?_map,Option.map_eq_some_iff]at e2
    obtain⟨d',e2,rfl⟩:=e2
    exact ih i kp j d' u e1 e2 eu)
   (by rw[hlen];exact ht)
  rw[hlen]at key
  exact key
 |agg cells vs hl h1 _ ih=>
  simp only[D.fJ,ou]
  refine .agg _ vs (by simpa using hl) h1 (fun i d v e1 e2=>?_)
  simp only[List.getElem?_map,Option.map_eq_some_iff]at e1
  obtain⟨d',e1,rfl⟩:=e1
  exact ih i d' v e1 e2
 |tuple ds vs hl _ ih=>
  simp only[D.fJ,ou]
  refine .tuple _ vs (by simpa using hl) (fun i d v e1 e2=>?_)
  simp only[List.getElem?_map,Option.map_eq_some_iff]at e1
  obtain⟨d',e1,rfl⟩:=e1
  exact ih i d' v e1 e2
def fzR (o g:Nat) (rows:List (List D)) (n m:Nat) (ds:List D):List D:=D.gu n m (D.jx o g rows ds)
def WN (o g:Nat) (rows:List (List D)) (m:Nat) (tm:Tm):Tm→Prop
 | []=>True
 |(k,d)::r=>Wk (((tm.get k).fJ o g rows).fg o m) d∧WN o g rows m tm r
end
end Go.Abs
namespace Go.Abs
mutual
def D.flat:D→Bool
 | .int _ _=>true
 | .bool _=>true
 | .str _=>true
 | .tuple ds=>D.Ei ds
 |_=>false
def D.Ei:List D→Bool
 | []=>true
 |d::r=>d.flat && D.Ei r
end
theorem Gw : ∀ {l:List D},D.Ei l=true→∀ {i:Nat} {d:D},l[i]? = some d→d.flat=true
 | [],_,i,d,e=>by simp at e
 |a::l,h,i,d,e=>by
  simp only[D.Ei,Bool.and_eq_true]at h
  cases i with
  |zero=>simp at e;subst e;exact h.1
  |succ i=>exact Gw h.2 (by simpa using e)
theorem RD.flat {M M':Map} {s s':St} {d:D} {v:Value} (h:RD M s d v):d.flat=true→RD M' s' d v:=by
 induction h with
 |int k n=>exact fun _=> .int k n
 |bool b=>exact fun _=> .bool b
 |str l=>exact fun _=> .str l
 |tuple ds vs hl _ ih=>exact fun hf=> .tuple ds vs hl fun i d v e1 e2=>ih i d v e1 e2 (Gw (by simpa only[D.flat]using hf) e1)
 |_=>intro hf;simp only[D.flat,Bool.false_eq_true]at hf
theorem LI {n m:Nat} : ∀ {l:List D},D.bL n m l=true→∀ {i:Nat} {d:D},l[i]? = some d→d.ok n m=true
 | [],_,i,d,e=>by simp at e
 |a::l,h,i,d,e=>by
  simp only[D.bL,Bool.and_eq_true]at h
  cases i with
  |zero=>simp at e;subst e;exact h.1
  |succ i=>exact LI h.2 (by simpa using e)
theorem Rel.CP {M:Map} {s:St} {w w':World} (r:Rel M s w) (CP : ∀ k,k<w.heap.size→w'.heap[k]? = w.heap[k]?) (hs:w.heap.size≤w'.heap.size) (h1:w'.os=w.os) (h2:w'.tape=w.tape) (h3:w'.output=w.output) :
 Rel M s w'∧Ext M s w M s w':=by
 refine⟨⟨fun p o v e=>?_,fun o ds e=>?_,r.jK,r.inj,fun t n e=>?_,r.ff,r.fQ⟩,⟨Le.refl M s,fun k hk _ _=>CP k hk,fun o h h'=>by rcases h with h|h;omega;exact(h rfl).elim,fun t b c z h e=> .inl ⟨h,c,z,e⟩,fun _ _ h=>(h rfl).elim,hs,h1,h2,h3⟩⟩
 ·obtain⟨h1,h2⟩:=r.comm p o v e
  refine⟨?_,h2⟩
  rw[← h1]
  simp only[World.cell?,CP _ (r.AW e)]
 ·obtain⟨vs,T,h1,h2⟩:=r.obj o ds e
  exact⟨vs,T,h1.keep (CP _ h1.lt),h2⟩
 ·rcases r.tok t n e with h | ⟨p,cap,z,vs,T,h1,h2,h3⟩
  ·exact .inl h
  ·exact .inr ⟨p,cap,z,vs,T,h1,by rw[CP _ (kg h2)];exact h2,h3⟩
theorem aF.ajG {P:Program} {f:FuncId} {args:List D} {d:D} {s:St} {o g z:Nat} {rows:List (List D)} {k:Nat} (hk:args[k]? = some (.ep z o g rows.length)) {more:List D}
 (dY:s.ah[o]? = some (.int .i64 (g:Int)::(rows.flatten++more))) (hs : ∀ row∈rows,row.length=z) (h:aF P f (D.jx o g rows args) S0 d S0) (ha:D.bL 0 0 (D.jx o g rows args)=true)
 (hd:d.flat=true):aF P f args s d s:=by
 intro M w fI r hl dM yY
 have hD:=(List.getElem?_eq_some_iff.1 hk).1
 obtain⟨b0,ajH,A,_,_,hm,_⟩:=(yY k _ _ hk (Array.getElem?_eq_getElem (by omega))).xU
 have gZ:nO s o g=some (rows.flatten++more):=by unfold nO;rw[dY];simp
 obtain⟨us,T,cap,hh,xX,CK,avJ,hle,gX,jt⟩:=r.Is hm gZ
 have Fy:o<s.ah.length:=(List.getElem?_eq_some_iff.1 dY).1
 have hGo : ∀ q,M.G (M.mu o) q=none:=r.jK o Fy
 let M':Map:= {M with G:=fun b q=>if b=M.mu o then us[q]? else M.G b q}
 have p7 : ∀ b,b≠M.mu o→∀ q,M'.G b q=M.G b q:=fun b hb q=>if_neg hb
 have le:Le M s M' s:=⟨fun b q v hq=>by
  by_cases hb:b=M.mu o
  ·subst hb;rw[hGo]at hq;cases hq
  ·rw[p7 b hb];exact hq,Nat.le_refl _,fun _ _=> .refl _,Nat.le_refl _,fun t n' _ e=>⟨n',e,Nat.le_refl _,fun _=>rfl⟩⟩
 have iE : ∀ (i:Nat) (row:List D) (j:Nat) (d:D),rows[i]? = some row→row[j]? = some d→(rows.flatten++more)[i*z+j]? = some d:=by
  have gen : ∀ (rows:List (List D)),(∀ row∈rows,row.length=z)→∀ (i:Nat) (row:List D) (j:Nat) (d:D),rows[i]? = some row→row[j]? = some d→rows.flatten[i*z+j]? = some d:=by
   intro rows
   induction rows with
   |nil=>intro _ i row j d e1;simp at e1
   | cons a rows ih=>
    intro hs i row j d e1 e2
    have yf:=hs a (List.mem_cons_self ..)
    rw[List.flatten_cons]
    cases i with
    |zero=>
     simp at e1;subst e1
     rw[Nat.zero_mul,Nat.zero_add,List.getElem?_append_left (List.getElem?_eq_some_iff.1 e2).1];exact e2
    |succ i=>
     rw[List.getElem?_append_right (by rw[Nat.add_mul];omega),yf,show(i+1)*z+j - z=i*z+j by rw[Nat.add_mul];omega]
     exact ih (fun q hq=>hs q (List.mem_cons_of_mem _ hq)) i row j d (by simpa using e1) e2
  intro i row j d e1 e2
  have:=gen rows hs i row j d e1 e2
  rw[List.getElem?_append_left (List.getElem?_eq_some_iff.1 this).1];exact this
 have g1 : ∀ (i:Nat) (row:List D) (j:Nat) (d:D),rows[i]? = some row→row[j]? = some d→∃ u,M'.G (M.mu o) (0+(i*z+j))=some u:=fun i row j d e1 e2=>by
  have hD:=(List.getElem?_eq_some_iff.1 (iE i row j d e1 e2)).1
  refine⟨us[i*z+j]'(by omega), ?_⟩
  show(if M.mu o=M.mu o then us[0+(i*z+j)]? else _)=_
  rw[if_pos rfl,Nat.zero_add]
  exact Array.getElem?_eq_getElem _
 have g2 : ∀ (i:Nat) (row:List D) (j:Nat) (d:D) (u:Value),rows[i]? = some row→row[j]? = some d→M'.G (M.mu o) (0+(i*z+j))=some u→RD M' s d u:=fun i row j d u e1 e2 eu=>by
  have Ej:(if M.mu o=M.mu o then us[0+(i*z+j)]? else M.G (M.mu o) (0+(i*z+j)))=some u:=eu
  rw[if_pos rfl,Nat.zero_add]at Ej
  exact(jt _ d u (iE i row j d e1 e2) Ej).mono le
 have r0:Rel M' S0 w:=⟨fun b q v hq=>by
  have mI:(if b=M.mu o then us[q]? else M.G b q)=some v:=hq
  by_cases hb:b=M.mu o
  ·rw [if_pos hb]at mI
   rw[hb,jh hh]
   exact⟨mI,gX v (Array.mem_of_getElem? mI)⟩
  ·rw [if_neg hb]at mI
   exact r.comm b q v mI,fun o ds e=>by simp[S0]at e,fun o h=>by simp[S0]at h,fun o _ h=>by simp[S0]at h,fun t n e=>by simp[S0]at e,
  fun t b c z o hl _ ho=>by simp[S0]at ho,fun t t' b c z c' z' hl=>by obtain⟨n,hn⟩:=hl;simp[S0]at hn⟩
 have l0:Laid M' S0 w:=fun q cs hq=>⟨(hl q cs hq).1,fun o ho=>by simp[S0]at ho,fun t c z ht=>by obtain⟨n,hn⟩:=ht;simp[S0]at hn⟩
 have a0 : ∀ (i:Nat) (d:D) (v:Value),(D.jx o g rows args)[i]? = some d→fI[i]? = some v→RD M' S0 d v:=fun i d0 v e1 e2=>by
  have pJ:=LI ha e1
  rw[ou,List.getElem?_map,Option.map_eq_some_iff]at e1
  obtain⟨d1,e1,rfl⟩:=e1
  have wD:=((yY i d1 v e1 e2).mono le).fJ (M:=M') hm xX hs g1 g2
  exact RD.B9 (M:=M') (M0:=M') (s:=s) (s0:=S0) (os:= []) (ts:= []) rfl (by simp) rfl (by simp) (by simp) rfl wD _ (qB _ _ _ pJ) pJ
 refine(h M' w fI r0 l0 (by rw[dM,ou,List.length_map]) a0).mono fun e w' ⟨M2,d2,v,s2,h1,⟨h2,h3⟩,hx,_,h4⟩=>?_
 subst h2 h3
 have CP : ∀ k,k<w.heap.size→w'.heap[k]? = w.heap[k]? :=fun k hk=>hx.kept k hk (fun o ho=>by simp[S0]at ho) (fun t c z ht=>by obtain⟨n,hn⟩:=ht;simp[S0]at hn)
 obtain⟨r',e'⟩:=r.CP CP hx.size hx.os hx.tape hx.output
 exact⟨M,d2,v,s,h1,⟨rfl,rfl⟩,e',r',h4.flat hd⟩
section
variable {P:Program} {B:fU} {nt:Nat}
theorem bM.uH {f:FuncId} {res:List (Nat×Option (Bool×Nat))} {body:AC} {args:List D} {s:St} {R:D→St→Prop} (h0:Has P f nt res body) (hl:Nat.ble args.length nt=true)
 (h : ∀ (B:fU) (Q:Exit→Tm→St→Prop),B.s=s→Tr res R=Q→kb P B nt body Q (mR 0 args) s):bM P f args s R:=by
 obtain⟨fn,hf,hc⟩:=h0
 refine bM.HS (bM.Qt (Q:=R) hf hc (Nat.le_of_ble_eq_true hl) fun B hB=>iF (h B _ hB rfl)) fun d s1 h=>⟨d,s1,Wk.refl _,gy.refl _,rfl,h⟩
theorem gL {res:List (Nat×Option (Bool×Nat))} {R:D→St→Prop} {tm:Tm} {s:St} {e:Exit} {Q:Exit→Tm→St→Prop} (hQ:Tr res R=Q) (h : ∃ l,aU res tm s=some l∧R (aV l) s) (he:e = .ret∨e = .normal:=by first|exact .inl rfl|exact .inr rfl):Q e tm s:=by
 subst hQ
 rcases he with rfl|rfl<;>exact h
def upD (R:D→St→Prop) (d:D) (s:St):Prop:=∃ d' s',Wk d d'∧gy s.ah s'.ah∧s.aw=s'.aw∧R d' s'
theorem bM.up {f:FuncId} {args:List D} {s:St} {R:D→St→Prop} (h:bM P f args s (upD R)):bM P f args s R:=
 bM.HS h fun d s1 ⟨d',s',h1,h2,h3,h4⟩=>⟨d',s',h1,h2,h3,h4⟩
def vy (tm:Tm):Tm→Prop
 | []=>True
 |(k,d)::r=>Wk (tm.get k) d∧vy tm r
theorem vy.get {tm:Tm} : ∀ {bu:Tm},vy tm bu→∀ t,Wk (tm.get t) (bu.get t)
 | [],_,t=>Wk.junk _
 |(k,d)::r,h,t=>by
  simp only[Tm.get]
  split
  ·rename_i hk;subst hk;exact h.1
  ·exact vy.get h.2 t
theorem abI (tm:Tm):vy tm [] = True:=nd rfl
theorem abJ (tm:Tm) (k:Nat) (d:D) (r:Tm):vy tm ((k,d)::r)=(Wk (tm.get k) d∧vy tm r):=nd rfl
attribute [go_sem] abI abJ
theorem Holds.pL {tm bu:Tm} {s:St} {act:Act} {w:World} (ht:vy tm bu) (h:Holds B nt tm s act w):Holds B nt bu s act w:=by
 obtain⟨M,e,r,hr,h1,h2⟩:=h
 exact⟨M,e,r,fun k=>ht.get k _ _ _ (hr k),h1,h2⟩
theorem bl.pL {a:AC} {Q:Exit→Tm→St→Prop} {tm bu:Tm} {s:St} (ht:vy tm bu) (h:bl P B nt a Q bu s):bl P B nt a Q tm s:=fun c hc act w hh=>h c hc act w (hh.pL ht)
theorem lG.pL {a r:AC} {Q:Exit→Tm→St→Prop} {tm bu:Tm} {s:St} (ht:vy tm bu) (h:lG P B nt a r Q bu s):lG P B nt a r Q tm s:=fun c rest hc hr act w hh=>h c rest hc hr act w (hh.pL ht)
theorem Sem.pL {a:AC} {Q:Exit→Tm→St→Prop} {tm bu:Tm} {s:St} (ht:vy tm bu) (h:Sem P B nt a Q bu s):Sem P B nt a Q tm s:=fun c hc act w hh=>h c hc act w (hh.pL ht)
end
theorem fV {s:St} {o:Nat} {r:List D} (h:s.ah[o]? = some r):o<s.ah.length:=(List.getElem?_eq_some_iff.1 h).1
theorem LJ {s:St} {a b:Nat} {r r':List D} (h:s.ah[a]? = some r) (h':s.ah[b]? = some r') (hn:r≠r'):a≠b:=fun e=>by subst e;rw[h]at h';cases h';exact hn rfl
end Go.Abs
namespace Go.Abs
theorem aF.AH {P:Program} {f:Nat} {args:List D} {s0 s:St} {o off n m:Nat} {row:List D} (h:aF P f args s0 (.ptr o off) s) (ho:s.ah[o]? = some row) (hn:s0.ah.length≤n) (Ah:n≤o) (hm:s0.aw.length≤m) :
 aF P f args s0 (.dv (D.gu n m row) off) (s.cut n m):=by
 intro M0 w0 fI r0 kA ajI ha
 refine(h M0 w0 fI r0 kA ajI ha).mono ?_
 rintro en w ⟨M,d,v0,s',rfl,⟨rfl,rfl⟩,e,r,hv⟩
 have xS:=hv.AX
 have pQ:v0 = .pointer (some ⟨M.mu o,off,none⟩):=hv.si.1
 have Fy:o<s'.ah.length:=(List.getElem?_eq_some_iff.1 ho).1
 obtain⟨vs,T,hh,dM,⟨gX,_⟩,jt⟩:=r.obj o row ho
 replace hh:w.heap[M.mu o]? = some (.cells vs T (0,0)):=hh.cells xS
 let M':Map:= {M with G:=fun b q=>if b=M.mu o then vs[q]? else M.G b q}
 have hGo : ∀ q,M.G (M.mu o) q=none:=r.jK o Fy
 have le:Le M s' M' s':=⟨fun b q v hq=>by
  show(if b=M.mu o then vs[q]? else M.G b q)=some v
  by_cases hb:b=M.mu o
  ·subst hb;rw[hGo]at hq;cases hq
  ·rw[if_neg hb];exact hq,Nat.le_refl _,fun _ _=> .refl _,Nat.le_refl _,fun t n' _ e=>⟨n',e,Nat.le_refl _,fun _=>rfl⟩⟩
 have hD : ∀ q,q<(s'.cut n m).ah.length→q<s'.ah.length∧q≠o:=fun q h=>by rw[nS]at h;omega
 have wE:w0.heap.size≤M.mu o:=e.tQ o (.inl (by omega)) Fy
 have ec:=e.cut hn hm
 have lec:Le M (s'.cut n m) M' (s'.cut n m):=⟨le.G,Nat.le_refl _,fun _ _=> .refl _,Nat.le_refl _,fun t n' _ e=>⟨n',e,Nat.le_refl _,fun _=>rfl⟩⟩
 have rc:=r.cut n m
 have p7 : ∀ b,b≠M.mu o→∀ q,M'.G b q=M.G b q:=fun b hb q=>if_neg hb
 refine⟨M',_,v0,_,rfl,⟨rfl,rfl⟩,⟨ec.le.trans lec,ec.kept,ec.tQ,ec.qu,fun b q eJ=>?_,ec.size,ec.os,ec.tape,ec.output⟩,⟨fun b q v hq=>?_,fun q ds hq=>?_,fun q hq xd=>?_,rc.inj,fun t n' Eb=>?_,rc.ff,rc.fQ⟩, ?_⟩
 ·by_cases hb:b=M.mu o
  ·subst hb;exact .inl wE
  ·rw[p7 b hb]at eJ;exact ec.se b q eJ
 ·have mI:(if b=M.mu o then vs[q]? else M.G b q)=some v:=hq
  by_cases hb:b=M.mu o
  ·rw [if_pos hb]at mI
   rw[hb,jh hh]
   exact⟨mI,gX v (Array.mem_of_getElem? mI)⟩
  ·rw [if_neg hb]at mI
   exact r.comm b q v mI
 ·obtain⟨fD,T',h3,h4,h5,h6⟩:=rc.obj q ds hq
  exact⟨fD,T',h3,h4,h5,fun i d v e1 e2=>(h6 i d v e1 e2).mono lec⟩
 ·obtain⟨h3,h4⟩:=hD q hq
  show M'.G (M.mu q) xd=none
  rw[p7 _ (fun e=>h4 (r.inj q o h3 Fy e))]
  exact r.jK q h3 xd
 ·rcases rc.tok t n' Eb with h3 | ⟨b,cap,z,fD,T',h3,h4,h5,h6,h7⟩
  ·exact .inl h3
  ·refine .inr ⟨b,cap,z,fD,T',h3,h4,h5,h6,fun xd Dl=> ?_,h7.2⟩
   rw[p7 _ (fun e=>r.ff t b cap z o (vu ⟨n',Eb⟩) h3 Fy e.symm)]
   exact h7.1 xd Dl
 ·rw [pQ]
  have:=RD.dv (M:=M') (s:=s'.cut n m) (D.gu n m row) off (M.mu o) 0 (fun i d e1=>?_) (fun i d u e1 eu=>?_)
  ·simpa using this
  ·rw [nc,List.getElem?_map,Option.map_eq_some_iff]at e1
   obtain⟨d0,e1,rfl⟩:=e1
   have hi:=(List.getElem?_eq_some_iff.1 e1).1
   refine⟨vs[i]'(by omega), ?_⟩
   show(if M.mu o=M.mu o then vs[0+i]? else _)=_
   rw[if_pos rfl,Nat.zero_add]
   exact Array.getElem?_eq_getElem _
  ·rw [nc,List.getElem?_map,Option.map_eq_some_iff]at e1
   obtain⟨d0,e1,rfl⟩:=e1
   have Ej:(if M.mu o=M.mu o then vs[0+i]? else M.G (M.mu o) (0+i))=some u:=eu
   rw[if_pos rfl,Nat.zero_add]at Ej
   exact((jt i d0 u e1 Ej).fg n m).mono lec
theorem aF.goK {P:Program} {f:FuncId} {res:List (Nat×Option (Bool×Nat))} {body:AC} {args:List D} {s:St} {d:D} {s':St} {nt:Nat} (n m:Nat) (hn:s.ah.length≤n) (hm:s.aw.length≤m) (h0:Has P f nt res body) (hl:Nat.ble args.length nt=true)
 (h : ∀ (B:fU) (Q:Exit→Tm→St→Prop),B.s=s→pS n m res d s'=Q→kb P B nt body Q (mR 0 args) s):aF P f args s d s':=by
 obtain⟨fn,hf,hc⟩:=h0
 refine bM.HS (bM.intro (Q:=fun d1 s1=>Wk d1 d∧gy s1.ah s'.ah∧s1.aw=s'.aw) hf hc (Nat.le_of_ble_eq_true hl) fun B hB=>(iF (h B _ hB rfl)).mono fun e tm s1 hr=>?_) fun d1 s1 ⟨h1,h2,h3⟩=>⟨d,s',h1,h2,h3,rfl,rfl⟩
 subst hB
 cases e with
 |normal=>obtain⟨l,h1,h2,h3,h4⟩:=hr;exact⟨l,h1,_,_,hn,hm,h2,h3,h4⟩
 |ret=>obtain⟨l,h1,h2,h3,h4⟩:=hr;exact⟨l,h1,_,_,hn,hm,h2,h3,h4⟩
 |exit id=>exact hr.elim
 |goto l=>exact hr.elim
 |panic ch=>exact hr.elim
 |outgrown=>exact hr.elim
section
variable (s:St) (o g off len k z size bytes:Nat) (kk:IntKind)
theorem afz:nO s o g=match s.ah[o]? with|some (.int .i64 n::cells)=>if n=(g:Int)then some cells else none|_=>none:=nd rfl
theorem abL (agg:Bool):yL (.fm o g off) agg size s=match nO s o g with|some cells=>(match part cells off agg size with|some d=>some (d,s)|none=>none)|none=>none:=nd rfl
theorem YQ (r:List D):AT (.fm o g off) (some r) size s=match nO s o g with
 |some cells=>if r.length=size∧off+size≤cells.length then some (.tuple [],⟨s.ah.set o (.int .i64 g::iu cells off r),s.aw⟩)else none
 |none=>none:=nd rfl
theorem afA:Mt (.fm o g off)=some (.fm o g off):=nd rfl
theorem YR:DX (.fm o g k) off=some (.fm o g (k+off)):=nd rfl
theorem YS:xQ (.ep z o g len) (.int kk (k:Int)) size=if k<len then(if z=size then some (.fm o g (k*z))else none)else none:=by
 simp only[xQ]
 by_cases h1:k<len<;>by_cases h2:z=size<;>simp[h1,h2]
theorem afB:Ff (.ep z o g len)=some (.int .i64 len):=nd rfl
theorem abM:Ff (.ei z)=some (.int .i64 0):=nd rfl
theorem Jd {z bytes:Nat} (t:Tag) (r:List D) (s:St) (hm:bytes+1≤bA):AU z bytes (.ei z) (.slice t z [r]) s=some (.ep z s.ah.length 0 1,⟨s.ah++ [.int .i64 ((0:Nat):Int)::r],s.aw⟩):=by
 simp[AU,hm]
theorem afC (n m:Nat):D.fg n m (.ep z o g len)=if o<n then .ep z o g len else .junk:=nd (by simp only[D.fg])
theorem afD (n m:Nat):D.fg n m (.fm o g off)=if o<n then .fm o g off else .junk:=nd (by simp only[D.fg])
theorem afE (n m:Nat):D.fg n m (.ei z) = .ei z:=nd (by simp only[D.fg])
theorem abN:(D.ep z o g len).row=some [.ep z o g len]:=nd rfl
theorem abO:(D.fm o g off).row=some [.fm o g off]:=nd rfl
theorem abP:(D.ei z).row=some [.ei z]:=nd rfl
end
attribute [go_sem] afz abL YQ afA YR YS afB abM afC afD afE abN abO abP
theorem Wk.ei (z z':Nat):Wk (.slice .full z []) (.ei z'):=fun M s v h=>by
 cases h with
 |iK _ _ cap hc ht=>subst hc;exact .ei z' none
 |slice _ _ _ b k cap hl hs h1 h2 ht=>
  have:cap=0:=ht
  subst this
  exact .ei z' _
instance (z z':Nat):Ok (Wk (.slice .full z []) (.ei z')):=⟨Wk.ei z z'⟩
instance {a a' b b':List D} [Ok (ju a a')] [Ok (ju b b')] : Ok (ju (a++b) (a'++b')):=⟨ju.append Ok.out Ok.out⟩
theorem afF (n m:Nat) (a b:List D):D.gu n m (a++b)=D.gu n m a++D.gu n m b:=nd (by simp only[nc,List.map_append])
attribute [go_sem] afF
def Bi (os:List Nat) (m:Nat) (ah:List (List D)):List Nat→List (List D)→Prop
 | [],[]=>True
 |o::l,ds::r=>ah[o]? = some (D.e9 os (List.range m) ds)∧D.bL os.length m ds=true∧Bi os m ah l r
 |_,_=>False
theorem Bi.get {os:List Nat} {m:Nat} {ah:List (List D)} : ∀ {l:List Nat} {r:List (List D)},Bi os m ah l r→r.length=l.length∧∀ (i o:Nat) (ds:List D),l[i]? = some o→r[i]? = some ds→ah[o]? = some (D.e9 os (List.range m) ds)∧D.bL os.length m ds=true
 | [],[],_=>⟨rfl,fun i o ds h=>by simp at h⟩
 |o::l,ds::r,⟨h1,h2,h3⟩=>by
  obtain⟨g1,g2⟩:=h3.get
  refine⟨by simp[g1],fun i o' nH e1 e2=>?_⟩
  cases i with
  |zero=>simp at e1 e2;subst e1 e2;exact⟨h1,h2⟩
  |succ i=>exact g2 i o' nH (by simpa using e1) (by simpa using e2)
 | [],_::_,h=>h.elim
 |_::_,[],h=>h.elim
section
variable {P:Program} {B:fU} {nt:Nat} {a:AC} {Q:Exit→Tm→St→Prop} {tm:Tm} {s:St}
theorem bl.ajJ (hB:B.s = ⟨[],[]⟩) (os:List Nat) (gk:List (List D)) (bu:Tm) (uD:os.Nodup) (iX : ∀ o∈os,o<s.ah.length) (xh:Bi os s.aw.length s.ah os gk) (Rk:CZ os (List.range s.aw.length) tm bu)
 (h:bl P B nt a Q bu ⟨gk,s.aw⟩):bl P B nt a Q tm s:=
 bl.sel os gk bu uD iX (by rw[hB];exact Nat.zero_le _) (fun i h=>by rw[hB]at h;exact absurd h (Nat.not_lt_zero _)) (fun i o _ _=>by rw[hB];exact Nat.zero_le _) xh.get.1 xh.get.2 Rk h
end
section
variable (os ts:List Nat) (n m:Nat)
theorem afG (o off:Nat):D.cU os ts (.ptr o off)=match os[o]? with|some o'=> .ptr o' off|none=> .junk:=nd (by simp only[D.cU]<;>rfl)
theorem afH (z o g len:Nat):D.cU os ts (.ep z o g len)=match os[o]? with|some o'=> .ep z o' g len|none=> .junk:=nd (by simp only[D.cU]<;>rfl)
theorem YT (g:Tag) (z:Nat) (rows:List (List D)):D.cU os ts (.slice g z rows) = .slice (g.cU ts) z (D.nT os ts rows):=nd (by simp only[D.cU])
theorem afI (l:List D):D.cU os ts (.agg l) = .agg (D.e9 os ts l):=nd (by simp only[D.cU])
theorem abQ:D.cU os ts .junk = .junk:=nd (by simp only[D.cU])
theorem afJ (k:IntKind) (x:Int):D.cU os ts (.int k x) = .int k x:=nd (by simp only[D.cU])
theorem abR (b:Bool):D.cU os ts (.bool b) = .bool b:=nd (by simp only[D.cU])
theorem afK (l:List UInt8):D.cU os ts (.str l) = .str l:=nd (by simp only[D.cU])
theorem abS:D.cU os ts .dR = .dR:=nd (by simp only[D.cU])
theorem abT (z:Nat):D.cU os ts (.ei z) = .ei z:=nd (by simp only[D.cU])
theorem YU:D.e9 os ts [] = []:=nd (by simp only[D.e9])
theorem YV (d:D) (l:List D):D.e9 os ts (d::l)=D.cU os ts d::D.e9 os ts l:=nd (by simp only[D.e9])
theorem UE:Tag.cU ts .shared = .shared:=nd rfl
theorem abU:Tag.cU ts .full = .full:=nd rfl
theorem YW (o off:Nat):D.ok n m (.ptr o off)=decide (o<n):=nd (by simp only[D.ok])
theorem YX (z o g len:Nat):D.ok n m (.ep z o g len)=decide (o<n):=nd (by simp only[D.ok])
theorem Rm (g:Tag) (z:Nat) (rows:List (List D)):D.ok n m (.slice g z rows)=(g.ok m && D.gS n m rows):=nd (by simp only[D.ok])
theorem YY (l:List D):D.ok n m (.agg l)=D.bL n m l:=nd (by simp only[D.ok])
theorem UF:D.ok n m .junk=true:=nd (by simp only[D.ok])
theorem YZ (k:IntKind) (x:Int):D.ok n m (.int k x)=true:=nd (by simp only[D.ok])
theorem UG (b:Bool):D.ok n m (.bool b)=true:=nd (by simp only[D.ok])
theorem Y0 (l:List UInt8):D.ok n m (.str l)=true:=nd (by simp only[D.ok])
theorem UH:D.ok n m .dR=true:=nd (by simp only[D.ok])
theorem UI (z:Nat):D.ok n m (.ei z)=true:=nd (by simp only[D.ok])
theorem abV:D.bL n m [] = true:=nd (by simp only[D.bL])
theorem abW (d:D) (l:List D):D.bL n m (d::l)=(D.ok n m d && D.bL n m l):=nd (by simp only[D.bL])
theorem OF:Tag.ok m .shared=true:=nd rfl
theorem UJ:Tag.ok m .full=true:=nd rfl
theorem Y1 (os:List Nat) (m:Nat) (ah:List (List D)):Bi os m ah [] [] = True:=nd rfl
theorem Y2 (os:List Nat) (m:Nat) (ah:List (List D)) (o:Nat) (l:List Nat) (ds:List D) (r:List (List D)):Bi os m ah (o::l) (ds::r)=(ah[o]? = some (D.e9 os (List.range m) ds)∧D.bL os.length m ds=true∧Bi os m ah l r):=nd rfl
theorem abX (tm:Tm):CZ os ts tm [] = True:=nd rfl
theorem abY (tm:Tm) (k:Nat) (d:D) (r:Tm):CZ os ts tm ((k,d)::r)=(tm.get k=d.cU os ts∧d.ok os.length ts.length=true∧CZ os ts tm r):=nd rfl
theorem Je (rows:List (List D)) (h:D.gS 0 0 rows=true):D.nT os ts rows=rows:=jk os ts rows h
theorem Ek (row:List D) (h:D.bL 0 0 row=true):D.e9 os ts row=row:=fB os ts row h
theorem OG (rows:List (List D)) (h:D.gS 0 0 rows=true):D.gS n m rows=true:=mA (Nat.zero_le n) (Nat.zero_le m) rows h
theorem HV (row:List D) (h:D.bL 0 0 row=true):D.bL n m row=true:=iy (Nat.zero_le n) (Nat.zero_le m) row h
theorem LK (p:Pg):D.e9 os ts (cu p)=cu p:=Ek _ _ _ (jc p)
theorem Y3 (p:Sm):D.e9 os ts (bd p)=bd p:=Ek _ _ _ (qD p)
theorem UK (l:List Pc):D.nT os ts (l.map cq)=l.map cq:=Je _ _ _ (wC l)
theorem UL (l:List Sm):D.nT os ts (l.map bd)=l.map bd:=Je _ _ _ (pC l)
theorem Rn (l:List aG):D.nT os ts (l.map encStr)=l.map encStr:=Je _ _ _ (fb l)
theorem Y4 (p:Pc):D.e9 os ts (cq p)=cq p:=Ek _ _ _ (xm p)
theorem abZ (p:Pc):D.bL n m (cq p)=true:=HV _ _ _ (xm p)
theorem Ro (p:Pg):D.bL n m (cu p)=true:=HV _ _ _ (jc p)
theorem ab0 (p:Sm):D.bL n m (bd p)=true:=HV _ _ _ (qD p)
theorem Y5 (l:List Pc):D.gS n m (l.map cq)=true:=OG _ _ _ (wC l)
theorem Y6 (l:List Sm):D.gS n m (l.map bd)=true:=OG _ _ _ (pC l)
theorem UM (l:List aG):D.gS n m (l.map encStr)=true:=OG _ _ _ (fb l)
theorem OH : ∀ l:List Pc,D.bL 0 0 ((l.map cq).flatten)=true:=fun l=>by
 have h:=wC l
 rw[Ea,List.all_eq_true]at h
 rw[ya,List.all_eq_true]
 intro d hd
 obtain⟨r,hr,hd⟩:=List.mem_flatten.1 hd
 have:=h r hr
 rw[ya,List.all_eq_true]at this
 exact this d hd
theorem UN (l:List Pc):D.e9 os ts ((l.map cq).flatten)=(l.map cq).flatten:=Ek _ _ _ (OH l)
theorem Y7 (l:List Pc):D.bL n m ((l.map cq).flatten)=true:=HV _ _ _ (OH l)
theorem Y8 (l:List Pc):D.gu n m ((l.map cq).flatten)=(l.map cq).flatten:=ib _ _ _ (OH l)
end
attribute [go_sem] Y4 abZ afG afH YT afI abQ afJ abR afK abS abT YU YV UE abU YW YX Rm YY UF YZ UG Y0 UH UI abV abW OF UJ Y1 Y2 abX abY LK Y3 UK UL Rn Ro ab0 Y5 Y6 UM UN Y7 Y8
mutual
theorem Jf (o g:Nat) (rows:List (List D)) : ∀ d,D.ok 0 0 d=true→D.fJ o g rows d=d
 | .junk,_=>by simp[D.fJ]
 | .int k n,_=>by simp[D.fJ]
 | .bool b,_=>by simp[D.fJ]
 | .str l,_=>by simp[D.fJ]
 | .dR,_=>by simp[D.fJ]
 | .val v,_=>by simp[D.fJ]
 | .ei z,_=>by simp[D.fJ]
 | .fl T o,h=>by simp[D.ok]at h
 | .fP o,h=>by simp[D.ok]at h
 | .ep z o g len,h=>by simp[D.ok]at h
 | .fm o g off,h=>by simp[D.ok]at h
 | .ptr o f,h=>by simp[D.ok]at h
 | .gd f cs,h=>by
  simp only[D.ok]at h
  simp only[D.fJ,sn o g rows cs h]
 | .dv r f,h=>by
  simp only[D.ok]at h
  simp only[D.fJ,sn o g rows r h]
 | .slice t z rs,h=>by
  simp only[D.ok,Bool.and_eq_true]at h
  simp only[D.fJ,yh o g rows rs h.2]
 | .agg cs,h=>by
  simp only[D.ok]at h
  simp only[D.fJ,sn o g rows cs h]
 | .tuple cs,h=>by
  simp only[D.ok]at h
  simp only[D.fJ,sn o g rows cs h]
theorem sn (o g:Nat) (rows:List (List D)) : ∀ l,D.bL 0 0 l=true→D.jx o g rows l=l
 | [],_=>by simp[D.jx]
 |d::r,h=>by
  simp only[D.bL,Bool.and_eq_true]at h
  simp only[D.jx,Jf o g rows d h.1,sn o g rows r h.2]
theorem yh (o g:Nat) (rows:List (List D)) : ∀ l,D.gS 0 0 l=true→D.rz o g rows l=l
 | [],_=>by simp[D.rz]
 |d::r,h=>by
  simp only[D.gS,Bool.and_eq_true]at h
  simp only[D.rz,sn o g rows d h.1,yh o g rows r h.2]
end
section
variable (o g:Nat) (rows:List (List D)) (n m:Nat)
theorem afL (q off:Nat):D.fJ o g rows (.ptr q off) = .ptr q off:=nd (by simp only[D.fJ])
theorem ab1 (q h off:Nat):D.fJ o g rows (.fm q h off) = .fm q h off:=nd (by simp only[D.fJ])
theorem afM (z o' g' len:Nat):D.fJ o g rows (.ep z o' g' len)=if o'=o∧g'=g∧len=rows.length then .slice .shared z rows else .ep z o' g' len:=nd (by simp only[D.fJ])
theorem Y9 (t:Tag) (z:Nat) (rs:List (List D)):D.fJ o g rows (.slice t z rs) = .slice t z (D.rz o g rows rs):=nd (by simp only[D.fJ])
theorem afN (l:List D):D.fJ o g rows (.agg l) = .agg (D.jx o g rows l):=nd (by simp only[D.fJ])
theorem ab2:D.fJ o g rows .junk = .junk:=nd (by simp only[D.fJ])
theorem afO (k:IntKind) (x:Int):D.fJ o g rows (.int k x) = .int k x:=nd (by simp only[D.fJ])
theorem ab3 (b:Bool):D.fJ o g rows (.bool b) = .bool b:=nd (by simp only[D.fJ])
theorem afP (l:List UInt8):D.fJ o g rows (.str l) = .str l:=nd (by simp only[D.fJ])
theorem Za:D.jx o g rows [] = []:=nd (by simp only[D.jx])
theorem Zb (d:D) (l:List D):D.jx o g rows (d::l)=D.fJ o g rows d::D.jx o g rows l:=nd (by simp only[D.jx])
theorem ajK (p:Pg):D.jx o g rows (cu p)=cu p:=sn _ _ _ _ (jc p)
theorem afQ (l:List Pc):D.rz o g rows (l.map cq)=l.map cq:=yh _ _ _ _ (wC l)
theorem afR (l:List Sm):D.rz o g rows (l.map bd)=l.map bd:=yh _ _ _ _ (pC l)
theorem ab4 (l:List aG):D.rz o g rows (l.map encStr)=l.map encStr:=yh _ _ _ _ (fb l)
theorem afS (ds:List D):fzR o g rows n m ds=D.gu n m (D.jx o g rows ds):=nd rfl
theorem ab5 (tm:Tm):WN o g rows m tm [] = True:=nd rfl
theorem ab6 (tm:Tm) (k:Nat) (d:D) (r:Tm):WN o g rows m tm ((k,d)::r)=(Wk (((tm.get k).fJ o g rows).fg o m) d∧WN o g rows m tm r):=nd rfl
end
attribute [go_sem] afL ab1 afM Y9 afN ab2 afO ab3 afP Za Zb ajK afQ afR ab4 afS ab5 ab6
end Go.Abs
namespace Go.Abs
mutual
def Ex.size:Ex→Nat
 |⟨_,_,_,kids⟩=>1+Ex.aY kids
def Ex.aY:List Ex→Nat
 | []=>0
 |x::l=>1+x.size+Ex.aY l
end
mutual
def Ex.depth:Ex→Nat
 |⟨_,_,_,kids⟩=>Ex.qb kids+1
def Ex.qb:List Ex→Nat
 | []=>0
 |x::l=>max x.depth (Ex.qb l)
end
def ab7 (x:Ex):Option Int:=if x.size<4611686018427387904 then some (x.depth:Int)else none
theorem Ex.dd {x:Ex} : ∀ {l:List Ex},x∈l→x.size<Ex.aY l
 |y::l,h=>by
  simp only[Ex.aY]
  rcases List.mem_cons.1 h with rfl|h
  ·omega
  ·have:=Ex.dd h;omega
theorem Ex.eB : ∀ (l:List Ex),l.length≤Ex.aY l
 | []=>Nat.le_refl _
 |x::l=>by simp only[Ex.aY,List.length_cons];have:=Ex.eB l;omega
def OI (t:qa):Int×Int:=
 if t.kind != 4 then(0,0)
 else if t.text == [124,124]then(17,1)
 else if t.text == [38,38]then(16,2)
 else if t.text == [61,61]then(14,3)
 else if t.text == [33,61]then(15,3)
 else if t.text == [60]then(10,4)
 else if t.text == [60,61]then(11,4)
 else if t.text == [62]then(12,4)
 else if t.text == [62,61]then(13,4)
 else if t.text == [43]then(8,5)
 else if t.text == [45]then(9,5)
 else if t.text == [42]then(5,6)
 else if t.text == [47]then(6,6)
 else if t.text == [37]then(7,6)
 else(0,0)
structure Rd where
 l:List qa
 i:Nat
 code:Int
 Jg:Int
 n:Nat
abbrev Rd.good (r:Rd):Bool:=r.code==0
def Rd.vz (r:Rd):Option qa:=(abF r.l r.i).bind fun t=>if decide (0≤t.kind) && decide (t.kind≤4)then some t else none
def Rd.bad (c:Int) (r:Rd):Option Rd:=if r.good then r.vz.bind fun t=>some {r with code:=c,Jg:=t.pos}else some r
def Rd.is (text:aG) (r:Rd):Option Bool:=r.vz.bind fun t=>some ((t.kind==3 ||t.kind==4) && t.text==text)
def Rd.take (text:aG) (r:Rd):Option (Bool×Rd):=
 if !r.good then some (false,r)else(r.is text).bind fun b=>if !b then some (false,r)else some (true,{r with i:=r.i+1})
def Rd.want (text:aG) (r:Rd):Option Rd:=(r.take text).bind fun p=>if !p.1 then p.2.bad 3 else some p.2
def Rd.name (room:Bool) (r:Rd):Option (aG×Rd):=
 r.vz.bind fun t=>if !r.good ||t.kind != 1 then(r.bad 3).bind fun r=>some ([],r)else if !room then(r.bad 4).bind fun r=>some ([],r)else some (t.text,{r with i:=r.i+1})
def Rd.on (r:Rd):Rd:= {r with i:=r.i+1}
mutual
def Rd.one:Nat→Rd→Option (Ex×Rd)
 | 0,_=>none
 | n+1,r=>r.vz.bind fun t=>
  if !r.good then some (ry,r)
  else if t.kind==2 then some (⟨1,t.n,[],[]⟩,{r with i:=r.i+1})
  else if t.kind==1 then some (⟨2,0,t.text,[]⟩,{r with i:=r.i+1})
  else(r.take [40]).bind fun p=>
   if p.1 then(Rd.two n 1 p.2).bind fun x=>(x.2.want [41]).bind fun r=>some (x.1,r)
   else(p.2.take [45]).bind fun p=>
    if p.1 then(Rd.one n p.2).bind fun x=>some (⟨3,0,[],[x.1]⟩,x.2)
    else(p.2.take [33]).bind fun p=>
     if p.1 then(Rd.one n p.2).bind fun x=>some (⟨4,0,[],[x.1]⟩,x.2)
     else(p.2.bad 3).bind fun r=>some (ry,r)
def Rd.two:Nat→Int→Rd→Option (Ex×Rd)
 | 0,_,_=>none
 |n+1,least,r=>(Rd.one n r).bind fun x=>Rd.ab8 n least x.1 x.2
def Rd.ab8:Nat→Int→Ex→Rd→Option (Ex×Rd)
 | 0,_,_,_=>none
 | n+1,least,x,r=>
  if r.good then r.vz.bind fun t=>
   if decide ((OI t).2<least) ||(OI t).1==0 then some (x,r)
   else(Rd.two n ((OI t).2+1) {r with i:=r.i+1}).bind fun y=>Rd.ab8 n least ⟨(OI t).1,0,[],[x,y.1]⟩ y.2
  else some (x,r)
end
def Rd.whole (n:Nat) (r:Rd):Option (Ex×Rd):=
 r.vz.bind fun t=>(Rd.two n 1 r).bind fun x=>
  if x.2.good then(ab7 x.1).bind fun d=>if decide (d > 20)then some (x.1,{x.2 with code:=4,Jg:=t.pos})else some (x.1,x.2)
  else some (x.1,x.2)
def Rd.names:Nat→List aG→Int→Rd→Option (List aG×Rd)
 | 0,_,_,_=>none
 | n+1,l,ab9,r=>
  if r.good then(r.name (decide ((l.length:Int)<ab9))).bind fun p=>(push 17 l p.1).bind fun l=>(p.2.take [44]).bind fun q=>
   if !q.1 then(q.2.want [59]).bind fun r=>some (l,r)else Rd.names n l ab9 q.2
  else some (l,r)
def Rd.ahead (sign:aG) (r:Rd):Option Bool:=
 if r.good then r.vz.bind fun t=>if t.kind==1 then(abF r.l (r.i+1)).bind fun u=>some (u.kind==4 && u.text==sign)else some false
 else some false
def Rd.labels:Nat→List aG→Rd→Option (List aG×Rd)
 | 0,_,_=>none
 |n+1,l,r=>(r.ahead [58]).bind fun b=>if b then r.vz.bind fun t=>(push 17 l t.text).bind fun l=>Rd.labels n l {r with i:=r.i+2}else some (l,r)
def Rd.aca (r:Rd):Option Bool:=
 r.vz.bind fun t=>some (if t.kind==1 then true else if t.kind != 3 then false
  else t.text == [105,102] ||t.text == [119,104,105,108,101] ||t.text == [98,114,101,97,107] ||t.text == [99,111,110,116,105,110,117,101] ||t.text == [114,101,116,117,114,110] ||t.text == [103,111,116,111] ||t.text == [114,101,97,100] ||t.text == [112,114,105,110,116])
def Rd.OM (m:Nat):Nat→List Ar→Rd→Option (List Ar×Rd)
 | 0,_,_=>none
 | n+1,l,r=>
  if r.good then(r.take [114,101,102]).bind fun p=>
   if p.1 then(p.2.name true).bind fun x=>(push 81 l ⟨true,x.1,ry⟩).bind fun l=>(x.2.take [44]).bind fun c=>if !c.1 then some (l,c.2)else Rd.OM m n l c.2
   else(Rd.whole m p.2).bind fun x=>(push 81 l ⟨false,[],x.1⟩).bind fun l=>(x.2.take [44]).bind fun c=>if !c.1 then some (l,c.2)else Rd.OM m n l c.2
  else some (l,r)
def Rd.other (sign:aG) (r:Rd):Option Bool:=if r.good then(r.is sign).bind fun b=>some !b else some false
def Rd.call (m:Nat) (name proc:aG) (r:Rd):Option (Sm×Rd):=
 (r.want [40]).bind fun r=>(r.other [41]).bind fun b=>
  if b then(Rd.OM m m [] r).bind fun q=>(q.2.want [41]).bind fun r=>(r.want [59]).bind fun r=>some (⟨0,4,[],name,proc,ry,false,q.1,[],[]⟩,r)
  else(r.want [41]).bind fun r=>(r.want [59]).bind fun r=>some (⟨0,4,[],name,proc,ry,false,[],[],[]⟩,r)
def Rd.named (m:Nat) (r:Rd):Option (Sm×Rd):=
 (r.name true).bind fun x=>(x.2.is [40]).bind fun b=>
  if b then Rd.call m [] x.1 x.2
  else(x.2.want [61]).bind fun r=>(r.ahead [40]).bind fun b=>
   if b then(r.name true).bind fun y=>Rd.call m x.1 y.1 y.2
   else(Rd.whole m r).bind fun y=>(y.2.want [59]).bind fun r=>some (⟨0,1,[],x.1,[],y.1,false,[],[],[]⟩,r)
def Rd.plain (m:Nat) (word:aG) (r:Rd):Option (Sm×Rd):=
 if word == [98,114,101,97,107]then some (⟨0,7,[],[],[],ry,false,[],[],[]⟩,r)
 else if word == [99,111,110,116,105,110,117,101]then some (⟨0,8,[],[],[],ry,false,[],[],[]⟩,r)
 else if word == [114,101,116,117,114,110]then(r.is [59]).bind fun b=>
  if !b then(Rd.whole m r).bind fun x=>some (⟨0,9,[],[],[],x.1,true,[],[],[]⟩,x.2)else some (⟨0,9,[],[],[],ry,false,[],[],[]⟩,r)
 else if word == [103,111,116,111]then(r.name true).bind fun x=>some (⟨0,10,[],x.1,[],ry,false,[],[],[]⟩,x.2)
 else if word == [114,101,97,100]then(r.name true).bind fun x=>some (⟨0,2,[],x.1,[],ry,false,[],[],[]⟩,x.2)
 else if word == [112,114,105,110,116]then(Rd.whole m r).bind fun x=>some (⟨0,3,[],[],[],x.1,false,[],[],[]⟩,x.2)
 else some (I9,r)
def Rd.head (m:Nat) (r:Rd):Option (Ex×Rd):=(r.want [40]).bind fun r=>(Rd.whole m r).bind fun x=>(x.2.want [41]).bind fun r=>some (x.1,r)
mutual
def Rd.rows (m:Nat):Nat→Int→Bool→Rd→Option ((List Sm×List aG)×Rd)
 | 0,_,_,_=>none
 |n+1,nest,body,r=>Rd.WO m n nest body [] r
def Rd.WO (m:Nat):Nat→Int→Bool→List Sm→Rd→Option ((List Sm×List aG)×Rd)
 | 0,_,_,_,_=>none
 | n+1,nest,body,out,r=>
  if r.good then(Rd.labels m [] r).bind fun l=>(l.2.is [125]).bind fun b=>
   if b && (body ||(l.1.length:Int)==0)then some ((out,l.1),{l.2 with i:=l.2.i+1})
   else(Rd.stmt m n nest l.2).bind fun s=>(push 209 out {s.1 with labels:=l.1}).bind fun out=>Rd.WO m n nest body out s.2
  else some (([],[]),r)
def Rd.stmt (m:Nat):Nat→Int→Rd→Option (Sm×Rd)
 | 0,_,_=>none
 | n+1,nest,r=>r.aca.bind fun b=>
  if !b then(r.bad 3).bind fun r=>some (I9,r)
  else(inc r.n).bind fun k=>
   if decide ((k:Int) > 200) ||decide (nest > 12)then(({r with n:=k} : Rd).bad 4).bind fun r=>some (I9,r)
   else({r with n:=k} : Rd).vz.bind fun t=>
    if t.kind==1 then Rd.named m {r with n:=k}
    else if t.text == [105,102]then Rd.choice m n nest {r with n:=k,i:=r.i+1}
    else if t.text == [119,104,105,108,101]then(Rd.head m {r with n:=k,i:=r.i+1}).bind fun x=>(Rd.block m n nest x.2).bind fun b=>some (⟨0,6,[],[],[],x.1,false,[],b.1,[]⟩,b.2)
    else(Rd.plain m t.text {r with n:=k,i:=r.i+1}).bind fun s=>(s.2.want [59]).bind fun r=>some (s.1,r)
def Rd.block (m:Nat):Nat→Int→Rd→Option (List Sm×Rd)
 | 0,_,_=>none
 |n+1,nest,r=>(r.want [123]).bind fun r=>(ajF nest).bind fun k=>(Rd.rows m n k false r).bind fun p=>some (p.1.1,p.2)
def Rd.choice (m:Nat):Nat→Int→Rd→Option (Sm×Rd)
 | 0,_,_=>none
 |n+1,nest,r=>(Rd.head m r).bind fun x=>(Rd.block m n nest x.2).bind fun t=>(t.2.take [101,108,115,101]).bind fun q=>
  if q.1 then(Rd.block m n nest q.2).bind fun e=>some (⟨0,5,[],[],[],x.1,false,[],t.1,e.1⟩,e.2)
  else some (⟨0,5,[],[],[],x.1,false,[],t.1,[]⟩,q.2)
end
def Rd.params:Nat→List Pm→Rd→Option (List Pm×Rd)
 | 0,_,_=>none
 | n+1,l,r=>
  if r.good then(r.take [114,101,102]).bind fun q=>(q.2.name (decide ((l.length:Int)<8))).bind fun x=>(push 25 l ⟨x.1,q.1⟩).bind fun l=>(x.2.take [44]).bind fun c=>
   if !c.1 then some (l,c.2)else Rd.params n l c.2
  else some (l,r)
def Rd.vars (m:Nat):Nat→List aG→Rd→Option (List aG×Rd)
 | 0,_,_=>none
 |n+1,l,r=>(r.take [118,97,114]).bind fun q=>if q.1 then(Rd.names m l 16 q.2).bind fun x=>Rd.vars m n x.1 x.2 else some (l,q.2)
def Rd.WQ (m:Nat) (name:aG) (ps:List Pm) (r:Rd):Option (Pc×Rd):=
 (Rd.vars m m [] r).bind fun v=>(Rd.rows m m 1 true v.2).bind fun b=>some (⟨name,ps,v.1,b.1.1,b.1.2⟩,b.2)
def Rd.proc (m:Nat) (r:Rd):Option (Pc×Rd):=
 (r.name true).bind fun x=>(x.2.want [40]).bind fun r=>(r.other [41]).bind fun b=>
  if b then(Rd.params m [] r).bind fun q=>(q.2.want [41]).bind fun r=>(r.want [123]).bind fun r=>Rd.WQ m x.1 q.1 r
  else(r.want [41]).bind fun r=>(r.want [123]).bind fun r=>Rd.WQ m x.1 [] r
def Rd.globals (m:Nat):Nat→List aG→Rd→Option (List aG×Rd)
 | 0,_,_=>none
 |n+1,l,r=>(r.take [103,108,111,98,97,108]).bind fun q=>if q.1 then(Rd.names m l 16 q.2).bind fun x=>Rd.globals m n x.1 x.2 else some (l,q.2)
def Rd.acb (r:Rd):Option Bool:=if r.good then r.is [112,114,111,99]else some false
def Rd.Rp (r:Rd):Option Bool:=if r.good then r.vz.bind fun t=>some (t.kind != 0)else some false
def Rd.procs (m:Nat):Nat→List Pc→Rd→Option (List Pc×Rd)
 | 0,_,_=>none
 | n+1,l,r=>r.acb.bind fun b=>
  if b then
   if(l.length:Int)==16 then(r.bad 4).bind fun r=>some (l,r)
   else(Rd.proc m {r with i:=r.i+1}).bind fun x=>(push 113 l x.1).bind fun l=>Rd.procs m n l x.2
  else r.Rp.bind fun b=>if b then(r.bad 3).bind fun r=>some (l,r)else some (l,r)
def Rd.program (m:Nat) (r:Rd):Option (Pg×Rd):=(Rd.globals m m [] r).bind fun g=>(Rd.procs m m [] g.2).bind fun q=>some (⟨g.1,q.1⟩,q.2)
mutual
def Ex.beq:Ex→Ex→Bool
 |⟨op,n,name,kids⟩,⟨op',n',ON,WR⟩=>if op != op' ||n != n' || !(name==ON) ||(kids.length:Int) != (WR.length:Int)then false else Ex.pT kids WR
def Ex.pT:List Ex→List Ex→Bool
 | [],_=>true
 |_::_,[]=>true
 |x::l,y::l'=>if !Ex.beq x y then false else Ex.pT l l'
end
def Ar.aY:List Ar→Nat
 | []=>0
 |a::l=>1+a.x.size+Ar.aY l
mutual
def Sm.size:Sm→Nat
 |⟨_,_,labels,_,_,x,_,args,aZ,aR⟩=>1+labels.length+x.size+Ar.aY args+Sm.aY aZ+Sm.aY aR
def Sm.aY:List Sm→Nat
 | []=>0
 |s::l=>1+s.size+Sm.aY l
end
def Pc.size (f:Pc):Nat:=1+f.params.length+f.vars.length+f.fin.length+Sm.aY f.body
def Pc.aY:List Pc→Nat
 | []=>0
 |f::l=>1+f.size+Pc.aY l
def Pg.size (p:Pg):Nat:=1+p.globals.length+Pc.aY p.procs
mutual
def Sm.num (b:Bool) (n:Nat):Sm→Sm×Nat
 |⟨id,kind,labels,name,proc,x,has,args,aZ,aR⟩=>
  (⟨if b then((n+1:Nat):Int)else id,kind,labels,name,proc,x,has,args,(Sm.ub b (n+1) aZ).1,(Sm.ub b (Sm.ub b (n+1) aZ).2 aR).1⟩,(Sm.ub b (Sm.ub b (n+1) aZ).2 aR).2)
def Sm.ub (b:Bool) (n:Nat):List Sm→List Sm×Nat
 | []=>([],n)
 |s::l=>((Sm.num b n s).1::(Sm.ub b (Sm.num b n s).2 l).1,(Sm.ub b (Sm.num b n s).2 l).2)
end
def Pc.ub (n:Nat):List Pc→List Pc
 | []=> []
 |f::l=> {f with body:=(Sm.ub true n f.body).1}::Pc.ub (Sm.ub true n f.body).2 l
def Pg.number (p:Pg):Pg:= {p with procs:=Pc.ub 0 p.procs}
def Pg.Zc (p:Pg):Option Pg:=if p.size<1073741824 then some p.number else none
theorem Sm.eB : ∀ (l:List Sm),l.length≤Sm.aY l
 | []=>Nat.le_refl _
 |x::l=>by simp only[Sm.aY,List.length_cons];have:=Sm.eB l;omega
theorem Ar.eB : ∀ (l:List Ar),l.length≤Ar.aY l
 | []=>Nat.le_refl _
 |x::l=>by simp only[Ar.aY,List.length_cons];have:=Ar.eB l;omega
theorem Pc.eB : ∀ (l:List Pc),l.length≤Pc.aY l
 | []=>Nat.le_refl _
 |x::l=>by simp only[Pc.aY,List.length_cons];have:=Pc.eB l;omega
theorem Ar.dd {x:Ar} : ∀ {l:List Ar},x∈l→x.x.size<Ar.aY l
 |y::l,h=>by
  simp only[Ar.aY]
  rcases List.mem_cons.1 h with rfl|h
  ·omega
  ·have:=Ar.dd h;omega
theorem Sm.dd {x:Sm} : ∀ {l:List Sm},x∈l→x.size<Sm.aY l
 |y::l,h=>by
  simp only[Sm.aY]
  rcases List.mem_cons.1 h with rfl|h
  ·omega
  ·have:=Sm.dd h;omega
theorem Pc.dd {x:Pc} : ∀ {l:List Pc},x∈l→x.size<Pc.aY l
 |y::l,h=>by
  simp only[Pc.aY]
  rcases List.mem_cons.1 h with rfl|h
  ·omega
  ·have:=Pc.dd h;omega
mutual
def Sm.jy:Sm→Nat
 |⟨_,_,_,_,_,_,_,_,aZ,aR⟩=>1+Sm.jd aZ+Sm.jd aR
def Sm.jd:List Sm→Nat
 | []=>0
 |s::l=>s.jy+Sm.jd l
end
structure Im where
 s:Sm
 proc:Int
 up:Int
 next:Int
 loop:Int
mutual
def Im.one (proc up next loop:Int) (out:List Im):Sm→List Im
 | ⟨id,kind,labels,name,pc,x,has,args,aZ,aR⟩=>
  Im.rows proc ((out.length:Int)+1) (if kind==6 then(out.length:Int)+1 else next) (if kind==6 then(out.length:Int)+1 else loop)
   (Im.rows proc ((out.length:Int)+1) (if kind==6 then(out.length:Int)+1 else next) (if kind==6 then(out.length:Int)+1 else loop) (out++ [⟨⟨id,kind,labels,name,pc,x,has,args,aZ,aR⟩,proc,up,next,loop⟩]) aZ) aR
def Im.rows (proc up next loop:Int) (out:List Im):List Sm→List Im
 | []=>out
 |s::l=>Im.rows proc up next loop (Im.one proc up (if l.length=0 then next else(out.length:Int)+1+(s.jy:Int)) loop out s) l
end
theorem Im.acd (proc up next loop:Int) (out:List Im) (s:Sm):Im.one proc up next loop out s =
 Im.rows proc ((out.length:Int)+1) (if s.kind==6 then(out.length:Int)+1 else next) (if s.kind==6 then(out.length:Int)+1 else loop)
  (Im.rows proc ((out.length:Int)+1) (if s.kind==6 then(out.length:Int)+1 else next) (if s.kind==6 then(out.length:Int)+1 else loop) (out++ [⟨s,proc,up,next,loop⟩]) s.aZ) s.aR:=by
 cases s;simp only[Im.one]
mutual
theorem Zd (proc up next loop:Int) (out:List Im) : ∀ s:Sm,(Im.one proc up next loop out s).length=out.length+s.jy
 |⟨id,kind,labels,name,pc,x,has,args,aZ,aR⟩=>by
  simp only[Im.one,Sm.jy]
  rw[gD,gD]
  simp only[List.length_append,List.length_cons,List.length_nil];omega
theorem gD (proc up next loop:Int) (out:List Im) : ∀ l:List Sm,(Im.rows proc up next loop out l).length=out.length+Sm.jd l
 | []=>rfl
 |s::l=>by
  simp only[Im.rows,Sm.jd]
  rw[gD,Zd];omega
end
mutual
theorem Dq : ∀ s:Sm,s.jy≤s.size
 |⟨_,_,labels,_,_,x,_,args,aZ,aR⟩=>by
  have:=nL aZ;have:=nL aR
  simp only[Sm.jy,Sm.size];omega
theorem nL : ∀ l:List Sm,Sm.jd l≤Sm.aY l
 | []=>Nat.le_refl _
 |s::l=>by
  have:=Dq s;have:=nL l
  simp only[Sm.jd,Sm.aY];omega
end
structure Sh where
 L:List Im
 lo:List Int
 hi:List Int
def Sh.go (i:Nat) (h:Sh):List Pc→Sh
 | []=>h
 |f::l=>Sh.go (i+1) ⟨Im.rows i 0 (-1) 0 h.L f.body,h.lo++ [(h.L.length:Int)+1],h.hi++ [((Im.rows i 0 (-1) 0 h.L f.body).length:Int)+1]⟩ l
def Pg.aX (p:Pg):Sh:=Sh.go 0 ⟨[],[],[]⟩ p.procs
def Ze:Nat:=3
def WS:Nat:=4
def WT:Nat:=5
def UO:Nat:=6
def WU:Nat:=7
def WV:Nat:=8
def yi:Nat:=9
def WW:Nat:=10
def WX:Nat:=11
def UP:Nat:=12
def WY:Nat:=13
def UQ:Nat:=14
def xn:Nat:=15
def xo:Nat:=16
def vA:Nat:=17
def aew:Nat:=18
def aad:Nat:=19
def sO:Nat:=20
def uc:Nat:=21
def ud:Nat:=22
def qn:Nat:=23
def WZ:Nat:=24
def aae:Nat:=25
def afT:Nat:=26
def xp:Nat:=27
def jX:Nat:=28
def nj:Nat:=29
def aex:Nat:=30
def ace:Nat:=31
def aey:Nat:=32
def zb:Nat:=33
def Zf:Nat:=34
def W0:Nat:=35
def rB:Nat:=36
def aaf:Nat:=37
def xq:Nat:=38
def xr:Nat:=39
def jH:Nat:=40
def gn:Nat:=41
def kO:Nat:=42
def kU:Nat:=43
def jl:Nat:=44
def iz:Nat:=45
def o6:Nat:=46
def oB:Nat:=47
def qE:Nat:=48
def oD:Nat:=49
def acf:Nat:=50
def LL:Nat:=51
def OO:Nat:=52
def xu:Nat:=53
def xv:Nat:=54
def qc:Nat:=55
def UR:Nat:=56
def acg:Nat:=57
def US:Nat:=58
def aez:Nat:=59
def afU:Nat:=60
def aag:Nat:=61
def zc:Nat:=62
def W1:Nat:=63
def nn:Nat:=64
def nW:Nat:=65
def kr:Nat:=66
def aah:Nat:=67
def rC:Nat:=68
def lg:Nat:=69
def uU:Nat:=70
def jY:Nat:=71
def jZ:Nat:=72
def vB:Nat:=73
def o7:Nat:=74
def gh:Nat:=75
def lM:Nat:=76
def iI:Nat:=77
def jS:Nat:=78
def ek:Nat:=79
def oO:Nat:=80
def qd:Nat:=81
def kP:Nat:=82
def afV:Nat:=83
def ach:Nat:=84
def sP:Nat:=85
def aai:Nat:=86
def PS:Nat:=87
def LM:Nat:=88
def aci:Nat:=89
def aaj:Nat:=90
def OP:Nat:=91
def OQ:Nat:=92
def LN:Nat:=93
def Rq:Nat:=94
def lW:Nat:=95
def qo:Nat:=96
def vC:Nat:=97
def uf:Nat:=98
def xw:Nat:=99
def W2:Nat:=100
def afW:Nat:=101
def W3:Nat:=102
def Zg:Nat:=103
def rD:Nat:=104
def Bk:Nat:=105
def ze:Nat:=106
def ug:Nat:=107
def mD:Nat:=108
def kC:Nat:=109
def sQ:Nat:=110
def fW:Nat:=111
def wF:Nat:=112
def np:Nat:=113
def gM:Nat:=114
def cr:Nat:=115
def acj:Nat:=116
def ack:Nat:=117
def acm:Nat:=118
def W4:Nat:=119
def mE:Nat:=120
def PT:Nat:=121
def Zh:Nat:=122
def acn:Nat:=123
def aco:Nat:=124
def afX:Nat:=125
def afY:Nat:=126
def OR:Nat:=127
def oh:Nat:=128
def fX:Nat:=129
def oP:Nat:=130
def qp:Nat:=131
def vD:Nat:=132
def rE:Nat:=133
def qe:Nat:=134
def vE:Nat:=135
def rF:Nat:=136
def sq:Nat:=137
def acp:Nat:=138
def afZ:Nat:=139
def W5:Nat:=140
def xx:Nat:=141
def o8:Nat:=142
def rG:Nat:=143
def uh:Nat:=144
def lh:Nat:=145
def o9:Nat:=146
def af0:Nat:=147
def acq:Nat:=148
def acr:Nat:=149
def acs:Nat:=150
def aak:Nat:=151
def aeA:Nat:=152
def aeB:Nat:=153
def ain:Nat:=154
def W6:Nat:=155
def aal:Nat:=156
def aam:Nat:=157
def acu:Nat:=158
def aeC:Nat:=159
def aan:Nat:=160
def acv:Nat:=161
def af1:Nat:=162
def af2:Nat:=163
def W7:Nat:=164
def Zi:Nat:=165
def acw:Nat:=166
def kV:Nat:=167
def rH:Nat:=168
def vF:Nat:=169
def vG:Nat:=170
def ui:Nat:=171
def xy:Nat:=172
def jz:Nat:=173
def jP:Nat:=174
def xA:Nat:=175
def zf:Nat:=176
def rI:Nat:=177
def zh:Nat:=178
def acx:Nat:=179
def aeD:Nat:=180
def af3:Nat:=181
def acy:Nat:=182
def Zj:Nat:=183
def af4:Nat:=184
def aeE:Nat:=185
def af5:Nat:=186
def aeF:Nat:=187
def aeG:Nat:=188
def rJ:Nat:=189
def gN:Nat:=190
def oQ:Nat:=191
def uj:Nat:=192
def El:Nat:=193
def W8:Nat:=194
def jA:Nat:=195
def uk:Nat:=196
def sr:Nat:=197
def acz:Nat:=198
def acA:Nat:=199
def aeH:Nat:=200
def Zk:Nat:=201
def aeI:Nat:=202
def af6:Nat:=203
def Ld:Nat:=204
def aao:Nat:=205
def aap:Nat:=206
def iQ:Nat:=207
def Bl:Nat:=208
def DS:Nat:=209
def Bm:Nat:=210
def Cw:Nat:=211
def Cd:Nat:=212
def xM:Nat:=213
def S2:Nat:=214
def AB:Nat:=215
def Dr:Nat:=216
def S3:Nat:=217
def S4:Nat:=218
def acB:Nat:=219
def aeJ:Nat:=220
def aeK:Nat:=221
def aaq:Nat:=222
def acC:Nat:=223
def DT:Nat:=224
def KA:Nat:=225
def Lf:Nat:=226
def AE:Nat:=227
def Fc:Nat:=228
def Rr:Nat:=229
def Fe:Nat:=230
abbrev AI.o (t:Nat) (a:AO):AI:= .op (some t) none a
abbrev AI.g (t c:Nat) (b:Bool) (a:AO):AI:= .op (some t) (some (c,b)) a
abbrev AI.c (t f:Nat) (l:List X):AI:= .call (some t) none f l
abbrev AI.d (t c:Nat) (b:Bool) (f:Nat) (l:List X):AI:= .call (some t) (some (c,b)) f l
abbrev AI.m (t:Nat) (x:X):AI:= .op (some t) none (.mv x)
abbrev br:X:= .s 0
abbrev bt:X:= .s 1
abbrev dw:X:= .s 2
abbrev cB:X:= .s 3
abbrev fi:X:= .s 4
abbrev ct:X:= .s 5
abbrev dB:X:= .s 6
abbrev cW:X:= .s 7
abbrev cR:X:= .s 8
abbrev dn:X:= .s 9
abbrev cd:X:= .s 10
abbrev cD:X:= .s 11
abbrev cT:X:= .s 12
abbrev db:X:= .s 13
abbrev cJ:X:= .s 14
abbrev dA:X:= .s 15
abbrev df:X:= .s 16
abbrev dC:X:= .s 17
abbrev dD:X:= .s 18
abbrev dU:X:= .s 19
abbrev eA:X:= .s 20
abbrev dV:X:= .s 21
abbrev eD:X:= .s 22
abbrev eH:X:= .s 23
abbrev eR:X:= .s 24
abbrev eU:X:= .s 25
abbrev fp:X:= .s 26
abbrev fq:X:= .s 27
abbrev gb:X:= .s 28
abbrev fY:X:= .s 29
abbrev gE:X:= .s 30
abbrev gp:X:= .s 31
abbrev gP:X:= .s 32
abbrev gF:X:= .s 33
abbrev iA:X:= .s 34
abbrev gQ:X:= .s 35
abbrev iB:X:= .s 36
abbrev je:X:= .s 37
abbrev j7:X:= .s 38
abbrev jN:X:= .s 39
abbrev ku:X:= .s 40
abbrev j8:X:= .s 41
abbrev kH:X:= .s 42
abbrev kv:X:= .s 43
abbrev kI:X:= .s 44
abbrev lH:X:= .s 45
abbrev lI:X:= .s 46
abbrev lS:X:= .s 47
abbrev kW:X:= .s 48
abbrev kX:X:= .s 49
abbrev lJ:X:= .s 50
abbrev kJ:X:= .s 51
abbrev kK:X:= .s 52
abbrev kY:X:= .s 53
abbrev lK:X:= .s 54
abbrev lL:X:= .s 55
abbrev nq:X:= .s 56
abbrev oE:X:= .s 57
abbrev nX:X:= .s 58
abbrev lT:X:= .s 59
abbrev pb:X:= .s 60
abbrev qF:X:= .s 61
abbrev pU:X:= .s 62
abbrev qG:X:= .s 63
abbrev qH:X:= .s 64
abbrev um:X:= .s 65
abbrev vH:X:= .s 66
abbrev xB:X:= .s 67
abbrev vI:X:= .s 68
abbrev zi:X:= .s 69
abbrev zj:X:= .s 70
abbrev Ds:X:= .s 71
abbrev Bn:X:= .s 72
abbrev Bo:X:= .s 73
abbrev Dt:X:= .s 74
abbrev Du:X:= .s 75
abbrev Bp:X:= .s 76
abbrev Dv:X:= .s 77
abbrev zk:X:= .s 78
abbrev Fz:X:= .s 79
abbrev FA:X:= .s 80
abbrev FB:X:= .s 81
abbrev Jh:X:= .s 82
abbrev Ji:X:= .s 83
abbrev Jj:X:= .s 84
abbrev Jk:X:= .s 85
abbrev Jl:X:= .s 86
abbrev Jm:X:= .s 87
abbrev Jn:X:= .s 88
abbrev Dw:X:= .s 89
abbrev FC:X:= .s 90
abbrev Jo:X:= .s 91
abbrev OS:X:= .s 92
abbrev UT:X:= .s 93
abbrev UU:X:= .s 94
abbrev UW:X:= .s 95
abbrev acD:X:= .s 96
abbrev acE:X:= .s 97
abbrev acF:X:= .s 98
abbrev acG:X:= .s 99
abbrev W9:X:= .s 100
abbrev Xa:X:= .s 101
abbrev Xb:X:= .s 102
abbrev Xc:X:= .s 103
abbrev Xd:X:= .s 104
abbrev Xe:X:= .s 105
abbrev Xf:X:= .s 106
abbrev Xg:X:= .s 107
abbrev Xh:X:= .s 108
abbrev af7:X:= .s 109
abbrev Xi:X:= .s 110
abbrev Xj:X:= .s 111
abbrev OT:X:= .s 112
abbrev Xk:X:= .s 113
abbrev Xl:X:= .s 114
abbrev Xm:X:= .s 115
abbrev Xn:X:= .s 116
abbrev Xo:X:= .s 117
abbrev Xp:X:= .s 118
abbrev Xq:X:= .s 119
abbrev Xr:X:= .s 120
abbrev Xs:X:= .s 121
abbrev Xt:X:= .s 122
abbrev Xu:X:= .s 123
abbrev Xv:X:= .s 124
abbrev Xw:X:= .s 125
abbrev af8:X:= .s 126
abbrev Xx:X:= .s 127
abbrev Em:X:= .s 128
abbrev Xy:X:= .s 129
abbrev Xz:X:= .s 130
abbrev af9:X:= .s 131
abbrev aga:X:= .s 132
abbrev agb:X:= .s 133
abbrev agc:X:= .s 134
abbrev agd:X:= .s 135
abbrev age:X:= .s 136
abbrev agf:X:= .s 137
abbrev agh:X:= .s 138
abbrev agi:X:= .s 139
abbrev agj:X:= .s 140
abbrev agk:X:= .s 141
abbrev agl:X:= .s 142
abbrev agm:X:= .s 143
abbrev agn:X:= .s 144
abbrev ago:X:= .s 145
abbrev agp:X:= .s 146
abbrev agq:X:= .s 147
abbrev agr:X:= .s 148
abbrev ags:X:= .s 149
abbrev agt:X:= .s 150
abbrev agu:X:= .s 151
abbrev agv:X:= .s 152
abbrev agw:X:= .s 153
abbrev agx:X:= .s 154
abbrev agy:X:= .s 155
abbrev agz:X:= .s 156
abbrev agA:X:= .s 157
abbrev agB:X:= .s 158
abbrev agC:X:= .s 159
abbrev agD:X:= .s 160
abbrev agE:X:= .s 161
abbrev agF:X:= .s 162
abbrev agG:X:= .s 163
abbrev agH:X:= .s 164
abbrev agI:X:= .s 165
abbrev agJ:X:= .s 166
abbrev agK:X:= .s 167
abbrev agL:X:= .s 168
abbrev agM:X:= .s 169
abbrev agN:X:= .s 170
abbrev agO:X:= .s 171
abbrev agP:X:= .s 172
abbrev agQ:X:= .s 173
abbrev agR:X:= .s 174
abbrev agS:X:= .s 175
abbrev Q04:AC:= .cond db (.seq (.run [.o 6 (.mv (.k (.bool false)))]) .ret) .skip
abbrev Q09:AC:= .cond df (.seq (.run [.o 6 (.mv (.k (.bool true)))]) .ret) .skip
abbrev Q0E:AC:= .cond dV (.seq (.run [.o 6 (.mv (.k (.bool true)))]) .ret) .skip
abbrev Q0T:AC:= .cond j7 (.run [.m 40 cR, .o 41 (.aq cD 1), .o 42 (.load j8 false 1), .o 43 (.app 1 8 ku kH), .m 8 kv]) (.seq (.run [.o 45 (.bin .eql je (.k (.int .i64 2))), .m 44 lH]) (.cond kI (.run [.m 46 dn, .o 47 (.aq cD 1), .o 48 (.load lS false 1), .o 49 (.app 1 8 lI kW), .m 9 kX]) .skip))
abbrev Q0V:AC:= .block 2 (.seq (.run [.o 39 (.bin .eql je (.k (.int .i64 3))), .m 38 jN]) Q0T)
abbrev Q10:AC:= .seq (.block 1 (.seq (.run [.o 31 (.cm fq fY 2), .o 32 (.load gp true 2), .o 11 (.alloc [(.int .i64 0),(.slice .full 0 [])]), .op none none (.store cD gP 2)]) (.seq (.run [.o 33 (.load cB true 2), .o 34 (.aq cD 0), .o 35 (.load iA false 1), .c 36 xp [gF,gQ], .o 37 (.AJ iB 1 false 1)]) Q0V))) (.run [.o 50 (.bin .add fY (.k (.int .i64 1))), .m 29 lJ])
abbrev Q14:AC:= .block 0 (.loop (.seq (.run [.o 30 (.bin .lss fY gb)]) (.seq (.cond gE .skip (.exit 0)) Q10)))
abbrev Q18:AC:= .seq (.seq (.run [.o 26 (.aq cW 4), .o 27 (.load fp false 1), .o 28 (.len fq), .o 29 (.mv (.k (.int .i64 0)))]) Q14) (.seq (.run [.m 51 cR, .o 52 (.aq cW 3), .o 53 (.load kK false 1), .c 54 jX [kJ,kY], .m 55 lK, .g 56 55 true (.mv dn), .g 57 55 true (.len nq), .g 58 55 true (.aq cW 2), .g 59 55 true (.load nX false 1), .g 60 55 true (.bin .eql oE lT), .o 61 (.pick lL pb (.k (.bool false))), .m 62 qF, .g 63 62 true (.mv dn), .g 64 62 true (.mv bt), .d 65 62 true qn [qG,qH], .o 66 (.pick pU um (.k (.bool false))), .m 6 vH]) .ret)
abbrev Q1A:AC:= .seq (.run [.o 22 (.load cB true 2), .m 23 bt, .m 24 dw, .c 25 ud [eD,eH,eR], .o 7 (.alloc [(.int .i64 0),(.int .i64 0),(.int .i64 0),(.slice .full 0 []),(.slice .full 0 [])]), .op none none (.store cW eU 5)]) (.seq (.run [.o 8 (.mv (.k (.slice .full 0 []))), .o 9 (.mv (.k (.slice .full 0 [])))]) Q18)
abbrev Q1D:AC:= .seq (.seq (.run [.c 12 xn [], .o 13 (.un .not cT)]) Q04) (.seq (.seq (.run [.o 14 (.load cB true 2), .c 15 xo [cJ], .o 16 (.un .not dA)]) Q09) (.seq (.seq (.run [.o 17 (.load cB true 2), .m 18 bt, .m 19 dw, .c 20 uc [dC,dD,dU], .o 21 (.un .not eA)]) Q0E) Q1A))
abbrev Q1E:AC:= .seq (.run [.o 3 (.box br), .o 6 (.mv (.k (.bool false)))]) Q1D
abbrev Q1H:AC:= .run [.m 9 dw, .o 10 (.bin .eql dn (.k (.int .i64 0))), .m 11 cd, .g 12 11 true (.aq bt 0), .g 13 11 true (.load cT false 1), .g 14 11 true (.bin .eql db (.k (.int .i64 1))), .o 15 (.pick cD cJ (.k (.bool false))), .m 16 dA, .g 17 16 true (.aq bt 1), .g 18 16 true (.load dC false 1), .g 19 16 true (.bin .eql dD (.k (.int .i64 7))), .o 20 (.pick df dU (.k (.bool false))), .m 21 eA, .g 22 21 true (.aq bt 3), .g 23 21 true (.load eD false 1),(.g 24 21 true (.du [(.int .i64 0)] 1 2 [(0,(.k (.int .i64 5))),(1,(.k (.int .i64 5)))])), .d 25 21 true jX [eH,eR], .o 26 (.pick dV eU (.k (.bool false))), .m 27 fp, .g 28 27 true (.aq bt 4), .g 29 27 true (.load gb false 1), .g 30 27 true (.len fY), .g 31 27 true (.bin .eql gE (.k (.int .i64 2))), .o 32 (.pick fq gp (.k (.bool false))), .m 33 gP, .g 34 33 true (.aq bt 4), .g 35 33 true (.load iA false 1), .g 36 33 true (.cm gQ (.k (.int .i64 0)) 2), .g 37 33 true (.aq iB 0), .g 38 33 true (.load je false 1), .g 39 33 true (.bin .eql j7 (.k (.int .i64 2))), .o 40 (.pick gF jN (.k (.bool false))), .m 41 ku, .g 42 41 true (.aq bt 4), .g 43 41 true (.load kH false 1), .g 44 41 true (.cm kv (.k (.int .i64 1)) 2), .g 45 41 true (.aq kI 1), .g 46 41 true (.load lH false 1),(.g 47 41 true (.du [(.int .i64 0)] 1 1 [(0,(.k (.int .i64 5)))])), .d 48 41 true jX [lI,lS], .o 49 (.pick j8 kW (.k (.bool false))), .m 50 kX, .g 51 50 true (.load bt true 5), .d 52 50 true xq [kJ], .g 53 50 true (.qX .real kK kK),(.g 54 50 true (.qX .eq kY (.k (.val (.float .f64 4619567317775286272))))), .o 55 (.pick lJ lK (.k (.bool false))), .m 0 lL]
abbrev Q1J:AC:= .seq (.run [.c 4 xr [],(.o 5 (.du [(.int .i64 0)] 1 2 [(0,(.k (.int .i64 5))),(1,(.k (.int .i64 2)))])),(.c 6 vA [fi,(.k (.slice .full 0 [])),(.k (.int .i64 50)),ct]), .m 3 dB, .o 7 (.ext cB 0), .o 8 (.ext cB 1), .o 1 (.alloc [(.int .i64 0),(.int .i64 0),(.int .i64 0),(.slice .full 0 []),(.slice .full 0 [])]), .op none none (.store bt cW 5), .m 2 cR]) (.seq Q1H .ret)
abbrev Q1K:AC:= .seq (.run [.o 0 (.mv (.k (.bool false)))]) Q1J
abbrev Q1S:AC:= .par [.o 26 (.aq ct 4), .o 27 (.load fp false 1), .o 28 (.aq ct 2), .o 29 (.load gb false 1), .o 30 (.aq ct 0), .o 31 (.load gE false 1), .m 32 cB, .c 33 gn [gp,gP], .c 34 jH [fY,gF], .c 35 jH [fq,iA], .m 3 gQ] [(4,0),(5,0),(6,0),(7,0),(2,0),(3,1),(8,0),(0,0),(1,2),(9,0),(10,0)]
abbrev Q21:AC:= .seq (.seq (.run [.m 36 dB, .o 37 (.aq ct 1), .o 38 (.load je false 1), .o 39 (.len j7), .o 40 (.bin .lss iB jN), .m 41 ku, .g 42 41 true (.mv cB), .g 43 41 true (.bin .leq kH (.k (.int .i64 20000))), .o 44 (.pick j8 kv (.k (.bool false)))]) (.cond kI .skip (.exit 2))) (.seq (.block 3 (.run [.o 47 (.aq ct 1), .o 48 (.load lS false 1), .m 49 dB, .o 50 (.cm kW kX 2), .o 51 (.aq lJ 0), .o 52 (.load kJ false 1), .m 53 cB, .c 54 gn [kK,kY], .m 3 lK])) (.run [.m 45 dB, .o 46 (.bin .add lH (.k (.int .i64 1))), .m 6 lI]))
abbrev Q26:AC:= .seq (.seq (.run [.o 6 (.mv (.k (.int .i64 0)))]) (.block 2 (.loop Q21))) (.run [.o 55 (.aq ct 3), .o 56 (.load lL false 1), .m 57 cB, .c 58 kO [nq,oE], .m 3 nX])
abbrev Q2B:AC:= .seq (.block 1 (.seq (.run [.o 21 (.aq bt 1), .o 22 (.load dV false 1), .m 23 fi, .o 24 (.cm eD eH 5), .o 25 (.load eR true 5), .o 5 (.alloc [(.str []),(.slice .full 0 []),(.slice .full 0 []),(.slice .full 0 []),(.slice .full 0 [])]), .op none none (.store ct eU 5)]) (.seq Q1S Q26))) (.run [.m 19 fi, .o 20 (.bin .add dU (.k (.int .i64 1))), .m 4 eA])
abbrev Q2C:AC:= .seq (.seq (.run [.m 10 fi, .o 11 (.aq bt 1), .o 12 (.load cD false 1), .o 13 (.len cT), .o 14 (.bin .lss cd db), .m 15 cJ, .g 16 15 true (.mv cB), .g 17 15 true (.bin .leq df (.k (.int .i64 20000))), .o 18 (.pick dA dC (.k (.bool false)))]) (.cond dD .skip (.exit 0))) Q2B
abbrev Q2I:AC:= .seq (.seq (.run [.o 4 (.mv (.k (.int .i64 0)))]) (.block 0 (.loop Q2C))) (.seq (.run [.m 59 cB, .o 60 (.bin .leq lT (.k (.int .i64 20000))), .m 2 pb]) .ret)
abbrev Q2K:AC:= .seq (.run [.o 1 (.box br), .o 2 (.mv (.k (.bool false)))]) (.seq (.run [.o 7 (.aq bt 0), .o 8 (.load cW false 1), .c 9 jH [cR,(.k (.int .i64 0))], .m 3 dn]) Q2I)
abbrev Q2P:AC:= .cond eR (.seq (.run [.o 25 (.build [(.int .i64 0),(.int .i64 0),(.int .i64 0),(.slice .full 0 []),(.slice .full 0 [])] []), .op none none (.store cR eU 5), .o 9 (.mv (.k (.int .i64 1)))]) .ret) .skip
abbrev Q2Z:AC:= .seq (.cond iB .skip (.exit 0)) (.seq (.block 1 (.run [.m 37 cd, .m 38 cd, .o 39 (.bS j7), .o 40 (.aq jN 1), .o 41 (.load ku false 1), .o 42 (.alloc [(.int .i64 0)]), .o 43 (.du [.dR] 1 1 [(0,kH)]), .o 44 (.app 1 8 j8 kv), .o 45 (.bS je), .o 46 (.aq lH 1), .op none none (.store lI kI 1)])) (.run [.o 47 (.bin .add gQ (.k (.int .i64 1))), .m 35 lS]))
abbrev Q30:AC:= .seq (.run [.o 36 (.bin .lss gQ iA)]) Q2Z
abbrev Q3A:AC:= .cond nq (.seq (.run [.o 12 (.mv (.k (.int .i64 0)))]) (.goto 0)) .skip
abbrev Q3B:AC:= .seq (.run [.m 55 db,(.o 56 (.bin .eql lL (.k (.int .i64 (-1)))))]) Q3A
abbrev Q3F:AC:= .cond qG (.seq (.run [.m 64 cd, .o 65 (.bS qH), .o 66 (.aq um 6), .o 67 (.aq vH 0), .op none none (.store xB (.k (.int .i64 2)) 1)]) (.goto 2)) .skip
abbrev Q3R:AC:= .seq (.run [.m 102 cd, .o 103 (.aq cD 0), .o 104 (.load Xc true 13), .c 105 oB [Xb,Xd], .m 12 Xe]) (.seq (.run [.m 106 cd, .o 107 (.bS Xf), .o 108 (.aq Xg 6), .o 109 (.aq Xh 0), .o 110 (.load af7 false 1), .o 111 (.bin .eql Xi (.k (.int .i64 0)))]) (.cond Xj (.goto 0) .skip))
abbrev Q3V:AC:= .cond UU (.run [.m 96 cd, .o 97 (.aq cD 0), .o 98 (.load acE true 13), .c 99 o6 [acD,acF], .m 13 acG]) (.seq (.run [.o 101 (.bin .eql FC (.k (.int .i64 9))), .m 100 Xa]) (.cond W9 Q3R (.run [.m 91 cd, .o 92 (.load cD true 17), .c 93 qE [Jo,OS], .m 13 UT])))
abbrev Q3X:AC:= .block 2 (.seq (.run [.o 95 (.bin .eql FC (.k (.int .i64 4))), .m 94 UW]) Q3V)
abbrev Q47:AC:= .seq (.run [.m 127 cd, .o 128 (.bS Xx), .o 129 (.aq Em 6), .o 130 (.load Xy true 5), .op none none (.store cR Xz 5), .o 9 (.mv (.k (.int .i64 0)))]) .ret
abbrev Q49:AC:= .seq (.seq (.run [.m 121 cd, .o 122 (.bS Xs), .o 123 (.aq Xt 6), .o 124 (.aq Xu 0), .o 125 (.load Xv false 1), .o 126 (.bin .eql Xw (.k (.int .i64 0)))]) (.cond af8 (.goto 1) .skip)) (.seq (.label 2) Q47)
abbrev Q4A:AC:= .seq (.run [.m 118 cd, .m 119 cT, .c 120 oD [Xp,Xq], .m 13 Xr]) Q49
abbrev Q4D:AC:= .seq (.seq (.run [.m 112 cd, .o 113 (.bS OT), .o 114 (.aq Xk 6), .o 115 (.aq Xl 0), .o 116 (.load Xm false 1), .o 117 (.bin .eql Xn (.k (.int .i64 0)))]) (.cond Xo (.goto 1) .skip)) (.seq (.goto 2) (.seq (.label 0) Q4A))
abbrev Q4G:AC:= .seq (.run [.m 68 cd, .o 69 (.bS vI), .o 70 (.aq zi 6), .o 71 (.aq zj 1), .o 72 (.load Ds false 1), .o 73 (.bin .add Bn (.k (.int .i64 1))), .o 74 (.bS vI), .o 75 (.aq Dt 6), .o 76 (.aq Du 1), .op none none (.store Bp Bo 1)]) (.seq (.run [.m 77 cd, .o 78 (.bS Dv), .o 79 (.aq zk 0), .o 80 (.load Fz false 1), .o 81 (.bS FA), .o 82 (.aq FB 2), .o 83 (.load Jh false 1), .m 84 db, .o 85 (.bin .sub Jj (.k (.int .i64 1))), .o 86 (.cm Ji Jk 17), .o 87 (.load Jl true 17), .op none none (.store cD Jm 17)]) (.seq (.seq (.run [.o 88 (.aq cD 0), .o 89 (.aq Jn 1), .o 90 (.load Dw false 1)]) Q3X) Q4D))
abbrev Q4I:AC:= .seq Q3B (.seq (.seq (.run [.m 57 cd, .o 58 (.bS oE), .o 59 (.aq nX 6), .o 60 (.aq lT 1), .o 61 (.load pb false 1), .m 62 dw, .o 63 (.bin .eql qF pU)]) Q3F) Q4G)
abbrev Q4L:AC:= .seq (.run [.o 12 (.mv (.k (.int .i64 0)))]) (.seq (.run [.m 48 cd, .m 49 cd, .o 50 (.bS kX), .o 51 (.aq lJ 0), .o 52 (.load kJ false 1),(.c 53 iz [kK,(.k (.str [109,97,105,110]))]),(.c 54 jl [kW,kY,(.k (.slice .full 0 [])),(.k (.int .i64 0))]), .m 13 lK]) (.seq (.label 1) Q4I))
abbrev Q4M:AC:= .seq (.run [.o 11 (.alloc [(.int .i64 0),(.int .i64 0),(.slice .full 0 []),(.str []),(.str []),(.int .i64 0),(.int .i64 0),(.str []),(.slice .full 0 []),(.bool false),(.slice .full 0 []),(.slice .full 0 []),(.slice .full 0 []),(.int .i64 0),(.int .i64 0),(.int .i64 0),(.int .i64 0)])]) Q4L
abbrev Q4N:AC:= .seq (.seq (.run [.o 32 (.aq fi 0), .o 33 (.load gP false 1), .o 34 (.len gF), .o 35 (.mv (.k (.int .i64 0)))]) (.block 0 (.loop Q30))) Q4M
abbrev Q4P:AC:= .seq (.seq (.run [.m 14 dw, .o 15 (.bin .lss cJ (.k (.int .i64 0))), .m 16 dA, .g 17 16 false (.mv dw), .g 18 16 false (.bin .gtr dC (.k (.int .i64 1000000))), .o 19 (.pick df (.k (.bool true)) dD), .m 20 dU, .g 21 20 false (.load fi true 2), .d 22 20 false sO [dV], .g 23 20 false (.un .not eD), .o 24 (.pick eA (.k (.bool true)) eH)]) Q2P) (.seq (.run [.o 26 (.load fi true 2), .c 27 kU [fp], .m 28 bt, .m 29 cB, .o 30 (.build [.dR,(.slice .full 0 []),(.slice .full 0 []),(.slice .full 0 []),(.slice .full 0 []),(.slice .full 0 []),(.int .i64 0),(.int .i64 0),(.int .i64 0),(.slice .full 0 []),(.slice .full 0 [])] [(0,(1,fq)),(2,(1,gb)),(3,(1,fY))]), .o 31 (.box gE), .m 10 gp]) Q4N)
abbrev Q4Q:AC:= .scope Q4P
abbrev Q4R:AC:= .seq (.run [.o 4 (.box br), .o 8 (.alloc [(.int .i64 0),(.int .i64 0),(.int .i64 0),(.slice .full 0 []),(.slice .full 0 [])]), .o 9 (.mv (.k (.int .i64 0)))]) Q4Q
abbrev Q4V:AC:= .seq (.run [.o 1 (.box br), .o 2 (.mv (.k (.bool false)))]) (.seq (.run [.o 3 (.load bt true 2), .c 4 xu [cB], .o 5 (.AJ fi 0 false 1), .o 6 (.bin .eql ct (.k (.int .i64 0))), .m 2 dB]) .ret)
abbrev Q4Z:AC:= .seq (.run [.o 3 (.box br), .o 6 (.mv (.k (.bool false)))]) (.seq (.run [.o 7 (.load cB true 2), .c 8 sO [cW], .m 9 cR, .g 10 9 true (.mv dw), .g 11 9 true (.bin .geq cd (.k (.int .i64 0))), .o 12 (.pick dn cD (.k (.bool false))), .m 13 cT, .g 14 13 true (.mv dw), .g 15 13 true (.bin .leq cJ (.k (.int .i64 400))), .o 16 (.pick db dA (.k (.bool false))), .m 17 df, .g 18 17 true (.mv bt), .g 19 17 true (.len dD), .g 20 17 true (.bin .leq dU (.k (.int .i64 100))), .o 21 (.pick dC eA (.k (.bool false))), .m 6 dV]) .ret)
abbrev Q51:AC:= .par [.o 10 (.load cB true 2), .m 11 bt, .m 12 dw, .o 13 (.load cB true 2), .c 14 zb [db,(.k (.int .i64 0))], .c 15 vA [cd,cD,cT,cJ], .m 9 dA, .o 16 (.ext dn 0), .o 17 (.ext dn 1), .o 7 (.alloc [(.int .i64 0),(.int .i64 0),(.int .i64 0),(.slice .full 0 []),(.slice .full 0 [])]), .op none none (.store cW df 5), .m 8 dC] [(3,0),(4,0),(0,1),(1,0),(2,0),(5,0),(9,0),(6,0),(7,0),(10,0),(8,0),(11,0)]
abbrev Q55:AC:= .seq (.run [.o 3 (.box br), .o 6 (.alloc [(.int .i64 0),(.int .i64 0),(.int .i64 0),(.slice .full 0 []),(.slice .full 0 [])])]) (.seq Q51 (.seq (.run [.o 18 (.load cW true 5), .op none none (.store dB dD 5)]) .ret))
abbrev Q59:AC:= .seq (.run [.o 4 (.mv (.k (.bool false)))]) (.seq (.run [.m 5 br, .o 6 (.len ct), .m 7 bt, .o 8 (.len cW), .o 9 (.bin .leq dB cR), .m 10 dn, .g 11 10 true (.mv br), .g 12 10 true (.mv bt), .g 13 10 true (.mv br), .g 14 10 true (.len db), .g 15 10 true (.CH 1 cT none (some cJ)), .d 16 10 true jX [cD,dA], .o 17 (.pick cd df (.k (.bool false))), .m 4 dC]) .ret)
abbrev Q5F:AC:= .seq (.run [.o 2 (.box br), .o 4 (.alloc [(.int .i64 0),(.int .i64 0),(.slice .full 0 []),(.str []),(.str []),(.int .i64 0),(.int .i64 0),(.str []),(.slice .full 0 []),(.bool false),(.slice .full 0 []),(.slice .full 0 []),(.slice .full 0 [])])]) (.seq (.run [.o 9 (.load dw true 2), .m 10 bt, .c 11 xv [dn,cd], .m 8 cD, .o 12 (.ext cR 0), .o 13 (.ext cR 1), .o 14 (.ext cR 2), .o 5 (.alloc [(.int .i64 0),(.int .i64 0),(.slice .full 0 []),(.str []),(.str []),(.int .i64 0),(.int .i64 0),(.str []),(.slice .full 0 []),(.bool false),(.slice .full 0 []),(.slice .full 0 []),(.slice .full 0 []),(.int .i64 0),(.int .i64 0),(.bool false)]), .op none none (.store ct cT 16), .m 6 db, .m 7 cJ]) (.seq (.run [.o 15 (.aq ct 0), .o 16 (.load dA true 13), .op none none (.store fi df 13)]) .ret))
abbrev Q5K:AC:= .cond cd (.seq (.run [.o 4 (.mv (.k (.bool false)))]) .ret) .skip
abbrev Q5Q:AC:= .par [.m 16 br, .m 17 ct, .o 18 (.cm df dC 1), .o 19 (.load dD false 1), .m 20 bt, .m 21 ct, .o 22 (.cm eA dV 1), .o 23 (.load eD false 1), .o 24 (.bin .neq dU eH)] [(0,0),(1,0),(2,0),(3,0),(4,0),(5,0),(6,0),(7,0),(8,0)]
abbrev Q5T:AC:= .cond eR (.seq (.run [.o 4 (.mv (.k (.bool false)))]) .ret) .skip
abbrev Q5Z:AC:= .seq (.cond cJ .skip (.exit 0)) (.seq (.block 1 (.seq (.run [.m 15 db, .m 5 dA]) (.seq Q5Q Q5T))) (.run [.o 25 (.bin .add db (.k (.int .i64 1))), .m 13 eU]))
abbrev Q63:AC:= .seq (.run [.m 11 br, .o 12 (.len cD), .o 13 (.mv (.k (.int .i64 0)))]) (.block 0 (.loop (.seq (.run [.o 14 (.bin .lss db cT)]) Q5Z)))
abbrev Q66:AC:= .seq Q63 (.seq (.run [.o 4 (.mv (.k (.bool true)))]) .ret)
abbrev Q68:AC:= .seq (.run [.o 4 (.mv (.k (.bool false)))]) (.seq (.seq (.run [.m 6 br, .o 7 (.len dB), .m 8 bt, .o 9 (.len cR), .o 10 (.bin .neq cW dn)]) Q5K) Q66)
abbrev Q6C:AC:= .seq (.run [.o 1 (.box br), .o 2 (.mv (.k (.bool false)))]) (.seq (.run [.o 3 (.load bt true 4), .c 4 qc [cB,(.k (.int .i64 20))], .m 2 fi]) .ret)
abbrev Q6N:AC:= .seq (.run [.o 13 (.cm dn cD 16), .o 14 (.load db true 16), .o 7 (.alloc [(.int .i64 0),(.int .i64 0),(.slice .full 0 []),(.str []),(.str []),(.int .i64 0),(.int .i64 0),(.str []),(.slice .full 0 []),(.bool false),(.slice .full 0 []),(.slice .full 0 []),(.slice .full 0 []),(.int .i64 0),(.int .i64 0),(.bool false)]), .op none none (.store cW cJ 16)]) (.seq (.run [.m 15 bt, .o 16 (.bin .eql dA (.k (.int .i64 0))), .m 17 df, .g 18 17 false (.aq cW 0), .g 19 17 false (.aq dD 1), .g 20 17 false (.load dU false 1), .g 21 17 false (.mv bt), .g 22 17 false (.bin .eql eA dV), .o 23 (.pick dC (.k (.bool true)) eD)]) (.cond eH (.run [.m 24 ct, .o 25 (.aq cW 0), .o 26 (.aq eU 0), .o 27 (.load fp false 1), .o 28 (.du [(.int .i64 0)] 1 1 [(0,fq)]), .o 29 (.app 1 8 eR gb), .m 5 fY]) .skip))
abbrev Q6R:AC:= .seq (.cond cT .skip (.exit 0)) (.seq (.block 1 Q6N) (.run [.o 30 (.bin .add cD (.k (.int .i64 1))), .m 11 gE]))
abbrev Q6V:AC:= .seq (.run [.o 8 (.load dw true 2), .c 9 zc [cR], .o 10 (.len dn), .o 11 (.mv (.k (.int .i64 0)))]) (.block 0 (.loop (.seq (.run [.o 12 (.bin .lss cD cd)]) Q6R)))
abbrev Q70:AC:= .seq (.run [.o 2 (.box br), .o 4 (.mv (.k (.slice .full 0 [])))]) (.seq (.run [.o 5 (.mv (.k (.slice .full 0 [])))]) (.seq Q6V (.seq (.run [.m 31 ct, .m 4 gp]) .ret)))
abbrev Q75:AC:= .cond eH (.seq (.run [.o 2 (.mv (.k (.bool false)))]) .ret) .skip
abbrev Q7C:AC:= .run [.o 33 (.aq ct 1), .o 34 (.load gF false 1), .o 35 (.len iA), .o 36 (.bin .gtr gQ (.k (.int .i64 8))), .m 37 iB, .g 38 37 false (.aq ct 2), .g 39 37 false (.load j7 false 1), .g 40 37 false (.len jN), .g 41 37 false (.bin .gtr ku (.k (.int .i64 16))), .o 42 (.pick je (.k (.bool true)) j8), .m 43 kH, .g 44 43 false (.aq ct 0), .g 45 43 false (.load kI false 1), .d 46 43 false nW [lH], .g 47 43 false (.un .not lI), .o 48 (.pick kv (.k (.bool true)) lS), .m 49 kW, .g 50 49 false (.aq ct 2), .g 51 49 false (.load lJ false 1), .d 52 49 false nn [kJ], .g 53 49 false (.un .not kK), .o 54 (.pick kX (.k (.bool true)) kY), .m 55 lK, .g 56 55 false (.aq ct 4), .g 57 55 false (.load nq false 1), .d 58 55 false nn [oE], .g 59 55 false (.un .not nX), .o 60 (.pick lL (.k (.bool true)) lT)]
abbrev Q7F:AC:= .cond pb (.seq (.run [.o 2 (.mv (.k (.bool false)))]) .ret) .skip
abbrev Q7O:AC:= .cond Ds (.seq (.run [.o 2 (.mv (.k (.bool false)))]) .ret) .skip
abbrev Q7T:AC:= .seq (.block 3 (.seq (.run [.o 66 (.cm pU qH 2), .o 67 (.load vH true 2), .o 7 (.alloc [(.str []),(.bool false)]), .op none none (.store cW xB 2)]) (.seq (.run [.o 68 (.aq cW 0), .o 69 (.load vI false 1), .c 70 nW [zi], .o 71 (.un .not zj)]) Q7O))) (.run [.o 72 (.bin .add qH (.k (.int .i64 1))), .m 64 Bn])
abbrev Q7X:AC:= .block 2 (.loop (.seq (.run [.o 65 (.bin .lss qH qG)]) (.seq (.cond um .skip (.exit 2)) Q7T)))
abbrev Q82:AC:= .cond Dv (.seq (.run [.o 2 (.mv (.k (.bool false)))]) .ret) .skip
abbrev Q84:AC:= .seq (.seq (.run [.o 61 (.aq ct 1), .o 62 (.load qF false 1), .o 63 (.len pU), .o 64 (.mv (.k (.int .i64 0)))]) Q7X) (.seq (.run [.m 73 cB, .o 74 (.aq ct 3), .o 75 (.load Dt false 1), .c 76 kr [Bo,Du,(.k (.int .i64 1))], .o 77 (.un .not Bp)]) Q82)
abbrev Q89:AC:= .seq (.block 1 (.seq (.run [.o 31 (.cm fq fY 5), .o 32 (.load gp true 5), .o 5 (.alloc [(.str []),(.slice .full 0 []),(.slice .full 0 []),(.slice .full 0 []),(.slice .full 0 [])]), .op none none (.store ct gP 5)]) (.seq (.seq Q7C Q7F) Q84))) (.run [.o 78 (.bin .add fY (.k (.int .i64 1))), .m 29 zk])
abbrev Q8D:AC:= .block 0 (.loop (.seq (.run [.o 30 (.bin .lss fY gb)]) (.seq (.cond gE .skip (.exit 0)) Q89)))
abbrev Q8H:AC:= .seq (.seq (.run [.o 26 (.aq bt 1), .o 27 (.load fp false 1), .o 28 (.len fq), .o 29 (.mv (.k (.int .i64 0)))]) Q8D) (.seq (.run [.o 2 (.mv (.k (.bool true)))]) .ret)
abbrev Q8J:AC:= .seq (.seq (.run [.o 8 (.aq bt 0), .o 9 (.load cR false 1), .o 10 (.len dn), .o 11 (.bin .gtr cd (.k (.int .i64 16))), .m 12 cD, .g 13 12 false (.aq bt 1), .g 14 12 false (.load db false 1), .g 15 12 false (.len cJ), .g 16 12 false (.bin .gtr dA (.k (.int .i64 16))), .o 17 (.pick cT (.k (.bool true)) df), .m 18 dC, .g 19 18 false (.aq bt 0), .g 20 18 false (.load dU false 1), .d 21 18 false nn [eA], .g 22 18 false (.un .not dV), .o 23 (.pick dD (.k (.bool true)) eD)]) Q75) (.seq (.run [.o 24 (.build [(.int .i64 0)] []), .o 25 (.box eR), .m 3 eU]) Q8H)
abbrev Q8K:AC:= .seq (.run [.o 1 (.box br), .o 2 (.mv (.k (.bool false)))]) Q8J
open Go.Proofs
theorem qI:Has Tryz.prog yi 67 [(6,none)] Q1E:=⟨Tryz.f9,by kernel_rfl,by kernel_rfl⟩
set_option maxRecDepth 20000 in
theorem Ht : Has Tryz.prog xn 56 [(0, none)] Q1K := ⟨Tryz.f15, by kernel_rfl, by kernel_rfl⟩
theorem Hu:Has Tryz.prog xo 61 [(2,none)] Q2K:=⟨Tryz.f16,by kernel_rfl,by kernel_rfl⟩
theorem uV:Has Tryz.prog vA 131 [(8,(some (true,5))),(9,none)] Q4R:=⟨Tryz.f17,by kernel_rfl,by kernel_rfl⟩
theorem Hv:Has Tryz.prog sO 7 [(2,none)] Q4V:=⟨Tryz.f20,by kernel_rfl,by kernel_rfl⟩
theorem En:Has Tryz.prog uc 22 [(6,none)] Q4Z:=⟨Tryz.f21,by kernel_rfl,by kernel_rfl⟩
theorem Eo:Has Tryz.prog ud 19 [(6,(some (true,5)))] Q55:=⟨Tryz.f22,by kernel_rfl,by kernel_rfl⟩
theorem wG:Has Tryz.prog qn 18 [(4,none)] Q59:=⟨Tryz.f23,by kernel_rfl,by kernel_rfl⟩
theorem Ai:Has Tryz.prog xp 17 [(4,(some (true,13)))] Q5F:=⟨Tryz.f27,by kernel_rfl,by kernel_rfl⟩
theorem vJ:Has Tryz.prog jX 26 [(4,none)] Q68:=⟨Tryz.f28,by kernel_rfl,by kernel_rfl⟩
theorem Dx:Has Tryz.prog nj 5 [(2,none)] Q6C:=⟨Tryz.f29,by kernel_rfl,by kernel_rfl⟩
theorem Jp:Has Tryz.prog zb 32 [(4,none)] Q70:=⟨Tryz.f33,by kernel_rfl,by kernel_rfl⟩
theorem Jq:Has Tryz.prog rB 79 [(2,none)] Q8K:=⟨Tryz.f36,by kernel_rfl,by kernel_rfl⟩
end Go.Abs
