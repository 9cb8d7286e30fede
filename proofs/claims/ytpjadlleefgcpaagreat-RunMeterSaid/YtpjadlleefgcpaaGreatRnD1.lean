/-
  What is proved here: part 1 of the road to the claim (Frame, Frame2, Walk, Par, Par1, Par2, Par3, Step, Wp, Types, SelA, Lend, Sym, Frz, WpA, Mir, MirTree, Cnt, MirFlat, Nums, Codes0, Have0).
  No conditions.
-/
import Derived.Test.YtpjadlleefgcpaaGreatRnD0
import Derived.Attr
import Derived.Test.YtpjadlleefgcpaaGreatProg
import Derived.KernelRfl

set_option linter.unusedSimpArgs false
set_option linter.unusedVariables false
namespace Go.Abs
def Tag.ok (m:Nat):Tag→Bool
 | .tok t _=>decide (t<m)
 |_=>true
def Tag.cJ (ts:List Nat):Tag→Tag
 | .tok t y=>match ts[t]? with|some t'=> .tok t' y|none=> .shared
 |g=>g
mutual
def D.ok (n m:Nat):D→Bool
 | .ptr o _=>decide (o<n)
 | .dt row _=>D.bL n m row
 | .slice g _ rows=>g.ok m && D.gU n m rows
 | .agg cs=>D.bL n m cs
 | .tuple ds=>D.bL n m ds
 | .fh _ o=>decide (o<n)
 | .fV _ cs=>D.bL n m cs
 | .fL o=>decide (o<n)
 | .dZ _ o _ _=>decide (o<n)
 | .fi o _ _=>decide (o<n)
 |_=>true
def D.bL (n m:Nat):List D→Bool
 | []=>true
 |d::r=>D.ok n m d && D.bL n m r
def D.gU (n m:Nat):List (List D)→Bool
 | []=>true
 |d::r=>D.bL n m d && D.gU n m r
end
mutual
def D.cJ (os ts:List Nat):D→D
 | .ptr o off=>match os[o]? with|some o'=> .ptr o' off|none=> .junk
 | .dt row off=> .dt (D.eQ os ts row) off
 | .slice g z rows=> .slice (g.cJ ts) z (D.nN os ts rows)
 | .agg cs=> .agg (D.eQ os ts cs)
 | .tuple ds=> .tuple (D.eQ os ts ds)
 | .junk=> .junk
 | .int k x=> .int k x
 | .bool b=> .bool b
 | .str l=> .str l
 | .dO=> .dO
 | .val v=> .val v
 | .fh T o=>match os[o]? with|some o'=> .fh T o'|none=> .junk
 | .fV f cs=> .fV f (D.eQ os ts cs)
 | .fL o=>match os[o]? with|some o'=> .fL o'|none=> .junk
 | .dZ z o g len=>match os[o]? with|some o'=> .dZ z o' g len|none=> .junk
 | .fi o g off=>match os[o]? with|some o'=> .fi o' g off|none=> .junk
 | .dX z=> .dX z
def D.eQ (os ts:List Nat):List D→List D
 | []=> []
 |d::r=>D.cJ os ts d::D.eQ os ts r
def D.nN (os ts:List Nat):List (List D)→List (List D)
 | []=> []
 |d::r=>D.eQ os ts d::D.nN os ts r
end
theorem fJ (os ts:List Nat) : ∀ l,D.eQ os ts l=l.map (D.cJ os ts)
 | []=>by simp[D.eQ]
 |d::r=>by simp[D.eQ,fJ os ts r]
theorem BP (os ts:List Nat) : ∀ l,D.nN os ts l=l.map (D.eQ os ts)
 | []=>by simp[D.nN]
 |d::r=>by simp[D.nN,BP os ts r]
theorem xM (n m:Nat) : ∀ l,D.bL n m l=l.all (D.ok n m)
 | []=>by simp[D.bL]
 |d::r=>by simp[D.bL,xM n m r]
theorem DZ (n m:Nat) : ∀ l,D.gU n m l=l.all (D.bL n m)
 | []=>by simp[D.gU]
 |d::r=>by simp[D.gU,DZ n m r]
theorem u7 {n m:Nat} {l:List D} (h:D.bL n m l=true) {i:Nat} {d:D} (e:l[i]? = some d):D.ok n m d=true:=by
 rw[xM]at h;exact List.all_eq_true.1 h d (List.mem_of_getElem? e)
theorem XE {n m:Nat} {l:List (List D)} (h:D.gU n m l=true) {i:Nat} {d:List D} (e:l[i]? = some d):D.bL n m d=true:=by
 rw[DZ]at h;exact List.all_eq_true.1 h d (List.mem_of_getElem? e)
section
variable {M M0:Map} {s s0:St} {os ts:List Nat}
theorem iI.BQ (kB : ∀ (i:Nat) t,ts[i]? = some t→M0.be i=M.be t) (ht : ∀ (i t:Nat),ts[i]? = some t→s0.au[i]? = s.au[t]?) (hlen:s0.au.length=ts.length) {g:Tag} {z len cap:Nat} {base:Option (Nat×Nat)} (pC:g.ok ts.length=true) (h:iI M s (g.cJ ts) z len base cap):iI M0 s0 g z len base cap:=by
 cases g with
 |full=>exact h
 |shared=>exact h
 |tok t y=>
  have hD:t<ts.length:=by simpa[Tag.ok]using pC
  have e:ts[t]? = some ts[t]:=List.getElem?_eq_getElem hD
  simp only[Tag.cJ,e]at h
  obtain⟨h1,h2⟩:=h
  refine⟨by omega,fun n hn=>?_⟩
  rw[ht t _ e]at hn
  rw[kB t _ e]
  exact h2 n hn
theorem RD.BQ (hG:M0.G=M.G) (je : ∀ (i:Nat) o,os[i]? = some o→M0.loc i=M.loc o) (jh:s0.ah.length=os.length)
 (kB : ∀ (i:Nat) t,ts[i]? = some t→M0.be i=M.be t) (ht : ∀ (i t:Nat),ts[i]? = some t→s0.au[i]? = s.au[t]?) (hlen:s0.au.length=ts.length) {d:D} {v:Value} (h:RD M s d v) :
 ∀ d0:D,d0.cJ os ts=d→d0.ok os.length ts.length=true→RD M0 s0 d0 v:=by
 have mN : ∀ (i:Nat) o,os[i]? = some o→M0.mu i=M.mu o:=fun i o h=>congrArg Prod.fst (je i o h)
 have tag:=fun {g z len cap base}=>@iI.BQ M M0 s s0 ts kB ht hlen g z len cap base
 induction h with
 | junk v=>
  intro d0 e ok
  cases d0<;>simp only[D.cJ]at e<;>try (cases e;done)
  ·exact .junk v
  ·rename_i o off
   have hD:o<os.length:=by simpa[D.ok]using ok
   rw[List.getElem?_eq_getElem hD]at e;cases e
  ·rename_i T o
   have hD:o<os.length:=by simpa[D.ok]using ok
   rw[List.getElem?_eq_getElem hD]at e;cases e
  ·rename_i o
   have hD:o<os.length:=by simpa[D.ok]using ok
   rw[List.getElem?_eq_getElem hD]at e;cases e
  ·rename_i z o g len
   have hD:o<os.length:=by simpa[D.ok]using ok
   rw[List.getElem?_eq_getElem hD]at e;cases e
  ·rename_i o g off
   have hD:o<os.length:=by simpa[D.ok]using ok
   rw[List.getElem?_eq_getElem hD]at e;cases e
 |dX z a=>intro d0 e ok;cases d0<;>simp only[D.cJ]at e<;>first|(cases e;exact .dX _ _)|(split at e<;>cases e)|cases e
 |dZ z o g len b cap A ho hm ha hl=>
  intro d0 e ok
  cases d0<;>simp only[D.cJ]at e<;>first|(cases e;done)|skip
  all_goals try (split at e<;>cases e;done)
  rename_i z0 o0 g0 MM
  have hD:o0<os.length:=by simpa[D.ok]using ok
  rw[List.getElem?_eq_getElem hD]at e
  cases e
  exact RD.dZ (s:=s0) z o0 g len b cap A (by omega) ((congrArg Prod.snd (je o0 _ (List.getElem?_eq_getElem hD))).trans hm) ha hl
 |fi z o g off b cap A ho hm ha=>
  intro d0 e ok
  cases d0<;>simp only[D.cJ]at e<;>first|(cases e;done)|skip
  all_goals try (split at e<;>cases e;done)
  rename_i o0 g0 SY
  have hD:o0<os.length:=by simpa[D.ok]using ok
  rw[List.getElem?_eq_getElem hD]at e
  cases e
  exact RD.fi (s:=s0) z o0 g off b cap A (by omega) ((congrArg Prod.snd (je o0 _ (List.getElem?_eq_getElem hD))).trans hm) ha
 |val v hv=>intro d0 e ok;cases d0<;>simp only[D.cJ]at e<;>first|(cases e;exact .val _ hv)|(split at e<;>cases e)|cases e
 |fh T o v ho ht hv=>
  intro d0 e ok
  cases d0<;>simp only[D.cJ]at e<;>first|(split at e<;>cases e;done)|skip
  all_goals try (cases e;done)
  rename_i T0 o0
  have hD:o0<os.length:=by simpa[D.ok]using ok
  rw[List.getElem?_eq_getElem hD]at e
  cases e
  have hl:=je o0 _ (List.getElem?_eq_getElem hD)
  exact .fh _ o0 v (by omega) ((congrArg (fun x=>x.2.ty?) hl).trans ht) (by rw[mN o0 _ (List.getElem?_eq_getElem hD)];exact hv)
 |int k x=>intro d0 e ok;cases d0<;>simp only[D.cJ]at e<;>first|(cases e;exact .int _ _)|(split at e<;>cases e)|cases e
 |bool b=>intro d0 e ok;cases d0<;>simp only[D.cJ]at e<;>first|(cases e;exact .bool _)|(split at e<;>cases e)|cases e
 |str l=>intro d0 e ok;cases d0<;>simp only[D.cJ]at e<;>first|(cases e;exact .str _)|(split at e<;>cases e)|cases e
 |dO=>intro d0 e ok;cases d0<;>simp only[D.cJ]at e<;>first|(cases e;exact .dO)|(split at e<;>cases e)|cases e
 |fL o ho hm=>
  intro d0 e ok
  cases d0<;>simp only[D.cJ]at e<;>first|(cases e;done)|skip
  all_goals try (split at e<;>cases e;done)
  rename_i o0
  have hD:o0<os.length:=by simpa[D.ok]using ok
  rw[List.getElem?_eq_getElem hD]at e
  cases e
  rw[← mN o0 _ (List.getElem?_eq_getElem hD)]
  exact RD.fL (s:=s0) o0 (by omega) ((congrArg Prod.snd (je o0 _ (List.getElem?_eq_getElem hD))).trans hm)
 |fV f ds vs hl _ ih=>
  intro d0 e ok
  cases d0<;>simp only[D.cJ]at e<;>first|(split at e<;>cases e;done)|skip
  all_goals try (cases e;done)
  rename_i f0 P9
  simp only[D.fV.injEq]at e
  obtain⟨rfl,rfl⟩:=e
  simp only[D.ok]at ok
  rw[fJ]at hl ih
  refine .fV _ P9 vs (by simpa using hl) (fun i d v e1 e2=>ih i _ v (by rw[List.getElem?_map,e1];rfl) e2 d rfl (u7 ok e1))
 |ptr o off ho hm=>
  intro d0 e ok
  cases d0<;>simp only[D.cJ]at e<;>first|(cases e;done)|skip
  all_goals try (split at e<;>cases e;done)
  rename_i o0 SY
  have hD:o0<os.length:=by simpa[D.ok]using ok
  rw[List.getElem?_eq_getElem hD]at e
  cases e
  rw[← mN o0 _ (List.getElem?_eq_getElem hD)]
  exact RD.ptr (s:=s0) o0 _ (by omega) (by rw[show M0.ob o0=_ from congrArg Prod.snd (je o0 _ (List.getElem?_eq_getElem hD))];exact hm)
 |dt row off b k h1 h2 ih=>
  intro d0 e ok
  cases d0<;>simp only[D.cJ]at e<;>first|(split at e<;>cases e;done)|skip
  all_goals try (cases e;done)
  rename_i aiO SY
  simp only[D.dt.injEq]at e
  obtain⟨rfl,rfl⟩:=e
  simp only[D.ok]at ok
  rw[fJ]at h1 ih
  refine .dt aiO SY b k (fun i d e=>?_) (fun i d u e eu=>?_)
  ·rw[hG];exact h1 i _ (by rw[List.getElem?_map,e];rfl)
  ·rw[hG]at eu;exact ih i _ u (by rw[List.getElem?_map,e];rfl) eu d rfl (u7 ok e)
 |iG g z cap hc pD=>
  intro d0 e ok
  cases d0<;>simp only[D.cJ]at e<;>first|(split at e<;>cases e;done)|skip
  all_goals try (cases e;done)
  rename_i g0 z0 j8
  simp only[D.slice.injEq]at e
  obtain⟨rfl,rfl,e⟩:=e
  have:j8 = []:=by cases j8<;>simp[D.nN]at e;rfl
  subst this
  simp only[D.ok,Bool.and_eq_true]at ok
  exact .iG g0 z0 cap hc (tag ok.1 pD)
 | lh z a cap=>
  intro d0 e ok
  cases d0<;>simp only[D.cJ]at e<;>first|(split at e<;>cases e;done)|skip
  all_goals try (cases e;done)
  rename_i g0 z0 j8
  simp only[D.slice.injEq]at e
  obtain⟨hg,rfl,e⟩:=e
  have:j8 = []:=by cases j8<;>simp[D.nN]at e;rfl
  subst this
  simp only[D.ok,Bool.and_eq_true]at ok
  have:g0 = .shared:=by
   cases g0 with
   |tok t y=>
    have ht:t<ts.length:=by simpa[Tag.ok]using ok.1
    simp[Tag.cJ,ht]at hg
   |shared=>rfl
   |_=>simp[Tag.cJ]at hg
  subst this
  exact .lh _ a cap
 | slice g z rows b k cap hl hs h1 h2 pD ih=>
  intro d0 e ok
  cases d0<;>simp only[D.cJ]at e<;>first|(split at e<;>cases e;done)|skip
  all_goals try (cases e;done)
  rename_i g0 z0 j8
  simp only[D.slice.injEq]at e
  obtain⟨rfl,rfl,rfl⟩:=e
  simp only[D.ok,Bool.and_eq_true]at ok
  rw[BP]at hl hs h1 ih pD
  simp only[BP,List.length_map]at hl pD ⊢
  have dT : ∀ (i:Nat) (row:List D),j8[i]? = some row→(j8.map (D.eQ os ts))[i]? = some (D.eQ os ts row):=fun i row e=>by rw[List.getElem?_map,e];rfl
  have iy : ∀ (row:List D) (j:Nat) (d:D),row[j]? = some d→(D.eQ os ts row)[j]? = some (D.cJ os ts d):=fun row j d e=>by rw[fJ,List.getElem?_map,e];rfl
  refine .slice g0 z0 j8 b k cap hl (fun row hr=>?_) (fun i row j d e1 e2=>?_) (fun i row j d u e1 e2 eu=>?_) (tag ok.1 pD)
  ·have:=hs (D.eQ os ts row) (List.mem_map.2 ⟨row,hr,rfl⟩)
   rwa [fJ,List.length_map]at this
  ·rw[hG];exact h1 i _ j _ (dT i row e1) (iy row j d e2)
  ·rw[hG]at eu;exact ih i _ j _ u (dT i row e1) (iy row j d e2) eu d rfl (u7 (XE ok.2 e1) e2)
 |agg cells vs hl h1 _ ih=>
  intro d0 e ok
  cases d0<;>simp only[D.cJ]at e<;>first|(split at e<;>cases e;done)|skip
  all_goals try (cases e;done)
  rename_i P9
  simp only[D.agg.injEq]at e
  subst e
  simp only[D.ok]at ok
  rw[fJ]at hl ih
  refine .agg P9 vs (by simpa using hl) h1 (fun i d v e1 e2=>ih i _ v (by rw[List.getElem?_map,e1];rfl) e2 d rfl (u7 ok e1))
 |tuple ds vs hl _ ih=>
  intro d0 e ok
  cases d0<;>simp only[D.cJ]at e<;>first|(split at e<;>cases e;done)|skip
  all_goals try (cases e;done)
  rename_i P9
  simp only[D.tuple.injEq]at e
  subst e
  simp only[D.ok]at ok
  rw[fJ]at hl ih
  refine .tuple P9 vs (by simpa using hl) (fun i d v e1 e2=>ih i _ v (by rw[List.getElem?_map,e1];rfl) e2 d rfl (u7 ok e1))
theorem RD.cJ (hG:M0.G=M.G) (je : ∀ i,i<s0.ah.length→∃ o,os[i]? = some o∧o<s.ah.length∧M.loc o=M0.loc i)
 (kB : ∀ i,i<s0.au.length→∃ t,ts[i]? = some t∧t<s.au.length∧s.au[t]? = s0.au[i]? ∧M.be t=M0.be i) {d:D} {v:Value} (h:RD M0 s0 d v):RD M s (d.cJ os ts) v:=by
 have tag : ∀ {g:Tag} {z len cap:Nat} {base:Option (Nat×Nat)},iI M0 s0 g z len base cap→iI M s (g.cJ ts) z len base cap:=by
  intro g z len cap base h
  cases g with
  |full=>exact h
  |shared=>exact h
  |tok t y=>
   obtain⟨h1,h2⟩:=h
   obtain⟨t',e,hD,Ia,hb⟩:=kB t h1
   simp only[Tag.cJ,e]
   refine⟨hD,fun n hn=>?_⟩
   rw[hb]
   exact h2 n (Ia ▸ hn)
 induction h with
 |junk v=>simp only[D.cJ];exact .junk v
 |int k x=>simp only[D.cJ];exact .int k x
 |bool b=>simp only[D.cJ];exact .bool b
 |str l=>simp only[D.cJ];exact .str l
 |dO=>simp only[D.cJ];exact .dO
 |ptr o off ho hk=>
  obtain⟨o',e,hD,hm⟩:=je o ho
  simp only[D.cJ,e]
  have hb:M.ob o'=M0.ob o:=congrArg Prod.snd hm
  have hm:M.mu o'=M0.mu o:=congrArg Prod.fst hm
  rw[← hm]
  exact .ptr o' off hD (by rw[hb];exact hk)
 |fL o ho hk=>
  obtain⟨o',e,hD,hm⟩:=je o ho
  simp only[D.cJ,e]
  have hb:M.ob o'=M0.ob o:=congrArg Prod.snd hm
  have hm:M.mu o'=M0.mu o:=congrArg Prod.fst hm
  rw[← hm]
  exact .fL o' hD (by rw[hb];exact hk)
 |dX z a=>simp only[D.cJ];exact .dX z a
 |dZ z o g len b cap A ho hk ha hl=>
  obtain⟨o',e,hD,hm⟩:=je o ho
  simp only[D.cJ,e]
  exact .dZ z o' g len b cap A hD ((congrArg Prod.snd hm).trans hk) ha hl
 |fi z o g off b cap A ho hk ha=>
  obtain⟨o',e,hD,hm⟩:=je o ho
  simp only[D.cJ,e]
  exact .fi z o' g off b cap A hD ((congrArg Prod.snd hm).trans hk) ha
 |fV f ds vs hl _ ih=>
  simp only[D.cJ,fJ]
  refine .fV f _ vs (by simpa using hl) (fun i d v e1 e2=>?_)
  simp only[List.getElem?_map,Option.map_eq_some_iff]at e1
  obtain⟨d',e1,rfl⟩:=e1
  exact ih i d' v e1 e2
 |val v hv=>simp only[D.cJ];exact .val v hv
 |fh T o v ho ht hv=>
  obtain⟨o',e,hD,hm⟩:=je o ho
  simp only[D.cJ,e]
  have h1:M.mu o'=M0.mu o:=congrArg Prod.fst hm
  have h2:M.ty o'=M0.ty o:=congrArg (fun x=>x.2.ty?) hm
  exact .fh T o' v hD (by rw[h2];exact ht) (by rw[h1];exact hv)
 | dt row off b k h1 h2 ih=>
  simp only[D.cJ,fJ]
  refine .dt _ off b k (fun i d e=>?_) (fun i d u e eu=>?_)
  ·simp only [List.getElem?_map,Option.map_eq_some_iff]at e
   obtain⟨d',e,rfl⟩:=e
   rw[← hG];exact h1 i d' e
  ·simp only [List.getElem?_map,Option.map_eq_some_iff]at e
   obtain⟨d',e,rfl⟩:=e
   rw[← hG]at eu;exact ih i d' u e eu
 |iG g z cap hc ht=>simp only[D.cJ,D.nN];exact .iG _ z cap hc (tag ht)
 |lh z a cap=>simp only[D.cJ,D.nN,Tag.cJ];exact .lh z a cap
 | slice g z rows b k cap hl hs h1 h2 ht ih=>
  simp only[D.cJ,BP]
  have hlen:(rows.map (D.eQ os ts)).length=rows.length:=by simp
  have key:=RD.slice (M:=M) (s:=s) (g.cJ ts) z (rows.map (D.eQ os ts)) b k cap (by rw[hlen];exact hl) (fun row hr=>by
   obtain⟨kg,h',rfl⟩:=List.mem_map.1 hr
   rw[fJ,List.length_map];exact hs kg h')
   (fun i row j d e1 e2=>by
    simp only[List.getElem?_map,Option.map_eq_some_iff]at e1
    obtain⟨kg,e1,rfl⟩:=e1
    rw[fJ]at e2
    simp only[List.getElem?_map,Option.map_eq_some_iff]at e2
    obtain⟨d',e2,rfl⟩:=e2
    rw[← hG];exact h1 i kg j d' e1 e2)
   (fun i row j d u e1 e2 eu=>by
    simp only[List.getElem?_map,Option.map_eq_some_iff]at e1
    obtain⟨kg,e1,rfl⟩:=e1
    rw[fJ]at e2
    simp only[List.getElem?_map,Option.map_eq_some_iff]at e2
    obtain⟨d',e2,rfl⟩:=e2
    rw[← hG]at eu;exact ih i kg j d' u e1 e2 eu)
   (by rw[hlen];exact tag ht)
  rw[hlen]at key
  exact key
 |agg cells vs hl h1 _ ih=>
  simp only[D.cJ,fJ]
  refine .agg _ vs (by simpa using hl) h1 (fun i d v e1 e2=>?_)
  simp only[List.getElem?_map,Option.map_eq_some_iff]at e1
  obtain⟨d',e1,rfl⟩:=e1
  exact ih i d' v e1 e2
 |tuple ds vs hl _ ih=>
  simp only[D.cJ,fJ]
  refine .tuple _ vs (by simpa using hl) (fun i d v e1 e2=>?_)
  simp only[List.getElem?_map,Option.map_eq_some_iff]at e1
  obtain⟨d',e1,rfl⟩:=e1
  exact ih i d' v e1 e2
def kv {α:Type} : List Nat→List α→List α→List α
 | [],new,l=>l++new
 |_::_,[],l=>l
 |o::os,x::xs,l=>kv os xs (l.set o x)
def kp (os:List Nat) (n k:Nat):List Nat:=os++(List.range k).map (n + ·)
theorem wV {α:Type} : ∀ (os:List Nat) (xs l:List α),os.length≤xs.length→(kv os xs l).length=l.length+(xs.length - os.length)
 | [],xs,l,_=>by simp[kv]
 |o::os,[],l,h=>by simp at h
 |o::os,x::xs,l,h=>by
  simp only[kv]
  rw[wV os xs _ (by simpa using h)]
  simp
theorem C5 {α:Type} : ∀ (os:List Nat) (xs l:List α),os.length≤xs.length→os.Nodup→(∀ o∈os,o<l.length)→
 (∀ (i:Nat) (o:Nat),os[i]? = some o→(kv os xs l)[o]? = xs[i]?)∧(∀ o,o<l.length→o∉os→(kv os xs l)[o]? = l[o]?)∧
 (∀ k,(kv os xs l)[l.length+k]? = xs[os.length+k]?)
 | [],xs,l,_,_,_=>by
  refine⟨by simp,fun o ho _=>by simp only[kv];rw[List.getElem?_append_left ho],fun k=>by simp only[kv];rw[List.getElem?_append_right (by omega)];simp⟩
 |o::os,[],l,h,_,_=>by simp at h
 | o::os,x::xs,l,h,hn,hD=>by
  simp only[List.nodup_cons]at hn
  have zR : ∀ q∈os,q<(l.set o x).length:=fun q hq=>by simpa using hD q (by simp[hq])
  obtain⟨h1,h2,h3⟩:=C5 os xs (l.set o x) (by simpa using h) hn.2 zR
  have ho:o<l.length:=hD o (by simp)
  simp only[kv]
  refine⟨fun i q e=>?_,fun q hq AV=>?_,fun k=>?_⟩
  ·cases i with
   |zero=>
    simp only[List.getElem?_cons_zero,Option.some.injEq]at e
    subst e
    rw[h2 o (by simpa using ho) hn.1]
    simp[ho]
   |succ i=>simpa using h1 i q (by simpa using e)
  ·have uZ:q≠o:=fun e=>AV (by simp [e])
   rw[h2 q (by simpa using hq) (fun h=>AV (by simp[h])),List.getElem?_set_ne (Ne.symm uZ)]
  ·have:=h3 k
   simp only[List.length_set]at this
   rw[this]
   simp only[List.length_cons]
   rw[show os.length+1+k=(os.length+k)+1 by omega];simp
theorem Cx (os:List Nat) (n k i:Nat):(kp os n k)[i]? = if i<os.length then os[i]? else if i<os.length+k then some (n+(i - os.length))else none:=by
 unfold kp
 split
 ·rename_i h;rw[List.getElem?_append_left h]
 ·rename_i h
  rw[List.getElem?_append_right (by omega)]
  split
  ·rename_i h2
   rw[List.getElem?_map,List.getElem?_range (by omega)];rfl
  ·rename_i h2
   rw[List.getElem?_eq_none]
   simp;omega
def posOf:List Nat→Nat→Option Nat
 | [],_=>none
 |x::r,o=>if x=o then some 0 else(posOf r o).map (· + 1)
theorem iJ : ∀ {l:List Nat} {o i:Nat},posOf l o=some i→l[i]? = some o
 | x::r,o,i,h=>by
  simp only[posOf]at h
  split at h
  ·rename_i e;cases h;simp[e]
  ·cases hp:posOf r o with
   |none=>rw[hp]at h;cases h
   |some j=>rw[hp]at h;cases h;simpa using iJ hp
theorem lZ : ∀ {l:List Nat} {o i:Nat},l.Nodup→l[i]? = some o→posOf l o=some i
 | x::r,o,i,hn,h=>by
  simp only[List.nodup_cons]at hn
  simp only[posOf]
  cases i with
  |zero=>simp at h;simp[h]
  |succ i=>
   simp at h
   have:x≠o:=fun e=>hn.1 (by rw[e];exact List.mem_of_getElem? h)
   rw[if_neg this,lZ hn.2 h];rfl
end
end Go.Abs
namespace Go.Abs
theorem zS {l:List Nat} {n k:Nat} (h:l.Nodup) (hl : ∀ o∈l,o<n):(kp l n k).Nodup:=by
 unfold kp
 rw[List.nodup_append]
 refine⟨h, ?_,fun a ha b hb=>?_⟩
 ·rw [List.nodup_iff_pairwise_ne,List.pairwise_map]
  exact List.Pairwise.imp (fun h=>by omega) (List.nodup_iff_pairwise_ne.1 List.nodup_range)
 ·obtain⟨c,hc,rfl⟩:=List.mem_map.1 hb
  have:=hl a ha
  omega
def gC (M:Map) (os ts:List Nat):Map:=⟨M.G,fun i=>M.loc (os.getD i 0),fun i=>M.be (ts.getD i 0)⟩
def xN (M M0:Map) (os ts:List Nat):Map:=
 ⟨M0.G,fun o=>match posOf os o with|some i=>M0.loc i|none=>M.loc o,fun t=>match posOf ts t with|some i=>M0.be i|none=>M.be t⟩
section
variable {P:Program} {M:Map} {s s0:St} {w:World} {os ts:List Nat}
theorem uO {l:List Nat} {i o:Nat} (h:l[i]? = some o):l.getD i 0=o:=by simp[List.getD,h]
theorem Rel.sub (r:Rel M s w) (ui:os.Nodup) (u9:ts.Nodup) (jh : ∀ o∈os,o<s.ah.length)
 (ho:s0.ah.length=os.length) (wW : ∀ (i o:Nat) (ds:List D),os[i]? = some o→s0.ah[i]? = some ds→s.ah[o]? = some (D.eQ os ts ds)∧D.bL os.length ts.length ds=true)
 (ht:s0.au.length=ts.length) (tz : ∀ (i t:Nat),ts[i]? = some t→s0.au[i]? = s.au[t]?):Rel (gC M os ts) s0 w:=by
 have nth : ∀ i,i<s0.ah.length→∃ o,os[i]? = some o∧o<s.ah.length:=fun i hi=>⟨os[i],List.getElem?_eq_getElem (by omega),jh _ (List.getElem_mem _)⟩
 have loc : ∀ (i:Nat) o,os[i]? = some o→(gC M os ts).loc i=M.loc o:=fun i o h=>by simp only[gC,uO h]
 have mu : ∀ (i:Nat) o,os[i]? = some o→(gC M os ts).mu i=M.mu o:=fun i o h=>congrArg Prod.fst (loc i o h)
 have be : ∀ (i:Nat) t,ts[i]? = some t→(gC M os ts).be i=M.be t:=fun i t h=>by simp only[gC,uO h]
 have VO : ∀ t,s0.live t→∃ t',ts[t]? = some t'∧s.live t':=fun t ⟨n,hn⟩=>by
  have hD:=(List.getElem?_eq_some_iff.1 hn).1
  have e:ts[t]? = some ts[t]:=List.getElem?_eq_getElem (by omega)
  exact⟨_,e,n,by rw[← tz t _ e];exact hn⟩
 refine⟨r.comm,fun i ds e=>?_,fun i hi off=>?_,fun i i' hi gN e=>?_,fun t n e=>?_,fun t b c z i hl e hi=>?_,fun t t' b c z c' z' h h' e e'=>?_⟩
 ·obtain⟨o,h1,_⟩:=nth i (List.getElem?_eq_some_iff.1 e).1
  obtain⟨h2,h3⟩:=wW i o ds h1 e
  obtain⟨vs,T,g1,g2,g3,g4⟩:=r.obj o _ h2
  refine⟨vs,T,by rw[loc i o h1];exact g1,by rw[fJ]at g2;simpa using g2,⟨g3.1,by rw[show(gC M os ts).ty i=M.ty o from congrArg (fun x=>x.2.ty?) (loc i o h1)];exact g3.2⟩,fun j d v e1 e2=>?_⟩
  exact RD.BQ (M:=M) (M0:=gC M os ts) (s:=s) rfl loc ho be tz ht (g4 j (d.cJ os ts) v (by rw[fJ,List.getElem?_map,e1];rfl) e2) d rfl (u7 h3 e1)
 ·obtain⟨o,h1,h2⟩:=nth i hi
  rw[mu i o h1];exact r.jD o h2 off
 ·obtain⟨o,h1,h2⟩:=nth i hi
  obtain⟨o',rL,uj⟩:=nth i' gN
  rw[mu i o h1,mu i' o' rL]at e
  have:=r.inj o o' h2 uj e
  subst this
  have a:=lZ ui h1
  have b:=lZ ui rL
  rw[a]at b;cases b;rfl
 ·obtain⟨t',h1,h2⟩:=VO t ⟨n,e⟩
  rw[be t t' h1]
  exact r.tok t' n (by rw[← tz t t' h1];exact e)
 ·obtain⟨t',h1,h2⟩:=VO t hl
  obtain⟨o,h3,h4⟩:=nth i hi
  rw[be t t' h1]at e
  rw[mu i o h3]
  exact r.fa t' b c z o h2 e h4
 ·obtain⟨q,h1,h2⟩:=VO t h
  obtain⟨q',rL,uj⟩:=VO t' h'
  rw[be t q h1]at e
  rw[be t' q' rL]at e'
  have:=r.fM q q' b c z c' z' h2 uj e e'
  subst this
  have a:=lZ u9 h1
  have b:=lZ u9 rL
  rw[a]at b;cases b;rfl
end
def St.back (s:St) (os ts:List Nat) (s':St):St:=
 ⟨kv os (s'.ah.map (D.eQ (kp os s.ah.length (s'.ah.length - os.length)) (kp ts s.au.length (s'.au.length - ts.length)))) s.ah,kv ts s'.au s.au⟩
def D.back (s:St) (os ts:List Nat) (s':St) (d:D):D:=
 d.cJ (kp os s.ah.length (s'.ah.length - os.length)) (kp ts s.au.length (s'.au.length - ts.length))
theorem bG.frame {P:Program} {f:FuncId} {MN args:List D} {s s0:St} {Q0 Q:D→St→Prop} (os ts:List Nat) (h:bG P f MN s0 Q0) (ui:os.Nodup) (u9:ts.Nodup) (jh : ∀ o∈os,o<s.ah.length) (ug : ∀ t∈ts,t<s.au.length)
 (ho:s0.ah.length=os.length) (wW : ∀ (i o:Nat) (ds:List D),os[i]? = some o→s0.ah[i]? = some ds→s.ah[o]? = some (D.eQ os ts ds)∧D.bL os.length ts.length ds=true)
 (ht:s0.au.length=ts.length) (tz : ∀ (i t:Nat),ts[i]? = some t→s0.au[i]? = s.au[t]?)
 (yK:args=D.eQ os ts MN) (pC:D.bL os.length ts.length MN=true) (k : ∀ d s',Q0 d s'→Q (d.back s os ts s') (s.back os ts s')):bG P f args s Q:=by
 intro M w fC r ko dL ha
 have r0:=r.sub ui u9 jh ho wW ht tz
 have loc : ∀ (i:Nat) o,os[i]? = some o→(gC M os ts).loc i=M.loc o:=fun i o h=>by simp only[gC,uO h]
 have mu : ∀ (i:Nat) o,os[i]? = some o→(gC M os ts).mu i=M.mu o:=fun i o h=>congrArg Prod.fst (loc i o h)
 have be : ∀ (i:Nat) t,ts[i]? = some t→(gC M os ts).be i=M.be t:=fun i t h=>by simp only[gC,uO h]
 subst yK
 have aam:Laid (gC M os ts) s0 w:=by
  intro g cs hg
  obtain⟨h1,h2,h3⟩:=ko g cs hg
  refine⟨h1,fun o hD=>?_,fun t c z hl hb=>?_⟩
  ·obtain⟨o',nB⟩ : ∃ o',os[o]? = some o':=⟨_,List.getElem?_eq_getElem (by omega)⟩
   rw[mu o o' nB]
   exact h2 o' (jh o' (List.mem_of_getElem? nB))
  ·obtain⟨n,hn⟩:=hl
   have hD:=(List.getElem?_eq_some_iff.1 hn).1
   obtain⟨t',D0⟩ : ∃ t',ts[t]? = some t':=⟨_,List.getElem?_eq_getElem (by omega)⟩
   rw[be t t' D0]at hb
   exact h3 t' c z ⟨n,by rw[← tz t t' D0];exact hn⟩ hb
 have hc:=h (gC M os ts) w fC r0 aam (by rw[dL,fJ,List.length_map]) (fun i d v e1 e2=>
  RD.BQ (M:=M) (M0:=gC M os ts) (s:=s) rfl loc ho be tz ht (ha i (d.cJ os ts) v (by rw[fJ,List.getElem?_map,e1];rfl) e2) d rfl (u7 pC e1))
 refine hc.mono ?_
 rintro en w' ⟨xO,d,v,s',rfl,hq,e,r',hv⟩
 have Ig:=e.le.n
 have DP:=e.le.t
 generalize MO:kp os s.ah.length (s'.ah.length - os.length)=lG
 generalize MP:kp ts s.au.length (s'.au.length - ts.length)=oR
 have nd:lG.Nodup:=by rw[← MO];exact zS ui jh
 have ndt:oR.Nodup:=by rw[← MP];exact zS u9 ug
 have MQ : ∀ i,lG[i]? = if i<os.length then os[i]? else if i<s'.ah.length then some (s.ah.length+(i - os.length))else none:=fun i=>by
  rw[← MO,Cx];split
  ·rfl
  ·rw[show os.length+(s'.ah.length - os.length)=s'.ah.length by omega]
 have MR : ∀ i,oR[i]? = if i<ts.length then ts[i]? else if i<s'.au.length then some (s.au.length+(i - ts.length))else none:=fun i=>by
  rw[← MP,Cx];split
  ·rfl
  ·rw[show ts.length+(s'.au.length - ts.length)=s'.au.length by omega]
 have hsb:s.back os ts s' = ⟨kv os (s'.ah.map (D.eQ lG oR)) s.ah,kv ts s'.au s.au⟩:=by simp only[St.back,MO,MP]
 have hdb:d.back s os ts s'=d.cJ lG oR:=by simp only[D.back,MO,MP]
 have mz:=k d s' hq
 rw[hsb,hdb]at mz
 obtain⟨p1,p2,p3⟩:=C5 os (s'.ah.map (D.eQ lG oR)) s.ah (by simp;omega) ui jh
 obtain⟨q1,q2,q3⟩:=C5 ts s'.au s.au (by omega) u9 ug
 have Io:=wV os (s'.ah.map (D.eQ lG oR)) s.ah (by simp;omega)
 have Ip:=wV ts s'.au s.au (by omega)
 simp only[List.length_map]at Io
 generalize zO:(⟨kv os (s'.ah.map (D.eQ lG oR)) s.ah,kv ts s'.au s.au⟩:St)=s2 at mz
 have so:s2.ah=kv os (s'.ah.map (D.eQ lG oR)) s.ah:=by rw[← zO]
 have st:s2.au=kv ts s'.au s.au:=by rw[← zO]
 -- the framed objects
 have fo : ∀ (i o:Nat),lG[i]? = some o→o<s2.ah.length∧s2.ah[o]? = (s'.ah[i]?).map (D.eQ lG oR)∧i<s'.ah.length∧(i<os.length→o<s.ah.length∧os[i]? = some o)∧(os.length≤i→s.ah.length≤o):=by
  intro i o hi
  rw[MQ]at hi
  split at hi
  ·rename_i h1
   have hD:=jh o (List.mem_of_getElem? hi)
   refine⟨by rw[so,Io];omega,by rw[so,p1 i o hi,List.getElem?_map],by omega,fun _=>⟨hD,hi⟩,fun h=>by omega⟩
  ·split at hi
   ·rename_i h1 h2
    cases hi
    refine⟨by rw[so,Io];omega, ?_,h2,fun h=>by omega,fun _=>by omega⟩
    rw[so,p3,List.getElem?_map,show os.length+(i - os.length)=i by omega]
   ·cases hi
 have ft : ∀ (i t:Nat),oR[i]? = some t→t<s2.au.length∧s2.au[t]? = s'.au[i]? ∧i<s'.au.length∧(i<ts.length→t<s.au.length∧ts[i]? = some t)∧(ts.length≤i→s.au.length≤t):=by
  intro i t hi
  rw[MR]at hi
  split at hi
  ·rename_i h1
   have hD:=ug t (List.mem_of_getElem? hi)
   refine⟨by rw[st,Ip];omega,by rw[st,q1 i t hi],by omega,fun _=>⟨hD,hi⟩,fun h=>by omega⟩
  ·split at hi
   ·rename_i h1 h2
    cases hi
    refine⟨by rw[st,Ip];omega, ?_,h2,fun h=>by omega,fun _=>by omega⟩
    rw[st,q3,show ts.length+(i - ts.length)=i by omega]
   ·cases hi
 -- all others
 have uo : ∀ o,o<s2.ah.length→posOf lG o=none→o<s.ah.length∧o∉os∧s2.ah[o]? = s.ah[o]? :=by
  intro o hD hp
  have nO : ∀ i,lG[i]? ≠some o:=fun i hi=>by rw[lZ nd hi]at hp;cases hp
  have h1:o<s.ah.length:=by
   rcases Nat.lt_or_ge o s.ah.length with h|h
   ·exact h
   ·exfalso
    rw[so,Io]at hD
    refine nO (os.length+(o - s.ah.length)) ?_
    rw[MQ,if_neg (by omega),if_pos (by omega)]
    congr 1;omega
  have h2:o∉os:=fun hm=>by
   obtain⟨i,hi⟩:=List.mem_iff_getElem?.1 hm
   have qx:=(List.getElem?_eq_some_iff.1 hi).1
   exact nO i (by rw[MQ,if_pos qx];exact hi)
  exact⟨h1,h2,by rw[so,p2 o h1 h2]⟩
 have ut : ∀ t,t<s2.au.length→posOf oR t=none→t<s.au.length∧t∉ts∧s2.au[t]? = s.au[t]? :=by
  intro t hD hp
  have nO : ∀ i,oR[i]? ≠some t:=fun i hi=>by rw[lZ ndt hi]at hp;cases hp
  have h1:t<s.au.length:=by
   rcases Nat.lt_or_ge t s.au.length with h|h
   ·exact h
   ·exfalso
    rw[st,Ip]at hD
    refine nO (ts.length+(t - s.au.length)) ?_
    rw[MR,if_neg (by omega),if_pos (by omega)]
    congr 1;omega
  have h2:t∉ts:=fun hm=>by
   obtain⟨i,hi⟩:=List.mem_iff_getElem?.1 hm
   have qx:=(List.getElem?_eq_some_iff.1 hi).1
   exact nO i (by rw[MR,if_pos qx];exact hi)
  exact⟨h1,h2,by rw[st,q2 t h1 h2]⟩
 generalize Qb:xN M xO lG oR=M2
 have mG:xO.G=M2.G:=by rw[← Qb];rfl
 have lo : ∀ (i o:Nat),lG[i]? = some o→M2.loc o=xO.loc i:=fun i o hi=>by rw[← Qb];simp only[xN,lZ nd hi]
 have VP : ∀ o,posOf lG o=none→M2.loc o=M.loc o:=fun o hp=>by rw[← Qb];simp only[xN,hp]
 have mo : ∀ (i o:Nat),lG[i]? = some o→M2.mu o=xO.mu i:=fun i o hi=>congrArg Prod.fst (lo i o hi)
 have Iq : ∀ o,posOf lG o=none→M2.mu o=M.mu o:=fun o hp=>congrArg Prod.fst (VP o hp)
 have mt : ∀ (i t:Nat),oR[i]? = some t→M2.be t=xO.be i:=fun i t hi=>by rw[← Qb];simp only[xN,lZ ndt hi]
 have Ir : ∀ t,posOf oR t=none→M2.be t=M.be t:=fun t hp=>by rw[← Qb];simp only[xN,hp]
 have le:Le M s M2 s2:=by
  refine⟨fun b o v hg=>by rw[← mG];exact e.le.G b o v hg,by rw[so,Io];omega,fun o hD=>?_,by rw[st,Ip];omega,fun t n' hD qJ=>?_⟩
  ·cases hp:posOf lG o with
   |none=>rw[VP o hp];exact .refl _
   | some i=>
    have hi:=iJ hp
    rw[lo i o hi]
    obtain⟨_,_,_,h1,h2⟩:=fo i o hi
    have qx:i<os.length:=by
     rcases Nat.lt_or_ge i os.length with h|h
     ·exact h
     ·have:=h2 h;omega
    have h3:=e.le.loc i (by omega)
    rw[loc i o (h1 qx).2]at h3
    exact h3
  ·cases hp:posOf oR t with
   |none=>
    obtain⟨_,_,h3⟩:=ut t (by rw[st,Ip];omega) hp
    rw[h3]at qJ
    exact⟨n',qJ,Nat.le_refl _,fun _=>Ir t hp⟩
   | some i=>
    have hi:=iJ hp
    obtain⟨_,g1,_,h1,h2⟩:=ft i t hi
    have qx:i<ts.length:=by
     rcases Nat.lt_or_ge i ts.length with h|h
     ·exact h
     ·have:=h2 h;omega
    rw[g1]at qJ
    obtain⟨n,h3,h4,h5⟩:=e.le.tk i n' (by omega) qJ
    refine⟨n,by rw[← tz i t (h1 qx).2];exact h3,h4,fun eq=>?_⟩
    rw[mt i t hi,h5 eq,be i t (h1 qx).2]
 have aan : ∀ {d:D} {v:Value},RD xO s' d v→RD M2 s2 (d.cJ lG oR) v:=fun hd=>RD.cJ mG
  (fun i hi=>by
   obtain⟨o,ho⟩ : ∃ o,lG[i]? = some o:=by
    rw[MQ];split
    ·rename_i h1;exact⟨_,List.getElem?_eq_getElem h1⟩
    ·exact⟨_,rfl⟩
   exact⟨o,ho,(fo i o ho).1,lo i o ho⟩)
  (fun i hi=>by
   obtain⟨t,ht⟩ : ∃ t,oR[i]? = some t:=by
    rw[MR];split
    ·rename_i h1;exact⟨_,List.getElem?_eq_getElem h1⟩
    ·exact⟨_,rfl⟩
   exact⟨t,ht,(ft i t ht).1,(ft i t ht).2.1,mt i t ht⟩) hd
 -- blocks that the callee did not know
 have HA : ∀ i,s0.live i→∃ t,ts[i]? = some t∧s.live t:=fun i ⟨n,hn⟩=>by
  have hD:=(List.getElem?_eq_some_iff.1 hn).1
  have e1:ts[i]? = some ts[i]:=List.getElem?_eq_getElem (by omega)
  exact⟨_,e1,n,by rw[← tz i _ e1];exact hn⟩
 have MS : ∀ b,b<w.heap.size→(∀ (i o:Nat),os[i]? = some o→M.mu o≠b)→(∀ (i t:Nat) c z,ts[i]? = some t→s.live t→M.be t≠some (b,c,z))→
  w'.heap[b]? = w.heap[b]? ∧∀ off,xO.G b off=M.G b off:=by
  intro b hb h1 h2
  refine⟨e.kept b hb (fun i hi=>?_) (fun i c z hl=>?_),fun off=>?_⟩
  ·have e1:os[i]? = some os[i]:=List.getElem?_eq_getElem (by omega)
   rw[mu i _ e1];exact h1 i _ e1
  ·obtain⟨t,e1,hD⟩:=HA i hl
   rw[be i t e1];exact h2 i t c z e1 hD
  ·apply Classical.byContradiction
   intro eA
   rcases e.rO b off eA with h3|⟨i,c,z,hl,h3⟩
   ·omega
   ·obtain⟨t,e1,hD⟩:=HA i hl
    rw[be i t e1]at h3
    exact h2 i t c z e1 hD h3
 have VQ : ∀ o,o<s.ah.length→o∉os→w'.heap[M.mu o]? = w.heap[M.mu o]? ∧∀ off,xO.G (M.mu o) off=M.G (M.mu o) off:=fun o hD nO=>
  MS _ (r.qa hD) (fun i o' h1 h2=>nO (by rw[← r.inj o' o (jh o' (List.mem_of_getElem? h1)) hD h2];exact List.mem_of_getElem? h1))
   (fun i t c z _ hl h2=>r.fa t _ c z o hl h2 hD rfl)
 have aet : ∀ t b c z,s.live t→t∉ts→M.be t=some (b,c,z)→w'.heap[b]? = w.heap[b]? ∧∀ off,xO.G b off=M.G b off:=fun t b c z hl nO hb=>
  MS b (r.sn hl hb) (fun i o h1=>r.fa t b c z o hl hb (jh o (List.mem_of_getElem? h1)))
   (fun i t' c' z' h1 lU h2=>nO (by rw[r.fM t t' b c z c' z' hl lU hb h2];exact List.mem_of_getElem? h1))
 have lv : ∀ t,s2.live t→(∃ i,oR[i]? = some t∧s'.live i)∨(posOf oR t=none∧s.live t∧t∉ts):=by
  rintro t ⟨n,hn⟩
  cases hp:posOf oR t with
  |none=>
   obtain⟨h1,h2,h3⟩:=ut t (List.getElem?_eq_some_iff.1 hn).1 hp
   exact .inr ⟨rfl,⟨n,by rw[← h3];exact hn⟩,h2⟩
  |some i=>
   have hi:=iJ hp
   exact .inl ⟨i,hi,n,by rw[← (ft i t hi).2.1];exact hn⟩
 -- where a framed object lies
 have VR : ∀ (i o:Nat),lG[i]? = some o→(o<s.ah.length∧o∈os∧xO.mu i=M.mu o)∨w.heap.size≤xO.mu i:=by
  intro i o hi
  obtain⟨_,_,h1,h2,h3⟩:=fo i o hi
  rcases e.mo h1 with ⟨h4,h5⟩|h4
  ·have h:i<os.length:=by omega
   exact .inl ⟨(h2 h).1,List.mem_of_getElem? (h2 h).2,by rw[h5,mu i o (h2 h).2]⟩
  ·exact .inr h4
 have VS : ∀ (i t b c z:Nat),oR[i]? = some t→s'.live i→xO.be i=some (b,c,z)→(s.live t∧t∈ts∧∃ c' z',M.be t=some (b,c',z'))∨w.heap.size≤b:=by
  intro i t b c z hi hl hb
  rcases e.qh i b c z hl hb with ⟨h1,c',z',h2⟩|h1
  ·obtain⟨t',e1,hD⟩:=HA i h1
   have qx:=(List.getElem?_eq_some_iff.1 e1).1
   obtain⟨_,_,_,h3,_⟩:=ft i t hi
   have:=(h3 qx).2
   rw[e1]at this;cases this
   rw[be i _ e1]at h2
   exact .inl ⟨hD,List.mem_of_getElem? e1,c',z',h2⟩
  ·exact .inr h1
 refine⟨M2,d.cJ lG oR,v,s2,rfl,mz, ?_, ?_,aan hv⟩
 ·-- Ext
  refine⟨le,fun b hb h1 h2=>?_,fun o h1 h2=>?_,fun t b c z hl hb=>?_,fun b off eA=>?_,e.size,e.os,e.tape,e.output⟩
  ·exact(MS b hb (fun i o h3=>h1 o (jh o (List.mem_of_getElem? h3))) (fun i t c z _ hl=>h2 t c z hl)).1
  ·cases hp:posOf lG o with
   |none=>
    have:=(uo o h2 hp).1
    rcases h1 with h1|h1
    ·omega
    ·exact(h1 (Iq o hp)).elim
   | some i=>
    have hi:=iJ hp
    rw[mo i o hi]at h1 ⊢
    rcases VR i o hi with ⟨h3,_,h5⟩|h3
    ·rcases h1 with h1 | h1
     ·omega
     ·exact(h1 h5).elim
    ·exact h3
  ·rcases lv t hl with ⟨i,hi,lU⟩ | ⟨hp,lU,_⟩
   ·rw [mt i t hi]at hb
    rcases VS i t b c z hi lU hb with ⟨h1,_,h2⟩|h1
    ·exact .inl ⟨h1,h2⟩
    ·exact .inr h1
   ·rw [Ir t hp]at hb
    exact .inl ⟨lU,c,z,hb⟩
  ·rw [← mG]at eA
   rcases e.rO b off eA with h1|⟨i,c,z,hl,hb⟩
   ·exact .inl h1
   ·obtain⟨t,e1,hD⟩:=HA i hl
    rw[be i t e1]at hb
    exact .inr ⟨t,c,z,hD,hb⟩
 ·-- Rel
  refine⟨fun b o v hg=>r'.comm b o v (by rw[mG];exact hg),fun o ds AP=>?_,fun o hD off=>?_,fun o o' hD zR heq=>?_,fun t n hn=>?_,fun t b c z o hl hb hD=>?_,fun t t' b c z c' z' hl lU hb rJ=>?_⟩
  ·cases hp:posOf lG o with
   |some i=>
    have hi:=iJ hp
    obtain⟨_,g1,_⟩:=fo i o hi
    rw[g1]at AP
    obtain⟨nA,h1,rfl⟩:=Option.map_eq_some_iff.1 AP
    obtain⟨vs,T,h2,h3,h4,h5⟩:=r'.obj i nA h1
    refine⟨vs,T,by rw[lo i o hi];exact h2,by rw[fJ];simpa using h3,⟨h4.1,by rw[show M2.ty o=xO.ty i from congrArg (fun x=>x.2.ty?) (lo i o hi)];exact h4.2⟩,fun j d v e1 e2=>?_⟩
    rw[fJ]at e1
    simp only[List.getElem?_map,Option.map_eq_some_iff]at e1
    obtain⟨d',e1,rfl⟩:=e1
    exact aan (h5 j d' v e1 e2)
   |none=>
    obtain⟨h1,h2,h3⟩:=uo o (List.getElem?_eq_some_iff.1 AP).1 hp
    rw[h3]at AP
    obtain⟨vs,T,g1,g2,g3,g4⟩:=r.obj o ds AP
    exact⟨vs,T,by rw[VP o hp];exact g1.keep (VQ o h1 h2).1,g2,⟨g3.1,by rw[show M2.ty o=M.ty o from congrArg (fun x=>x.2.ty?) (VP o hp)];exact g3.2⟩,fun j d v e1 e2=>(g4 j d v e1 e2).mono le⟩
  ·cases hp:posOf lG o with
   |some i=>
    have hi:=iJ hp
    rw[mo i o hi, ← mG];exact r'.jD i (fo i o hi).2.2.1 off
   |none=>
    obtain⟨h1,h2,h3⟩:=uo o hD hp
    rw[Iq o hp, ← mG,(VQ o h1 h2).2 off];exact r.jD o h1 off
  ·cases hp:posOf lG o with
   | some i=>
    have hi:=iJ hp
    rw[mo i o hi]at heq
    cases mK:posOf lG o' with
    |some i'=>
     have gN:=iJ mK
     rw[mo i' o' gN]at heq
     have:=r'.inj i i' (fo i o hi).2.2.1 (fo i' o' gN).2.2.1 heq
     subst this
     rw[hi]at gN;cases gN;rfl
    | none=>
     obtain⟨h1,h2,_⟩:=uo o' zR mK
     rw[Iq o' mK]at heq
     rcases VR i o hi with ⟨h3,h4,h5⟩|h3
     ·rw [h5]at heq
      have:=r.inj o o' h3 h1 heq
      subst this;exact(h2 h4).elim
     ·have:=r.qa h1;omega
   | none=>
    obtain⟨h1,h2,_⟩:=uo o hD hp
    rw[Iq o hp]at heq
    cases mK:posOf lG o' with
    | some i'=>
     have gN:=iJ mK
     rw[mo i' o' gN]at heq
     rcases VR i' o' gN with ⟨h3,h4,h5⟩|h3
     ·rw [h5]at heq
      have:=r.inj o o' h1 h3 heq
      subst this;exact(h2 h4).elim
     ·have:=r.qa h1;omega
    |none=>
     obtain⟨rL,_,_⟩:=uo o' zR mK
     rw[Iq o' mK]at heq
     exact r.inj o o' h1 rL heq
  ·rcases lv t ⟨n,hn⟩with ⟨i,hi,hl⟩ | ⟨hp,hl,nO⟩
   ·rw [mt i t hi, ← mG]
    exact r'.tok i n (by rw[← (ft i t hi).2.1];exact hn)
   ·obtain⟨_,_,h3⟩:=ut t (List.getElem?_eq_some_iff.1 hn).1 hp
    rw[h3]at hn
    rw[Ir t hp]
    rcases r.tok t n hn with h4|⟨b,cap,size,vs,T,g1,g2,g3,g4,g5⟩
    ·exact .inl h4
    ·obtain⟨k1,k2⟩:=aet t b cap size hl nO g1
     exact .inr ⟨b,cap,size,vs,T,g1,by rw[k1];exact g2,g3,g4,fun off ho=>by rw[← mG,k2 off];exact g5.1 off ho,g5.2⟩
  ·rcases lv t hl with ⟨i,hi,lU⟩ | ⟨hp,lU,nO⟩
   ·rw [mt i t hi]at hb
    cases Is:posOf lG o with
    |some j=>
     have hj:=iJ Is
     rw[mo j o hj]
     exact r'.fa i b c z j lU hb (fo j o hj).2.2.1
    |none=>
     obtain⟨h1,h2,_⟩:=uo o hD Is
     rw[Iq o Is]
     rcases VS i t b c z hi lU hb with ⟨h3,_,c',z',h4⟩|h3
     ·exact r.fa t b c' z' o h3 h4 h1
     ·have:=r.qa h1;omega
   ·rw [Ir t hp]at hb
    cases Is:posOf lG o with
    |some j=>
     have hj:=iJ Is
     rw[mo j o hj]
     rcases VR j o hj with ⟨h3,_,h5⟩|h3
     ·rw[h5];exact r.fa t b c z o lU hb h3
     ·have:=r.sn lU hb;omega
    |none=>
     obtain⟨h1,_,_⟩:=uo o hD Is
     rw[Iq o Is];exact r.fa t b c z o lU hb h1
  ·rcases lv t hl with ⟨i,hi,zT⟩ | ⟨hp,hD,nO⟩
   ·rw [mt i t hi]at hb
    rcases lv t' lU with ⟨i',gN,SZ⟩|⟨mK,zR,VT⟩
    ·rw [mt i' t' gN]at rJ
     have:=r'.fM i i' b c z c' z' zT SZ hb rJ
     subst this
     rw[hi]at gN;cases gN;rfl
    ·rw [Ir t' mK]at rJ
     rcases VS i t b c z hi zT hb with ⟨h3,h4,c2,z2,h5⟩|h3
     ·have:=r.fM t t' b c2 z2 c' z' h3 zR h5 rJ
      subst this;exact(VT h4).elim
     ·have:=r.sn zR rJ;omega
   ·rw [Ir t hp]at hb
    rcases lv t' lU with ⟨i',gN,SZ⟩|⟨mK,zR,VT⟩
    ·rw [mt i' t' gN]at rJ
     rcases VS i' t' b c' z' gN SZ rJ with ⟨h3,h4,c2,z2,h5⟩|h3
     ·have:=r.fM t t' b c z c2 z2 hD h3 hb h5
      subst this;exact(nO h4).elim
     ·have:=r.sn hD hb;omega
    ·rw [Ir t' mK]at rJ
     exact r.fM t t' b c z c' z' hD zR hb rJ
end Go.Abs
namespace Go.Abs
def Wk (d d':D):Prop:=∀ (M:Map) (s:St) (v:Value),RD M s d v→RD M s d' v
inductive ji:List D→List D→Prop where
 |nil:ji [] []
 |cons {d d':D} {l l':List D} (h:Wk d d') (t:ji l l'):ji (d::l) (d'::l')
inductive gn:List (List D)→List (List D)→Prop where
 |nil:gn [] []
 |cons {r r':List D} {l l':List (List D)} (h:ji r r') (t:gn l l'):gn (r::l) (r'::l')
theorem Wk.refl (d:D):Wk d d:=fun _ _ _ h=>h
theorem Wk.trans {a b c:D} (h:Wk a b) (k:Wk b c):Wk a c:=fun M s v r=>k M s v (h M s v r)
theorem Wk.junk (d:D):Wk d .junk:=fun _ _ v _=> .junk v
theorem ji.refl : ∀ l,ji l l
 | []=> .nil
 |d::l=> .cons (Wk.refl d) (ji.refl l)
theorem gn.refl : ∀ l,gn l l
 | []=> .nil
 |d::l=> .cons (ji.refl d) (gn.refl l)
theorem ji.len {l l':List D} (h:ji l l'):l.length=l'.length:=by
 induction h with
 |nil=>rfl
 |cons _ _ ih=>simp[ih]
theorem gn.len {l l':List (List D)} (h:gn l l'):l.length=l'.length:=by
 induction h with
 |nil=>rfl
 |cons _ _ ih=>simp[ih]
theorem ji.get {l l':List D} (h:ji l l') : ∀ {i:Nat} {d':D},l'[i]? = some d'→∃ d,l[i]? = some d∧Wk d d':=by
 induction h with
 |nil=>intro i d' e;simp at e
 |cons hd _ ih=>
  intro i d' e
  cases i with
  |zero=>simp at e;subst e;exact⟨_,rfl,hd⟩
  |succ i=>simp at e;simpa using ih e
theorem gn.get {l l':List (List D)} (h:gn l l') : ∀ {i:Nat} {d':List D},l'[i]? = some d'→∃ d,l[i]? = some d∧ji d d':=by
 induction h with
 |nil=>intro i d' e;simp at e
 |cons hd _ ih=>
  intro i d' e
  cases i with
  |zero=>simp at e;subst e;exact⟨_,rfl,hd⟩
  |succ i=>simp at e;simpa using ih e
theorem ji.append {a a' b b':List D} (h:ji a a') (k:ji b b'):ji (a++b) (a'++b'):=by
 induction h with
 |nil=>exact k
 |cons hd _ ih=>exact .cons hd ih
theorem gn.append {a a' b b':List (List D)} (h:gn a a') (k:gn b b'):gn (a++b) (a'++b'):=by
 induction h with
 |nil=>exact k
 |cons hd _ ih=>exact .cons hd ih
theorem Wk.agg {l l':List D} (h:ji l l'):Wk (.agg l) (.agg l'):=by
 intro M s v r
 cases r with
 |agg _ vs hl h1 hr=>
  refine .agg _ vs (by rw[← hl,h.len]) h1 fun i d' u e e2=>?_
  obtain⟨d,e1,hw⟩:=h.get e
  exact hw M s u (hr i d u e1 e2)
theorem Wk.tuple {l l':List D} (h:ji l l'):Wk (.tuple l) (.tuple l'):=by
 intro M s v r
 cases r with
 |tuple _ vs hl hr=>
  refine .tuple _ vs (by rw[← hl,h.len]) fun i d' u e e2=>?_
  obtain⟨d,e1,hw⟩:=h.get e
  exact hw M s u (hr i d u e1 e2)
theorem Wk.rows {g:Tag} {z:Nat} {l l':List (List D)} (h:gn l l'):Wk (.slice g z l) (.slice g z l'):=by
 intro M s v r
 cases r with
 |iG _ _ cap hc ht=>cases h;exact .iG _ _ _ hc ht
 |lh _ a cap=>cases h;exact .lh _ a cap
 | slice _ _ _ b k cap hl hs h1 h2 ht=>
  rw[h.len]
  refine .slice g z l' b k cap (by rw[← h.len];exact hl) (fun row hm=>?_) (fun i row j d e e2=>?_) (fun i row j d u e e2 eu=>?_) (by rw[← h.len];exact ht)
  ·obtain⟨i,hi,he⟩:=List.mem_iff_getElem.1 hm
   obtain⟨r0,g1,g2⟩:=h.get (i:=i) (by rw[List.getElem?_eq_getElem hi,he])
   rw[← g2.len];exact hs r0 (List.mem_of_getElem? g1)
  ·obtain⟨r0,g1,g2⟩:=h.get e
   obtain⟨d0,g3,_⟩:=g2.get e2
   exact h1 i r0 j d0 g1 g3
  ·obtain⟨r0,g1,g2⟩:=h.get e
   obtain⟨d0,g3,g4⟩:=g2.get e2
   exact g4 M s u (h2 i r0 j d0 u g1 g3 eu)
theorem Wk.shared (g:Tag) (z:Nat) (l:List (List D)):Wk (.slice g z l) (.slice .shared z l):=by
 intro M s v r
 cases r with
 |iG _ _ cap hc ht=>exact .iG _ _ _ hc trivial
 |lh _ a cap=>exact .lh _ a cap
 |slice _ _ _ b k cap hl hs h1 h2 ht=>exact .slice _ _ _ b k cap hl hs h1 h2 trivial
theorem Wk.slice {g:Tag} {z:Nat} {l l':List (List D)} (h:gn l l'):Wk (.slice g z l) (.slice .shared z l'):=(Wk.shared g z l).trans (Wk.rows h)
theorem Wk.nil (g:Tag) (z z':Nat):Wk (.slice g z []) (.slice .shared z' []):=by
 intro M s v r
 cases r with
 |iG _ _ cap hc ht=>exact .iG _ _ _ hc trivial
 |lh _ a cap=>exact .lh _ a cap
 |slice _ _ _ b k cap hl hs h1 h2 ht=>exact .slice _ _ [] b k cap hl (by simp) (by simp) (by simp) trivial
theorem Wk.aiP (z z':Nat):Wk (.slice .full z []) (.slice .full z' []):=by
 intro M s v r
 cases r with
 |iG _ _ cap hc ht=>exact .iG _ _ _ hc ht
 |slice _ _ _ b k cap hl hs h1 h2 ht=>exact .slice _ _ [] b k cap hl (by simp) (by simp) (by simp) ht
theorem Rel.pK {M:Map} {s:St} {w:World} {ah:List (List D)} (r:Rel M s w) (h:gn s.ah ah):Rel M ⟨ah,s.au⟩ w∧Le M s M ⟨ah,s.au⟩:=by
 have le:Le M s M ⟨ah,s.au⟩:=⟨fun _ _ _ h=>h,Nat.le_of_eq h.len,fun _ _=> .refl _,Nat.le_refl _,fun t n' _ e=>⟨n',e,Nat.le_refl _,fun _=>rfl⟩⟩
 have hl:=h.len
 refine⟨⟨r.comm,fun o ds e=>?_,fun o ho=>r.jD o (by rw[hl];exact ho),fun o o' ho nB=>r.inj o o' (by rw[hl];exact ho) (by rw[hl];exact nB),r.tok,
  fun t b c z o hv e ho=>r.fa t b c z o hv e (by rw[hl];exact ho),r.fM⟩,le⟩
 obtain⟨ds0,g1,g2⟩:=h.get e
 obtain⟨vs,T,h1,h2,h3,h4⟩:=r.obj o ds0 g1
 refine⟨vs,T,h1,by rw[h2,g2.len],h3,fun i d v e1 e2=>?_⟩
 obtain⟨d0,k1,k2⟩:=g2.get e1
 exact(k2 _ _ _ (h4 i d0 v k1 e2)).mono le
theorem Rel.blank {M:Map} {s:St} {w:World} (r:Rel M s w) :
 Rel (M.eK s.au.length none) {s with au:=s.au++ [some 0]} w∧Le M s (M.eK s.au.length none) {s with au:=s.au++ [some 0]}:=by
 have ix : ∀ t,St.live {s with au:=s.au++ [some 0]} t→s.live t∨t=s.au.length:=by
  rintro t ⟨k,hk⟩
  rcases Nat.lt_or_ge t s.au.length with h|h
  ·rw[List.getElem?_append_left h]at hk;exact .inl ⟨k,hk⟩
  ·have:=(List.getElem?_eq_some_iff.1 hk).1
   simp at this;exact .inr (by omega)
 have hD : ∀ t,s.live t→t<s.au.length:=fun t ⟨k,hk⟩=>(List.getElem?_eq_some_iff.1 hk).1
 have hold : ∀ t,t<s.au.length→(M.eK s.au.length none).be t=M.be t:=fun t h=>by simp[Map.eK];omega
 have da:(M.eK s.au.length none).be s.au.length=none:=by simp[Map.eK]
 have le:Le M s (M.eK s.au.length none) {s with au:=s.au++ [some 0]}:=
  ⟨fun _ _ _ h=>h,Nat.le_refl _,fun _ _=> .refl _,by simp,fun t k h e=>by
   rw[List.getElem?_append_left h]at e
   exact⟨k,e,Nat.le_refl _,fun _=>hold t h⟩⟩
 refine⟨⟨r.comm,fun o ds e=>?_,r.jD,r.inj,fun t k e=>?_,fun t b' c z o hl e nB=>?_,fun t t' b' c z c' z' h h' e e'=>?_⟩,le⟩
 ·obtain⟨fy,T',h3,h4,h5,h6⟩:=r.obj o ds e
  exact⟨fy,T',h3,h4,h5,fun i d v e1 e2=>(h6 i d v e1 e2).mono le⟩
 ·rcases Nat.lt_or_ge t s.au.length with h | h
  ·rw [List.getElem?_append_left h]at e
   rw[hold t h];exact r.tok t k e
  ·have:=(List.getElem?_eq_some_iff.1 e).1
   simp at this
   have:t=s.au.length:=by omega
   subst this
   simp at e;subst e
   exact .inl ⟨da,rfl⟩
 ·rcases ix t hl with h | h
  ·rw[hold t (hD t h)]at e;exact r.fa t b' c z o h e nB
  ·subst h;rw[da]at e;cases e
 ·rcases ix t h with h | h <;> rcases ix t' h' with h' | h'
  ·rw[hold t (hD t h)]at e;rw[hold t' (hD t' h')]at e';exact r.fM t t' b' c z c' z' h h' e e'
  ·subst h';rw[da]at e';cases e'
  ·subst h;rw[da]at e;cases e
  ·omega
theorem RD.own {M:Map} {s:St} {z z':Nat} {v:Value} (h:RD M s (.slice .full z []) v):RD (M.eK s.au.length none) {s with au:=s.au++ [some 0]} (.slice (.tok s.au.length) z' []) v:=by
 have key : ∀ base:Option (Nat×Nat),iI (M.eK s.au.length none) {s with au:=s.au++ [some 0]} (.tok s.au.length) z' 0 base 0:=by
  intro base
  refine⟨by simp,fun n e=>?_⟩
  simp at e
  subst e
  exact⟨Nat.le_refl _,fun _=> .inl ⟨by simp[Map.eK],rfl,fun h=>by cases h⟩⟩
 cases h with
 |iG _ _ cap hc ht=>subst hc;exact .iG _ _ _ rfl (key none)
 |slice _ _ _ b k cap hl hs h1 h2 ht=>
  have:cap=0:=ht
  subst this
  exact .slice _ _ [] b k 0 (Nat.le_refl _) (by simp) (by simp) (by simp) (key _)
section
variable {P:Program} {B:fP} {nt:Nat} {Q:Exit→Tm→St→Prop} {tm:Tm} {s:St}
theorem Sem.wkO {ac:AC} (ah:List (List D)) (hw:gn s.ah ah) (h:Sem P B nt ac Q tm ⟨ah,s.au⟩):Sem P B nt ac Q tm s:=by
 intro c hc act w ⟨M,e,r,ht,h1,h2⟩
 obtain⟨r',le⟩:=r.pK hw
 refine h c hc act w ⟨M,e.trans ⟨le,fun _ _ _ _=>rfl,fun o h1 h2=>?_,fun t b c z hl e=> .inl ⟨hl,c,z,e⟩,fun _ _ h=>(h rfl).elim,Nat.le_refl _,rfl,rfl,rfl⟩,r',fun k=>(ht k).mono le,h1,h2⟩
 simp only[← hw.len]at h2
 exact h1.elim (fun h1=>absurd h2 (Nat.not_lt.2 h1)) fun h1=>(h1 rfl).elim
theorem Gc {M0 M:Map} {s0 s:St} {w0 w:World} (e:Ext M0 s0 w0 M s w) (le:Le M s (M.eK s.au.length none) {s with au:=s.au++ [some 0]}) :
 Ext M0 s0 w0 (M.eK s.au.length none) {s with au:=s.au++ [some 0]} w:=by
 refine e.trans ⟨le,fun _ _ _ _=>rfl,fun o h1 h2=>h1.elim (fun h1=>absurd h2 (Nat.not_lt.2 h1)) (fun h1=>(h1 rfl).elim),fun t b c z hl eq=>?_,fun _ _ h=>(h rfl).elim,Nat.le_refl _,rfl,rfl,rfl⟩
 obtain⟨k,hk⟩:=hl
 rcases Nat.lt_or_ge t s.au.length with h|h
 ·refine .inl ⟨⟨k,by rw [List.getElem?_append_left h]at hk;exact hk⟩,c,z, ?_⟩
  have:(M.eK s.au.length none).be t=M.be t:=by simp[Map.eK];omega
  rw[← this];exact eq
 ·have:=(List.getElem?_eq_some_iff.1 hk).1
  simp at this
  have:t=s.au.length:=by omega
  subst this
  simp[Map.eK]at eq
end
def aG (P:Program) (f:Nat) (args:List D) (s:St) (d:D) (s':St):Prop:=bG P f args s fun x y=>x=d∧y=s'
def pL (n m:Nat) (res:List (Nat×Option (Bool×Nat))) (d:D) (s':St):Exit→Tm→St→Prop
 | .normal,tm,s| .ret,tm,s=>∃ l,aV res tm s=some l∧Wk ((aY l).fg n m) d∧gn (s.cut n m).ah s'.ah∧(s.cut n m).au=s'.au
 |_,_,_=>False
theorem bG.pK {P:Program} {f:FuncId} {args D1:List D} {s:St} {Q:D→St→Prop} (ha:ji args D1) (h:bG P f D1 s Q):bG P f args s Q:=
 fun M w fC r ko hl hr=>h M w fC r ko (by rw[hl,ha.len]) fun i d v e1 e2=>by
  obtain⟨d0,g1,g2⟩:=ha.get e1
  exact g2 _ _ _ (hr i d0 v g1 e2)
theorem bG.HC {P:Program} {f:FuncId} {args:List D} {s:St} {Q Q':D→St→Prop} (h:bG P f args s Q) (hq : ∀ d s1,Q d s1→∃ d' s',Wk d d'∧gn s1.ah s'.ah∧s1.au=s'.au∧Q' d' s'):bG P f args s Q':=
 fun M w fC r ko hl ha=>(h M w fC r ko hl ha).mono fun _ _ ⟨M',d,v,s1,h1,h2,h3,h4,h5⟩=>by
  obtain⟨d',s',g1,g2,g3,g4⟩:=hq d s1 h2
  obtain⟨r',le⟩:=h4.pK g2
  have hs:(⟨s'.ah,s1.au⟩:St)=s':=by rw[g3]
  rw[hs]at r' le
  refine⟨M',d',v,s',h1,g4,h3.trans ⟨le,fun _ _ _ _=>rfl,fun o h1 h2=>?_,fun t b c z hl e=> .inl ⟨by obtain⟨n,hn⟩:=hl;exact⟨n,by rw[g3];exact hn⟩,c,z,e⟩,fun _ _ h=>(h rfl).elim,Nat.le_refl _,rfl,rfl,rfl⟩,r',(g1 _ _ _ h5).mono le⟩
  rw[← g2.len]at h2
  exact h1.elim (fun h1=>absurd h2 (Nat.not_lt.2 h1)) fun h1=>(h1 rfl).elim
theorem aG.intro {P:Program} {f:FuncId} {af:AF} {args:List D} {s:St} {d:D} {s':St} (h0 : ∃ fn,P.funcs[f]? = some fn∧cF P fn=some af) (hl:args.length≤af.ntmps)
 (h : ∀ B:fP,B.s=s→Sem P B af.ntmps af.body (pL s.ah.length s.au.length af.results d s') (mI 0 args) s):aG P f args s d s':=by
 obtain⟨fn,hf,hc⟩:=h0
 refine bG.HC (bG.intro (Q:=fun d1 s1=>Wk d1 d∧gn s1.ah s'.ah∧s1.au=s'.au) hf hc hl fun B hB=>(h B hB).mono fun e tm s1 hr=>?_) fun d1 s1 ⟨h1,h2,h3⟩=>⟨d,s',h1,h2,h3,rfl,rfl⟩
 subst hB
 cases e with
 |normal=>obtain⟨l,h1,h2,h3,h4⟩:=hr;exact⟨l,h1,_,_,Nat.le_refl _,Nat.le_refl _,h2,h3,h4⟩
 |ret=>obtain⟨l,h1,h2,h3,h4⟩:=hr;exact⟨l,h1,_,_,Nat.le_refl _,Nat.le_refl _,h2,h3,h4⟩
 |exit id=>exact hr.elim
 |goto l=>exact hr.elim
 |panic ch=>exact hr.elim
 |outgrown=>exact hr.elim
theorem aG.use {P:Program} {f:FuncId} {args:List D} {s:St} {d:D} {s':St} {Q:D→St→Prop} (h:aG P f args s d s') (hq:Q d s'):bG P f args s Q:=
 bG.mono h fun x y ⟨h1,h2⟩=>by subst h1;subst h2;exact hq
mutual
theorem qm (os ts:List Nat) : ∀ d,D.ok 0 0 d=true→D.cJ os ts d=d
 | .junk,_=>by simp[D.cJ]
 | .int k n,_=>by simp[D.cJ]
 | .bool b,_=>by simp[D.cJ]
 | .str l,_=>by simp[D.cJ]
 | .dO,_=>by simp[D.cJ]
 | .val v,_=>by simp[D.cJ]
 | .fh T o,h=>by simp[D.ok]at h
 | .fL o,h=>by simp[D.ok]at h
 | .dZ z o g len,h=>by simp[D.ok]at h
 | .fi o g off,h=>by simp[D.ok]at h
 | .dX z,_=>by simp[D.cJ]
 | .fV f cs,h=>by
  simp only[D.ok]at h
  simp only[D.cJ,fv os ts cs h]
 | .ptr o f,h=>by simp[D.ok]at h
 | .dt r f,h=>by
  simp only[D.ok]at h
  simp only[D.cJ,fv os ts r h]
 | .slice g z rows,h=>by
  simp only[D.ok,Bool.and_eq_true]at h
  simp only[D.cJ,jc os ts rows h.2]
  cases g with
  |tok t y=>simp[Tag.ok]at h
  |full=>rfl
  |shared=>rfl
 | .agg cs,h=>by
  simp only[D.ok]at h
  simp only[D.cJ,fv os ts cs h]
 | .tuple cs,h=>by
  simp only[D.ok]at h
  simp only[D.cJ,fv os ts cs h]
theorem fv (os ts:List Nat) : ∀ l,D.bL 0 0 l=true→D.eQ os ts l=l
 | [],_=>by simp[D.eQ]
 |d::r,h=>by
  simp only[D.bL,Bool.and_eq_true]at h
  simp only[D.eQ,qm os ts d h.1,fv os ts r h.2]
theorem jc (os ts:List Nat) : ∀ l,D.gU 0 0 l=true→D.nN os ts l=l
 | [],_=>by simp[D.nN]
 |d::r,h=>by
  simp only[D.gU,Bool.and_eq_true]at h
  simp only[D.nN,fv os ts d h.1,jc os ts r h.2]
end
mutual
theorem Fc {n m n' m':Nat} (hn:n≤n') (hm:m≤m') : ∀ d,D.ok n m d=true→D.ok n' m' d=true
 | .junk,_=>rfl
 | .int k n,_=>rfl
 | .bool b,_=>rfl
 | .str l,_=>rfl
 | .dO,_=>rfl
 | .val v,_=>rfl
 | .fh T o,h=>by simp[D.ok]at h ⊢;omega
 | .fL o,h=>by simp[D.ok]at h ⊢;omega
 | .dZ z o g len,h=>by simp[D.ok]at h ⊢;omega
 | .fi o g off,h=>by simp[D.ok]at h ⊢;omega
 | .dX z,_=>rfl
 | .fV f cs,h=>by
  simp only[D.ok]at h ⊢
  exact ij hn hm cs h
 | .ptr o f,h=>by simp only[D.ok,decide_eq_true_eq]at h ⊢;omega
 | .dt r f,h=>by
  simp only[D.ok]at h ⊢
  exact ij hn hm r h
 | .slice g z rows,h=>by
  simp only[D.ok,Bool.and_eq_true]at h ⊢
  refine⟨?_,mh hn hm rows h.2⟩
  cases g with
  |tok t y=>simp only[Tag.ok,decide_eq_true_eq]at h ⊢;omega
  |full=>rfl
  |shared=>rfl
 | .agg cs,h=>by
  simp only[D.ok]at h ⊢
  exact ij hn hm cs h
 | .tuple cs,h=>by
  simp only[D.ok]at h ⊢
  exact ij hn hm cs h
theorem ij {n m n' m':Nat} (hn:n≤n') (hm:m≤m') : ∀ l,D.bL n m l=true→D.bL n' m' l=true
 | [],_=>rfl
 |d::r,h=>by
  simp only[D.bL,Bool.and_eq_true]at h ⊢
  exact⟨Fc hn hm d h.1,ij hn hm r h.2⟩
theorem mh {n m n' m':Nat} (hn:n≤n') (hm:m≤m') : ∀ l,D.gU n m l=true→D.gU n' m' l=true
 | [],_=>rfl
 |d::r,h=>by
  simp only[D.gU,Bool.and_eq_true]at h ⊢
  exact⟨ij hn hm d h.1,mh hn hm r h.2⟩
end
def S0:St:=⟨[],[]⟩
section
variable {P:Program} {f:Nat}
theorem aG.pure {args:List D} {d:D} (h:aG P f args S0 d S0) (ha:D.bL 0 0 args=true) (hd:D.ok 0 0 d=true) (s:St):aG P f args s d s:=by
 refine bG.frame [] [] h List.nodup_nil List.nodup_nil (by simp) (by simp) rfl (by simp) rfl (by simp) (by rw[fv _ _ _ ha]) ha ?_
 rintro _ _ ⟨rfl,rfl⟩
 refine⟨qm _ _ _ hd, ?_⟩
 simp[St.back,kv,S0]
theorem aG.S1 {args row kg:List D} {d:D} (h:aG P f (.ptr 0 0::args) ⟨[row],[]⟩ d ⟨[kg],[]⟩) (ha:D.bL 0 0 args=true) (hr:D.bL 0 0 row=true) (PO:D.bL 0 0 kg=true) (hd:D.ok 0 0 d=true)
 {s:St} {o:Nat} (ho:s.ah[o]? = some row):aG P f (.ptr o 0::args) s d ⟨s.ah.set o kg,s.au⟩:=by
 refine bG.frame [o] [] h (by simp) List.nodup_nil (by simpa using (List.getElem?_eq_some_iff.1 ho).1) (by simp) rfl (fun i o' ds e1 e2=>?_) rfl (by simp) (by simp[D.eQ,D.cJ,fv _ _ _ ha])
  (by simp[D.bL,D.ok,ij (Nat.zero_le 1) (Nat.le_refl 0) _ ha]) ?_
 ·cases i with
  |zero=>simp at e1 e2;subst e1;subst e2;exact⟨by rw[fv _ _ _ hr];exact ho,ij (Nat.zero_le 1) (Nat.le_refl 0) _ hr⟩
  |succ i=>simp at e1
 ·rintro _ _ ⟨rfl,rfl⟩
  refine⟨qm _ _ _ hd, ?_⟩
  simp[St.back,kv,fv _ _ _ PO]
end
end Go.Abs
namespace Go.Abs
theorem X.bU {x:X} {tm bn:Tm} (h : ∀ t∈x.reads,tm.get t=bn.get t):x.ev tm=x.ev bn:=by
 cases x with
 |s t=>exact h t (by simp[X.reads])
 |k d=>rfl
theorem qP {t:Nat} {x:X} : ∀ {l:List X},x∈l→t∈x.reads→t∈nZ l
 | [],h,_=>by cases h
 |y::r,h,ht=>by
  simp only[nZ,List.mem_append]
  rcases List.mem_cons.1 h with rfl|h
  ·exact .inl ht
  ·exact .inr (qP h ht)
theorem wa {x:Option X} {tm bn:Tm} (h : ∀ t∈Ap x,tm.get t=bn.get t):x.map (·.ev tm)=x.map (·.ev bn):=by
 cases x with
 |none=>rfl
 |some y=>simp only[Option.map_some];rw[X.bU h]
theorem Cy {o:AO} {tm bn:Tm} {s:St} (h : ∀ t∈o.reads,tm.get t=bn.get t):aI o tm s=aI o bn s:=by
 cases o with
 |mv x=>
  have hx:x.ev tm=x.ev bn:=X.bU fun t ht=>h t (by simp[AO.reads,ht])
  simp only[aI,hx]
 |pick c a b=>
  have hc:c.ev tm=c.ev bn:=X.bU fun t ht=>h t (by simp[AO.reads,ht])
  have ha:a.ev tm=a.ev bn:=X.bU fun t ht=>h t (by simp[AO.reads,ht])
  have hb:b.ev tm=b.ev bn:=X.bU fun t ht=>h t (by simp[AO.reads,ht])
  simp only[aI,hc,ha,hb]
 |alloc z=>
  rfl
 |sK z T=>rfl
 |Am x T=>
  have hx:x.ev tm=x.ev bn:=X.bU fun t ht=>h t (by simp[AO.reads,ht])
  simp only[aI,hx]
 |An x y=>
  have hx:x.ev tm=x.ev bn:=X.bU fun t ht=>h t (by simp[AO.reads,ht])
  have hy:y.ev tm=y.ev bn:=X.bU fun t ht=>h t (by simp[AO.reads,ht])
  simp only[aI,hx,hy]
 |apps x y=>
  have hx:x.ev tm=x.ev bn:=X.bU fun t ht=>h t (by simp[AO.reads,ht])
  have hy:y.ev tm=y.ev bn:=X.bU fun t ht=>h t (by simp[AO.reads,ht])
  simp only[aI,hx,hy]
 |box x=>
  have hx:x.ev tm=x.ev bn:=X.bU fun t ht=>h t (by simp[AO.reads,ht])
  simp only[aI,hx]
 |Ak x=>
  have hx:x.ev tm=x.ev bn:=X.bU fun t ht=>h t (by simp[AO.reads,ht])
  simp only[aI,hx]
 |load x g n=>
  have hx:x.ev tm=x.ev bn:=X.bU fun t ht=>h t (by simp[AO.reads,ht])
  simp only[aI,hx]
 |store p x n=>
  have hp:p.ev tm=p.ev bn:=X.bU fun t ht=>h t (by simp[AO.reads,ht])
  have hx:x.ev tm=x.ev bn:=X.bU fun t ht=>h t (by simp[AO.reads,ht])
  simp only[aI,hp,hx]
 |bQ x=>
  have hx:x.ev tm=x.ev bn:=X.bU fun t ht=>h t (by simp[AO.reads,ht])
  simp only[aI,hx]
 |bin op x y=>
  have hx:x.ev tm=x.ev bn:=X.bU fun t ht=>h t (by simp[AO.reads,ht])
  have hy:y.ev tm=y.ev bn:=X.bU fun t ht=>h t (by simp[AO.reads,ht])
  simp only[aI,hx,hy]
 |FY n x y=>
  have hx:x.ev tm=x.ev bn:=X.bU fun t ht=>h t (by simp[AO.reads,ht])
  have hy:y.ev tm=y.ev bn:=X.bU fun t ht=>h t (by simp[AO.reads,ht])
  simp only[aI,hx,hy]
 |eqs n ks x y=>
  have hx:x.ev tm=x.ev bn:=X.bU fun t ht=>h t (by simp[AO.reads,ht])
  have hy:y.ev tm=y.ev bn:=X.bU fun t ht=>h t (by simp[AO.reads,ht])
  simp only[aI,hx,hy]
 |FZ n x y=>
  have hx:x.ev tm=x.ev bn:=X.bU fun t ht=>h t (by simp[AO.reads,ht])
  have hy:y.ev tm=y.ev bn:=X.bU fun t ht=>h t (by simp[AO.reads,ht])
  simp only[aI,hx,hy]
 |un op x=>
  have hx:x.ev tm=x.ev bn:=X.bU fun t ht=>h t (by simp[AO.reads,ht])
  simp only[aI,hx]
 |conv k x=>
  have hx:x.ev tm=x.ev bn:=X.bU fun t ht=>h t (by simp[AO.reads,ht])
  simp only[aI,hx]
 |DI x=>
  have hx:x.ev tm=x.ev bn:=X.bU fun t ht=>h t (by simp[AO.reads,ht])
  simp only[aI,hx]
 |xw x=>
  have hx:x.ev tm=x.ev bn:=X.bU fun t ht=>h t (by simp[AO.reads,ht])
  simp only[aI,hx]
 |aq x n=>
  have hx:x.ev tm=x.ev bn:=X.bU fun t ht=>h t (by simp[AO.reads,ht])
  simp only[aI,hx]
 |Cp x n g m=>
  have hx:x.ev tm=x.ev bn:=X.bU fun t ht=>h t (by simp[AO.reads,ht])
  simp only[aI,hx]
 |cy x i n=>
  have hx:x.ev tm=x.ev bn:=X.bU fun t ht=>h t (by simp[AO.reads,ht])
  have hi:i.ev tm=i.ev bn:=X.bU fun t ht=>h t (by simp[AO.reads,ht])
  simp only[aI,hx,hi]
 |Al x i=>
  have hx:x.ev tm=x.ev bn:=X.bU fun t ht=>h t (by simp[AO.reads,ht])
  have hi:i.ev tm=i.ev bn:=X.bU fun t ht=>h t (by simp[AO.reads,ht])
  simp only[aI,hx,hi]
 |ext x i=>
  have hx:x.ev tm=x.ev bn:=X.bU fun t ht=>h t (by simp[AO.reads,ht])
  simp only[aI,hx]
 |len x=>
  have hx:x.ev tm=x.ev bn:=X.bU fun t ht=>h t (by simp[AO.reads,ht])
  simp only[aI,hx]
 |uR x=>
  have hx:x.ev tm=x.ev bn:=X.bU fun t ht=>h t (by simp[AO.reads,ht])
  simp only[aI,hx]
 |app a b x y=>
  have hx:x.ev tm=x.ev bn:=X.bU fun t ht=>h t (by simp[AO.reads,ht])
  have hy:y.ev tm=y.ev bn:=X.bU fun t ht=>h t (by simp[AO.reads,ht])
  simp only[aI,hx,hy]
 |mm b x y=>
  have hx:x.ev tm=x.ev bn:=X.bU fun t ht=>h t (by simp[AO.reads,ht])
  have hy:y.ev tm=y.ev bn:=X.bU fun t ht=>h t (by simp[AO.reads,ht])
  simp only[aI,hx,hy]
 | build z ps=>
  have hp:(ps.map fun p=>(p.1,p.2.1,p.2.2.ev tm))=ps.map fun p=>(p.1,p.2.1,p.2.2.ev bn):=List.map_congr_left fun p hp=>by
   have:p.2.2.ev tm=p.2.2.ev bn:=X.bU fun t ht=>h t (by simp only[AO.reads];exact qP (List.mem_map_of_mem hp) ht)
   rw[this]
  simp only[aI,hp]
 | dv z m n ps=>
  have hp:(ps.map fun p=>(p.1,p.2.ev tm))=ps.map fun p=>(p.1,p.2.ev bn):=List.map_congr_left fun p hp=>by
   have:p.2.ev tm=p.2.ev bn:=X.bU fun t ht=>h t (by simp only[AO.reads];exact qP (List.mem_map_of_mem hp) ht)
   rw[this]
  simp only[aI,hp]
 | uQ z m n ps=>
  have hp:(ps.map fun p=>(p.1,p.2.ev tm))=ps.map fun p=>(p.1,p.2.ev bn):=List.map_congr_left fun p hp=>by
   have:p.2.ev tm=p.2.ev bn:=X.bU fun t ht=>h t (by simp only[AO.reads];exact qP (List.mem_map_of_mem hp) ht)
   rw[this]
  simp only[aI,hp]
 |DJ n x lo hi=>
  have hx:x.ev tm=x.ev bn:=X.bU fun t ht=>h t (by simp[AO.reads,ht])
  have hl:lo.map (·.ev tm)=lo.map (·.ev bn):=wa fun t ht=>h t (by simp[AO.reads,ht])
  have hh:hi.map (·.ev tm)=hi.map (·.ev bn):=wa fun t ht=>h t (by simp[AO.reads,ht])
  simp only[aI,hx,hl,hh]
 |HQ x lo hi=>
  have hx:x.ev tm=x.ev bn:=X.bU fun t ht=>h t (by simp[AO.reads,ht])
  have hl:lo.map (·.ev tm)=lo.map (·.ev bn):=wa fun t ht=>h t (by simp[AO.reads,ht])
  have hh:hi.map (·.ev tm)=hi.map (·.ev bn):=wa fun t ht=>h t (by simp[AO.reads,ht])
  simp only[aI,hx,hl,hh]
 |uy f xs=>
  have hp:(xs.map fun x=>x.ev tm)=xs.map fun x=>x.ev bn:=List.map_congr_left fun x hx=>X.bU fun t ht=>h t (by simp only[AO.reads];exact qP hx ht)
  simp only[aI,hp]
 |uz=>rfl
 |yu m k v=>
  have hm:m.ev tm=m.ev bn:=X.bU fun t ht=>h t (by simp[AO.reads,ht])
  have hk:k.ev tm=k.ev bn:=X.bU fun t ht=>h t (by simp[AO.reads,ht])
  have hv:v.ev tm=v.ev bn:=X.bU fun t ht=>h t (by simp[AO.reads,ht])
  simp only[aI,hm,hk,hv]
 |Ao a b z l c=>
  have hl:l.ev tm=l.ev bn:=X.bU fun t ht=>h t (by simp[AO.reads,ht])
  have hk:c.ev tm=c.ev bn:=X.bU fun t ht=>h t (by simp[AO.reads,ht])
  simp only[aI,hl,hk]
 |nY o x y=>
  have hx:x.ev tm=x.ev bn:=X.bU fun t ht=>h t (by simp[AO.reads,ht])
  have hy:y.ev tm=y.ev bn:=X.bU fun t ht=>h t (by simp[AO.reads,ht])
  simp only[aI,hx,hy]
 |vR m k z=>
  have hm:m.ev tm=m.ev bn:=X.bU fun t ht=>h t (by simp[AO.reads,ht])
  have hk:k.ev tm=k.ev bn:=X.bU fun t ht=>h t (by simp[AO.reads,ht])
  simp only[aI,hm,hk]
theorem Ko {x d:D} {agg:Bool} {size:Nat} {s s':St} (h:yw x agg size s=some (d,s')):s'=s:=by
 unfold yw at h
 (repeat' (split at h))<;>first|(cases h;rfl)|cases h
theorem Kp {o:AO} (ho:gy o.kind=false) {tm:Tm} {s s':St} {d:D} (h:aI o tm s=some (d,s')):s'=s:=by
 cases o<;>simp only[AO.kind,gy]at ho<;>first|cases ho|skip
 all_goals
  simp only[aI]at h
  first
   |(cases h;rfl)
   |(repeat' (split at h))<;>first|exact Ko h|(cases h;rfl)|cases h
theorem MT {o:AO} (ho:o.kind = .pure) {tm:Tm} {s s':St} : (aI o tm s).map (·.1)=(aI o tm s').map (·.1):=by
 cases o<;>simp only[AO.kind]at ho<;>first|cases ho|skip
 all_goals
  simp only[aI]
  first
   |rfl
   |(repeat' split)<;>rfl
def jL (ai:AI) (tm:Tm) (s:St):Option D:=
 match ai with
 | .op _ none o=>(aI o tm s).map (·.1)
 | .op _ (some (t,want)) o=>
  match tm.get t with
  | .bool b=>if b=want then(aI o tm s).map (·.1)else some (.tuple [])
  | .tuple _=>some (.tuple [])
  |_=>none
 |_=>none
def sv (P:Program) (ai:AI) (tm:Tm) (s:St) (d:D) (s':St):Prop:=
 match ai with
 | .op _ g o=>guarded g tm (aI o tm s=some (d,s')) (d = .tuple []∧s'=s)
 | .call _ g f xs=>guarded g tm (bG P f (xs.map (·.ev tm)) s fun x y=>x=d∧y=s') (d = .tuple []∧s'=s)
 | .nil .. =>False
 | .jj .. =>False
def kG (P:Program) (is:List AI) (K:Tm→St→Prop):List (Nat×Nat)→List St→Tm→St→Prop
 | [],_,tm,s=>K tm s
 | (q,b)::r,bD,tm,s=>
  match is[q]? with
  |none=>False
  |some ai=>
   match gy ai.kind with
   |true=>∃ d s',sv P ai tm s d s'∧kG P is K r (s::bD) (tm.put ai.dst d) s'
   |false=>∃ d,jL ai tm s=some d∧(ai.kind = .load→∀ s'∈bD.take b,jL ai tm s'=some d)∧kG P is K r bD (tm.put ai.dst d) s
def Tm.eqv (a b:Tm):Prop:=∀ t,a.get t=b.get t
theorem Tm.lf (tm:Tm) (dst:Option Nat) (d:D) (t:Nat):(tm.put dst d).get t=if dst=some t then d else tm.get t:=by
 cases dst with
 |none=>simp[Tm.put]
 |some u=>
  simp only[Tm.put,Tm.E6,Option.some.injEq]
  by_cases h:t=u
  ·subst h;simp
  ·rw[if_neg h,if_neg (fun e=>h e.symm)]
theorem Tm.eqv.put {a b:Tm} (h:a.eqv b) (dst:Option Nat) (d:D):(a.put dst d).eqv (b.put dst d):=fun t=>by
 rw[Tm.lf,Tm.lf,h t]
theorem Tm.Iu (tm:Tm) {x y:Option Nat} (h : ∀ t,x=some t→y≠some t) (d e:D):((tm.put x d).put y e).eqv ((tm.put y e).put x d):=fun t=>by
 simp only[Tm.lf]
 by_cases h1:x=some t
 ·simp only[h1,h t h1,if_true,if_false]
 ·simp only[h1,if_false]
theorem zU {g:Option (Nat×Bool)} {tm bn:Tm} {A A' C:Prop} (h : ∀ t∈uS g,tm.get t=bn.get t) (ha:A→A') (hh:guarded g tm A C):guarded g bn A' C:=by
 cases g with
 |none=>exact ha hh
 | some p=>
  obtain⟨t,want⟩:=p
  unfold guarded at *
  simp only at *
  rw[← h t (by simp[uS])]
  split
  ·rename_i b hb
   rw[hb]at hh
   exact⟨fun e=>ha (hh.1 e),hh.2⟩
  ·rename_i hb
   rw[hb]at hh
   exact hh
  ·rename_i x h1 h2
   split at hh
   ·exact h1 _ ‹_›
   ·exact h2 _ ‹_›
   ·exact hh
theorem Gd {tm bn:Tm} : ∀ {l:List X},(∀ t∈nZ l,tm.get t=bn.get t)→l.map (·.ev tm)=l.map (·.ev bn)
 | [],_=>rfl
 |x::r,h=>by
  simp only[List.map_cons]
  rw[X.bU fun t ht=>h t (by simp[nZ,ht]),Gd (l:=r) fun t ht=>h t (by simp[nZ,ht])]
theorem wX {P:Program} {ai:AI} {tm bn:Tm} {s s':St} {d:D} (h : ∀ t∈ai.reads,tm.get t=bn.get t) (hh:sv P ai tm s d s'):sv P ai bn s d s':=by
 cases ai with
 |op dst g o=>
  simp only[AI.reads,List.mem_append]at h
  exact zU (fun t ht=>h t (.inl ht)) (fun e=>by rw[← Cy fun t ht=>h t (.inr ht)];exact e) hh
 |call dst g f xs=>
  simp only[AI.reads,List.mem_append]at h
  exact zU (fun t ht=>h t (.inl ht)) (fun e=>by rw[← Gd fun t ht=>h t (.inr ht)];exact e) hh
 |nil dst g n x=>exact hh
 |jj dst g t xs=>exact hh
theorem qy {ai:AI} {tm bn:Tm} {s:St} (h : ∀ t∈ai.reads,tm.get t=bn.get t):jL ai tm s=jL ai bn s:=by
 cases ai with
 | op dst g o=>
  simp only[AI.reads,List.mem_append]at h
  have he:=Cy (s:=s) fun t ht=>h t (.inr ht)
  cases g with
  |none=>simp only[jL,he]
  |some p=>
   obtain⟨t,want⟩:=p
   simp only[jL,he,h t (.inl (by simp[uS]))]
 |call dst g f xs=>rfl
 |nil dst g n x=>rfl
 |jj dst g t xs=>rfl
theorem Lh {dst:Option Nat} {g:Option (Nat×Bool)} {o:AO} (h:gy (AI.op dst g o).kind=false):(AI.op dst g o).kind=o.kind:=by
 unfold AI.kind at *
 split at h
 ·cases h
 ·rename_i heq;cases heq;rfl
 ·cases h
theorem S2 {ai:AI} (hk:ai.kind = .pure) {tm:Tm} {s s':St} : jL ai tm s=jL ai tm s':=by
 cases ai with
 |op dst g o=>
  have ho:o.kind = .pure:=by rw[← hk];exact(Lh (by rw[hk];rfl)).symm
  have he:=MT ho (tm:=tm) (s:=s) (s':=s')
  cases g with
  |none=>simp only[jL,he]
  |some p=>simp only[jL,he]
 |call dst g f xs=>rfl
 |nil dst g n x=>rfl
 |jj dst g t xs=>rfl
theorem apart_spec {a q:AI} (h:a.apart q=true):(∀ t,a.dst=some t→t∉q.reads)∧(∀ t,q.dst=some t→t∉a.reads)∧(∀ t,a.dst=some t→q.dst≠some t):=by
 unfold AI.apart at h
 simp only[Bool.and_eq_true]at h
 obtain⟨⟨h1,h2⟩,h3⟩:=h
 refine⟨fun t e=>?_,fun t e=>?_,fun t e e'=>?_⟩
 ·rw[e]at h1;simpa[DL]using h1
 ·rw[e]at h2;simpa[DL]using h2
 ·rw[e,e']at h3;simp at h3
theorem sw {tm:Tm} {dst:Option Nat} {d:D} {l:List Nat} (h : ∀ t,dst=some t→t∉l) : ∀ t∈l,tm.get t=(tm.put dst d).get t:=fun t ht=>by
 rw[Tm.lf,if_neg fun e=>h t e ht]
section
variable {P:Program} {is:List AI} {K:Tm→St→Prop}
theorem sx (hK : ∀ tm bn s,Tm.eqv tm bn→K tm s→K bn s) : ∀ (R:List (Nat×Nat)) (bD:List St) (tm bn:Tm) (s:St),tm.eqv bn→kG P is K R bD tm s→kG P is K R bD bn s
 | [],_,tm,bn,s,e,h=>hK tm bn s e h
 | (q,b)::R,bD,tm,bn,s,e,h=>by
  unfold kG at *
  split at h
  ·exact h.elim
  ·rename_i ai v8
   split at h
   ·rename_i hc
    obtain⟨d,s',h1,h2⟩:=h
    exact⟨d,s',wX (fun t _=>e t) h1,sx hK R _ _ _ _ (e.put _ d) h2⟩
   ·rename_i hc
    obtain⟨d,h1,h2,h3⟩:=h
    refine⟨d, ?_,fun hl s' mQ=>?_,sx hK R _ _ _ _ (e.put _ d) h3⟩
    ·rw[← qy fun t _=>e t];exact h1
    ·rw[← qy fun t _=>e t];exact h2 hl s' mQ
theorem Iv (i:Nat) (l:List Nat):jz is (i::l)=(if gy (jk is i)then 1 else 0)+jz is l:=by
 unfold jz
 rw[List.filter_cons]
 split<;>simp<;>omega
theorem wY (hK : ∀ tm bn s,Tm.eqv tm bn→K tm s→K bn s) {q b:Nat} {ai:AI} (hq:is[q]? = some ai) (hm:gy ai.kind=false) (Y:List (Nat×Nat)) :
 ∀ (X:List (Nat×Nat)) (bD:List St) (tm:Tm) (s:St),(∀ a∈X,k6 is a.1 q=true)→(ai.kind = .load→jz is (X.map (·.1))≤b)→
  kG P is K (X++(q,b)::Y) bD tm s→
  ∃ d,jL ai tm s=some d∧(ai.kind = .load→∀ s'∈bD.take (b - jz is (X.map (·.1))),jL ai tm s'=some d)∧kG P is K (X++Y) bD (tm.put ai.dst d) s
 | [],bD,tm,s,_,_,h=>by
  simp only[List.nil_append,kG,hq,hm]at h
  obtain⟨d,h1,h2,h3⟩:=h
  exact⟨d,h1,fun hl s' mQ=>h2 hl s' (by simpa[jz]using mQ),h3⟩
 | (a,c)::X,bD,tm,s,eH,hb,h=>by
  have MU:=eH (a,c) (by simp)
  unfold k6 at MU
  split at MU
  ·rename_i ia iq hia uk
   rw[hq]at uk
   cases uk
   obtain⟨p1,p2,p3⟩:=apart_spec MU
   have PY:jk is a=ia.kind:=by simp[jk,hia]
   have Hz : ∀ x∈X,k6 is x.1 q=true:=fun x hx=>eH x (List.mem_cons_of_mem _ hx)
   rw[List.map_cons,Iv,PY]at hb ⊢
   simp only[List.cons_append,kG,hia]at h ⊢
   cases hc:gy ia.kind
   ·simp only [hc,Bool.false_eq_true,if_false,Nat.zero_add]at h hb ⊢
    obtain⟨d,h1,h2,h3⟩:=h
    obtain⟨e,g1,g2,g3⟩:=wY hK hq hm Y X bD _ s Hz hb h3
    have cg : ∀ s,jL ai tm s=jL ai (tm.put ia.dst d) s:=fun s=>qy (sw p1)
    have cg' : ∀ s,jL ia tm s=jL ia (tm.put ai.dst e) s:=fun s=>qy (sw p2)
    refine⟨e,by rw[cg];exact g1,fun hl s' mQ=>by rw[cg];exact g2 hl s' mQ,d,by rw[← cg'];exact h1,fun hl s' mQ=>by rw[← cg'];exact h2 hl s' mQ, ?_⟩
    exact sx hK _ _ _ _ _ (Tm.Iu tm p3 d e) g3
   ·simp only [hc,if_true]at h hb ⊢
    obtain⟨d,s1,h1,h3⟩:=h
    obtain⟨e,g1,g2,g3⟩:=wY hK hq hm Y X (s::bD) _ s1 Hz (fun hl=>by have:=hb hl;omega) h3
    have cg : ∀ s,jL ai tm s=jL ai (tm.put ia.dst d) s:=fun s=>qy (sw p1)
    have qc:jL ai tm s=some e:=by
     cases hk:ai.kind with
     |pure=>rw[cg,S2 hk (s':=s1)];exact g1
     |load=>
      have:=hb hk
      rw[cg]
      refine g2 hk s ?_
      rw[show b - jz is (X.map (·.1))=(b - (1+jz is (X.map (·.1))))+1 by omega,List.take_succ_cons]
      exact List.mem_cons_self
     |alloc=>rw[hk]at hm;cases hm
     |core=>rw[hk]at hm;cases hm
    refine⟨e,qc,fun hl s' mQ=>?_,d,s1,wX (sw p2) h1,sx hK _ _ _ _ _ (Tm.Iu tm p3 d e) g3⟩
    have:=hb hl
    rw[cg]
    refine g2 hl s' ?_
    rw[show b - jz is (X.map (·.1))=(b - (1+jz is (X.map (·.1))))+1 by omega,List.take_succ_cons]
    exact List.mem_cons_of_mem _ mQ
  ·cases MU
end
end Go.Abs
namespace Go.Abs
section
variable {P:Program}
theorem Qd {o:Oper} {z:List D} (h:DN P o=some (.alloc z)) : ∃ t,o.op = .alloc t∧zeroOf P t=some z:=by
 obtain⟨dst,op,type,pos,after,guard⟩:=o
 unfold DN at h
 simp only at h
 split at h
 case h_4 t=>
  split at h
  ·obtain⟨z',h1,h2⟩:=map_some h;cases h2
  ·obtain⟨z',h1,h2⟩:=map_some h;cases h2;exact⟨t,rfl,h1⟩
 all_goals
  first
   |(rw[Option.map_eq_some_iff]at h;obtain⟨_,_,h⟩:=h;cases h)
   |skip
 all_goals
  (repeat' (split at h))<;>first|(cases h;done)|(rw[Option.map_eq_some_iff]at h;obtain⟨_,_,h⟩:=h;cases h)
theorem AW {nt:Nat} {ops:Array Oper} {o:Oper} {ai:AI} (h:cI P nt ops o=some ai) :
 ∃ g,uT ops o.guard=some g∧(∀ t,o.dst=some t→t<nt)∧sm P ops o g=some ai:=by
 have h2:=xL h
 unfold cI at h
 split at h
 ·cases h
 ·rename_i g hg
  split at h
  ·exact⟨g,hg,h2,h⟩
  ·cases h
theorem sW {ops:Array Oper} {o:Oper} {g:Option (Nat×Bool)} {ai:AI} (h:sm P ops o g=some ai):ai.dst=o.dst:=by
 unfold sm at h
 split at h
 ·split at h
  ·obtain⟨xs,_,rfl⟩:=map_some h;rfl
  ·cases h
 ·obtain⟨xs,_,rfl⟩:=map_some h;rfl
 ·split at h
  ·cases h;rfl
  ·split at h
   ·cases h;rfl
   ·cases h;rfl
   ·cases h
theorem sX {nt:Nat} {ops:Array Oper} {o:Oper} {ai:AI} (h:cI P nt ops o=some ai):ai.dst=o.dst:=by
 obtain⟨g,_,_,h⟩:=AW h
 exact sW h
theorem wZ {nt:Nat} {ops:Array Oper} {i:Nat} {o:Oper} {ai:AI} (hi:ops[i]? = some o) (hc:cI P nt ops o=some ai)
 {M:Map} {s:St} {w:World} {tm:Tm} {act:Act} (r:Rel M s w) (ko:Laid M s w) (ht:lT M s tm act.tmps) {K':Tm→St→Prop} (h:iP P [ai] K' tm s)
 {K:Act→World→Prop} {Q:Exit→Act→World→Prop}
 (hK : ∀ d v s1 w1 M1,K' (tm.put ai.dst d) s1→Ext M s w M1 s1 w1→Rel M1 s1 w1→RD M1 s1 d v→K (act.put o.dst v) w1):wpOp P ops Q i K act w:=by
 obtain⟨g,hg,_,hb⟩:=AW hc
 rw[sW hb]at hK
 simp only[wpOp,hi]
 have skip:K' (tm.put o.dst (.tuple [])) s→K (act.put o.dst Go.undef) w:=fun hk=>hK _ _ _ _ _ hk (Ext.refl M s w) r .undef
 unfold sm at hb
 split at hb
 ·rename_i f args mB mA
  split at hb
  ·rename_i yH
   obtain⟨xs,oG,rfl⟩:=map_some hb
   simp only[iP]at h
   rcases j7 hg ht h with ⟨hw,hA⟩|⟨hw,hB⟩
   ·simp only [hw,if_true]
    left
    have hex:(execOp act.eval o).run P w = .ok (.enter f (args.map act.eval)) w:=by
     obtain⟨dst,op,type,pos,after,guard⟩:=o
     simp only at mA
     subst mA
     exact wU act.eval dst f args mB type pos after guard rfl yH w
    obtain⟨c1,c2⟩:=v7 ht oG
    unfold Oper.wp
    rw[hex,Oper.upon_enter]
    refine(hA M w (args.map act.eval) r ko (by simp[c1]) (fun i d v e1 e2=>c2 i d v e1 (by simpa using e2))).mono ?_
    rintro en w' ⟨M',d,v,s',rfl,hk,e',r',hv⟩
    exact hK _ _ _ _ _ hk e' r' hv
   ·simp only [hw]
    exact skip hB
  ·cases hb
 ·rename_i t args mB mA
  obtain⟨xs,oG,rfl⟩:=map_some hb
  simp only[iP]at h
  rcases j7 hg ht h with ⟨hw,hA⟩|⟨hw,hB⟩
  ·simp only [hw,if_true]
   left
   split at hA
   ·rename_i f nH oE
    obtain⟨yH,hA⟩:=hA
    have P2:=ht t
    rw[oE]at P2
    obtain⟨vs,sS,hlen,DY⟩:=P2.Lb
    have hex:(execOp act.eval o).run P w = .ok (.enter f (args.map act.eval++vs)) w:=by
     obtain⟨dst,op,type,pos,after,guard⟩:=o
     simp only at mA
     subst mA
     exact AR act.eval dst (.tmp t) f vs args mB type pos after guard sS yH w
    have cc:=Ga oG ht hlen DY
    unfold Oper.wp
    rw[hex,Oper.upon_enter]
    refine(hA M w (args.map act.eval++vs) r ko cc.1 cc.2).mono ?_
    rintro en w' ⟨M',d,v,s',rfl,hk,e',r',hv⟩
    exact hK _ _ _ _ _ hk e' r' hv
   ·exact hA.elim
  ·simp only [hw]
   exact skip hB
 ·split at hb
  ·rename_i neg x C3
   cases hb
   simp only[iP]at h
   rcases j7 hg ht h with ⟨hw,hA⟩|⟨hw,hB⟩
   ·simp only [hw,if_true]
    left
    split at hA
    ·rename_i g' z rows hx
     obtain⟨b,hb,hex⟩:=zQ (w:=w) C3 ht hx
     unfold Oper.wp
     rw[hex,Oper.upon_value]
     exact hK _ _ _ _ _ (hA b hb) (Ext.refl M s w) r (.bool _)
    ·exact hA.elim
   ·simp only [hw]
    exact skip hB
  ·have fin : ∀ ao,ai = .op o.dst g ao→(∀ d s',aI ao tm s=some (d,s')→cG P M s w (execOp act.eval o) d s')→
    (if Region.wanted o (yielded ops act.tmps)=true then o.wp P act w K Q∨(o.asks P act w∧LetsOut Q)else K (act.put o.dst Go.undef) w):=by
    intro ao v8 hdo
    subst v8
    simp only[iP]at h
    rcases j7 hg ht h with ⟨hw,hA⟩|⟨hw,hB⟩
    ·simp only [hw,if_true]
     left
     split at hA
     ·rename_i d s' qw
      obtain⟨v,w',M',dB,r',hv,e'⟩:=hdo d s' qw
      unfold Oper.wp
      rcases dB with dB|⟨dB,rfl⟩
      ·rw [dB,Oper.upon_value]
       exact hK _ _ _ _ _ hA e' r' hv
      ·rw [dB,Oper.upon_skip]
       exact hK _ _ _ _ _ hA e' r' hv
     ·exact hA.elim
    ·simp only [hw]
     exact skip hB
   split at hb
   ·rename_i z k n ps n7
    cases hb
    refine fin _ rfl (fun d s' qw=>?_)
    split at qw
    ·exact yG n7 r ht qw
    ·exact su n7 r ht qw
   ·rename_i ao n7
    cases hb
    exact fin _ rfl (fun d s' qw=>su n7 r ht qw)
   ·cases hb
structure Li (M:Map) (s:St) (b:Nat):Prop where
 o : ∀ o,o<s.ah.length→M.mu o≠b
 t : ∀ t c z,s.live t→M.be t≠some (b,c,z)
 g : ∀ off,M.G b off=none
theorem Li.mono {M M':Map} {s s':St} {w w':World} {b:Nat} (h:Li M s b) (e:Ext M s w M' s' w') (hb:b<w.heap.size):Li M' s' b:=by
 refine⟨fun o ho=>?_,fun t c z hl he=>?_,fun off=>?_⟩
 ·rcases e.mo ho with ⟨h1,h2⟩ | h1
  ·rw[h2];exact h.o o h1
  ·omega
 ·rcases e.qh t b c z hl he with ⟨h1,c',z',h2⟩ | h1
  ·exact h.t t c' z' h1 h2
  ·omega
 ·by_cases hg:M'.G b off=M.G b off
  ·rw[hg];exact h.g off
  ·rcases e.rO b off hg with h1 | ⟨t,c,z,h1,h2⟩
   ·omega
   ·exact(h.t t c z h1 h2).elim
theorem Rel.idle {M:Map} {s:St} {w:World} (r:Rel M s w) (x:Obj):Rel M s (w.alloc x)∧Ext M s w M s (w.alloc x)∧Li M s w.heap.size:=by
 refine⟨⟨fun b o v e=>?_,fun o ds e=>?_,r.jD,r.inj,fun t n e=>?_,r.fa,r.fM⟩, ?_,⟨fun o ho=>?_,fun t c z hl e=>?_,fun off=>r.Mf (Nat.le_refl _) off⟩⟩
 ·obtain⟨h3,h4⟩:=r.comm b o v e
  refine⟨?_,h4⟩
  rw[World.cell?_alloc_lt]
  ·exact h3
  ·exact r.Aw e
 ·obtain⟨vs,T,h3,h4,h5,h6⟩:=r.obj o ds e
  exact⟨vs,T,h3.keep (heap_alloc_old w _ _ h3.lt),h4,h5,h6⟩
 ·rcases r.tok t n e with h3 | ⟨b,cap,size,fy,T',h3,h4,h5⟩
  ·exact .inl h3
  ·exact .inr ⟨b,cap,size,fy,T',h3,by rw[heap_alloc_old w _ _ (jX h4)];exact h4,h5⟩
 ·exact⟨Le.refl M s,fun b hb _ _=>heap_alloc_old w _ b hb,fun o h3 h4=>by rcases h3 with h3|h3;omega;exact(h3 rfl).elim,fun t b c z h e=> .inl ⟨h,c,z,e⟩,fun _ _ h=>(h rfl).elim,by simp,rfl,rfl,rfl⟩
 ·have:=r.qa ho;omega
 ·have:=r.sn hl e;omega
theorem Rel.aeu {M:Map} {s:St} {w:World} (r:Rel M s w) {B:fP} (e:Ext B.M B.s B.w M s w) {b:Nat} (u:Li M s b) (hb:B.w.heap.size≤b)
 (ds:List D) (vs:Array Value) (T:TypeId) (hh:w.heap[b]? = some (.cells vs T (0,0))) (hl:vs.size=ds.length) (h1 : ∀ v∈vs,v.oneCell'=true)
 (h2 : ∀ (i:Nat) (d:D) (v:Value),ds[i]? = some d→vs[i]? = some v→RD M s d v) :
 Rel (M.dK s.ah.length b) {s with ah:=s.ah++ [ds]} w∧Ext B.M B.s B.w (M.dK s.ah.length b) {s with ah:=s.ah++ [ds]} w∧
 Le M s (M.dK s.ah.length b) {s with ah:=s.ah++ [ds]}:=by
 have le:=rQ (M:=M) s b ds
 have mN : ∀ o,o<s.ah.length→(M.dK s.ah.length b).mu o=M.mu o:=fun o ho=>congrArg Prod.fst (sN M b .any ho)
 have da:(M.dK s.ah.length b).mu s.ah.length=b:=by simp[Map.dK,Map.mu]
 refine⟨⟨r.comm,fun o nA e'=>?_,fun o ho off=>?_,fun o o' ho nB e'=>?_,r.tok,fun t b' c z o hl e' ho=>?_,r.fM⟩, ?_,le⟩
 ·rcases Nat.lt_or_ge o s.ah.length with ho | ho
  ·rw [List.getElem?_append_left ho]at e'
   obtain⟨fy,T',h3,h4,h5,h6⟩:=r.obj o nA e'
   refine⟨fy,T', ?_,h4,⟨h5.1,by rw[le.ty o ho];exact h5.2⟩,fun i d v e1 e2=>(h6 i d v e1 e2).mono le⟩
   rw[sN M b .any ho];exact h3
  ·rw [List.getElem?_append_right ho]at e'
   have:o=s.ah.length:=by
    have:=(List.getElem?_eq_some_iff.1 e').1
    simp at this;omega
   subst this
   simp at e';subst e'
   refine⟨vs,T, ?_,hl,⟨h1,fun T' h=>by simp[Map.dK,Map.ty,Ob.ty?]at h⟩,fun i d v e1 e2=>(h2 i d v e1 e2).mono le⟩
   have hl:(M.dK s.ah.length b).loc s.ah.length=(b, .any):=by simp[Map.dK]
   rw[hl];exact iw.of hh trivial
 ·simp at ho
  rcases Nat.lt_or_ge o s.ah.length with h3|h3
  ·rw[mN o h3];exact r.jD o h3 off
  ·have:o=s.ah.length:=by omega
   subst this
   rw[da];exact u.g off
 ·simp at ho nB
  rcases Nat.lt_or_ge o s.ah.length with h3|h3<;>rcases Nat.lt_or_ge o' s.ah.length with h4|h4
  ·rw[mN o h3,mN o' h4]at e';exact r.inj o o' h3 h4 e'
  ·have:o'=s.ah.length:=by omega
   subst this
   rw[mN o h3,da]at e'
   exact(u.o o h3 e').elim
  ·have:o=s.ah.length:=by omega
   subst this
   rw[mN o' h4,da]at e'
   exact(u.o o' h4 e'.symm).elim
  ·omega
 ·simp at ho
  rcases Nat.lt_or_ge o s.ah.length with h3|h3
  ·rw[mN o h3];exact r.fa t b' c z o hl e' h3
  ·have:o=s.ah.length:=by omega
   subst this
   rw[da]
   intro he
   subst he
   exact u.t t c z hl e'
 ·refine⟨e.le.trans le,e.kept,fun o h3 h4=> ?_,e.qh,e.rO,e.size,e.os,e.tape,e.output⟩
  simp at h4
  rcases Nat.lt_or_ge o s.ah.length with h5|h5
  ·rw[mN o h5]at h3 ⊢;exact e.tw o h3 h5
  ·have:o=s.ah.length:=by omega
   subst this
   rw[da];exact hb
theorem Kq {nt:Nat} {ops:Array Oper} {i:Nat} {o:Oper} {t:Nat} {z:List D} (hi:ops[i]? = some o) (hc:cI P nt ops o=some (.op (some t) none (.alloc z)))
 {w:World} {act:Act} {K:Act→World→Prop} {Q:Exit→Act→World→Prop}
 (hK : ∀ vs T,vs.size=z.length→(∀ v∈vs,v.oneCell'=true)→(∀ (M:Map) (s:St) (i:Nat) (d:D) (v:Value),z[i]? = some d→vs[i]? = some v→RD M s d v)→
  K (act.put (some t) (.pointer (some ⟨w.heap.size,0,none⟩))) (w.alloc (.cells vs T))):wpOp P ops Q i K act w:=by
 obtain⟨g,hg,_,hb⟩:=AW hc
 have ql:=sW hb
 simp only[AI.dst]at ql
 simp only[wpOp,hi]
 have mA:g=none∧DN P o=some (.alloc z):=by
  unfold sm at hb
  split at hb
  ·split at hb
   ·obtain⟨xs,_,h⟩:=map_some hb;cases h
   ·cases hb
  ·obtain⟨xs,_,h⟩:=map_some hb;cases h
  ·split at hb
   ·cases hb
   ·split at hb
    ·rename_i n7
     simp only[Option.some.injEq,AI.op.injEq]at hb
     obtain⟨_,_,h⟩:=hb
     split at h<;>cases h
    ·rename_i ao n7
     simp only[Option.some.injEq,AI.op.injEq]at hb
     obtain⟨_,h1,h2⟩:=hb
     subst h2
     exact⟨h1,n7⟩
    ·cases hb
 obtain⟨rfl,n7⟩:=mA
 obtain⟨T,hT,hz⟩:=Qd n7
 have hw:Region.wanted o (yielded ops act.tmps)=true:=by
  have:o.guard=none:=by
   cases F2:o.guard with
   |none=>rfl
   |some p=>
    obtain⟨j,b⟩:=p
    rw[F2]at hg
    unfold uT at hg
    simp only at hg
    split at hg<;>cases hg
  simp[Region.wanted,this]
 simp only[hw,if_true]
 left
 unfold zeroOf at hz
 split at hz
 ·rename_i inf MJ
  split at hz
  ·rename_i v hv
   split at hz
   ·have dB:(execOp act.eval o).run P w = .ok (.value (.pointer (some ⟨w.heap.size,0,none⟩))) (w.alloc (.cells v.cells T)):=by
     obtain⟨dst,op,type,pos,after,guard⟩:=o
     simp only at hT
     subst hT
     simp[execOp,Instr.alloc,zeroValue,fO P MJ,hv,newVar,newRow]
    have h3:=fun M s=>lb (M:=M) (s:=s) hz
    obtain⟨h1,h2,_⟩:=h3 ⟨fun _ _=>none,fun _=>(0, .any),fun _=>none⟩ ⟨[],[]⟩
    unfold Oper.wp
    rw[dB,Oper.upon_value, ← ql]
    exact hK _ _ (by rw[h1];simp) (fun u hu=>h2 u (by simpa using hu)) (fun M s i d u e1 e2=>(h3 M s).2.2 i d u e1 (by simpa using e2))
   ·cases hz
  ·cases hz
 ·cases hz
end
end Go.Abs
namespace Go.Abs
section
variable {is:List AI} {af pt:List (List Nat)}
theorem zV {pq:List Nat} {l l':List Nat} (h:l'.Sublist l) (hb:kS is pq l=true):kS is pq l'=true:=by
 induction h with
 |slnil=>rfl
 |cons a h ih=>
  simp only[kS,Bool.and_eq_true]at hb
  exact ih hb.2
 |cons_cons a h ih=>
  simp only[kS,Bool.and_eq_true,Bool.or_eq_true]at hb ⊢
  refine⟨hb.1.imp id fun h1=>?_,ih hb.2⟩
  rw[List.all_eq_true]at h1 ⊢
  exact fun x hx=>h1 x (h.subset hx)
theorem BR {f:Nat→Bool} {l l':List Nat} (h:l'.Sublist l) (ha:l.all f=true):l'.all f=true:=by
 rw[List.all_eq_true]at ha ⊢
 exact fun x hx=>ha x (h.subset hx)
theorem Kr {l l':List Nat} (h:l'.Sublist l):jz is l'≤jz is l:=(h.filter _).length_le
theorem MV {pre Fe:List Nat} {q b:Nat} (h:Fe.Sublist pre) (hs:oO is pt pre q b=true):oO is pt Fe q b=true:=by
 unfold oO at *
 split at hs
 ·exact BR h hs
 ·exact BR h hs
 ·simp only [Bool.and_eq_true]at hs ⊢
  exact⟨BR h hs.1,zV h hs.2⟩
 ·simp only [Bool.and_eq_true,decide_eq_true_eq]at hs ⊢
  exact⟨⟨BR h hs.1.1,zV h hs.1.2⟩,Nat.le_trans (Kr (h.filter _)) hs.2⟩
theorem Iw : ∀ {R:List (Nat×Nat)} {pre Fe:List Nat},Fe.Sublist pre→uf is af pt pre R=true→uf is af pt Fe R=true
 | [],_,_,_,_=>rfl
 |(q,b)::R,pre,Fe,h,ho=>by
  simp only[uf,Bool.and_eq_true,Bool.not_eq_true']at ho ⊢
  obtain⟨⟨⟨h1,h2⟩,h3⟩,h4⟩:=ho
  refine⟨⟨⟨MV h h1, ?_⟩,h3⟩,Iw (h.cons_cons q) h4⟩
  rw[← Bool.not_eq_true,List.contains_iff_mem]at h2 ⊢
  exact fun hm=>h2 (h.subset hm)
theorem Ff : ∀ {X:List (Nat×Nat)} {e:Nat×Nat} {Y:List (Nat×Nat)} {pre:List Nat},uf is af pt pre (X++e::Y)=true→uf is af pt pre (X++Y)=true
 | [],(q,b),Y,pre,h=>by
  simp only[List.nil_append,uf,Bool.and_eq_true]at h
  exact Iw (List.sublist_cons_self q pre) h.2
 |(a,c)::X,e,Y,pre,h=>by
  simp only[List.cons_append,uf,Bool.and_eq_true]at h ⊢
  obtain⟨⟨⟨h1,h2⟩,h3⟩,h4⟩:=h
  refine⟨⟨⟨h1,h2⟩, ?_⟩,Ff h4⟩
  rw[List.all_eq_true]at h3 ⊢
  intro j hj
  have:=h3 j hj
  simp only[Bool.and_eq_true,Bool.not_eq_true']at this ⊢
  refine⟨this.1, ?_⟩
  have h5:=this.2
  rw[← Bool.not_eq_true,List.contains_iff_mem]at h5 ⊢
  refine fun hm=>h5 ?_
  simp only[List.map_append,List.map_cons,List.mem_append,List.mem_cons]at hm ⊢
  exact hm.imp id .inr
theorem sY : ∀ {X:List (Nat×Nat)} {q b:Nat} {Y:List (Nat×Nat)} {pre:List Nat},uf is af pt pre (X++(q,b)::Y)=true→
 oO is pt ((X.map (·.1)).reverse++pre) q b=true∧q∉X.map (·.1)∧q∉pre∧(∀ j∈gL af q,j≠q∧j∉Y.map (·.1))∧uf is af pt (q::((X.map (·.1)).reverse++pre)) Y=true
 | [],q,b,Y,pre,h=>by
  simp only[List.nil_append,uf,Bool.and_eq_true,Bool.not_eq_true']at h
  obtain⟨⟨⟨h1,h2⟩,h3⟩,h4⟩:=h
  rw[← Bool.not_eq_true,List.contains_iff_mem]at h2
  refine⟨h1,by simp,h2,fun j hj=>?_,h4⟩
  rw[List.all_eq_true]at h3
  have:=h3 j hj
  simp only[Bool.and_eq_true,bne_iff_ne,Bool.not_eq_true', ← Bool.not_eq_true,List.contains_iff_mem]at this
  exact this
 |(a,c)::X,q,b,Y,pre,h=>by
  simp only[List.cons_append,uf,Bool.and_eq_true]at h
  obtain⟨_,h4⟩:=h
  obtain⟨g1,g2,g3,g4,g5⟩:=sY h4
  simp only[List.map_cons,List.reverse_cons,List.append_assoc,List.singleton_append]
  refine⟨g1, ?_,fun h=>g3 (List.mem_cons_of_mem _ h),g4,g5⟩
  intro hm
  rcases List.mem_cons.1 hm with rfl|hm
  ·exact g3 (by simp)
  ·exact g2 hm
theorem BS : ∀ {Y:List (Nat×Nat)} {pre:List Nat},uf is af pt pre Y=true→∀ x∈Y,x.1∉pre∧(jk is x.1 = .alloc→∀ a∈pre,k6 is a x.1=true)
 | [],_,_,x,hx=>by cases hx
 | (q,b)::Y,pre,h,x,hx=>by
  simp only[uf,Bool.and_eq_true,Bool.not_eq_true']at h
  obtain⟨⟨⟨h1,h2⟩,_⟩,h4⟩:=h
  rw[← Bool.not_eq_true,List.contains_iff_mem]at h2
  rcases List.mem_cons.1 hx with rfl|hx
  ·refine⟨h2,fun hk a ha=> ?_⟩
   unfold oO at h1
   simp only[hk]at h1
   rw[List.all_eq_true]at h1
   exact h1 a ha
  ·obtain⟨g1,g2⟩:=BS h4 x hx
   exact⟨fun h=>g1 (List.mem_cons_of_mem _ h),fun hk a ha=>g2 hk a (List.mem_cons_of_mem _ ha)⟩
theorem Cz : ∀ {n:Nat},xx af pt n=true→∀ i,i<n→∀ j∈gL pt i,j∈gL af i∨∃ k∈gL af i,j∈gL pt k
 | 0,_,i,hi=>by omega
 | n+1,h,i,hi=>by
  simp only[xx,Bool.and_eq_true]at h
  rcases Nat.lt_or_ge i n with h1|h1
  ·exact Cz h.2 i h1
  ·have:i=n:=by omega
   subst this
   intro j hj
   have:=h.1
   rw[List.all_eq_true]at this
   have:=this j hj
   simp only[Bool.or_eq_true,List.contains_iff_mem,List.any_eq_true]at this
   exact this
theorem xP {pq:List Nat} : ∀ {l:List Nat},kS is pq l=true→∀ (x:Nat) (l1 l2:List Nat),l=l1++x::l2→jk is x = .alloc→x∈pq→∀ y∈l2,y∈pq
 | [],_,x,l1,l2,h=>by simp at h
 | a::l,hb,x,l1,l2,h=>by
  simp only[kS,Bool.and_eq_true,Bool.or_eq_true,Bool.not_eq_true',Bool.and_eq_false_iff]at hb
  intro hk hx y hy
  cases l1 with
  | nil=>
   simp only[List.nil_append,List.cons.injEq]at h
   obtain⟨rfl,rfl⟩:=h
   rcases hb.1 with h1|h1
   ·rcases h1 with h1 | h1
    ·simp[hk]at h1
    ·rw [← Bool.not_eq_true,List.contains_iff_mem]at h1
     exact(h1 hx).elim
   ·rw [List.all_eq_true]at h1
    have:=h1 y hy
    rwa [List.contains_iff_mem]at this
  |cons b l1=>
   simp only[List.cons_append,List.cons.injEq]at h
   exact xP hb.2 x l1 l2 h.2 hk hx y hy
end
structure Pd where
 q:Nat
 t:Nat
 z:List D
 b:Nat
structure aao (is:List AI) (R:List (Nat×Nat)) (B:fP) (M:Map) (s:St) (act:Act) (w:World) (p:Pd):Prop where
 mem:p.q∈R.map (·.1)
 ai:is[p.q]? = some (.op (some p.t) none (.alloc p.z))
 cells : ∃ (vs:Array Value) (T:TypeId),w.heap[p.b]? = some (.cells vs T (0,0))∧vs.size=p.z.length∧(∀ v∈vs,v.oneCell'=true)∧
  ∀ (M:Map) (s:St) (i:Nat) (d:D) (v:Value),p.z[i]? = some d→vs[i]? = some v→RD M s d v
 unk:Li M s p.b
 base:B.w.heap.size≤p.b
 slot:act.tmps.getD p.t Go.undef = .pointer (some ⟨p.b,0,none⟩)
def yL (P:Program) (is:List AI) (K:Tm→St→Prop) (B:fP) (nt:Nat) (R:List (Nat×Nat)) (dU:List Pd) (act:Act) (w:World):Prop:=
 ∃ (M:Map) (s:St) (tm sZ:Tm) (bD:List St),Ext B.M B.s B.w M s w∧Rel M s w∧lT M s sZ act.tmps∧(∀ t,(∀ p∈dU,p.t≠t)→sZ.get t=tm.get t)∧
  act.tmps.size=nt∧act.defers = []∧kG P is K R bD tm s∧(∀ p∈dU,aao is R B M s act w p)∧
  (∀ p∈dU,∀ p'∈dU,p.q=p'.q∨p.t=p'.t∨p.b=p'.b→p=p')
structure qQ (is:List AI) (af pt:List (List Nat)) (dj:Array Bool) (R:List (Nat×Nat)) (dU:List Pd):Prop where
 ok:uf is af pt [] R=true
 Ge : ∀ i,i<is.length→(dj.getD i false=true↔(i∉R.map (·.1)∨∃ p∈dU,p.q=i))
 cl : ∀ i,i<is.length→dj.getD i false=true→∀ j∈gL pt i,dj.getD j false=true
 size:dj.size=is.length
 lt : ∀ x∈R,x.1<is.length
section
variable {P:Program} {is:List AI} {af pt:List (List Nat)} {K:Tm→St→Prop} {B:fP} {nt:Nat}
theorem aap {dj:Array Bool} {q b:Nat} {R:List (Nat×Nat)} {dU:List Pd} {act:Act} {w:World} (hs:qQ is af pt dj ((q,b)::R) dU) (h:yL P is K B nt ((q,b)::R) dU act w)
 {p:Pd} (hp:p∈dU) (um:p.q=q) :
 qQ is af pt dj R (dU.filter fun p'=>decide (p'.q≠q))∧yL P is K B nt R (dU.filter fun p'=>decide (p'.q≠q)) act w:=by
 have gp : ∀ p',p'∈(dU.filter fun p'=>decide (p'.q≠q))↔p'∈dU∧p'.q≠q:=fun p'=>by simp
 constructor
 ·have pC:=hs.ok
  have C6:=sY (X:= []) pC
  refine⟨Ff (X:= []) pC,fun i hi=>?_,hs.cl,hs.size,fun x hx=>hs.lt x (List.mem_cons_of_mem _ hx)⟩
  rw[hs.Ge i hi]
  simp only[List.map_cons,List.mem_cons,not_or]
  have hqR:q∉R.map (·.1):=fun hm=>by
   obtain⟨x,hx,rfl⟩:=List.mem_map.1 hm
   exact(BS C6.2.2.2.2 x hx).1 (by simp)
  constructor
  ·rintro(⟨h1,h2⟩ | ⟨p',h1,h2⟩)
   ·exact .inl h2
   ·by_cases hq:i=q
    ·subst hq;exact .inl hqR
    ·exact .inr ⟨p',(gp p').2 ⟨h1,by rw[h2];exact hq⟩,h2⟩
  ·rintro(h1 | ⟨p',h1,h2⟩)
   ·by_cases hq:i=q
    ·subst hq;exact .inr ⟨p,hp,um⟩
    ·exact .inl ⟨hq,h1⟩
   ·exact .inr ⟨p',((gp p').1 h1).1,h2⟩
 ·obtain⟨M,s,tm,sZ,bD,e,r,ht,qc,hn,hd,hg,wb,sy⟩:=h
  have hk:=wb p hp
  obtain⟨vs,T,hh,hl,h1,h2⟩:=hk.cells
  have v8:=hk.ai
  rw[um]at v8
  simp only[kG,v8,AI.kind,gy]at hg
  obtain⟨d,s',ja,hg⟩:=hg
  have qw:aI (.alloc p.z) tm s=some (d,s'):=ja
  simp only[aI,Option.some.injEq,Prod.mk.injEq]at qw
  obtain⟨rfl,rfl⟩:=qw
  obtain⟨r',e',le⟩:=r.aeu e hk.unk hk.base p.z vs T hh hl h1 (h2 M s)
  refine⟨_,_,_,sZ.put (some p.t) (.ptr s.ah.length 0),_,e',r',fun u=>?_,fun t Lj=>?_,hn,hd,hg,fun p' mK=>?_,fun p1 h1 p2 h2=>sy p1 ((gp p1).1 h1).1 p2 ((gp p2).1 h2).1⟩
  ·rw [Tm.lf]
   split
   ·rename_i heq
    cases heq
    rw[hk.slot]
    have:(M.dK s.ah.length p.b).mu s.ah.length=p.b:=by simp[Map.dK,Map.mu]
    have h5:=RD.ptr (M:=M.dK s.ah.length p.b) (s:= {s with ah:=s.ah++ [p.z]}) s.ah.length 0 (by simp) (by simp[Map.dK,Map.ob,Ob.plain])
    rw[this]at h5
    exact h5
   ·exact(ht u).mono le
  ·simp only [AI.dst]
   rw[Tm.lf,Tm.lf]
   split
   ·rfl
   ·rename_i eA
    refine qc t fun p' mK=>?_
    by_cases hq:p'.q=q
    ·have:=sy p' mK p hp (.inl (hq.trans um.symm))
     subst this
     exact fun h=>eA (by rw[h])
    ·exact Lj p' ((gp p').2 ⟨mK,hq⟩)
  ·obtain⟨hp1,hp2⟩:=(gp p').1 mK
   have ud:=wb p' hp1
   refine⟨?_,ud.ai,ud.cells,⟨fun o ho=>?_,ud.unk.t,ud.unk.g⟩,ud.base,ud.slot⟩
   ·have:=ud.mem
    simp only[List.map_cons,List.mem_cons]at this
    exact this.resolve_left hp2
   ·simp at ho
    rcases Nat.lt_or_ge o s.ah.length with h5|h5
    ·rw[show(M.dK s.ah.length p.b).mu o=M.mu o from congrArg Prod.fst (sN M p.b .any h5)];exact ud.unk.o o h5
    ·have:o=s.ah.length:=by omega
     subst this
     have:(M.dK s.ah.length p.b).mu s.ah.length=p.b:=by simp[Map.dK,Map.mu]
     rw[this]
     intro hb
     have:=sy p hp p' hp1 (.inr (.inr hb))
     subst this
     exact hp2 um
theorem norm {dj:Array Bool} {act:Act} {w:World} : ∀ (R:List (Nat×Nat)) (dU:List Pd),qQ is af pt dj R dU→yL P is K B nt R dU act w→
 ∃ R' wc,qQ is af pt dj R' wc∧yL P is K B nt R' wc act w∧∀ x l,R'=x::l→∀ p∈wc,p.q≠x.1
 | [],dU,hs,h=>⟨[],dU,hs,h,fun _ _ he=>by cases he⟩
 | (q,b)::R,dU,hs,h=>by
  by_cases hp : ∃ p∈dU,p.q=q
  ·obtain⟨p,hp,um⟩:=hp
   obtain⟨h1,h2⟩:=aap hs h hp um
   exact norm R _ h1 h2
  ·refine⟨(q,b)::R,dU,hs,h,fun x l he p hpm um=>hp ⟨p,hpm, ?_⟩⟩
   cases he
   exact um
theorem VU {ops:Array Oper} {q:Nat} {o:Oper} {ai:AI} (hi:ops[q]? = some o) (hc:cI P nt ops o=some ai) {R R':List (Nat×Nat)} {dU:List Pd} {act:Act} {w:World} {M:Map} {s s1:St} {tm sZ:Tm} {d:D} {VV:List St}
 (e:Ext B.M B.s B.w M s w) (r:Rel M s w) (ht:lT M s sZ act.tmps) (qc : ∀ t,(∀ p∈dU,p.t≠t)→sZ.get t=tm.get t) (hn:act.tmps.size=nt) (hd:act.defers = [])
 (wb : ∀ p∈dU,aao is R B M s act w p) (sy : ∀ p∈dU,∀ p'∈dU,p.q=p'.q∨p.t=p'.t∨p.b=p'.b→p=p')
 (hv:iP P [ai] (fun a b=>a=sZ.put ai.dst d∧b=s1) sZ s) (hg:kG P is K R' VV (tm.put ai.dst d) s1)
 (gp : ∀ p∈dU,p.q∈R'.map (·.1)) (ql : ∀ p∈dU,ai.dst≠some p.t) {Q:Exit→Act→World→Prop} :
 wpOp P ops Q q (yL P is K B nt R' dU) act w:=by
 refine wZ hi hc r (B.laid.ext e) ht hv fun d' v s2 w1 M1 hk e1 r1 jl=>?_
 obtain⟨vU,rfl⟩:=hk
 have hde:=sX hc
 have hD : ∀ t,o.dst=some t→t<act.tmps.size:=fun t h=>by rw[hn];exact xL hc t h
 refine⟨M1,s2,tm.put ai.dst d,sZ.put ai.dst d,VV,e.trans e1,r1, ?_,fun t Lj=>?_, ?_, ?_,hg,fun p hp=>?_,sy⟩
 ·rw [← vU,hde]
  exact(ht.mono e1.le).put hD jl
 ·rw[Tm.lf,Tm.lf,qc t Lj]
 ·cases ho:o.dst<;>simp[Act.put,hn]
 ·cases ho:o.dst<;>simp[Act.put,hd]
 ·have hk:=wb p hp
  obtain⟨vs,T,hh,hl,h1,h2⟩:=hk.cells
  have hb:=jX hh
  refine⟨gp p hp,hk.ai,⟨vs,T,by rw[e1.kept p.b hb hk.unk.o hk.unk.t];exact hh,hl,h1,h2⟩,hk.unk.mono e1 hb,hk.base, ?_⟩
  rw[← hk.slot]
  have:=ql p hp
  rw[hde]at this
  cases ho:o.dst with
  |none=>rfl
  |some t=>
   rw[ho]at this
   have eA:t≠p.t:=fun h=>this (by rw[h])
   simp[Act.put,Array.getElem?_setIfInBounds_ne eA]
theorem MW {ai:AI} (hm:gy ai.kind=false) {tm:Tm} {s:St} {d:D} (h:jL ai tm s=some d):iP P [ai] (fun a b=>a=tm.put ai.dst d∧b=s) tm s:=by
 cases ai with
 | op dst g o=>
  have hko:=Lh hm
  have key : ∀ {d},(aI o tm s).map (·.1)=some d→aI o tm s=some (d,s):=by
   intro d h
   cases he:aI o tm s with
   |none=>rw[he]at h;cases h
   |some p=>
    obtain⟨d',s'⟩:=p
    rw[he]at h
    simp only[Option.map_some,Option.some.injEq]at h
    subst h
    rw[Kp (by rw[← hko];exact hm) he]
  simp only[iP,AI.dst]
  cases g with
  |none=>
   simp only[jL]at h
   simp only[guarded,key h,and_self]
  | some p=>
   obtain⟨t,want⟩:=p
   simp only[jL]at h
   simp only[guarded]
   split at h
   ·rename_i b hb
    simp only[hb]
    split at h
    ·rename_i heq
     refine⟨fun _=>by simp only[key h,and_self],fun eA=>?_⟩
     subst heq
     cases b<;>cases eA
    ·rename_i eA
     cases h
     exact⟨fun heq=>(eA heq).elim,fun _=>by simp⟩
   ·rename_i ds hb
    cases h
    simp only[hb,and_self]
   ·cases h
 |call dst g f xs=>cases hm
 |nil dst g n x=>cases hm
 |jj dst g t xs=>cases hm
theorem AX {g:Option (Nat×Bool)} {tm:Tm} {A A' C C':Prop} (ha:A→A') (hc:C→C') (hh:guarded g tm A C):guarded g tm A' C':=by
 cases g with
 |none=>exact ha hh
 | some p=>
  obtain⟨t,want⟩:=p
  unfold guarded at *
  simp only at *
  split
  ·rename_i b hb;rw[hb]at hh;exact⟨fun e=>ha (hh.1 e),fun e=>hc (hh.2 e)⟩
  ·rename_i hb;rw[hb]at hh;exact hc hh
  ·rename_i x h1 h2
   split at hh
   ·exact h1 _ ‹_›
   ·exact h2 _ ‹_›
   ·exact hh
theorem Ix {ai:AI} {tm:Tm} {s s1:St} {d:D} (h:sv P ai tm s d s1):iP P [ai] (fun a b=>a=tm.put ai.dst d∧b=s1) tm s:=by
 cases ai with
 |op dst g o=>
  refine AX (fun e=>?_) (fun e=>?_) h
  ·rw[e];exact⟨rfl,rfl⟩
  ·obtain⟨rfl,rfl⟩:=e;exact⟨rfl,rfl⟩
 |call dst g f xs=>
  refine AX (fun e=>?_) (fun e=>?_) h
  ·exact e.mono fun x y hxy=>by obtain⟨rfl,rfl⟩:=hxy;exact⟨rfl,rfl⟩
  ·obtain⟨rfl,rfl⟩:=e;exact⟨rfl,rfl⟩
 |nil dst g n x=>exact h.elim
 |jj dst g t xs=>exact h.elim
end
end Go.Abs
namespace Go.Abs
section
variable {P:Program} {is:List AI} {af pt:List (List Nat)} {K:Tm→St→Prop} {B:fP} {nt:Nat}
theorem BT {ops:Array Oper} : ∀ {ol:List Oper} {is:List AI},qE P nt ops ol=some is→is.length=ol.length∧∀ (i:Nat) (o:Oper),ol[i]? = some o→∃ ai,is[i]? = some ai∧cI P nt ops o=some ai
 | [],is,h=>by cases h;exact⟨rfl,by simp⟩
 | o::ol,is,h=>by
  unfold qE at h
  split at h
  ·rename_i ai P0 h1 h2
   cases h
   obtain⟨g1,g2⟩:=BT h2
   refine⟨by simp[g1],fun i o' ho=>?_⟩
   cases i with
   |zero=>simp at ho;subst ho;exact⟨ai,rfl,h1⟩
   |succ i=>exact g2 i o' (by simpa using ho)
  ·cases h
theorem sA {dj:Array Bool} {i:Nat} (h:i<dj.size):dj.getD i true=dj.getD i false:=by
 simp[h]
theorem qQ.done {dj:Array Bool} {X Y:List (Nat×Nat)} {q b:Nat} {dU:List Pd} (hs:qQ is af pt dj (X++(q,b)::Y) dU) (hq:q<is.length)
 (Gf : ∀ j∈gL pt q,dj.getD j false=true):qQ is af pt (dj.setIfInBounds q true) (X++Y) dU:=by
 obtain⟨g1,g2,g3,g4,g5⟩:=sY hs.ok
 have hqY:q∉Y.map (·.1):=fun hm=>by
  obtain⟨x,hx,rfl⟩:=List.mem_map.1 hm
  exact(BS g5 x hx).1 (by simp)
 refine⟨Ff hs.ok,fun i hi=>?_,fun i hi hl j hj=>?_,by simp[hs.size],fun x hx=>hs.lt x (by simp at hx ⊢;exact hx.imp id .inr)⟩
 ·by_cases uk:i=q
  ·subst uk
   have:i<dj.size:=by rw[hs.size];exact hq
   simp only[List.map_append,List.mem_append,g2,hqY,or_self,not_false_eq_true,true_or,iff_true]
   simp[this]
  ·rw [getD_set_ne false (Ne.symm uk),hs.Ge i hi]
   simp[uk]
 ·by_cases uk:i=q
  ·subst uk;exact getD_set_true (Gf j hj)
  ·rw [getD_set_ne false (Ne.symm uk)]at hl
   exact getD_set_true (hs.cl i hi hl j hj)
theorem qQ.flag {dj:Array Bool} {R:List (Nat×Nat)} {dU:List Pd} (hs:qQ is af pt dj R dU) {p:Pd} (hq:p.q<is.length)
 (Gf : ∀ j∈gL pt p.q,dj.getD j false=true):qQ is af pt (dj.setIfInBounds p.q true) R (p::dU):=by
 refine⟨hs.ok,fun i hi=>?_,fun i hi hl j hj=>?_,by simp[hs.size],hs.lt⟩
 ·by_cases uk:i=p.q
  ·subst uk
   have:p.q<dj.size:=by rw[hs.size];exact hq
   simp[this]
  ·rw [getD_set_ne false (Ne.symm uk),hs.Ge i hi]
   have eA:p.q≠i:=fun h=>uk h.symm
   simp[eA]
 ·by_cases uk:i=p.q
  ·subst uk;exact getD_set_true (Gf j hj)
  ·rw [getD_set_ne false (Ne.symm uk)]at hl
   exact getD_set_true (hs.cl i hi hl j hj)
theorem MX {ai:AI} (h:ai.kind = .alloc) : ∃ t z,ai = .op (some t) none (.alloc z):=by
 cases ai with
 | op dst g o=>
  unfold AI.kind at h
  split at h
  ·rename_i heq;cases heq;exact⟨_,_,rfl⟩
  ·rename_i heq
   cases heq
   exfalso
   revert h
   cases o<;>simp[AO.kind]
  ·cases h
 |call dst g f xs=>cases h
 |nil dst g n x=>cases h
 |jj dst g t xs=>cases h
theorem MY {ops:Array Oper} (w5:qE P nt ops ops.toList=some is) (MZ:xx af pt is.length=true)
 (hK : ∀ tm bn s,Tm.eqv tm bn→K tm s→K bn s) {dj:Array Bool} {R:List (Nat×Nat)} {dU:List Pd} {act:Act} {w:World} (hs:qQ is af pt dj R dU) (h:yL P is K B nt R dU act w)
 (aew : ∀ x l,R=x::l→∀ p∈dU,p.q≠x.1) {q:Nat} (hq:q<is.length) (D3:dj.getD q false=false) (jl : ∀ j∈gL af q,j<is.length∧dj.getD j false=true)
 {Q:Exit→Act→World→Prop} {K2:Act→World→Prop} (hK2 : ∀ R' wc a' w',qQ is af pt (dj.setIfInBounds q true) R' wc→yL P is K B nt R' wc a' w'→K2 a' w'):wpOp P ops Q q K2 act w:=by
 obtain⟨hlen,hY⟩:=BT w5
 have uZ:q<ops.size:=by rw[hlen]at hq;simpa using hq
 obtain⟨ai,v8,Qf⟩:=hY q ops[q] (by simp[uZ])
 have hi:ops[q]? = some ops[q]:=by simp[uZ]
 have Gf : ∀ j∈gL pt q,dj.getD j false=true:=fun j hj=>by
  rcases Cz MZ q hq j hj with h1|⟨k,h1,h2⟩
  ·exact(jl j h1).2
  ·exact hs.cl k (jl k h1).1 (jl k h1).2 j h2
 have Qg : ∀ p∈dU,p.q≠q:=fun p hp um=>by
  have:=(hs.Ge q hq).2 (.inr ⟨p,hp,um⟩)
  rw[D3]at this;cases this
 have hqR:q∈R.map (·.1):=by
  by_cases hm:q∈R.map (·.1)
  ·exact hm
  ·have:=(hs.Ge q hq).2 (.inl hm)
   rw[D3]at this;cases this
 obtain⟨⟨q',b⟩,hx,hqq⟩:=List.mem_map.1 hqR
 simp only at hqq
 subst hqq
 obtain⟨X,Y,rfl⟩:=List.append_of_mem hx
 obtain⟨g1,g2,g3,g4,g5⟩:=sY hs.ok
 rw[List.append_nil]at g1 g5
 obtain⟨M,s,tm,sZ,bD,e,r,ht,qc,hn,hd,hg,wb,sy⟩:=h
 have Qh:jk is q'=ai.kind:=by simp[jk,v8]
 -- what must have come up ahead of it, is not here any more, but for what was allocated early
 have VW : ∀ a∈X.map (·.1),a∈gL pt q'→∃ p∈dU,p.q=a:=fun a ha eH=>by
  have h1:=Gf a eH
  obtain⟨x,hxX,rfl⟩:=List.mem_map.1 ha
  rcases(hs.Ge x.1 (hs.lt x (by simp[hxX]))).1 h1 with h2|h2
  ·exact(h2 (by simp;exact .inl ⟨x.2,hxX⟩)).elim
  ·exact h2
 have VX : ∀ x l,X=x::l→x.1∉gL pt q':=fun x l hX hxp=>by
  obtain⟨p,hp,um⟩:=VW x.1 (by simp[hX]) hxp
  exact aew x (l++(q',b)::Y) (by simp[hX]) p hp um
 have hpk : ∀ p∈dU,jk is p.q = .alloc:=fun p hp=>by simp[jk,(wb p hp).ai,AI.kind]
 have C6 : ∀ p∈dU,(p.q∈X.map (·.1)→k6 is p.q q'=true)→(∀ t,ai.dst=some t→t≠p.t)∧p.t∉ai.reads:=fun p hp hX=>by
  have hk:=wb p hp
  have hm:=hk.mem
  simp only[List.map_append,List.map_cons,List.mem_append,List.mem_cons]at hm
  rcases hm with hm|hm|hm
  ·have:=hX hm
   simp only[k6,hk.ai,v8]at this
   obtain⟨p1,p2,p3⟩:=apart_spec this
   exact⟨fun t ht he=>p3 p.t rfl (by rw[ht,he]),p1 p.t rfl⟩
  ·exact(Qg p hp hm).elim
  ·obtain⟨x,hxY,VY⟩:=List.mem_map.1 hm
   have:=(BS g5 x hxY).2 (by rw[VY];exact hpk p hp) q' (by simp)
   rw[VY]at this
   simp only[k6,hk.ai,v8]at this
   obtain⟨p1,p2,p3⟩:=apart_spec this
   exact⟨fun t ht he=>p3 t ht (by rw[he];rfl),p2 p.t rfl⟩
 have Qi:(∀ p∈dU,p.t∉ai.reads)→∀ t∈ai.reads,tm.get t=sZ.get t:=fun hp t ht=>(qc t fun p hpm he=>hp p hpm (by rw[he];exact ht)).symm
 have VZ : ∀ p∈dU,p.q∈(X++Y).map (·.1):=fun p hp=>by
  have hm:=(wb p hp).mem
  have:=Qg p hp
  simp only[List.map_append,List.map_cons,List.mem_append,List.mem_cons]at hm ⊢
  rcases hm with hm|hm|hm
  ·exact .inl hm
  ·exact(this hm).elim
  ·exact .inr hm
 by_cases AY:ai.kind = .alloc
 ·-- an allocation
  obtain⟨t,z,rfl⟩:=MX AY
  have eH : ∀ a∈X.map (·.1),k6 is a q'=true:=fun a ha=>by
   unfold oO at g1
   rw[Qh,AY]at g1
   simp only[List.all_reverse,List.all_eq_true]at g1
   exact g1 a ha
  have rM:=fun p hp=>C6 p hp (eH p.q)
  refine Kq hi Qf fun vs T hl h1 h2=>?_
  obtain⟨r1,e1,u1⟩:=r.idle (.cells vs T)
  have aau:t<act.tmps.size:=by
   rw[hn]
   exact xL Qf t (by rw[← sX Qf];rfl)
  have:=hs.flag (p:=⟨q',t,z,w.heap.size⟩) hq Gf
  refine hK2 _ _ _ _ this ⟨M,s,tm,sZ.put (some t) .junk,bD,e.trans e1,r1,lT.put ht (dst:=some t) (fun u hu=>by cases hu;exact aau) (.junk _),fun u hu=>?_,by simp[Act.put,hn],by simp[Act.put,hd],hg,fun p hp=>?_,fun p hp p' mK he=>?_⟩
  ·have h3:=hu ⟨q',t,z,w.heap.size⟩ (by simp)
   rw[Tm.lf,if_neg (by simpa using h3)]
   exact qc u fun p hp=>hu p (List.mem_cons_of_mem _ hp)
  ·rcases List.mem_cons.1 hp with rfl | hp
   ·refine⟨by simp,v8,⟨vs,T,heap_alloc_new w _,hl,h1,h2⟩,u1,e.size, ?_⟩
    simp[Act.put,aau]
   ·have hk:=wb p hp
    obtain⟨fy,T',jV,lU,rL,uj⟩:=hk.cells
    refine⟨hk.mem,hk.ai,⟨fy,T',by rw[heap_alloc_old w _ _ (jX jV)];exact jV,lU,rL,uj⟩,hk.unk,hk.base, ?_⟩
    rw[← hk.slot]
    have eA:t≠p.t:=(rM p hp).1 t rfl
    simp[Act.put,Array.getElem?_setIfInBounds_ne eA]
  ·have da : ∀ p∈dU,¬ (q'=p.q∨t=p.t∨w.heap.size=p.b):=fun p hp h=>by
    rcases h with h|h|h
    ·exact Qg p hp h.symm
    ·exact(rM p hp).1 t rfl h
    ·obtain⟨fy,T',jV,_⟩:=(wb p hp).cells
     have:=jX jV
     omega
   rcases List.mem_cons.1 hp with rfl|hp<;>rcases List.mem_cons.1 mK with rfl|mK
   ·rfl
   ·exact(da p' mK he).elim
   ·exact(da p hp (he.imp Eq.symm (Or.imp Eq.symm Eq.symm))).elim
   ·exact sy p hp p' mK he
 ·by_cases n7:gy ai.kind=true
  ·-- a step that changes something: it stands first
   have hkc:ai.kind = .core:=by
    cases hk:ai.kind<;>simp_all [gy]
   have hX:X = []:=by
    cases X with
    |nil=>rfl
    |cons x l=>
     refine(VX x l rfl ?_).elim
     unfold oO at g1
     rw[Qh,hkc]at g1
     simp only[List.all_reverse,List.all_eq_true]at g1
     have:=g1 x.1 (by simp)
     rwa [List.contains_iff_mem]at this
   subst hX
   have rM:=fun p hp=>C6 p hp (fun h=>by simp at h)
   simp only[List.nil_append,kG,v8,n7]at hg
   obtain⟨d,s1,ja,hg⟩:=hg
   have aiQ:=wX (Qi fun p hp=>(rM p hp).2) ja
   refine wpOp_mono (fun a' w' hr=>hK2 _ _ _ _ (hs.done hq Gf) hr) ?_
   exact VU hi Qf e r ht qc hn hd wb sy (Ix aiQ) hg VZ (fun p hp he=>(rM p hp).1 _ he rfl)
  ·-- a step that changes nothing
   have hm:gy ai.kind=false:=by simpa using n7
   have nO : ∀ a∈X.map (·.1),a∉gL pt q':=fun a ha eH=>by
    obtain⟨p,hp,um⟩:=VW a ha eH
    have PY:jk is a = .alloc:=by rw[← um];exact hpk p hp
    have kB:kS is (gL pt q') (X.map (·.1)).reverse=true:=by
     unfold oO at g1
     rw[Qh]at g1
     cases hk:ai.kind with
     |pure=>simp only[hk,Bool.and_eq_true]at g1;exact g1.2
     |load=>simp only[hk,Bool.and_eq_true]at g1;exact g1.1.2
     |alloc=>exact(AY hk).elim
     |core=>rw[hk]at hm;cases hm
    cases X with
    |nil=>simp at ha
    | cons x l=>
     have ha2:a∈((x::l).map (·.1)).reverse:=List.mem_reverse.2 ha
     obtain⟨l1,l2,CA⟩:=List.append_of_mem ha2
     have yM:=xP kB a l1 l2 CA PY eH
     refine VX x l rfl ?_
     cases kT:l2.reverse with
     |nil=>
      have h3:l2 = []:=by simpa using kT
      subst h3
      have:=congrArg List.reverse CA
      simp at this
      rw[this.1];exact eH
     |cons y l3=>
      have:=congrArg List.reverse CA
      simp only[List.reverse_reverse,List.map_cons,List.reverse_append,List.reverse_cons,List.reverse_nil,List.append_assoc,kT,List.cons_append,List.nil_append,List.cons.injEq]at this
      rw[this.1]
      exact yM y (by rw[← List.mem_reverse,kT];simp)
   have eH : ∀ a∈X,k6 is a.1 q'=true:=fun a ha=>by
    have h3 : ∀ x∈(X.map (·.1)).reverse,((gL pt q').contains x ||k6 is x q')=true:=by
     unfold oO at g1
     rw[Qh]at g1
     cases hk:ai.kind with
     |pure=>simp only[hk,Bool.and_eq_true]at g1;exact List.all_eq_true.1 g1.1
     |load=>simp only[hk,Bool.and_eq_true]at g1;exact List.all_eq_true.1 g1.1.1
     |alloc=>exact(AY hk).elim
     |core=>rw[hk]at hm;cases hm
    have:=h3 a.1 (List.mem_reverse.2 (List.mem_map_of_mem ha))
    simp only[Bool.or_eq_true,List.contains_iff_mem]at this
    exact this.resolve_left (nO a.1 (List.mem_map_of_mem ha))
   have aav:ai.kind = .load→jz is (X.map (·.1))≤b:=fun hk=>by
    unfold oO at g1
    rw[Qh,hk]at g1
    simp only[Bool.and_eq_true,decide_eq_true_eq]at g1
    have h3:=g1.2
    have h4:(X.map (·.1)).reverse.filter (fun a=> !(gL pt q').contains a)=(X.map (·.1)).reverse:=by
     rw[List.filter_eq_self]
     intro a ha
     have:=nO a (List.mem_reverse.1 ha)
     simpa using this
    rw[h4]at h3
    unfold jz at h3 ⊢
    rw[List.filter_reverse,List.length_reverse]at h3
    exact h3
   have rM:=fun p hp=>C6 p hp (fun h=>by
    obtain⟨x,hx,VY⟩:=List.mem_map.1 h
    rw[← VY];exact eH x hx)
   obtain⟨d,h1,_,Cv⟩:=wY hK v8 hm Y X bD tm s eH aav hg
   have rL:jL ai sZ s=some d:=by rw[← qy (Qi fun p hp=>(rM p hp).2)];exact h1
   refine wpOp_mono (fun a' w' hr=>hK2 _ _ _ _ (hs.done hq Gf) hr) ?_
   exact VU hi Qf e r ht qc hn hd wb sy (MW hm rL) Cv VZ (fun p hp he=>(rM p hp).1 _ he rfl)
theorem CC {o:Oper} {j:Nat} : j∈mL o↔∃ e∈o.after,Region.binds .any e=true∧e.on=j:=by
 simp only[mL,List.mem_map,List.mem_filter,Array.mem_toList_iff]
 constructor
 ·rintro⟨e,⟨h1,h2⟩,h3⟩;exact⟨e,h1,h2,h3⟩
 ·rintro⟨e,h1,h2,h3⟩;exact⟨e,⟨h1,h2⟩,h3⟩
theorem M3 {ops:Array Oper} (w5:qE P nt ops ops.toList=some is) (MZ:xx (ops.toList.map mL) pt is.length=true)
 (aaw : ∀ i,i<is.length→∀ j∈gL (ops.toList.map mL) i,j<is.length) {Q:Exit→Tm→St→Prop} (hK : ∀ tm bn s,Tm.eqv tm bn→K tm s→K bn s)
 (hKQ : ∀ tm s act w,K tm s→Holds B nt tm s act w→pI B nt Q .normal act w) :
 ∀ (fuel:Nat) (dj:Array Bool) (R:List (Nat×Nat)) (dU:List Pd) (act:Act) (w:World) (U:List Nat),U.length≤fuel→(∀ j,j<is.length→dj.getD j false=false→j∈U)→
  qQ is (ops.toList.map mL) pt dj R dU→yL P is K B nt R dU act w→wpAny P .any ops (pI B nt Q) fuel dj act w:=by
 obtain⟨hlen,_⟩:=BT w5
 have sr:is.length=ops.size:=by rw[hlen];simp
 have aax : ∀ (j:Nat) (o:Oper),ops[j]? = some o→gL (ops.toList.map mL) j=mL o:=fun j o h=>by
  simp[gL,List.getD,h]
 have fin : ∀ {dj:Array Bool} {dU:List Pd} {act:Act} {w:World},yL P is K B nt [] dU act w→pI B nt Q .normal act w:=by
  intro dj dU act w h
  obtain⟨M,s,tm,sZ,bD,e,r,ht,qc,hn,hd,hg,wb,sy⟩:=h
  have C3 : ∀ p∈dU,False:=fun p hp=>by have:=(wb p hp).mem;simp at this
  exact hKQ sZ s act w (hK tm sZ s (fun t=>(qc t fun p hp=>(C3 p hp).elim).symm) hg) ⟨M,e,r,ht,hn,hd⟩
 have Qj : ∀ {dj:Array Bool} {R:List (Nat×Nat)} {dU:List Pd} {x:Nat×Nat} {l:List (Nat×Nat)},qQ is (ops.toList.map mL) pt dj R dU→R=x::l→(∀ p∈dU,p.q≠x.1)→
  x.1∈Region.ready .any ops dj:=by
  intro dj R dU x l hs hR Qg
  subst hR
  have hx:=hs.lt x (by simp)
  rw[mem_ready]
  have D3:dj.getD x.1 false=false:=by
   cases hl:dj.getD x.1 false with
   |false=>rfl
   |true=>
    rcases(hs.Ge x.1 hx).1 hl with h1|⟨p,hp,um⟩
    ·exact(h1 (by simp)).elim
    ·exact(Qg p hp um).elim
  have hxo:x.1<ops.size:=by rw[← sr];exact hx
  refine⟨by rw[sA (by rw[hs.size];exact hx)];exact D3,ops[x.1],by simp[hxo],fun e he hb=>?_⟩
  have hm:e.on∈gL (ops.toList.map mL) x.1:=by rw[aax x.1 ops[x.1] (by simp[hxo])];exact CC.2 ⟨e,he,hb,rfl⟩
  obtain⟨_,_,_,g4,_⟩:=sY (X:= []) (q:=x.1) (b:=x.2) hs.ok
  obtain⟨h1,h2⟩:=g4 _ hm
  refine(hs.Ge e.on (aaw x.1 hx _ hm)).2 (.inl ?_)
  simp only[List.map_cons,List.mem_cons,not_or]
  exact⟨h1,h2⟩
 intro fuel
 induction fuel with
 | zero=>
  intro dj R dU act w U hU D3 hs h
  obtain⟨R',wc,mQ,h',hn⟩:=norm R dU hs h
  have hUn:U = []:=List.length_eq_zero_iff.1 (by omega)
  have yM : ∀ j,j<is.length→dj.getD j false=true:=fun j hj=>by
   cases hl:dj.getD j false with
   |true=>rfl
   |false=>have:=D3 j hj hl;rw[hUn]at this;cases this
  have hR:R' = []:=by
   cases hR:R' with
   |nil=>rfl
   |cons x l=>
    have hx:=mQ.lt x (by simp[hR])
    have:=Qj mQ hR (hn x l hR)
    rw[mem_ready,sA (by rw[mQ.size];exact hx),yM x.1 hx]at this
    cases this.1
  subst hR
  refine⟨?_,fin (dj:=dj) h'⟩
  cases hr:Region.ready .any ops dj with
  |nil=>rfl
  |cons j js=>
   have hj:j∈Region.ready .any ops dj:=by rw[hr];simp
   rw[mem_ready]at hj
   obtain⟨h1,o,ho,_⟩:=hj
   have V0:j<is.length:=by rw[sr];exact(Array.getElem?_eq_some_iff.1 ho).1
   rw[sA (by rw[hs.size];exact V0),yM j V0]at h1
   cases h1
 | succ fuel ih=>
  intro dj R dU act w U hU D3 hs h
  obtain⟨R',wc,mQ,h',hn⟩:=norm R dU hs h
  refine⟨fun hr=>?_,fun i hi=>?_⟩
  ·cases hR:R' with
   |nil=>subst hR;exact fin (dj:=dj) h'
   |cons x l=>
    have:=Qj mQ hR (hn x l hR)
    rw[hr]at this
    cases this
  ·rw [mem_ready]at hi
   obtain⟨h1,o,ho,aiS⟩:=hi
   have qx:i<is.length:=by rw[sr];exact(Array.getElem?_eq_some_iff.1 ho).1
   rw[sA (by rw[hs.size];exact qx)]at h1
   refine MY w5 MZ hK mQ h' hn qx h1 (fun j hj=>⟨aaw i qx j hj, ?_⟩) fun R2 aey a2 w2 zO h2=>?_
   ·rw [aax i o ho]at hj
    obtain⟨e,he,hb,rfl⟩:=CC.1 hj
    exact aiS e he hb
   ·refine ih _ R2 aey a2 w2 (U.erase i) ?_ (fun j hj hl=> ?_) zO h2
    ·have:=List.length_erase_of_mem (D3 i qx h1)
     omega
    ·have hji:j≠i:=fun e=>by
      subst e
      have:j<dj.size:=by rw[hs.size];exact qx
      simp[this]at hl
     rw[getD_set_ne false (Ne.symm hji)]at hl
     exact(List.mem_erase_of_ne hji).2 (D3 j hj hl)
theorem Sem.par {is:List AI} {lH:List (Nat×Nat)} {Q:Exit→Tm→St→Prop} {tm:Tm} {s:St} (h:kG P is (Q .normal) lH [] tm s):Sem P B nt (.par is lH) Q tm s:=by
 intro c hc act w hh
 obtain⟨id,ops,rfl,hi,hm,pt,hp⟩:=lq hc
 simp only[HR,Bool.and_eq_true,List.all_eq_true,List.mem_range,List.contains_iff_mem,decide_eq_true_eq]at hp
 obtain⟨⟨⟨⟨h1,h2⟩,h3⟩,h4⟩,h5⟩:=hp
 obtain⟨hlen,_⟩:=BT hi
 have sr:is.length=ops.size:=by rw[hlen];simp
 refine wp_region_any hm ?_
 obtain⟨M,e,r,ht,hn,hd⟩:=hh
 have key : ∀ (R:List (Nat×Nat)) (bD:List St) (tm:Tm) (s:St),kG P is (Q .normal) R bD tm s→kG P is (fun tm s=>∃ bn,tm.eqv bn∧Q .normal bn s) R bD tm s:=by
  intro R
  induction R with
  |nil=>intro bD tm s h;exact⟨tm,fun _=>rfl,h⟩
  | cons x R ih=>
   obtain⟨q,b⟩:=x
   intro bD tm s h
   unfold kG at h ⊢
   split at h
   ·exact h.elim
   ·split at h
    ·obtain⟨d,s',h1,h2⟩:=h;exact⟨d,s',h1,ih _ _ _ h2⟩
    ·obtain⟨d,h1,h2,h3⟩:=h;exact⟨d,h1,h2,ih _ _ _ h3⟩
 have hg:=key _ _ _ _ h
 refine M3 (K:=fun tm s=>∃ bn,tm.eqv bn∧Q .normal bn s) hi h1 h5 (fun tm bn s he ⟨t2,h3,h4⟩=>⟨t2,fun t=>(he t).symm.trans (h3 t),h4⟩)
  (fun tm s act w ⟨t2,h3,h4⟩ ⟨M,e,r,ht,hn,hd⟩=>⟨t2,s,h4,M,e,r,fun t=>by rw[← h3 t];exact ht t,hn,hd⟩) ops.size _ lH [] act _ (List.range is.length) (by simp[sr]) (fun j hj _=>by simpa using hj)
  ⟨h2,fun i hi=>?_,fun i hi hl=>?_,by simp[sr],h4⟩ ⟨M,s,tm,tm,[],⟨e.le,e.kept,e.tw,e.qh,e.rO,e.size,e.os,e.tape,e.output⟩,r.of_heap rfl,ht,fun _ _=>rfl,hn,hd,hg,by simp,by simp⟩
 ·have:i<ops.size:=by rw [← sr];exact hi
  have h6:=h3 i hi
  simp only[List.not_mem_nil,false_and,exists_false,or_false]
  rw[show(Array.replicate ops.size false).getD i false=false by simp[this]]
  simp[h6]
 ·have:i<ops.size:=by rw [← sr];exact hi
  rw[show(Array.replicate ops.size false).getD i false=false by simp[this]]at hl
  cases hl
end
end Go.Abs
namespace Go.Abs
theorem XJ (k:IntKind) (n:Int):D.row (.int k n)=some [.int k n]:=rfl
theorem S3 (b:Bool):D.row (.bool b)=some [.bool b]:=rfl
theorem XK (l:List UInt8):D.row (.str l)=some [.str l]:=rfl
theorem S4:D.row .dO=some [.dO]:=rfl
theorem XL (o f:Nat):D.row (.ptr o f)=some [.ptr o f]:=rfl
theorem S5 (r:List D) (f:Nat):D.row (.dt r f)=some [.dt r f]:=rfl
theorem Qk (g:Tag) (z:Nat) (r:List (List D)):D.row (.slice g z r)=some [.slice g z r]:=rfl
theorem XM (cs:List D):D.row (.agg cs)=some cs:=rfl
theorem XN (v:Value):D.row (.val v)=some [.val v]:=rfl
theorem Ql (T:TypeId) (o:Nat):D.row (.fh T o)=some [.fh T o]:=rfl
theorem XO (f:Nat) (cs:List D):D.row (.fV f cs)=some [.fV f cs]:=rfl
theorem S6 (o:Nat):D.row (.fL o)=some [.fL o]:=rfl
theorem S7 (w:Bool):Tag.cut .full w=if w then .full else .shared:=rfl
theorem M4 (w:Bool):Tag.cut .shared w = .shared:=rfl
theorem S8 (t:Nat) (y:Bool) (w:Bool):Tag.cut (.tok t y) w = .tok t y:=rfl
section
variable {P:Program}
def KC (P:Program) (r:List AI) (K:Tm→St→Prop) (tm:Tm) (dst:Option Nat) (d:D) (s:St):Prop:=iP P r K (tm.put dst d) s
def GI (P:Program) (g:D) (want:Bool) (i:AI) (r:List AI) (K:Tm→St→Prop) (tm:Tm) (s:St):Prop:=
 match g with
 | .bool b=>(b=want→iP P (i::r) K tm s)∧(b=(!want)→iP P r K (tm.put i.dst (.tuple [])) s)
 | .tuple _=>iP P r K (tm.put i.dst (.tuple [])) s
 |_=>False
def NI (P:Program) (dst:Option Nat) (neg:Bool) (x:D) (r:List AI) (K:Tm→St→Prop) (tm:Tm) (s:St):Prop:=
 match x with
 | .slice _ _ rows=>∀ b:Bool,(rows≠ []→b=false)→iP P r K (tm.put dst (.bool (if neg then !b else b))) s
 |_=>False
def uC (d:D) (A C:Prop):Prop:=
 match d with
 | .bool b=>(b=true→A)∧(b=false→C)
 |_=>False
theorem Sem.aez {B:fP} {nt:Nat} {Q:Exit→Tm→St→Prop} {tm:Tm} {s:St} {x:X} {a b:AC} (h:uC (x.ev tm) (Sem P B nt a Q tm s) (Sem P B nt b Q tm s)):Sem P B nt (.cond x a b) Q tm s:=by
 unfold uC at h
 split at h
 ·rename_i t ht
  exact Sem.cond ht h.1 h.2
 ·exact h.elim
def gD (P:Program) (K:Tm→St→Prop):List (AI×Nat)→List St→Tm→St→Prop
 | [],_,tm,s=>K tm s
 |(ai,b)::r,bD,tm,s=>
  match gy ai.kind with
  |true=>∃ d s',sv P ai tm s d s'∧gD P K r (s::bD) (tm.put ai.dst d) s'
  |false=>∃ d,jL ai tm s=some d∧(ai.kind = .load→∀ s'∈bD.take b,jL ai tm s'=some d)∧gD P K r bD (tm.put ai.dst d) s
def mS (is:List AI):List (Nat×Nat)→Option (List (AI×Nat))
 | []=>some []
 |(q,b)::r=>match is[q]?,mS is r with
  |some ai,some l=>some ((ai,b)::l)
  |_,_=>none
theorem Fg {is:List AI} {K:Tm→St→Prop} : ∀ {lH:List (Nat×Nat)} {items:List (AI×Nat)} {bD:List St} {tm:Tm} {s:St},mS is lH=some items→gD P K items bD tm s→kG P is K lH bD tm s
 | [],items,bD,tm,s,h,g=>by cases h;exact g
 | (q,b)::r,items,bD,tm,s,h,g=>by
  simp only[mS]at h
  split at h
  ·rename_i ai l h1 h2
   cases h
   simp only[gD]at g
   simp only[kG,h1]
   split at g
   ·rename_i hk
    obtain⟨d,s',g1,g2⟩:=g
    try simp only[hk]
    exact⟨d,s',g1,Fg h2 g2⟩
   ·rename_i hk
    obtain⟨d,g1,g2,g3⟩:=g
    try simp only[hk]
    exact⟨d,g1,g2,Fg h2 g3⟩
  ·cases h
theorem Sem.aiT {B:fP} {nt:Nat} {Q:Exit→Tm→St→Prop} {tm:Tm} {s:St} {is:List AI} {lH:List (Nat×Nat)} {items:List (AI×Nat)} (hi:mS is lH=some items) (h:gD P (Q .normal) items [] tm s):Sem P B nt (.par is lH) Q tm s:=
 Sem.par (Fg hi h)
def AI.free:AI→AI
 | .op d _ o=> .op d none o
 | .call d _ f xs=> .call d none f xs
 | .nil d _ n x=> .nil d none n x
 | .jj d _ t xs=> .jj d none t xs
def GL (P:Program) (g:D) (want:Bool) (i:AI) (b:Nat) (r:List (AI×Nat)) (K:Tm→St→Prop) (bD:List St) (tm:Tm) (s:St):Prop:=
 match g with
 | .bool v=>(v=want→gD P K ((i,b)::r) bD tm s)∧(v=(!want)→gD P K r (if gy i.kind then s::bD else bD) (tm.put i.dst (.tuple [])) s)
 | .tuple _=>gD P K r (if gy i.kind then s::bD else bD) (tm.put i.dst (.tuple [])) s
 |_=>False
def CL (one:Bool) (P:Program) (f:Nat) (args:List D) (s:St) (K:D→St→Prop):Prop:=
 match one with
 |true=>∃ d s',aG P f args s d s'∧K d s'
 |false=>bG P f args s K
def KL (P:Program) (K:Tm→St→Prop) (r:List (AI×Nat)) (bD:List St) (tm:Tm) (dst:Option Nat) (d:D) (s:St):Prop:=gD P K r bD (tm.put dst d) s
def n8 (i:AI) (tm:Tm) (d:D):List St→Prop
 | []=>True
 |s::r=>jL i tm s=some d∧n8 i tm d r
theorem D4 {i:AI} {tm:Tm} {d:D} : ∀ {l:List St},n8 i tm d l→∀ s∈l,jL i tm s=some d
 | [],_,s,h=>by cases h
 |a::l,h,s,hs=>by
  rcases List.mem_cons.1 hs with rfl|hs
  ·exact h.1
  ·exact D4 h.2 s hs
def PL (P:Program) (o:AO) (dst:Option Nat) (b:Nat) (r:List (AI×Nat)) (K:Tm→St→Prop) (bD:List St) (tm:Tm) (s:St):Prop:=
 match aI o tm s with
 |some (d,_)=>n8 (.op dst none o) tm d (bD.take b)∧gD P K r bD (tm.put dst d) s
 |none=>False
def ML (P:Program) (o:AO) (dst:Option Nat) (r:List (AI×Nat)) (K:Tm→St→Prop) (bD:List St) (tm:Tm) (s:St):Prop:=
 match aI o tm s with
 |some (d,s')=>gD P K r (s::bD) (tm.put dst d) s'
 |none=>False
def AO.core:AO→Bool
 | .alloc _=>true
 | .box _=>true
 | .uQ .. =>true
 | .Ak _=>true
 | .store .. =>true
 | .app .. =>true
 | .sK .. =>true
 | .Am .. =>true
 | .An .. =>true
 | .apps .. =>true
 | .uz=>true
 | .yu .. =>true
 | .Ao .. =>true
 |_=>false
theorem s5 (dst:Option Nat) (g:Option (Nat×Bool)) (o:AO):gy (AI.op dst g o).kind=o.core:=by
 cases dst<;>cases g<;>cases o<;>rfl
def OL (P:Program) (o:AO) (dst:Option Nat) (b:Nat) (r:List (AI×Nat)) (K:Tm→St→Prop) (bD:List St) (tm:Tm) (s:St):Prop:=
 match o.core with
 |true=>ML P o dst r K bD tm s
 |false=>PL P o dst b r K bD tm s
theorem Iy {K:Tm→St→Prop} {dst:Option Nat} {o:AO} {b:Nat} {r:List (AI×Nat)} {bD:List St} {tm:Tm} {s:St} (h:OL P o dst b r K bD tm s) :
 gD P K ((.op dst none o,b)::r) bD tm s:=by
 unfold OL at h
 simp only[gD,s5]
 cases hc:o.core with
 | true=>
  simp only[hc,ML]at h
  simp only[]
  split at h
  ·rename_i d s' he
   exact⟨d,s',by simpa[sv,guarded]using he,h⟩
  ·exact h.elim
 | false=>
  simp only[hc,PL]at h
  simp only[]
  split at h
  ·rename_i d s' he
   exact⟨d,by simp[jL,he],fun _=>D4 h.1,h.2⟩
  ·exact h.elim
theorem M5 {K:Tm→St→Prop} {dst:Option Nat} {f:Nat} {xs:List X} {b:Nat} {r:List (AI×Nat)} {bD:List St} {tm:Tm} {s:St} (h:CL true P f (xs.map (·.ev tm)) s (KL P K r (s::bD) tm dst)) :
 gD P K ((.call dst none f xs,b)::r) bD tm s:=by
 obtain⟨d,s',h1,h2⟩:=h
 exact⟨d,s',h1,h2⟩
theorem aay {K:Tm→St→Prop} {i:AI} {t:Nat} {w:Bool} {b:Nat} {r:List (AI×Nat)} {bD:List St} {tm:Tm} {s:St} {j:AI} (hf:(∃ d o,i = .op d none o∧j = .op d (some (t,w)) o)∨(∃ d f xs,i = .call d none f xs∧j = .call d (some (t,w)) f xs))
 (hg:tm.get t = .bool w) (h:gD P K ((i,b)::r) bD tm s):gD P K ((j,b)::r) bD tm s:=by
 rcases hf with ⟨d,o,rfl,rfl⟩|⟨d,f,xs,rfl,rfl⟩
 ·simp only [gD,s5]at h ⊢
  cases hc:o.core<;>simp only[hc]at h ⊢
  ·obtain⟨x,h1,h2,h3⟩:=h
   refine⟨x,by simpa[jL,hg]using h1,fun hk s' mQ=>?_,h3⟩
   have ud:(AI.op d none o).kind = .load:=by
    cases d<;>cases o<;>first|exact hk|(cases hc;done)|(cases hk;done)
   simpa[jL,hg]using h2 ud s' mQ
  ·obtain⟨x,s',h1,h2⟩:=h
   exact⟨x,s',by simpa[sv,guarded,hg]using h1,h2⟩
 ·obtain⟨x,s',h1,h2⟩:=h
  exact⟨x,s',by simpa[sv,guarded,hg]using h1,h2⟩
theorem Qm {K:Tm→St→Prop} {i:AI} {t:Nat} {w:Bool} {b:Nat} {r:List (AI×Nat)} {bD:List St} {tm:Tm} {s:St} {j:AI} (hf:(∃ d o,i = .op d none o∧j = .op d (some (t,w)) o)∨(∃ d f xs,i = .call d none f xs∧j = .call d (some (t,w)) f xs))
 (hg:tm.get t = .bool (!w)∨∃ l,tm.get t = .tuple l) (h:gD P K r (if gy i.kind then s::bD else bD) (tm.put i.dst (.tuple [])) s):gD P K ((j,b)::r) bD tm s:=by
 rcases hf with ⟨d,o,rfl,rfl⟩|⟨d,f,xs,rfl,rfl⟩
 ·simp only [gD,s5]at h ⊢
  cases hc:o.core<;>simp only[hc]at h ⊢
  ·refine⟨.tuple [], ?_,fun hk s' mQ=> ?_,h⟩
   ·rcases hg with hg|⟨l,hg⟩<;>simp[jL,hg]
   ·rcases hg with hg|⟨l,hg⟩<;>simp[jL,hg]
  ·refine⟨.tuple [],s, ?_,h⟩
   rcases hg with hg|⟨l,hg⟩<;>simp[sv,guarded,hg]
 ·refine⟨.tuple [],s, ?_,h⟩
  rcases hg with hg|⟨l,hg⟩<;>simp[sv,guarded,hg]
theorem Lk {K:Tm→St→Prop} {i j:AI} {t:Nat} {w:Bool} {b:Nat} {r:List (AI×Nat)} {bD:List St} {tm:Tm} {s:St} (hf:(∃ d o,i = .op d none o∧j = .op d (some (t,w)) o)∨(∃ d f xs,i = .call d none f xs∧j = .call d (some (t,w)) f xs))
 (h:GL P (tm.get t) w i b r K bD tm s):gD P K ((j,b)::r) bD tm s:=by
 unfold GL at h
 split at h
 ·rename_i v hv
  by_cases e:v=w
  ·exact aay hf (by rw[hv,e]) (h.1 e)
  ·exact Qm hf (.inl (by rw[hv];cases v<;>cases w<;>simp_all)) (h.2 (by cases v<;>cases w<;>simp_all))
 ·rename_i l hl
  exact Qm hf (.inr ⟨l,hl⟩) h
 ·exact h.elim
theorem Gg {K:Tm→St→Prop} {dst:Option Nat} {o:AO} {t:Nat} {w:Bool} {b:Nat} {r:List (AI×Nat)} {bD:List St} {tm:Tm} {s:St} (h:GL P (tm.get t) w (.op dst none o) b r K bD tm s) :
 gD P K ((.op dst (some (t,w)) o,b)::r) bD tm s:=Lk (.inl ⟨dst,o,rfl,rfl⟩) h
theorem Ks {K:Tm→St→Prop} {dst:Option Nat} {f:Nat} {xs:List X} {t:Nat} {w:Bool} {b:Nat} {r:List (AI×Nat)} {bD:List St} {tm:Tm} {s:St} (h:GL P (tm.get t) w (.call dst none f xs) b r K bD tm s) :
 gD P K ((.call dst (some (t,w)) f xs,b)::r) bD tm s:=Lk (.inr ⟨dst,f,xs,rfl,rfl⟩) h
theorem CL.use {one:Bool} {f:Nat} {args:List D} {s:St} {d:D} {s':St} {K:D→St→Prop} (h:aG P f args s d s') (hk:K d s'):CL one P f args s K:=
 match one with
 |true=>⟨d,s',h,hk⟩
 |false=>h.use hk
theorem CU {one:Bool} {f:Nat} {args:List D} {s:St} {d:D} {s':St} {K:D→St→Prop} (h:aG P f args s d s') (hk:K d s'):CL one P f args s K:=CL.use h hk
theorem CR {f:Nat} {args:List D} {s:St} {Q K:D→St→Prop} (h:bG P f args s Q) (hk : ∀ d s',Q d s'→K d s'):CL false P f args s K:=bG.mono h hk
end
end Go.Abs
namespace Go.Abs
theorem nd {α:Type} {a b:α} (h:a=b):a=b:=h
def GJ (g:D) (w:Bool) (A C:Prop):Prop:=
 match g with
 | .bool b=>(b=w→A)∧(b=(!w)→C)
 | .tuple _=>C
 |_=>False
class Two where
 a:Prop
 c:Prop
def CB (d:D) [b:Two] : Prop:=uC d b.a b.c
def GB (d:D) (w:Bool) [b:Two] : Prop:=GJ d w b.a b.c
def mT (g:Option (Nat×Bool)) (tm:Tm) (A C:Prop):Prop:=
 match g with
 |none=>A
 |some (t,w)=>GJ (tm.get t) w A C
def kh (P:Program):List AI→(Tm→St→Prop)→Tm→St→Prop
 | [],K,tm,s=>K tm s
 | .op dst g o::r,K,tm,s=>mT g tm (match aI o tm s with|some (d,s')=>kh P r K (tm.put dst d) s'|none=>False) (kh P r K (tm.put dst (.tuple [])) s)
 | .call dst g f xs::r,K,tm,s=>mT g tm (CL false P f (xs.map (·.ev tm)) s fun d s'=>kh P r K (tm.put dst d) s') (kh P r K (tm.put dst (.tuple [])) s)
 | .nil dst g neg x::r,K,tm,s=>
  mT g tm (match x.ev tm with
   | .slice _ _ rows=>∀ b:Bool,(rows≠ []→b=false)→kh P r K (tm.put dst (.bool (if neg then !b else b))) s
   |_=>False) (kh P r K (tm.put dst (.tuple [])) s)
 | .jj dst g t xs::r,K,tm,s=>
  mT g tm (match tm.get t with
   | .fV f nH=>enters P f=true∧CL false P f (xs.map (·.ev tm)++nH) s fun d s'=>kh P r K (tm.put dst d) s'
   |_=>False) (kh P r K (tm.put dst (.tuple [])) s)
theorem sB {g:Option (Nat×Bool)} {tm:Tm} {A C A' C':Prop} (h:mT g tm A C) (ha:A→A') (hc:C→C'):guarded g tm A' C':=by
 unfold mT at h
 unfold guarded
 cases g with
 |none=>exact ha h
 | some p=>
  obtain⟨t,w⟩:=p
  simp only[GJ]at h ⊢
  split at h
  ·rename_i hb;try simp only [hb]
   exact⟨fun e=>ha (h.1 e),fun e=>hc (h.2 e)⟩
  ·rename_i hb;try simp only [hb]
   exact hc h
  ·exact h.elim
theorem oh {P:Program} {K:Tm→St→Prop} : ∀ {is:List AI} {tm:Tm} {s:St},kh P is K tm s→iP P is K tm s
 | [],tm,s,h=>h
 | .op dst g o::r,tm,s,h=>by
  refine sB h (fun h=>?_) oh
  split at h
  ·rename_i he;try simp only [he]
   exact oh h
  ·exact h.elim
 | .call dst g f xs::r,tm,s,h=>sB h (fun h=>bG.mono h fun _ _ h=>oh h) oh
 | .nil dst g neg x::r,tm,s,h=>by
  refine sB h (fun h=>?_) oh
  split at h
  ·rename_i he;try simp only [he]
   exact fun b hb=>oh (h b hb)
  ·exact h.elim
 | .jj dst g t xs::r,tm,s,h=>by
  refine sB h (fun h=>?_) oh
  split at h
  ·rename_i he;try simp only [he]
   exact⟨h.1,bG.mono h.2 fun _ _ h=>oh h⟩
  ·exact h.elim
def ga (P:Program) (K:Tm→St→Prop):List (AI×Nat)→List St→Tm→St→Prop
 | [],_,tm,s=>K tm s
 |(.op dst g o,b)::r,bD,tm,s=>
  match o.core with
  |true=>mT g tm (match aI o tm s with|some (d,s')=>ga P K r (s::bD) (tm.put dst d) s'|none=>False) (ga P K r (s::bD) (tm.put dst (.tuple [])) s)
  |false=>mT g tm (match aI o tm s with|some (d,_)=>n8 (.op dst none o) tm d (bD.take b)∧ga P K r bD (tm.put dst d) s|none=>False) (ga P K r bD (tm.put dst (.tuple [])) s)
 |(.call dst g f xs,_)::r,bD,tm,s=>mT g tm (CL true P f (xs.map (·.ev tm)) s fun d s'=>ga P K r (s::bD) (tm.put dst d) s') (ga P K r (s::bD) (tm.put dst (.tuple [])) s)
 |(.nil ..,_)::_,_,_,_=>False
 |(.jj ..,_)::_,_,_,_=>False
theorem A0 {P:Program} {t:Nat} {w:Bool} {tm:Tm} {i:AI} {b:Nat} {r:List (AI×Nat)} {K:Tm→St→Prop} {bD:List St} {s:St} {A C:Prop} (h:mT (some (t,w)) tm A C) (ha:A→gD P K ((i,b)::r) bD tm s)
 (hc:C→gD P K r (if gy i.kind then s::bD else bD) (tm.put i.dst (.tuple [])) s):GL P (tm.get t) w i b r K bD tm s:=by
 simp only[mT,GJ]at h
 unfold GL
 split at h
 ·rename_i hb;try simp only [hb]
  exact⟨fun e=>ha (h.1 e),fun e=>hc (h.2 e)⟩
 ·rename_i hb;try simp only [hb]
  exact hc h
 ·exact h.elim
theorem ml {P:Program} {K:Tm→St→Prop} : ∀ {l:List (AI×Nat)} {bD:List St} {tm:Tm} {s:St},ga P K l bD tm s→gD P K l bD tm s
 | [],bD,tm,s,h=>h
 | (.op dst g o,b)::r,bD,tm,s,h=>by
  simp only[ga]at h
  cases hc:o.core with
  | true=>
   simp only[hc]at h
   have ha:(match aI o tm s with|some (d,s')=>ga P K r (s::bD) (tm.put dst d) s'|none=>False)→gD P K ((.op dst none o,b)::r) bD tm s:=by
    intro h
    refine Iy ?_
    simp only[OL,hc,ML]
    split at h
    ·rename_i he;try simp only [he]
     exact ml h
    ·exact h.elim
   cases g with
   |none=>exact ha h
   |some p=>
    obtain⟨t,w⟩:=p
    refine Gg (A0 h ha fun h=>?_)
    simp only[s5,hc,if_true]
    exact ml h
  | false=>
   simp only[hc]at h
   have ha:(match aI o tm s with|some (d,_)=>n8 (.op dst none o) tm d (bD.take b)∧ga P K r bD (tm.put dst d) s|none=>False)→gD P K ((.op dst none o,b)::r) bD tm s:=by
    intro h
    refine Iy ?_
    simp only[OL,hc,PL]
    split at h
    ·rename_i he;try simp only [he]
     exact⟨h.1,ml h.2⟩
    ·exact h.elim
   cases g with
   |none=>exact ha h
   |some p=>
    obtain⟨t,w⟩:=p
    refine Gg (A0 h ha fun h=>?_)
    simp only[s5,hc]
    exact ml h
 | (.call dst g f xs,b)::r,bD,tm,s,h=>by
  simp only[ga]at h
  have ha:(CL true P f (xs.map (·.ev tm)) s fun d s'=>ga P K r (s::bD) (tm.put dst d) s')→gD P K ((.call dst none f xs,b)::r) bD tm s:=
   fun⟨d,s',h1,h2⟩=>M5 ⟨d,s',h1,ml h2⟩
  cases g with
  |none=>exact ha h
  |some p=>
   obtain⟨t,w⟩:=p
   exact Ks (A0 h ha fun h=>ml h)
 |(.nil ..,_)::_,bD,tm,s,h=>h.elim
 |(.jj ..,_)::_,bD,tm,s,h=>h.elim
section
variable {P:Program} {B:fP} {nt:Nat}
def jW (P:Program) (B:fP) (nt:Nat):AC→(Exit→Tm→St→Prop)→Tm→St→Prop
 | .skip,Q,tm,s=>Q .normal tm s
 | .run is,Q,tm,s=>kh P is (Q .normal) tm s
 | .par is lH,Q,tm,s=>match mS is lH with|some l=>ga P (Q .normal) l [] tm s|none=>False
 | .seq a b,Q,tm,s=>jW P B nt a (nL (jW P B nt b Q) Q) tm s
 | .cond x a b,Q,tm,s=>uC (x.ev tm) (jW P B nt a Q tm s) (jW P B nt b Q tm s)
 | .block id a,Q,tm,s=>jW P B nt a (ku id Q) tm s
 | .loop a,Q,tm,s=>br P B nt a Q tm s
 | .exit id,Q,tm,s=>Q (.exit id) tm s
 | .scope a,Q,tm,s=>lr P B nt a a Q tm s
 | .label _,Q,tm,s=>Q .normal tm s
 | .goto l,Q,tm,s=>Q (.goto l) tm s
 | .ret,Q,tm,s=>Q .ret tm s
theorem iA : ∀ {ac:AC} {Q:Exit→Tm→St→Prop} {tm:Tm} {s:St},jW P B nt ac Q tm s→Sem P B nt ac Q tm s:=by
 intro ac
 induction ac with
 |skip=>exact fun h=>Sem.skip h
 |run is=>exact fun h=>Sem.run (oh h)
 |par is lH=>
  intro Q tm s h
  simp only[jW]at h
  split at h
  ·exact Sem.aiT ‹_› (ml h)
  ·exact h.elim
 |seq a b P4 P5=>
  intro Q tm s h
  refine Sem.seq ((P4 h).mono fun e tm s hq=>?_)
  cases e with
  |normal=>exact P5 hq
  |_=>exact hq
 |cond x a b P4 P5=>
  intro Q tm s h
  refine Sem.aez ?_
  simp only[jW]at h
  unfold uC at h ⊢
  split at h
  ·exact⟨fun e=>P4 (h.1 e),fun e=>P5 (h.2 e)⟩
  ·exact h.elim
 |block id a ih=>exact fun h=>Sem.block (ih h)
 |loop a ih=>exact fun h=>Sem.loop h
 |exit id=>exact fun h=>Sem.exit h
 |scope a ih=>exact fun h=>Sem.scope h
 |label l=>exact fun h=>Sem.label h
 |goto l=>exact fun h=>Sem.goto h
 |ret=>exact fun h=>Sem.ret h
section
variable (Q:Exit→Tm→St→Prop) (N:Tm→St→Prop) (tm:Tm) (s:St) (a b:AC) (is:List AI) (x:X)
theorem S9:jW P B nt .skip Q tm s=Q .normal tm s:=nd rfl
theorem XQ:jW P B nt (.run is) Q tm s=kh P is (Q .normal) tm s:=nd rfl
theorem XR (lH:List (Nat×Nat)):jW P B nt (.par is lH) Q tm s=match mS is lH with|some l=>ga P (Q .normal) l [] tm s|none=>False:=nd rfl
theorem XS:jW P B nt (.seq a b) Q tm s=jW P B nt a (nL (jW P B nt b Q) Q) tm s:=nd rfl
theorem Ta:jW P B nt (.cond x a b) Q tm s = @CB (x.ev tm) ⟨jW P B nt a Q tm s,jW P B nt b Q tm s⟩:=nd rfl
theorem Qn (id:Nat):jW P B nt (.block id a) Q tm s=jW P B nt a (ku id Q) tm s:=nd rfl
theorem Tb:jW P B nt (.loop a) Q tm s=br P B nt a Q tm s:=nd rfl
theorem Qo:jW P B nt (.scope a) Q tm s=lr P B nt a a Q tm s:=nd rfl
theorem Tc (id:Nat):jW P B nt (.exit id) Q tm s=Q (.exit id) tm s:=nd rfl
theorem Qp (id:Nat):jW P B nt (.label id) Q tm s=Q .normal tm s:=nd rfl
theorem Td (id:Nat):jW P B nt (.goto id) Q tm s=Q (.goto id) tm s:=nd rfl
theorem XT:jW P B nt .ret Q tm s=Q .ret tm s:=nd rfl
theorem XU:nL N Q .normal tm s=N tm s:=nd rfl
theorem XV:nL N Q .ret tm s=Q .ret tm s:=nd rfl
theorem XW (id:Nat):nL N Q (.exit id) tm s=Q (.exit id) tm s:=nd rfl
theorem XX (id:Nat):nL N Q (.goto id) tm s=Q (.goto id) tm s:=nd rfl
theorem Te (id:Nat):ku id Q .normal tm s=Q .normal tm s:=nd rfl
theorem Tf (id:Nat):ku id Q .ret tm s=Q .ret tm s:=nd rfl
theorem Tg (id l:Nat):ku id Q (.goto l) tm s=Q (.goto l) tm s:=nd rfl
theorem Ti (id i:Nat):ku id Q (.exit i) tm s=if i=id then Q .normal tm s else Q (.exit i) tm s:=nd rfl
end
theorem br.kH {a:AC} {Q:Exit→Tm→St→Prop} {tm:Tm} {s:St} (h:jW P B nt a (nL (br P B nt a Q) Q) tm s):br P B nt a Q tm s:=br.once (iA h)
theorem lr.kH {a r:AC} {Q:Exit→Tm→St→Prop} {tm:Tm} {s:St} (h:jW P B nt r (yJ P B nt a Q) tm s):lr P B nt a r Q tm s:=lr.once (iA h)
def we (tm:Tm) (n m:Nat):Tm→Prop
 | []=>True
 |(k,d)::r=>Wk ((tm.get k).fg n m) d∧we tm n m r
theorem we.get {tm:Tm} {n m:Nat} : ∀ {bn:Tm},we tm n m bn→∀ t,Wk ((tm.get t).fg n m) (bn.get t)
 | [],_,t=>Wk.junk _
 |(k,d)::r,h,t=>by
  simp only[Tm.get]
  split
  ·rename_i hk;subst hk;exact h.1
  ·exact we.get h.2 t
theorem Holds.re {Q:Exit→Tm→St→Prop} {tm bn:Tm} {s:St} {gb:List (List D)} {act:Act} {w:World} (n m:Nat) (hn:B.s.ah.length≤n) (hm:B.s.au.length≤m) (ht:we tm n m bn) (ho:gn (s.cut n m).ah gb)
 (h:Holds B nt tm s act w):Holds B nt bn ⟨gb,(s.cut n m).au⟩ act w:=by
 obtain⟨M,e,r,hr,h1,h2⟩:=h
 obtain⟨r',le⟩:=(r.cut n m).pK ho
 have e':=e.cut hn hm
 refine⟨M,e'.trans ⟨le,fun _ _ _ _=>rfl,fun o h1 h2=>?_,fun t b c z hl e=> .inl ⟨hl,c,z,e⟩,fun _ _ h=>(h rfl).elim,Nat.le_refl _,rfl,rfl,rfl⟩,r',fun k=>((ht.get k) _ _ _ ((hr k).fg n m)).mono le,h1,h2⟩
 rw[← ho.len]at h2
 exact h1.elim (fun h1=>absurd h2 (Nat.not_lt.2 h1)) fun h1=>(h1 rfl).elim
theorem br.re {a:AC} {Q:Exit→Tm→St→Prop} {tm:Tm} {s:St} (bn:Tm) (gb:List (List D)) (n m:Nat) (hn:B.s.ah.length≤n) (hm:B.s.au.length≤m) (ht:we tm n m bn) (ho:gn (s.cut n m).ah gb)
 (h:br P B nt a Q bn ⟨gb,(s.cut n m).au⟩):br P B nt a Q tm s:=
 fun c hc act w hh=>h c hc act w (hh.re (Q:=Q) n m hn hm ht ho)
theorem br.ind {ι:Type} {a:AC} {Q:Exit→Tm→St→Prop} (I:ι→Prop) (μ:ι→Nat) (TM:ι→Tm) (ST:ι→St)
 (step : ∀ i,I i→(∀ j,I j→μ j<μ i→br P B nt a Q (TM j) (ST j))→jW P B nt a (nL (br P B nt a Q) Q) (TM i) (ST i)) : ∀ i,I i→br P B nt a Q (TM i) (ST i):=by
 have key : ∀ n i,μ i<n→I i→br P B nt a Q (TM i) (ST i):=by
  intro n
  induction n with
  |zero=>intro i h;exact absurd h (Nat.not_lt_zero _)
  |succ n ih=>exact fun i h hi=>br.kH (step i hi fun j hj hD=>ih j (by omega) hj)
 exact fun i hi=>key (μ i+1) i (Nat.lt_succ_self _) hi
theorem drop_cons {α:Type} {l rest:List α} {k:Nat} {x:α} (h:l.drop k=x::rest):l[k]? = some x∧l.drop (k+1)=rest∧decide ((k:Int)<(l.length:Int))=true∧k<l.length:=by
 have h1:l[k]? = some x:=by
  have:(l.drop k)[0]? = some x:=by rw[h];rfl
  simpa using this
 have h2:=(List.getElem?_eq_some_iff.1 h1).1
 refine⟨h1, ?_,by simpa using h2,h2⟩
 have:l.drop (k+1)=(l.drop k).drop 1:=by rw[List.drop_drop]
 rw[this,h];rfl
theorem drop_nil {α:Type} {l:List α} {k:Nat} (h:l.drop k = []):decide ((k:Int)<(l.length:Int))=false:=by
 have:=List.drop_eq_nil_iff.1 h
 simp;omega
theorem br.w6 {a:AC} {Q:Exit→Tm→St→Prop} {tm:Tm} {s:St} (t z':Nat) {z:Nat} (hw:tm.get t = .slice .full z [])
 (h:br P B nt a Q (tm.set t (.slice (.tok s.au.length) z' [])) {s with au:=s.au++ [some 0]}):br P B nt a Q tm s:=by
 intro c hc act w ⟨M,e,r,ht,h1,h2⟩
 obtain⟨r',le⟩:=r.blank
 refine h c hc act w ⟨_,Gc e le,r',fun k=>?_,h1,h2⟩
 rw[Tm.E6]
 split
 ·rename_i hk;subst hk;have:=ht k;rw[hw]at this;exact this.own
 ·exact(ht k).mono le
theorem br.C8 {a:AC} {Q:Exit→Tm→St→Prop} {tm:Tm} {s:St} (o i z':Nat) {z:Nat} {cs:List D} (hc:s.ah[o]? = some cs) (hi:cs[i]? = some (.slice .full z []))
 (h:br P B nt a Q tm ⟨s.ah.set o (cs.set i (.slice (.tok s.au.length) z' [])),s.au++ [some 0]⟩):br P B nt a Q tm s:=by
 intro c Z9 act w hh
 obtain⟨M,e,r,ht,h1,h2⟩:=hh
 obtain⟨r',le⟩:=r.blank
 have le':Le M s (M.eK s.au.length none) ⟨s.ah.set o (cs.set i (.slice (.tok s.au.length) z' [])),s.au++ [some 0]⟩:=⟨le.G,by simp,le.loc,le.t,le.tk⟩
 have le2:Le (M.eK s.au.length none) {s with au:=s.au++ [some 0]} (M.eK s.au.length none) ⟨s.ah.set o (cs.set i (.slice (.tok s.au.length) z' [])),s.au++ [some 0]⟩:=
  ⟨fun _ _ _ h=>h,by simp,fun _ _=> .refl _,Nat.le_refl _,fun t n' _ e=>⟨n',e,Nat.le_refl _,fun _=>rfl⟩⟩
 have r2:Rel (M.eK s.au.length none) ⟨s.ah.set o (cs.set i (.slice (.tok s.au.length) z' [])),s.au++ [some 0]⟩ w:=by
  refine⟨r'.comm,fun o' ds e=>?_,fun o ho=>r'.jD o (by simpa using ho),fun o o' ho nB=>r'.inj o o' (by simpa using ho) (by simpa using nB),r'.tok,
   fun t b c z o hv e ho=>r'.fa t b c z o hv e (by simpa using ho),r'.fM⟩
  simp only[List.getElem?_set]at e
  split at e
  ·rename_i ho
   subst ho
   split at e
   ·cases e
    obtain⟨vs,T,g1,g2,g3,g4⟩:=r.obj o cs hc
    refine⟨vs,T,g1,by simpa using g2,g3,fun j d v e1 e2=>?_⟩
    rw[List.getElem?_set]at e1
    split at e1
    ·rename_i hj
     subst hj
     split at e1
     ·cases e1
      exact((g4 i _ v hi e2).own (z':=z')).mono le2
     ·cases e1
    ·exact(g4 j d v e1 e2).mono le'
   ·cases e
  ·obtain⟨vs,T,g1,g2,g3,g4⟩:=r'.obj o' ds e
   exact⟨vs,T,g1,g2,g3,fun i d v e1 e2=>(g4 i d v e1 e2).mono le2⟩
 have ee:Ext B.M B.s B.w (M.eK s.au.length none) ⟨s.ah.set o (cs.set i (.slice (.tok s.au.length) z' [])),s.au++ [some 0]⟩ w:=by
  refine(Gc e le).trans ⟨le2,fun _ _ _ _=>rfl,fun o h1 h2=>?_,fun t b c z hl e=> .inl ⟨hl,c,z,e⟩,fun _ _ h=>(h rfl).elim,Nat.le_refl _,rfl,rfl,rfl⟩
  simp at h2
  exact h1.elim (fun h1=>absurd h2 (Nat.not_lt.2 h1)) fun h1=>(h1 rfl).elim
 exact h c Z9 act w ⟨_,ee,r2,fun k=>(ht k).mono le',h1,h2⟩
theorem C9 {ac r:AC} {l:Nat} {Q:Exit→Tm→St→Prop} {tm:Tm} {s:St} (hf:uB ac l=some r) (h:lr P B nt ac r Q tm s):yJ P B nt ac Q (.goto l) tm s:=⟨r,hf,h⟩
theorem Sem.mU {a b:AC} {Q:Exit→Tm→St→Prop} {tm:Tm} {s:St} (h:jW P B nt a (nL (Sem P B nt b Q) Q) tm s):Sem P B nt (.seq a b) Q tm s:=Sem.seq (iA h)
theorem Sem.re {a:AC} {Q:Exit→Tm→St→Prop} {tm:Tm} {s:St} (bn:Tm) (gb:List (List D)) (n m:Nat) (hn:B.s.ah.length≤n) (hm:B.s.au.length≤m) (ht:we tm n m bn) (ho:gn (s.cut n m).ah gb)
 (h:Sem P B nt a Q bn ⟨gb,(s.cut n m).au⟩):Sem P B nt a Q tm s:=
 fun c hc act w hh=>h c hc act w (hh.re (Q:=Q) n m hn hm ht ho)
def Has (P:Program) (f nt:Nat) (res:List (Nat×Option (Bool×Nat))) (body:AC):Prop:=∃ fn,P.funcs[f]? = some fn∧cF P fn=some ⟨nt,res,body⟩
theorem aG.go {f:FuncId} {res:List (Nat×Option (Bool×Nat))} {body:AC} {args:List D} {s:St} {d:D} {s':St} (h0:Has P f nt res body) (hl:Nat.ble args.length nt=true)
 (h : ∀ (B:fP) (Q:Exit→Tm→St→Prop),B.s=s→pL s.ah.length s.au.length res d s'=Q→jW P B nt body Q (mI 0 args) s):aG P f args s d s':=by
 obtain⟨fn,hf,hc⟩:=h0
 exact aG.intro ⟨fn,hf,hc⟩ (Nat.le_of_ble_eq_true hl) fun B hB=>iA (h B _ hB rfl)
theorem aG.aiW {f:FuncId} {pre post:List D} {rows oD:List (List D)} {z z' k k':Nat} (h:aG P f (pre++ .slice (.tok 0) z rows::post) ⟨[],[some k]⟩ (.slice (.tok 0) z' oD) ⟨[],[some k']⟩)
 (hp:D.bL 0 0 pre=true) (ha:D.bL 0 0 post=true) (hw:D.gU 0 0 rows=true) (hw':D.gU 0 0 oD=true)
 {s:St} {t:Nat} (ht:s.au[t]? = some (some k)):aG P f (pre++ .slice (.tok t) z rows::post) s (.slice (.tok t) z' oD) ⟨s.ah,s.au.set t (some k')⟩:=by
 refine bG.frame [] [t] h (by simp) (by simp) (by simp) (by simpa using (List.getElem?_eq_some_iff.1 ht).1) rfl (fun i o' ds e1 e2=>by simp at e1) rfl (fun i t' e1=>?_)
  ?_ ?_ ?_
 ·cases i with
  |zero=>simp at e1;subst e1;simp[ht]
  |succ i=>simp at e1
 ·have h1:=fv [] [t] _ hp
  have h2:=fv [] [t] _ ha
  rw[fJ]at h1 h2
  simp[fJ,D.cJ,Tag.cJ,h1,h2,jc _ _ _ hw]
 ·have h1:=ij (n':=0) (m':=1) (Nat.le_refl 0) (Nat.zero_le 1) _ hp
  have h2:=ij (n':=0) (m':=1) (Nat.le_refl 0) (Nat.zero_le 1) _ ha
  rw[xM]at h1 h2 ⊢
  simp only[List.length_nil,List.length_cons,List.all_append,h1,Bool.true_and,List.all_cons,h2,Bool.and_true,D.ok,Tag.ok,mh (Nat.zero_le 0) (Nat.zero_le 1) _ hw]
  rfl
 ·rintro _ _ ⟨rfl,rfl⟩
  refine⟨by simp[D.back,D.cJ,Tag.cJ,kp,jc _ _ _ hw'], ?_⟩
  simp[St.back,kv]
theorem aiX (A C:Prop) : @CB (.bool true) ⟨A,C⟩=A:=by simp[CB,uC]
theorem aiY (A C:Prop) : @CB (.bool false) ⟨A,C⟩=C:=by simp[CB,uC]
theorem aaC (b:Bool) (A C:Prop) : @CB (.bool (!b)) ⟨A,C⟩ = @CB (.bool b) ⟨C,A⟩:=by
 cases b<;>simp[CB,uC]
theorem Iz {b:Bool} {A C:Prop} (h1:b=true→A) (h2:b=false→C) : @CB (.bool b) ⟨A,C⟩:=⟨h1,h2⟩
theorem aaD {b:Bool} {A C:Prop} (h:b=true) (h1:b=true→A) : @CB (.bool b) ⟨A,C⟩:=Iz h1 (fun h'=>by rw[h]at h';cases h')
theorem aaE {b:Bool} {A C:Prop} (h:b=false) (h1:b=false→C) : @CB (.bool b) ⟨A,C⟩:=Iz (fun h'=>by rw[h]at h';cases h') h1
theorem aeC {n m:Nat} {res:List (Nat×Option (Bool×Nat))} {d:D} {s':St} {tm:Tm} {s:St} {Q:Exit→Tm→St→Prop} (hQ:pL n m res d s'=Q)
 (h : ∃ l,aV res tm s=some l∧Wk ((aY l).fg n m) d∧gn (s.cut n m).ah s'.ah∧(s.cut n m).au=s'.au):Q .ret tm s:=hQ ▸ h
theorem aeD {n m:Nat} {res:List (Nat×Option (Bool×Nat))} {d:D} {s':St} {tm:Tm} {s:St} {Q:Exit→Tm→St→Prop} (hQ:pL n m res d s'=Q)
 (h : ∃ l,aV res tm s=some l∧Wk ((aY l).fg n m) d∧gn (s.cut n m).ah s'.ah∧(s.cut n m).au=s'.au):Q .normal tm s:=hQ ▸ h
end
attribute [go_sem] S9 XQ XR XS Ta Qn Tb Qo Tc Qp Td XT XU XV XW XX Te Tf Tg Ti
theorem Qq : ∀ (tm:Tm) (s:St) (x:X),aI (AO.mv x) tm s=some (X.ev tm x,s):=
 fun tm s x=>nd (aI.eq_1 tm s x)
theorem Qr : ∀ (tm:Tm) (s:St) (c a b:X),
 aI (AO.pick c a b) tm s =
  match X.ev tm c with
  |D.bool t=>some (if t=true then X.ev tm a else X.ev tm b,s)
  |x=>none:=
 fun tm s c a b=>nd (aI.eq_2 tm s c a b)
theorem Qs : ∀ (tm:Tm) (s:St) (zero:List D),
 aI (AO.alloc zero) tm s=some (D.ptr s.ah.length 0,{ah:=s.ah++ [zero],au:=s.au}):=
 fun tm s zero=>nd (aI.eq_3 tm s zero)
theorem Qt : ∀ (tm:Tm) (s:St) (x:X),
 aI (AO.box x) tm s =
  match (X.ev tm x).row with
  |some r=>some (D.ptr s.ah.length 0,{ah:=s.ah++ [r],au:=s.au})
  |none=>none:=
 fun tm s x=>nd (aI.eq_4 tm s x)
theorem Qu : ∀ (tm:Tm) (s:St) (zero:List D) (parts:List (Nat×Nat×X)),
 aI (AO.build zero parts) tm s =
  match qC zero (List.map (fun(p:Nat×Nat×X)=>(p.fst,p.snd.fst,X.ev tm p.snd.snd)) parts)with
  |some cs=>some (D.agg cs,s)
  |none=>none:=
 fun tm s zero parts=>nd (aI.eq_5 tm s zero parts)
theorem Qv : ∀ (tm:Tm) (s:St) (zero:List D) (size n:Nat) (parts:List (Nat×X)),
 aI (AO.dv zero size n parts) tm s =
  match jQ size (fN zero n) (List.map (fun(p:Nat×X)=>(p.fst,X.ev tm p.snd)) parts)with
  |some rows=>some (D.slice Tag.full size rows,s)
  |none=>none:=
 fun tm s zero size n parts=>nd (aI.eq_6 tm s zero size n parts)
theorem Qw : ∀ (tm:Tm) (s:St) (zero:List D) (size n:Nat) (parts:List (Nat×X)),
 aI (AO.uQ zero size n parts) tm s =
  match jQ size (fN zero n) (List.map (fun(p:Nat×X)=>(p.fst,X.ev tm p.snd)) parts)with
  |some rows=>
   some (D.slice (Tag.tok s.au.length) size rows,{ah:=s.ah,au:=s.au++ [some rows.length]})
  |none=>none:=
 fun tm s zero size n parts=>nd (aI.eq_7 tm s zero size n parts)
theorem Qx : ∀ (tm:Tm) (s:St) (x:X),
 aI (AO.Ak x) tm s =
  match X.ev tm x with
  | D.slice (Tag.tok t _) z rows=>
   if rows≠ []∧s.au[t]? = some (some rows.length)then
    some (D.slice Tag.shared z rows,{ah:=s.ah,au:=s.au.set t none})
   else none
  |x=>none:=
 fun tm s x=>nd (aI.eq_8 tm s x)
theorem Qy : ∀ (tm:Tm) (s:St) (x:X) (agg:Bool) (size:Nat),
 aI (AO.load x agg size) tm s =
  match X.ev tm x with
  | D.ptr o off=>
   match s.ah[o]? with
   |some cs=>
    match part cs off agg size with
    |some d=>some (d,s)
    |none=>none
   |none=>none
  |D.dt row off=>
   match part row off agg size with
   |some d=>some (d,s)
   |none=>none
  |x=>yw x agg size s:=
 fun tm s x agg size=>nd (aI.eq_9 tm s x agg size)
theorem M6 : ∀ (tm:Tm) (s:St) (p x:X) (size:Nat),
 aI (AO.store p x size) tm s =
  match X.ev tm p,(X.ev tm x).row with
  | D.ptr o off,some r=>
   match s.ah[o]? with
   | some cs=>
    if r.length=size∧off+size≤cs.length then
     some (D.tuple [],{ah:=s.ah.set o (ie cs off r),au:=s.au})
    else none
   |none=>none
  |x,fl=>As x fl size s:=
 fun tm s p x size=>nd (aI.eq_10 tm s p x size)
theorem M7 : ∀ (tm:Tm) (s:St) (x:X),
 aI (AO.bQ x) tm s =
  match X.ev tm x with
  |D.ptr o off=>some (D.ptr o off,s)
  |D.dt row off=>some (D.dt row off,s)
  |x=>match Ma x with|some d=>some (d,s)|none=>none:=
 fun tm s x=>nd (aI.eq_11 tm s x)
theorem M8 : ∀ (tm:Tm) (s:St) (op:BinOp) (x y:X),
 aI (AO.bin op x y) tm s =
  match wP op (X.ev tm x) (X.ev tm y)with
  |some d=>some (d,s)
  |none=>none:=
 fun tm s op x y=>nd (aI.eq_12 tm s op x y)
theorem M9 : ∀ (tm:Tm) (s:St) (neg:Bool) (x y:X),
 aI (AO.FY neg x y) tm s =
  match X.ev tm x,X.ev tm y with
  |D.bool a,D.bool b=>some (D.bool (if neg=true then !a==b else a==b),s)
  |x,fl=>none:=
 fun tm s neg x y=>nd (aI.eq_13 tm s neg x y)
theorem Na : ∀ (tm:Tm) (s:St) (neg:Bool) (ks:List Nat) (x y:X),
 aI (AO.eqs neg ks x y) tm s =
  match X.ev tm x,X.ev tm y with
  |D.agg a,D.agg b=>
   match k8 ks a b with
   |some e=>some (D.bool (if neg=true then !e else e),s)
   |none=>none
  |x,fl=>none:=
 fun tm s neg ks x y=>nd (aI.eq_14 tm s neg ks x y)
theorem Nb : ∀ (tm:Tm) (s:St) (neg:Bool) (x y:X),
 aI (AO.FZ neg x y) tm s =
  match X.ev tm x,X.ev tm y with
  |D.dO,D.dO=>some (D.bool !neg,s)
  |D.ptr o off,D.dO=>some (D.bool neg,s)
  |D.dt row off,D.dO=>some (D.bool neg,s)
  |x,fl=>none:=
 fun tm s neg x y=>nd (aI.eq_15 tm s neg x y)
theorem Nc : ∀ (tm:Tm) (s:St) (op:UnOp) (x:X),
 aI (AO.un op x) tm s =
  match HT op (X.ev tm x)with
  |some d=>some (d,s)
  |none=>none:=
 fun tm s op x=>nd (aI.eq_16 tm s op x)
theorem Nd : ∀ (tm:Tm) (s:St) (k:IntKind) (x:X),
 aI (AO.conv k x) tm s =
  match X.ev tm x with
  |D.int k_1 n=>some (D.int k (k.wrap n),s)
  |x=>none:=
 fun tm s k x=>nd (aI.eq_17 tm s k x)
theorem Nf : ∀ (tm:Tm) (s:St) (x:X),
 aI (AO.DI x) tm s =
  match X.ev tm x with
  |D.slice g size rows=>
   match og rows with
   |some b=>some (D.str b,s)
   |none=>none
  |x=>none:=
 fun tm s x=>nd (aI.eq_18 tm s x)
theorem Ng : ∀ (tm:Tm) (s:St) (x:X),
 aI (AO.xw x) tm s =
  match X.ev tm x with
  |D.str l=>some (D.slice Tag.shared 1 (List.map (fun(c:UInt8)=> [D.int IntKind.u8 ↑c.toNat]) l),s)
  |x=>none:=
 fun tm s x=>nd (aI.eq_19 tm s x)
theorem Nh : ∀ (tm:Tm) (s:St) (size:Nat) (x:X) (lo hi:Option X),
 aI (AO.DJ size x lo hi) tm s =
  match X.ev tm x with
  | D.slice g z rows=>
   match sL (Option.map (fun(x:X)=>X.ev tm x) lo),
    sM (Option.map (fun(x:X)=>X.ev tm x) hi) rows.length with
   | some l,some h=>
    if(rows = []∨z=size)∧0≤l∧l≤h∧h≤ ↑rows.length then
     some
      (D.slice (if l=0 then g.cut (decide (h = ↑rows.length))else Tag.shared) z
       (List.drop l.toNat (List.take h.toNat rows)),
       s)
    else none
   |x,fl=>none
  |x=>match wR x (Option.map (fun(x:X)=>X.ev tm x) lo) (Option.map (fun(x:X)=>X.ev tm x) hi)with|some d=>some (d,s)|none=>none:=
 fun tm s size x lo hi=>nd (aI.eq_20 tm s size x lo hi)
theorem Ni : ∀ (tm:Tm) (s:St) (x:X) (lo hi:Option X),
 aI (AO.HQ x lo hi) tm s =
  match X.ev tm x with
  | D.str t=>
   match sL (Option.map (fun(x:X)=>X.ev tm x) lo),sM (Option.map (fun(x:X)=>X.ev tm x) hi) t.length with
   |some l,some h=>
    if 0≤l∧l≤h∧h≤ ↑t.length then some (D.str (List.drop l.toNat (List.take h.toNat t)),s)else none
   |x,fl=>none
  |x=>none:=
 fun tm s x lo hi=>nd (aI.eq_21 tm s x lo hi)
theorem Nj : ∀ (tm:Tm) (s:St) (x:X) (off:Nat),
 aI (AO.aq x off) tm s =
  match X.ev tm x with
  |D.ptr o k=>some (D.ptr o (k+off),s)
  |D.dt row k=>some (D.dt row (k+off),s)
  |x=>match DM x off with|some d=>some (d,s)|none=>none:=
 fun tm s x off=>nd (aI.eq_22 tm s x off)
theorem Nk : ∀ (tm:Tm) (s:St) (x:X) (off:Nat) (agg:Bool) (size:Nat),
 aI (AO.Cp x off agg size) tm s =
  match X.ev tm x with
  |D.agg cs=>
   match part cs off agg size with
   |some d=>some (d,s)
   |none=>none
  |x=>none:=
 fun tm s x off agg size=>nd (aI.eq_23 tm s x off agg size)
theorem Nl : ∀ (tm:Tm) (s:St) (x i:X) (size:Nat),
 aI (AO.cy x i size) tm s =
  match X.ev tm x,X.ev tm i with
  | D.slice g z rows,D.int k n=>
   if 0≤n∧z=size then
    match rows[n.toNat]? with
    |some row=>some (D.dt row 0,s)
    |none=>none
   else none
  |x,fl=>match xy x fl size with|some d=>some (d,s)|none=>none:=
 fun tm s x i size=>nd (aI.eq_24 tm s x i size)
theorem Nn : ∀ (tm:Tm) (s:St) (x i:X),
 aI (AO.Al x i) tm s =
  match X.ev tm x,X.ev tm i with
  | D.str t,D.int k n=>
   if 0≤n then
    match t[n.toNat]? with
    |some c=>some (D.int IntKind.u8 ↑c.toNat,s)
    |none=>none
   else none
  |x,fl=>none:=
 fun tm s x i=>nd (aI.eq_25 tm s x i)
theorem No : ∀ (tm:Tm) (s:St) (x:X) (i:Nat),
 aI (AO.ext x i) tm s =
  match X.ev tm x with
  |D.tuple ds=>
   match ds[i]? with
   |some d=>some (d,s)
   |none=>none
  |x=>none:=
 fun tm s x i=>nd (aI.eq_26 tm s x i)
theorem Np : ∀ (tm:Tm) (s:St) (x:X),
 aI (AO.uR x) tm s =
  match X.ev tm x with
  |D.str t=>some (D.int IntKind.i64 ↑t.length,s)
  |x=>none:=
 fun tm s x=>nd (aI.eq_27 tm s x)
theorem Nq : ∀ (tm:Tm) (s:St) (x:X),
 aI (AO.len x) tm s =
  match X.ev tm x with
  |D.slice g size rows=>some (D.int IntKind.i64 ↑rows.length,s)
  |x=>match E0 x with|some d=>some (d,s)|none=>none:=
 fun tm s x=>nd (aI.eq_28 tm s x)
theorem Nr : ∀ (tm:Tm) (s:St) (size bytes:Nat) (x y:X),
 aI (AO.app size bytes x y) tm s =
  match X.ev tm x with
  |D.slice g z rows=>ig size bytes (D.slice g z rows) (X.ev tm y) s
  |d=>Au size bytes d (X.ev tm y) s:=
 fun tm s size bytes x y=>nd (aI.eq_29 tm s size bytes x y)
theorem Ns : ∀ (tm:Tm) (s:St) (isMax:Bool) (x y:X),
 aI (AO.mm isMax x y) tm s =
  match X.ev tm x,X.ev tm y with
  |D.int k a,D.int k' b=>
   if k=k' then some (D.int k (if isMax=true then if b > a then b else a else if b<a then b else a),s)
   else none
  |x,fl=>none:=
 fun tm s isMax x y=>nd (aI.eq_30 tm s isMax x y)
theorem Nt (tm:Tm) (s:St) (r:List D) (T:TypeId):aI (AO.sK (.dO::r) T) tm s=some (.ptr s.ah.length 0,{ah:=s.ah++ [.fh T s.ah.length::r],au:=s.au}):=nd rfl
theorem Nu (tm:Tm) (s:St) (x:X) (T:TypeId):aI (AO.Am x T) tm s =
 match (x.ev tm).row with
 |some (.dO::r)=>some (.ptr s.ah.length 0,{ah:=s.ah++ [.fh T s.ah.length::r],au:=s.au})
 |_=>none:=nd rfl
theorem Nv (tm:Tm) (s:St) (x y:X):aI (AO.apps x y) tm s =
 match y.ev tm with
 | .str l=>Aq (x.ev tm) (.slice .shared 1 (l.map fun c=> [.int .u8 c.toNat])) s
 |_=>none:=nd rfl
theorem Nw (tm:Tm) (s:St) (x y:X):aI (AO.An x y) tm s=Aq (x.ev tm) (y.ev tm) s:=nd rfl
theorem Nx (tm:Tm) (s:St) (f:Nat) (xs:List X):aI (AO.uy f xs) tm s=some (.fV f (xs.map fun x=>x.ev tm),s):=nd rfl
theorem Ny (tm:Tm) (s:St):aI AO.uz tm s=some (.fL s.ah.length,{ah:=s.ah++ [[]],au:=s.au}):=nd rfl
theorem Nz (tm:Tm) (s:St) (m k v:X):aI (AO.yu m k v) tm s =
 match m.ev tm,k.ev tm,v.ev tm with
 | .fL o, .str key, .slice g z rows=>
  match s.ah[o]? with
  |some cs=>match wQ key (.slice g z rows) cs with|some jB=>some (.tuple [],{ah:=s.ah.set o jB,au:=s.au})|none=>none
  |none=>none
 |_,_,_=>none:=nd rfl
theorem NA (tm:Tm) (s:St) (m k:X) (zero:D):aI (AO.vR m k zero) tm s =
 match m.ev tm,k.ev tm with
 | .fL o, .str key=>
  match s.ah[o]? with
  |some cs=>match yv key zero cs with|some d=>some (d,s)|none=>none
  |none=>none
 |_,_=>none:=nd rfl
theorem NB (tm:Tm) (s:St) (o:FO) (x y:X):aI (AO.nY o x y) tm s=match lI o (x.ev tm) (y.ev tm)with|some d=>some (d,s)|none=>none:=nd rfl
theorem NC (tm:Tm) (s:St) (size bytes:Nat) (zero:List D) (l c:X):aI (AO.Ao size bytes zero l c) tm s =
 match l.ev tm,c.ev tm with
 | .int .i64 n, .int .i64 m=>if n=m∧0≤n∧n*((bytes:Int)+1)≤bJ then some (.dZ size s.ah.length 0 n.toNat,{s with ah:=s.ah++ [.int .i64 ((0:Nat):Int)::(fN zero n.toNat).flatten]})else none
 |_,_=>none:=nd rfl
theorem IA (o:FO) (x y:X):(AO.nY o x y).core=false:=nd rfl
theorem IB (size bytes:Nat) (zero:List D) (l c:X):(AO.Ao size bytes zero l c).core=true:=nd rfl
theorem IC (f:Nat) (xs:List X):(AO.uy f xs).core=false:=nd rfl
theorem ID:AO.uz.core=true:=nd rfl
theorem IE (m k v:X):(AO.yu m k v).core=true:=nd rfl
theorem IF (m k:X) (zero:D):(AO.vR m k zero).core=false:=nd rfl
theorem Qz (n m f:Nat) (cs:List D):D.fg n m (.fV f cs) = .fV f (D.gh n m cs):=nd (by simp only[D.fg])
theorem QA (n m:Nat) (o:Nat):D.fg n m (.fL o)=if o<n then .fL o else .junk:=nd (by simp only[D.fg])
theorem ND (d:Option Nat) (g:Option (Nat×Bool)) (t:Nat) (xs:List X):(AI.jj d g t xs).dst=d:=nd rfl
theorem IG (x y:X):(AO.An x y).core=true:=nd rfl
theorem II (z:List D) (T:TypeId):(AO.sK z T).core=true:=nd rfl
theorem IJ (x:X) (T:TypeId):(AO.Am x T).core=true:=nd rfl
theorem IK (x y:X):(AO.apps x y).core=true:=nd rfl
theorem QB (n m:Nat) (v:Value):D.fg n m (.val v) = .val v:=nd (by simp only[D.fg])
theorem QC (n m:Nat) (T:TypeId) (o:Nat):D.fg n m (.fh T o)=if o<n then .fh T o else .junk:=nd (by simp only[D.fg])
theorem Tj : ∀ (tm:Tm) (t:Nat),X.ev tm (X.s t)=tm.get t:=
 fun tm t=>nd (X.ev.eq_1 tm t)
theorem Tk : ∀ (tm:Tm) (d:D),X.ev tm (X.k d)=d:=
 fun tm d=>nd (X.ev.eq_2 tm d)
theorem NF : ∀ (tm:Tm) (d:D) (t:Nat),tm.put (some t) d=tm.set t d:=
 fun tm d t=>nd (Tm.put.eq_1 tm d t)
theorem NG : ∀ (tm:Tm) (d:D),tm.put none d=tm:=
 fun tm d=>nd (Tm.put.eq_2 tm d)
theorem NH : ∀ (x:Nat) (fl:D),Tm.set [] x fl = [(x,fl)]:=
 fun x fl=>nd (Tm.set.eq_1 x fl)
theorem NK : ∀ (x:Nat) (fl:D) (k:Nat) (e:D) (r:List (Nat×D)),
 Tm.set ((k,e)::r) x fl=if k=x then(k,fl)::r else(k,e)::Tm.set r x fl:=
 fun x fl k e r=>nd (Tm.set.eq_2 x fl k e r)
theorem NL : ∀ (x:Nat),Tm.get [] x=D.junk:=
 fun x=>nd (Tm.get.eq_1 x)
theorem NM : ∀ (x k:Nat) (d:D) (r:List (Nat×D)),Tm.get ((k,d)::r) x=if k=x then d else Tm.get r x:=
 fun x k d r=>nd (Tm.get.eq_2 x k d r)
theorem QD : ∀ (x:Nat),mI x [] = []:=
 fun x=>nd (mI.eq_1 x)
theorem QE : ∀ (x:Nat) (d:D) (r:List D),mI x (d::r)=(x,d)::mI (x+1) r:=
 fun x d r=>nd (mI.eq_2 x d r)
theorem NN : ∀ (d:Option Nat) (g:Option (Nat×Bool)) (o:AO),(AI.op d g o).dst=d:=
 fun d g o=>nd (AI.dst.eq_1 d g o)
theorem NO : ∀ (d:Option Nat) (g:Option (Nat×Bool)) (f:Nat) (xs:List X),(AI.call d g f xs).dst=d:=
 fun d g f xs=>nd (AI.dst.eq_2 d g f xs)
theorem NP : ∀ (d:Option Nat) (g:Option (Nat×Bool)) (neg:Bool) (fl:X),(AI.nil d g neg fl).dst=d:=
 fun d g neg fl=>nd (AI.dst.eq_3 d g neg fl)
theorem Tl : ∀ (cs:List D) (off size:Nat),
 part cs off true size=if off+size≤cs.length then some (D.agg (List.take size (List.drop off cs)))else none:=
 fun cs off size=>nd (part.eq_1 cs off size)
theorem Tn : ∀ (cs:List D) (off size:Nat),part cs off false size=cs[off]? :=
 fun cs off size=>nd (part.eq_2 cs off size)
theorem NQ : ∀ (cs:List D) (off:Nat) (r:List D),
 ie cs off r=List.take off cs++r++List.drop (off+r.length) cs:=
 fun cs off r=>nd (ie.eq_1 cs off r)
theorem QF : ∀ (cells:List D),qC cells [] = some cells:=
 fun cells=>nd (qC.eq_1 cells)
theorem QG : ∀ (cells:List D) (off size:Nat) (d:D) (rest:List (Nat×Nat×D)),
 qC cells ((off,size,d)::rest) =
  match d.row with
  |none=>none
  |some r=>if r.length=size∧off+size≤cells.length then qC (ie cells off r) rest else none:=
 fun cells off size d rest=>nd (qC.eq_2 cells off size d rest)
theorem IL : ∀ (size:Nat) (rows:List (List D)),jQ size rows [] = some rows:=
 fun size rows=>nd (jQ.eq_1 size rows)
theorem IM : ∀ (size:Nat) (rows:List (List D)) (i:Nat) (d:D) (rest:List (Nat×D)),
 jQ size rows ((i,d)::rest) =
  match d.row with
  |none=>none
  |some r=>if r.length=size∧i<rows.length then jQ size (rows.set i r) rest else none:=
 fun size rows i d rest=>nd (jQ.eq_2 size rows i d rest)
theorem IN : ∀ (zero:List D),fN zero 0 = []:=
 fun zero=>nd (fN.eq_1 zero)
theorem IP : ∀ (zero:List D) (i:Nat),fN zero i.succ=zero::fN zero i:=
 fun zero i=>nd (fN.eq_2 zero i)
theorem To : ∀ (op:BinOp) (k:IntKind) (a:Int) (k':IntKind) (b:Int),
 wP op (D.int k a) (D.int k' b)=if k=k' then fW op k a b else none:=
 fun op k a k' b=>nd (wP.eq_1 op k a k' b)
theorem Tp : ∀ (op:BinOp) (a b:List UInt8),wP op (D.str a) (D.str b)=n6 op a b:=
 fun op a b=>nd (wP.eq_2 op a b)
theorem NR : ∀ (k:IntKind) (a b:Int),fW BinOp.add k a b=some (D.int k (k.wrap (a+b))):=
 fun k a b=>nd (fW.eq_1 k a b)
theorem NS : ∀ (k:IntKind) (a b:Int),fW BinOp.sub k a b=some (D.int k (k.wrap (a - b))):=
 fun k a b=>nd (fW.eq_2 k a b)
theorem NT : ∀ (k:IntKind) (a b:Int),fW BinOp.mul k a b=some (D.int k (k.wrap (a*b))):=
 fun k a b=>nd (fW.eq_3 k a b)
theorem NU : ∀ (k:IntKind) (a b:Int),
 fW BinOp.quo k a b=if b=0 then none else some (D.int k (k.wrap (a.tdiv b))):=
 fun k a b=>nd (fW.eq_4 k a b)
theorem NV : ∀ (k:IntKind) (a b:Int),fW BinOp.rem k a b=if b=0 then none else some (D.int k (a.tmod b)):=
 fun k a b=>nd (fW.eq_5 k a b)
theorem NW : ∀ (k:IntKind) (a b:Int),fW BinOp.eql k a b=some (D.bool (a==b)):=
 fun k a b=>nd (fW.eq_6 k a b)
theorem NY : ∀ (k:IntKind) (a b:Int),fW BinOp.neq k a b=some (D.bool (a != b)):=
 fun k a b=>nd (fW.eq_7 k a b)
theorem NZ : ∀ (k:IntKind) (a b:Int),fW BinOp.lss k a b=some (D.bool (decide (a<b))):=
 fun k a b=>nd (fW.eq_8 k a b)
theorem N0 : ∀ (k:IntKind) (a b:Int),fW BinOp.leq k a b=some (D.bool (decide (a≤b))):=
 fun k a b=>nd (fW.eq_9 k a b)
theorem Ku : ∀ (k:IntKind) (a b:Int),fW BinOp.gtr k a b=some (D.bool (decide (a > b))):=
 fun k a b=>nd (fW.eq_10 k a b)
theorem Kv : ∀ (k:IntKind) (a b:Int),fW BinOp.geq k a b=some (D.bool (decide (a≥b))):=
 fun k a b=>nd (fW.eq_11 k a b)
theorem N1 : ∀ (a b:List UInt8),
 n6 BinOp.add a b=if a.length+b.length≤bJ then some (D.str (a++b))else none:=
 fun a b=>nd (n6.eq_1 a b)
theorem N2 : ∀ (a b:List UInt8),n6 BinOp.eql a b=some (D.bool (a==b)):=
 fun a b=>nd (n6.eq_2 a b)
theorem N3 : ∀ (a b:List UInt8),n6 BinOp.neq a b=some (D.bool !a==b):=
 fun a b=>nd (n6.eq_3 a b)
theorem N4 : ∀ (a b:List UInt8),n6 BinOp.lss a b=some (D.bool (bytesLess a b)):=
 fun a b=>nd (n6.eq_4 a b)
theorem XY : ∀ (k:IntKind) (n:Int),HT UnOp.neg (D.int k n)=some (D.int k (k.wrap (0 - n))):=
 fun k n=>nd (HT.eq_1 k n)
theorem XZ : ∀ (b:Bool),HT UnOp.not (D.bool b)=some (D.bool !b):=
 fun b=>nd (HT.eq_2 b)
theorem N5 : ∀ (k:IntKind) (a:Int) (k':IntKind) (b:Int),
 mM 0 (D.int k a) (D.int k' b)=if k=k' then some (a==b)else none:=
 fun k a k' b=>nd (mM.eq_1 k a k' b)
theorem N6 : ∀ (a b:Bool),mM 1 (D.bool a) (D.bool b)=some (a==b):=
 fun a b=>nd (mM.eq_2 a b)
theorem N7 : ∀ (a b:List UInt8),mM 2 (D.str a) (D.str b)=some (a==b):=
 fun a b=>nd (mM.eq_3 a b)
theorem Kw:k8 [] [] [] = some true:=
 nd (k8.eq_1)
theorem Kx : ∀ (k:Nat) (ks:List Nat) (V1:D) (xs:List D) (y:D) (ys:List D),
 k8 (k::ks) (V1::xs) (y::ys) =
  match mM k V1 y with
  |none=>none
  |some true=>k8 ks xs ys
  |some false=>some false:=
 fun k ks V1 xs y ys=>nd (k8.eq_2 k ks V1 xs y ys)
theorem X0:sL none=some 0:=
 nd (sL.eq_1)
theorem X1 : ∀ (k:IntKind) (n:Int),sL (some (D.int k n))=some n:=
 fun k n=>nd (sL.eq_2 k n)
theorem X2 : ∀ (len:Nat),sM none len=some ↑len:=
 fun len=>nd (sM.eq_1 len)
theorem X3 : ∀ (len:Nat) (k:IntKind) (n:Int),sM (some (D.int k n)) len=some n:=
 fun len k n=>nd (sM.eq_2 len k n)
theorem Ky : ∀ (zero:List D),(AO.alloc zero).core=true:=
 fun zero=>nd (AO.core.eq_1 zero)
theorem Kz : ∀ (fl:X),(AO.box fl).core=true:=
 fun fl=>nd (AO.core.eq_2 fl)
theorem KA : ∀ (zero:List D) (size n:Nat) (parts:List (Nat×X)),(AO.uQ zero size n parts).core=true:=
 fun zero size n parts=>nd (AO.core.eq_3 zero size n parts)
theorem KB : ∀ (fl:X),(AO.Ak fl).core=true:=
 fun fl=>nd (AO.core.eq_4 fl)
theorem KD : ∀ (p fl:X) (size:Nat),(AO.store p fl size).core=true:=
 fun p fl size=>nd (AO.core.eq_5 p fl size)
theorem KE : ∀ (size bytes:Nat) (fl y:X),(AO.app size bytes fl y).core=true:=
 fun size bytes fl y=>nd (AO.core.eq_6 size bytes fl y)
theorem KF : ∀ (val:Nat) (zero:List D),(AI.op (some val) none (AO.alloc zero)).kind=AK.alloc:=
 fun val zero=>nd (AI.kind.eq_1 val zero)
theorem KH : ∀ (zero:List D),(AO.alloc zero).kind=AK.core:=
 fun zero=>nd (AO.kind.eq_1 zero)
theorem KI : ∀ (fl:X),(AO.box fl).kind=AK.core:=
 fun fl=>nd (AO.kind.eq_2 fl)
theorem KK : ∀ (zero:List D) (size n:Nat) (parts:List (Nat×X)),(AO.uQ zero size n parts).kind=AK.core:=
 fun zero size n parts=>nd (AO.kind.eq_3 zero size n parts)
theorem KM : ∀ (fl:X),(AO.Ak fl).kind=AK.core:=
 fun fl=>nd (AO.kind.eq_4 fl)
theorem KN : ∀ (p fl:X) (size:Nat),(AO.store p fl size).kind=AK.core:=
 fun p fl size=>nd (AO.kind.eq_5 p fl size)
theorem KO : ∀ (size bytes:Nat) (fl y:X),(AO.app size bytes fl y).kind=AK.core:=
 fun size bytes fl y=>nd (AO.kind.eq_6 size bytes fl y)
theorem KP : ∀ (fl:X) (agg:Bool) (size:Nat),(AO.load fl agg size).kind=AK.load:=
 fun _ _ _=>nd rfl
theorem N8:gy AK.core=true:=
 nd (gy.eq_1)
theorem N9:gy AK.alloc=true:=
 nd (gy.eq_2)
theorem Oa : ∀ (i:AI) (tm:Tm) (d:D),n8 i tm d [] = True:=
 fun i tm d=>nd (n8.eq_1 i tm d)
theorem Oc : ∀ (i:AI) (tm:Tm) (d:D) (s:St) (r:List St),
 n8 i tm d (s::r)=(jL i tm s=some d∧n8 i tm d r):=
 fun i tm d s r=>nd (n8.eq_2 i tm d s r)
theorem X4 : ∀ (tm:Tm) (s:St) (dst:Option Nat) (o:AO),
 jL (AI.op dst none o) tm s=Option.map (fun(x:D×St)=>x.fst) (aI o tm s):=
 fun tm s dst o=>nd (jL.eq_1 tm s dst o)
theorem X5 : ∀ (tm:Tm) (s:St) (dst:Option Nat) (t:Nat) (want:Bool) (o:AO),
 jL (AI.op dst (some (t,want)) o) tm s =
  match tm.get t with
  |D.bool b=>if b=want then Option.map (fun(x:D×St)=>x.fst) (aI o tm s)else some (D.tuple [])
  |D.tuple vs=>some (D.tuple [])
  |x=>none:=
 fun tm s dst t want o=>nd (jL.eq_2 tm s dst t want o)
theorem KQ : ∀ (is:List AI),mS is [] = some []:=
 fun is=>nd (mS.eq_1 is)
theorem KR : ∀ (is:List AI) (q b:Nat) (r:List (Nat×Nat)),
 mS is ((q,b)::r) =
  match is[q]?,mS is r with
  |some ai,some l=>some ((ai,b)::l)
  |x,fl=>none:=
 fun is q b r=>nd (mS.eq_2 is q b r)
theorem X6 : ∀ (tm:Tm) (n m:Nat),we tm n m [] = True:=
 fun tm n m=>nd (we.eq_1 tm n m)
theorem X7 : ∀ (tm:Tm) (n m k:Nat) (d:D) (r:List (Nat×D)),
 we tm n m ((k,d)::r)=(Wk (D.fg n m (tm.get k)) d∧we tm n m r):=
 fun tm n m k d r=>nd (we.eq_2 tm n m k d r)
theorem Tq : ∀ (n m o off:Nat),D.fg n m (D.ptr o off)=if o<n then D.ptr o off else D.junk:=
 fun n m o off=>nd (D.fg.eq_1 n m o off)
theorem Tr : ∀ (n m:Nat) (row:List D) (off:Nat),D.fg n m (D.dt row off)=D.dt (D.gh n m row) off:=
 fun n m row off=>nd (D.fg.eq_2 n m row off)
theorem Ts : ∀ (n m:Nat) (g:Tag) (z:Nat) (rows:List (List D)),
 D.fg n m (D.slice g z rows)=D.slice (Tag.fg m g) z (D.kn n m rows):=
 fun n m g z rows=>nd (D.fg.eq_3 n m g z rows)
theorem Tt : ∀ (n m:Nat) (cs:List D),D.fg n m (D.agg cs)=D.agg (D.gh n m cs):=
 fun n m cs=>nd (D.fg.eq_4 n m cs)
theorem Tv : ∀ (n m:Nat) (ds:List D),D.fg n m (D.tuple ds)=D.tuple (D.gh n m ds):=
 fun n m ds=>nd (D.fg.eq_5 n m ds)
theorem Tw : ∀ (n m:Nat),D.fg n m D.junk=D.junk:=
 fun n m=>nd (D.fg.eq_6 n m)
theorem Tx : ∀ (n m:Nat) (k:IntKind) (fl:Int),D.fg n m (D.int k fl)=D.int k fl:=
 fun n m k fl=>nd (D.fg.eq_7 n m k fl)
theorem Ty : ∀ (n m:Nat) (b:Bool),D.fg n m (D.bool b)=D.bool b:=
 fun n m b=>nd (D.fg.eq_8 n m b)
theorem Tz : ∀ (n m:Nat) (l:List UInt8),D.fg n m (D.str l)=D.str l:=
 fun n m l=>nd (D.fg.eq_9 n m l)
theorem QH : ∀ (n m:Nat),D.fg n m D.dO=D.dO:=
 fun n m=>nd (D.fg.eq_10 n m)
theorem QI : ∀ (n m:Nat),D.gh n m [] = []:=
 fun n m=>nd (D.gh.eq_1 n m)
theorem QJ : ∀ (n m:Nat) (d:D) (r:List D),D.gh n m (d::r)=D.fg n m d::D.gh n m r:=
 fun n m d r=>nd (D.gh.eq_2 n m d r)
theorem QK : ∀ (n m:Nat),D.kn n m [] = []:=
 fun n m=>nd (D.kn.eq_1 n m)
theorem QL : ∀ (n m:Nat) (d:List D) (r:List (List D)),D.kn n m (d::r)=D.gh n m d::D.kn n m r:=
 fun n m d r=>nd (D.kn.eq_2 n m d r)
theorem Od : ∀ (m t:Nat) (y:Bool),Tag.fg m (Tag.tok t y)=if t<m then Tag.tok t y else Tag.shared:=
 fun _ _ _=>nd rfl
theorem Oe : ∀ (s:St) (n m:Nat),
 s.cut n m = {ah:=List.map (D.gh n m) (List.take n s.ah),au:=List.take m s.au}:=
 fun s n m=>nd (St.cut.eq_1 s n m)
theorem TA : ∀ (d:D),aY [d] = d:=
 fun d=>nd (aY.eq_1 d)
theorem TB (size bytes t:Nat) (rows:List (List D)) (g:Tag) (r:List D) (s:St):ig size bytes (.slice (.tok t) size rows) (.slice g size [r]) s =
 if(rows.length+1)*(bytes+1)≤bJ∧s.au[t]? = some (some rows.length)then some (.slice (.tok t) size (rows++ [r]),⟨s.ah,s.au.set t (some (rows.length+1))⟩)else none:=by
 simp only[ig,List.length_singleton]
 by_cases h1:(rows.length+1)*(bytes+1)≤bJ<;>by_cases h2:s.au[t]? = some (some rows.length)<;>simp[h1,h2]
theorem oU {size bytes t:Nat} {rows new:List (List D)} {g:Tag} {s:St} (h1:(rows.length+new.length)*(bytes+1)≤bJ) (h2:s.au[t]? = some (some rows.length)) :
 ig size bytes (.slice (.tok t) size rows) (.slice g size new) s=some (.slice (.tok t) size (rows++new),⟨s.ah,s.au.set t (some (rows.length+new.length))⟩):=by
 cases new with
 | nil=>
  have:s.au.set t (some rows.length)=s.au:=by
   apply List.ext_getElem?
   intro i
   rw[List.getElem?_set]
   split
   ·rename_i hi;subst hi;rw[h2,if_pos (List.getElem?_eq_some_iff.1 h2).1]
   ·rfl
  simp only[List.length_nil,Nat.add_zero]at h1
  simp[ig,h1,this]
 |cons x l=>
  simp only[ig,h1,h2]
  simp
theorem QM (size bytes z:Nat) (g:Tag) (r:List D) (s:St):ig size bytes (.slice .full z []) (.slice g size [r]) s =
 if bytes+1≤bJ then some (.slice (.tok s.au.length) size [r],⟨s.ah,s.au++ [some 1]⟩)else none:=by
 simp[ig]
theorem X8 {P:Program} {B:fP} {nt:Nat} (ac:AC) (Q:Exit→Tm→St→Prop) (tm:Tm) (s:St):yJ P B nt ac Q .normal tm s=Q .normal tm s:=nd rfl
theorem X9 {P:Program} {B:fP} {nt:Nat} (ac:AC) (Q:Exit→Tm→St→Prop) (tm:Tm) (s:St):yJ P B nt ac Q .ret tm s=Q .ret tm s:=nd rfl
theorem Ya {P:Program} {B:fP} {nt:Nat} (ac:AC) (Q:Exit→Tm→St→Prop) (tm:Tm) (s:St) (i:Nat):yJ P B nt ac Q (.exit i) tm s=Q (.exit i) tm s:=nd rfl
theorem Yb (m:Nat):Tag.fg m .full = .full:=nd rfl
theorem QN (m:Nat):Tag.fg m .shared = .shared:=nd rfl
theorem aeE {P:Program} (K:Tm→St→Prop) (tm:Tm) (s:St):kh P [] K tm s=K tm s:=nd rfl
theorem s_op {P:Program} (dst:Option Nat) (o:AO) (r:List AI) (K:Tm→St→Prop) (tm:Tm) (s:St) :
 kh P (.op dst none o::r) K tm s=(match aI o tm s with|some (d,s')=>kh P r K (tm.put dst d) s'|none=>False):=nd rfl
def KJ (P:Program) (r:List AI) (K:Tm→St→Prop) (tm:Tm) (dst:Option Nat) (d:D) (s:St):Prop:=kh P r K (tm.put dst d) s
theorem ai0 {P:Program} (r:List AI) (K:Tm→St→Prop) (tm:Tm) (dst:Option Nat) (d:D) (s:St):KJ P r K tm dst d s=kh P r K (tm.put dst d) s:=nd rfl
theorem s_call {P:Program} (dst:Option Nat) (f:Nat) (xs:List X) (r:List AI) (K:Tm→St→Prop) (tm:Tm) (s:St) :
 kh P (.call dst none f xs::r) K tm s=CL false P f (xs.map (·.ev tm)) s (KJ P r K tm dst):=nd rfl
def NJ (P:Program) (dst:Option Nat) (neg:Bool) (x:D) (r:List AI) (K:Tm→St→Prop) (tm:Tm) (s:St):Prop:=
 match x with
 | .slice _ _ rows=>∀ b:Bool,(rows≠ []→b=false)→kh P r K (tm.put dst (.bool (if neg then !b else b))) s
 |_=>False
theorem aaF {P:Program} (dst:Option Nat) (neg:Bool) (x:X) (r:List AI) (K:Tm→St→Prop) (tm:Tm) (s:St) :
 kh P (.nil dst none neg x::r) K tm s=NJ P dst neg (x.ev tm) r K tm s:=nd rfl
theorem Yc {P:Program} (dst:Option Nat) (neg:Bool) (g:Tag) (z:Nat) (d:List D) (l:List (List D)) (r:List AI) (K:Tm→St→Prop) (tm:Tm) (s:St) :
 NJ P dst neg (.slice g z (d::l)) r K tm s=kh P r K (tm.put dst (.bool neg)) s:=by
 simp only[NJ,ne_eq,reduceCtorEq,not_false_eq_true,true_imp_iff,eq_iff_iff]
 refine⟨fun h=>by have:=h false rfl;cases neg<;>exact this,fun h b hb=>?_⟩
 subst hb;cases neg<;>exact h
theorem TC {P:Program} {dst:Option Nat} {neg:Bool} {g:Tag} {z:Nat} {l:List (List D)} {r:List AI} {K:Tm→St→Prop} {tm:Tm} {s:St}
 (h1:l = []→kh P r K (tm.put dst (.bool (!neg))) s) (h2:kh P r K (tm.put dst (.bool neg)) s):NJ P dst neg (.slice g z l) r K tm s:=by
 intro b hb
 cases b with
 |false=>cases neg<;>exact h2
 |true=>
  have:l = []:=Decidable.byContradiction fun h=>by cases hb h
  cases neg<;>exact h1 this
theorem aeG {P:Program} (dst:Option Nat) (t:Nat) (w:Bool) (o:AO) (r:List AI) (K:Tm→St→Prop) (tm:Tm) (s:St) :
 kh P (.op dst (some (t,w)) o::r) K tm s = @GB (tm.get t) w ⟨(kh P (.op dst none o::r) K tm s),(kh P r K (tm.put dst (.tuple [])) s)⟩:=nd rfl
def CV (P:Program) (x:D) (aeH:List D) (s:St) (K:D→St→Prop):Prop:=
 match x with
 | .fV f nH=>enters P f=true∧CL false P f (aeH++nH) s K
 |_=>False
theorem Yd {P:Program} (dst:Option Nat) (t:Nat) (xs:List X) (r:List AI) (K:Tm→St→Prop) (tm:Tm) (s:St) :
 kh P (.jj dst none t xs::r) K tm s=CV P (tm.get t) (xs.map (·.ev tm)) s (KJ P r K tm dst):=nd rfl
theorem CV.use {P:Program} {f:Nat} {nH aeH:List D} {s s':St} {d:D} {K:D→St→Prop} (he:enters P f=true) (h:aG P f (aeH++nH) s d s') (k:K d s'):CV P (.fV f nH) aeH s K:=⟨he,CU h k⟩
theorem TD {P:Program} (dst:Option Nat) (t:Nat) (w:Bool) (u:Nat) (xs:List X) (r:List AI) (K:Tm→St→Prop) (tm:Tm) (s:St) :
 kh P (.jj dst (some (t,w)) u xs::r) K tm s = @GB (tm.get t) w ⟨(kh P (.jj dst none u xs::r) K tm s),(kh P r K (tm.put dst (.tuple [])) s)⟩:=nd rfl
theorem Ye {P:Program} (dst:Option Nat) (t:Nat) (w:Bool) (f:Nat) (xs:List X) (r:List AI) (K:Tm→St→Prop) (tm:Tm) (s:St) :
 kh P (.call dst (some (t,w)) f xs::r) K tm s = @GB (tm.get t) w ⟨(kh P (.call dst none f xs::r) K tm s),(kh P r K (tm.put dst (.tuple [])) s)⟩:=nd rfl
theorem aaH {P:Program} (dst:Option Nat) (t:Nat) (w:Bool) (neg:Bool) (x:X) (r:List AI) (K:Tm→St→Prop) (tm:Tm) (s:St) :
 kh P (.nil dst (some (t,w)) neg x::r) K tm s = @GB (tm.get t) w ⟨(kh P (.nil dst none neg x::r) K tm s),(kh P r K (tm.put dst (.tuple [])) s)⟩:=nd rfl
theorem ai1 (b:Bool) (A C:Prop) : @GB (.bool b) true ⟨A,C⟩ = @CB (.bool b) ⟨A,C⟩:=nd rfl
theorem ai2 (b:Bool) (A C:Prop) : @GB (.bool b) false ⟨A,C⟩ = @CB (.bool b) ⟨C,A⟩:=by
 cases b<;>simp[GB,CB,GJ,uC]
theorem ai3 (l:List D) (w:Bool) (A C:Prop) : @GB (.tuple l) w ⟨A,C⟩=C:=nd rfl
theorem aeI {P:Program} {K:Tm→St→Prop} (bD:List St) (tm:Tm) (s:St):ga P K [] bD tm s=K tm s:=nd rfl
def OJ (P:Program) (o:AO) (dst:Option Nat) (b:Nat) (r:List (AI×Nat)) (K:Tm→St→Prop) (bD:List St) (tm:Tm) (s:St):Bool→Prop
 |true=>match aI o tm s with|some (d,s')=>ga P K r (s::bD) (tm.put dst d) s'|none=>False
 |false=>match aI o tm s with|some (d,_)=>n8 (.op dst none o) tm d (bD.take b)∧ga P K r bD (tm.put dst d) s|none=>False
theorem ai5 {P:Program} {K:Tm→St→Prop} (dst:Option Nat) (o:AO) (b:Nat) (r:List (AI×Nat)) (bD:List St) (tm:Tm) (s:St) :
 ga P K ((.op dst none o,b)::r) bD tm s=OJ P o dst b r K bD tm s o.core:=by
 simp only[ga,mT]
 cases o.core<;>rfl
theorem ai6 {P:Program} (o:AO) (dst:Option Nat) (b:Nat) (r:List (AI×Nat)) (K:Tm→St→Prop) (bD:List St) (tm:Tm) (s:St) :
 OJ P o dst b r K bD tm s true=match aI o tm s with|some (d,s')=>ga P K r (s::bD) (tm.put dst d) s'|none=>False:=nd rfl
theorem ai7 {P:Program} (o:AO) (dst:Option Nat) (b:Nat) (r:List (AI×Nat)) (K:Tm→St→Prop) (bD:List St) (tm:Tm) (s:St) :
 OJ P o dst b r K bD tm s false=match aI o tm s with|some (d,_)=>n8 (.op dst none o) tm d (bD.take b)∧ga P K r bD (tm.put dst d) s|none=>False:=nd rfl
theorem aeJ {P:Program} {K:Tm→St→Prop} (dst:Option Nat) (t:Nat) (w:Bool) (o:AO) (b:Nat) (r:List (AI×Nat)) (bD:List St) (tm:Tm) (s:St) :
 ga P K ((.op dst (some (t,w)) o,b)::r) bD tm s = @GB (tm.get t) w ⟨(ga P K ((.op dst none o,b)::r) bD tm s),(ga P K r (if o.core then s::bD else bD) (tm.put dst (.tuple [])) s)⟩:=by
 simp only[GB,ga,mT]
 cases o.core<;>rfl
def KG (P:Program) (K:Tm→St→Prop) (r:List (AI×Nat)) (bD:List St) (tm:Tm) (dst:Option Nat) (d:D) (s:St):Prop:=ga P K r bD (tm.put dst d) s
theorem ai8 {P:Program} (K:Tm→St→Prop) (r:List (AI×Nat)) (bD:List St) (tm:Tm) (dst:Option Nat) (d:D) (s:St):KG P K r bD tm dst d s=ga P K r bD (tm.put dst d) s:=nd rfl
theorem g_call {P:Program} {K:Tm→St→Prop} (dst:Option Nat) (f:Nat) (xs:List X) (b:Nat) (r:List (AI×Nat)) (bD:List St) (tm:Tm) (s:St) :
 ga P K ((.call dst none f xs,b)::r) bD tm s=CL true P f (xs.map (·.ev tm)) s (KG P K r (s::bD) tm dst):=nd rfl
theorem Yf {P:Program} {K:Tm→St→Prop} (dst:Option Nat) (t:Nat) (w:Bool) (f:Nat) (xs:List X) (b:Nat) (r:List (AI×Nat)) (bD:List St) (tm:Tm) (s:St) :
 ga P K ((.call dst (some (t,w)) f xs,b)::r) bD tm s = @GB (tm.get t) w ⟨(ga P K ((.call dst none f xs,b)::r) bD tm s),(ga P K r (s::bD) (tm.put dst (.tuple [])) s)⟩:=nd rfl
class Ok (p:Prop):Prop where
 out:p
instance:Ok True:=⟨trivial⟩
instance {p q:Prop} [Ok p] [Ok q] : Ok (p∧q):=⟨⟨Ok.out,Ok.out⟩⟩
instance {α:Type} (a:α):Ok (a=a):=⟨rfl⟩
instance (d:D):Ok (Wk d .junk):=⟨Wk.junk d⟩
instance {l l':List D} [Ok (ji l l')] : Ok (Wk (.tuple l) (.tuple l')):=⟨Wk.tuple Ok.out⟩
instance {l l':List D} [Ok (ji l l')] : Ok (Wk (.agg l) (.agg l')):=⟨Wk.agg Ok.out⟩
instance {g:Tag} {z:Nat} {l l':List (List D)} [Ok (gn l l')] : Ok (Wk (.slice g z l) (.slice g z l')):=⟨Wk.rows Ok.out⟩
instance {g:Tag} {z:Nat} {l l':List (List D)} [Ok (gn l l')] : Ok (Wk (.slice g z l) (.slice .shared z l')):=⟨Wk.slice Ok.out⟩
instance (z z':Nat):Ok (Wk (.slice .full z []) (.slice .full z' [])):=⟨Wk.aiP z z'⟩
instance (g:Tag) (z z':Nat):Ok (Wk (.slice g z []) (.slice .shared z' [])):=⟨Wk.nil g z z'⟩
instance (d:D):Ok (Wk d d):=⟨Wk.refl d⟩
instance:Ok (ji [] []):=⟨.nil⟩
instance {d d':D} {l l':List D} [Ok (Wk d d')] [Ok (ji l l')] : Ok (ji (d::l) (d'::l')):=⟨.cons Ok.out Ok.out⟩
instance (l:List D):Ok (ji l l):=⟨ji.refl l⟩
instance:Ok (gn [] []):=⟨.nil⟩
instance {d d':List D} {l l':List (List D)} [Ok (ji d d')] [Ok (gn l l')] : Ok (gn (d::l) (d'::l')):=⟨.cons Ok.out Ok.out⟩
instance {a a' b b':List (List D)} [Ok (gn a a')] [Ok (gn b b')] : Ok (gn (a++b) (a'++b')):=⟨gn.append Ok.out Ok.out⟩
instance (l:List (List D)):Ok (gn l l):=⟨gn.refl l⟩
theorem bs:(∀ b,(true ||b)=true)∧(∀ b,(false ||b)=b)∧(∀ b,(b ||true)=true)∧(∀ b,(b ||false)=b)∧(∀ b,(true && b)=b)∧(∀ b,(false && b)=false)∧(∀ b,(b && true)=b)∧(∀ b,(b && false)=false)∧
 (!true)=false∧(!false)=true∧(∀ b,(!!b)=b)∧((false=true)=False)∧(∀ (α β:Type) (a:α) (f:α→Option β),(some a).bind f=f a)∧
 (∀ (α β γ:Type) (x:Option α) (f:α→Option β) (g:β→Option γ),(x.bind f).bind g=x.bind fun y=>(f y).bind g):=
 ⟨Bool.true_or,Bool.false_or,Bool.or_true,Bool.or_false,Bool.true_and,Bool.false_and,Bool.and_true,Bool.and_false,rfl,rfl,Bool.not_not,by simp,fun _ _ _ _=>rfl,fun _ _ _ x f g=>Option.bind_assoc x f g⟩
attribute [go_sem] aaC aiX aiY aeE s_op ai0 s_call aaF Yc aeG Ye aaH ai1 ai2 ai3 aeI ai5 ai6 ai7 aeJ ai8 g_call Yf AO.core AI.kind AO.kind gy
attribute [go_sem] NB NC IA IB Yd TD Nx Ny Nz NA IC ID IE IF Qz QA ND XO S6
attribute [go_sem] Nw IG Nt Nu Nv II IJ IK QB QC XN Ql XJ S3 XK S4 XL S5 Qk XM S7 M4 S8
attribute [go_sem] Qq Qr Qs Qt Qu Qv Qw Qx Qy M6 M7 M8 M9 Na Nb Nc Nd Nf Ng Nh Ni Nj Nk Nl Nn No Np Nq Nr Ns Tj Tk NF NG NH NK NL NM QD QE NN NO NP Tl Tn NQ QF QG IL IM IN IP To Tp NR NS NT NU NV NW NY NZ N0 Ku Kv N1 N2 N3 N4 XY XZ N5 N6 N7 Kw Kx X0 X1 X2 X3 Ky Kz KA KB KD KE KF KH KI KK KM KN KO KP N8 N9 Oa Oc X4 X5 KQ KR X6 X7 Tq Tr Ts Tt Tv Tw Tx Ty Tz QH QI QJ QK QL Od Oe TA TB QM Yb QN X8 X9 Ya
attribute [go_sem] List.map_cons List.map_nil List.getElem?_cons_zero List.getElem?_cons_succ List.length_cons List.length_nil List.set_cons_zero List.set_cons_succ List.take_succ_cons List.take_zero List.take_nil List.drop_succ_cons List.drop_zero List.drop_nil List.cons_append List.nil_append List.append_nil Nat.zero_add Nat.add_zero Option.map_some Option.map_none
attribute [go_sem] Bool.not_false Bool.not_true List.length_map List.getElem?_map Int.toNat_natCast Int.natCast_nonneg Int.toNat_zero and_self and_true true_and
attribute [go_sem_proc ↓] reduceIte
attribute [go_sem_proc] Int.reduceLE reduceCtorEq Nat.reduceEqDiff Nat.reduceLeDiff Nat.reduceAdd Nat.reduceMul Nat.reduceSub Nat.reduceLT
theorem bt {b:Bool} {A C:Prop} (h1:b=true→A) (h:b=true:=by assumption) : @CB (.bool b) ⟨A,C⟩:=aaD h h1
theorem bu {b:Bool} {A C:Prop} (h1:b=false→C) (h:b=false:=by assumption) : @CB (.bool b) ⟨A,C⟩:=aaE h h1
theorem bx {b:Bool} {A C:Prop} (h1:b=true→A) (h2:b=false→C) : @CB (.bool b) ⟨A,C⟩:=⟨h1,h2⟩
theorem iQ {a b:Prop} (x:a) (y:b):a∧b:=⟨x,y⟩
theorem bH {α:Type _} (a b:α):(some a=some b)=(a=b):=Option.some.injEq a b
theorem bI {α:Sort _} {p:α→Prop} {a:α} : (∃ x,a=x∧p x)↔p a:=exists_eq_left'
theorem CD {n m:Nat} (h:Nat.ble n m=true):n≤m:=Nat.le_of_ble_eq_true h
theorem aF {n m:Nat} {res:List (Nat×Option (Bool×Nat))} {d:D} {s':St} {e:Exit} {tm:Tm} {s:St} {Q:Exit→Tm→St→Prop} (hQ:pL n m res d s'=Q) (h : ∃ l,aV res tm s=some l∧Wk ((aY l).fg n m) d∧gn (s.cut n m).ah s'.ah∧(s.cut n m).au=s'.au) (he:e = .ret∨e = .normal:=by first|exact .inl rfl|exact .inr rfl):Q e tm s:=by cases he with|inl x=>cases x;exact aeC hQ h|inr x=>cases x;exact aeD hQ h
theorem cr {p:Prop} (h:p:=by repeat' (first|exact Ok.out|with_reducible refine iQ ?_ ?_|(simp;done))):p:=h
theorem cz {p:Prop} (h:p:=by repeat' (first|exact Ok.out|with_reducible refine iQ ?_ ?_)):p:=h
theorem fX {p:Prop} (h:p:=by(try cases h);simp only[aV,aY,bH,bI,go_sem,hD,hY,hZ,gA];repeat' (first|exact Ok.out|with_reducible refine iQ ?_ ?_|(simp;done))):p:=h
theorem bk {p:Prop} (h:p:=by simp only[aV,aY,bH,bI,go_sem,hD,hY,hZ,gA];repeat' (first|exact Ok.out|with_reducible refine iQ ?_ ?_|(simp;done))):p:=h
theorem lX_ {p:Prop} (h:p:=by simp only[go_sem,hD,hY,hZ,gA];repeat' (first|exact Ok.out|with_reducible refine iQ ?_ ?_)):p:=h
theorem fm {P:Program} {B:fP} {nt:Nat} {a:AC} {Q:Exit→Tm→St→Prop} {tm bn:Tm} {s:St} {gb:List (List D)} (n m:Nat) (h:br P B nt a Q bn ⟨gb,(s.cut n m).au⟩) (hn:B.s.ah.length≤n:=by rw[hB];exact CD rfl) (hm:B.s.au.length≤m:=by rw[hB];exact CD rfl) (ht:we tm n m bn:=by exact lX_) (ho:gn (s.cut n m).ah gb:=by exact lX_):br P B nt a Q tm s:=br.re bn gb n m hn hm ht ho h
theorem fp {P:Program} {B:fP} {nt:Nat} {a:AC} {Q:Exit→Tm→St→Prop} {tm bn:Tm} {s:St} {gb:List (List D)} (n m:Nat) (ht:we tm n m bn) (ho:gn (s.cut n m).ah gb) (h:br P B nt a Q bn ⟨gb,(s.cut n m).au⟩) (hn:B.s.ah.length≤n:=by rw[hB];exact CD rfl) (hm:B.s.au.length≤m:=by rw[hB];exact CD rfl):br P B nt a Q tm s:=br.re bn gb n m hn hm ht ho h
theorem bX:0<1∧0<1∧0<1∧0<1:=⟨Nat.zero_lt_one,Nat.zero_lt_one,Nat.zero_lt_one,Nat.zero_lt_one⟩
end Go.Abs
namespace Go.Abs
mutual
theorem Og (n m:Nat) : ∀ d,D.ok 0 0 d=true→D.fg n m d=d
 | .junk,_=>by simp[D.fg]
 | .int k n,_=>by simp[D.fg]
 | .bool b,_=>by simp[D.fg]
 | .str l,_=>by simp[D.fg]
 | .dO,_=>by simp[D.fg]
 | .val v,_=>by simp[D.fg]
 | .dX z,_=>by simp[D.fg]
 | .fh T o,h=>by simp[D.ok]at h
 | .fL o,h=>by simp[D.ok]at h
 | .fV f cs,h=>by
  simp only[D.ok]at h
  simp only[D.fg,gQ n m cs h]
 | .ptr o f,h=>by simp[D.ok]at h
 | .dt r f,h=>by
  simp only[D.ok]at h
  simp only[D.fg,gQ n m r h]
 | .slice g z rows,h=>by
  simp only[D.ok,Bool.and_eq_true]at h
  simp only[D.fg,IQ n m rows h.2]
  cases g with
  |tok t y=>simp[Tag.ok]at h
  |full=>rfl
  |shared=>rfl
 | .agg cs,h=>by
  simp only[D.ok]at h
  simp only[D.fg,gQ n m cs h]
 | .tuple cs,h=>by
  simp only[D.ok]at h
  simp only[D.fg,gQ n m cs h]
theorem gQ (n m:Nat) : ∀ l,D.bL 0 0 l=true→D.gh n m l=l
 | [],_=>by simp[D.gh]
 |d::r,h=>by
  simp only[D.bL,Bool.and_eq_true]at h
  simp only[D.gh,Og n m d h.1,gQ n m r h.2]
theorem IQ (n m:Nat) : ∀ l,D.gU 0 0 l=true→D.kn n m l=l
 | [],_=>by simp[D.kn]
 |d::r,h=>by
  simp only[D.gU,Bool.and_eq_true]at h
  simp only[D.kn,gQ n m d h.1,IQ n m r h.2]
end
theorem gW {α:Type} {f:α→List D} (h : ∀ x,D.bL 0 0 (f x)=true) (l:List α):D.gU 0 0 (l.map f)=true:=by
 simp[DZ,h]
theorem lO {α:Type} {f:α→List D} (h : ∀ x,D.bL 0 0 (f x)=true) (n m:Nat) (l:List α):D.kn n m (l.map f)=l.map f:=IQ n m _ (gW h l)
theorem Ll (n m:Nat) : ∀ a b,D.kn n m (a++b)=D.kn n m a++D.kn n m b
 | [],b=>by simp[D.kn]
 |x::a,b=>by simp[D.kn,Ll n m a b]
abbrev aE:=List UInt8
structure pV where
 kind:Int
 text:aE
 n:Int
 pos:Int
deriving DecidableEq
structure Ex where
 op:Int
 n:Int
 name:aE
 kids:List Ex
structure Ar where
 ref:Bool
 name:aE
 x:Ex
structure Sm where
 id:Int
 kind:Int
 labels:List aE
 name:aE
 proc:aE
 x:Ex
 has:Bool
 args:List Ar
 a7:List Sm
 aX:List Sm
structure Pm where
 name:aE
 ref:Bool
structure Pc where
 name:aE
 params:List Pm
 vars:List aE
 body:List Sm
 fin:List aE
structure Pg where
 globals:List aE
 procs:List Pc
def qS:Ex:=⟨0,0,[],[]⟩
def ar0:Ar:=⟨false,[],qS⟩
def IS:Sm:=⟨0,0,[],[],[],qS,false,[],[],[]⟩
def pg0:Pg:=⟨[],[]⟩
def encStr (s:aE):List D:= [.str s]
def jM (t:pV):List D:= [.int .i64 t.kind, .str t.text, .int .i64 t.n, .int .i64 t.pos]
def sl (z:Nat) (rows:List (List D)):D:= .slice .shared z rows
mutual
def bY:Ex→List D
 |⟨op,n,name,kids⟩=> [.int .i64 op, .int .i64 n, .str name, .slice .shared 4 (va kids)]
def va:List Ex→List (List D)
 | []=> []
 |x::l=>bY x::va l
end
theorem Gh : ∀ l,va l=l.map bY
 | []=>by simp[va]
 |x::l=>by simp[va,Gh l]
theorem iT (x:Ex):bY x = [.int .i64 x.op, .int .i64 x.n, .str x.name, .slice .shared 4 (x.kids.map bY)]:=by
 cases x;simp[bY,Gh]
def ek (a:Ar):List D:= [.bool a.ref, .str a.name, .int .i64 a.x.op, .int .i64 a.x.n, .str a.x.name, .slice .shared 4 (a.x.kids.map bY)]
mutual
def bm:Sm→List D
 |⟨id,kind,labels,name,proc,x,has,args,a7,aX⟩=> [.int .i64 id, .int .i64 kind, .slice .shared 1 (labels.map encStr), .str name, .str proc,
  .int .i64 x.op, .int .i64 x.n, .str x.name, .slice .shared 4 (x.kids.map bY), .bool has, .slice .shared 6 (args.map ek), .slice .shared 13 (s6 a7), .slice .shared 13 (s6 aX)]
def s6:List Sm→List (List D)
 | []=> []
 |x::l=>bm x::s6 l
end
theorem Gi : ∀ l,s6 l=l.map bm
 | []=>by simp[s6]
 |x::l=>by simp[s6,Gi l]
theorem eR (s:Sm):bm s = [.int .i64 s.id, .int .i64 s.kind, .slice .shared 1 (s.labels.map encStr), .str s.name, .str s.proc,
 .int .i64 s.x.op, .int .i64 s.x.n, .str s.x.name, .slice .shared 4 (s.x.kids.map bY), .bool s.has, .slice .shared 6 (s.args.map ek), .slice .shared 13 (s.a7.map bm), .slice .shared 13 (s.aX.map bm)]:=by
 cases s;simp[bm,Gi]
def iB (p:Pm):List D:= [.str p.name, .bool p.ref]
def cf (p:Pc):List D:= [.str p.name, .slice .shared 2 (p.params.map iB), .slice .shared 1 (p.vars.map encStr), .slice .shared 13 (p.body.map bm), .slice .shared 1 (p.fin.map encStr)]
def cB (p:Pg):List D:= [.slice .shared 1 (p.globals.map encStr), .slice .shared 5 (p.procs.map cf)]
theorem aaJ (x:pV):(jM x).length=4:=nd rfl
theorem Yg (x:pV):List.take 4 (jM x)=jM x:=nd rfl
theorem Yh (x:pV):List.drop 4 (jM x) = []:=nd rfl
theorem QO (x:pV):(jM x)[0]? = some (.int .i64 x.kind):=nd rfl
theorem QP (x:pV):(jM x)[1]? = some (.str x.text):=nd rfl
theorem QQ (x:pV):(jM x)[2]? = some (.int .i64 x.n):=nd rfl
theorem QR (x:pV):(jM x)[3]? = some (.int .i64 x.pos):=nd rfl
theorem aeK (D5:Int) (V2:aE) (n_:Int) (aaL:Int):jM ⟨D5,V2,n_,aaL⟩ = [.int .i64 D5, .str V2, .int .i64 n_, .int .i64 aaL]:=by simp only[jM]
theorem V3 (x:Ex):(bY x).length=4:=by simp only[iT];rfl
theorem aaM (x:Ex):List.take 4 (bY x)=bY x:=by simp only[iT];rfl
theorem aaN (x:Ex):List.drop 4 (bY x) = []:=by simp only[iT];rfl
theorem TE (x:Ex):(bY x)[0]? = some (.int .i64 x.op):=by simp only[iT];rfl
theorem TF (x:Ex):(bY x)[1]? = some (.int .i64 x.n):=by simp only[iT];rfl
theorem TG (x:Ex):(bY x)[2]? = some (.str x.name):=by simp only[iT];rfl
theorem TH (x:Ex):(bY x)[3]? = some (.slice .shared 4 (x.kids.map bY)):=by simp only[iT];rfl
theorem ai9 (op_:Int) (n_:Int) (oH:aE) (V4:List Ex):bY ⟨op_,n_,oH,V4⟩ = [.int .i64 op_, .int .i64 n_, .str oH, .slice .shared 4 (V4.map bY)]:=by simp only[iT]
theorem aeL (x:Ar):(ek x).length=6:=nd rfl
theorem aaO (x:Ar):List.take 6 (ek x)=ek x:=nd rfl
theorem aaP (x:Ar):List.drop 6 (ek x) = []:=nd rfl
theorem TI (x:Ar):(ek x)[0]? = some (.bool x.ref):=nd rfl
theorem TJ (x:Ar):(ek x)[1]? = some (.str x.name):=nd rfl
theorem TK (x:Ar):(ek x)[2]? = some (.int .i64 x.x.op):=nd rfl
theorem TL (x:Ar):(ek x)[3]? = some (.int .i64 x.x.n):=nd rfl
theorem TN (x:Ar):(ek x)[4]? = some (.str x.x.name):=nd rfl
theorem TO (x:Ar):(ek x)[5]? = some (.slice .shared 4 (x.x.kids.map bY)):=nd rfl
theorem TP (x:Ar):List.take 4 (List.drop 2 (ek x))=bY x.x:=by simp only[ek,iT];rfl
theorem aja (IT:Bool) (oH:aE) (x_:Ex):ek ⟨IT,oH,x_⟩ = [.bool IT, .str oH, .int .i64 x_.op, .int .i64 x_.n, .str x_.name, .slice .shared 4 (x_.kids.map bY)]:=by simp only[ek]
theorem HD (x:Sm):(bm x).length=13:=by simp only[eR];rfl
theorem aaQ (x:Sm):List.take 13 (bm x)=bm x:=by simp only[eR];rfl
theorem aaR (x:Sm):List.drop 13 (bm x) = []:=by simp only[eR];rfl
theorem TQ (x:Sm):(bm x)[0]? = some (.int .i64 x.id):=by simp only[eR];rfl
theorem TR (x:Sm):(bm x)[1]? = some (.int .i64 x.kind):=by simp only[eR];rfl
theorem TS (x:Sm):(bm x)[2]? = some (.slice .shared 1 (x.labels.map encStr)):=by simp only[eR];rfl
theorem TT (x:Sm):(bm x)[3]? = some (.str x.name):=by simp only[eR];rfl
theorem TU (x:Sm):(bm x)[4]? = some (.str x.proc):=by simp only[eR];rfl
theorem TV (x:Sm):(bm x)[5]? = some (.int .i64 x.x.op):=by simp only[eR];rfl
theorem TW (x:Sm):(bm x)[6]? = some (.int .i64 x.x.n):=by simp only[eR];rfl
theorem TX (x:Sm):(bm x)[7]? = some (.str x.x.name):=by simp only[eR];rfl
theorem TY (x:Sm):(bm x)[8]? = some (.slice .shared 4 (x.x.kids.map bY)):=by simp only[eR];rfl
theorem T1 (x:Sm):(bm x)[9]? = some (.bool x.has):=by simp only[eR];rfl
theorem QS (x:Sm):(bm x)[10]? = some (.slice .shared 6 (x.args.map ek)):=by simp only[eR];rfl
theorem QT (x:Sm):(bm x)[11]? = some (.slice .shared 13 (x.a7.map bm)):=by simp only[eR];rfl
theorem QU (x:Sm):(bm x)[12]? = some (.slice .shared 13 (x.aX.map bm)):=by simp only[eR];rfl
theorem T2 (x:Sm):List.take 4 (List.drop 5 (bm x))=bY x.x:=by simp only[eR,iT];rfl
theorem ajb (id_:Int) (D5:Int) (Lm:List aE) (oH:aE) (V5:aE) (x_:Ex) (aaS:Bool) (V6:List Ar) (aaT:List Sm) (aaU:List Sm):bm ⟨id_,D5,Lm,oH,V5,x_,aaS,V6,aaT,aaU⟩ = [.int .i64 id_, .int .i64 D5, .slice .shared 1 (Lm.map encStr), .str oH, .str V5, .int .i64 x_.op, .int .i64 x_.n, .str x_.name, .slice .shared 4 (x_.kids.map bY), .bool aaS, .slice .shared 6 (V6.map ek), .slice .shared 13 (aaT.map bm), .slice .shared 13 (aaU.map bm)]:=by simp only[eR]
theorem aeM (x:Pm):(iB x).length=2:=nd rfl
theorem aaV (x:Pm):List.take 2 (iB x)=iB x:=nd rfl
theorem aaW (x:Pm):List.drop 2 (iB x) = []:=nd rfl
theorem T3 (x:Pm):(iB x)[0]? = some (.str x.name):=nd rfl
theorem T4 (x:Pm):(iB x)[1]? = some (.bool x.ref):=nd rfl
theorem ajc (oH:aE) (IT:Bool):iB ⟨oH,IT⟩ = [.str oH, .bool IT]:=by simp only[iB]
theorem aeN (x:Pc):(cf x).length=5:=nd rfl
theorem aaX (x:Pc):List.take 5 (cf x)=cf x:=nd rfl
theorem aaY (x:Pc):List.drop 5 (cf x) = []:=nd rfl
theorem T5 (x:Pc):(cf x)[0]? = some (.str x.name):=nd rfl
theorem T6 (x:Pc):(cf x)[1]? = some (.slice .shared 2 (x.params.map iB)):=nd rfl
theorem T7 (x:Pc):(cf x)[2]? = some (.slice .shared 1 (x.vars.map encStr)):=nd rfl
theorem T8 (x:Pc):(cf x)[3]? = some (.slice .shared 13 (x.body.map bm)):=nd rfl
theorem T9 (x:Pc):(cf x)[4]? = some (.slice .shared 1 (x.fin.map encStr)):=nd rfl
theorem ajd (oH:aE) (Ln:List Pm) (V7:List aE) (V8:List Sm) (aaZ:List aE):cf ⟨oH,Ln,V7,V8,aaZ⟩ = [.str oH, .slice .shared 2 (Ln.map iB), .slice .shared 1 (V7.map encStr), .slice .shared 13 (V8.map bm), .slice .shared 1 (aaZ.map encStr)]:=by simp only[cf]
theorem aeO (x:Pg):(cB x).length=2:=nd rfl
theorem aa0 (x:Pg):List.take 2 (cB x)=cB x:=nd rfl
theorem aa1 (x:Pg):List.drop 2 (cB x) = []:=nd rfl
theorem Ua (x:Pg):(cB x)[0]? = some (.slice .shared 1 (x.globals.map encStr)):=nd rfl
theorem Ub (x:Pg):(cB x)[1]? = some (.slice .shared 5 (x.procs.map cf)):=nd rfl
theorem aje (IU:List aE) (QV:List Pc):cB ⟨IU,QV⟩ = [.slice .shared 1 (IU.map encStr), .slice .shared 5 (QV.map cf)]:=by simp only[cB]
attribute [go_sem] aaJ Yg Yh QO QP QQ QR aeK V3 aaM aaN TE TF TG TH ai9 aeL aaO aaP TI TJ TK TL TN TO TP aja HD aaQ aaR TQ TR TS TT TU TV TW TX TY T1 QS QT QU T2 ajb aeM aaV aaW T3 T4 ajc aeN aaX aaY T5 T6 T7 T8 T9 ajd aeO aa0 aa1 Ua Ub aje
theorem D6 (s:aE):D.bL 0 0 (encStr s)=true:=rfl
theorem V9 (t:pV):D.bL 0 0 (jM t)=true:=rfl
mutual
theorem lJ : ∀ x,D.bL 0 0 (bY x)=true
 |⟨op,n,name,kids⟩=>by simp[bY,D.bL,D.ok,Tag.ok,Wa kids]
theorem Wa : ∀ l,D.gU 0 0 (va l)=true
 | []=>rfl
 |x::l=>by simp[va,D.gU,lJ x,Wa l]
end
theorem Oh (a:Ar):D.bL 0 0 (ek a)=true:=by simp[ek,D.bL,D.ok,Tag.ok,gW lJ]
mutual
theorem qT : ∀ x,D.bL 0 0 (bm x)=true
 |⟨id,kind,labels,name,proc,x,has,args,a7,aX⟩=>by simp[bm,D.bL,D.ok,Tag.ok,Oi a7,Oi aX,gW D6,gW lJ,gW Oh]
theorem Oi : ∀ l,D.gU 0 0 (s6 l)=true
 | []=>rfl
 |x::l=>by simp[s6,D.gU,qT x,Oi l]
end
theorem Oj (p:Pm):D.bL 0 0 (iB p)=true:=rfl
theorem yN (p:Pc):D.bL 0 0 (cf p)=true:=by simp[cf,D.bL,D.ok,Tag.ok,gW Oj,gW D6,gW qT]
theorem ki (p:Pg):D.bL 0 0 (cB p)=true:=by simp[cB,D.bL,D.ok,Tag.ok,gW D6,gW yN]
theorem aa2 (n m:Nat) (x:pV):D.gh n m (jM x)=jM x:=gQ n m _ (V9 x)
theorem aeP (n m:Nat) (x:Ex):D.gh n m (bY x)=bY x:=gQ n m _ (lJ x)
theorem aeQ (n m:Nat) (x:Ar):D.gh n m (ek x)=ek x:=gQ n m _ (Oh x)
theorem aeR (n m:Nat) (x:Sm):D.gh n m (bm x)=bm x:=gQ n m _ (qT x)
theorem aeS (n m:Nat) (x:Pm):D.gh n m (iB x)=iB x:=gQ n m _ (Oj x)
theorem aeT (n m:Nat) (x:Pc):D.gh n m (cf x)=cf x:=gQ n m _ (yN x)
theorem aeU (n m:Nat) (x:Pg):D.gh n m (cB x)=cB x:=gQ n m _ (ki x)
attribute [go_sem] aa2 aeP aeQ aeR aeS aeT aeU
theorem eU (l:List aE):D.gU 0 0 (l.map encStr)=true:=gW D6 l
theorem Wb (l:List Ex):D.gU 0 0 (l.map bY)=true:=gW lJ l
theorem HE (l:List Ar):D.gU 0 0 (l.map ek)=true:=gW Oh l
theorem qU (l:List Sm):D.gU 0 0 (l.map bm)=true:=gW qT l
theorem aeV (l:List Pm):D.gU 0 0 (l.map iB)=true:=gW Oj l
theorem wg (l:List Pc):D.gU 0 0 (l.map cf)=true:=gW yN l
theorem QW (n m:Nat) (l:List aE):D.kn n m (l.map encStr)=l.map encStr:=lO D6 n m l
theorem aa3 (n m:Nat) (l:List pV):D.kn n m (l.map jM)=l.map jM:=lO V9 n m l
theorem aeW (n m:Nat) (l:List Ex):D.kn n m (l.map bY)=l.map bY:=lO lJ n m l
theorem aeX (n m:Nat) (l:List Ar):D.kn n m (l.map ek)=l.map ek:=lO Oh n m l
theorem aeY (n m:Nat) (l:List Sm):D.kn n m (l.map bm)=l.map bm:=lO qT n m l
theorem aeZ (n m:Nat) (l:List Pm):D.kn n m (l.map iB)=l.map iB:=lO Oj n m l
theorem Wc (n m:Nat) (l:List Pc):D.kn n m (l.map cf)=l.map cf:=lO yN n m l
theorem aa4 (x:Ex) (r:List D):bY x++r = .int .i64 x.op:: .int .i64 x.n:: .str x.name:: .slice .shared 4 (x.kids.map bY)::r:=by rw[iT];rfl
theorem Yi (d:D) (x:Ex):d::bY x = [d, .int .i64 x.op, .int .i64 x.n, .str x.name, .slice .shared 4 (x.kids.map bY)]:=by rw[iT]
attribute [go_sem] aa4 Yi
theorem ae0:((0:Nat):Int)=0:=nd rfl
theorem ae1:((1:Nat):Int)=1:=nd rfl
theorem ae2:((2:Nat):Int)=2:=nd rfl
attribute [go_sem] ae0 ae1 ae2 Ll List.length_append List.map_append encStr qS ar0 IS pg0 QW aa3 aeW aeX aeY aeZ Wc
theorem mx (a b:Nat):(if(b:Int) > (a:Int)then(b:Int)else(a:Int))=((max a b:Nat):Int):=by split<;>omega
theorem dV {x:Int} (h1 : -9223372036854775808≤x) (h2:x<9223372036854775808):IntKind.wrap .i64 x=x:=by
 rw[IntKind.wrap_i64];omega
@[go_sem] theorem aM {n:Nat} (h:n<4611686018427387904):IntKind.wrap .i64 ((n:Int)+1)=((n+1:Nat):Int):=by
 rw[dV]<;>omega
def inc (n:Nat):Option Nat:=if n<4611686018427387904 then some (n+1)else none
def ajf (n:Int):Option Int:=if -4611686018427387904<n∧n<4611686018427387904 then some (n+1)else none
@[go_sem] theorem ahL {n:Nat} (h:n+1<4611686018427387904):IntKind.wrap .i64 ((n:Int)+1)=((n+1:Nat):Int):=by
 rw[dV]<;>omega
@[go_sem] theorem ahM {n:Nat} (h:n<4611686018427387904):IntKind.wrap .i64 ((n:Int)+2)=((n+2:Nat):Int):=by
 rw[dV]<;>omega
def aa5 {α:Type} (l:List α) (i:Nat):Option α:=if i<4611686018427387904 then l[i]? else none
def push {α:Type} (k:Nat) (l:List α) (x:α):Option (List α):=if(l.length+1)*k≤bJ then some (l++ [x])else none
end Go.Abs
namespace Go.Abs
def CF (os ts:List Nat) (tm:Tm):Tm→Prop
 | []=>True
 |(k,d)::r=>tm.get k=d.cJ os ts∧d.ok os.length ts.length=true∧CF os ts tm r
theorem CF.get {os ts:List Nat} {tm:Tm} : ∀ {bn:Tm},CF os ts tm bn→∀ k,bn.get k = .junk∨(tm.get k=(bn.get k).cJ os ts∧(bn.get k).ok os.length ts.length=true)
 | [],_,k=> .inl rfl
 |(q,d)::r,⟨h1,h2,h3⟩,k=>by
  simp only[Tm.get]
  split
  ·rename_i e;subst e;exact .inr ⟨h1,h2⟩
  ·exact h3.get k
section
variable {P:Program} {B:fP} {nt:Nat}
theorem Holds.sel {tm:Tm} {s:St} {act:Act} {w:World} (os:List Nat) (gb:List (List D)) (bn:Tm) (ui:os.Nodup) (jh : ∀ o∈os,o<s.ah.length) (hn:B.s.ah.length≤os.length)
 (hold : ∀ i,i<B.s.ah.length→os[i]? = some i) (da : ∀ (i o:Nat),os[i]? = some o→B.s.ah.length≤i→B.s.ah.length≤o) (ho:gb.length=os.length)
 (wW : ∀ (i o:Nat) (ds:List D),os[i]? = some o→gb[i]? = some ds→s.ah[o]? = some (D.eQ os (List.range s.au.length) ds)∧D.bL os.length s.au.length ds=true)
 (QX:CF os (List.range s.au.length) tm bn) (h:Holds B nt tm s act w):Holds B nt bn ⟨gb,s.au⟩ act w:=by
 obtain⟨M,e,r,hr,h1,h2⟩:=h
 have ug:(List.range s.au.length).length=s.au.length:=List.length_range
 have rg : ∀ (i t:Nat),(List.range s.au.length)[i]? = some t→i=t:=fun i t h=>by
  rw[List.getElem?_eq_some_iff]at h
  obtain⟨h3,h4⟩:=h
  simpa using h4
 have r0:Rel (gC M os (List.range s.au.length)) ⟨gb,s.au⟩ w:=r.sub ui List.nodup_range jh ho (fun i o ds e1 e2=>by rw[ug];exact wW i o ds e1 e2) ug.symm (fun i t h=>by rw[rg i t h])
 have loc : ∀ (i:Nat) o,os[i]? = some o→(gC M os (List.range s.au.length)).loc i=M.loc o:=fun i o h=>by simp only[gC,uO h]
 have be : ∀ t,t<s.au.length→(gC M os (List.range s.au.length)).be t=M.be t:=fun t h=>by
  have:(List.range s.au.length)[t]? = some t:=List.getElem?_range h
  simp only[gC,uO this]
 refine⟨gC M os (List.range s.au.length),⟨⟨e.le.G,by rw[ho];exact hn,fun o h=>?_,e.le.t,fun t n' h e'=>?_⟩,e.kept,fun o h3 h4=>?_,fun t b c z hl hb=>?_,e.rO,e.size,e.os,e.tape,e.output⟩,r0,fun k=>?_,h1,h2⟩
 ·rw[loc o o (hold o h)];exact e.le.loc o h
 ·obtain⟨n,g1,g2,g3⟩:=e.le.tk t n' h e'
  exact⟨n,g1,g2,fun eq=>by rw[be t (Nat.lt_of_lt_of_le h e.le.t)];exact g3 eq⟩
 ·simp only at h4
  rw[ho]at h4
  obtain⟨q,hq⟩ : ∃ q,os[o]? = some q:=⟨_,List.getElem?_eq_getElem h4⟩
  have mN:(gC M os (List.range s.au.length)).mu o=M.mu q:=congrArg Prod.fst (loc o q hq)
  rw[mN]at h3 ⊢
  refine e.tw q ?_ (jh q (List.mem_of_getElem? hq))
  by_cases h5:B.s.ah.length≤o
  ·exact .inl (da o q hq h5)
  ·have:=hold o (by omega)
   rw[hq]at this
   cases this
   rcases h3 with h3|h3
   ·exact(h5 h3).elim
   ·exact .inr h3
 ·obtain⟨n,qJ⟩:=hl
  have hD:=(List.getElem?_eq_some_iff.1 qJ).1
  rw[be t hD]at hb
  exact e.qh t b c z ⟨n,qJ⟩ hb
 ·rcases QX.get k with h3 | ⟨h3,h4⟩
  ·rw[h3];exact .junk _
  ·exact RD.BQ (M:=M) (M0:=gC M os (List.range s.au.length)) (s:=s) (s0:=⟨gb,s.au⟩) rfl loc ho (fun i t h=>by
    have:=rg i t h;subst this;exact be i (by have:=(List.getElem?_eq_some_iff.1 h).1;rwa [ug]at this)) (fun i t h=>by rw[rg i t h]) ug.symm (h3 ▸ hr k) _ rfl h4
theorem br.sel {a:AC} {Q:Exit→Tm→St→Prop} {tm:Tm} {s:St} (os:List Nat) (gb:List (List D)) (bn:Tm) (ui:os.Nodup) (jh : ∀ o∈os,o<s.ah.length) (hn:B.s.ah.length≤os.length)
 (hold : ∀ i,i<B.s.ah.length→os[i]? = some i) (da : ∀ (i o:Nat),os[i]? = some o→B.s.ah.length≤i→B.s.ah.length≤o) (ho:gb.length=os.length)
 (wW : ∀ (i o:Nat) (ds:List D),os[i]? = some o→gb[i]? = some ds→s.ah[o]? = some (D.eQ os (List.range s.au.length) ds)∧D.bL os.length s.au.length ds=true)
 (QX:CF os (List.range s.au.length) tm bn) (h:br P B nt a Q bn ⟨gb,s.au⟩):br P B nt a Q tm s:=
 fun c hc act w hh=>h c hc act w (hh.sel os gb bn ui jh hn hold da ho wW QX)
mutual
def D.fD (o g:Nat) (rows:List (List D)):D→D
 | .dZ z o' g' len=>if o'=o∧g'=g∧len=rows.length then .slice .shared z rows else .dZ z o' g' len
 | .dt row off=> .dt (D.jm o g rows row) off
 | .slice t z rs=> .slice t z (D.qV o g rows rs)
 | .agg cs=> .agg (D.jm o g rows cs)
 | .tuple ds=> .tuple (D.jm o g rows ds)
 | .fV f cs=> .fV f (D.jm o g rows cs)
 | .ptr o off=> .ptr o off
 | .junk=> .junk
 | .int k x=> .int k x
 | .bool b=> .bool b
 | .str l=> .str l
 | .dO=> .dO
 | .val v=> .val v
 | .fh T o=> .fh T o
 | .fL o=> .fL o
 | .fi o g off=> .fi o g off
 | .dX z=> .dX z
def D.jm (o g:Nat) (rows:List (List D)):List D→List D
 | []=> []
 |d::r=>D.fD o g rows d::D.jm o g rows r
def D.qV (o g:Nat) (rows:List (List D)):List (List D)→List (List D)
 | []=> []
 |d::r=>D.jm o g rows d::D.qV o g rows r
end
theorem oi (o g:Nat) (rows:List (List D)) : ∀ l,D.jm o g rows l=l.map (D.fD o g rows)
 | []=>by simp[D.jm]
 |d::r=>by simp[D.jm,oi o g rows r]
theorem Lo (o g:Nat) (rows:List (List D)) : ∀ l,D.qV o g rows l=l.map (D.jm o g rows)
 | []=>by simp[D.qV]
 |d::r=>by simp[D.qV,Lo o g rows r]
theorem RD.fD {M:Map} {s:St} {o g:Nat} {rows:List (List D)} {b cap z:Nat} {A:Nat→Option (Nat×Nat)} (hm:M.ob o = .arr z A) (ha:A g=some (b,cap))
 (hs : ∀ row∈rows,row.length=z) (h1 : ∀ (i:Nat) (row:List D) (j:Nat) (d:D),rows[i]? = some row→row[j]? = some d→∃ u,M.G b (0+(i*z+j))=some u)
 (h2 : ∀ (i:Nat) (row:List D) (j:Nat) (d:D) (u:Value),rows[i]? = some row→row[j]? = some d→M.G b (0+(i*z+j))=some u→RD M s d u)
 {d:D} {v:Value} (h:RD M s d v):RD M s (d.fD o g rows) v:=by
 induction h with
 | dZ z' o' g' len b' qj A' ho zN vZ hl=>
  simp only[D.fD]
  split
  ·rename_i hc
   obtain⟨rfl,rfl,rfl⟩:=hc
   rw[hm]at zN
   cases zN
   rw[ha]at vZ
   cases vZ
   exact .slice .shared z rows b 0 cap hl hs h1 h2 trivial
  ·exact .dZ z' o' g' len b' qj A' ho zN vZ hl
 |fi z' o' g' off b' qj A' ho zN vZ=>simp only[D.fD];exact .fi z' o' g' off b' qj A' ho zN vZ
 |dX z a=>simp only[D.fD];exact .dX z a
 |junk v=>simp only[D.fD];exact .junk v
 |int k x=>simp only[D.fD];exact .int k x
 |bool b=>simp only[D.fD];exact .bool b
 |str l=>simp only[D.fD];exact .str l
 |dO=>simp only[D.fD];exact .dO
 |val v hv=>simp only[D.fD];exact .val v hv
 |fh T o v h ht hv=>simp only[D.fD];exact .fh T o v h ht hv
 |fL o h hm=>simp only[D.fD];exact .fL o h hm
 |ptr o off h hm=>simp only[D.fD];exact .ptr o off h hm
 |fV f ds vs hl _ ih=>
  simp only[D.fD,oi]
  refine .fV f _ vs (by simpa using hl) (fun i d v e1 e2=>?_)
  simp only[List.getElem?_map,Option.map_eq_some_iff]at e1
  obtain⟨d',e1,rfl⟩:=e1
  exact ih i d' v e1 e2
 | dt row off b k h1 h2 ih=>
  simp only[D.fD,oi]
  refine .dt _ off b k (fun i d e=>?_) (fun i d u e eu=>?_)
  ·simp only [List.getElem?_map,Option.map_eq_some_iff]at e
   obtain⟨d',e,rfl⟩:=e
   exact h1 i d' e
  ·simp only [List.getElem?_map,Option.map_eq_some_iff]at e
   obtain⟨d',e,rfl⟩:=e
   exact ih i d' u e eu
 |iG t z cap hc ht=>simp only[D.fD,D.qV];exact .iG _ z cap hc ht
 |lh z a cap=>simp only[D.fD,D.qV];exact .lh z a cap
 | slice t z rs b k cap hl hs h1 h2 ht ih=>
  simp only[D.fD,Lo]
  have hlen:(rs.map (D.jm o g rows)).length=rs.length:=by simp
  have key:=RD.slice (M:=M) (s:=s) t z (rs.map (D.jm o g rows)) b k cap (by rw[hlen];exact hl) (fun row hr=>by
   obtain⟨kg,h',rfl⟩:=List.mem_map.1 hr
   rw[oi,List.length_map];exact hs kg h')
   (fun i row j d e1 e2=>by
    simp only[List.getElem?_map,Option.map_eq_some_iff]at e1
    obtain⟨kg,e1,rfl⟩:=e1
    rw[oi]at e2
    simp only[List.getElem?_map,Option.map_eq_some_iff]at e2
    obtain⟨d',e2,rfl⟩:=e2
    exact h1 i kg j d' e1 e2)
   (fun i row j d u e1 e2 eu=>by
    simp only[List.getElem?_map,Option.map_eq_some_iff]at e1
    obtain⟨kg,e1,rfl⟩:=e1
    rw[oi]at e2
    simp only[List.getElem?_map,Option.map_eq_some_iff]at e2
    obtain⟨d',e2,rfl⟩:=e2
    exact ih i kg j d' u e1 e2 eu)
   (by rw[hlen];exact ht)
  rw[hlen]at key
  exact key
 |agg cells vs hl h1 _ ih=>
  simp only[D.fD,oi]
  refine .agg _ vs (by simpa using hl) h1 (fun i d v e1 e2=>?_)
  simp only[List.getElem?_map,Option.map_eq_some_iff]at e1
  obtain⟨d',e1,rfl⟩:=e1
  exact ih i d' v e1 e2
 |tuple ds vs hl _ ih=>
  simp only[D.fD,oi]
  refine .tuple _ vs (by simpa using hl) (fun i d v e1 e2=>?_)
  simp only[List.getElem?_map,Option.map_eq_some_iff]at e1
  obtain⟨d',e1,rfl⟩:=e1
  exact ih i d' v e1 e2
def fzR (o g:Nat) (rows:List (List D)) (n m:Nat) (ds:List D):List D:=D.gh n m (D.jm o g rows ds)
def Wd (o g:Nat) (rows:List (List D)) (m:Nat) (tm:Tm):Tm→Prop
 | []=>True
 |(k,d)::r=>Wk (((tm.get k).fD o g rows).fg o m) d∧Wd o g rows m tm r
end
end Go.Abs
namespace Go.Abs
mutual
def D.flat:D→Bool
 | .int _ _=>true
 | .bool _=>true
 | .str _=>true
 | .tuple ds=>D.D7 ds
 |_=>false
def D.D7:List D→Bool
 | []=>true
 |d::r=>d.flat && D.D7 r
end
theorem Gj : ∀ {l:List D},D.D7 l=true→∀ {i:Nat} {d:D},l[i]? = some d→d.flat=true
 | [],_,i,d,e=>by simp at e
 |a::l,h,i,d,e=>by
  simp only[D.D7,Bool.and_eq_true]at h
  cases i with
  |zero=>simp at e;subst e;exact h.1
  |succ i=>exact Gj h.2 (by simpa using e)
theorem RD.flat {M M':Map} {s s':St} {d:D} {v:Value} (h:RD M s d v):d.flat=true→RD M' s' d v:=by
 induction h with
 |int k n=>exact fun _=> .int k n
 |bool b=>exact fun _=> .bool b
 |str l=>exact fun _=> .str l
 |tuple ds vs hl _ ih=>exact fun hf=> .tuple ds vs hl fun i d v e1 e2=>ih i d v e1 e2 (Gj (by simpa only[D.flat]using hf) e1)
 |_=>intro hf;simp only[D.flat,Bool.false_eq_true]at hf
theorem Lp {n m:Nat} : ∀ {l:List D},D.bL n m l=true→∀ {i:Nat} {d:D},l[i]? = some d→d.ok n m=true
 | [],_,i,d,e=>by simp at e
 |a::l,h,i,d,e=>by
  simp only[D.bL,Bool.and_eq_true]at h
  cases i with
  |zero=>simp at e;subst e;exact h.1
  |succ i=>exact Lp h.2 (by simpa using e)
theorem Rel.Cw {M:Map} {s:St} {w w':World} (r:Rel M s w) (Cw : ∀ k,k<w.heap.size→w'.heap[k]? = w.heap[k]?) (hs:w.heap.size≤w'.heap.size) (h1:w'.os=w.os) (h2:w'.tape=w.tape) (h3:w'.output=w.output) :
 Rel M s w'∧Ext M s w M s w':=by
 refine⟨⟨fun p o v e=>?_,fun o ds e=>?_,r.jD,r.inj,fun t n e=>?_,r.fa,r.fM⟩,⟨Le.refl M s,fun k hk _ _=>Cw k hk,fun o h h'=>by rcases h with h|h;omega;exact(h rfl).elim,fun t b c z h e=> .inl ⟨h,c,z,e⟩,fun _ _ h=>(h rfl).elim,hs,h1,h2,h3⟩⟩
 ·obtain⟨h1,h2⟩:=r.comm p o v e
  refine⟨?_,h2⟩
  rw[← h1]
  simp only[World.cell?,Cw _ (r.Aw e)]
 ·obtain⟨vs,T,h1,h2⟩:=r.obj o ds e
  exact⟨vs,T,h1.keep (Cw _ h1.lt),h2⟩
 ·rcases r.tok t n e with h | ⟨p,cap,z,vs,T,h1,h2,h3⟩
  ·exact .inl h
  ·exact .inr ⟨p,cap,z,vs,T,h1,by rw[Cw _ (jX h2)];exact h2,h3⟩
theorem aG.ajg {P:Program} {f:FuncId} {args:List D} {d:D} {s:St} {o g z:Nat} {rows:List (List D)} {k:Nat} (hk:args[k]? = some (.dZ z o g rows.length)) {more:List D}
 (dT:s.ah[o]? = some (.int .i64 (g:Int)::(rows.flatten++more))) (hs : ∀ row∈rows,row.length=z) (h:aG P f (D.jm o g rows args) S0 d S0) (ha:D.bL 0 0 (D.jm o g rows args)=true)
 (hd:d.flat=true):aG P f args s d s:=by
 intro M w fC r hl dL yK
 have hD:=(List.getElem?_eq_some_iff.1 hk).1
 obtain⟨b0,ajh,A,_,_,hm,_⟩:=(yK k _ _ hk (Array.getElem?_eq_getElem (by omega))).xD
 have gP:nI s o g=some (rows.flatten++more):=by unfold nI;rw[dT];simp
 obtain⟨us,T,cap,hh,xG,Cs,auM,hle,gM,jl⟩:=r.H7 hm gP
 have Fi:o<s.ah.length:=(List.getElem?_eq_some_iff.1 dT).1
 have hGo : ∀ q,M.G (M.mu o) q=none:=r.jD o Fi
 let M':Map:= {M with G:=fun b q=>if b=M.mu o then us[q]? else M.G b q}
 have pT : ∀ b,b≠M.mu o→∀ q,M'.G b q=M.G b q:=fun b hb q=>if_neg hb
 have le:Le M s M' s:=⟨fun b q v hq=>by
  by_cases hb:b=M.mu o
  ·subst hb;rw[hGo]at hq;cases hq
  ·rw[pT b hb];exact hq,Nat.le_refl _,fun _ _=> .refl _,Nat.le_refl _,fun t n' _ e=>⟨n',e,Nat.le_refl _,fun _=>rfl⟩⟩
 have iy : ∀ (i:Nat) (row:List D) (j:Nat) (d:D),rows[i]? = some row→row[j]? = some d→(rows.flatten++more)[i*z+j]? = some d:=by
  have gen : ∀ (rows:List (List D)),(∀ row∈rows,row.length=z)→∀ (i:Nat) (row:List D) (j:Nat) (d:D),rows[i]? = some row→row[j]? = some d→rows.flatten[i*z+j]? = some d:=by
   intro rows
   induction rows with
   |nil=>intro _ i row j d e1;simp at e1
   | cons a rows ih=>
    intro hs i row j d e1 e2
    have AY:=hs a (List.mem_cons_self ..)
    rw[List.flatten_cons]
    cases i with
    |zero=>
     simp at e1;subst e1
     rw[Nat.zero_mul,Nat.zero_add,List.getElem?_append_left (List.getElem?_eq_some_iff.1 e2).1];exact e2
    |succ i=>
     rw[List.getElem?_append_right (by rw[Nat.add_mul];omega),AY,show(i+1)*z+j - z=i*z+j by rw[Nat.add_mul];omega]
     exact ih (fun q hq=>hs q (List.mem_cons_of_mem _ hq)) i row j d (by simpa using e1) e2
  intro i row j d e1 e2
  have:=gen rows hs i row j d e1 e2
  rw[List.getElem?_append_left (List.getElem?_eq_some_iff.1 this).1];exact this
 have g1 : ∀ (i:Nat) (row:List D) (j:Nat) (d:D),rows[i]? = some row→row[j]? = some d→∃ u,M'.G (M.mu o) (0+(i*z+j))=some u:=fun i row j d e1 e2=>by
  have hD:=(List.getElem?_eq_some_iff.1 (iy i row j d e1 e2)).1
  refine⟨us[i*z+j]'(by omega), ?_⟩
  show(if M.mu o=M.mu o then us[0+(i*z+j)]? else _)=_
  rw[if_pos rfl,Nat.zero_add]
  exact Array.getElem?_eq_getElem _
 have g2 : ∀ (i:Nat) (row:List D) (j:Nat) (d:D) (u:Value),rows[i]? = some row→row[j]? = some d→M'.G (M.mu o) (0+(i*z+j))=some u→RD M' s d u:=fun i row j d u e1 e2 eu=>by
  have D8:(if M.mu o=M.mu o then us[0+(i*z+j)]? else M.G (M.mu o) (0+(i*z+j)))=some u:=eu
  rw[if_pos rfl,Nat.zero_add]at D8
  exact(jl _ d u (iy i row j d e1 e2) D8).mono le
 have r0:Rel M' S0 w:=⟨fun b q v hq=>by
  have mz:(if b=M.mu o then us[q]? else M.G b q)=some v:=hq
  by_cases hb:b=M.mu o
  ·rw [if_pos hb]at mz
   rw[hb,iZ hh]
   exact⟨mz,gM v (Array.mem_of_getElem? mz)⟩
  ·rw [if_neg hb]at mz
   exact r.comm b q v mz,fun o ds e=>by simp[S0]at e,fun o h=>by simp[S0]at h,fun o _ h=>by simp[S0]at h,fun t n e=>by simp[S0]at e,
  fun t b c z o hl _ ho=>by simp[S0]at ho,fun t t' b c z c' z' hl=>by obtain⟨n,hn⟩:=hl;simp[S0]at hn⟩
 have l0:Laid M' S0 w:=fun q cs hq=>⟨(hl q cs hq).1,fun o ho=>by simp[S0]at ho,fun t c z ht=>by obtain⟨n,hn⟩:=ht;simp[S0]at hn⟩
 have a0 : ∀ (i:Nat) (d:D) (v:Value),(D.jm o g rows args)[i]? = some d→fC[i]? = some v→RD M' S0 d v:=fun i d0 v e1 e2=>by
  have pC:=Lp ha e1
  rw[oi,List.getElem?_map,Option.map_eq_some_iff]at e1
  obtain⟨d1,e1,rfl⟩:=e1
  have wh:=((yK i d1 v e1 e2).mono le).fD (M:=M') hm xG hs g1 g2
  exact RD.BQ (M:=M') (M0:=M') (s:=s) (s0:=S0) (os:= []) (ts:= []) rfl (by simp) rfl (by simp) (by simp) rfl wh _ (qm _ _ _ pC) pC
 refine(h M' w fC r0 l0 (by rw[dL,oi,List.length_map]) a0).mono fun e w' ⟨M2,d2,v,s2,h1,⟨h2,h3⟩,hx,_,h4⟩=>?_
 subst h2 h3
 have Cw : ∀ k,k<w.heap.size→w'.heap[k]? = w.heap[k]? :=fun k hk=>hx.kept k hk (fun o ho=>by simp[S0]at ho) (fun t c z ht=>by obtain⟨n,hn⟩:=ht;simp[S0]at hn)
 obtain⟨r',e'⟩:=r.Cw Cw hx.size hx.os hx.tape hx.output
 exact⟨M,d2,v,s,h1,⟨rfl,rfl⟩,e',r',h4.flat hd⟩
section
variable {P:Program} {B:fP} {nt:Nat}
theorem bG.uq {f:FuncId} {res:List (Nat×Option (Bool×Nat))} {body:AC} {args:List D} {s:St} {R:D→St→Prop} (h0:Has P f nt res body) (hl:Nat.ble args.length nt=true)
 (h : ∀ (B:fP) (Q:Exit→Tm→St→Prop),B.s=s→SX res R=Q→jW P B nt body Q (mI 0 args) s):bG P f args s R:=by
 obtain⟨fn,hf,hc⟩:=h0
 refine bG.HC (bG.P8 (Q:=R) hf hc (Nat.le_of_ble_eq_true hl) fun B hB=>iA (h B _ hB rfl)) fun d s1 h=>⟨d,s1,Wk.refl _,gn.refl _,rfl,h⟩
theorem gE {res:List (Nat×Option (Bool×Nat))} {R:D→St→Prop} {tm:Tm} {s:St} {e:Exit} {Q:Exit→Tm→St→Prop} (hQ:SX res R=Q) (h : ∃ l,aV res tm s=some l∧R (aY l) s) (he:e = .ret∨e = .normal:=by first|exact .inl rfl|exact .inr rfl):Q e tm s:=by
 subst hQ
 rcases he with rfl|rfl<;>exact h
def upD (R:D→St→Prop) (d:D) (s:St):Prop:=∃ d' s',Wk d d'∧gn s.ah s'.ah∧s.au=s'.au∧R d' s'
theorem bG.up {f:FuncId} {args:List D} {s:St} {R:D→St→Prop} (h:bG P f args s (upD R)):bG P f args s R:=
 bG.HC h fun d s1 ⟨d',s',h1,h2,h3,h4⟩=>⟨d',s',h1,h2,h3,h4⟩
def vb (tm:Tm):Tm→Prop
 | []=>True
 |(k,d)::r=>Wk (tm.get k) d∧vb tm r
theorem vb.get {tm:Tm} : ∀ {bn:Tm},vb tm bn→∀ t,Wk (tm.get t) (bn.get t)
 | [],_,t=>Wk.junk _
 |(k,d)::r,h,t=>by
  simp only[Tm.get]
  split
  ·rename_i hk;subst hk;exact h.1
  ·exact vb.get h.2 t
theorem aa8 (tm:Tm):vb tm [] = True:=nd rfl
theorem aa9 (tm:Tm) (k:Nat) (d:D) (r:Tm):vb tm ((k,d)::r)=(Wk (tm.get k) d∧vb tm r):=nd rfl
attribute [go_sem] aa8 aa9
theorem Holds.pE {tm bn:Tm} {s:St} {act:Act} {w:World} (ht:vb tm bn) (h:Holds B nt tm s act w):Holds B nt bn s act w:=by
 obtain⟨M,e,r,hr,h1,h2⟩:=h
 exact⟨M,e,r,fun k=>ht.get k _ _ _ (hr k),h1,h2⟩
theorem br.pE {a:AC} {Q:Exit→Tm→St→Prop} {tm bn:Tm} {s:St} (ht:vb tm bn) (h:br P B nt a Q bn s):br P B nt a Q tm s:=fun c hc act w hh=>h c hc act w (hh.pE ht)
theorem lr.pE {a r:AC} {Q:Exit→Tm→St→Prop} {tm bn:Tm} {s:St} (ht:vb tm bn) (h:lr P B nt a r Q bn s):lr P B nt a r Q tm s:=fun c rest hc hr act w hh=>h c rest hc hr act w (hh.pE ht)
theorem Sem.pE {a:AC} {Q:Exit→Tm→St→Prop} {tm bn:Tm} {s:St} (ht:vb tm bn) (h:Sem P B nt a Q bn s):Sem P B nt a Q tm s:=fun c hc act w hh=>h c hc act w (hh.pE ht)
end
theorem fQ {s:St} {o:Nat} {r:List D} (h:s.ah[o]? = some r):o<s.ah.length:=(List.getElem?_eq_some_iff.1 h).1
theorem Lq {s:St} {a b:Nat} {r r':List D} (h:s.ah[a]? = some r) (h':s.ah[b]? = some r') (hn:r≠r'):a≠b:=fun e=>by subst e;rw[h]at h';cases h';exact hn rfl
end Go.Abs
namespace Go.Abs
theorem aG.Ak {P:Program} {f:Nat} {args:List D} {s0 s:St} {o off n m:Nat} {row:List D} (h:aG P f args s0 (.ptr o off) s) (ho:s.ah[o]? = some row) (hn:s0.ah.length≤n) (zW:n≤o) (hm:s0.au.length≤m) :
 aG P f args s0 (.dt (D.gh n m row) off) (s.cut n m):=by
 intro M0 w0 fC r0 ko aji ha
 refine(h M0 w0 fC r0 ko aji ha).mono ?_
 rintro en w ⟨M,d,v0,s',rfl,⟨rfl,rfl⟩,e,r,hv⟩
 have xB:=hv.Ax
 have pJ:v0 = .pointer (some ⟨M.mu o,off,none⟩):=hv.rS.1
 have Fi:o<s'.ah.length:=(List.getElem?_eq_some_iff.1 ho).1
 obtain⟨vs,T,hh,dL,⟨gM,_⟩,jl⟩:=r.obj o row ho
 replace hh:w.heap[M.mu o]? = some (.cells vs T (0,0)):=hh.cells xB
 let M':Map:= {M with G:=fun b q=>if b=M.mu o then vs[q]? else M.G b q}
 have hGo : ∀ q,M.G (M.mu o) q=none:=r.jD o Fi
 have le:Le M s' M' s':=⟨fun b q v hq=>by
  show(if b=M.mu o then vs[q]? else M.G b q)=some v
  by_cases hb:b=M.mu o
  ·subst hb;rw[hGo]at hq;cases hq
  ·rw[if_neg hb];exact hq,Nat.le_refl _,fun _ _=> .refl _,Nat.le_refl _,fun t n' _ e=>⟨n',e,Nat.le_refl _,fun _=>rfl⟩⟩
 have hD : ∀ q,q<(s'.cut n m).ah.length→q<s'.ah.length∧q≠o:=fun q h=>by rw[nM]at h;omega
 have wi:w0.heap.size≤M.mu o:=e.tw o (.inl (by omega)) Fi
 have ec:=e.cut hn hm
 have lec:Le M (s'.cut n m) M' (s'.cut n m):=⟨le.G,Nat.le_refl _,fun _ _=> .refl _,Nat.le_refl _,fun t n' _ e=>⟨n',e,Nat.le_refl _,fun _=>rfl⟩⟩
 have rc:=r.cut n m
 have pT : ∀ b,b≠M.mu o→∀ q,M'.G b q=M.G b q:=fun b hb q=>if_neg hb
 refine⟨M',_,v0,_,rfl,⟨rfl,rfl⟩,⟨ec.le.trans lec,ec.kept,ec.tw,ec.qh,fun b q eA=>?_,ec.size,ec.os,ec.tape,ec.output⟩,⟨fun b q v hq=>?_,fun q ds hq=>?_,fun q hq wS=>?_,rc.inj,fun t n' D0=>?_,rc.fa,rc.fM⟩, ?_⟩
 ·by_cases hb:b=M.mu o
  ·subst hb;exact .inl wi
  ·rw[pT b hb]at eA;exact ec.rO b q eA
 ·have mz:(if b=M.mu o then vs[q]? else M.G b q)=some v:=hq
  by_cases hb:b=M.mu o
  ·rw [if_pos hb]at mz
   rw[hb,iZ hh]
   exact⟨mz,gM v (Array.mem_of_getElem? mz)⟩
  ·rw [if_neg hb]at mz
   exact r.comm b q v mz
 ·obtain⟨fy,T',h3,h4,h5,h6⟩:=rc.obj q ds hq
  exact⟨fy,T',h3,h4,h5,fun i d v e1 e2=>(h6 i d v e1 e2).mono lec⟩
 ·obtain⟨h3,h4⟩:=hD q hq
  show M'.G (M.mu q) wS=none
  rw[pT _ (fun e=>h4 (r.inj q o h3 Fi e))]
  exact r.jD q h3 wS
 ·rcases rc.tok t n' D0 with h3 | ⟨b,cap,z,fy,T',h3,h4,h5,h6,h7⟩
  ·exact .inl h3
  ·refine .inr ⟨b,cap,z,fy,T',h3,h4,h5,h6,fun wS C6=> ?_,h7.2⟩
   rw[pT _ (fun e=>r.fa t b cap z o (u6 ⟨n',D0⟩) h3 Fi e.symm)]
   exact h7.1 wS C6
 ·rw [pJ]
  have:=RD.dt (M:=M') (s:=s'.cut n m) (D.gh n m row) off (M.mu o) 0 (fun i d e1=>?_) (fun i d u e1 eu=>?_)
  ·simpa using this
  ·rw [mR,List.getElem?_map,Option.map_eq_some_iff]at e1
   obtain⟨d0,e1,rfl⟩:=e1
   have hi:=(List.getElem?_eq_some_iff.1 e1).1
   refine⟨vs[i]'(by omega), ?_⟩
   show(if M.mu o=M.mu o then vs[0+i]? else _)=_
   rw[if_pos rfl,Nat.zero_add]
   exact Array.getElem?_eq_getElem _
  ·rw [mR,List.getElem?_map,Option.map_eq_some_iff]at e1
   obtain⟨d0,e1,rfl⟩:=e1
   have D8:(if M.mu o=M.mu o then vs[0+i]? else M.G (M.mu o) (0+i))=some u:=eu
   rw[if_pos rfl,Nat.zero_add]at D8
   exact((jl i d0 u e1 D8).fg n m).mono lec
theorem aG.goK {P:Program} {f:FuncId} {res:List (Nat×Option (Bool×Nat))} {body:AC} {args:List D} {s:St} {d:D} {s':St} {nt:Nat} (n m:Nat) (hn:s.ah.length≤n) (hm:s.au.length≤m) (h0:Has P f nt res body) (hl:Nat.ble args.length nt=true)
 (h : ∀ (B:fP) (Q:Exit→Tm→St→Prop),B.s=s→pL n m res d s'=Q→jW P B nt body Q (mI 0 args) s):aG P f args s d s':=by
 obtain⟨fn,hf,hc⟩:=h0
 refine bG.HC (bG.intro (Q:=fun d1 s1=>Wk d1 d∧gn s1.ah s'.ah∧s1.au=s'.au) hf hc (Nat.le_of_ble_eq_true hl) fun B hB=>(iA (h B _ hB rfl)).mono fun e tm s1 hr=>?_) fun d1 s1 ⟨h1,h2,h3⟩=>⟨d,s',h1,h2,h3,rfl,rfl⟩
 subst hB
 cases e with
 |normal=>obtain⟨l,h1,h2,h3,h4⟩:=hr;exact⟨l,h1,_,_,hn,hm,h2,h3,h4⟩
 |ret=>obtain⟨l,h1,h2,h3,h4⟩:=hr;exact⟨l,h1,_,_,hn,hm,h2,h3,h4⟩
 |exit id=>exact hr.elim
 |goto l=>exact hr.elim
 |panic ch=>exact hr.elim
 |outgrown=>exact hr.elim
section
variable (s:St) (o g off len k z size bytes:Nat) (kk:IntKind)
theorem ae3:nI s o g=match s.ah[o]? with|some (.int .i64 n::cells)=>if n=(g:Int)then some cells else none|_=>none:=nd rfl
theorem abd (agg:Bool):yw (.fi o g off) agg size s=match nI s o g with|some cells=>(match part cells off agg size with|some d=>some (d,s)|none=>none)|none=>none:=nd rfl
theorem Yj (r:List D):As (.fi o g off) (some r) size s=match nI s o g with
 |some cells=>if r.length=size∧off+size≤cells.length then some (.tuple [],⟨s.ah.set o (.int .i64 g::ie cells off r),s.au⟩)else none
 |none=>none:=nd rfl
theorem ae4:Ma (.fi o g off)=some (.fi o g off):=nd rfl
theorem Yk:DM (.fi o g k) off=some (.fi o g (k+off)):=nd rfl
theorem Yl:xy (.dZ z o g len) (.int kk (k:Int)) size=if k<len then(if z=size then some (.fi o g (k*z))else none)else none:=by
 simp only[xy]
 by_cases h1:k<len<;>by_cases h2:z=size<;>simp[h1,h2]
theorem ae5:E0 (.dZ z o g len)=some (.int .i64 len):=nd rfl
theorem abe:E0 (.dX z)=some (.int .i64 0):=nd rfl
theorem IW {z bytes:Nat} (t:Tag) (r:List D) (s:St) (hm:bytes+1≤bJ):Au z bytes (.dX z) (.slice t z [r]) s=some (.dZ z s.ah.length 0 1,⟨s.ah++ [.int .i64 ((0:Nat):Int)::r],s.au⟩):=by
 simp[Au,hm]
theorem ae6 (n m:Nat):D.fg n m (.dZ z o g len)=if o<n then .dZ z o g len else .junk:=nd (by simp only[D.fg])
theorem ae7 (n m:Nat):D.fg n m (.fi o g off)=if o<n then .fi o g off else .junk:=nd (by simp only[D.fg])
theorem ae8 (n m:Nat):D.fg n m (.dX z) = .dX z:=nd (by simp only[D.fg])
theorem abf:(D.dZ z o g len).row=some [.dZ z o g len]:=nd rfl
theorem abg:(D.fi o g off).row=some [.fi o g off]:=nd rfl
theorem abh:(D.dX z).row=some [.dX z]:=nd rfl
end
attribute [go_sem] ae3 abd Yj ae4 Yk Yl ae5 abe ae6 ae7 ae8 abf abg abh
theorem Wk.dX (z z':Nat):Wk (.slice .full z []) (.dX z'):=fun M s v h=>by
 cases h with
 |iG _ _ cap hc ht=>subst hc;exact .dX z' none
 |slice _ _ _ b k cap hl hs h1 h2 ht=>
  have:cap=0:=ht
  subst this
  exact .dX z' _
instance (z z':Nat):Ok (Wk (.slice .full z []) (.dX z')):=⟨Wk.dX z z'⟩
instance {a a' b b':List D} [Ok (ji a a')] [Ok (ji b b')] : Ok (ji (a++b) (a'++b')):=⟨ji.append Ok.out Ok.out⟩
theorem ae9 (n m:Nat) (a b:List D):D.gh n m (a++b)=D.gh n m a++D.gh n m b:=nd (by simp only[mR,List.map_append])
attribute [go_sem] ae9
def A1 (os:List Nat) (m:Nat) (ah:List (List D)):List Nat→List (List D)→Prop
 | [],[]=>True
 |o::l,ds::r=>ah[o]? = some (D.eQ os (List.range m) ds)∧D.bL os.length m ds=true∧A1 os m ah l r
 |_,_=>False
theorem A1.get {os:List Nat} {m:Nat} {ah:List (List D)} : ∀ {l:List Nat} {r:List (List D)},A1 os m ah l r→r.length=l.length∧∀ (i o:Nat) (ds:List D),l[i]? = some o→r[i]? = some ds→ah[o]? = some (D.eQ os (List.range m) ds)∧D.bL os.length m ds=true
 | [],[],_=>⟨rfl,fun i o ds h=>by simp at h⟩
 |o::l,ds::r,⟨h1,h2,h3⟩=>by
  obtain⟨g1,g2⟩:=h3.get
  refine⟨by simp[g1],fun i o' nA e1 e2=>?_⟩
  cases i with
  |zero=>simp at e1 e2;subst e1 e2;exact⟨h1,h2⟩
  |succ i=>exact g2 i o' nA (by simpa using e1) (by simpa using e2)
 | [],_::_,h=>h.elim
 |_::_,[],h=>h.elim
section
variable {P:Program} {B:fP} {nt:Nat} {a:AC} {Q:Exit→Tm→St→Prop} {tm:Tm} {s:St}
theorem br.ajj (hB:B.s = ⟨[],[]⟩) (os:List Nat) (gb:List (List D)) (bn:Tm) (ui:os.Nodup) (jh : ∀ o∈os,o<s.ah.length) (wW:A1 os s.au.length s.ah os gb) (QX:CF os (List.range s.au.length) tm bn)
 (h:br P B nt a Q bn ⟨gb,s.au⟩):br P B nt a Q tm s:=
 br.sel os gb bn ui jh (by rw[hB];exact Nat.zero_le _) (fun i h=>by rw[hB]at h;exact absurd h (Nat.not_lt_zero _)) (fun i o _ _=>by rw[hB];exact Nat.zero_le _) wW.get.1 wW.get.2 QX h
end
section
variable (os ts:List Nat) (n m:Nat)
theorem afa (o off:Nat):D.cJ os ts (.ptr o off)=match os[o]? with|some o'=> .ptr o' off|none=> .junk:=nd (by simp only[D.cJ]<;>rfl)
theorem afb (z o g len:Nat):D.cJ os ts (.dZ z o g len)=match os[o]? with|some o'=> .dZ z o' g len|none=> .junk:=nd (by simp only[D.cJ]<;>rfl)
theorem Ym (g:Tag) (z:Nat) (rows:List (List D)):D.cJ os ts (.slice g z rows) = .slice (g.cJ ts) z (D.nN os ts rows):=nd (by simp only[D.cJ])
theorem afc (l:List D):D.cJ os ts (.agg l) = .agg (D.eQ os ts l):=nd (by simp only[D.cJ])
theorem abi:D.cJ os ts .junk = .junk:=nd (by simp only[D.cJ])
theorem afd (k:IntKind) (x:Int):D.cJ os ts (.int k x) = .int k x:=nd (by simp only[D.cJ])
theorem abj (b:Bool):D.cJ os ts (.bool b) = .bool b:=nd (by simp only[D.cJ])
theorem afe (l:List UInt8):D.cJ os ts (.str l) = .str l:=nd (by simp only[D.cJ])
theorem abk:D.cJ os ts .dO = .dO:=nd (by simp only[D.cJ])
theorem abl (z:Nat):D.cJ os ts (.dX z) = .dX z:=nd (by simp only[D.cJ])
theorem Yn:D.eQ os ts [] = []:=nd (by simp only[D.eQ])
theorem Yo (d:D) (l:List D):D.eQ os ts (d::l)=D.cJ os ts d::D.eQ os ts l:=nd (by simp only[D.eQ])
theorem Uc:Tag.cJ ts .shared = .shared:=nd rfl
theorem abm:Tag.cJ ts .full = .full:=nd rfl
theorem Yp (o off:Nat):D.ok n m (.ptr o off)=decide (o<n):=nd (by simp only[D.ok])
theorem Yq (z o g len:Nat):D.ok n m (.dZ z o g len)=decide (o<n):=nd (by simp only[D.ok])
theorem QY (g:Tag) (z:Nat) (rows:List (List D)):D.ok n m (.slice g z rows)=(g.ok m && D.gU n m rows):=nd (by simp only[D.ok])
theorem Yr (l:List D):D.ok n m (.agg l)=D.bL n m l:=nd (by simp only[D.ok])
theorem Ud:D.ok n m .junk=true:=nd (by simp only[D.ok])
theorem Ys (k:IntKind) (x:Int):D.ok n m (.int k x)=true:=nd (by simp only[D.ok])
theorem Ue (b:Bool):D.ok n m (.bool b)=true:=nd (by simp only[D.ok])
theorem Yt (l:List UInt8):D.ok n m (.str l)=true:=nd (by simp only[D.ok])
theorem Uf:D.ok n m .dO=true:=nd (by simp only[D.ok])
theorem Ug (z:Nat):D.ok n m (.dX z)=true:=nd (by simp only[D.ok])
theorem abn:D.bL n m [] = true:=nd (by simp only[D.bL])
theorem abo (d:D) (l:List D):D.bL n m (d::l)=(D.ok n m d && D.bL n m l):=nd (by simp only[D.bL])
theorem Ol:Tag.ok m .shared=true:=nd rfl
theorem Uh:Tag.ok m .full=true:=nd rfl
theorem Yu (os:List Nat) (m:Nat) (ah:List (List D)):A1 os m ah [] [] = True:=nd rfl
theorem Yv (os:List Nat) (m:Nat) (ah:List (List D)) (o:Nat) (l:List Nat) (ds:List D) (r:List (List D)):A1 os m ah (o::l) (ds::r)=(ah[o]? = some (D.eQ os (List.range m) ds)∧D.bL os.length m ds=true∧A1 os m ah l r):=nd rfl
theorem abp (tm:Tm):CF os ts tm [] = True:=nd rfl
theorem abq (tm:Tm) (k:Nat) (d:D) (r:Tm):CF os ts tm ((k,d)::r)=(tm.get k=d.cJ os ts∧d.ok os.length ts.length=true∧CF os ts tm r):=nd rfl
theorem IX (rows:List (List D)) (h:D.gU 0 0 rows=true):D.nN os ts rows=rows:=jc os ts rows h
theorem D9 (row:List D) (h:D.bL 0 0 row=true):D.eQ os ts row=row:=fv os ts row h
theorem Om (rows:List (List D)) (h:D.gU 0 0 rows=true):D.gU n m rows=true:=mh (Nat.zero_le n) (Nat.zero_le m) rows h
theorem HF (row:List D) (h:D.bL 0 0 row=true):D.bL n m row=true:=ij (Nat.zero_le n) (Nat.zero_le m) row h
theorem Lr (p:Pg):D.eQ os ts (cB p)=cB p:=D9 _ _ _ (ki p)
theorem Yw (p:Sm):D.eQ os ts (bm p)=bm p:=D9 _ _ _ (qT p)
theorem Ui (l:List Pc):D.nN os ts (l.map cf)=l.map cf:=IX _ _ _ (wg l)
theorem Uj (l:List Sm):D.nN os ts (l.map bm)=l.map bm:=IX _ _ _ (qU l)
theorem QZ (l:List aE):D.nN os ts (l.map encStr)=l.map encStr:=IX _ _ _ (eU l)
theorem Yx (p:Pc):D.eQ os ts (cf p)=cf p:=D9 _ _ _ (yN p)
theorem abr (p:Pc):D.bL n m (cf p)=true:=HF _ _ _ (yN p)
theorem Q1 (p:Pg):D.bL n m (cB p)=true:=HF _ _ _ (ki p)
theorem abt (p:Sm):D.bL n m (bm p)=true:=HF _ _ _ (qT p)
theorem Yy (l:List Pc):D.gU n m (l.map cf)=true:=Om _ _ _ (wg l)
theorem Yz (l:List Sm):D.gU n m (l.map bm)=true:=Om _ _ _ (qU l)
theorem Uk (l:List aE):D.gU n m (l.map encStr)=true:=Om _ _ _ (eU l)
theorem On : ∀ l:List Pc,D.bL 0 0 ((l.map cf).flatten)=true:=fun l=>by
 have h:=wg l
 rw[DZ,List.all_eq_true]at h
 rw[xM,List.all_eq_true]
 intro d hd
 obtain⟨r,hr,hd⟩:=List.mem_flatten.1 hd
 have:=h r hr
 rw[xM,List.all_eq_true]at this
 exact this d hd
theorem Ul (l:List Pc):D.eQ os ts ((l.map cf).flatten)=(l.map cf).flatten:=D9 _ _ _ (On l)
theorem YA (l:List Pc):D.bL n m ((l.map cf).flatten)=true:=HF _ _ _ (On l)
theorem YB (l:List Pc):D.gh n m ((l.map cf).flatten)=(l.map cf).flatten:=gQ _ _ _ (On l)
end
attribute [go_sem] Yx abr afa afb Ym afc abi afd abj afe abk abl Yn Yo Uc abm Yp Yq QY Yr Ud Ys Ue Yt Uf Ug abn abo Ol Uh Yu Yv abp abq Lr Yw Ui Uj QZ Q1 abt Yy Yz Uk Ul YA YB
mutual
theorem IY (o g:Nat) (rows:List (List D)) : ∀ d,D.ok 0 0 d=true→D.fD o g rows d=d
 | .junk,_=>by simp[D.fD]
 | .int k n,_=>by simp[D.fD]
 | .bool b,_=>by simp[D.fD]
 | .str l,_=>by simp[D.fD]
 | .dO,_=>by simp[D.fD]
 | .val v,_=>by simp[D.fD]
 | .dX z,_=>by simp[D.fD]
 | .fh T o,h=>by simp[D.ok]at h
 | .fL o,h=>by simp[D.ok]at h
 | .dZ z o g len,h=>by simp[D.ok]at h
 | .fi o g off,h=>by simp[D.ok]at h
 | .ptr o f,h=>by simp[D.ok]at h
 | .fV f cs,h=>by
  simp only[D.ok]at h
  simp only[D.fD,rW o g rows cs h]
 | .dt r f,h=>by
  simp only[D.ok]at h
  simp only[D.fD,rW o g rows r h]
 | .slice t z rs,h=>by
  simp only[D.ok,Bool.and_eq_true]at h
  simp only[D.fD,xQ o g rows rs h.2]
 | .agg cs,h=>by
  simp only[D.ok]at h
  simp only[D.fD,rW o g rows cs h]
 | .tuple cs,h=>by
  simp only[D.ok]at h
  simp only[D.fD,rW o g rows cs h]
theorem rW (o g:Nat) (rows:List (List D)) : ∀ l,D.bL 0 0 l=true→D.jm o g rows l=l
 | [],_=>by simp[D.jm]
 |d::r,h=>by
  simp only[D.bL,Bool.and_eq_true]at h
  simp only[D.jm,IY o g rows d h.1,rW o g rows r h.2]
theorem xQ (o g:Nat) (rows:List (List D)) : ∀ l,D.gU 0 0 l=true→D.qV o g rows l=l
 | [],_=>by simp[D.qV]
 |d::r,h=>by
  simp only[D.gU,Bool.and_eq_true]at h
  simp only[D.qV,rW o g rows d h.1,xQ o g rows r h.2]
end
section
variable (o g:Nat) (rows:List (List D)) (n m:Nat)
theorem aff (q off:Nat):D.fD o g rows (.ptr q off) = .ptr q off:=nd (by simp only[D.fD])
theorem abu (q h off:Nat):D.fD o g rows (.fi q h off) = .fi q h off:=nd (by simp only[D.fD])
theorem afg (z o' g' len:Nat):D.fD o g rows (.dZ z o' g' len)=if o'=o∧g'=g∧len=rows.length then .slice .shared z rows else .dZ z o' g' len:=nd (by simp only[D.fD])
theorem YC (t:Tag) (z:Nat) (rs:List (List D)):D.fD o g rows (.slice t z rs) = .slice t z (D.qV o g rows rs):=nd (by simp only[D.fD])
theorem afh (l:List D):D.fD o g rows (.agg l) = .agg (D.jm o g rows l):=nd (by simp only[D.fD])
theorem abv:D.fD o g rows .junk = .junk:=nd (by simp only[D.fD])
theorem afi (k:IntKind) (x:Int):D.fD o g rows (.int k x) = .int k x:=nd (by simp only[D.fD])
theorem abw (b:Bool):D.fD o g rows (.bool b) = .bool b:=nd (by simp only[D.fD])
theorem afj (l:List UInt8):D.fD o g rows (.str l) = .str l:=nd (by simp only[D.fD])
theorem YD:D.jm o g rows [] = []:=nd (by simp only[D.jm])
theorem YE (d:D) (l:List D):D.jm o g rows (d::l)=D.fD o g rows d::D.jm o g rows l:=nd (by simp only[D.jm])
theorem ajk (p:Pg):D.jm o g rows (cB p)=cB p:=rW _ _ _ _ (ki p)
theorem afk (l:List Pc):D.qV o g rows (l.map cf)=l.map cf:=xQ _ _ _ _ (wg l)
theorem afl (l:List Sm):D.qV o g rows (l.map bm)=l.map bm:=xQ _ _ _ _ (qU l)
theorem abx (l:List aE):D.qV o g rows (l.map encStr)=l.map encStr:=xQ _ _ _ _ (eU l)
theorem afm (ds:List D):fzR o g rows n m ds=D.gh n m (D.jm o g rows ds):=nd rfl
theorem aby (tm:Tm):Wd o g rows m tm [] = True:=nd rfl
theorem abz (tm:Tm) (k:Nat) (d:D) (r:Tm):Wd o g rows m tm ((k,d)::r)=(Wk (((tm.get k).fD o g rows).fg o m) d∧Wd o g rows m tm r):=nd rfl
end
attribute [go_sem] aff abu afg YC afh abv afi abw afj YD YE ajk afk afl abx afm aby abz
end Go.Abs
namespace Go.Abs
mutual
def Ex.size:Ex→Nat
 |⟨_,_,_,kids⟩=>1+Ex.bc kids
def Ex.bc:List Ex→Nat
 | []=>0
 |x::l=>1+x.size+Ex.bc l
end
mutual
def Ex.depth:Ex→Nat
 |⟨_,_,_,kids⟩=>Ex.pW kids+1
def Ex.pW:List Ex→Nat
 | []=>0
 |x::l=>max x.depth (Ex.pW l)
end
def abA (x:Ex):Option Int:=if x.size<4611686018427387904 then some (x.depth:Int)else none
theorem Ex.dr {x:Ex} : ∀ {l:List Ex},x∈l→x.size<Ex.bc l
 |y::l,h=>by
  simp only[Ex.bc]
  rcases List.mem_cons.1 h with rfl|h
  ·omega
  ·have:=Ex.dr h;omega
theorem Ex.eW : ∀ (l:List Ex),l.length≤Ex.bc l
 | []=>Nat.le_refl _
 |x::l=>by simp only[Ex.bc,List.length_cons];have:=Ex.eW l;omega
def Oo (t:pV):Int×Int:=
 if t.kind != 4 then(0,0)
 else if t.text == [124,124]then(17,1)
 else if t.text == [38,38]then(16,2)
 else if t.text == [61,61]then(14,3)
 else if t.text == [33,61]then(15,3)
 else if t.text == [60]then(10,4)
 else if t.text == [60,61]then(11,4)
 else if t.text == [62]then(12,4)
 else if t.text == [62,61]then(13,4)
 else if t.text == [43]then(8,5)
 else if t.text == [45]then(9,5)
 else if t.text == [42]then(5,6)
 else if t.text == [47]then(6,6)
 else if t.text == [37]then(7,6)
 else(0,0)
structure Rd where
 l:List pV
 i:Nat
 code:Int
 IZ:Int
 n:Nat
abbrev Rd.good (r:Rd):Bool:=r.code==0
def Rd.ve (r:Rd):Option pV:=(aa5 r.l r.i).bind fun t=>if decide (0≤t.kind) && decide (t.kind≤4)then some t else none
def Rd.bad (c:Int) (r:Rd):Option Rd:=if r.good then r.ve.bind fun t=>some {r with code:=c,IZ:=t.pos}else some r
def Rd.is (text:aE) (r:Rd):Option Bool:=r.ve.bind fun t=>some ((t.kind==3 ||t.kind==4) && t.text==text)
def Rd.take (text:aE) (r:Rd):Option (Bool×Rd):=
 if !r.good then some (false,r)else(r.is text).bind fun b=>if !b then some (false,r)else some (true,{r with i:=r.i+1})
def Rd.want (text:aE) (r:Rd):Option Rd:=(r.take text).bind fun p=>if !p.1 then p.2.bad 3 else some p.2
def Rd.name (room:Bool) (r:Rd):Option (aE×Rd):=
 r.ve.bind fun t=>if !r.good ||t.kind != 1 then(r.bad 3).bind fun r=>some ([],r)else if !room then(r.bad 4).bind fun r=>some ([],r)else some (t.text,{r with i:=r.i+1})
def Rd.on (r:Rd):Rd:= {r with i:=r.i+1}
mutual
def Rd.one:Nat→Rd→Option (Ex×Rd)
 | 0,_=>none
 | n+1,r=>r.ve.bind fun t=>
  if !r.good then some (qS,r)
  else if t.kind==2 then some (⟨1,t.n,[],[]⟩,{r with i:=r.i+1})
  else if t.kind==1 then some (⟨2,0,t.text,[]⟩,{r with i:=r.i+1})
  else(r.take [40]).bind fun p=>
   if p.1 then(Rd.two n 1 p.2).bind fun x=>(x.2.want [41]).bind fun r=>some (x.1,r)
   else(p.2.take [45]).bind fun p=>
    if p.1 then(Rd.one n p.2).bind fun x=>some (⟨3,0,[],[x.1]⟩,x.2)
    else(p.2.take [33]).bind fun p=>
     if p.1 then(Rd.one n p.2).bind fun x=>some (⟨4,0,[],[x.1]⟩,x.2)
     else(p.2.bad 3).bind fun r=>some (qS,r)
def Rd.two:Nat→Int→Rd→Option (Ex×Rd)
 | 0,_,_=>none
 |n+1,least,r=>(Rd.one n r).bind fun x=>Rd.abB n least x.1 x.2
def Rd.abB:Nat→Int→Ex→Rd→Option (Ex×Rd)
 | 0,_,_,_=>none
 | n+1,least,x,r=>
  if r.good then r.ve.bind fun t=>
   if decide ((Oo t).2<least) ||(Oo t).1==0 then some (x,r)
   else(Rd.two n ((Oo t).2+1) {r with i:=r.i+1}).bind fun y=>Rd.abB n least ⟨(Oo t).1,0,[],[x,y.1]⟩ y.2
  else some (x,r)
end
def Rd.whole (n:Nat) (r:Rd):Option (Ex×Rd):=
 r.ve.bind fun t=>(Rd.two n 1 r).bind fun x=>
  if x.2.good then(abA x.1).bind fun d=>if decide (d > 20)then some (x.1,{x.2 with code:=4,IZ:=t.pos})else some (x.1,x.2)
  else some (x.1,x.2)
def Rd.names:Nat→List aE→Int→Rd→Option (List aE×Rd)
 | 0,_,_,_=>none
 | n+1,l,abC,r=>
  if r.good then(r.name (decide ((l.length:Int)<abC))).bind fun p=>(push 17 l p.1).bind fun l=>(p.2.take [44]).bind fun q=>
   if !q.1 then(q.2.want [59]).bind fun r=>some (l,r)else Rd.names n l abC q.2
  else some (l,r)
def Rd.ahead (sign:aE) (r:Rd):Option Bool:=
 if r.good then r.ve.bind fun t=>if t.kind==1 then(aa5 r.l (r.i+1)).bind fun u=>some (u.kind==4 && u.text==sign)else some false
 else some false
def Rd.labels:Nat→List aE→Rd→Option (List aE×Rd)
 | 0,_,_=>none
 |n+1,l,r=>(r.ahead [58]).bind fun b=>if b then r.ve.bind fun t=>(push 17 l t.text).bind fun l=>Rd.labels n l {r with i:=r.i+2}else some (l,r)
def Rd.abD (r:Rd):Option Bool:=
 r.ve.bind fun t=>some (if t.kind==1 then true else if t.kind != 3 then false
  else t.text == [105,102] ||t.text == [119,104,105,108,101] ||t.text == [98,114,101,97,107] ||t.text == [99,111,110,116,105,110,117,101] ||t.text == [114,101,116,117,114,110] ||t.text == [103,111,116,111] ||t.text == [114,101,97,100] ||t.text == [112,114,105,110,116])
def Rd.Oq (m:Nat):Nat→List Ar→Rd→Option (List Ar×Rd)
 | 0,_,_=>none
 | n+1,l,r=>
  if r.good then(r.take [114,101,102]).bind fun p=>
   if p.1 then(p.2.name true).bind fun x=>(push 81 l ⟨true,x.1,qS⟩).bind fun l=>(x.2.take [44]).bind fun c=>if !c.1 then some (l,c.2)else Rd.Oq m n l c.2
   else(Rd.whole m p.2).bind fun x=>(push 81 l ⟨false,[],x.1⟩).bind fun l=>(x.2.take [44]).bind fun c=>if !c.1 then some (l,c.2)else Rd.Oq m n l c.2
  else some (l,r)
def Rd.other (sign:aE) (r:Rd):Option Bool:=if r.good then(r.is sign).bind fun b=>some !b else some false
def Rd.call (m:Nat) (name proc:aE) (r:Rd):Option (Sm×Rd):=
 (r.want [40]).bind fun r=>(r.other [41]).bind fun b=>
  if b then(Rd.Oq m m [] r).bind fun q=>(q.2.want [41]).bind fun r=>(r.want [59]).bind fun r=>some (⟨0,4,[],name,proc,qS,false,q.1,[],[]⟩,r)
  else(r.want [41]).bind fun r=>(r.want [59]).bind fun r=>some (⟨0,4,[],name,proc,qS,false,[],[],[]⟩,r)
def Rd.named (m:Nat) (r:Rd):Option (Sm×Rd):=
 (r.name true).bind fun x=>(x.2.is [40]).bind fun b=>
  if b then Rd.call m [] x.1 x.2
  else(x.2.want [61]).bind fun r=>(r.ahead [40]).bind fun b=>
   if b then(r.name true).bind fun y=>Rd.call m x.1 y.1 y.2
   else(Rd.whole m r).bind fun y=>(y.2.want [59]).bind fun r=>some (⟨0,1,[],x.1,[],y.1,false,[],[],[]⟩,r)
def Rd.plain (m:Nat) (word:aE) (r:Rd):Option (Sm×Rd):=
 if word == [98,114,101,97,107]then some (⟨0,7,[],[],[],qS,false,[],[],[]⟩,r)
 else if word == [99,111,110,116,105,110,117,101]then some (⟨0,8,[],[],[],qS,false,[],[],[]⟩,r)
 else if word == [114,101,116,117,114,110]then(r.is [59]).bind fun b=>
  if !b then(Rd.whole m r).bind fun x=>some (⟨0,9,[],[],[],x.1,true,[],[],[]⟩,x.2)else some (⟨0,9,[],[],[],qS,false,[],[],[]⟩,r)
 else if word == [103,111,116,111]then(r.name true).bind fun x=>some (⟨0,10,[],x.1,[],qS,false,[],[],[]⟩,x.2)
 else if word == [114,101,97,100]then(r.name true).bind fun x=>some (⟨0,2,[],x.1,[],qS,false,[],[],[]⟩,x.2)
 else if word == [112,114,105,110,116]then(Rd.whole m r).bind fun x=>some (⟨0,3,[],[],[],x.1,false,[],[],[]⟩,x.2)
 else some (IS,r)
def Rd.head (m:Nat) (r:Rd):Option (Ex×Rd):=(r.want [40]).bind fun r=>(Rd.whole m r).bind fun x=>(x.2.want [41]).bind fun r=>some (x.1,r)
mutual
def Rd.rows (m:Nat):Nat→Int→Bool→Rd→Option ((List Sm×List aE)×Rd)
 | 0,_,_,_=>none
 |n+1,nest,body,r=>Rd.Wf m n nest body [] r
def Rd.Wf (m:Nat):Nat→Int→Bool→List Sm→Rd→Option ((List Sm×List aE)×Rd)
 | 0,_,_,_,_=>none
 | n+1,nest,body,out,r=>
  if r.good then(Rd.labels m [] r).bind fun l=>(l.2.is [125]).bind fun b=>
   if b && (body ||(l.1.length:Int)==0)then some ((out,l.1),{l.2 with i:=l.2.i+1})
   else(Rd.stmt m n nest l.2).bind fun s=>(push 209 out {s.1 with labels:=l.1}).bind fun out=>Rd.Wf m n nest body out s.2
  else some (([],[]),r)
def Rd.stmt (m:Nat):Nat→Int→Rd→Option (Sm×Rd)
 | 0,_,_=>none
 | n+1,nest,r=>r.abD.bind fun b=>
  if !b then(r.bad 3).bind fun r=>some (IS,r)
  else(inc r.n).bind fun k=>
   if decide ((k:Int) > 200) ||decide (nest > 12)then(({r with n:=k} : Rd).bad 4).bind fun r=>some (IS,r)
   else({r with n:=k} : Rd).ve.bind fun t=>
    if t.kind==1 then Rd.named m {r with n:=k}
    else if t.text == [105,102]then Rd.choice m n nest {r with n:=k,i:=r.i+1}
    else if t.text == [119,104,105,108,101]then(Rd.head m {r with n:=k,i:=r.i+1}).bind fun x=>(Rd.block m n nest x.2).bind fun b=>some (⟨0,6,[],[],[],x.1,false,[],b.1,[]⟩,b.2)
    else(Rd.plain m t.text {r with n:=k,i:=r.i+1}).bind fun s=>(s.2.want [59]).bind fun r=>some (s.1,r)
def Rd.block (m:Nat):Nat→Int→Rd→Option (List Sm×Rd)
 | 0,_,_=>none
 |n+1,nest,r=>(r.want [123]).bind fun r=>(ajf nest).bind fun k=>(Rd.rows m n k false r).bind fun p=>some (p.1.1,p.2)
def Rd.choice (m:Nat):Nat→Int→Rd→Option (Sm×Rd)
 | 0,_,_=>none
 |n+1,nest,r=>(Rd.head m r).bind fun x=>(Rd.block m n nest x.2).bind fun t=>(t.2.take [101,108,115,101]).bind fun q=>
  if q.1 then(Rd.block m n nest q.2).bind fun e=>some (⟨0,5,[],[],[],x.1,false,[],t.1,e.1⟩,e.2)
  else some (⟨0,5,[],[],[],x.1,false,[],t.1,[]⟩,q.2)
end
def Rd.params:Nat→List Pm→Rd→Option (List Pm×Rd)
 | 0,_,_=>none
 | n+1,l,r=>
  if r.good then(r.take [114,101,102]).bind fun q=>(q.2.name (decide ((l.length:Int)<8))).bind fun x=>(push 25 l ⟨x.1,q.1⟩).bind fun l=>(x.2.take [44]).bind fun c=>
   if !c.1 then some (l,c.2)else Rd.params n l c.2
  else some (l,r)
def Rd.vars (m:Nat):Nat→List aE→Rd→Option (List aE×Rd)
 | 0,_,_=>none
 |n+1,l,r=>(r.take [118,97,114]).bind fun q=>if q.1 then(Rd.names m l 16 q.2).bind fun x=>Rd.vars m n x.1 x.2 else some (l,q.2)
def Rd.Wg (m:Nat) (name:aE) (ps:List Pm) (r:Rd):Option (Pc×Rd):=
 (Rd.vars m m [] r).bind fun v=>(Rd.rows m m 1 true v.2).bind fun b=>some (⟨name,ps,v.1,b.1.1,b.1.2⟩,b.2)
def Rd.proc (m:Nat) (r:Rd):Option (Pc×Rd):=
 (r.name true).bind fun x=>(x.2.want [40]).bind fun r=>(r.other [41]).bind fun b=>
  if b then(Rd.params m [] r).bind fun q=>(q.2.want [41]).bind fun r=>(r.want [123]).bind fun r=>Rd.Wg m x.1 q.1 r
  else(r.want [41]).bind fun r=>(r.want [123]).bind fun r=>Rd.Wg m x.1 [] r
def Rd.globals (m:Nat):Nat→List aE→Rd→Option (List aE×Rd)
 | 0,_,_=>none
 |n+1,l,r=>(r.take [103,108,111,98,97,108]).bind fun q=>if q.1 then(Rd.names m l 16 q.2).bind fun x=>Rd.globals m n x.1 x.2 else some (l,q.2)
def Rd.abE (r:Rd):Option Bool:=if r.good then r.is [112,114,111,99]else some false
def Rd.Q2 (r:Rd):Option Bool:=if r.good then r.ve.bind fun t=>some (t.kind != 0)else some false
def Rd.procs (m:Nat):Nat→List Pc→Rd→Option (List Pc×Rd)
 | 0,_,_=>none
 | n+1,l,r=>r.abE.bind fun b=>
  if b then
   if(l.length:Int)==16 then(r.bad 4).bind fun r=>some (l,r)
   else(Rd.proc m {r with i:=r.i+1}).bind fun x=>(push 113 l x.1).bind fun l=>Rd.procs m n l x.2
  else r.Q2.bind fun b=>if b then(r.bad 3).bind fun r=>some (l,r)else some (l,r)
def Rd.program (m:Nat) (r:Rd):Option (Pg×Rd):=(Rd.globals m m [] r).bind fun g=>(Rd.procs m m [] g.2).bind fun q=>some (⟨g.1,q.1⟩,q.2)
mutual
def Ex.beq:Ex→Ex→Bool
 |⟨op,n,name,kids⟩,⟨op',n',Ot,Wh⟩=>if op != op' ||n != n' || !(name==Ot) ||(kids.length:Int) != (Wh.length:Int)then false else Ex.pM kids Wh
def Ex.pM:List Ex→List Ex→Bool
 | [],_=>true
 |_::_,[]=>true
 |x::l,y::l'=>if !Ex.beq x y then false else Ex.pM l l'
end
def Ar.bc:List Ar→Nat
 | []=>0
 |a::l=>1+a.x.size+Ar.bc l
mutual
def Sm.size:Sm→Nat
 |⟨_,_,labels,_,_,x,_,args,a7,aX⟩=>1+labels.length+x.size+Ar.bc args+Sm.bc a7+Sm.bc aX
def Sm.bc:List Sm→Nat
 | []=>0
 |s::l=>1+s.size+Sm.bc l
end
def Pc.size (f:Pc):Nat:=1+f.params.length+f.vars.length+f.fin.length+Sm.bc f.body
def Pc.bc:List Pc→Nat
 | []=>0
 |f::l=>1+f.size+Pc.bc l
def Pg.size (p:Pg):Nat:=1+p.globals.length+Pc.bc p.procs
mutual
def Sm.num (b:Bool) (n:Nat):Sm→Sm×Nat
 |⟨id,kind,labels,name,proc,x,has,args,a7,aX⟩=>
  (⟨if b then((n+1:Nat):Int)else id,kind,labels,name,proc,x,has,args,(Sm.tH b (n+1) a7).1,(Sm.tH b (Sm.tH b (n+1) a7).2 aX).1⟩,(Sm.tH b (Sm.tH b (n+1) a7).2 aX).2)
def Sm.tH (b:Bool) (n:Nat):List Sm→List Sm×Nat
 | []=>([],n)
 |s::l=>((Sm.num b n s).1::(Sm.tH b (Sm.num b n s).2 l).1,(Sm.tH b (Sm.num b n s).2 l).2)
end
def Pc.tH (n:Nat):List Pc→List Pc
 | []=> []
 |f::l=> {f with body:=(Sm.tH true n f.body).1}::Pc.tH (Sm.tH true n f.body).2 l
def Pg.number (p:Pg):Pg:= {p with procs:=Pc.tH 0 p.procs}
def Pg.YF (p:Pg):Option Pg:=if p.size<1073741824 then some p.number else none
theorem Sm.eW : ∀ (l:List Sm),l.length≤Sm.bc l
 | []=>Nat.le_refl _
 |x::l=>by simp only[Sm.bc,List.length_cons];have:=Sm.eW l;omega
theorem Ar.eW : ∀ (l:List Ar),l.length≤Ar.bc l
 | []=>Nat.le_refl _
 |x::l=>by simp only[Ar.bc,List.length_cons];have:=Ar.eW l;omega
theorem Pc.eW : ∀ (l:List Pc),l.length≤Pc.bc l
 | []=>Nat.le_refl _
 |x::l=>by simp only[Pc.bc,List.length_cons];have:=Pc.eW l;omega
theorem Ar.dr {x:Ar} : ∀ {l:List Ar},x∈l→x.x.size<Ar.bc l
 |y::l,h=>by
  simp only[Ar.bc]
  rcases List.mem_cons.1 h with rfl|h
  ·omega
  ·have:=Ar.dr h;omega
theorem Sm.dr {x:Sm} : ∀ {l:List Sm},x∈l→x.size<Sm.bc l
 |y::l,h=>by
  simp only[Sm.bc]
  rcases List.mem_cons.1 h with rfl|h
  ·omega
  ·have:=Sm.dr h;omega
theorem Pc.dr {x:Pc} : ∀ {l:List Pc},x∈l→x.size<Pc.bc l
 |y::l,h=>by
  simp only[Pc.bc]
  rcases List.mem_cons.1 h with rfl|h
  ·omega
  ·have:=Pc.dr h;omega
mutual
def Sm.jn:Sm→Nat
 |⟨_,_,_,_,_,_,_,_,a7,aX⟩=>1+Sm.iU a7+Sm.iU aX
def Sm.iU:List Sm→Nat
 | []=>0
 |s::l=>s.jn+Sm.iU l
end
structure Im where
 s:Sm
 proc:Int
 up:Int
 next:Int
 loop:Int
mutual
def Im.one (proc up next loop:Int) (out:List Im):Sm→List Im
 | ⟨id,kind,labels,name,pc,x,has,args,a7,aX⟩=>
  Im.rows proc ((out.length:Int)+1) (if kind==6 then(out.length:Int)+1 else next) (if kind==6 then(out.length:Int)+1 else loop)
   (Im.rows proc ((out.length:Int)+1) (if kind==6 then(out.length:Int)+1 else next) (if kind==6 then(out.length:Int)+1 else loop) (out++ [⟨⟨id,kind,labels,name,pc,x,has,args,a7,aX⟩,proc,up,next,loop⟩]) a7) aX
def Im.rows (proc up next loop:Int) (out:List Im):List Sm→List Im
 | []=>out
 |s::l=>Im.rows proc up next loop (Im.one proc up (if l.length=0 then next else(out.length:Int)+1+(s.jn:Int)) loop out s) l
end
theorem Im.abF (proc up next loop:Int) (out:List Im) (s:Sm):Im.one proc up next loop out s =
 Im.rows proc ((out.length:Int)+1) (if s.kind==6 then(out.length:Int)+1 else next) (if s.kind==6 then(out.length:Int)+1 else loop)
  (Im.rows proc ((out.length:Int)+1) (if s.kind==6 then(out.length:Int)+1 else next) (if s.kind==6 then(out.length:Int)+1 else loop) (out++ [⟨s,proc,up,next,loop⟩]) s.a7) s.aX:=by
 cases s;simp only[Im.one]
mutual
theorem YG (proc up next loop:Int) (out:List Im) : ∀ s:Sm,(Im.one proc up next loop out s).length=out.length+s.jn
 |⟨id,kind,labels,name,pc,x,has,args,a7,aX⟩=>by
  simp only[Im.one,Sm.jn]
  rw[gu,gu]
  simp only[List.length_append,List.length_cons,List.length_nil];omega
theorem gu (proc up next loop:Int) (out:List Im) : ∀ l:List Sm,(Im.rows proc up next loop out l).length=out.length+Sm.iU l
 | []=>rfl
 |s::l=>by
  simp only[Im.rows,Sm.iU]
  rw[gu,YG];omega
end
mutual
theorem Da : ∀ s:Sm,s.jn≤s.size
 |⟨_,_,labels,_,_,x,_,args,a7,aX⟩=>by
  have:=nE a7;have:=nE aX
  simp only[Sm.jn,Sm.size];omega
theorem nE : ∀ l:List Sm,Sm.iU l≤Sm.bc l
 | []=>Nat.le_refl _
 |s::l=>by
  have:=Da s;have:=nE l
  simp only[Sm.iU,Sm.bc];omega
end
structure Sh where
 L:List Im
 lo:List Int
 hi:List Int
def Sh.go (i:Nat) (h:Sh):List Pc→Sh
 | []=>h
 |f::l=>Sh.go (i+1) ⟨Im.rows i 0 (-1) 0 h.L f.body,h.lo++ [(h.L.length:Int)+1],h.hi++ [((Im.rows i 0 (-1) 0 h.L f.body).length:Int)+1]⟩ l
def Pg.aT (p:Pg):Sh:=Sh.go 0 ⟨[],[],[]⟩ p.procs
def YH:Nat:=3
def Wi:Nat:=4
def Wj:Nat:=5
def Um:Nat:=6
def Wl:Nat:=7
def Wm:Nat:=8
def YI:Nat:=9
def Wn:Nat:=10
def Wo:Nat:=11
def Un:Nat:=12
def Wp:Nat:=13
def vf:Nat:=14
def w7:Nat:=15
def w8:Nat:=16
def rX:Nat:=17
def adX:Nat:=18
def ZD:Nat:=19
def sC:Nat:=20
def tJ:Nat:=21
def ZE:Nat:=22
def ZF:Nat:=23
def Wq:Nat:=24
def ZG:Nat:=25
def afn:Nat:=26
def adY:Nat:=27
def pw:Nat:=28
def mV:Nat:=29
def adZ:Nat:=30
def abG:Nat:=31
def ad0:Nat:=32
def afo:Nat:=33
def YJ:Nat:=34
def Wr:Nat:=35
def qX:Nat:=36
def ZH:Nat:=37
def oj:Nat:=38
def w9:Nat:=39
def jA:Nat:=40
def gd:Nat:=41
def kC:Nat:=42
def kI:Nat:=43
def jd:Nat:=44
def ik:Nat:=45
def oV:Nat:=46
def ox:Nat:=47
def qn:Nat:=48
def oy:Nat:=49
def abH:Nat:=50
def Ls:Nat:=51
def Ou:Nat:=52
def xa:Nat:=53
def ad1:Nat:=54
def pX:Nat:=55
def Uo:Nat:=56
def abI:Nat:=57
def Uq:Nat:=58
def ad2:Nat:=59
def afp:Nat:=60
def ZI:Nat:=61
def afq:Nat:=62
def Ws:Nat:=63
def mW:Nat:=64
def nP:Nat:=65
def kj:Nat:=66
def ZJ:Nat:=67
def qY:Nat:=68
def kV:Nat:=69
def uD:Nat:=70
def jS:Nat:=71
def jT:Nat:=72
def vg:Nat:=73
def oW:Nat:=74
def fY:Nat:=75
def lB:Nat:=76
def iE:Nat:=77
def jN:Nat:=78
def dY:Nat:=79
def oI:Nat:=80
def pY:Nat:=81
def kD:Nat:=82
def afr:Nat:=83
def abJ:Nat:=84
def ad3:Nat:=85
def ZK:Nat:=86
def Pv:Nat:=87
def Lt:Nat:=88
def abK:Nat:=89
def ZL:Nat:=90
def Ov:Nat:=91
def Ow:Nat:=92
def Lu:Nat:=93
def Q3:Nat:=94
def lP:Nat:=95
def qd:Nat:=96
def vh:Nat:=97
def tL:Nat:=98
def xb:Nat:=99
def Wt:Nat:=100
def afs:Nat:=101
def Wu:Nat:=102
def YK:Nat:=103
def qZ:Nat:=104
def A2:Nat:=105
def yO:Nat:=106
def tM:Nat:=107
def mn:Nat:=108
def kq:Nat:=109
def sD:Nat:=110
def fR:Nat:=111
def wj:Nat:=112
def mX:Nat:=113
def gF:Nat:=114
def bZ:Nat:=115
def abL:Nat:=116
def abM:Nat:=117
def abN:Nat:=118
def Wv:Nat:=119
def KS:Nat:=120
def Pw:Nat:=121
def YL:Nat:=122
def abO:Nat:=123
def abP:Nat:=124
def aft:Nat:=125
def afu:Nat:=126
def Ox:Nat:=127
def n9:Nat:=128
def fS:Nat:=129
def oJ:Nat:=130
def qe:Nat:=131
def vi:Nat:=132
def q5:Nat:=133
def pZ:Nat:=134
def vj:Nat:=135
def q6:Nat:=136
def rY:Nat:=137
def abQ:Nat:=138
def afv:Nat:=139
def Ww:Nat:=140
def xc:Nat:=141
def oX:Nat:=142
def q7:Nat:=143
def tO:Nat:=144
def kW:Nat:=145
def oY:Nat:=146
def afw:Nat:=147
def abR:Nat:=148
def abS:Nat:=149
def abT:Nat:=150
def ZM:Nat:=151
def ad4:Nat:=152
def ad5:Nat:=153
def ahO:Nat:=154
def Wx:Nat:=155
def ZN:Nat:=156
def ZO:Nat:=157
def abU:Nat:=158
def ad6:Nat:=159
def ZP:Nat:=160
def abV:Nat:=161
def afx:Nat:=162
def afy:Nat:=163
def Wy:Nat:=164
def YM:Nat:=165
def abW:Nat:=166
def kJ:Nat:=167
def q8:Nat:=168
def vk:Nat:=169
def vl:Nat:=170
def tP:Nat:=171
def xd:Nat:=172
def jo:Nat:=173
def jJ:Nat:=174
def xe:Nat:=175
def yP:Nat:=176
def q9:Nat:=177
def yQ:Nat:=178
def abX:Nat:=179
def ad7:Nat:=180
def afz:Nat:=181
def abY:Nat:=182
def YN:Nat:=183
def afA:Nat:=184
def ad8:Nat:=185
def afB:Nat:=186
def ad9:Nat:=187
def aea:Nat:=188
def rf:Nat:=189
def gG:Nat:=190
def oK:Nat:=191
def tQ:Nat:=192
def Ea:Nat:=193
def Wz:Nat:=194
def jq:Nat:=195
def tR:Nat:=196
def rZ:Nat:=197
def abZ:Nat:=198
def ab0:Nat:=199
def aeb:Nat:=200
def YO:Nat:=201
def aec:Nat:=202
def afC:Nat:=203
def KT:Nat:=204
def ZQ:Nat:=205
def ZR:Nat:=206
def iK:Nat:=207
def A3:Nat:=208
def DG:Nat:=209
def A4:Nat:=210
def Ch:Nat:=211
def BU:Nat:=212
def xu:Nat:=213
def Sz:Nat:=214
def Ah:Nat:=215
def Db:Nat:=216
def SA:Nat:=217
def SB:Nat:=218
def ab1:Nat:=219
def aed:Nat:=220
def aee:Nat:=221
def ZS:Nat:=222
def ab2:Nat:=223
def DH:Nat:=224
def Kg:Nat:=225
def KU:Nat:=226
def Ai:Nat:=227
def EY:Nat:=228
def Q4:Nat:=229
def EZ:Nat:=230
abbrev AI.o (t:Nat) (a:AO):AI:= .op (some t) none a
abbrev AI.g (t c:Nat) (b:Bool) (a:AO):AI:= .op (some t) (some (c,b)) a
abbrev AI.c (t f:Nat) (l:List X):AI:= .call (some t) none f l
abbrev AI.d (t c:Nat) (b:Bool) (f:Nat) (l:List X):AI:= .call (some t) (some (c,b)) f l
abbrev AI.m (t:Nat) (x:X):AI:= .op (some t) none (.mv x)
abbrev bC:X:= .s 0
abbrev bA:X:= .s 1
abbrev dz:X:= .s 2
abbrev cH:X:= .s 3
abbrev fF:X:= .s 4
abbrev cm:X:= .s 5
abbrev dA:X:= .s 6
abbrev cZ:X:= .s 7
abbrev de:X:= .s 8
abbrev dw:X:= .s 9
abbrev cb:X:= .s 10
abbrev dk:X:= .s 11
abbrev dd:X:= .s 12
abbrev dm:X:= .s 13
abbrev cT:X:= .s 14
abbrev dF:X:= .s 15
abbrev dn:X:= .s 16
abbrev dJ:X:= .s 17
abbrev dG:X:= .s 18
abbrev ey:X:= .s 19
abbrev eC:X:= .s 20
abbrev ez:X:= .s 21
abbrev eI:X:= .s 22
abbrev eD:X:= .s 23
abbrev e8:X:= .s 24
abbrev e9:X:= .s 25
abbrev fx:X:= .s 26
abbrev fA:X:= .s 27
abbrev gv:X:= .s 28
abbrev gH:X:= .s 29
abbrev gX:X:= .s 30
abbrev gI:X:= .s 31
abbrev gY:X:= .s 32
abbrev gR:X:= .s 33
abbrev iV:X:= .s 34
abbrev gZ:X:= .s 35
abbrev iH:X:= .s 36
abbrev jr:X:= .s 37
abbrev jU:X:= .s 38
abbrev jG:X:= .s 39
abbrev ky:X:= .s 40
abbrev kl:X:= .s 41
abbrev kK:X:= .s 42
abbrev kz:X:= .s 43
abbrev kL:X:= .s 44
abbrev lu:X:= .s 45
abbrev lx:X:= .s 46
abbrev mr:X:= .s 47
abbrev ly:X:= .s 48
abbrev lz:X:= .s 49
abbrev lK:X:= .s 50
abbrev kM:X:= .s 51
abbrev kN:X:= .s 52
abbrev lA:X:= .s 53
abbrev lL:X:= .s 54
abbrev lM:X:= .s 55
abbrev nQ:X:= .s 56
abbrev oZ:X:= .s 57
abbrev oz:X:= .s 58
abbrev mY:X:= .s 59
abbrev qo:X:= .s 60
abbrev sa:X:= .s 61
abbrev rh:X:= .s 62
abbrev sb:X:= .s 63
abbrev sc:X:= .s 64
abbrev vm:X:= .s 65
abbrev xf:X:= .s 66
abbrev xg:X:= .s 67
abbrev vn:X:= .s 68
abbrev yR:X:= .s 69
abbrev yS:X:= .s 70
abbrev Dc:X:= .s 71
abbrev A5:X:= .s 72
abbrev A6:X:= .s 73
abbrev Dd:X:= .s 74
abbrev De:X:= .s 75
abbrev A7:X:= .s 76
abbrev Df:X:= .s 77
abbrev yT:X:= .s 78
abbrev Fj:X:= .s 79
abbrev Fk:X:= .s 80
abbrev Fl:X:= .s 81
abbrev I0:X:= .s 82
abbrev I1:X:= .s 83
abbrev I2:X:= .s 84
abbrev I3:X:= .s 85
abbrev I4:X:= .s 86
abbrev I5:X:= .s 87
abbrev I6:X:= .s 88
abbrev Dg:X:= .s 89
abbrev Fm:X:= .s 90
abbrev I7:X:= .s 91
abbrev Oy:X:= .s 92
abbrev Ur:X:= .s 93
abbrev Us:X:= .s 94
abbrev Ut:X:= .s 95
abbrev ab3:X:= .s 96
abbrev ab4:X:= .s 97
abbrev ab5:X:= .s 98
abbrev ab6:X:= .s 99
abbrev WA:X:= .s 100
abbrev WB:X:= .s 101
abbrev WC:X:= .s 102
abbrev WD:X:= .s 103
abbrev WE:X:= .s 104
abbrev WG:X:= .s 105
abbrev WH:X:= .s 106
abbrev WI:X:= .s 107
abbrev WJ:X:= .s 108
abbrev afD:X:= .s 109
abbrev WK:X:= .s 110
abbrev WL:X:= .s 111
abbrev Oz:X:= .s 112
abbrev WM:X:= .s 113
abbrev WN:X:= .s 114
abbrev WO:X:= .s 115
abbrev WQ:X:= .s 116
abbrev WR:X:= .s 117
abbrev WS:X:= .s 118
abbrev WT:X:= .s 119
abbrev WU:X:= .s 120
abbrev WV:X:= .s 121
abbrev WW:X:= .s 122
abbrev WX:X:= .s 123
abbrev WY:X:= .s 124
abbrev WZ:X:= .s 125
abbrev afE:X:= .s 126
abbrev W0:X:= .s 127
abbrev Eb:X:= .s 128
abbrev W1:X:= .s 129
abbrev W2:X:= .s 130
abbrev afF:X:= .s 131
abbrev afG:X:= .s 132
abbrev afH:X:= .s 133
abbrev afI:X:= .s 134
abbrev afJ:X:= .s 135
abbrev afK:X:= .s 136
abbrev afL:X:= .s 137
abbrev afM:X:= .s 138
abbrev afN:X:= .s 139
abbrev afO:X:= .s 140
abbrev afP:X:= .s 141
abbrev afQ:X:= .s 142
abbrev afR:X:= .s 143
abbrev afS:X:= .s 144
abbrev afT:X:= .s 145
abbrev afU:X:= .s 146
abbrev afV:X:= .s 147
abbrev afW:X:= .s 148
abbrev afX:X:= .s 149
abbrev afY:X:= .s 150
abbrev afZ:X:= .s 151
abbrev af0:X:= .s 152
abbrev af1:X:= .s 153
abbrev af2:X:= .s 154
abbrev af3:X:= .s 155
abbrev af4:X:= .s 156
abbrev af5:X:= .s 157
abbrev af6:X:= .s 158
abbrev af7:X:= .s 159
abbrev af8:X:= .s 160
abbrev af9:X:= .s 161
abbrev aga:X:= .s 162
abbrev agb:X:= .s 163
abbrev agc:X:= .s 164
abbrev agd:X:= .s 165
abbrev age:X:= .s 166
abbrev agf:X:= .s 167
abbrev agh:X:= .s 168
abbrev agi:X:= .s 169
abbrev agj:X:= .s 170
abbrev agk:X:= .s 171
abbrev agl:X:= .s 172
abbrev agm:X:= .s 173
abbrev agn:X:= .s 174
abbrev ago:X:= .s 175
abbrev Q04:AC:= .cond dd (.seq (.run [.o 6 (.mv (.k (.bool false)))]) .ret) .skip
abbrev Q09:AC:= .cond dF (.seq (.run [.o 6 (.mv (.k (.bool true)))]) .ret) .skip
abbrev Q0E:AC:= .cond eC (.seq (.run [.o 6 (.mv (.k (.bool true)))]) .ret) .skip
abbrev Q0L:AC:= .seq (.run [.o 30 (.aq cZ 1), .o 31 (.load gX false 1), .o 32 (.bin .mul (.k (.int .i64 2)) gI), .o 33 (.aq cZ 2), .o 34 (.load gR false 1), .o 35 (.bin .mul (.k (.int .i64 2)) iV), .o 36 (.build [(.int .i64 0),(.int .i64 0),(.int .i64 0),(.slice .full 0 []),(.slice .full 0 [])] [(1,(1,gY)),(2,(1,gZ))]), .c 37 oj [iH], .m 10 jr]) (.seq (.run [.m 38 dw, .o 39 (.nY .real jU jU), .o 40 (.nY (.toInt .i64) jG jG), .o 41 (.aq cZ 1), .o 42 (.load kl false 1), .o 43 (.bin .eql ky kK), .m 44 kz, .g 45 44 true (.mv dw), .g 46 44 true (.nY .imag lu lu), .g 47 44 true (.nY (.toInt .i64) lx lx), .g 48 44 true (.aq cZ 2), .g 49 44 true (.load ly false 1), .g 50 44 true (.bin .eql mr lz), .o 51 (.pick kL lK (.k (.bool false))), .m 52 kM, .g 53 52 true (.mv dw), .g 54 52 true (.mv dw), .g 55 52 true (.nY .CQ lA lL), .g 56 52 true (.mv cb), .g 57 52 true (.nY .HP lM nQ), .o 58 (.pick kN oZ (.k (.bool false))), .m 6 oz]) .ret)
abbrev Q0O:AC:= .seq (.seq (.run [.o 16 (.load cH true 2), .m 17 bA, .m 18 dz, .c 19 tJ [dn,dJ,dG], .o 20 (.un .not ey)]) Q0E) (.seq (.run [.o 22 (.load cH true 2), .m 23 bA, .m 24 dz,(.c 25 rX [eI,eD,e8,(.k (.slice .full 0 []))]), .m 21 e9, .o 26 (.ext ez 0), .o 27 (.ext ez 1), .o 7 (.alloc [(.int .i64 0),(.int .i64 0),(.int .i64 0),(.slice .full 0 []),(.slice .full 0 [])]), .op none none (.store cZ fx 5), .m 8 fA]) (.seq (.run [.o 28 (.load cZ true 5), .c 29 oj [gv], .m 9 gH]) Q0L))
abbrev Q0R:AC:= .seq (.run [.o 3 (.box bC), .o 6 (.mv (.k (.bool false)))]) (.seq (.seq (.run [.c 11 w7 [], .o 12 (.un .not dk)]) Q04) (.seq (.seq (.run [.o 13 (.load cH true 2), .c 14 w8 [dm], .o 15 (.un .not cT)]) Q09) Q0O))
abbrev Q0U:AC:= .run [.m 9 dz, .o 10 (.bin .eql dw (.k (.int .i64 0))), .m 11 cb, .g 12 11 true (.aq bA 0), .g 13 11 true (.load dd false 1), .g 14 11 true (.bin .eql dm (.k (.int .i64 1))), .o 15 (.pick dk cT (.k (.bool false))), .m 16 dF, .g 17 16 true (.aq bA 1), .g 18 16 true (.load dJ false 1), .g 19 16 true (.bin .eql dG (.k (.int .i64 7))), .o 20 (.pick dn ey (.k (.bool false))), .m 21 eC, .g 22 21 true (.aq bA 3), .g 23 21 true (.load eI false 1),(.g 24 21 true (.dv [(.int .i64 0)] 1 2 [(0,(.k (.int .i64 5))),(1,(.k (.int .i64 5)))])), .d 25 21 true pw [eD,e8], .o 26 (.pick ez e9 (.k (.bool false))), .m 27 fx, .g 28 27 true (.aq bA 4), .g 29 27 true (.load gv false 1), .g 30 27 true (.len gH), .g 31 27 true (.bin .eql gX (.k (.int .i64 2))), .o 32 (.pick fA gI (.k (.bool false))), .m 33 gY, .g 34 33 true (.aq bA 4), .g 35 33 true (.load iV false 1), .g 36 33 true (.cy gZ (.k (.int .i64 0)) 2), .g 37 33 true (.aq iH 0), .g 38 33 true (.load jr false 1), .g 39 33 true (.bin .eql jU (.k (.int .i64 2))), .o 40 (.pick gR jG (.k (.bool false))), .m 41 ky, .g 42 41 true (.aq bA 4), .g 43 41 true (.load kK false 1), .g 44 41 true (.cy kz (.k (.int .i64 1)) 2), .g 45 41 true (.aq kL 1), .g 46 41 true (.load lu false 1),(.g 47 41 true (.dv [(.int .i64 0)] 1 1 [(0,(.k (.int .i64 5)))])), .d 48 41 true pw [lx,mr], .o 49 (.pick kl ly (.k (.bool false))), .m 50 lz, .g 51 50 true (.load bA true 5), .d 52 50 true oj [kM], .g 53 50 true (.nY .real kN kN),(.g 54 50 true (.nY .eq lA (.k (.val (.float .f64 4619567317775286272))))), .o 55 (.pick lK lL (.k (.bool false))), .m 0 lM]
abbrev Q0W:AC:= .seq (.run [.c 4 w9 [],(.o 5 (.dv [(.int .i64 0)] 1 2 [(0,(.k (.int .i64 5))),(1,(.k (.int .i64 2)))])),(.c 6 rX [fF,(.k (.slice .full 0 [])),(.k (.int .i64 50)),cm]), .m 3 dA, .o 7 (.ext cH 0), .o 8 (.ext cH 1), .o 1 (.alloc [(.int .i64 0),(.int .i64 0),(.int .i64 0),(.slice .full 0 []),(.slice .full 0 [])]), .op none none (.store bA cZ 5), .m 2 de]) (.seq Q0U .ret)
abbrev Q0X:AC:= .seq (.run [.o 0 (.mv (.k (.bool false)))]) Q0W
abbrev Q15:AC:= .par [.o 26 (.aq cm 4), .o 27 (.load fx false 1), .o 28 (.aq cm 2), .o 29 (.load gv false 1), .o 30 (.aq cm 0), .o 31 (.load gX false 1), .m 32 cH, .c 33 gd [gI,gY], .c 34 jA [gH,gR], .c 35 jA [fA,iV], .m 3 gZ] [(4,0),(5,0),(6,0),(7,0),(2,0),(3,1),(8,0),(0,0),(1,2),(9,0),(10,0)]
abbrev Q1E:AC:= .seq (.seq (.run [.m 36 dA, .o 37 (.aq cm 1), .o 38 (.load jr false 1), .o 39 (.len jU), .o 40 (.bin .lss iH jG), .m 41 ky, .g 42 41 true (.mv cH), .g 43 41 true (.bin .leq kK (.k (.int .i64 20000))), .o 44 (.pick kl kz (.k (.bool false)))]) (.cond kL .skip (.exit 2))) (.seq (.block 3 (.run [.o 47 (.aq cm 1), .o 48 (.load mr false 1), .m 49 dA, .o 50 (.cy ly lz 2), .o 51 (.aq lK 0), .o 52 (.load kM false 1), .m 53 cH, .c 54 gd [kN,lA], .m 3 lL])) (.run [.m 45 dA, .o 46 (.bin .add lu (.k (.int .i64 1))), .m 6 lx]))
abbrev Q1J:AC:= .seq (.seq (.run [.o 6 (.mv (.k (.int .i64 0)))]) (.block 2 (.loop Q1E))) (.run [.o 55 (.aq cm 3), .o 56 (.load lM false 1), .m 57 cH, .c 58 kC [nQ,oZ], .m 3 oz])
abbrev Q1O:AC:= .seq (.block 1 (.seq (.run [.o 21 (.aq bA 1), .o 22 (.load ez false 1), .m 23 fF, .o 24 (.cy eI eD 5), .o 25 (.load e8 true 5), .o 5 (.alloc [(.str []),(.slice .full 0 []),(.slice .full 0 []),(.slice .full 0 []),(.slice .full 0 [])]), .op none none (.store cm e9 5)]) (.seq Q15 Q1J))) (.run [.m 19 fF, .o 20 (.bin .add ey (.k (.int .i64 1))), .m 4 eC])
abbrev Q1P:AC:= .seq (.seq (.run [.m 10 fF, .o 11 (.aq bA 1), .o 12 (.load dk false 1), .o 13 (.len dd), .o 14 (.bin .lss cb dm), .m 15 cT, .g 16 15 true (.mv cH), .g 17 15 true (.bin .leq dn (.k (.int .i64 20000))), .o 18 (.pick dF dJ (.k (.bool false)))]) (.cond dG .skip (.exit 0))) Q1O
abbrev Q1V:AC:= .seq (.seq (.run [.o 4 (.mv (.k (.int .i64 0)))]) (.block 0 (.loop Q1P))) (.seq (.run [.m 59 cH, .o 60 (.bin .leq mY (.k (.int .i64 20000))), .m 2 qo]) .ret)
abbrev Q1X:AC:= .seq (.run [.o 1 (.box bC), .o 2 (.mv (.k (.bool false)))]) (.seq (.run [.o 7 (.aq bA 0), .o 8 (.load cZ false 1), .c 9 jA [de,(.k (.int .i64 0))], .m 3 dw]) Q1V)
abbrev Q22:AC:= .cond e8 (.seq (.run [.o 25 (.build [(.int .i64 0),(.int .i64 0),(.int .i64 0),(.slice .full 0 []),(.slice .full 0 [])] []), .op none none (.store de e9 5), .o 9 (.mv (.k (.int .i64 1)))]) .ret) .skip
abbrev Q2C:AC:= .seq (.cond iH .skip (.exit 0)) (.seq (.block 1 (.run [.m 37 cb, .m 38 cb, .o 39 (.bQ jU), .o 40 (.aq jG 1), .o 41 (.load ky false 1), .o 42 (.alloc [(.int .i64 0)]), .o 43 (.dv [.dO] 1 1 [(0,kK)]), .o 44 (.app 1 8 kl kz), .o 45 (.bQ jr), .o 46 (.aq lu 1), .op none none (.store lx kL 1)])) (.run [.o 47 (.bin .add gZ (.k (.int .i64 1))), .m 35 mr]))
abbrev Q2D:AC:= .seq (.run [.o 36 (.bin .lss gZ iV)]) Q2C
abbrev Q2N:AC:= .cond nQ (.seq (.run [.o 12 (.mv (.k (.int .i64 0)))]) (.goto 0)) .skip
abbrev Q2O:AC:= .seq (.run [.m 55 dm,(.o 56 (.bin .eql lM (.k (.int .i64 (-1)))))]) Q2N
abbrev Q2S:AC:= .cond sb (.seq (.run [.m 64 cb, .o 65 (.bQ sc), .o 66 (.aq vm 6), .o 67 (.aq xf 0), .op none none (.store xg (.k (.int .i64 2)) 1)]) (.goto 2)) .skip
abbrev Q34:AC:= .seq (.run [.m 102 cb, .o 103 (.aq dk 0), .o 104 (.load WD true 13), .c 105 ox [WC,WE], .m 12 WG]) (.seq (.run [.m 106 cb, .o 107 (.bQ WH), .o 108 (.aq WI 6), .o 109 (.aq WJ 0), .o 110 (.load afD false 1), .o 111 (.bin .eql WK (.k (.int .i64 0)))]) (.cond WL (.goto 0) .skip))
abbrev Q38:AC:= .cond Us (.run [.m 96 cb, .o 97 (.aq dk 0), .o 98 (.load ab4 true 13), .c 99 oV [ab3,ab5], .m 13 ab6]) (.seq (.run [.o 101 (.bin .eql Fm (.k (.int .i64 9))), .m 100 WB]) (.cond WA Q34 (.run [.m 91 cb, .o 92 (.load dk true 17), .c 93 qn [I7,Oy], .m 13 Ur])))
abbrev Q3A:AC:= .block 2 (.seq (.run [.o 95 (.bin .eql Fm (.k (.int .i64 4))), .m 94 Ut]) Q38)
abbrev Q3K:AC:= .seq (.run [.m 127 cb, .o 128 (.bQ W0), .o 129 (.aq Eb 6), .o 130 (.load W1 true 5), .op none none (.store de W2 5), .o 9 (.mv (.k (.int .i64 0)))]) .ret
abbrev Q3M:AC:= .seq (.seq (.run [.m 121 cb, .o 122 (.bQ WV), .o 123 (.aq WW 6), .o 124 (.aq WX 0), .o 125 (.load WY false 1), .o 126 (.bin .eql WZ (.k (.int .i64 0)))]) (.cond afE (.goto 1) .skip)) (.seq (.label 2) Q3K)
abbrev Q3N:AC:= .seq (.run [.m 118 cb, .m 119 dd, .c 120 oy [WS,WT], .m 13 WU]) Q3M
abbrev Q3Q:AC:= .seq (.seq (.run [.m 112 cb, .o 113 (.bQ Oz), .o 114 (.aq WM 6), .o 115 (.aq WN 0), .o 116 (.load WO false 1), .o 117 (.bin .eql WQ (.k (.int .i64 0)))]) (.cond WR (.goto 1) .skip)) (.seq (.goto 2) (.seq (.label 0) Q3N))
abbrev Q3T:AC:= .seq (.run [.m 68 cb, .o 69 (.bQ vn), .o 70 (.aq yR 6), .o 71 (.aq yS 1), .o 72 (.load Dc false 1), .o 73 (.bin .add A5 (.k (.int .i64 1))), .o 74 (.bQ vn), .o 75 (.aq Dd 6), .o 76 (.aq De 1), .op none none (.store A7 A6 1)]) (.seq (.run [.m 77 cb, .o 78 (.bQ Df), .o 79 (.aq yT 0), .o 80 (.load Fj false 1), .o 81 (.bQ Fk), .o 82 (.aq Fl 2), .o 83 (.load I0 false 1), .m 84 dm, .o 85 (.bin .sub I2 (.k (.int .i64 1))), .o 86 (.cy I1 I3 17), .o 87 (.load I4 true 17), .op none none (.store dk I5 17)]) (.seq (.seq (.run [.o 88 (.aq dk 0), .o 89 (.aq I6 1), .o 90 (.load Dg false 1)]) Q3A) Q3Q))
abbrev Q3V:AC:= .seq Q2O (.seq (.seq (.run [.m 57 cb, .o 58 (.bQ oZ), .o 59 (.aq oz 6), .o 60 (.aq mY 1), .o 61 (.load qo false 1), .m 62 dz, .o 63 (.bin .eql sa rh)]) Q2S) Q3T)
abbrev Q3Y:AC:= .seq (.run [.o 12 (.mv (.k (.int .i64 0)))]) (.seq (.run [.m 48 cb, .m 49 cb, .o 50 (.bQ lz), .o 51 (.aq lK 0), .o 52 (.load kM false 1),(.c 53 ik [kN,(.k (.str [109,97,105,110]))]),(.c 54 jd [ly,lA,(.k (.slice .full 0 [])),(.k (.int .i64 0))]), .m 13 lL]) (.seq (.label 1) Q3V))
abbrev Q3Z:AC:= .seq (.run [.o 11 (.alloc [(.int .i64 0),(.int .i64 0),(.slice .full 0 []),(.str []),(.str []),(.int .i64 0),(.int .i64 0),(.str []),(.slice .full 0 []),(.bool false),(.slice .full 0 []),(.slice .full 0 []),(.slice .full 0 []),(.int .i64 0),(.int .i64 0),(.int .i64 0),(.int .i64 0)])]) Q3Y
abbrev Q40:AC:= .seq (.seq (.run [.o 32 (.aq fF 0), .o 33 (.load gY false 1), .o 34 (.len gR), .o 35 (.mv (.k (.int .i64 0)))]) (.block 0 (.loop Q2D))) Q3Z
abbrev Q42:AC:= .seq (.seq (.run [.m 14 dz, .o 15 (.bin .lss cT (.k (.int .i64 0))), .m 16 dF, .g 17 16 false (.mv dz), .g 18 16 false (.bin .gtr dJ (.k (.int .i64 1000000))), .o 19 (.pick dn (.k (.bool true)) dG), .m 20 ey, .g 21 20 false (.load fF true 2), .d 22 20 false sC [ez], .g 23 20 false (.un .not eI), .o 24 (.pick eC (.k (.bool true)) eD)]) Q22) (.seq (.run [.o 26 (.load fF true 2), .c 27 kI [fx], .m 28 bA, .m 29 cH, .o 30 (.build [.dO,(.slice .full 0 []),(.slice .full 0 []),(.slice .full 0 []),(.slice .full 0 []),(.slice .full 0 []),(.int .i64 0),(.int .i64 0),(.int .i64 0),(.slice .full 0 []),(.slice .full 0 [])] [(0,(1,fA)),(2,(1,gv)),(3,(1,gH))]), .o 31 (.box gX), .m 10 gI]) Q40)
abbrev Q43:AC:= .scope Q42
abbrev Q44:AC:= .seq (.run [.o 4 (.box bC), .o 8 (.alloc [(.int .i64 0),(.int .i64 0),(.int .i64 0),(.slice .full 0 []),(.slice .full 0 [])]), .o 9 (.mv (.k (.int .i64 0)))]) Q43
abbrev Q48:AC:= .seq (.run [.o 1 (.box bC), .o 2 (.mv (.k (.bool false)))]) (.seq (.run [.o 3 (.load bA true 2), .c 4 xa [cH], .o 5 (.Cp fF 0 false 1), .o 6 (.bin .eql cm (.k (.int .i64 0))), .m 2 dA]) .ret)
abbrev Q4C:AC:= .seq (.run [.o 3 (.box bC), .o 6 (.mv (.k (.bool false)))]) (.seq (.run [.o 7 (.load cH true 2), .c 8 sC [cZ], .m 9 de, .g 10 9 true (.mv dz), .g 11 9 true (.bin .geq cb (.k (.int .i64 0))), .o 12 (.pick dw dk (.k (.bool false))), .m 13 dd, .g 14 13 true (.mv dz), .g 15 13 true (.bin .leq cT (.k (.int .i64 400))), .o 16 (.pick dm dF (.k (.bool false))), .m 17 dn, .g 18 17 true (.mv bA), .g 19 17 true (.len dG), .g 20 17 true (.bin .leq ey (.k (.int .i64 100))), .o 21 (.pick dJ eC (.k (.bool false))), .m 6 ez]) .ret)
abbrev Q4H:AC:= .cond cb (.seq (.run [.o 4 (.mv (.k (.bool false)))]) .ret) .skip
abbrev Q4N:AC:= .par [.m 16 bC, .m 17 cm, .o 18 (.cy dn dJ 1), .o 19 (.load dG false 1), .m 20 bA, .m 21 cm, .o 22 (.cy eC ez 1), .o 23 (.load eI false 1), .o 24 (.bin .neq ey eD)] [(0,0),(1,0),(2,0),(3,0),(4,0),(5,0),(6,0),(7,0),(8,0)]
abbrev Q4Q:AC:= .cond e8 (.seq (.run [.o 4 (.mv (.k (.bool false)))]) .ret) .skip
abbrev Q4W:AC:= .seq (.cond cT .skip (.exit 0)) (.seq (.block 1 (.seq (.run [.m 15 dm, .m 5 dF]) (.seq Q4N Q4Q))) (.run [.o 25 (.bin .add dm (.k (.int .i64 1))), .m 13 e9]))
abbrev Q50:AC:= .seq (.run [.m 11 bC, .o 12 (.len dk), .o 13 (.mv (.k (.int .i64 0)))]) (.block 0 (.loop (.seq (.run [.o 14 (.bin .lss dm dd)]) Q4W)))
abbrev Q53:AC:= .seq Q50 (.seq (.run [.o 4 (.mv (.k (.bool true)))]) .ret)
abbrev Q55:AC:= .seq (.run [.o 4 (.mv (.k (.bool false)))]) (.seq (.seq (.run [.m 6 bC, .o 7 (.len dA), .m 8 bA, .o 9 (.len de), .o 10 (.bin .neq cZ dw)]) Q4H) Q53)
abbrev Q59:AC:= .seq (.run [.o 1 (.box bC), .o 2 (.mv (.k (.bool false)))]) (.seq (.run [.o 3 (.load bA true 4), .c 4 pX [cH,(.k (.int .i64 20))], .m 2 fF]) .ret)
abbrev Q5E:AC:= .cond eD (.seq (.run [.o 2 (.mv (.k (.bool false)))]) .ret) .skip
abbrev Q5L:AC:= .run [.o 33 (.aq cm 1), .o 34 (.load gR false 1), .o 35 (.len iV), .o 36 (.bin .gtr gZ (.k (.int .i64 8))), .m 37 iH, .g 38 37 false (.aq cm 2), .g 39 37 false (.load jU false 1), .g 40 37 false (.len jG), .g 41 37 false (.bin .gtr ky (.k (.int .i64 16))), .o 42 (.pick jr (.k (.bool true)) kl), .m 43 kK, .g 44 43 false (.aq cm 0), .g 45 43 false (.load kL false 1), .d 46 43 false nP [lu], .g 47 43 false (.un .not lx), .o 48 (.pick kz (.k (.bool true)) mr), .m 49 ly, .g 50 49 false (.aq cm 2), .g 51 49 false (.load lK false 1), .d 52 49 false mW [kM], .g 53 49 false (.un .not kN), .o 54 (.pick lz (.k (.bool true)) lA), .m 55 lL, .g 56 55 false (.aq cm 4), .g 57 55 false (.load nQ false 1), .d 58 55 false mW [oZ], .g 59 55 false (.un .not oz), .o 60 (.pick lM (.k (.bool true)) mY)]
abbrev Q5O:AC:= .cond qo (.seq (.run [.o 2 (.mv (.k (.bool false)))]) .ret) .skip
abbrev Q5X:AC:= .cond Dc (.seq (.run [.o 2 (.mv (.k (.bool false)))]) .ret) .skip
abbrev Q62:AC:= .seq (.block 3 (.seq (.run [.o 66 (.cy rh sc 2), .o 67 (.load xf true 2), .o 7 (.alloc [(.str []),(.bool false)]), .op none none (.store cZ xg 2)]) (.seq (.run [.o 68 (.aq cZ 0), .o 69 (.load vn false 1), .c 70 nP [yR], .o 71 (.un .not yS)]) Q5X))) (.run [.o 72 (.bin .add sc (.k (.int .i64 1))), .m 64 A5])
abbrev Q66:AC:= .block 2 (.loop (.seq (.run [.o 65 (.bin .lss sc sb)]) (.seq (.cond vm .skip (.exit 2)) Q62)))
abbrev Q6B:AC:= .cond Df (.seq (.run [.o 2 (.mv (.k (.bool false)))]) .ret) .skip
abbrev Q6D:AC:= .seq (.seq (.run [.o 61 (.aq cm 1), .o 62 (.load sa false 1), .o 63 (.len rh), .o 64 (.mv (.k (.int .i64 0)))]) Q66) (.seq (.run [.m 73 cH, .o 74 (.aq cm 3), .o 75 (.load Dd false 1), .c 76 kj [A6,De,(.k (.int .i64 1))], .o 77 (.un .not A7)]) Q6B)
abbrev Q6I:AC:= .seq (.block 1 (.seq (.run [.o 31 (.cy fA gH 5), .o 32 (.load gI true 5), .o 5 (.alloc [(.str []),(.slice .full 0 []),(.slice .full 0 []),(.slice .full 0 []),(.slice .full 0 [])]), .op none none (.store cm gY 5)]) (.seq (.seq Q5L Q5O) Q6D))) (.run [.o 78 (.bin .add gH (.k (.int .i64 1))), .m 29 yT])
abbrev Q6M:AC:= .block 0 (.loop (.seq (.run [.o 30 (.bin .lss gH gv)]) (.seq (.cond gX .skip (.exit 0)) Q6I)))
abbrev Q6Q:AC:= .seq (.seq (.run [.o 26 (.aq bA 1), .o 27 (.load fx false 1), .o 28 (.len fA), .o 29 (.mv (.k (.int .i64 0)))]) Q6M) (.seq (.run [.o 2 (.mv (.k (.bool true)))]) .ret)
abbrev Q6S:AC:= .seq (.seq (.run [.o 8 (.aq bA 0), .o 9 (.load de false 1), .o 10 (.len dw), .o 11 (.bin .gtr cb (.k (.int .i64 16))), .m 12 dk, .g 13 12 false (.aq bA 1), .g 14 12 false (.load dm false 1), .g 15 12 false (.len cT), .g 16 12 false (.bin .gtr dF (.k (.int .i64 16))), .o 17 (.pick dd (.k (.bool true)) dn), .m 18 dJ, .g 19 18 false (.aq bA 0), .g 20 18 false (.load ey false 1), .d 21 18 false mW [eC], .g 22 18 false (.un .not ez), .o 23 (.pick dG (.k (.bool true)) eI)]) Q5E) (.seq (.run [.o 24 (.build [(.int .i64 0)] []), .o 25 (.box e8), .m 3 e9]) Q6Q)
abbrev Q6T:AC:= .seq (.run [.o 1 (.box bC), .o 2 (.mv (.k (.bool false)))]) Q6S
open Go.Proofs
theorem o4:Has Tryz.prog vf 59 [(6,none)] Q0R:=⟨Tryz.f14,by kernel_rfl,by kernel_rfl⟩
set_option maxRecDepth 20000 in
theorem He : Has Tryz.prog w7 56 [(0, none)] Q0X := ⟨Tryz.f15, by kernel_rfl, by kernel_rfl⟩
theorem Hf:Has Tryz.prog w8 61 [(2,none)] Q1X:=⟨Tryz.f16,by kernel_rfl,by kernel_rfl⟩
theorem uE:Has Tryz.prog rX 131 [(8,(some (true,5))),(9,none)] Q44:=⟨Tryz.f17,by kernel_rfl,by kernel_rfl⟩
theorem Hg:Has Tryz.prog sC 7 [(2,none)] Q48:=⟨Tryz.f20,by kernel_rfl,by kernel_rfl⟩
theorem Ec:Has Tryz.prog tJ 22 [(6,none)] Q4C:=⟨Tryz.f21,by kernel_rfl,by kernel_rfl⟩
theorem vq:Has Tryz.prog pw 26 [(4,none)] Q55:=⟨Tryz.f28,by kernel_rfl,by kernel_rfl⟩
theorem Dh:Has Tryz.prog mV 5 [(2,none)] Q59:=⟨Tryz.f29,by kernel_rfl,by kernel_rfl⟩
theorem I8:Has Tryz.prog qX 79 [(2,none)] Q6T:=⟨Tryz.f36,by kernel_rfl,by kernel_rfl⟩
end Go.Abs
