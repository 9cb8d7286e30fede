/-
  What is proved here: part 1 of the road to the claim (Frame, Frame2, Walk, Par, Par1, Par2, Par3, Step, Wp, Types, SelA, Lend, Sym, Frz, WpA, Mir, MirTree, Cnt, MirFlat, Nums, Codes0, Have0).
  No conditions.
-/
import Derived.Test.YtpjadlleefgcpaaGreatRnJ0
import Derived.Attr
import Derived.Test.YtpjadlleefgcpaaGreatProg
import Derived.KernelRfl

set_option linter.unusedSimpArgs false
set_option linter.unusedVariables false
namespace Go.Abs
def Tag.ok (m:Nat):Tag→Bool
 | .tok t _=>decide (t<m)
 |_=>true
def Tag.cT (ts:List Nat):Tag→Tag
 | .tok t y=>match ts[t]? with|some t'=> .tok t' y|none=> .shared
 |g=>g
mutual
def D.ok (n m:Nat):D→Bool
 | .ptr o _=>decide (o<n)
 | .dS row _=>D.bM n m row
 | .slice g _ rows=>g.ok m && D.jd n m rows
 | .agg cs=>D.bM n m cs
 | .tuple ds=>D.bM n m ds
 | .gf _ o=>decide (o<n)
 | .ix _ cs=>D.bM n m cs
 | .gT o=>decide (o<n)
 | .dK _ o _ _=>decide (o<n)
 | .gh o _ _=>decide (o<n)
 |_=>true
def D.bM (n m:Nat):List D→Bool
 | []=>true
 |d::r=>D.ok n m d && D.bM n m r
def D.jd (n m:Nat):List (List D)→Bool
 | []=>true
 |d::r=>D.bM n m d && D.jd n m r
end
mutual
def D.cT (os ts:List Nat):D→D
 | .ptr o off=>match os[o]? with|some o'=> .ptr o' off|none=> .junk
 | .dS row off=> .dS (D.fa os ts row) off
 | .slice g z rows=> .slice (g.cT ts) z (D.pF os ts rows)
 | .agg cs=> .agg (D.fa os ts cs)
 | .tuple ds=> .tuple (D.fa os ts ds)
 | .junk=> .junk
 | .int k x=> .int k x
 | .bool b=> .bool b
 | .str l=> .str l
 | .eY=> .eY
 | .val v=> .val v
 | .gf T o=>match os[o]? with|some o'=> .gf T o'|none=> .junk
 | .ix f cs=> .ix f (D.fa os ts cs)
 | .gT o=>match os[o]? with|some o'=> .gT o'|none=> .junk
 | .dK z o g len=>match os[o]? with|some o'=> .dK z o' g len|none=> .junk
 | .gh o g off=>match os[o]? with|some o'=> .gh o' g off|none=> .junk
 | .fk z=> .fk z
def D.fa (os ts:List Nat):List D→List D
 | []=> []
 |d::r=>D.cT os ts d::D.fa os ts r
def D.pF (os ts:List Nat):List (List D)→List (List D)
 | []=> []
 |d::r=>D.fa os ts d::D.pF os ts r
end
theorem gP (os ts:List Nat) : ∀ l,D.fa os ts l=l.map (D.cT os ts)
 | []=>by simp[D.fa]
 |d::r=>by simp[D.fa,gP os ts r]
theorem ED (os ts:List Nat) : ∀ l,D.pF os ts l=l.map (D.fa os ts)
 | []=>by simp[D.pF]
 |d::r=>by simp[D.pF,ED os ts r]
theorem AA (n m:Nat) : ∀ l,D.bM n m l=l.all (D.ok n m)
 | []=>by simp[D.bM]
 |d::r=>by simp[D.bM,AA n m r]
theorem Hd (n m:Nat) : ∀ l,D.jd n m l=l.all (D.bM n m)
 | []=>by simp[D.jd]
 |d::r=>by simp[D.jd,Hd n m r]
theorem xr {n m:Nat} {l:List D} (h:D.bM n m l=true) {i:Nat} {d:D} (e:l[i]? = some d):D.ok n m d=true:=by
 rw[AA]at h;exact List.all_eq_true.1 h d (List.mem_of_getElem? e)
theorem ac6 {n m:Nat} {l:List (List D)} (h:D.jd n m l=true) {i:Nat} {d:List D} (e:l[i]? = some d):D.bM n m d=true:=by
 rw[Hd]at h;exact List.all_eq_true.1 h d (List.mem_of_getElem? e)
section
variable {M M0:Map} {s s0:St} {os ts:List Nat}
theorem jN.Bt (lV : ∀ (i:Nat) t,ts[i]? = some t→M0.be i=M.be t) (ht : ∀ (i t:Nat),ts[i]? = some t→s0.aA[i]? = s.aA[t]?) (hlen:s0.aA.length=ts.length) {g:Tag} {z len cap:Nat} {base:Option (Nat×Nat)} (nS:g.ok ts.length=true) (h:jN M s (g.cT ts) z len base cap):jN M0 s0 g z len base cap:=by
 cases g with
 |full=>exact h
 |shared=>exact h
 |tok t y=>
  have hD:t<ts.length:=by simpa[Tag.ok]using nS
  have e:ts[t]? = some ts[t]:=List.getElem?_eq_getElem hD
  simp only[Tag.cT,e]at h
  obtain⟨h1,h2⟩:=h
  refine⟨by omega,fun n hn=>?_⟩
  rw[ht t _ e]at hn
  rw[lV t _ e]
  exact h2 n hn
theorem RD.Bt (hG:M0.G=M.G) (km : ∀ (i:Nat) o,os[i]? = some o→M0.loc i=M.loc o) (jC:s0.al.length=os.length)
 (lV : ∀ (i:Nat) t,ts[i]? = some t→M0.be i=M.be t) (ht : ∀ (i t:Nat),ts[i]? = some t→s0.aA[i]? = s.aA[t]?) (hlen:s0.aA.length=ts.length) {d:D} {v:Value} (h:RD M s d v) :
 ∀ d0:D,d0.cT os ts=d→d0.ok os.length ts.length=true→RD M0 s0 d0 v:=by
 have oB : ∀ (i:Nat) o,os[i]? = some o→M0.mu i=M.mu o:=fun i o h=>congrArg Prod.fst (km i o h)
 have tag:=fun {g z len cap base}=>@jN.Bt M M0 s s0 ts lV ht hlen g z len cap base
 induction h with
 | junk v=>
  intro d0 e ok
  cases d0<;>simp only[D.cT]at e<;>try (cases e;done)
  ·exact .junk v
  ·rename_i o off
   have hD:o<os.length:=by simpa[D.ok]using ok
   rw[List.getElem?_eq_getElem hD]at e;cases e
  ·rename_i T o
   have hD:o<os.length:=by simpa[D.ok]using ok
   rw[List.getElem?_eq_getElem hD]at e;cases e
  ·rename_i o
   have hD:o<os.length:=by simpa[D.ok]using ok
   rw[List.getElem?_eq_getElem hD]at e;cases e
  ·rename_i z o g len
   have hD:o<os.length:=by simpa[D.ok]using ok
   rw[List.getElem?_eq_getElem hD]at e;cases e
  ·rename_i o g off
   have hD:o<os.length:=by simpa[D.ok]using ok
   rw[List.getElem?_eq_getElem hD]at e;cases e
 |fk z a=>intro d0 e ok;cases d0<;>simp only[D.cT]at e<;>first|(cases e;exact .fk _ _)|(split at e<;>cases e)|cases e
 |dK z o g len b cap A ho hm ha hl=>
  intro d0 e ok
  cases d0<;>simp only[D.cT]at e<;>first|(cases e;done)|skip
  all_goals try (split at e<;>cases e;done)
  rename_i z0 o0 g0 Rs
  have hD:o0<os.length:=by simpa[D.ok]using ok
  rw[List.getElem?_eq_getElem hD]at e
  cases e
  exact RD.dK (s:=s0) z o0 g len b cap A (by omega) ((congrArg Prod.snd (km o0 _ (List.getElem?_eq_getElem hD))).trans hm) ha hl
 |gh z o g off b cap A ho hm ha=>
  intro d0 e ok
  cases d0<;>simp only[D.cT]at e<;>first|(cases e;done)|skip
  all_goals try (split at e<;>cases e;done)
  rename_i o0 g0 X5
  have hD:o0<os.length:=by simpa[D.ok]using ok
  rw[List.getElem?_eq_getElem hD]at e
  cases e
  exact RD.gh (s:=s0) z o0 g off b cap A (by omega) ((congrArg Prod.snd (km o0 _ (List.getElem?_eq_getElem hD))).trans hm) ha
 |val v hv=>intro d0 e ok;cases d0<;>simp only[D.cT]at e<;>first|(cases e;exact .val _ hv)|(split at e<;>cases e)|cases e
 |gf T o v ho ht hv=>
  intro d0 e ok
  cases d0<;>simp only[D.cT]at e<;>first|(split at e<;>cases e;done)|skip
  all_goals try (cases e;done)
  rename_i T0 o0
  have hD:o0<os.length:=by simpa[D.ok]using ok
  rw[List.getElem?_eq_getElem hD]at e
  cases e
  have hl:=km o0 _ (List.getElem?_eq_getElem hD)
  exact .gf _ o0 v (by omega) ((congrArg (fun x=>x.2.ty?) hl).trans ht) (by rw[oB o0 _ (List.getElem?_eq_getElem hD)];exact hv)
 |int k x=>intro d0 e ok;cases d0<;>simp only[D.cT]at e<;>first|(cases e;exact .int _ _)|(split at e<;>cases e)|cases e
 |bool b=>intro d0 e ok;cases d0<;>simp only[D.cT]at e<;>first|(cases e;exact .bool _)|(split at e<;>cases e)|cases e
 |str l=>intro d0 e ok;cases d0<;>simp only[D.cT]at e<;>first|(cases e;exact .str _)|(split at e<;>cases e)|cases e
 |eY=>intro d0 e ok;cases d0<;>simp only[D.cT]at e<;>first|(cases e;exact .eY)|(split at e<;>cases e)|cases e
 |gT o ho hm=>
  intro d0 e ok
  cases d0<;>simp only[D.cT]at e<;>first|(cases e;done)|skip
  all_goals try (split at e<;>cases e;done)
  rename_i o0
  have hD:o0<os.length:=by simpa[D.ok]using ok
  rw[List.getElem?_eq_getElem hD]at e
  cases e
  rw[← oB o0 _ (List.getElem?_eq_getElem hD)]
  exact RD.gT (s:=s0) o0 (by omega) ((congrArg Prod.snd (km o0 _ (List.getElem?_eq_getElem hD))).trans hm)
 |ix f ds vs hl _ ih=>
  intro d0 e ok
  cases d0<;>simp only[D.cT]at e<;>first|(split at e<;>cases e;done)|skip
  all_goals try (cases e;done)
  rename_i f0 UZ
  simp only[D.ix.injEq]at e
  obtain⟨rfl,rfl⟩:=e
  simp only[D.ok]at ok
  rw[gP]at hl ih
  refine .ix _ UZ vs (by simpa using hl) (fun i d v e1 e2=>ih i _ v (by rw[List.getElem?_map,e1];rfl) e2 d rfl (xr ok e1))
 |ptr o off ho hm=>
  intro d0 e ok
  cases d0<;>simp only[D.cT]at e<;>first|(cases e;done)|skip
  all_goals try (split at e<;>cases e;done)
  rename_i o0 X5
  have hD:o0<os.length:=by simpa[D.ok]using ok
  rw[List.getElem?_eq_getElem hD]at e
  cases e
  rw[← oB o0 _ (List.getElem?_eq_getElem hD)]
  exact RD.ptr (s:=s0) o0 _ (by omega) (by rw[show M0.ob o0=_ from congrArg Prod.snd (km o0 _ (List.getElem?_eq_getElem hD))];exact hm)
 |dS row off b k h1 h2 ih=>
  intro d0 e ok
  cases d0<;>simp only[D.cT]at e<;>first|(split at e<;>cases e;done)|skip
  all_goals try (cases e;done)
  rename_i aoG X5
  simp only[D.dS.injEq]at e
  obtain⟨rfl,rfl⟩:=e
  simp only[D.ok]at ok
  rw[gP]at h1 ih
  refine .dS aoG X5 b k (fun i d e=>?_) (fun i d u e eu=>?_)
  ·rw[hG];exact h1 i _ (by rw[List.getElem?_map,e];rfl)
  ·rw[hG]at eu;exact ih i _ u (by rw[List.getElem?_map,e];rfl) eu d rfl (xr ok e)
 |jI g z cap hc rk=>
  intro d0 e ok
  cases d0<;>simp only[D.cT]at e<;>first|(split at e<;>cases e;done)|skip
  all_goals try (cases e;done)
  rename_i g0 z0 lx
  simp only[D.slice.injEq]at e
  obtain⟨rfl,rfl,e⟩:=e
  have:lx = []:=by cases lx<;>simp[D.pF]at e;rfl
  subst this
  simp only[D.ok,Bool.and_eq_true]at ok
  exact .jI g0 z0 cap hc (tag ok.1 rk)
 | mS z a cap=>
  intro d0 e ok
  cases d0<;>simp only[D.cT]at e<;>first|(split at e<;>cases e;done)|skip
  all_goals try (cases e;done)
  rename_i g0 z0 lx
  simp only[D.slice.injEq]at e
  obtain⟨hg,rfl,e⟩:=e
  have:lx = []:=by cases lx<;>simp[D.pF]at e;rfl
  subst this
  simp only[D.ok,Bool.and_eq_true]at ok
  have:g0 = .shared:=by
   cases g0 with
   |tok t y=>
    have ht:t<ts.length:=by simpa[Tag.ok]using ok.1
    simp[Tag.cT,ht]at hg
   |shared=>rfl
   |_=>simp[Tag.cT]at hg
  subst this
  exact .mS _ a cap
 | slice g z rows b k cap hl hs h1 h2 rk ih=>
  intro d0 e ok
  cases d0<;>simp only[D.cT]at e<;>first|(split at e<;>cases e;done)|skip
  all_goals try (cases e;done)
  rename_i g0 z0 lx
  simp only[D.slice.injEq]at e
  obtain⟨rfl,rfl,rfl⟩:=e
  simp only[D.ok,Bool.and_eq_true]at ok
  rw[ED]at hl hs h1 ih rk
  simp only[ED,List.length_map]at hl rk ⊢
  have eK : ∀ (i:Nat) (row:List D),lx[i]? = some row→(lx.map (D.fa os ts))[i]? = some (D.fa os ts row):=fun i row e=>by rw[List.getElem?_map,e];rfl
  have iU : ∀ (row:List D) (j:Nat) (d:D),row[j]? = some d→(D.fa os ts row)[j]? = some (D.cT os ts d):=fun row j d e=>by rw[gP,List.getElem?_map,e];rfl
  refine .slice g0 z0 lx b k cap hl (fun row hr=>?_) (fun i row j d e1 e2=>?_) (fun i row j d u e1 e2 eu=>?_) (tag ok.1 rk)
  ·have:=hs (D.fa os ts row) (List.mem_map.2 ⟨row,hr,rfl⟩)
   rwa [gP,List.length_map]at this
  ·rw[hG];exact h1 i _ j _ (eK i row e1) (iU row j d e2)
  ·rw[hG]at eu;exact ih i _ j _ u (eK i row e1) (iU row j d e2) eu d rfl (xr (ac6 ok.2 e1) e2)
 |agg cells vs hl h1 _ ih=>
  intro d0 e ok
  cases d0<;>simp only[D.cT]at e<;>first|(split at e<;>cases e;done)|skip
  all_goals try (cases e;done)
  rename_i UZ
  simp only[D.agg.injEq]at e
  subst e
  simp only[D.ok]at ok
  rw[gP]at hl ih
  refine .agg UZ vs (by simpa using hl) h1 (fun i d v e1 e2=>ih i _ v (by rw[List.getElem?_map,e1];rfl) e2 d rfl (xr ok e1))
 |tuple ds vs hl _ ih=>
  intro d0 e ok
  cases d0<;>simp only[D.cT]at e<;>first|(split at e<;>cases e;done)|skip
  all_goals try (cases e;done)
  rename_i UZ
  simp only[D.tuple.injEq]at e
  subst e
  simp only[D.ok]at ok
  rw[gP]at hl ih
  refine .tuple UZ vs (by simpa using hl) (fun i d v e1 e2=>ih i _ v (by rw[List.getElem?_map,e1];rfl) e2 d rfl (xr ok e1))
theorem RD.cT (hG:M0.G=M.G) (km : ∀ i,i<s0.al.length→∃ o,os[i]? = some o∧o<s.al.length∧M.loc o=M0.loc i)
 (lV : ∀ i,i<s0.aA.length→∃ t,ts[i]? = some t∧t<s.aA.length∧s.aA[t]? = s0.aA[i]? ∧M.be t=M0.be i) {d:D} {v:Value} (h:RD M0 s0 d v):RD M s (d.cT os ts) v:=by
 have tag : ∀ {g:Tag} {z len cap:Nat} {base:Option (Nat×Nat)},jN M0 s0 g z len base cap→jN M s (g.cT ts) z len base cap:=by
  intro g z len cap base h
  cases g with
  |full=>exact h
  |shared=>exact h
  |tok t y=>
   obtain⟨h1,h2⟩:=h
   obtain⟨t',e,hD,Ma,hb⟩:=lV t h1
   simp only[Tag.cT,e]
   refine⟨hD,fun n hn=>?_⟩
   rw[hb]
   exact h2 n (Ma ▸ hn)
 induction h with
 |junk v=>simp only[D.cT];exact .junk v
 |int k x=>simp only[D.cT];exact .int k x
 |bool b=>simp only[D.cT];exact .bool b
 |str l=>simp only[D.cT];exact .str l
 |eY=>simp only[D.cT];exact .eY
 |ptr o off ho hk=>
  obtain⟨o',e,hD,hm⟩:=km o ho
  simp only[D.cT,e]
  have hb:M.ob o'=M0.ob o:=congrArg Prod.snd hm
  have hm:M.mu o'=M0.mu o:=congrArg Prod.fst hm
  rw[← hm]
  exact .ptr o' off hD (by rw[hb];exact hk)
 |gT o ho hk=>
  obtain⟨o',e,hD,hm⟩:=km o ho
  simp only[D.cT,e]
  have hb:M.ob o'=M0.ob o:=congrArg Prod.snd hm
  have hm:M.mu o'=M0.mu o:=congrArg Prod.fst hm
  rw[← hm]
  exact .gT o' hD (by rw[hb];exact hk)
 |fk z a=>simp only[D.cT];exact .fk z a
 |dK z o g len b cap A ho hk ha hl=>
  obtain⟨o',e,hD,hm⟩:=km o ho
  simp only[D.cT,e]
  exact .dK z o' g len b cap A hD ((congrArg Prod.snd hm).trans hk) ha hl
 |gh z o g off b cap A ho hk ha=>
  obtain⟨o',e,hD,hm⟩:=km o ho
  simp only[D.cT,e]
  exact .gh z o' g off b cap A hD ((congrArg Prod.snd hm).trans hk) ha
 |ix f ds vs hl _ ih=>
  simp only[D.cT,gP]
  refine .ix f _ vs (by simpa using hl) (fun i d v e1 e2=>?_)
  simp only[List.getElem?_map,Option.map_eq_some_iff]at e1
  obtain⟨d',e1,rfl⟩:=e1
  exact ih i d' v e1 e2
 |val v hv=>simp only[D.cT];exact .val v hv
 |gf T o v ho ht hv=>
  obtain⟨o',e,hD,hm⟩:=km o ho
  simp only[D.cT,e]
  have h1:M.mu o'=M0.mu o:=congrArg Prod.fst hm
  have h2:M.ty o'=M0.ty o:=congrArg (fun x=>x.2.ty?) hm
  exact .gf T o' v hD (by rw[h2];exact ht) (by rw[h1];exact hv)
 | dS row off b k h1 h2 ih=>
  simp only[D.cT,gP]
  refine .dS _ off b k (fun i d e=>?_) (fun i d u e eu=>?_)
  ·simp only [List.getElem?_map,Option.map_eq_some_iff]at e
   obtain⟨d',e,rfl⟩:=e
   rw[← hG];exact h1 i d' e
  ·simp only [List.getElem?_map,Option.map_eq_some_iff]at e
   obtain⟨d',e,rfl⟩:=e
   rw[← hG]at eu;exact ih i d' u e eu
 |jI g z cap hc ht=>simp only[D.cT,D.pF];exact .jI _ z cap hc (tag ht)
 |mS z a cap=>simp only[D.cT,D.pF,Tag.cT];exact .mS z a cap
 | slice g z rows b k cap hl hs h1 h2 ht ih=>
  simp only[D.cT,ED]
  have hlen:(rows.map (D.fa os ts)).length=rows.length:=by simp
  have key:=RD.slice (M:=M) (s:=s) (g.cT ts) z (rows.map (D.fa os ts)) b k cap (by rw[hlen];exact hl) (fun row hr=>by
   obtain⟨lA,h',rfl⟩:=List.mem_map.1 hr
   rw[gP,List.length_map];exact hs lA h')
   (fun i row j d e1 e2=>by
    simp only[List.getElem?_map,Option.map_eq_some_iff]at e1
    obtain⟨lA,e1,rfl⟩:=e1
    rw[gP]at e2
    simp only[List.getElem?_map,Option.map_eq_some_iff]at e2
    obtain⟨d',e2,rfl⟩:=e2
    rw[← hG];exact h1 i lA j d' e1 e2)
   (fun i row j d u e1 e2 eu=>by
    simp only[List.getElem?_map,Option.map_eq_some_iff]at e1
    obtain⟨lA,e1,rfl⟩:=e1
    rw[gP]at e2
    simp only[List.getElem?_map,Option.map_eq_some_iff]at e2
    obtain⟨d',e2,rfl⟩:=e2
    rw[← hG]at eu;exact ih i lA j d' u e1 e2 eu)
   (by rw[hlen];exact tag ht)
  rw[hlen]at key
  exact key
 |agg cells vs hl h1 _ ih=>
  simp only[D.cT,gP]
  refine .agg _ vs (by simpa using hl) h1 (fun i d v e1 e2=>?_)
  simp only[List.getElem?_map,Option.map_eq_some_iff]at e1
  obtain⟨d',e1,rfl⟩:=e1
  exact ih i d' v e1 e2
 |tuple ds vs hl _ ih=>
  simp only[D.cT,gP]
  refine .tuple _ vs (by simpa using hl) (fun i d v e1 e2=>?_)
  simp only[List.getElem?_map,Option.map_eq_some_iff]at e1
  obtain⟨d',e1,rfl⟩:=e1
  exact ih i d' v e1 e2
def lC {α:Type} : List Nat→List α→List α→List α
 | [],new,l=>l++new
 |_::_,[],l=>l
 |o::os,x::xs,l=>lC os xs (l.set o x)
def kP (os:List Nat) (n k:Nat):List Nat:=os++(List.range k).map (n + ·)
theorem zE {α:Type} : ∀ (os:List Nat) (xs l:List α),os.length≤xs.length→(lC os xs l).length=l.length+(xs.length - os.length)
 | [],xs,l,_=>by simp[lC]
 |o::os,[],l,h=>by simp at h
 |o::os,x::xs,l,h=>by
  simp only[lC]
  rw[zE os xs _ (by simpa using h)]
  simp
theorem FZ {α:Type} : ∀ (os:List Nat) (xs l:List α),os.length≤xs.length→os.Nodup→(∀ o∈os,o<l.length)→
 (∀ (i:Nat) (o:Nat),os[i]? = some o→(lC os xs l)[o]? = xs[i]?)∧(∀ o,o<l.length→o∉os→(lC os xs l)[o]? = l[o]?)∧
 (∀ k,(lC os xs l)[l.length+k]? = xs[os.length+k]?)
 | [],xs,l,_,_,_=>by
  refine⟨by simp,fun o ho _=>by simp only[lC];rw[List.getElem?_append_left ho],fun k=>by simp only[lC];rw[List.getElem?_append_right (by omega)];simp⟩
 |o::os,[],l,h,_,_=>by simp at h
 | o::os,x::xs,l,h,hn,hD=>by
  simp only[List.nodup_cons]at hn
  have yF : ∀ q∈os,q<(l.set o x).length:=fun q hq=>by simpa using hD q (by simp[hq])
  obtain⟨h1,h2,h3⟩:=FZ os xs (l.set o x) (by simpa using h) hn.2 yF
  have ho:o<l.length:=hD o (by simp)
  simp only[lC]
  refine⟨fun i q e=>?_,fun q hq DA=>?_,fun k=>?_⟩
  ·cases i with
   |zero=>
    simp only[List.getElem?_cons_zero,Option.some.injEq]at e
    subst e
    rw[h2 o (by simpa using ho) hn.1]
    simp[ho]
   |succ i=>simpa using h1 i q (by simpa using e)
  ·have vD:q≠o:=fun e=>DA (by simp [e])
   rw[h2 q (by simpa using hq) (fun h=>DA (by simp[h])),List.getElem?_set_ne (Ne.symm vD)]
  ·have:=h3 k
   simp only[List.length_set]at this
   rw[this]
   simp only[List.length_cons]
   rw[show os.length+1+k=(os.length+k)+1 by omega];simp
theorem Fu (os:List Nat) (n k i:Nat):(kP os n k)[i]? = if i<os.length then os[i]? else if i<os.length+k then some (n+(i - os.length))else none:=by
 unfold kP
 split
 ·rename_i h;rw[List.getElem?_append_left h]
 ·rename_i h
  rw[List.getElem?_append_right (by omega)]
  split
  ·rename_i h2
   rw[List.getElem?_map,List.getElem?_range (by omega)];rfl
  ·rename_i h2
   rw[List.getElem?_eq_none]
   simp;omega
def posOf:List Nat→Nat→Option Nat
 | [],_=>none
 |x::r,o=>if x=o then some 0 else(posOf r o).map (· + 1)
theorem jP : ∀ {l:List Nat} {o i:Nat},posOf l o=some i→l[i]? = some o
 | x::r,o,i,h=>by
  simp only[posOf]at h
  split at h
  ·rename_i e;cases h;simp[e]
  ·cases hp:posOf r o with
   |none=>rw[hp]at h;cases h
   |some j=>rw[hp]at h;cases h;simpa using jP hp
theorem nT : ∀ {l:List Nat} {o i:Nat},l.Nodup→l[i]? = some o→posOf l o=some i
 | x::r,o,i,hn,h=>by
  simp only[List.nodup_cons]at hn
  simp only[posOf]
  cases i with
  |zero=>simp at h;simp[h]
  |succ i=>
   simp at h
   have:x≠o:=fun e=>hn.1 (by rw[e];exact List.mem_of_getElem? h)
   rw[if_neg this,nT hn.2 h];rfl
end
end Go.Abs
namespace Go.Abs
theorem Cw {l:List Nat} {n k:Nat} (h:l.Nodup) (hl : ∀ o∈l,o<n):(kP l n k).Nodup:=by
 unfold kP
 rw[List.nodup_append]
 refine⟨h, ?_,fun a ha b hb=>?_⟩
 ·rw [List.nodup_iff_pairwise_ne,List.pairwise_map]
  exact List.Pairwise.imp (fun h=>by omega) (List.nodup_iff_pairwise_ne.1 List.nodup_range)
 ·obtain⟨c,hc,rfl⟩:=List.mem_map.1 hb
  have:=hl a ha
  omega
def gF (M:Map) (os ts:List Nat):Map:=⟨M.G,fun i=>M.loc (os.getD i 0),fun i=>M.be (ts.getD i 0)⟩
def AB (M M0:Map) (os ts:List Nat):Map:=
 ⟨M0.G,fun o=>match posOf os o with|some i=>M0.loc i|none=>M.loc o,fun t=>match posOf ts t with|some i=>M0.be i|none=>M.be t⟩
section
variable {P:Program} {M:Map} {s s0:St} {w:World} {os ts:List Nat}
theorem uG {l:List Nat} {i o:Nat} (h:l[i]? = some o):l.getD i 0=o:=by simp[List.getD,h]
theorem Rel.sub (r:Rel M s w) (ur:os.Nodup) (xu:ts.Nodup) (jC : ∀ o∈os,o<s.al.length)
 (ho:s0.al.length=os.length) (qE : ∀ (i o:Nat) (ds:List D),os[i]? = some o→s0.al[i]? = some ds→s.al[o]? = some (D.fa os ts ds)∧D.bM os.length ts.length ds=true)
 (ht:s0.aA.length=ts.length) (vY : ∀ (i t:Nat),ts[i]? = some t→s0.aA[i]? = s.aA[t]?):Rel (gF M os ts) s0 w:=by
 have nth : ∀ i,i<s0.al.length→∃ o,os[i]? = some o∧o<s.al.length:=fun i hi=>⟨os[i],List.getElem?_eq_getElem (by omega),jC _ (List.getElem_mem _)⟩
 have loc : ∀ (i:Nat) o,os[i]? = some o→(gF M os ts).loc i=M.loc o:=fun i o h=>by simp only[gF,uG h]
 have mu : ∀ (i:Nat) o,os[i]? = some o→(gF M os ts).mu i=M.mu o:=fun i o h=>congrArg Prod.fst (loc i o h)
 have be : ∀ (i:Nat) t,ts[i]? = some t→(gF M os ts).be i=M.be t:=fun i t h=>by simp only[gF,uG h]
 have tth : ∀ t,s0.live t→∃ t',ts[t]? = some t'∧s.live t':=fun t ⟨n,hn⟩=>by
  have hD:=(List.getElem?_eq_some_iff.1 hn).1
  have e:ts[t]? = some ts[t]:=List.getElem?_eq_getElem (by omega)
  exact⟨_,e,n,by rw[← vY t _ e];exact hn⟩
 refine⟨r.comm,fun i ds e=>?_,fun i hi off=>?_,fun i i' hi iI e=>?_,fun t n e=>?_,fun t b c z i hl e hi=>?_,fun t t' b c z c' z' h h' e e'=>?_⟩
 ·obtain⟨o,h1,_⟩:=nth i (List.getElem?_eq_some_iff.1 e).1
  obtain⟨h2,h3⟩:=qE i o ds h1 e
  obtain⟨vs,T,g1,g2,g3,g4⟩:=r.obj o _ h2
  refine⟨vs,T,by rw[loc i o h1];exact g1,by rw[gP]at g2;simpa using g2,⟨g3.1,by rw[show(gF M os ts).ty i=M.ty o from congrArg (fun x=>x.2.ty?) (loc i o h1)];exact g3.2⟩,fun j d v e1 e2=>?_⟩
  exact RD.Bt (M:=M) (M0:=gF M os ts) (s:=s) rfl loc ho be vY ht (g4 j (d.cT os ts) v (by rw[gP,List.getElem?_map,e1];rfl) e2) d rfl (xr h3 e1)
 ·obtain⟨o,h1,h2⟩:=nth i hi
  rw[mu i o h1];exact r.kl o h2 off
 ·obtain⟨o,h1,h2⟩:=nth i hi
  obtain⟨o',uu,wH⟩:=nth i' iI
  rw[mu i o h1,mu i' o' uu]at e
  have:=r.inj o o' h2 wH e
  subst this
  have a:=nT ur h1
  have b:=nT ur uu
  rw[a]at b;cases b;rfl
 ·obtain⟨t',h1,h2⟩:=tth t ⟨n,e⟩
  rw[be t t' h1]
  exact r.tok t' n (by rw[← vY t t' h1];exact e)
 ·obtain⟨t',h1,h2⟩:=tth t hl
  obtain⟨o,h3,h4⟩:=nth i hi
  rw[be t t' h1]at e
  rw[mu i o h3]
  exact r.fO t' b c z o h2 e h4
 ·obtain⟨q,h1,h2⟩:=tth t h
  obtain⟨q',uu,wH⟩:=tth t' h'
  rw[be t q h1]at e
  rw[be t' q' uu]at e'
  have:=r.gR q q' b c z c' z' h2 wH e e'
  subst this
  have a:=nT xu h1
  have b:=nT xu uu
  rw[a]at b;cases b;rfl
end
def St.back (s:St) (os ts:List Nat) (s':St):St:=
 ⟨lC os (s'.al.map (D.fa (kP os s.al.length (s'.al.length - os.length)) (kP ts s.aA.length (s'.aA.length - ts.length)))) s.al,lC ts s'.aA s.aA⟩
def D.back (s:St) (os ts:List Nat) (s':St) (d:D):D:=
 d.cT (kP os s.al.length (s'.al.length - os.length)) (kP ts s.aA.length (s'.aA.length - ts.length))
theorem bW.frame {P:Program} {f:FuncId} {Rt args:List D} {s s0:St} {Q0 Q:D→St→Prop} (os ts:List Nat) (h:bW P f Rt s0 Q0) (ur:os.Nodup) (xu:ts.Nodup) (jC : ∀ o∈os,o<s.al.length) (wF : ∀ t∈ts,t<s.aA.length)
 (ho:s0.al.length=os.length) (qE : ∀ (i o:Nat) (ds:List D),os[i]? = some o→s0.al[i]? = some ds→s.al[o]? = some (D.fa os ts ds)∧D.bM os.length ts.length ds=true)
 (ht:s0.aA.length=ts.length) (vY : ∀ (i t:Nat),ts[i]? = some t→s0.aA[i]? = s.aA[t]?)
 (Bu:args=D.fa os ts Rt) (nS:D.bM os.length ts.length Rt=true) (k : ∀ d s',Q0 d s'→Q (d.back s os ts s') (s.back os ts s')):bW P f args s Q:=by
 intro M w gx r kW dU ha
 have r0:=r.sub ur xu jC ho qE ht vY
 have loc : ∀ (i:Nat) o,os[i]? = some o→(gF M os ts).loc i=M.loc o:=fun i o h=>by simp only[gF,uG h]
 have mu : ∀ (i:Nat) o,os[i]? = some o→(gF M os ts).mu i=M.mu o:=fun i o h=>congrArg Prod.fst (loc i o h)
 have be : ∀ (i:Nat) t,ts[i]? = some t→(gF M os ts).be i=M.be t:=fun i t h=>by simp only[gF,uG h]
 subst Bu
 have afL:Laid (gF M os ts) s0 w:=by
  intro g cs hg
  obtain⟨h1,h2,h3⟩:=kW g cs hg
  refine⟨h1,fun o hD=>?_,fun t c z hl hb=>?_⟩
  ·obtain⟨o',pk⟩ : ∃ o',os[o]? = some o':=⟨_,List.getElem?_eq_getElem (by omega)⟩
   rw[mu o o' pk]
   exact h2 o' (jC o' (List.mem_of_getElem? pk))
  ·obtain⟨n,hn⟩:=hl
   have hD:=(List.getElem?_eq_some_iff.1 hn).1
   obtain⟨t',Cx⟩ : ∃ t',ts[t]? = some t':=⟨_,List.getElem?_eq_getElem (by omega)⟩
   rw[be t t' Cx]at hb
   exact h3 t' c z ⟨n,by rw[← vY t t' Cx];exact hn⟩ hb
 have hc:=h (gF M os ts) w gx r0 afL (by rw[dU,gP,List.length_map]) (fun i d v e1 e2=>
  RD.Bt (M:=M) (M0:=gF M os ts) (s:=s) rfl loc ho be vY ht (ha i (d.cT os ts) v (by rw[gP,List.getElem?_map,e1];rfl) e2) d rfl (xr nS e1))
 refine hc.mono ?_
 rintro en w' ⟨AE,d,v,s',rfl,hq,e,r',hv⟩
 have Mf:=e.le.n
 have G0:=e.le.t
 generalize Ru:kP os s.al.length (s'.al.length - os.length)=nw
 generalize Rv:kP ts s.aA.length (s'.aA.length - ts.length)=qF
 have nd:nw.Nodup:=by rw[← Ru];exact Cw ur jC
 have ndt:qF.Nodup:=by rw[← Rv];exact Cw xu wF
 have Rw : ∀ i,nw[i]? = if i<os.length then os[i]? else if i<s'.al.length then some (s.al.length+(i - os.length))else none:=fun i=>by
  rw[← Ru,Fu];split
  ·rfl
  ·rw[show os.length+(s'.al.length - os.length)=s'.al.length by omega]
 have Rx : ∀ i,qF[i]? = if i<ts.length then ts[i]? else if i<s'.aA.length then some (s.aA.length+(i - ts.length))else none:=fun i=>by
  rw[← Rv,Fu];split
  ·rfl
  ·rw[show ts.length+(s'.aA.length - ts.length)=s'.aA.length by omega]
 have hsb:s.back os ts s' = ⟨lC os (s'.al.map (D.fa nw qF)) s.al,lC ts s'.aA s.aA⟩:=by simp only[St.back,Ru,Rv]
 have hdb:d.back s os ts s'=d.cT nw qF:=by simp only[D.back,Ru,Rv]
 have lk:=k d s' hq
 rw[hsb,hdb]at lk
 obtain⟨p1,p2,p3⟩:=FZ os (s'.al.map (D.fa nw qF)) s.al (by simp;omega) ur jC
 obtain⟨q1,q2,q3⟩:=FZ ts s'.aA s.aA (by omega) xu wF
 have Ml:=zE os (s'.al.map (D.fa nw qF)) s.al (by simp;omega)
 have Mm:=zE ts s'.aA s.aA (by omega)
 simp only[List.length_map]at Ml
 generalize Ct:(⟨lC os (s'.al.map (D.fa nw qF)) s.al,lC ts s'.aA s.aA⟩:St)=s2 at lk
 have so:s2.al=lC os (s'.al.map (D.fa nw qF)) s.al:=by rw[← Ct]
 have st:s2.aA=lC ts s'.aA s.aA:=by rw[← Ct]
 -- the framed objects
 have fo : ∀ (i o:Nat),nw[i]? = some o→o<s2.al.length∧s2.al[o]? = (s'.al[i]?).map (D.fa nw qF)∧i<s'.al.length∧(i<os.length→o<s.al.length∧os[i]? = some o)∧(os.length≤i→s.al.length≤o):=by
  intro i o hi
  rw[Rw]at hi
  split at hi
  ·rename_i h1
   have hD:=jC o (List.mem_of_getElem? hi)
   refine⟨by rw[so,Ml];omega,by rw[so,p1 i o hi,List.getElem?_map],by omega,fun _=>⟨hD,hi⟩,fun h=>by omega⟩
  ·split at hi
   ·rename_i h1 h2
    cases hi
    refine⟨by rw[so,Ml];omega, ?_,h2,fun h=>by omega,fun _=>by omega⟩
    rw[so,p3,List.getElem?_map,show os.length+(i - os.length)=i by omega]
   ·cases hi
 have ft : ∀ (i t:Nat),qF[i]? = some t→t<s2.aA.length∧s2.aA[t]? = s'.aA[i]? ∧i<s'.aA.length∧(i<ts.length→t<s.aA.length∧ts[i]? = some t)∧(ts.length≤i→s.aA.length≤t):=by
  intro i t hi
  rw[Rx]at hi
  split at hi
  ·rename_i h1
   have hD:=wF t (List.mem_of_getElem? hi)
   refine⟨by rw[st,Mm];omega,by rw[st,q1 i t hi],by omega,fun _=>⟨hD,hi⟩,fun h=>by omega⟩
  ·split at hi
   ·rename_i h1 h2
    cases hi
    refine⟨by rw[st,Mm];omega, ?_,h2,fun h=>by omega,fun _=>by omega⟩
    rw[st,q3,show ts.length+(i - ts.length)=i by omega]
   ·cases hi
 -- all others
 have uo : ∀ o,o<s2.al.length→posOf nw o=none→o<s.al.length∧o∉os∧s2.al[o]? = s.al[o]? :=by
  intro o hD hp
  have pG : ∀ i,nw[i]? ≠some o:=fun i hi=>by rw[nT nd hi]at hp;cases hp
  have h1:o<s.al.length:=by
   rcases Nat.lt_or_ge o s.al.length with h|h
   ·exact h
   ·exfalso
    rw[so,Ml]at hD
    refine pG (os.length+(o - s.al.length)) ?_
    rw[Rw,if_neg (by omega),if_pos (by omega)]
    congr 1;omega
  have h2:o∉os:=fun hm=>by
   obtain⟨i,hi⟩:=List.mem_iff_getElem?.1 hm
   have sL:=(List.getElem?_eq_some_iff.1 hi).1
   exact pG i (by rw[Rw,if_pos sL];exact hi)
  exact⟨h1,h2,by rw[so,p2 o h1 h2]⟩
 have ut : ∀ t,t<s2.aA.length→posOf qF t=none→t<s.aA.length∧t∉ts∧s2.aA[t]? = s.aA[t]? :=by
  intro t hD hp
  have pG : ∀ i,qF[i]? ≠some t:=fun i hi=>by rw[nT ndt hi]at hp;cases hp
  have h1:t<s.aA.length:=by
   rcases Nat.lt_or_ge t s.aA.length with h|h
   ·exact h
   ·exfalso
    rw[st,Mm]at hD
    refine pG (ts.length+(t - s.aA.length)) ?_
    rw[Rx,if_neg (by omega),if_pos (by omega)]
    congr 1;omega
  have h2:t∉ts:=fun hm=>by
   obtain⟨i,hi⟩:=List.mem_iff_getElem?.1 hm
   have sL:=(List.getElem?_eq_some_iff.1 hi).1
   exact pG i (by rw[Rx,if_pos sL];exact hi)
  exact⟨h1,h2,by rw[st,q2 t h1 h2]⟩
 generalize U1:AB M AE nw qF=M2
 have mG:AE.G=M2.G:=by rw[← U1];rfl
 have lo : ∀ (i o:Nat),nw[i]? = some o→M2.loc o=AE.loc i:=fun i o hi=>by rw[← U1];simp only[AB,nT nd hi]
 have lo0 : ∀ o,posOf nw o=none→M2.loc o=M.loc o:=fun o hp=>by rw[← U1];simp only[AB,hp]
 have mo : ∀ (i o:Nat),nw[i]? = some o→M2.mu o=AE.mu i:=fun i o hi=>congrArg Prod.fst (lo i o hi)
 have Mn : ∀ o,posOf nw o=none→M2.mu o=M.mu o:=fun o hp=>congrArg Prod.fst (lo0 o hp)
 have mt : ∀ (i t:Nat),qF[i]? = some t→M2.be t=AE.be i:=fun i t hi=>by rw[← U1];simp only[AB,nT ndt hi]
 have Mp : ∀ t,posOf qF t=none→M2.be t=M.be t:=fun t hp=>by rw[← U1];simp only[AB,hp]
 have le:Le M s M2 s2:=by
  refine⟨fun b o v hg=>by rw[← mG];exact e.le.G b o v hg,by rw[so,Ml];omega,fun o hD=>?_,by rw[st,Mm];omega,fun t n' hD rj=>?_⟩
  ·cases hp:posOf nw o with
   |none=>rw[lo0 o hp];exact .refl _
   | some i=>
    have hi:=jP hp
    rw[lo i o hi]
    obtain⟨_,_,_,h1,h2⟩:=fo i o hi
    have sL:i<os.length:=by
     rcases Nat.lt_or_ge i os.length with h|h
     ·exact h
     ·have:=h2 h;omega
    have h3:=e.le.loc i (by omega)
    rw[loc i o (h1 sL).2]at h3
    exact h3
  ·cases hp:posOf qF t with
   |none=>
    obtain⟨_,_,h3⟩:=ut t (by rw[st,Mm];omega) hp
    rw[h3]at rj
    exact⟨n',rj,Nat.le_refl _,fun _=>Mp t hp⟩
   | some i=>
    have hi:=jP hp
    obtain⟨_,g1,_,h1,h2⟩:=ft i t hi
    have sL:i<ts.length:=by
     rcases Nat.lt_or_ge i ts.length with h|h
     ·exact h
     ·have:=h2 h;omega
    rw[g1]at rj
    obtain⟨n,h3,h4,h5⟩:=e.le.tk i n' (by omega) rj
    refine⟨n,by rw[← vY i t (h1 sL).2];exact h3,h4,fun eq=>?_⟩
    rw[mt i t hi,h5 eq,be i t (h1 sL).2]
 have afM : ∀ {d:D} {v:Value},RD AE s' d v→RD M2 s2 (d.cT nw qF) v:=fun hd=>RD.cT mG
  (fun i hi=>by
   obtain⟨o,ho⟩ : ∃ o,nw[i]? = some o:=by
    rw[Rw];split
    ·rename_i h1;exact⟨_,List.getElem?_eq_getElem h1⟩
    ·exact⟨_,rfl⟩
   exact⟨o,ho,(fo i o ho).1,lo i o ho⟩)
  (fun i hi=>by
   obtain⟨t,ht⟩ : ∃ t,qF[i]? = some t:=by
    rw[Rx];split
    ·rename_i h1;exact⟨_,List.getElem?_eq_getElem h1⟩
    ·exact⟨_,rfl⟩
   exact⟨t,ht,(ft i t ht).1,(ft i t ht).2.1,mt i t ht⟩) hd
 -- blocks that the callee did not know
 have LB : ∀ i,s0.live i→∃ t,ts[i]? = some t∧s.live t:=fun i ⟨n,hn⟩=>by
  have hD:=(List.getElem?_eq_some_iff.1 hn).1
  have e1:ts[i]? = some ts[i]:=List.getElem?_eq_getElem (by omega)
  exact⟨_,e1,n,by rw[← vY i _ e1];exact hn⟩
 have Ry : ∀ b,b<w.heap.size→(∀ (i o:Nat),os[i]? = some o→M.mu o≠b)→(∀ (i t:Nat) c z,ts[i]? = some t→s.live t→M.be t≠some (b,c,z))→
  w'.heap[b]? = w.heap[b]? ∧∀ off,AE.G b off=M.G b off:=by
  intro b hb h1 h2
  refine⟨e.kept b hb (fun i hi=>?_) (fun i c z hl=>?_),fun off=>?_⟩
  ·have e1:os[i]? = some os[i]:=List.getElem?_eq_getElem (by omega)
   rw[mu i _ e1];exact h1 i _ e1
  ·obtain⟨t,e1,hD⟩:=LB i hl
   rw[be i t e1];exact h2 i t c z e1 hD
  ·apply Classical.byContradiction
   intro fu
   rcases e.sk b off fu with h3|⟨i,c,z,hl,h3⟩
   ·omega
   ·obtain⟨t,e1,hD⟩:=LB i hl
    rw[be i t e1]at h3
    exact h2 i t c z e1 hD h3
 have abb : ∀ o,o<s.al.length→o∉os→w'.heap[M.mu o]? = w.heap[M.mu o]? ∧∀ off,AE.G (M.mu o) off=M.G (M.mu o) off:=fun o hD pG=>
  Ry _ (r.rZ hD) (fun i o' h1 h2=>pG (by rw[← r.inj o' o (jC o' (List.mem_of_getElem? h1)) hD h2];exact List.mem_of_getElem? h1))
   (fun i t c z _ hl h2=>r.fO t _ c z o hl h2 hD rfl)
 have aj6 : ∀ t b c z,s.live t→t∉ts→M.be t=some (b,c,z)→w'.heap[b]? = w.heap[b]? ∧∀ off,AE.G b off=M.G b off:=fun t b c z hl pG hb=>
  Ry b (r.u5 hl hb) (fun i o h1=>r.fO t b c z o hl hb (jC o (List.mem_of_getElem? h1)))
   (fun i t' c' z' h1 mU h2=>pG (by rw[r.gR t t' b c z c' z' hl mU hb h2];exact List.mem_of_getElem? h1))
 have lv : ∀ t,s2.live t→(∃ i,qF[i]? = some t∧s'.live i)∨(posOf qF t=none∧s.live t∧t∉ts):=by
  rintro t ⟨n,hn⟩
  cases hp:posOf qF t with
  |none=>
   obtain⟨h1,h2,h3⟩:=ut t (List.getElem?_eq_some_iff.1 hn).1 hp
   exact .inr ⟨rfl,⟨n,by rw[← h3];exact hn⟩,h2⟩
  |some i=>
   have hi:=jP hp
   exact .inl ⟨i,hi,n,by rw[← (ft i t hi).2.1];exact hn⟩
 -- where a framed object lies
 have muc : ∀ (i o:Nat),nw[i]? = some o→(o<s.al.length∧o∈os∧AE.mu i=M.mu o)∨w.heap.size≤AE.mu i:=by
  intro i o hi
  obtain⟨_,_,h1,h2,h3⟩:=fo i o hi
  rcases e.mo h1 with ⟨h4,h5⟩|h4
  ·have h:i<os.length:=by omega
   exact .inl ⟨(h2 h).1,List.mem_of_getElem? (h2 h).2,by rw[h5,mu i o (h2 h).2]⟩
  ·exact .inr h4
 have bec : ∀ (i t b c z:Nat),qF[i]? = some t→s'.live i→AE.be i=some (b,c,z)→(s.live t∧t∈ts∧∃ c' z',M.be t=some (b,c',z'))∨w.heap.size≤b:=by
  intro i t b c z hi hl hb
  rcases e.ry i b c z hl hb with ⟨h1,c',z',h2⟩|h1
  ·obtain⟨t',e1,hD⟩:=LB i h1
   have sL:=(List.getElem?_eq_some_iff.1 e1).1
   obtain⟨_,_,_,h3,_⟩:=ft i t hi
   have:=(h3 sL).2
   rw[e1]at this;cases this
   rw[be i _ e1]at h2
   exact .inl ⟨hD,List.mem_of_getElem? e1,c',z',h2⟩
  ·exact .inr h1
 refine⟨M2,d.cT nw qF,v,s2,rfl,lk, ?_, ?_,afM hv⟩
 ·-- Ext
  refine⟨le,fun b hb h1 h2=>?_,fun o h1 h2=>?_,fun t b c z hl hb=>?_,fun b off fu=>?_,e.size,e.os,e.tape,e.output⟩
  ·exact(Ry b hb (fun i o h3=>h1 o (jC o (List.mem_of_getElem? h3))) (fun i t c z _ hl=>h2 t c z hl)).1
  ·cases hp:posOf nw o with
   |none=>
    have:=(uo o h2 hp).1
    rcases h1 with h1|h1
    ·omega
    ·exact(h1 (Mn o hp)).elim
   | some i=>
    have hi:=jP hp
    rw[mo i o hi]at h1 ⊢
    rcases muc i o hi with ⟨h3,_,h5⟩|h3
    ·rcases h1 with h1 | h1
     ·omega
     ·exact(h1 h5).elim
    ·exact h3
  ·rcases lv t hl with ⟨i,hi,mU⟩ | ⟨hp,mU,_⟩
   ·rw [mt i t hi]at hb
    rcases bec i t b c z hi mU hb with ⟨h1,_,h2⟩|h1
    ·exact .inl ⟨h1,h2⟩
    ·exact .inr h1
   ·rw [Mp t hp]at hb
    exact .inl ⟨mU,c,z,hb⟩
  ·rw [← mG]at fu
   rcases e.sk b off fu with h1|⟨i,c,z,hl,hb⟩
   ·exact .inl h1
   ·obtain⟨t,e1,hD⟩:=LB i hl
    rw[be i t e1]at hb
    exact .inr ⟨t,c,z,hD,hb⟩
 ·-- Rel
  refine⟨fun b o v hg=>r'.comm b o v (by rw[mG];exact hg),fun o ds Du=>?_,fun o hD off=>?_,fun o o' hD yF heq=>?_,fun t n hn=>?_,fun t b c z o hl hb hD=>?_,fun t t' b c z c' z' hl mU hb um=>?_⟩
  ·cases hp:posOf nw o with
   |some i=>
    have hi:=jP hp
    obtain⟨_,g1,_⟩:=fo i o hi
    rw[g1]at Du
    obtain⟨pj,h1,rfl⟩:=Option.map_eq_some_iff.1 Du
    obtain⟨vs,T,h2,h3,h4,h5⟩:=r'.obj i pj h1
    refine⟨vs,T,by rw[lo i o hi];exact h2,by rw[gP];simpa using h3,⟨h4.1,by rw[show M2.ty o=AE.ty i from congrArg (fun x=>x.2.ty?) (lo i o hi)];exact h4.2⟩,fun j d v e1 e2=>?_⟩
    rw[gP]at e1
    simp only[List.getElem?_map,Option.map_eq_some_iff]at e1
    obtain⟨d',e1,rfl⟩:=e1
    exact afM (h5 j d' v e1 e2)
   |none=>
    obtain⟨h1,h2,h3⟩:=uo o (List.getElem?_eq_some_iff.1 Du).1 hp
    rw[h3]at Du
    obtain⟨vs,T,g1,g2,g3,g4⟩:=r.obj o ds Du
    exact⟨vs,T,by rw[lo0 o hp];exact g1.keep (abb o h1 h2).1,g2,⟨g3.1,by rw[show M2.ty o=M.ty o from congrArg (fun x=>x.2.ty?) (lo0 o hp)];exact g3.2⟩,fun j d v e1 e2=>(g4 j d v e1 e2).mono le⟩
  ·cases hp:posOf nw o with
   |some i=>
    have hi:=jP hp
    rw[mo i o hi, ← mG];exact r'.kl i (fo i o hi).2.2.1 off
   |none=>
    obtain⟨h1,h2,h3⟩:=uo o hD hp
    rw[Mn o hp, ← mG,(abb o h1 h2).2 off];exact r.kl o h1 off
  ·cases hp:posOf nw o with
   | some i=>
    have hi:=jP hp
    rw[mo i o hi]at heq
    cases oy:posOf nw o' with
    |some i'=>
     have iI:=jP oy
     rw[mo i' o' iI]at heq
     have:=r'.inj i i' (fo i o hi).2.2.1 (fo i' o' iI).2.2.1 heq
     subst this
     rw[hi]at iI;cases iI;rfl
    | none=>
     obtain⟨h1,h2,_⟩:=uo o' yF oy
     rw[Mn o' oy]at heq
     rcases muc i o hi with ⟨h3,h4,h5⟩|h3
     ·rw [h5]at heq
      have:=r.inj o o' h3 h1 heq
      subst this;exact(h2 h4).elim
     ·have:=r.rZ h1;omega
   | none=>
    obtain⟨h1,h2,_⟩:=uo o hD hp
    rw[Mn o hp]at heq
    cases oy:posOf nw o' with
    | some i'=>
     have iI:=jP oy
     rw[mo i' o' iI]at heq
     rcases muc i' o' iI with ⟨h3,h4,h5⟩|h3
     ·rw [h5]at heq
      have:=r.inj o o' h1 h3 heq
      subst this;exact(h2 h4).elim
     ·have:=r.rZ h1;omega
    |none=>
     obtain⟨uu,_,_⟩:=uo o' yF oy
     rw[Mn o' oy]at heq
     exact r.inj o o' h1 uu heq
  ·rcases lv t ⟨n,hn⟩with ⟨i,hi,hl⟩ | ⟨hp,hl,pG⟩
   ·rw [mt i t hi, ← mG]
    exact r'.tok i n (by rw[← (ft i t hi).2.1];exact hn)
   ·obtain⟨_,_,h3⟩:=ut t (List.getElem?_eq_some_iff.1 hn).1 hp
    rw[h3]at hn
    rw[Mp t hp]
    rcases r.tok t n hn with h4|⟨b,cap,size,vs,T,g1,g2,g3,g4,g5⟩
    ·exact .inl h4
    ·obtain⟨k1,k2⟩:=aj6 t b cap size hl pG g1
     exact .inr ⟨b,cap,size,vs,T,g1,by rw[k1];exact g2,g3,g4,fun off ho=>by rw[← mG,k2 off];exact g5.1 off ho,g5.2⟩
  ·rcases lv t hl with ⟨i,hi,mU⟩ | ⟨hp,mU,pG⟩
   ·rw [mt i t hi]at hb
    cases Mq:posOf nw o with
    |some j=>
     have hj:=jP Mq
     rw[mo j o hj]
     exact r'.fO i b c z j mU hb (fo j o hj).2.2.1
    |none=>
     obtain⟨h1,h2,_⟩:=uo o hD Mq
     rw[Mn o Mq]
     rcases bec i t b c z hi mU hb with ⟨h3,_,c',z',h4⟩|h3
     ·exact r.fO t b c' z' o h3 h4 h1
     ·have:=r.rZ h1;omega
   ·rw [Mp t hp]at hb
    cases Mq:posOf nw o with
    |some j=>
     have hj:=jP Mq
     rw[mo j o hj]
     rcases muc j o hj with ⟨h3,_,h5⟩|h3
     ·rw[h5];exact r.fO t b c z o mU hb h3
     ·have:=r.u5 mU hb;omega
    |none=>
     obtain⟨h1,_,_⟩:=uo o hD Mq
     rw[Mn o Mq];exact r.fO t b c z o mU hb h1
  ·rcases lv t hl with ⟨i,hi,Cy⟩ | ⟨hp,hD,pG⟩
   ·rw [mt i t hi]at hb
    rcases lv t' mU with ⟨i',iI,X6⟩|⟨oy,yF,abf⟩
    ·rw [mt i' t' iI]at um
     have:=r'.gR i i' b c z c' z' Cy X6 hb um
     subst this
     rw[hi]at iI;cases iI;rfl
    ·rw [Mp t' oy]at um
     rcases bec i t b c z hi Cy hb with ⟨h3,h4,c2,z2,h5⟩|h3
     ·have:=r.gR t t' b c2 z2 c' z' h3 yF h5 um
      subst this;exact(abf h4).elim
     ·have:=r.u5 yF um;omega
   ·rw [Mp t hp]at hb
    rcases lv t' mU with ⟨i',iI,X6⟩|⟨oy,yF,abf⟩
    ·rw [mt i' t' iI]at um
     rcases bec i' t' b c' z' iI X6 um with ⟨h3,h4,c2,z2,h5⟩|h3
     ·have:=r.gR t t' b c z c2 z2 hD h3 hb h5
      subst this;exact(pG h4).elim
     ·have:=r.u5 hD hb;omega
    ·rw [Mp t' oy]at um
     exact r.gR t t' b c z c' z' hD yF hb um
end Go.Abs
namespace Go.Abs
def Wk (d d':D):Prop:=∀ (M:Map) (s:St) (v:Value),RD M s d v→RD M s d' v
inductive kv:List D→List D→Prop where
 |nil:kv [] []
 |cons {d d':D} {l l':List D} (h:Wk d d') (t:kv l l'):kv (d::l) (d'::l')
inductive ik:List (List D)→List (List D)→Prop where
 |nil:ik [] []
 |cons {r r':List D} {l l':List (List D)} (h:kv r r') (t:ik l l'):ik (r::l) (r'::l')
theorem Wk.refl (d:D):Wk d d:=fun _ _ _ h=>h
theorem Wk.of_eq {d d':D} (h:d=d'):Wk d d':=h ▸ Wk.refl d
theorem Wk.trans {a b c:D} (h:Wk a b) (k:Wk b c):Wk a c:=fun M s v r=>k M s v (h M s v r)
theorem Wk.junk (d:D):Wk d .junk:=fun _ _ v _=> .junk v
theorem kv.refl : ∀ l,kv l l
 | []=> .nil
 |d::l=> .cons (Wk.refl d) (kv.refl l)
theorem ik.refl : ∀ l,ik l l
 | []=> .nil
 |d::l=> .cons (kv.refl d) (ik.refl l)
theorem kv.len {l l':List D} (h:kv l l'):l.length=l'.length:=by
 induction h with
 |nil=>rfl
 |cons _ _ ih=>simp[ih]
theorem ik.len {l l':List (List D)} (h:ik l l'):l.length=l'.length:=by
 induction h with
 |nil=>rfl
 |cons _ _ ih=>simp[ih]
theorem kv.get {l l':List D} (h:kv l l') : ∀ {i:Nat} {d':D},l'[i]? = some d'→∃ d,l[i]? = some d∧Wk d d':=by
 induction h with
 |nil=>intro i d' e;simp at e
 |cons hd _ ih=>
  intro i d' e
  cases i with
  |zero=>simp at e;subst e;exact⟨_,rfl,hd⟩
  |succ i=>simp at e;simpa using ih e
theorem ik.get {l l':List (List D)} (h:ik l l') : ∀ {i:Nat} {d':List D},l'[i]? = some d'→∃ d,l[i]? = some d∧kv d d':=by
 induction h with
 |nil=>intro i d' e;simp at e
 |cons hd _ ih=>
  intro i d' e
  cases i with
  |zero=>simp at e;subst e;exact⟨_,rfl,hd⟩
  |succ i=>simp at e;simpa using ih e
theorem kv.append {a a' b b':List D} (h:kv a a') (k:kv b b'):kv (a++b) (a'++b'):=by
 induction h with
 |nil=>exact k
 |cons hd _ ih=>exact .cons hd ih
theorem ik.append {a a' b b':List (List D)} (h:ik a a') (k:ik b b'):ik (a++b) (a'++b'):=by
 induction h with
 |nil=>exact k
 |cons hd _ ih=>exact .cons hd ih
theorem Wk.agg {l l':List D} (h:kv l l'):Wk (.agg l) (.agg l'):=by
 intro M s v r
 cases r with
 |agg _ vs hl h1 hr=>
  refine .agg _ vs (by rw[← hl,h.len]) h1 fun i d' u e e2=>?_
  obtain⟨d,e1,hw⟩:=h.get e
  exact hw M s u (hr i d u e1 e2)
theorem Wk.tuple {l l':List D} (h:kv l l'):Wk (.tuple l) (.tuple l'):=by
 intro M s v r
 cases r with
 |tuple _ vs hl hr=>
  refine .tuple _ vs (by rw[← hl,h.len]) fun i d' u e e2=>?_
  obtain⟨d,e1,hw⟩:=h.get e
  exact hw M s u (hr i d u e1 e2)
theorem Wk.rows {g:Tag} {z:Nat} {l l':List (List D)} (h:ik l l'):Wk (.slice g z l) (.slice g z l'):=by
 intro M s v r
 cases r with
 |jI _ _ cap hc ht=>cases h;exact .jI _ _ _ hc ht
 |mS _ a cap=>cases h;exact .mS _ a cap
 | slice _ _ _ b k cap hl hs h1 h2 ht=>
  rw[h.len]
  refine .slice g z l' b k cap (by rw[← h.len];exact hl) (fun row hm=>?_) (fun i row j d e e2=>?_) (fun i row j d u e e2 eu=>?_) (by rw[← h.len];exact ht)
  ·obtain⟨i,hi,he⟩:=List.mem_iff_getElem.1 hm
   obtain⟨r0,g1,g2⟩:=h.get (i:=i) (by rw[List.getElem?_eq_getElem hi,he])
   rw[← g2.len];exact hs r0 (List.mem_of_getElem? g1)
  ·obtain⟨r0,g1,g2⟩:=h.get e
   obtain⟨d0,g3,_⟩:=g2.get e2
   exact h1 i r0 j d0 g1 g3
  ·obtain⟨r0,g1,g2⟩:=h.get e
   obtain⟨d0,g3,g4⟩:=g2.get e2
   exact g4 M s u (h2 i r0 j d0 u g1 g3 eu)
theorem Wk.shared (g:Tag) (z:Nat) (l:List (List D)):Wk (.slice g z l) (.slice .shared z l):=by
 intro M s v r
 cases r with
 |jI _ _ cap hc ht=>exact .jI _ _ _ hc trivial
 |mS _ a cap=>exact .mS _ a cap
 |slice _ _ _ b k cap hl hs h1 h2 ht=>exact .slice _ _ _ b k cap hl hs h1 h2 trivial
theorem Wk.slice {g:Tag} {z:Nat} {l l':List (List D)} (h:ik l l'):Wk (.slice g z l) (.slice .shared z l'):=(Wk.shared g z l).trans (Wk.rows h)
theorem Wk.nil (g:Tag) (z z':Nat):Wk (.slice g z []) (.slice .shared z' []):=by
 intro M s v r
 cases r with
 |jI _ _ cap hc ht=>exact .jI _ _ _ hc trivial
 |mS _ a cap=>exact .mS _ a cap
 |slice _ _ _ b k cap hl hs h1 h2 ht=>exact .slice _ _ [] b k cap hl (by simp) (by simp) (by simp) trivial
theorem Wk.aoH (z z':Nat):Wk (.slice .full z []) (.slice .full z' []):=by
 intro M s v r
 cases r with
 |jI _ _ cap hc ht=>exact .jI _ _ _ hc ht
 |slice _ _ _ b k cap hl hs h1 h2 ht=>exact .slice _ _ [] b k cap hl (by simp) (by simp) (by simp) ht
theorem Rel.su {M:Map} {s:St} {w:World} {al:List (List D)} (r:Rel M s w) (h:ik s.al al):Rel M ⟨al,s.aA⟩ w∧Le M s M ⟨al,s.aA⟩:=by
 have le:Le M s M ⟨al,s.aA⟩:=⟨fun _ _ _ h=>h,Nat.le_of_eq h.len,fun _ _=> .refl _,Nat.le_refl _,fun t n' _ e=>⟨n',e,Nat.le_refl _,fun _=>rfl⟩⟩
 have hl:=h.len
 refine⟨⟨r.comm,fun o ds e=>?_,fun o ho=>r.kl o (by rw[hl];exact ho),fun o o' ho pk=>r.inj o o' (by rw[hl];exact ho) (by rw[hl];exact pk),r.tok,
  fun t b c z o hv e ho=>r.fO t b c z o hv e (by rw[hl];exact ho),r.gR⟩,le⟩
 obtain⟨Mr,g1,g2⟩:=h.get e
 obtain⟨vs,T,h1,h2,h3,h4⟩:=r.obj o Mr g1
 refine⟨vs,T,h1,by rw[h2,g2.len],h3,fun i d v e1 e2=>?_⟩
 obtain⟨d0,k1,k2⟩:=g2.get e1
 exact(k2 _ _ _ (h4 i d0 v k1 e2)).mono le
theorem Rel.blank {M:Map} {s:St} {w:World} (r:Rel M s w) :
 Rel (M.fP s.aA.length none) {s with aA:=s.aA++ [some 0]} w∧Le M s (M.fP s.aA.length none) {s with aA:=s.aA++ [some 0]}:=by
 have jB : ∀ t,St.live {s with aA:=s.aA++ [some 0]} t→s.live t∨t=s.aA.length:=by
  rintro t ⟨k,hk⟩
  rcases Nat.lt_or_ge t s.aA.length with h|h
  ·rw[List.getElem?_append_left h]at hk;exact .inl ⟨k,hk⟩
  ·have:=(List.getElem?_eq_some_iff.1 hk).1
   simp at this;exact .inr (by omega)
 have hD : ∀ t,s.live t→t<s.aA.length:=fun t ⟨k,hk⟩=>(List.getElem?_eq_some_iff.1 hk).1
 have hold : ∀ t,t<s.aA.length→(M.fP s.aA.length none).be t=M.be t:=fun t h=>by simp[Map.fP];omega
 have dB:(M.fP s.aA.length none).be s.aA.length=none:=by simp[Map.fP]
 have le:Le M s (M.fP s.aA.length none) {s with aA:=s.aA++ [some 0]}:=
  ⟨fun _ _ _ h=>h,Nat.le_refl _,fun _ _=> .refl _,by simp,fun t k h e=>by
   rw[List.getElem?_append_left h]at e
   exact⟨k,e,Nat.le_refl _,fun _=>hold t h⟩⟩
 refine⟨⟨r.comm,fun o ds e=>?_,r.kl,r.inj,fun t k e=>?_,fun t b' c z o hl e pk=>?_,fun t t' b' c z c' z' h h' e e'=>?_⟩,le⟩
 ·obtain⟨gv,T',h3,h4,h5,h6⟩:=r.obj o ds e
  exact⟨gv,T',h3,h4,h5,fun i d v e1 e2=>(h6 i d v e1 e2).mono le⟩
 ·rcases Nat.lt_or_ge t s.aA.length with h | h
  ·rw [List.getElem?_append_left h]at e
   rw[hold t h];exact r.tok t k e
  ·have:=(List.getElem?_eq_some_iff.1 e).1
   simp at this
   have:t=s.aA.length:=by omega
   subst this
   simp at e;subst e
   exact .inl ⟨dB,rfl⟩
 ·rcases jB t hl with h | h
  ·rw[hold t (hD t h)]at e;exact r.fO t b' c z o h e pk
  ·subst h;rw[dB]at e;cases e
 ·rcases jB t h with h | h <;> rcases jB t' h' with h' | h'
  ·rw[hold t (hD t h)]at e;rw[hold t' (hD t' h')]at e';exact r.gR t t' b' c z c' z' h h' e e'
  ·subst h';rw[dB]at e';cases e'
  ·subst h;rw[dB]at e;cases e
  ·omega
theorem RD.own {M:Map} {s:St} {z z':Nat} {v:Value} (h:RD M s (.slice .full z []) v):RD (M.fP s.aA.length none) {s with aA:=s.aA++ [some 0]} (.slice (.tok s.aA.length) z' []) v:=by
 have key : ∀ base:Option (Nat×Nat),jN (M.fP s.aA.length none) {s with aA:=s.aA++ [some 0]} (.tok s.aA.length) z' 0 base 0:=by
  intro base
  refine⟨by simp,fun n e=>?_⟩
  simp at e
  subst e
  exact⟨Nat.le_refl _,fun _=> .inl ⟨by simp[Map.fP],rfl,fun h=>by cases h⟩⟩
 cases h with
 |jI _ _ cap hc ht=>subst hc;exact .jI _ _ _ rfl (key none)
 |slice _ _ _ b k cap hl hs h1 h2 ht=>
  have:cap=0:=ht
  subst this
  exact .slice _ _ [] b k 0 (Nat.le_refl _) (by simp) (by simp) (by simp) (key _)
section
variable {P:Program} {B:gZ} {nt:Nat} {Q:Exit→Tm→St→Prop} {tm:Tm} {s:St}
theorem Sem.wkO {ac:AC} (al:List (List D)) (hw:ik s.al al) (h:Sem P B nt ac Q tm ⟨al,s.aA⟩):Sem P B nt ac Q tm s:=by
 intro c hc act w ⟨M,e,r,ht,h1,h2⟩
 obtain⟨r',le⟩:=r.su hw
 refine h c hc act w ⟨M,e.trans ⟨le,fun _ _ _ _=>rfl,fun o h1 h2=>?_,fun t b c z hl e=> .inl ⟨hl,c,z,e⟩,fun _ _ h=>(h rfl).elim,Nat.le_refl _,rfl,rfl,rfl⟩,r',fun k=>(ht k).mono le,h1,h2⟩
 simp only[← hw.len]at h2
 exact h1.elim (fun h1=>absurd h2 (Nat.not_lt.2 h1)) fun h1=>(h1 rfl).elim
theorem J6 {M0 M:Map} {s0 s:St} {w0 w:World} (e:Ext M0 s0 w0 M s w) (le:Le M s (M.fP s.aA.length none) {s with aA:=s.aA++ [some 0]}) :
 Ext M0 s0 w0 (M.fP s.aA.length none) {s with aA:=s.aA++ [some 0]} w:=by
 refine e.trans ⟨le,fun _ _ _ _=>rfl,fun o h1 h2=>h1.elim (fun h1=>absurd h2 (Nat.not_lt.2 h1)) (fun h1=>(h1 rfl).elim),fun t b c z hl eq=>?_,fun _ _ h=>(h rfl).elim,Nat.le_refl _,rfl,rfl,rfl⟩
 obtain⟨k,hk⟩:=hl
 rcases Nat.lt_or_ge t s.aA.length with h|h
 ·refine .inl ⟨⟨k,by rw [List.getElem?_append_left h]at hk;exact hk⟩,c,z, ?_⟩
  have:(M.fP s.aA.length none).be t=M.be t:=by simp[Map.fP];omega
  rw[← this];exact eq
 ·have:=(List.getElem?_eq_some_iff.1 hk).1
  simp at this
  have:t=s.aA.length:=by omega
  subst this
  simp[Map.fP]at eq
end
def aH (P:Program) (f:Nat) (args:List D) (s:St) (d:D) (s':St):Prop:=bW P f args s fun x y=>x=d∧y=s'
def rC (n m:Nat) (res:List (Nat×Option (Bool×Nat))) (d:D) (s':St):Exit→Tm→St→Prop
 | .normal,tm,s| .ret,tm,s=>∃ l,bh res tm s=some l∧Wk ((bk l).fg n m) d∧ik (s.cut n m).al s'.al∧(s.cut n m).aA=s'.aA
 |_,_,_=>False
theorem bW.su {P:Program} {f:FuncId} {args Hg:List D} {s:St} {Q:D→St→Prop} (ha:kv args Hg) (h:bW P f Hg s Q):bW P f args s Q:=
 fun M w gx r kW hl hr=>h M w gx r kW (by rw[hl,ha.len]) fun i d v e1 e2=>by
  obtain⟨d0,g1,g2⟩:=ha.get e1
  exact g2 _ _ _ (hr i d0 v g1 e2)
theorem bW.LC {P:Program} {f:FuncId} {args:List D} {s:St} {Q Q':D→St→Prop} (h:bW P f args s Q) (hq : ∀ d s1,Q d s1→∃ d' s',Wk d d'∧ik s1.al s'.al∧s1.aA=s'.aA∧Q' d' s'):bW P f args s Q':=
 fun M w gx r kW hl ha=>(h M w gx r kW hl ha).mono fun _ _ ⟨M',d,v,s1,h1,h2,h3,h4,h5⟩=>by
  obtain⟨d',s',g1,g2,g3,g4⟩:=hq d s1 h2
  obtain⟨r',le⟩:=h4.su g2
  have hs:(⟨s'.al,s1.aA⟩:St)=s':=by rw[g3]
  rw[hs]at r' le
  refine⟨M',d',v,s',h1,g4,h3.trans ⟨le,fun _ _ _ _=>rfl,fun o h1 h2=>?_,fun t b c z hl e=> .inl ⟨by obtain⟨n,hn⟩:=hl;exact⟨n,by rw[g3];exact hn⟩,c,z,e⟩,fun _ _ h=>(h rfl).elim,Nat.le_refl _,rfl,rfl,rfl⟩,r',(g1 _ _ _ h5).mono le⟩
  rw[← g2.len]at h2
  exact h1.elim (fun h1=>absurd h2 (Nat.not_lt.2 h1)) fun h1=>(h1 rfl).elim
theorem aH.intro {P:Program} {f:FuncId} {af:AF} {args:List D} {s:St} {d:D} {s':St} (h0 : ∃ fn,P.funcs[f]? = some fn∧cF P fn=some af) (hl:args.length≤af.ntmps)
 (h : ∀ B:gZ,B.s=s→Sem P B af.ntmps af.body (rC s.al.length s.aA.length af.results d s') (ou 0 args) s):aH P f args s d s':=by
 obtain⟨fn,hf,hc⟩:=h0
 refine bW.LC (bW.intro (Q:=fun d1 s1=>Wk d1 d∧ik s1.al s'.al∧s1.aA=s'.aA) hf hc hl fun B hB=>(h B hB).mono fun e tm s1 hr=>?_) fun d1 s1 ⟨h1,h2,h3⟩=>⟨d,s',h1,h2,h3,rfl,rfl⟩
 subst hB
 cases e with
 |normal=>obtain⟨l,h1,h2,h3,h4⟩:=hr;exact⟨l,h1,_,_,Nat.le_refl _,Nat.le_refl _,h2,h3,h4⟩
 |ret=>obtain⟨l,h1,h2,h3,h4⟩:=hr;exact⟨l,h1,_,_,Nat.le_refl _,Nat.le_refl _,h2,h3,h4⟩
 |exit id=>exact hr.elim
 |goto l=>exact hr.elim
 |panic ch=>exact hr.elim
 |outgrown=>exact hr.elim
theorem aH.use {P:Program} {f:FuncId} {args:List D} {s:St} {d:D} {s':St} {Q:D→St→Prop} (h:aH P f args s d s') (hq:Q d s'):bW P f args s Q:=
 bW.mono h fun x y ⟨h1,h2⟩=>by subst h1;subst h2;exact hq
mutual
theorem sv (os ts:List Nat) : ∀ d,D.ok 0 0 d=true→D.cT os ts d=d
 | .junk,_=>by simp[D.cT]
 | .int k n,_=>by simp[D.cT]
 | .bool b,_=>by simp[D.cT]
 | .str l,_=>by simp[D.cT]
 | .eY,_=>by simp[D.cT]
 | .val v,_=>by simp[D.cT]
 | .gf T o,h=>by simp[D.ok]at h
 | .gT o,h=>by simp[D.ok]at h
 | .dK z o g len,h=>by simp[D.ok]at h
 | .gh o g off,h=>by simp[D.ok]at h
 | .fk z,_=>by simp[D.cT]
 | .ix f cs,h=>by
  simp only[D.ok]at h
  simp only[D.cT,fY os ts cs h]
 | .ptr o f,h=>by simp[D.ok]at h
 | .dS r f,h=>by
  simp only[D.ok]at h
  simp only[D.cT,fY os ts r h]
 | .slice g z rows,h=>by
  simp only[D.ok,Bool.and_eq_true]at h
  simp only[D.cT,ke os ts rows h.2]
  cases g with
  |tok t y=>simp[Tag.ok]at h
  |full=>rfl
  |shared=>rfl
 | .agg cs,h=>by
  simp only[D.ok]at h
  simp only[D.cT,fY os ts cs h]
 | .tuple cs,h=>by
  simp only[D.ok]at h
  simp only[D.cT,fY os ts cs h]
theorem fY (os ts:List Nat) : ∀ l,D.bM 0 0 l=true→D.fa os ts l=l
 | [],_=>by simp[D.fa]
 |d::r,h=>by
  simp only[D.bM,Bool.and_eq_true]at h
  simp only[D.fa,sv os ts d h.1,fY os ts r h.2]
theorem ke (os ts:List Nat) : ∀ l,D.jd 0 0 l=true→D.pF os ts l=l
 | [],_=>by simp[D.pF]
 |d::r,h=>by
  simp only[D.jd,Bool.and_eq_true]at h
  simp only[D.pF,fY os ts d h.1,ke os ts r h.2]
end
mutual
theorem Ja {n m n' m':Nat} (hn:n≤n') (hm:m≤m') : ∀ d,D.ok n m d=true→D.ok n' m' d=true
 | .junk,_=>rfl
 | .int k n,_=>rfl
 | .bool b,_=>rfl
 | .str l,_=>rfl
 | .eY,_=>rfl
 | .val v,_=>rfl
 | .gf T o,h=>by simp[D.ok]at h ⊢;omega
 | .gT o,h=>by simp[D.ok]at h ⊢;omega
 | .dK z o g len,h=>by simp[D.ok]at h ⊢;omega
 | .gh o g off,h=>by simp[D.ok]at h ⊢;omega
 | .fk z,_=>rfl
 | .ix f cs,h=>by
  simp only[D.ok]at h ⊢
  exact jw hn hm cs h
 | .ptr o f,h=>by simp only[D.ok,decide_eq_true_eq]at h ⊢;omega
 | .dS r f,h=>by
  simp only[D.ok]at h ⊢
  exact jw hn hm r h
 | .slice g z rows,h=>by
  simp only[D.ok,Bool.and_eq_true]at h ⊢
  refine⟨?_,n8 hn hm rows h.2⟩
  cases g with
  |tok t y=>simp only[Tag.ok,decide_eq_true_eq]at h ⊢;omega
  |full=>rfl
  |shared=>rfl
 | .agg cs,h=>by
  simp only[D.ok]at h ⊢
  exact jw hn hm cs h
 | .tuple cs,h=>by
  simp only[D.ok]at h ⊢
  exact jw hn hm cs h
theorem jw {n m n' m':Nat} (hn:n≤n') (hm:m≤m') : ∀ l,D.bM n m l=true→D.bM n' m' l=true
 | [],_=>rfl
 |d::r,h=>by
  simp only[D.bM,Bool.and_eq_true]at h ⊢
  exact⟨Ja hn hm d h.1,jw hn hm r h.2⟩
theorem n8 {n m n' m':Nat} (hn:n≤n') (hm:m≤m') : ∀ l,D.jd n m l=true→D.jd n' m' l=true
 | [],_=>rfl
 |d::r,h=>by
  simp only[D.jd,Bool.and_eq_true]at h ⊢
  exact⟨jw hn hm d h.1,n8 hn hm r h.2⟩
end
def S0:St:=⟨[],[]⟩
section
variable {P:Program} {f:Nat}
theorem aH.pure {args:List D} {d:D} (h:aH P f args S0 d S0) (ha:D.bM 0 0 args=true) (hd:D.ok 0 0 d=true) (s:St):aH P f args s d s:=by
 refine bW.frame [] [] h List.nodup_nil List.nodup_nil (by simp) (by simp) rfl (by simp) rfl (by simp) (by rw[fY _ _ _ ha]) ha ?_
 rintro _ _ ⟨rfl,rfl⟩
 refine⟨sv _ _ _ hd, ?_⟩
 simp[St.back,lC,S0]
theorem aH.X7 {args row lA:List D} {d:D} (h:aH P f (.ptr 0 0::args) ⟨[row],[]⟩ d ⟨[lA],[]⟩) (ha:D.bM 0 0 args=true) (hr:D.bM 0 0 row=true) (UG:D.bM 0 0 lA=true) (hd:D.ok 0 0 d=true)
 {s:St} {o:Nat} (ho:s.al[o]? = some row):aH P f (.ptr o 0::args) s d ⟨s.al.set o lA,s.aA⟩:=by
 refine bW.frame [o] [] h (by simp) List.nodup_nil (by simpa using (List.getElem?_eq_some_iff.1 ho).1) (by simp) rfl (fun i o' ds e1 e2=>?_) rfl (by simp) (by simp[D.fa,D.cT,fY _ _ _ ha])
  (by simp[D.bM,D.ok,jw (Nat.zero_le 1) (Nat.le_refl 0) _ ha]) ?_
 ·cases i with
  |zero=>simp at e1 e2;subst e1;subst e2;exact⟨by rw[fY _ _ _ hr];exact ho,jw (Nat.zero_le 1) (Nat.le_refl 0) _ hr⟩
  |succ i=>simp at e1
 ·rintro _ _ ⟨rfl,rfl⟩
  refine⟨sv _ _ _ hd, ?_⟩
  simp[St.back,lC,fY _ _ _ UG]
end
end Go.Abs
namespace Go.Abs
theorem X.cG {x:X} {tm bK:Tm} (h : ∀ t∈x.reads,tm.get t=bK.get t):x.ev tm=x.ev bK:=by
 cases x with
 |s t=>exact h t (by simp[X.reads])
 |k d=>rfl
theorem ti {t:Nat} {x:X} : ∀ {l:List X},x∈l→t∈x.reads→t∈pT l
 | [],h,_=>by cases h
 |y::r,h,ht=>by
  simp only[pT,List.mem_append]
  rcases List.mem_cons.1 h with rfl|h
  ·exact .inl ht
  ·exact .inr (ti h ht)
theorem yG {x:Option X} {tm bK:Tm} (h : ∀ t∈Dd x,tm.get t=bK.get t):x.map (·.ev tm)=x.map (·.ev bK):=by
 cases x with
 |none=>rfl
 |some y=>simp only[Option.map_some];rw[X.cG h]
theorem Fv {o:AO} {tm bK:Tm} {s:St} (h : ∀ t∈o.reads,tm.get t=bK.get t):aY o tm s=aY o bK s:=by
 cases o with
 |mv x=>
  have hx:x.ev tm=x.ev bK:=X.cG fun t ht=>h t (by simp[AO.reads,ht])
  simp only[aY,hx]
 |pick c a b=>
  have hc:c.ev tm=c.ev bK:=X.cG fun t ht=>h t (by simp[AO.reads,ht])
  have ha:a.ev tm=a.ev bK:=X.cG fun t ht=>h t (by simp[AO.reads,ht])
  have hb:b.ev tm=b.ev bK:=X.cG fun t ht=>h t (by simp[AO.reads,ht])
  simp only[aY,hc,ha,hb]
 |alloc z=>
  rfl
 |vu z T=>rfl
 |Da x T=>
  have hx:x.ev tm=x.ev bK:=X.cG fun t ht=>h t (by simp[AO.reads,ht])
  simp only[aY,hx]
 |Db x y=>
  have hx:x.ev tm=x.ev bK:=X.cG fun t ht=>h t (by simp[AO.reads,ht])
  have hy:y.ev tm=y.ev bK:=X.cG fun t ht=>h t (by simp[AO.reads,ht])
  simp only[aY,hx,hy]
 |apps x y=>
  have hx:x.ev tm=x.ev bK:=X.cG fun t ht=>h t (by simp[AO.reads,ht])
  have hy:y.ev tm=y.ev bK:=X.cG fun t ht=>h t (by simp[AO.reads,ht])
  simp only[aY,hx,hy]
 |box x=>
  have hx:x.ev tm=x.ev bK:=X.cG fun t ht=>h t (by simp[AO.reads,ht])
  simp only[aY,hx]
 |C8 x=>
  have hx:x.ev tm=x.ev bK:=X.cG fun t ht=>h t (by simp[AO.reads,ht])
  simp only[aY,hx]
 |load x g n=>
  have hx:x.ev tm=x.ev bK:=X.cG fun t ht=>h t (by simp[AO.reads,ht])
  simp only[aY,hx]
 |store p x n=>
  have hp:p.ev tm=p.ev bK:=X.cG fun t ht=>h t (by simp[AO.reads,ht])
  have hx:x.ev tm=x.ev bK:=X.cG fun t ht=>h t (by simp[AO.reads,ht])
  simp only[aY,hp,hx]
 |cz x=>
  have hx:x.ev tm=x.ev bK:=X.cG fun t ht=>h t (by simp[AO.reads,ht])
  simp only[aY,hx]
 |bin op x y=>
  have hx:x.ev tm=x.ev bK:=X.cG fun t ht=>h t (by simp[AO.reads,ht])
  have hy:y.ev tm=y.ev bK:=X.cG fun t ht=>h t (by simp[AO.reads,ht])
  simp only[aY,hx,hy]
 |JR n x y=>
  have hx:x.ev tm=x.ev bK:=X.cG fun t ht=>h t (by simp[AO.reads,ht])
  have hy:y.ev tm=y.ev bK:=X.cG fun t ht=>h t (by simp[AO.reads,ht])
  simp only[aY,hx,hy]
 |eqs n ks x y=>
  have hx:x.ev tm=x.ev bK:=X.cG fun t ht=>h t (by simp[AO.reads,ht])
  have hy:y.ev tm=y.ev bK:=X.cG fun t ht=>h t (by simp[AO.reads,ht])
  simp only[aY,hx,hy]
 |JS n x y=>
  have hx:x.ev tm=x.ev bK:=X.cG fun t ht=>h t (by simp[AO.reads,ht])
  have hy:y.ev tm=y.ev bK:=X.cG fun t ht=>h t (by simp[AO.reads,ht])
  simp only[aY,hx,hy]
 |un op x=>
  have hx:x.ev tm=x.ev bK:=X.cG fun t ht=>h t (by simp[AO.reads,ht])
  simp only[aY,hx]
 |conv k x=>
  have hx:x.ev tm=x.ev bK:=X.cG fun t ht=>h t (by simp[AO.reads,ht])
  simp only[aY,hx]
 |GQ x=>
  have hx:x.ev tm=x.ev bK:=X.cG fun t ht=>h t (by simp[AO.reads,ht])
  simp only[aY,hx]
 |Ak x=>
  have hx:x.ev tm=x.ev bK:=X.cG fun t ht=>h t (by simp[AO.reads,ht])
  simp only[aY,hx]
 |aw x n=>
  have hx:x.ev tm=x.ev bK:=X.cG fun t ht=>h t (by simp[AO.reads,ht])
  simp only[aY,hx]
 |Fl x n g m=>
  have hx:x.ev tm=x.ev bK:=X.cG fun t ht=>h t (by simp[AO.reads,ht])
  simp only[aY,hx]
 |cu x i n=>
  have hx:x.ev tm=x.ev bK:=X.cG fun t ht=>h t (by simp[AO.reads,ht])
  have hi:i.ev tm=i.ev bK:=X.cG fun t ht=>h t (by simp[AO.reads,ht])
  simp only[aY,hx,hi]
 |C9 x i=>
  have hx:x.ev tm=x.ev bK:=X.cG fun t ht=>h t (by simp[AO.reads,ht])
  have hi:i.ev tm=i.ev bK:=X.cG fun t ht=>h t (by simp[AO.reads,ht])
  simp only[aY,hx,hi]
 |ext x i=>
  have hx:x.ev tm=x.ev bK:=X.cG fun t ht=>h t (by simp[AO.reads,ht])
  simp only[aY,hx]
 |len x=>
  have hx:x.ev tm=x.ev bK:=X.cG fun t ht=>h t (by simp[AO.reads,ht])
  simp only[aY,hx]
 |xg x=>
  have hx:x.ev tm=x.ev bK:=X.cG fun t ht=>h t (by simp[AO.reads,ht])
  simp only[aY,hx]
 |app a b x y=>
  have hx:x.ev tm=x.ev bK:=X.cG fun t ht=>h t (by simp[AO.reads,ht])
  have hy:y.ev tm=y.ev bK:=X.cG fun t ht=>h t (by simp[AO.reads,ht])
  simp only[aY,hx,hy]
 |mm b x y=>
  have hx:x.ev tm=x.ev bK:=X.cG fun t ht=>h t (by simp[AO.reads,ht])
  have hy:y.ev tm=y.ev bK:=X.cG fun t ht=>h t (by simp[AO.reads,ht])
  simp only[aY,hx,hy]
 | build z ps=>
  have hp:(ps.map fun p=>(p.1,p.2.1,p.2.2.ev tm))=ps.map fun p=>(p.1,p.2.1,p.2.2.ev bK):=List.map_congr_left fun p hp=>by
   have:p.2.2.ev tm=p.2.2.ev bK:=X.cG fun t ht=>h t (by simp only[AO.reads];exact ti (List.mem_map_of_mem hp) ht)
   rw[this]
  simp only[aY,hp]
 | du z m n ps=>
  have hp:(ps.map fun p=>(p.1,p.2.ev tm))=ps.map fun p=>(p.1,p.2.ev bK):=List.map_congr_left fun p hp=>by
   have:p.2.ev tm=p.2.ev bK:=X.cG fun t ht=>h t (by simp only[AO.reads];exact ti (List.mem_map_of_mem hp) ht)
   rw[this]
  simp only[aY,hp]
 | xf z m n ps=>
  have hp:(ps.map fun p=>(p.1,p.2.ev tm))=ps.map fun p=>(p.1,p.2.ev bK):=List.map_congr_left fun p hp=>by
   have:p.2.ev tm=p.2.ev bK:=X.cG fun t ht=>h t (by simp only[AO.reads];exact ti (List.mem_map_of_mem hp) ht)
   rw[this]
  simp only[aY,hp]
 |GR n x lo hi=>
  have hx:x.ev tm=x.ev bK:=X.cG fun t ht=>h t (by simp[AO.reads,ht])
  have hl:lo.map (·.ev tm)=lo.map (·.ev bK):=yG fun t ht=>h t (by simp[AO.reads,ht])
  have hh:hi.map (·.ev tm)=hi.map (·.ev bK):=yG fun t ht=>h t (by simp[AO.reads,ht])
  simp only[aY,hx,hl,hh]
 |LQ x lo hi=>
  have hx:x.ev tm=x.ev bK:=X.cG fun t ht=>h t (by simp[AO.reads,ht])
  have hl:lo.map (·.ev tm)=lo.map (·.ev bK):=yG fun t ht=>h t (by simp[AO.reads,ht])
  have hh:hi.map (·.ev tm)=hi.map (·.ev bK):=yG fun t ht=>h t (by simp[AO.reads,ht])
  simp only[aY,hx,hl,hh]
 |wQ f xs=>
  have hp:(xs.map fun x=>x.ev tm)=xs.map fun x=>x.ev bK:=List.map_congr_left fun x hx=>X.cG fun t ht=>h t (by simp only[AO.reads];exact ti hx ht)
  simp only[aY,hp]
 |wR=>rfl
 |Bg m k v=>
  have hm:m.ev tm=m.ev bK:=X.cG fun t ht=>h t (by simp[AO.reads,ht])
  have hk:k.ev tm=k.ev bK:=X.cG fun t ht=>h t (by simp[AO.reads,ht])
  have hv:v.ev tm=v.ev bK:=X.cG fun t ht=>h t (by simp[AO.reads,ht])
  simp only[aY,hm,hk,hv]
 |Dc a b z l c=>
  have hl:l.ev tm=l.ev bK:=X.cG fun t ht=>h t (by simp[AO.reads,ht])
  have hk:c.ev tm=c.ev bK:=X.cG fun t ht=>h t (by simp[AO.reads,ht])
  simp only[aY,hl,hk]
 |sV o x y=>
  have hx:x.ev tm=x.ev bK:=X.cG fun t ht=>h t (by simp[AO.reads,ht])
  have hy:y.ev tm=y.ev bK:=X.cG fun t ht=>h t (by simp[AO.reads,ht])
  simp only[aY,hx,hy]
 |yu m k z=>
  have hm:m.ev tm=m.ev bK:=X.cG fun t ht=>h t (by simp[AO.reads,ht])
  have hk:k.ev tm=k.ev bK:=X.cG fun t ht=>h t (by simp[AO.reads,ht])
  simp only[aY,hm,hk]
theorem OS {x d:D} {agg:Bool} {size:Nat} {s s':St} (h:Bi x agg size s=some (d,s')):s'=s:=by
 unfold Bi at h
 (repeat' (split at h))<;>first|(cases h;rfl)|cases h
theorem OT {o:AO} (ho:iT o.kind=false) {tm:Tm} {s s':St} {d:D} (h:aY o tm s=some (d,s')):s'=s:=by
 cases o<;>simp only[AO.kind,iT]at ho<;>first|cases ho|skip
 all_goals
  simp only[aY]at h
  first
   |(cases h;rfl)
   |(repeat' (split at h))<;>first|exact OS h|(cases h;rfl)|cases h
theorem Rz {o:AO} (ho:o.kind = .pure) {tm:Tm} {s s':St} : (aY o tm s).map (·.1)=(aY o tm s').map (·.1):=by
 cases o<;>simp only[AO.kind]at ho<;>first|cases ho|skip
 all_goals
  simp only[aY]
  first
   |rfl
   |(repeat' split)<;>rfl
def kZ (ai:AI) (tm:Tm) (s:St):Option D:=
 match ai with
 | .op _ none o=>(aY o tm s).map (·.1)
 | .op _ (some (t,want)) o=>
  match tm.get t with
  | .bool b=>if b=want then(aY o tm s).map (·.1)else some (.tuple [])
  | .tuple _=>some (.tuple [])
  |_=>none
 |_=>none
def va (P:Program) (ai:AI) (tm:Tm) (s:St) (d:D) (s':St):Prop:=
 match ai with
 | .op _ g o=>guarded g tm (aY o tm s=some (d,s')) (d = .tuple []∧s'=s)
 | .call _ g f xs=>guarded g tm (bW P f (xs.map (·.ev tm)) s fun x y=>x=d∧y=s') (d = .tuple []∧s'=s)
 | .nil .. =>False
 | .kx .. =>False
def l7 (P:Program) (is:List AI) (K:Tm→St→Prop):List (Nat×Nat)→List St→Tm→St→Prop
 | [],_,tm,s=>K tm s
 | (q,b)::r,bT,tm,s=>
  match is[q]? with
  |none=>False
  |some ai=>
   match iT ai.kind with
   |true=>∃ d s',va P ai tm s d s'∧l7 P is K r (s::bT) (tm.put ai.dst d) s'
   |false=>∃ d,kZ ai tm s=some d∧(ai.kind = .load→∀ s'∈bT.take b,kZ ai tm s'=some d)∧l7 P is K r bT (tm.put ai.dst d) s
def Tm.eqv (a b:Tm):Prop:=∀ t,a.get t=b.get t
theorem Tm.mO (tm:Tm) (dst:Option Nat) (d:D) (t:Nat):(tm.put dst d).get t=if dst=some t then d else tm.get t:=by
 cases dst with
 |none=>simp[Tm.put]
 |some u=>
  simp only[Tm.put,Tm.I3,Option.some.injEq]
  by_cases h:t=u
  ·subst h;simp
  ·rw[if_neg h,if_neg (fun e=>h e.symm)]
theorem Tm.eqv.put {a b:Tm} (h:a.eqv b) (dst:Option Nat) (d:D):(a.put dst d).eqv (b.put dst d):=fun t=>by
 rw[Tm.mO,Tm.mO,h t]
theorem Tm.Ms (tm:Tm) {x y:Option Nat} (h : ∀ t,x=some t→y≠some t) (d e:D):((tm.put x d).put y e).eqv ((tm.put y e).put x d):=fun t=>by
 simp only[Tm.mO]
 by_cases h1:x=some t
 ·simp only[h1,h t h1,if_true,if_false]
 ·simp only[h1,if_false]
theorem Cz {g:Option (Nat×Bool)} {tm bK:Tm} {A A' C:Prop} (h : ∀ t∈xh g,tm.get t=bK.get t) (ha:A→A') (hh:guarded g tm A C):guarded g bK A' C:=by
 cases g with
 |none=>exact ha hh
 | some p=>
  obtain⟨t,want⟩:=p
  unfold guarded at *
  simp only at *
  rw[← h t (by simp[xh])]
  split
  ·rename_i b hb
   rw[hb]at hh
   exact⟨fun e=>ha (hh.1 e),hh.2⟩
  ·rename_i hb
   rw[hb]at hh
   exact hh
  ·rename_i x h1 h2
   split at hh
   ·exact h1 _ ‹_›
   ·exact h2 _ ‹_›
   ·exact hh
theorem J7 {tm bK:Tm} : ∀ {l:List X},(∀ t∈pT l,tm.get t=bK.get t)→l.map (·.ev tm)=l.map (·.ev bK)
 | [],_=>rfl
 |x::r,h=>by
  simp only[List.map_cons]
  rw[X.cG fun t ht=>h t (by simp[pT,ht]),J7 (l:=r) fun t ht=>h t (by simp[pT,ht])]
theorem zF {P:Program} {ai:AI} {tm bK:Tm} {s s':St} {d:D} (h : ∀ t∈ai.reads,tm.get t=bK.get t) (hh:va P ai tm s d s'):va P ai bK s d s':=by
 cases ai with
 |op dst g o=>
  simp only[AI.reads,List.mem_append]at h
  exact Cz (fun t ht=>h t (.inl ht)) (fun e=>by rw[← Fv fun t ht=>h t (.inr ht)];exact e) hh
 |call dst g f xs=>
  simp only[AI.reads,List.mem_append]at h
  exact Cz (fun t ht=>h t (.inl ht)) (fun e=>by rw[← J7 fun t ht=>h t (.inr ht)];exact e) hh
 |nil dst g n x=>exact hh
 |kx dst g t xs=>exact hh
theorem sM {ai:AI} {tm bK:Tm} {s:St} (h : ∀ t∈ai.reads,tm.get t=bK.get t):kZ ai tm s=kZ ai bK s:=by
 cases ai with
 | op dst g o=>
  simp only[AI.reads,List.mem_append]at h
  have he:=Fv (s:=s) fun t ht=>h t (.inr ht)
  cases g with
  |none=>simp only[kZ,he]
  |some p=>
   obtain⟨t,want⟩:=p
   simp only[kZ,he,h t (.inl (by simp[xh]))]
 |call dst g f xs=>rfl
 |nil dst g n x=>rfl
 |kx dst g t xs=>rfl
theorem PJ {dst:Option Nat} {g:Option (Nat×Bool)} {o:AO} (h:iT (AI.op dst g o).kind=false):(AI.op dst g o).kind=o.kind:=by
 unfold AI.kind at *
 split at h
 ·cases h
 ·rename_i heq;cases heq;rfl
 ·cases h
theorem X8 {ai:AI} (hk:ai.kind = .pure) {tm:Tm} {s s':St} : kZ ai tm s=kZ ai tm s':=by
 cases ai with
 |op dst g o=>
  have ho:o.kind = .pure:=by rw[← hk];exact(PJ (by rw[hk];rfl)).symm
  have he:=Rz ho (tm:=tm) (s:=s) (s':=s')
  cases g with
  |none=>simp only[kZ,he]
  |some p=>simp only[kZ,he]
 |call dst g f xs=>rfl
 |nil dst g n x=>rfl
 |kx dst g t xs=>rfl
theorem apart_spec {a q:AI} (h:a.apart q=true):(∀ t,a.dst=some t→t∉q.reads)∧(∀ t,q.dst=some t→t∉a.reads)∧(∀ t,a.dst=some t→q.dst≠some t):=by
 unfold AI.apart at h
 simp only[Bool.and_eq_true]at h
 obtain⟨⟨h1,h2⟩,h3⟩:=h
 refine⟨fun t e=>?_,fun t e=>?_,fun t e e'=>?_⟩
 ·rw[e]at h1;simpa[GV]using h1
 ·rw[e]at h2;simpa[GV]using h2
 ·rw[e,e']at h3;simp at h3
theorem vb {tm:Tm} {dst:Option Nat} {d:D} {l:List Nat} (h : ∀ t,dst=some t→t∉l) : ∀ t∈l,tm.get t=(tm.put dst d).get t:=fun t ht=>by
 rw[Tm.mO,if_neg fun e=>h t e ht]
section
variable {P:Program} {is:List AI} {K:Tm→St→Prop}
theorem ve (hK : ∀ tm bK s,Tm.eqv tm bK→K tm s→K bK s) : ∀ (R:List (Nat×Nat)) (bT:List St) (tm bK:Tm) (s:St),tm.eqv bK→l7 P is K R bT tm s→l7 P is K R bT bK s
 | [],_,tm,bK,s,e,h=>hK tm bK s e h
 | (q,b)::R,bT,tm,bK,s,e,h=>by
  unfold l7 at *
  split at h
  ·exact h.elim
  ·rename_i ai yE
   split at h
   ·rename_i hc
    obtain⟨d,s',h1,h2⟩:=h
    exact⟨d,s',zF (fun t _=>e t) h1,ve hK R _ _ _ _ (e.put _ d) h2⟩
   ·rename_i hc
    obtain⟨d,h1,h2,h3⟩:=h
    refine⟨d, ?_,fun hl s' oG=>?_,ve hK R _ _ _ _ (e.put _ d) h3⟩
    ·rw[← sM fun t _=>e t];exact h1
    ·rw[← sM fun t _=>e t];exact h2 hl s' oG
theorem Mt (i:Nat) (l:List Nat):kO is (i::l)=(if iT (ky is i)then 1 else 0)+kO is l:=by
 unfold kO
 rw[List.filter_cons]
 split<;>simp<;>omega
theorem zG (hK : ∀ tm bK s,Tm.eqv tm bK→K tm s→K bK s) {q b:Nat} {ai:AI} (hq:is[q]? = some ai) (hm:iT ai.kind=false) (Y:List (Nat×Nat)) :
 ∀ (X:List (Nat×Nat)) (bT:List St) (tm:Tm) (s:St),(∀ a∈X,mK is a.1 q=true)→(ai.kind = .load→kO is (X.map (·.1))≤b)→
  l7 P is K (X++(q,b)::Y) bT tm s→
  ∃ d,kZ ai tm s=some d∧(ai.kind = .load→∀ s'∈bT.take (b - kO is (X.map (·.1))),kZ ai tm s'=some d)∧l7 P is K (X++Y) bT (tm.put ai.dst d) s
 | [],bT,tm,s,_,_,h=>by
  simp only[List.nil_append,l7,hq,hm]at h
  obtain⟨d,h1,h2,h3⟩:=h
  exact⟨d,h1,fun hl s' oG=>h2 hl s' (by simpa[kO]using oG),h3⟩
 | (a,c)::X,bT,tm,s,fv,hb,h=>by
  have RA:=fv (a,c) (by simp)
  unfold mK at RA
  split at RA
  ·rename_i ia iq hia wI
   rw[hq]at wI
   cases wI
   obtain⟨p1,p2,p3⟩:=apart_spec RA
   have J3:ky is a=ia.kind:=by simp[ky,hia]
   have LA : ∀ x∈X,mK is x.1 q=true:=fun x hx=>fv x (List.mem_cons_of_mem _ hx)
   rw[List.map_cons,Mt,J3]at hb ⊢
   simp only[List.cons_append,l7,hia]at h ⊢
   cases hc:iT ia.kind
   ·simp only [hc,Bool.false_eq_true,if_false,Nat.zero_add]at h hb ⊢
    obtain⟨d,h1,h2,h3⟩:=h
    obtain⟨e,g1,g2,g3⟩:=zG hK hq hm Y X bT _ s LA hb h3
    have cg : ∀ s,kZ ai tm s=kZ ai (tm.put ia.dst d) s:=fun s=>sM (vb p1)
    have cg' : ∀ s,kZ ia tm s=kZ ia (tm.put ai.dst e) s:=fun s=>sM (vb p2)
    refine⟨e,by rw[cg];exact g1,fun hl s' oG=>by rw[cg];exact g2 hl s' oG,d,by rw[← cg'];exact h1,fun hl s' oG=>by rw[← cg'];exact h2 hl s' oG, ?_⟩
    exact ve hK _ _ _ _ _ (Tm.Ms tm p3 d e) g3
   ·simp only [hc,if_true]at h hb ⊢
    obtain⟨d,s1,h1,h3⟩:=h
    obtain⟨e,g1,g2,g3⟩:=zG hK hq hm Y X (s::bT) _ s1 LA (fun hl=>by have:=hb hl;omega) h3
    have cg : ∀ s,kZ ai tm s=kZ ai (tm.put ia.dst d) s:=fun s=>sM (vb p1)
    have sb:kZ ai tm s=some e:=by
     cases hk:ai.kind with
     |pure=>rw[cg,X8 hk (s':=s1)];exact g1
     |load=>
      have:=hb hk
      rw[cg]
      refine g2 hk s ?_
      rw[show b - kO is (X.map (·.1))=(b - (1+kO is (X.map (·.1))))+1 by omega,List.take_succ_cons]
      exact List.mem_cons_self
     |alloc=>rw[hk]at hm;cases hm
     |core=>rw[hk]at hm;cases hm
    refine⟨e,sb,fun hl s' oG=>?_,d,s1,zF (vb p2) h1,ve hK _ _ _ _ _ (Tm.Ms tm p3 d e) g3⟩
    have:=hb hl
    rw[cg]
    refine g2 hl s' ?_
    rw[show b - kO is (X.map (·.1))=(b - (1+kO is (X.map (·.1))))+1 by omega,List.take_succ_cons]
    exact List.mem_cons_of_mem _ oG
  ·cases RA
end
end Go.Abs
namespace Go.Abs
section
variable {P:Program}
theorem U3 {o:Oper} {z:List D} (h:GY P o=some (.alloc z)) : ∃ t,o.op = .alloc t∧zeroOf P t=some z:=by
 obtain⟨dst,op,type,pos,after,guard⟩:=o
 unfold GY at h
 simp only at h
 split at h
 case h_4 t=>
  split at h
  ·obtain⟨z',h1,h2⟩:=map_some h;cases h2
  ·obtain⟨z',h1,h2⟩:=map_some h;cases h2;exact⟨t,rfl,h1⟩
 all_goals
  first
   |(rw[Option.map_eq_some_iff]at h;obtain⟨_,_,h⟩:=h;cases h)
   |skip
 all_goals
  (repeat' (split at h))<;>first|(cases h;done)|(rw[Option.map_eq_some_iff]at h;obtain⟨_,_,h⟩:=h;cases h)
theorem DB {nt:Nat} {ops:Array Oper} {o:Oper} {ai:AI} (h:cI P nt ops o=some ai) :
 ∃ g,xi ops o.guard=some g∧(∀ t,o.dst=some t→t<nt)∧uZ P ops o g=some ai:=by
 have h2:=Az h
 unfold cI at h
 split at h
 ·cases h
 ·rename_i g hg
  split at h
  ·exact⟨g,hg,h2,h⟩
  ·cases h
theorem vG {ops:Array Oper} {o:Oper} {g:Option (Nat×Bool)} {ai:AI} (h:uZ P ops o g=some ai):ai.dst=o.dst:=by
 unfold uZ at h
 split at h
 ·split at h
  ·obtain⟨xs,_,rfl⟩:=map_some h;rfl
  ·cases h
 ·obtain⟨xs,_,rfl⟩:=map_some h;rfl
 ·split at h
  ·cases h;rfl
  ·split at h
   ·cases h;rfl
   ·cases h;rfl
   ·cases h
theorem vH {nt:Nat} {ops:Array Oper} {o:Oper} {ai:AI} (h:cI P nt ops o=some ai):ai.dst=o.dst:=by
 obtain⟨g,_,_,h⟩:=DB h
 exact vG h
theorem zH {nt:Nat} {ops:Array Oper} {i:Nat} {o:Oper} {ai:AI} (hi:ops[i]? = some o) (hc:cI P nt ops o=some ai)
 {M:Map} {s:St} {w:World} {tm:Tm} {act:Act} (r:Rel M s w) (kW:Laid M s w) (ht:nM M s tm act.tmps) {K':Tm→St→Prop} (h:jW P [ai] K' tm s)
 {K:Act→World→Prop} {Q:Exit→Act→World→Prop}
 (hK : ∀ d v s1 w1 M1,K' (tm.put ai.dst d) s1→Ext M s w M1 s1 w1→Rel M1 s1 w1→RD M1 s1 d v→K (act.put o.dst v) w1):wpOp P ops Q i K act w:=by
 obtain⟨g,hg,_,hb⟩:=DB hc
 rw[vG hb]at hK
 simp only[wpOp,hi]
 have skip:K' (tm.put o.dst (.tuple [])) s→K (act.put o.dst Go.undef) w:=fun hk=>hK _ _ _ _ _ hk (Ext.refl M s w) r .undef
 unfold uZ at hb
 split at hb
 ·rename_i f args og oe
  split at hb
  ·rename_i Bq
   obtain⟨xs,qp,rfl⟩:=map_some hb
   simp only[jW]at h
   rcases lr hg ht h with ⟨hw,hA⟩|⟨hw,hB⟩
   ·simp only [hw,if_true]
    left
    have hex:(execOp act.eval o).run P w = .ok (.enter f (args.map act.eval)) w:=by
     obtain⟨dst,op,type,pos,after,guard⟩:=o
     simp only at oe
     subst oe
     exact zD act.eval dst f args og type pos after guard rfl Bq w
    obtain⟨c1,c2⟩:=yD ht qp
    unfold Oper.wp
    rw[hex,Oper.upon_enter]
    refine(hA M w (args.map act.eval) r kW (by simp[c1]) (fun i d v e1 e2=>c2 i d v e1 (by simpa using e2))).mono ?_
    rintro en w' ⟨M',d,v,s',rfl,hk,e',r',hv⟩
    exact hK _ _ _ _ _ hk e' r' hv
   ·simp only [hw]
    exact skip hB
  ·cases hb
 ·rename_i t args og oe
  obtain⟨xs,qp,rfl⟩:=map_some hb
  simp only[jW]at h
  rcases lr hg ht h with ⟨hw,hA⟩|⟨hw,hB⟩
  ·simp only [hw,if_true]
   left
   split at hA
   ·rename_i f pB nu
    obtain⟨Bq,hA⟩:=hA
    have US:=ht t
    rw[nu]at US
    obtain⟨vs,qC,hlen,Hc⟩:=US.PD
    have hex:(execOp act.eval o).run P w = .ok (.enter f (args.map act.eval++vs)) w:=by
     obtain⟨dst,op,type,pos,after,guard⟩:=o
     simp only at oe
     subst oe
     exact Dw act.eval dst (.tmp t) f vs args og type pos after guard qC Bq w
    have cc:=J4 qp ht hlen Hc
    unfold Oper.wp
    rw[hex,Oper.upon_enter]
    refine(hA M w (args.map act.eval++vs) r kW cc.1 cc.2).mono ?_
    rintro en w' ⟨M',d,v,s',rfl,hk,e',r',hv⟩
    exact hK _ _ _ _ _ hk e' r' hv
   ·exact hA.elim
  ·simp only [hw]
   exact skip hB
 ·split at hb
  ·rename_i neg x FX
   cases hb
   simp only[jW]at h
   rcases lr hg ht h with ⟨hw,hA⟩|⟨hw,hB⟩
   ·simp only [hw,if_true]
    left
    split at hA
    ·rename_i g' z rows hx
     obtain⟨b,hb,hex⟩:=Cv (w:=w) FX ht hx
     unfold Oper.wp
     rw[hex,Oper.upon_value]
     exact hK _ _ _ _ _ (hA b hb) (Ext.refl M s w) r (.bool _)
    ·exact hA.elim
   ·simp only [hw]
    exact skip hB
  ·have fin : ∀ ao,ai = .op o.dst g ao→(∀ d s',aY ao tm s=some (d,s')→dq P M s w (execOp act.eval o) d s')→
    (if Region.wanted o (yielded ops act.tmps)=true then o.wp P act w K Q∨(o.asks P act w∧LetsOut Q)else K (act.put o.dst Go.undef) w):=by
    intro ao yE hdo
    subst yE
    simp only[jW]at h
    rcases lr hg ht h with ⟨hw,hA⟩|⟨hw,hB⟩
    ·simp only [hw,if_true]
     left
     split at hA
     ·rename_i d s' sK
      obtain⟨v,w',M',ew,r',hv,e'⟩:=hdo d s' sK
      unfold Oper.wp
      rcases ew with ew|⟨ew,rfl⟩
      ·rw [ew,Oper.upon_value]
       exact hK _ _ _ _ _ hA e' r' hv
      ·rw [ew,Oper.upon_skip]
       exact hK _ _ _ _ _ hA e' r' hv
     ·exact hA.elim
    ·simp only [hw]
     exact skip hB
   split at hb
   ·rename_i z k n ps pW
    cases hb
    refine fin _ rfl (fun d s' sK=>?_)
    split at sK
    ·exact Bp pW r ht sK
    ·exact u9 pW r ht sK
   ·rename_i ao pW
    cases hb
    exact fin _ rfl (fun d s' sK=>u9 pW r ht sK)
   ·cases hb
structure PK (M:Map) (s:St) (b:Nat):Prop where
 o : ∀ o,o<s.al.length→M.mu o≠b
 t : ∀ t c z,s.live t→M.be t≠some (b,c,z)
 g : ∀ off,M.G b off=none
theorem PK.mono {M M':Map} {s s':St} {w w':World} {b:Nat} (h:PK M s b) (e:Ext M s w M' s' w') (hb:b<w.heap.size):PK M' s' b:=by
 refine⟨fun o ho=>?_,fun t c z hl he=>?_,fun off=>?_⟩
 ·rcases e.mo ho with ⟨h1,h2⟩ | h1
  ·rw[h2];exact h.o o h1
  ·omega
 ·rcases e.ry t b c z hl he with ⟨h1,c',z',h2⟩ | h1
  ·exact h.t t c' z' h1 h2
  ·omega
 ·by_cases hg:M'.G b off=M.G b off
  ·rw[hg];exact h.g off
  ·rcases e.sk b off hg with h1 | ⟨t,c,z,h1,h2⟩
   ·omega
   ·exact(h.t t c z h1 h2).elim
theorem Rel.idle {M:Map} {s:St} {w:World} (r:Rel M s w) (x:Obj):Rel M s (w.alloc x)∧Ext M s w M s (w.alloc x)∧PK M s w.heap.size:=by
 refine⟨⟨fun b o v e=>?_,fun o ds e=>?_,r.kl,r.inj,fun t n e=>?_,r.fO,r.gR⟩, ?_,⟨fun o ho=>?_,fun t c z hl e=>?_,fun off=>r.QT (Nat.le_refl _) off⟩⟩
 ·obtain⟨h3,h4⟩:=r.comm b o v e
  refine⟨?_,h4⟩
  rw[World.cell?_alloc_lt]
  ·exact h3
  ·exact r.Dh e
 ·obtain⟨vs,T,h3,h4,h5,h6⟩:=r.obj o ds e
  exact⟨vs,T,h3.keep (heap_alloc_old w _ _ h3.lt),h4,h5,h6⟩
 ·rcases r.tok t n e with h3 | ⟨b,cap,size,gv,T',h3,h4,h5⟩
  ·exact .inl h3
  ·exact .inr ⟨b,cap,size,gv,T',h3,by rw[heap_alloc_old w _ _ (ln h4)];exact h4,h5⟩
 ·exact⟨Le.refl M s,fun b hb _ _=>heap_alloc_old w _ b hb,fun o h3 h4=>by rcases h3 with h3|h3;omega;exact(h3 rfl).elim,fun t b c z h e=> .inl ⟨h,c,z,e⟩,fun _ _ h=>(h rfl).elim,by simp,rfl,rfl,rfl⟩
 ·have:=r.rZ ho;omega
 ·have:=r.u5 hl e;omega
theorem Rel.aj7 {M:Map} {s:St} {w:World} (r:Rel M s w) {B:gZ} (e:Ext B.M B.s B.w M s w) {b:Nat} (u:PK M s b) (hb:B.w.heap.size≤b)
 (ds:List D) (vs:Array Value) (T:TypeId) (hh:w.heap[b]? = some (.cells vs T (0,0))) (hl:vs.size=ds.length) (h1 : ∀ v∈vs,v.oneCell'=true)
 (h2 : ∀ (i:Nat) (d:D) (v:Value),ds[i]? = some d→vs[i]? = some v→RD M s d v) :
 Rel (M.eQ s.al.length b) {s with al:=s.al++ [ds]} w∧Ext B.M B.s B.w (M.eQ s.al.length b) {s with al:=s.al++ [ds]} w∧
 Le M s (M.eQ s.al.length b) {s with al:=s.al++ [ds]}:=by
 have le:=uz (M:=M) s b ds
 have oB : ∀ o,o<s.al.length→(M.eQ s.al.length b).mu o=M.mu o:=fun o ho=>congrArg Prod.fst (vx M b .any ho)
 have dB:(M.eQ s.al.length b).mu s.al.length=b:=by simp[Map.eQ,Map.mu]
 refine⟨⟨r.comm,fun o pj e'=>?_,fun o ho off=>?_,fun o o' ho pk e'=>?_,r.tok,fun t b' c z o hl e' ho=>?_,r.gR⟩, ?_,le⟩
 ·rcases Nat.lt_or_ge o s.al.length with ho | ho
  ·rw [List.getElem?_append_left ho]at e'
   obtain⟨gv,T',h3,h4,h5,h6⟩:=r.obj o pj e'
   refine⟨gv,T', ?_,h4,⟨h5.1,by rw[le.ty o ho];exact h5.2⟩,fun i d v e1 e2=>(h6 i d v e1 e2).mono le⟩
   rw[vx M b .any ho];exact h3
  ·rw [List.getElem?_append_right ho]at e'
   have:o=s.al.length:=by
    have:=(List.getElem?_eq_some_iff.1 e').1
    simp at this;omega
   subst this
   simp at e';subst e'
   refine⟨vs,T, ?_,hl,⟨h1,fun T' h=>by simp[Map.eQ,Map.ty,Ob.ty?]at h⟩,fun i d v e1 e2=>(h2 i d v e1 e2).mono le⟩
   have hl:(M.eQ s.al.length b).loc s.al.length=(b, .any):=by simp[Map.eQ]
   rw[hl];exact jz.of hh trivial
 ·simp at ho
  rcases Nat.lt_or_ge o s.al.length with h3|h3
  ·rw[oB o h3];exact r.kl o h3 off
  ·have:o=s.al.length:=by omega
   subst this
   rw[dB];exact u.g off
 ·simp at ho pk
  rcases Nat.lt_or_ge o s.al.length with h3|h3<;>rcases Nat.lt_or_ge o' s.al.length with h4|h4
  ·rw[oB o h3,oB o' h4]at e';exact r.inj o o' h3 h4 e'
  ·have:o'=s.al.length:=by omega
   subst this
   rw[oB o h3,dB]at e'
   exact(u.o o h3 e').elim
  ·have:o=s.al.length:=by omega
   subst this
   rw[oB o' h4,dB]at e'
   exact(u.o o' h4 e'.symm).elim
  ·omega
 ·simp at ho
  rcases Nat.lt_or_ge o s.al.length with h3|h3
  ·rw[oB o h3];exact r.fO t b' c z o hl e' h3
  ·have:o=s.al.length:=by omega
   subst this
   rw[dB]
   intro he
   subst he
   exact u.t t c z hl e'
 ·refine⟨e.le.trans le,e.kept,fun o h3 h4=> ?_,e.ry,e.sk,e.size,e.os,e.tape,e.output⟩
  simp at h4
  rcases Nat.lt_or_ge o s.al.length with h5|h5
  ·rw[oB o h5]at h3 ⊢;exact e.sj o h3 h5
  ·have:o=s.al.length:=by omega
   subst this
   rw[dB];exact hb
theorem OU {nt:Nat} {ops:Array Oper} {i:Nat} {o:Oper} {t:Nat} {z:List D} (hi:ops[i]? = some o) (hc:cI P nt ops o=some (.op (some t) none (.alloc z)))
 {w:World} {act:Act} {K:Act→World→Prop} {Q:Exit→Act→World→Prop}
 (hK : ∀ vs T,vs.size=z.length→(∀ v∈vs,v.oneCell'=true)→(∀ (M:Map) (s:St) (i:Nat) (d:D) (v:Value),z[i]? = some d→vs[i]? = some v→RD M s d v)→
  K (act.put (some t) (.pointer (some ⟨w.heap.size,0,none⟩))) (w.alloc (.cells vs T))):wpOp P ops Q i K act w:=by
 obtain⟨g,hg,_,hb⟩:=DB hc
 have sr:=vG hb
 simp only[AI.dst]at sr
 simp only[wpOp,hi]
 have oe:g=none∧GY P o=some (.alloc z):=by
  unfold uZ at hb
  split at hb
  ·split at hb
   ·obtain⟨xs,_,h⟩:=map_some hb;cases h
   ·cases hb
  ·obtain⟨xs,_,h⟩:=map_some hb;cases h
  ·split at hb
   ·cases hb
   ·split at hb
    ·rename_i pW
     simp only[Option.some.injEq,AI.op.injEq]at hb
     obtain⟨_,_,h⟩:=hb
     split at h<;>cases h
    ·rename_i ao pW
     simp only[Option.some.injEq,AI.op.injEq]at hb
     obtain⟨_,h1,h2⟩:=hb
     subst h2
     exact⟨h1,pW⟩
    ·cases hb
 obtain⟨rfl,pW⟩:=oe
 obtain⟨T,hT,hz⟩:=U3 pW
 have hw:Region.wanted o (yielded ops act.tmps)=true:=by
  have:o.guard=none:=by
   cases JV:o.guard with
   |none=>rfl
   |some p=>
    obtain⟨j,b⟩:=p
    rw[JV]at hg
    unfold xi at hg
    simp only at hg
    split at hg<;>cases hg
  simp[Region.wanted,this]
 simp only[hw,if_true]
 left
 unfold zeroOf at hz
 split at hz
 ·rename_i inf Rq
  split at hz
  ·rename_i v hv
   split at hz
   ·have ew:(execOp act.eval o).run P w = .ok (.value (.pointer (some ⟨w.heap.size,0,none⟩))) (w.alloc (.cells v.cells T)):=by
     obtain⟨dst,op,type,pos,after,guard⟩:=o
     simp only at hT
     subst hT
     simp[execOp,Instr.alloc,zeroValue,gX P Rq,hv,newVar,newRow]
    have h3:=fun M s=>mN (M:=M) (s:=s) hz
    obtain⟨h1,h2,_⟩:=h3 ⟨fun _ _=>none,fun _=>(0, .any),fun _=>none⟩ ⟨[],[]⟩
    unfold Oper.wp
    rw[ew,Oper.upon_value, ← sr]
    exact hK _ _ (by rw[h1];simp) (fun u hu=>h2 u (by simpa using hu)) (fun M s i d u e1 e2=>(h3 M s).2.2 i d u e1 (by simpa using e2))
   ·cases hz
  ·cases hz
 ·cases hz
end
end Go.Abs
namespace Go.Abs
section
variable {is:List AI} {af pt:List (List Nat)}
theorem CA {pq:List Nat} {l l':List Nat} (h:l'.Sublist l) (hb:mB is pq l=true):mB is pq l'=true:=by
 induction h with
 |slnil=>rfl
 |cons a h ih=>
  simp only[mB,Bool.and_eq_true]at hb
  exact ih hb.2
 |cons_cons a h ih=>
  simp only[mB,Bool.and_eq_true,Bool.or_eq_true]at hb ⊢
  refine⟨hb.1.imp id fun h1=>?_,ih hb.2⟩
  rw[List.all_eq_true]at h1 ⊢
  exact fun x hx=>h1 x (h.subset hx)
theorem EE {f:Nat→Bool} {l l':List Nat} (h:l'.Sublist l) (ha:l.all f=true):l'.all f=true:=by
 rw[List.all_eq_true]at ha ⊢
 exact fun x hx=>ha x (h.subset hx)
theorem OV {l l':List Nat} (h:l'.Sublist l):kO is l'≤kO is l:=(h.filter _).length_le
theorem RB {pre Jb:List Nat} {q b:Nat} (h:Jb.Sublist pre) (hs:qz is pt pre q b=true):qz is pt Jb q b=true:=by
 unfold qz at *
 split at hs
 ·exact EE h hs
 ·exact EE h hs
 ·simp only [Bool.and_eq_true]at hs ⊢
  exact⟨EE h hs.1,CA h hs.2⟩
 ·simp only [Bool.and_eq_true,decide_eq_true_eq]at hs ⊢
  exact⟨⟨EE h hs.1.1,CA h hs.1.2⟩,Nat.le_trans (OV (h.filter _)) hs.2⟩
theorem Mu : ∀ {R:List (Nat×Nat)} {pre Jb:List Nat},Jb.Sublist pre→wE is af pt pre R=true→wE is af pt Jb R=true
 | [],_,_,_,_=>rfl
 |(q,b)::R,pre,Jb,h,ho=>by
  simp only[wE,Bool.and_eq_true,Bool.not_eq_true']at ho ⊢
  obtain⟨⟨⟨h1,h2⟩,h3⟩,h4⟩:=ho
  refine⟨⟨⟨RB h h1, ?_⟩,h3⟩,Mu (h.cons_cons q) h4⟩
  rw[← Bool.not_eq_true,List.contains_iff_mem]at h2 ⊢
  exact fun hm=>h2 (h.subset hm)
theorem Jc : ∀ {X:List (Nat×Nat)} {e:Nat×Nat} {Y:List (Nat×Nat)} {pre:List Nat},wE is af pt pre (X++e::Y)=true→wE is af pt pre (X++Y)=true
 | [],(q,b),Y,pre,h=>by
  simp only[List.nil_append,wE,Bool.and_eq_true]at h
  exact Mu (List.sublist_cons_self q pre) h.2
 |(a,c)::X,e,Y,pre,h=>by
  simp only[List.cons_append,wE,Bool.and_eq_true]at h ⊢
  obtain⟨⟨⟨h1,h2⟩,h3⟩,h4⟩:=h
  refine⟨⟨⟨h1,h2⟩, ?_⟩,Jc h4⟩
  rw[List.all_eq_true]at h3 ⊢
  intro j hj
  have:=h3 j hj
  simp only[Bool.and_eq_true,Bool.not_eq_true']at this ⊢
  refine⟨this.1, ?_⟩
  have h5:=this.2
  rw[← Bool.not_eq_true,List.contains_iff_mem]at h5 ⊢
  refine fun hm=>h5 ?_
  simp only[List.map_append,List.map_cons,List.mem_append,List.mem_cons]at hm ⊢
  exact hm.imp id .inr
theorem vI : ∀ {X:List (Nat×Nat)} {q b:Nat} {Y:List (Nat×Nat)} {pre:List Nat},wE is af pt pre (X++(q,b)::Y)=true→
 qz is pt ((X.map (·.1)).reverse++pre) q b=true∧q∉X.map (·.1)∧q∉pre∧(∀ j∈jf af q,j≠q∧j∉Y.map (·.1))∧wE is af pt (q::((X.map (·.1)).reverse++pre)) Y=true
 | [],q,b,Y,pre,h=>by
  simp only[List.nil_append,wE,Bool.and_eq_true,Bool.not_eq_true']at h
  obtain⟨⟨⟨h1,h2⟩,h3⟩,h4⟩:=h
  rw[← Bool.not_eq_true,List.contains_iff_mem]at h2
  refine⟨h1,by simp,h2,fun j hj=>?_,h4⟩
  rw[List.all_eq_true]at h3
  have:=h3 j hj
  simp only[Bool.and_eq_true,bne_iff_ne,Bool.not_eq_true', ← Bool.not_eq_true,List.contains_iff_mem]at this
  exact this
 |(a,c)::X,q,b,Y,pre,h=>by
  simp only[List.cons_append,wE,Bool.and_eq_true]at h
  obtain⟨_,h4⟩:=h
  obtain⟨g1,g2,g3,g4,g5⟩:=vI h4
  simp only[List.map_cons,List.reverse_cons,List.append_assoc,List.singleton_append]
  refine⟨g1, ?_,fun h=>g3 (List.mem_cons_of_mem _ h),g4,g5⟩
  intro hm
  rcases List.mem_cons.1 hm with rfl|hm
  ·exact g3 (by simp)
  ·exact g2 hm
theorem EF : ∀ {Y:List (Nat×Nat)} {pre:List Nat},wE is af pt pre Y=true→∀ x∈Y,x.1∉pre∧(ky is x.1 = .alloc→∀ a∈pre,mK is a x.1=true)
 | [],_,_,x,hx=>by cases hx
 | (q,b)::Y,pre,h,x,hx=>by
  simp only[wE,Bool.and_eq_true,Bool.not_eq_true']at h
  obtain⟨⟨⟨h1,h2⟩,_⟩,h4⟩:=h
  rw[← Bool.not_eq_true,List.contains_iff_mem]at h2
  rcases List.mem_cons.1 hx with rfl|hx
  ·refine⟨h2,fun hk a ha=> ?_⟩
   unfold qz at h1
   simp only[hk]at h1
   rw[List.all_eq_true]at h1
   exact h1 a ha
  ·obtain⟨g1,g2⟩:=EF h4 x hx
   exact⟨fun h=>g1 (List.mem_cons_of_mem _ h),fun hk a ha=>g2 hk a (List.mem_cons_of_mem _ ha)⟩
theorem Fw : ∀ {n:Nat},Al af pt n=true→∀ i,i<n→∀ j∈jf pt i,j∈jf af i∨∃ k∈jf af i,j∈jf pt k
 | 0,_,i,hi=>by omega
 | n+1,h,i,hi=>by
  simp only[Al,Bool.and_eq_true]at h
  rcases Nat.lt_or_ge i n with h1|h1
  ·exact Fw h.2 i h1
  ·have:i=n:=by omega
   subst this
   intro j hj
   have:=h.1
   rw[List.all_eq_true]at this
   have:=this j hj
   simp only[Bool.or_eq_true,List.contains_iff_mem,List.any_eq_true]at this
   exact this
theorem AG {pq:List Nat} : ∀ {l:List Nat},mB is pq l=true→∀ (x:Nat) (l1 l2:List Nat),l=l1++x::l2→ky is x = .alloc→x∈pq→∀ y∈l2,y∈pq
 | [],_,x,l1,l2,h=>by simp at h
 | a::l,hb,x,l1,l2,h=>by
  simp only[mB,Bool.and_eq_true,Bool.or_eq_true,Bool.not_eq_true',Bool.and_eq_false_iff]at hb
  intro hk hx y hy
  cases l1 with
  | nil=>
   simp only[List.nil_append,List.cons.injEq]at h
   obtain⟨rfl,rfl⟩:=h
   rcases hb.1 with h1|h1
   ·rcases h1 with h1 | h1
    ·simp[hk]at h1
    ·rw [← Bool.not_eq_true,List.contains_iff_mem]at h1
     exact(h1 hx).elim
   ·rw [List.all_eq_true]at h1
    have:=h1 y hy
    rwa [List.contains_iff_mem]at this
  |cons b l1=>
   simp only[List.cons_append,List.cons.injEq]at h
   exact AG hb.2 x l1 l2 h.2 hk hx y hy
end
structure Pd where
 q:Nat
 t:Nat
 z:List D
 b:Nat
structure afN (is:List AI) (R:List (Nat×Nat)) (B:gZ) (M:Map) (s:St) (act:Act) (w:World) (p:Pd):Prop where
 mem:p.q∈R.map (·.1)
 ai:is[p.q]? = some (.op (some p.t) none (.alloc p.z))
 cells : ∃ (vs:Array Value) (T:TypeId),w.heap[p.b]? = some (.cells vs T (0,0))∧vs.size=p.z.length∧(∀ v∈vs,v.oneCell'=true)∧
  ∀ (M:Map) (s:St) (i:Nat) (d:D) (v:Value),p.z[i]? = some d→vs[i]? = some v→RD M s d v
 unk:PK M s p.b
 base:B.w.heap.size≤p.b
 slot:act.tmps.getD p.t Go.undef = .pointer (some ⟨p.b,0,none⟩)
def Bv (P:Program) (is:List AI) (K:Tm→St→Prop) (B:gZ) (nt:Nat) (R:List (Nat×Nat)) (fl:List Pd) (act:Act) (w:World):Prop:=
 ∃ (M:Map) (s:St) (tm vJ:Tm) (bT:List St),Ext B.M B.s B.w M s w∧Rel M s w∧nM M s vJ act.tmps∧(∀ t,(∀ p∈fl,p.t≠t)→vJ.get t=tm.get t)∧
  act.tmps.size=nt∧act.defers = []∧l7 P is K R bT tm s∧(∀ p∈fl,afN is R B M s act w p)∧
  (∀ p∈fl,∀ p'∈fl,p.q=p'.q∨p.t=p'.t∨p.b=p'.b→p=p')
structure tj (is:List AI) (af pt:List (List Nat)) (dM:Array Bool) (R:List (Nat×Nat)) (fl:List Pd):Prop where
 ok:wE is af pt [] R=true
 J8 : ∀ i,i<is.length→(dM.getD i false=true↔(i∉R.map (·.1)∨∃ p∈fl,p.q=i))
 cl : ∀ i,i<is.length→dM.getD i false=true→∀ j∈jf pt i,dM.getD j false=true
 size:dM.size=is.length
 lt : ∀ x∈R,x.1<is.length
section
variable {P:Program} {is:List AI} {af pt:List (List Nat)} {K:Tm→St→Prop} {B:gZ} {nt:Nat}
theorem afO {dM:Array Bool} {q b:Nat} {R:List (Nat×Nat)} {fl:List Pd} {act:Act} {w:World} (hs:tj is af pt dM ((q,b)::R) fl) (h:Bv P is K B nt ((q,b)::R) fl act w)
 {p:Pd} (hp:p∈fl) (sN:p.q=q) :
 tj is af pt dM R (fl.filter fun p'=>decide (p'.q≠q))∧Bv P is K B nt R (fl.filter fun p'=>decide (p'.q≠q)) act w:=by
 have iO : ∀ p',p'∈(fl.filter fun p'=>decide (p'.q≠q))↔p'∈fl∧p'.q≠q:=fun p'=>by simp
 constructor
 ·have nS:=hs.ok
  have Bw:=vI (X:= []) nS
  refine⟨Jc (X:= []) nS,fun i hi=>?_,hs.cl,hs.size,fun x hx=>hs.lt x (List.mem_cons_of_mem _ hx)⟩
  rw[hs.J8 i hi]
  simp only[List.map_cons,List.mem_cons,not_or]
  have hqR:q∉R.map (·.1):=fun hm=>by
   obtain⟨x,hx,rfl⟩:=List.mem_map.1 hm
   exact(EF Bw.2.2.2.2 x hx).1 (by simp)
  constructor
  ·rintro(⟨h1,h2⟩ | ⟨p',h1,h2⟩)
   ·exact .inl h2
   ·by_cases hq:i=q
    ·subst hq;exact .inl hqR
    ·exact .inr ⟨p',(iO p').2 ⟨h1,by rw[h2];exact hq⟩,h2⟩
  ·rintro(h1 | ⟨p',h1,h2⟩)
   ·by_cases hq:i=q
    ·subst hq;exact .inr ⟨p,hp,sN⟩
    ·exact .inl ⟨hq,h1⟩
   ·exact .inr ⟨p',((iO p').1 h1).1,h2⟩
 ·obtain⟨M,s,tm,vJ,bT,e,r,ht,sb,hn,hd,hg,yH,vf⟩:=h
  have hk:=yH p hp
  obtain⟨vs,T,hh,hl,h1,h2⟩:=hk.cells
  have yE:=hk.ai
  rw[sN]at yE
  simp only[l7,yE,AI.kind,iT]at hg
  obtain⟨d,s',jr,hg⟩:=hg
  have sK:aY (.alloc p.z) tm s=some (d,s'):=jr
  simp only[aY,Option.some.injEq,Prod.mk.injEq]at sK
  obtain⟨rfl,rfl⟩:=sK
  obtain⟨r',e',le⟩:=r.aj7 e hk.unk hk.base p.z vs T hh hl h1 (h2 M s)
  refine⟨_,_,_,vJ.put (some p.t) (.ptr s.al.length 0),_,e',r',fun u=>?_,fun t PN=>?_,hn,hd,hg,fun p' oy=>?_,fun p1 h1 p2 h2=>vf p1 ((iO p1).1 h1).1 p2 ((iO p2).1 h2).1⟩
  ·rw [Tm.mO]
   split
   ·rename_i heq
    cases heq
    rw[hk.slot]
    have:(M.eQ s.al.length p.b).mu s.al.length=p.b:=by simp[Map.eQ,Map.mu]
    have h5:=RD.ptr (M:=M.eQ s.al.length p.b) (s:= {s with al:=s.al++ [p.z]}) s.al.length 0 (by simp) (by simp[Map.eQ,Map.ob,Ob.plain])
    rw[this]at h5
    exact h5
   ·exact(ht u).mono le
  ·simp only [AI.dst]
   rw[Tm.mO,Tm.mO]
   split
   ·rfl
   ·rename_i fu
    refine sb t fun p' oy=>?_
    by_cases hq:p'.q=q
    ·have:=vf p' oy p hp (.inl (hq.trans sN.symm))
     subst this
     exact fun h=>fu (by rw[h])
    ·exact PN p' ((iO p').2 ⟨oy,hq⟩)
  ·obtain⟨hp1,hp2⟩:=(iO p').1 oy
   have wD:=yH p' hp1
   refine⟨?_,wD.ai,wD.cells,⟨fun o ho=>?_,wD.unk.t,wD.unk.g⟩,wD.base,wD.slot⟩
   ·have:=wD.mem
    simp only[List.map_cons,List.mem_cons]at this
    exact this.resolve_left hp2
   ·simp at ho
    rcases Nat.lt_or_ge o s.al.length with h5|h5
    ·rw[show(M.eQ s.al.length p.b).mu o=M.mu o from congrArg Prod.fst (vx M p.b .any h5)];exact wD.unk.o o h5
    ·have:o=s.al.length:=by omega
     subst this
     have:(M.eQ s.al.length p.b).mu s.al.length=p.b:=by simp[Map.eQ,Map.mu]
     rw[this]
     intro hb
     have:=vf p hp p' hp1 (.inr (.inr hb))
     subst this
     exact hp2 sN
theorem norm {dM:Array Bool} {act:Act} {w:World} : ∀ (R:List (Nat×Nat)) (fl:List Pd),tj is af pt dM R fl→Bv P is K B nt R fl act w→
 ∃ R' yI,tj is af pt dM R' yI∧Bv P is K B nt R' yI act w∧∀ x l,R'=x::l→∀ p∈yI,p.q≠x.1
 | [],fl,hs,h=>⟨[],fl,hs,h,fun _ _ he=>by cases he⟩
 | (q,b)::R,fl,hs,h=>by
  by_cases hp : ∃ p∈fl,p.q=q
  ·obtain⟨p,hp,sN⟩:=hp
   obtain⟨h1,h2⟩:=afO hs h hp sN
   exact norm R _ h1 h2
  ·refine⟨(q,b)::R,fl,hs,h,fun x l he p hpm sN=>hp ⟨p,hpm, ?_⟩⟩
   cases he
   exact sN
theorem abg {ops:Array Oper} {q:Nat} {o:Oper} {ai:AI} (hi:ops[q]? = some o) (hc:cI P nt ops o=some ai) {R R':List (Nat×Nat)} {fl:List Pd} {act:Act} {w:World} {M:Map} {s s1:St} {tm vJ:Tm} {d:D} {abh:List St}
 (e:Ext B.M B.s B.w M s w) (r:Rel M s w) (ht:nM M s vJ act.tmps) (sb : ∀ t,(∀ p∈fl,p.t≠t)→vJ.get t=tm.get t) (hn:act.tmps.size=nt) (hd:act.defers = [])
 (yH : ∀ p∈fl,afN is R B M s act w p) (vf : ∀ p∈fl,∀ p'∈fl,p.q=p'.q∨p.t=p'.t∨p.b=p'.b→p=p')
 (hv:jW P [ai] (fun a b=>a=vJ.put ai.dst d∧b=s1) vJ s) (hg:l7 P is K R' abh (tm.put ai.dst d) s1)
 (iO : ∀ p∈fl,p.q∈R'.map (·.1)) (sr : ∀ p∈fl,ai.dst≠some p.t) {Q:Exit→Act→World→Prop} :
 wpOp P ops Q q (Bv P is K B nt R' fl) act w:=by
 refine zH hi hc r (B.laid.ext e) ht hv fun d' v s2 w1 M1 hk e1 r1 jJ=>?_
 obtain⟨yx,rfl⟩:=hk
 have hde:=vH hc
 have hD : ∀ t,o.dst=some t→t<act.tmps.size:=fun t h=>by rw[hn];exact Az hc t h
 refine⟨M1,s2,tm.put ai.dst d,vJ.put ai.dst d,abh,e.trans e1,r1, ?_,fun t PN=>?_, ?_, ?_,hg,fun p hp=>?_,vf⟩
 ·rw [← yx,hde]
  exact(ht.mono e1.le).put hD jJ
 ·rw[Tm.mO,Tm.mO,sb t PN]
 ·cases ho:o.dst<;>simp[Act.put,hn]
 ·cases ho:o.dst<;>simp[Act.put,hd]
 ·have hk:=yH p hp
  obtain⟨vs,T,hh,hl,h1,h2⟩:=hk.cells
  have hb:=ln hh
  refine⟨iO p hp,hk.ai,⟨vs,T,by rw[e1.kept p.b hb hk.unk.o hk.unk.t];exact hh,hl,h1,h2⟩,hk.unk.mono e1 hb,hk.base, ?_⟩
  rw[← hk.slot]
  have:=sr p hp
  rw[hde]at this
  cases ho:o.dst with
  |none=>rfl
  |some t=>
   rw[ho]at this
   have fu:t≠p.t:=fun h=>this (by rw[h])
   simp[Act.put,Array.getElem?_setIfInBounds_ne fu]
theorem RC {ai:AI} (hm:iT ai.kind=false) {tm:Tm} {s:St} {d:D} (h:kZ ai tm s=some d):jW P [ai] (fun a b=>a=tm.put ai.dst d∧b=s) tm s:=by
 cases ai with
 | op dst g o=>
  have hko:=PJ hm
  have key : ∀ {d},(aY o tm s).map (·.1)=some d→aY o tm s=some (d,s):=by
   intro d h
   cases he:aY o tm s with
   |none=>rw[he]at h;cases h
   |some p=>
    obtain⟨d',s'⟩:=p
    rw[he]at h
    simp only[Option.map_some,Option.some.injEq]at h
    subst h
    rw[OT (by rw[← hko];exact hm) he]
  simp only[jW,AI.dst]
  cases g with
  |none=>
   simp only[kZ]at h
   simp only[guarded,key h,and_self]
  | some p=>
   obtain⟨t,want⟩:=p
   simp only[kZ]at h
   simp only[guarded]
   split at h
   ·rename_i b hb
    simp only[hb]
    split at h
    ·rename_i heq
     refine⟨fun _=>by simp only[key h,and_self],fun fu=>?_⟩
     subst heq
     cases b<;>cases fu
    ·rename_i fu
     cases h
     exact⟨fun heq=>(fu heq).elim,fun _=>by simp⟩
   ·rename_i ds hb
    cases h
    simp only[hb,and_self]
   ·cases h
 |call dst g f xs=>cases hm
 |nil dst g n x=>cases hm
 |kx dst g t xs=>cases hm
theorem DC {g:Option (Nat×Bool)} {tm:Tm} {A A' C C':Prop} (ha:A→A') (hc:C→C') (hh:guarded g tm A C):guarded g tm A' C':=by
 cases g with
 |none=>exact ha hh
 | some p=>
  obtain⟨t,want⟩:=p
  unfold guarded at *
  simp only at *
  split
  ·rename_i b hb;rw[hb]at hh;exact⟨fun e=>ha (hh.1 e),fun e=>hc (hh.2 e)⟩
  ·rename_i hb;rw[hb]at hh;exact hc hh
  ·rename_i x h1 h2
   split at hh
   ·exact h1 _ ‹_›
   ·exact h2 _ ‹_›
   ·exact hh
theorem Mv {ai:AI} {tm:Tm} {s s1:St} {d:D} (h:va P ai tm s d s1):jW P [ai] (fun a b=>a=tm.put ai.dst d∧b=s1) tm s:=by
 cases ai with
 |op dst g o=>
  refine DC (fun e=>?_) (fun e=>?_) h
  ·rw[e];exact⟨rfl,rfl⟩
  ·obtain⟨rfl,rfl⟩:=e;exact⟨rfl,rfl⟩
 |call dst g f xs=>
  refine DC (fun e=>?_) (fun e=>?_) h
  ·exact e.mono fun x y hxy=>by obtain⟨rfl,rfl⟩:=hxy;exact⟨rfl,rfl⟩
  ·obtain⟨rfl,rfl⟩:=e;exact⟨rfl,rfl⟩
 |nil dst g n x=>exact h.elim
 |kx dst g t xs=>exact h.elim
end
end Go.Abs
namespace Go.Abs
section
variable {P:Program} {is:List AI} {af pt:List (List Nat)} {K:Tm→St→Prop} {B:gZ} {nt:Nat}
theorem EG {ops:Array Oper} : ∀ {ol:List Oper} {is:List AI},sY P nt ops ol=some is→is.length=ol.length∧∀ (i:Nat) (o:Oper),ol[i]? = some o→∃ ai,is[i]? = some ai∧cI P nt ops o=some ai
 | [],is,h=>by cases h;exact⟨rfl,by simp⟩
 | o::ol,is,h=>by
  unfold sY at h
  split at h
  ·rename_i ai UR h1 h2
   cases h
   obtain⟨g1,g2⟩:=EG h2
   refine⟨by simp[g1],fun i o' ho=>?_⟩
   cases i with
   |zero=>simp at ho;subst ho;exact⟨ai,rfl,h1⟩
   |succ i=>exact g2 i o' (by simpa using ho)
  ·cases h
theorem vg {dM:Array Bool} {i:Nat} (h:i<dM.size):dM.getD i true=dM.getD i false:=by
 simp[h]
theorem tj.done {dM:Array Bool} {X Y:List (Nat×Nat)} {q b:Nat} {fl:List Pd} (hs:tj is af pt dM (X++(q,b)::Y) fl) (hq:q<is.length)
 (kT : ∀ j∈jf pt q,dM.getD j false=true):tj is af pt (dM.setIfInBounds q true) (X++Y) fl:=by
 obtain⟨g1,g2,g3,g4,g5⟩:=vI hs.ok
 have hqY:q∉Y.map (·.1):=fun hm=>by
  obtain⟨x,hx,rfl⟩:=List.mem_map.1 hm
  exact(EF g5 x hx).1 (by simp)
 refine⟨Jc hs.ok,fun i hi=>?_,fun i hi hl j hj=>?_,by simp[hs.size],fun x hx=>hs.lt x (by simp at hx ⊢;exact hx.imp id .inr)⟩
 ·by_cases wI:i=q
  ·subst wI
   have:i<dM.size:=by rw[hs.size];exact hq
   simp only[List.map_append,List.mem_append,g2,hqY,or_self,not_false_eq_true,true_or,iff_true]
   simp[this]
  ·rw [getD_set_ne false (Ne.symm wI),hs.J8 i hi]
   simp[wI]
 ·by_cases wI:i=q
  ·subst wI;exact getD_set_true (kT j hj)
  ·rw [getD_set_ne false (Ne.symm wI)]at hl
   exact getD_set_true (hs.cl i hi hl j hj)
theorem tj.flag {dM:Array Bool} {R:List (Nat×Nat)} {fl:List Pd} (hs:tj is af pt dM R fl) {p:Pd} (hq:p.q<is.length)
 (kT : ∀ j∈jf pt p.q,dM.getD j false=true):tj is af pt (dM.setIfInBounds p.q true) R (p::fl):=by
 refine⟨hs.ok,fun i hi=>?_,fun i hi hl j hj=>?_,by simp[hs.size],hs.lt⟩
 ·by_cases wI:i=p.q
  ·subst wI
   have:p.q<dM.size:=by rw[hs.size];exact hq
   simp[this]
  ·rw [getD_set_ne false (Ne.symm wI),hs.J8 i hi]
   have fu:p.q≠i:=fun h=>wI h.symm
   simp[fu]
 ·by_cases wI:i=p.q
  ·subst wI;exact getD_set_true (kT j hj)
  ·rw [getD_set_ne false (Ne.symm wI)]at hl
   exact getD_set_true (hs.cl i hi hl j hj)
theorem RE {ai:AI} (h:ai.kind = .alloc) : ∃ t z,ai = .op (some t) none (.alloc z):=by
 cases ai with
 | op dst g o=>
  unfold AI.kind at h
  split at h
  ·rename_i heq;cases heq;exact⟨_,_,rfl⟩
  ·rename_i heq
   cases heq
   exfalso
   revert h
   cases o<;>simp[AO.kind]
  ·cases h
 |call dst g f xs=>cases h
 |nil dst g n x=>cases h
 |kx dst g t xs=>cases h
theorem RF {ops:Array Oper} (zI:sY P nt ops ops.toList=some is) (RG:Al af pt is.length=true)
 (hK : ∀ tm bK s,Tm.eqv tm bK→K tm s→K bK s) {dM:Array Bool} {R:List (Nat×Nat)} {fl:List Pd} {act:Act} {w:World} (hs:tj is af pt dM R fl) (h:Bv P is K B nt R fl act w)
 (aj9 : ∀ x l,R=x::l→∀ p∈fl,p.q≠x.1) {q:Nat} (hq:q<is.length) (Hi:dM.getD q false=false) (jJ : ∀ j∈jf af q,j<is.length∧dM.getD j false=true)
 {Q:Exit→Act→World→Prop} {K2:Act→World→Prop} (hK2 : ∀ R' yI a' w',tj is af pt (dM.setIfInBounds q true) R' yI→Bv P is K B nt R' yI a' w'→K2 a' w'):wpOp P ops Q q K2 act w:=by
 obtain⟨hlen,gA⟩:=EG zI
 have vD:q<ops.size:=by rw[hlen]at hq;simpa using hq
 obtain⟨ai,yE,U5⟩:=gA q ops[q] (by simp[vD])
 have hi:ops[q]? = some ops[q]:=by simp[vD]
 have kT : ∀ j∈jf pt q,dM.getD j false=true:=fun j hj=>by
  rcases Fw RG q hq j hj with h1|⟨k,h1,h2⟩
  ·exact(jJ j h1).2
  ·exact hs.cl k (jJ k h1).1 (jJ k h1).2 j h2
 have U6 : ∀ p∈fl,p.q≠q:=fun p hp sN=>by
  have:=(hs.J8 q hq).2 (.inr ⟨p,hp,sN⟩)
  rw[Hi]at this;cases this
 have hqR:q∈R.map (·.1):=by
  by_cases hm:q∈R.map (·.1)
  ·exact hm
  ·have:=(hs.J8 q hq).2 (.inl hm)
   rw[Hi]at this;cases this
 obtain⟨⟨q',b⟩,hx,hqq⟩:=List.mem_map.1 hqR
 simp only at hqq
 subst hqq
 obtain⟨X,Y,rfl⟩:=List.append_of_mem hx
 obtain⟨g1,g2,g3,g4,g5⟩:=vI hs.ok
 rw[List.append_nil]at g1 g5
 obtain⟨M,s,tm,vJ,bT,e,r,ht,sb,hn,hd,hg,yH,vf⟩:=h
 have U7:ky is q'=ai.kind:=by simp[ky,yE]
 -- what must have come up ahead of it, is not here any more, but for what was allocated early
 have abi : ∀ a∈X.map (·.1),a∈jf pt q'→∃ p∈fl,p.q=a:=fun a ha fv=>by
  have h1:=kT a fv
  obtain⟨x,hxX,rfl⟩:=List.mem_map.1 ha
  rcases(hs.J8 x.1 (hs.lt x (by simp[hxX]))).1 h1 with h2|h2
  ·exact(h2 (by simp;exact .inl ⟨x.2,hxX⟩)).elim
  ·exact h2
 have abj : ∀ x l,X=x::l→x.1∉jf pt q':=fun x l hX hxp=>by
  obtain⟨p,hp,sN⟩:=abi x.1 (by simp[hX]) hxp
  exact aj9 x (l++(q',b)::Y) (by simp[hX]) p hp sN
 have hpk : ∀ p∈fl,ky is p.q = .alloc:=fun p hp=>by simp[ky,(yH p hp).ai,AI.kind]
 have Bw : ∀ p∈fl,(p.q∈X.map (·.1)→mK is p.q q'=true)→(∀ t,ai.dst=some t→t≠p.t)∧p.t∉ai.reads:=fun p hp hX=>by
  have hk:=yH p hp
  have hm:=hk.mem
  simp only[List.map_append,List.map_cons,List.mem_append,List.mem_cons]at hm
  rcases hm with hm|hm|hm
  ·have:=hX hm
   simp only[mK,hk.ai,yE]at this
   obtain⟨p1,p2,p3⟩:=apart_spec this
   exact⟨fun t ht he=>p3 p.t rfl (by rw[ht,he]),p1 p.t rfl⟩
  ·exact(U6 p hp hm).elim
  ·obtain⟨x,hxY,hxq⟩:=List.mem_map.1 hm
   have:=(EF g5 x hxY).2 (by rw[hxq];exact hpk p hp) q' (by simp)
   rw[hxq]at this
   simp only[mK,hk.ai,yE]at this
   obtain⟨p1,p2,p3⟩:=apart_spec this
   exact⟨fun t ht he=>p3 t ht (by rw[he];rfl),p2 p.t rfl⟩
 have U8:(∀ p∈fl,p.t∉ai.reads)→∀ t∈ai.reads,tm.get t=vJ.get t:=fun hp t ht=>(sb t fun p hpm he=>hp p hpm (by rw[he];exact ht)).symm
 have abl : ∀ p∈fl,p.q∈(X++Y).map (·.1):=fun p hp=>by
  have hm:=(yH p hp).mem
  have:=U6 p hp
  simp only[List.map_append,List.map_cons,List.mem_append,List.mem_cons]at hm ⊢
  rcases hm with hm|hm|hm
  ·exact .inl hm
  ·exact(this hm).elim
  ·exact .inr hm
 by_cases sO:ai.kind = .alloc
 ·-- an allocation
  obtain⟨t,z,rfl⟩:=RE sO
  have fv : ∀ a∈X.map (·.1),mK is a q'=true:=fun a ha=>by
   unfold qz at g1
   rw[U7,sO]at g1
   simp only[List.all_reverse,List.all_eq_true]at g1
   exact g1 a ha
  have uv:=fun p hp=>Bw p hp (fv p.q)
  refine OU hi U5 fun vs T hl h1 h2=>?_
  obtain⟨r1,e1,u1⟩:=r.idle (.cells vs T)
  have afT:t<act.tmps.size:=by
   rw[hn]
   exact Az U5 t (by rw[← vH U5];rfl)
  have:=hs.flag (p:=⟨q',t,z,w.heap.size⟩) hq kT
  refine hK2 _ _ _ _ this ⟨M,s,tm,vJ.put (some t) .junk,bT,e.trans e1,r1,nM.put ht (dst:=some t) (fun u hu=>by cases hu;exact afT) (.junk _),fun u hu=>?_,by simp[Act.put,hn],by simp[Act.put,hd],hg,fun p hp=>?_,fun p hp p' oy he=>?_⟩
  ·have h3:=hu ⟨q',t,z,w.heap.size⟩ (by simp)
   rw[Tm.mO,if_neg (by simpa using h3)]
   exact sb u fun p hp=>hu p (List.mem_cons_of_mem _ hp)
  ·rcases List.mem_cons.1 hp with rfl | hp
   ·refine⟨by simp,yE,⟨vs,T,heap_alloc_new w _,hl,h1,h2⟩,u1,e.size, ?_⟩
    simp[Act.put,afT]
   ·have hk:=yH p hp
    obtain⟨gv,T',ll,mU,uu,wH⟩:=hk.cells
    refine⟨hk.mem,hk.ai,⟨gv,T',by rw[heap_alloc_old w _ _ (ln ll)];exact ll,mU,uu,wH⟩,hk.unk,hk.base, ?_⟩
    rw[← hk.slot]
    have fu:t≠p.t:=(uv p hp).1 t rfl
    simp[Act.put,Array.getElem?_setIfInBounds_ne fu]
  ·have dB : ∀ p∈fl,¬ (q'=p.q∨t=p.t∨w.heap.size=p.b):=fun p hp h=>by
    rcases h with h|h|h
    ·exact U6 p hp h.symm
    ·exact(uv p hp).1 t rfl h
    ·obtain⟨gv,T',ll,_⟩:=(yH p hp).cells
     have:=ln ll
     omega
   rcases List.mem_cons.1 hp with rfl|hp<;>rcases List.mem_cons.1 oy with rfl|oy
   ·rfl
   ·exact(dB p' oy he).elim
   ·exact(dB p hp (he.imp Eq.symm (Or.imp Eq.symm Eq.symm))).elim
   ·exact vf p hp p' oy he
 ·by_cases pW:iT ai.kind=true
  ·-- a step that changes something: it stands first
   have hkc:ai.kind = .core:=by
    cases hk:ai.kind<;>simp_all [iT]
   have hX:X = []:=by
    cases X with
    |nil=>rfl
    |cons x l=>
     refine(abj x l rfl ?_).elim
     unfold qz at g1
     rw[U7,hkc]at g1
     simp only[List.all_reverse,List.all_eq_true]at g1
     have:=g1 x.1 (by simp)
     rwa [List.contains_iff_mem]at this
   subst hX
   have uv:=fun p hp=>Bw p hp (fun h=>by simp at h)
   simp only[List.nil_append,l7,yE,pW]at hg
   obtain⟨d,s1,jr,hg⟩:=hg
   have aoI:=zF (U8 fun p hp=>(uv p hp).2) jr
   refine wpOp_mono (fun a' w' hr=>hK2 _ _ _ _ (hs.done hq kT) hr) ?_
   exact abg hi U5 e r ht sb hn hd yH vf (Mv aoI) hg abl (fun p hp he=>(uv p hp).1 _ he rfl)
  ·-- a step that changes nothing
   have hm:iT ai.kind=false:=by simpa using pW
   have pG : ∀ a∈X.map (·.1),a∉jf pt q':=fun a ha fv=>by
    obtain⟨p,hp,sN⟩:=abi a ha fv
    have J3:ky is a = .alloc:=by rw[← sN];exact hpk p hp
    have lV:mB is (jf pt q') (X.map (·.1)).reverse=true:=by
     unfold qz at g1
     rw[U7]at g1
     cases hk:ai.kind with
     |pure=>simp only[hk,Bool.and_eq_true]at g1;exact g1.2
     |load=>simp only[hk,Bool.and_eq_true]at g1;exact g1.1.2
     |alloc=>exact(sO hk).elim
     |core=>rw[hk]at hm;cases hm
    cases X with
    |nil=>simp at ha
    | cons x l=>
     have ha2:a∈((x::l).map (·.1)).reverse:=List.mem_reverse.2 ha
     obtain⟨l1,l2,wJ⟩:=List.append_of_mem ha2
     have Bx:=AG lV a l1 l2 wJ J3 fv
     refine abj x l rfl ?_
     cases jn:l2.reverse with
     |nil=>
      have h3:l2 = []:=by simpa using jn
      subst h3
      have:=congrArg List.reverse wJ
      simp at this
      rw[this.1];exact fv
     |cons y l3=>
      have:=congrArg List.reverse wJ
      simp only[List.reverse_reverse,List.map_cons,List.reverse_append,List.reverse_cons,List.reverse_nil,List.append_assoc,jn,List.cons_append,List.nil_append,List.cons.injEq]at this
      rw[this.1]
      exact Bx y (by rw[← List.mem_reverse,jn];simp)
   have fv : ∀ a∈X,mK is a.1 q'=true:=fun a ha=>by
    have h3 : ∀ x∈(X.map (·.1)).reverse,((jf pt q').contains x ||mK is x q')=true:=by
     unfold qz at g1
     rw[U7]at g1
     cases hk:ai.kind with
     |pure=>simp only[hk,Bool.and_eq_true]at g1;exact List.all_eq_true.1 g1.1
     |load=>simp only[hk,Bool.and_eq_true]at g1;exact List.all_eq_true.1 g1.1.1
     |alloc=>exact(sO hk).elim
     |core=>rw[hk]at hm;cases hm
    have:=h3 a.1 (List.mem_reverse.2 (List.mem_map_of_mem ha))
    simp only[Bool.or_eq_true,List.contains_iff_mem]at this
    exact this.resolve_left (pG a.1 (List.mem_map_of_mem ha))
   have afU:ai.kind = .load→kO is (X.map (·.1))≤b:=fun hk=>by
    unfold qz at g1
    rw[U7,hk]at g1
    simp only[Bool.and_eq_true,decide_eq_true_eq]at g1
    have h3:=g1.2
    have h4:(X.map (·.1)).reverse.filter (fun a=> !(jf pt q').contains a)=(X.map (·.1)).reverse:=by
     rw[List.filter_eq_self]
     intro a ha
     have:=pG a (List.mem_reverse.1 ha)
     simpa using this
    rw[h4]at h3
    unfold kO at h3 ⊢
    rw[List.filter_reverse,List.length_reverse]at h3
    exact h3
   have uv:=fun p hp=>Bw p hp (fun h=>by
    obtain⟨x,hx,hxq⟩:=List.mem_map.1 h
    rw[← hxq];exact fv x hx)
   obtain⟨d,h1,_,nR⟩:=zG hK yE hm Y X bT tm s fv afU hg
   have uu:kZ ai vJ s=some d:=by rw[← sM (U8 fun p hp=>(uv p hp).2)];exact h1
   refine wpOp_mono (fun a' w' hr=>hK2 _ _ _ _ (hs.done hq kT) hr) ?_
   exact abg hi U5 e r ht sb hn hd yH vf (RC hm uu) nR abl (fun p hp he=>(uv p hp).1 _ he rfl)
theorem Fx {o:Oper} {j:Nat} : j∈oz o↔∃ e∈o.after,Region.binds .any e=true∧e.on=j:=by
 simp only[oz,List.mem_map,List.mem_filter,Array.mem_toList_iff]
 constructor
 ·rintro⟨e,⟨h1,h2⟩,h3⟩;exact⟨e,h1,h2,h3⟩
 ·rintro⟨e,h1,h2,h3⟩;exact⟨e,⟨h1,h2⟩,h3⟩
theorem RH {ops:Array Oper} (zI:sY P nt ops ops.toList=some is) (RG:Al (ops.toList.map oz) pt is.length=true)
 (afV : ∀ i,i<is.length→∀ j∈jf (ops.toList.map oz) i,j<is.length) {Q:Exit→Tm→St→Prop} (hK : ∀ tm bK s,Tm.eqv tm bK→K tm s→K bK s)
 (hKQ : ∀ tm s act w,K tm s→Holds B nt tm s act w→rB B nt Q .normal act w) :
 ∀ (fuel:Nat) (dM:Array Bool) (R:List (Nat×Nat)) (fl:List Pd) (act:Act) (w:World) (U:List Nat),U.length≤fuel→(∀ j,j<is.length→dM.getD j false=false→j∈U)→
  tj is (ops.toList.map oz) pt dM R fl→Bv P is K B nt R fl act w→wpAny P .any ops (rB B nt Q) fuel dM act w:=by
 obtain⟨hlen,_⟩:=EG zI
 have u7:is.length=ops.size:=by rw[hlen];simp
 have afW : ∀ (j:Nat) (o:Oper),ops[j]? = some o→jf (ops.toList.map oz) j=oz o:=fun j o h=>by
  simp[jf,List.getD,h]
 have fin : ∀ {dM:Array Bool} {fl:List Pd} {act:Act} {w:World},Bv P is K B nt [] fl act w→rB B nt Q .normal act w:=by
  intro dM fl act w h
  obtain⟨M,s,tm,vJ,bT,e,r,ht,sb,hn,hd,hg,yH,vf⟩:=h
  have FX : ∀ p∈fl,False:=fun p hp=>by have:=(yH p hp).mem;simp at this
  exact hKQ vJ s act w (hK tm vJ s (fun t=>(sb t fun p hp=>(FX p hp).elim).symm) hg) ⟨M,e,r,ht,hn,hd⟩
 have U9 : ∀ {dM:Array Bool} {R:List (Nat×Nat)} {fl:List Pd} {x:Nat×Nat} {l:List (Nat×Nat)},tj is (ops.toList.map oz) pt dM R fl→R=x::l→(∀ p∈fl,p.q≠x.1)→
  x.1∈Region.ready .any ops dM:=by
  intro dM R fl x l hs hR U6
  subst hR
  have hx:=hs.lt x (by simp)
  rw[mem_ready]
  have Hi:dM.getD x.1 false=false:=by
   cases hl:dM.getD x.1 false with
   |false=>rfl
   |true=>
    rcases(hs.J8 x.1 hx).1 hl with h1|⟨p,hp,sN⟩
    ·exact(h1 (by simp)).elim
    ·exact(U6 p hp sN).elim
  have hxo:x.1<ops.size:=by rw[← u7];exact hx
  refine⟨by rw[vg (by rw[hs.size];exact hx)];exact Hi,ops[x.1],by simp[hxo],fun e he hb=>?_⟩
  have hm:e.on∈jf (ops.toList.map oz) x.1:=by rw[afW x.1 ops[x.1] (by simp[hxo])];exact Fx.2 ⟨e,he,hb,rfl⟩
  obtain⟨_,_,_,g4,_⟩:=vI (X:= []) (q:=x.1) (b:=x.2) hs.ok
  obtain⟨h1,h2⟩:=g4 _ hm
  refine(hs.J8 e.on (afV x.1 hx _ hm)).2 (.inl ?_)
  simp only[List.map_cons,List.mem_cons,not_or]
  exact⟨h1,h2⟩
 intro fuel
 induction fuel with
 | zero=>
  intro dM R fl act w U hU Hi hs h
  obtain⟨R',yI,oG,h',hn⟩:=norm R fl hs h
  have hUn:U = []:=List.length_eq_zero_iff.1 (by omega)
  have Bx : ∀ j,j<is.length→dM.getD j false=true:=fun j hj=>by
   cases hl:dM.getD j false with
   |true=>rfl
   |false=>have:=Hi j hj hl;rw[hUn]at this;cases this
  have hR:R' = []:=by
   cases hR:R' with
   |nil=>rfl
   |cons x l=>
    have hx:=oG.lt x (by simp[hR])
    have:=U9 oG hR (hn x l hR)
    rw[mem_ready,vg (by rw[oG.size];exact hx),Bx x.1 hx]at this
    cases this.1
  subst hR
  refine⟨?_,fin (dM:=dM) h'⟩
  cases hr:Region.ready .any ops dM with
  |nil=>rfl
  |cons j js=>
   have hj:j∈Region.ready .any ops dM:=by rw[hr];simp
   rw[mem_ready]at hj
   obtain⟨h1,o,ho,_⟩:=hj
   have PO:j<is.length:=by rw[u7];exact(Array.getElem?_eq_some_iff.1 ho).1
   rw[vg (by rw[hs.size];exact PO),Bx j PO]at h1
   cases h1
 | succ fuel ih=>
  intro dM R fl act w U hU Hi hs h
  obtain⟨R',yI,oG,h',hn⟩:=norm R fl hs h
  refine⟨fun hr=>?_,fun i hi=>?_⟩
  ·cases hR:R' with
   |nil=>subst hR;exact fin (dM:=dM) h'
   |cons x l=>
    have:=U9 oG hR (hn x l hR)
    rw[hr]at this
    cases this
  ·rw [mem_ready]at hi
   obtain⟨h1,o,ho,aoJ⟩:=hi
   have sL:i<is.length:=by rw[u7];exact(Array.getElem?_eq_some_iff.1 ho).1
   rw[vg (by rw[hs.size];exact sL)]at h1
   refine RF zI RG hK oG h' hn sL h1 (fun j hj=>⟨afV i sL j hj, ?_⟩) fun R2 akc a2 w2 Ct h2=>?_
   ·rw [afW i o ho]at hj
    obtain⟨e,he,hb,rfl⟩:=Fx.1 hj
    exact aoJ e he hb
   ·refine ih _ R2 akc a2 w2 (U.erase i) ?_ (fun j hj hl=> ?_) Ct h2
    ·have:=List.length_erase_of_mem (Hi i sL h1)
     omega
    ·have hji:j≠i:=fun e=>by
      subst e
      have:j<dM.size:=by rw[hs.size];exact sL
      simp[this]at hl
     rw[getD_set_ne false (Ne.symm hji)]at hl
     exact(List.mem_erase_of_ne hji).2 (Hi j hj hl)
theorem Sem.par {is:List AI} {ny:List (Nat×Nat)} {Q:Exit→Tm→St→Prop} {tm:Tm} {s:St} (h:l7 P is (Q .normal) ny [] tm s):Sem P B nt (.par is ny) Q tm s:=by
 intro c hc act w hh
 obtain⟨id,ops,rfl,hi,hm,pt,hp⟩:=mX hc
 simp only[LR,Bool.and_eq_true,List.all_eq_true,List.mem_range,List.contains_iff_mem,decide_eq_true_eq]at hp
 obtain⟨⟨⟨⟨h1,h2⟩,h3⟩,h4⟩,h5⟩:=hp
 obtain⟨hlen,_⟩:=EG hi
 have u7:is.length=ops.size:=by rw[hlen];simp
 refine wp_region_any hm ?_
 obtain⟨M,e,r,ht,hn,hd⟩:=hh
 have key : ∀ (R:List (Nat×Nat)) (bT:List St) (tm:Tm) (s:St),l7 P is (Q .normal) R bT tm s→l7 P is (fun tm s=>∃ bK,tm.eqv bK∧Q .normal bK s) R bT tm s:=by
  intro R
  induction R with
  |nil=>intro bT tm s h;exact⟨tm,fun _=>rfl,h⟩
  | cons x R ih=>
   obtain⟨q,b⟩:=x
   intro bT tm s h
   unfold l7 at h ⊢
   split at h
   ·exact h.elim
   ·split at h
    ·obtain⟨d,s',h1,h2⟩:=h;exact⟨d,s',h1,ih _ _ _ h2⟩
    ·obtain⟨d,h1,h2,h3⟩:=h;exact⟨d,h1,h2,ih _ _ _ h3⟩
 have hg:=key _ _ _ _ h
 refine RH (K:=fun tm s=>∃ bK,tm.eqv bK∧Q .normal bK s) hi h1 h5 (fun tm bK s he ⟨t2,h3,h4⟩=>⟨t2,fun t=>(he t).symm.trans (h3 t),h4⟩)
  (fun tm s act w ⟨t2,h3,h4⟩ ⟨M,e,r,ht,hn,hd⟩=>⟨t2,s,h4,M,e,r,fun t=>by rw[← h3 t];exact ht t,hn,hd⟩) ops.size _ ny [] act _ (List.range is.length) (by simp[u7]) (fun j hj _=>by simpa using hj)
  ⟨h2,fun i hi=>?_,fun i hi hl=>?_,by simp[u7],h4⟩ ⟨M,s,tm,tm,[],⟨e.le,e.kept,e.sj,e.ry,e.sk,e.size,e.os,e.tape,e.output⟩,r.of_heap rfl,ht,fun _ _=>rfl,hn,hd,hg,by simp,by simp⟩
 ·have:i<ops.size:=by rw [← u7];exact hi
  have h6:=h3 i hi
  simp only[List.not_mem_nil,false_and,exists_false,or_false]
  rw[show(Array.replicate ops.size false).getD i false=false by simp[this]]
  simp[h6]
 ·have:i<ops.size:=by rw [← u7];exact hi
  rw[show(Array.replicate ops.size false).getD i false=false by simp[this]]at hl
  cases hl
end
end Go.Abs
namespace Go.Abs
theorem adb (k:IntKind) (n:Int):D.row (.int k n)=some [.int k n]:=rfl
theorem X9 (b:Bool):D.row (.bool b)=some [.bool b]:=rfl
theorem ade (l:List UInt8):D.row (.str l)=some [.str l]:=rfl
theorem Ya:D.row .eY=some [.eY]:=rfl
theorem adf (o f:Nat):D.row (.ptr o f)=some [.ptr o f]:=rfl
theorem Yb (r:List D) (f:Nat):D.row (.dS r f)=some [.dS r f]:=rfl
theorem Va (g:Tag) (z:Nat) (r:List (List D)):D.row (.slice g z r)=some [.slice g z r]:=rfl
theorem adg (cs:List D):D.row (.agg cs)=some cs:=rfl
theorem adh (v:Value):D.row (.val v)=some [.val v]:=rfl
theorem Vb (T:TypeId) (o:Nat):D.row (.gf T o)=some [.gf T o]:=rfl
theorem adi (f:Nat) (cs:List D):D.row (.ix f cs)=some [.ix f cs]:=rfl
theorem Yc (o:Nat):D.row (.gT o)=some [.gT o]:=rfl
theorem Yd (w:Bool):Tag.cut .full w=if w then .full else .shared:=rfl
theorem RI (w:Bool):Tag.cut .shared w = .shared:=rfl
theorem Ye (t:Nat) (y:Bool) (w:Bool):Tag.cut (.tok t y) w = .tok t y:=rfl
section
variable {P:Program}
def KC (P:Program) (r:List AI) (K:Tm→St→Prop) (tm:Tm) (dst:Option Nat) (d:D) (s:St):Prop:=jW P r K (tm.put dst d) s
def GI (P:Program) (g:D) (want:Bool) (i:AI) (r:List AI) (K:Tm→St→Prop) (tm:Tm) (s:St):Prop:=
 match g with
 | .bool b=>(b=want→jW P (i::r) K tm s)∧(b=(!want)→jW P r K (tm.put i.dst (.tuple [])) s)
 | .tuple _=>jW P r K (tm.put i.dst (.tuple [])) s
 |_=>False
def NI (P:Program) (dst:Option Nat) (neg:Bool) (x:D) (r:List AI) (K:Tm→St→Prop) (tm:Tm) (s:St):Prop:=
 match x with
 | .slice _ _ rows=>∀ b:Bool,(rows≠ []→b=false)→jW P r K (tm.put dst (.bool (if neg then !b else b))) s
 |_=>False
def wU (d:D) (A C:Prop):Prop:=
 match d with
 | .bool b=>(b=true→A)∧(b=false→C)
 |_=>False
theorem Sem.akd {B:gZ} {nt:Nat} {Q:Exit→Tm→St→Prop} {tm:Tm} {s:St} {x:X} {a b:AC} (h:wU (x.ev tm) (Sem P B nt a Q tm s) (Sem P B nt b Q tm s)):Sem P B nt (.cond x a b) Q tm s:=by
 unfold wU at h
 split at h
 ·rename_i t ht
  exact Sem.cond ht h.1 h.2
 ·exact h.elim
def iV (P:Program) (K:Tm→St→Prop):List (AI×Nat)→List St→Tm→St→Prop
 | [],_,tm,s=>K tm s
 |(ai,b)::r,bT,tm,s=>
  match iT ai.kind with
  |true=>∃ d s',va P ai tm s d s'∧iV P K r (s::bT) (tm.put ai.dst d) s'
  |false=>∃ d,kZ ai tm s=some d∧(ai.kind = .load→∀ s'∈bT.take b,kZ ai tm s'=some d)∧iV P K r bT (tm.put ai.dst d) s
def oI (is:List AI):List (Nat×Nat)→Option (List (AI×Nat))
 | []=>some []
 |(q,b)::r=>match is[q]?,oI is r with
  |some ai,some l=>some ((ai,b)::l)
  |_,_=>none
theorem Jd {is:List AI} {K:Tm→St→Prop} : ∀ {ny:List (Nat×Nat)} {items:List (AI×Nat)} {bT:List St} {tm:Tm} {s:St},oI is ny=some items→iV P K items bT tm s→l7 P is K ny bT tm s
 | [],items,bT,tm,s,h,g=>by cases h;exact g
 | (q,b)::r,items,bT,tm,s,h,g=>by
  simp only[oI]at h
  split at h
  ·rename_i ai l h1 h2
   cases h
   simp only[iV]at g
   simp only[l7,h1]
   split at g
   ·rename_i hk
    obtain⟨d,s',g1,g2⟩:=g
    try simp only[hk]
    exact⟨d,s',g1,Jd h2 g2⟩
   ·rename_i hk
    obtain⟨d,g1,g2,g3⟩:=g
    try simp only[hk]
    exact⟨d,g1,g2,Jd h2 g3⟩
  ·cases h
theorem Sem.aoK {B:gZ} {nt:Nat} {Q:Exit→Tm→St→Prop} {tm:Tm} {s:St} {is:List AI} {ny:List (Nat×Nat)} {items:List (AI×Nat)} (hi:oI is ny=some items) (h:iV P (Q .normal) items [] tm s):Sem P B nt (.par is ny) Q tm s:=
 Sem.par (Jd hi h)
def AI.free:AI→AI
 | .op d _ o=> .op d none o
 | .call d _ f xs=> .call d none f xs
 | .nil d _ n x=> .nil d none n x
 | .kx d _ t xs=> .kx d none t xs
def GL (P:Program) (g:D) (want:Bool) (i:AI) (b:Nat) (r:List (AI×Nat)) (K:Tm→St→Prop) (bT:List St) (tm:Tm) (s:St):Prop:=
 match g with
 | .bool v=>(v=want→iV P K ((i,b)::r) bT tm s)∧(v=(!want)→iV P K r (if iT i.kind then s::bT else bT) (tm.put i.dst (.tuple [])) s)
 | .tuple _=>iV P K r (if iT i.kind then s::bT else bT) (tm.put i.dst (.tuple [])) s
 |_=>False
def CL (one:Bool) (P:Program) (f:Nat) (args:List D) (s:St) (K:D→St→Prop):Prop:=
 match one with
 |true=>∃ d s',aH P f args s d s'∧K d s'
 |false=>bW P f args s K
def KL (P:Program) (K:Tm→St→Prop) (r:List (AI×Nat)) (bT:List St) (tm:Tm) (dst:Option Nat) (d:D) (s:St):Prop:=iV P K r bT (tm.put dst d) s
def pX (i:AI) (tm:Tm) (d:D):List St→Prop
 | []=>True
 |s::r=>kZ i tm s=some d∧pX i tm d r
theorem Hj {i:AI} {tm:Tm} {d:D} : ∀ {l:List St},pX i tm d l→∀ s∈l,kZ i tm s=some d
 | [],_,s,h=>by cases h
 |a::l,h,s,hs=>by
  rcases List.mem_cons.1 hs with rfl|hs
  ·exact h.1
  ·exact Hj h.2 s hs
def PL (P:Program) (o:AO) (dst:Option Nat) (b:Nat) (r:List (AI×Nat)) (K:Tm→St→Prop) (bT:List St) (tm:Tm) (s:St):Prop:=
 match aY o tm s with
 |some (d,_)=>pX (.op dst none o) tm d (bT.take b)∧iV P K r bT (tm.put dst d) s
 |none=>False
def ML (P:Program) (o:AO) (dst:Option Nat) (r:List (AI×Nat)) (K:Tm→St→Prop) (bT:List St) (tm:Tm) (s:St):Prop:=
 match aY o tm s with
 |some (d,s')=>iV P K r (s::bT) (tm.put dst d) s'
 |none=>False
def AO.core:AO→Bool
 | .alloc _=>true
 | .box _=>true
 | .xf .. =>true
 | .C8 _=>true
 | .store .. =>true
 | .app .. =>true
 | .vu .. =>true
 | .Da .. =>true
 | .Db .. =>true
 | .apps .. =>true
 | .wR=>true
 | .Bg .. =>true
 | .Dc .. =>true
 |_=>false
theorem vK (dst:Option Nat) (g:Option (Nat×Bool)) (o:AO):iT (AI.op dst g o).kind=o.core:=by
 cases dst<;>cases g<;>cases o<;>rfl
def OL (P:Program) (o:AO) (dst:Option Nat) (b:Nat) (r:List (AI×Nat)) (K:Tm→St→Prop) (bT:List St) (tm:Tm) (s:St):Prop:=
 match o.core with
 |true=>ML P o dst r K bT tm s
 |false=>PL P o dst b r K bT tm s
theorem Mw {K:Tm→St→Prop} {dst:Option Nat} {o:AO} {b:Nat} {r:List (AI×Nat)} {bT:List St} {tm:Tm} {s:St} (h:OL P o dst b r K bT tm s) :
 iV P K ((.op dst none o,b)::r) bT tm s:=by
 unfold OL at h
 simp only[iV,vK]
 cases hc:o.core with
 | true=>
  simp only[hc,ML]at h
  simp only[]
  split at h
  ·rename_i d s' he
   exact⟨d,s',by simpa[va,guarded]using he,h⟩
  ·exact h.elim
 | false=>
  simp only[hc,PL]at h
  simp only[]
  split at h
  ·rename_i d s' he
   exact⟨d,by simp[kZ,he],fun _=>Hj h.1,h.2⟩
  ·exact h.elim
theorem RJ {K:Tm→St→Prop} {dst:Option Nat} {f:Nat} {xs:List X} {b:Nat} {r:List (AI×Nat)} {bT:List St} {tm:Tm} {s:St} (h:CL true P f (xs.map (·.ev tm)) s (KL P K r (s::bT) tm dst)) :
 iV P K ((.call dst none f xs,b)::r) bT tm s:=by
 obtain⟨d,s',h1,h2⟩:=h
 exact⟨d,s',h1,h2⟩
theorem afX {K:Tm→St→Prop} {i:AI} {t:Nat} {w:Bool} {b:Nat} {r:List (AI×Nat)} {bT:List St} {tm:Tm} {s:St} {j:AI} (hf:(∃ d o,i = .op d none o∧j = .op d (some (t,w)) o)∨(∃ d f xs,i = .call d none f xs∧j = .call d (some (t,w)) f xs))
 (hg:tm.get t = .bool w) (h:iV P K ((i,b)::r) bT tm s):iV P K ((j,b)::r) bT tm s:=by
 rcases hf with ⟨d,o,rfl,rfl⟩|⟨d,f,xs,rfl,rfl⟩
 ·simp only [iV,vK]at h ⊢
  cases hc:o.core<;>simp only[hc]at h ⊢
  ·obtain⟨x,h1,h2,h3⟩:=h
   refine⟨x,by simpa[kZ,hg]using h1,fun hk s' oG=>?_,h3⟩
   have wD:(AI.op d none o).kind = .load:=by
    cases d<;>cases o<;>first|exact hk|(cases hc;done)|(cases hk;done)
   simpa[kZ,hg]using h2 wD s' oG
  ·obtain⟨x,s',h1,h2⟩:=h
   exact⟨x,s',by simpa[va,guarded,hg]using h1,h2⟩
 ·obtain⟨x,s',h1,h2⟩:=h
  exact⟨x,s',by simpa[va,guarded,hg]using h1,h2⟩
theorem Vc {K:Tm→St→Prop} {i:AI} {t:Nat} {w:Bool} {b:Nat} {r:List (AI×Nat)} {bT:List St} {tm:Tm} {s:St} {j:AI} (hf:(∃ d o,i = .op d none o∧j = .op d (some (t,w)) o)∨(∃ d f xs,i = .call d none f xs∧j = .call d (some (t,w)) f xs))
 (hg:tm.get t = .bool (!w)∨∃ l,tm.get t = .tuple l) (h:iV P K r (if iT i.kind then s::bT else bT) (tm.put i.dst (.tuple [])) s):iV P K ((j,b)::r) bT tm s:=by
 rcases hf with ⟨d,o,rfl,rfl⟩|⟨d,f,xs,rfl,rfl⟩
 ·simp only [iV,vK]at h ⊢
  cases hc:o.core<;>simp only[hc]at h ⊢
  ·refine⟨.tuple [], ?_,fun hk s' oG=> ?_,h⟩
   ·rcases hg with hg|⟨l,hg⟩<;>simp[kZ,hg]
   ·rcases hg with hg|⟨l,hg⟩<;>simp[kZ,hg]
  ·refine⟨.tuple [],s, ?_,h⟩
   rcases hg with hg|⟨l,hg⟩<;>simp[va,guarded,hg]
 ·refine⟨.tuple [],s, ?_,h⟩
  rcases hg with hg|⟨l,hg⟩<;>simp[va,guarded,hg]
theorem PQ {K:Tm→St→Prop} {i j:AI} {t:Nat} {w:Bool} {b:Nat} {r:List (AI×Nat)} {bT:List St} {tm:Tm} {s:St} (hf:(∃ d o,i = .op d none o∧j = .op d (some (t,w)) o)∨(∃ d f xs,i = .call d none f xs∧j = .call d (some (t,w)) f xs))
 (h:GL P (tm.get t) w i b r K bT tm s):iV P K ((j,b)::r) bT tm s:=by
 unfold GL at h
 split at h
 ·rename_i v hv
  by_cases e:v=w
  ·exact afX hf (by rw[hv,e]) (h.1 e)
  ·exact Vc hf (.inl (by rw[hv];cases v<;>cases w<;>simp_all)) (h.2 (by cases v<;>cases w<;>simp_all))
 ·rename_i l hl
  exact Vc hf (.inr ⟨l,hl⟩) h
 ·exact h.elim
theorem J9 {K:Tm→St→Prop} {dst:Option Nat} {o:AO} {t:Nat} {w:Bool} {b:Nat} {r:List (AI×Nat)} {bT:List St} {tm:Tm} {s:St} (h:GL P (tm.get t) w (.op dst none o) b r K bT tm s) :
 iV P K ((.op dst (some (t,w)) o,b)::r) bT tm s:=PQ (.inl ⟨dst,o,rfl,rfl⟩) h
theorem OW {K:Tm→St→Prop} {dst:Option Nat} {f:Nat} {xs:List X} {t:Nat} {w:Bool} {b:Nat} {r:List (AI×Nat)} {bT:List St} {tm:Tm} {s:St} (h:GL P (tm.get t) w (.call dst none f xs) b r K bT tm s) :
 iV P K ((.call dst (some (t,w)) f xs,b)::r) bT tm s:=PQ (.inr ⟨dst,f,xs,rfl,rfl⟩) h
theorem CL.use {one:Bool} {f:Nat} {args:List D} {s:St} {d:D} {s':St} {K:D→St→Prop} (h:aH P f args s d s') (hk:K d s'):CL one P f args s K:=
 match one with
 |true=>⟨d,s',h,hk⟩
 |false=>h.use hk
theorem CU {one:Bool} {f:Nat} {args:List D} {s:St} {d:D} {s':St} {K:D→St→Prop} (h:aH P f args s d s') (hk:K d s'):CL one P f args s K:=CL.use h hk
theorem CR {f:Nat} {args:List D} {s:St} {Q K:D→St→Prop} (h:bW P f args s Q) (hk : ∀ d s',Q d s'→K d s'):CL false P f args s K:=bW.mono h hk
end
end Go.Abs
namespace Go.Abs
theorem nd {α:Type} {a b:α} (h:a=b):a=b:=h
def GJ (g:D) (w:Bool) (A C:Prop):Prop:=
 match g with
 | .bool b=>(b=w→A)∧(b=(!w)→C)
 | .tuple _=>C
 |_=>False
class Two where
 a:Prop
 c:Prop
def CB (d:D) [b:Two] : Prop:=wU d b.a b.c
def GB (d:D) (w:Bool) [b:Two] : Prop:=GJ d w b.a b.c
def oJ (g:Option (Nat×Bool)) (tm:Tm) (A C:Prop):Prop:=
 match g with
 |none=>A
 |some (t,w)=>GJ (tm.get t) w A C
def lD (P:Program):List AI→(Tm→St→Prop)→Tm→St→Prop
 | [],K,tm,s=>K tm s
 | .op dst g o::r,K,tm,s=>oJ g tm (match aY o tm s with|some (d,s')=>lD P r K (tm.put dst d) s'|none=>False) (lD P r K (tm.put dst (.tuple [])) s)
 | .call dst g f xs::r,K,tm,s=>oJ g tm (CL false P f (xs.map (·.ev tm)) s fun d s'=>lD P r K (tm.put dst d) s') (lD P r K (tm.put dst (.tuple [])) s)
 | .nil dst g neg x::r,K,tm,s=>
  oJ g tm (match x.ev tm with
   | .slice _ _ rows=>∀ b:Bool,(rows≠ []→b=false)→lD P r K (tm.put dst (.bool (if neg then !b else b))) s
   |_=>False) (lD P r K (tm.put dst (.tuple [])) s)
 | .kx dst g t xs::r,K,tm,s=>
  oJ g tm (match tm.get t with
   | .ix f pB=>enters P f=true∧CL false P f (xs.map (·.ev tm)++pB) s fun d s'=>lD P r K (tm.put dst d) s'
   |_=>False) (lD P r K (tm.put dst (.tuple [])) s)
theorem vh {g:Option (Nat×Bool)} {tm:Tm} {A C A' C':Prop} (h:oJ g tm A C) (ha:A→A') (hc:C→C'):guarded g tm A' C':=by
 unfold oJ at h
 unfold guarded
 cases g with
 |none=>exact ha h
 | some p=>
  obtain⟨t,w⟩:=p
  simp only[GJ]at h ⊢
  split at h
  ·rename_i hb;try simp only [hb]
   exact⟨fun e=>ha (h.1 e),fun e=>hc (h.2 e)⟩
  ·rename_i hb;try simp only [hb]
   exact hc h
  ·exact h.elim
theorem qc {P:Program} {K:Tm→St→Prop} : ∀ {is:List AI} {tm:Tm} {s:St},lD P is K tm s→jW P is K tm s
 | [],tm,s,h=>h
 | .op dst g o::r,tm,s,h=>by
  refine vh h (fun h=>?_) qc
  split at h
  ·rename_i he;try simp only [he]
   exact qc h
  ·exact h.elim
 | .call dst g f xs::r,tm,s,h=>vh h (fun h=>bW.mono h fun _ _ h=>qc h) qc
 | .nil dst g neg x::r,tm,s,h=>by
  refine vh h (fun h=>?_) qc
  split at h
  ·rename_i he;try simp only [he]
   exact fun b hb=>qc (h b hb)
  ·exact h.elim
 | .kx dst g t xs::r,tm,s,h=>by
  refine vh h (fun h=>?_) qc
  split at h
  ·rename_i he;try simp only [he]
   exact⟨h.1,bW.mono h.2 fun _ _ h=>qc h⟩
  ·exact h.elim
def iC (P:Program) (K:Tm→St→Prop):List (AI×Nat)→List St→Tm→St→Prop
 | [],_,tm,s=>K tm s
 |(.op dst g o,b)::r,bT,tm,s=>
  match o.core with
  |true=>oJ g tm (match aY o tm s with|some (d,s')=>iC P K r (s::bT) (tm.put dst d) s'|none=>False) (iC P K r (s::bT) (tm.put dst (.tuple [])) s)
  |false=>oJ g tm (match aY o tm s with|some (d,_)=>pX (.op dst none o) tm d (bT.take b)∧iC P K r bT (tm.put dst d) s|none=>False) (iC P K r bT (tm.put dst (.tuple [])) s)
 |(.call dst g f xs,_)::r,bT,tm,s=>oJ g tm (CL true P f (xs.map (·.ev tm)) s fun d s'=>iC P K r (s::bT) (tm.put dst d) s') (iC P K r (s::bT) (tm.put dst (.tuple [])) s)
 |(.nil ..,_)::_,_,_,_=>False
 |(.kx ..,_)::_,_,_,_=>False
theorem DE {P:Program} {t:Nat} {w:Bool} {tm:Tm} {i:AI} {b:Nat} {r:List (AI×Nat)} {K:Tm→St→Prop} {bT:List St} {s:St} {A C:Prop} (h:oJ (some (t,w)) tm A C) (ha:A→iV P K ((i,b)::r) bT tm s)
 (hc:C→iV P K r (if iT i.kind then s::bT else bT) (tm.put i.dst (.tuple [])) s):GL P (tm.get t) w i b r K bT tm s:=by
 simp only[oJ,GJ]at h
 unfold GL
 split at h
 ·rename_i hb;try simp only [hb]
  exact⟨fun e=>ha (h.1 e),fun e=>hc (h.2 e)⟩
 ·rename_i hb;try simp only [hb]
  exact hc h
 ·exact h.elim
theorem n9 {P:Program} {K:Tm→St→Prop} : ∀ {l:List (AI×Nat)} {bT:List St} {tm:Tm} {s:St},iC P K l bT tm s→iV P K l bT tm s
 | [],bT,tm,s,h=>h
 | (.op dst g o,b)::r,bT,tm,s,h=>by
  simp only[iC]at h
  cases hc:o.core with
  | true=>
   simp only[hc]at h
   have ha:(match aY o tm s with|some (d,s')=>iC P K r (s::bT) (tm.put dst d) s'|none=>False)→iV P K ((.op dst none o,b)::r) bT tm s:=by
    intro h
    refine Mw ?_
    simp only[OL,hc,ML]
    split at h
    ·rename_i he;try simp only [he]
     exact n9 h
    ·exact h.elim
   cases g with
   |none=>exact ha h
   |some p=>
    obtain⟨t,w⟩:=p
    refine J9 (DE h ha fun h=>?_)
    simp only[vK,hc,if_true]
    exact n9 h
  | false=>
   simp only[hc]at h
   have ha:(match aY o tm s with|some (d,_)=>pX (.op dst none o) tm d (bT.take b)∧iC P K r bT (tm.put dst d) s|none=>False)→iV P K ((.op dst none o,b)::r) bT tm s:=by
    intro h
    refine Mw ?_
    simp only[OL,hc,PL]
    split at h
    ·rename_i he;try simp only [he]
     exact⟨h.1,n9 h.2⟩
    ·exact h.elim
   cases g with
   |none=>exact ha h
   |some p=>
    obtain⟨t,w⟩:=p
    refine J9 (DE h ha fun h=>?_)
    simp only[vK,hc]
    exact n9 h
 | (.call dst g f xs,b)::r,bT,tm,s,h=>by
  simp only[iC]at h
  have ha:(CL true P f (xs.map (·.ev tm)) s fun d s'=>iC P K r (s::bT) (tm.put dst d) s')→iV P K ((.call dst none f xs,b)::r) bT tm s:=
   fun⟨d,s',h1,h2⟩=>RJ ⟨d,s',h1,n9 h2⟩
  cases g with
  |none=>exact ha h
  |some p=>
   obtain⟨t,w⟩:=p
   exact OW (DE h ha fun h=>n9 h)
 |(.nil ..,_)::_,bT,tm,s,h=>h.elim
 |(.kx ..,_)::_,bT,tm,s,h=>h.elim
section
variable {P:Program} {B:gZ} {nt:Nat}
def jX (P:Program) (B:gZ) (nt:Nat):AC→(Exit→Tm→St→Prop)→Tm→St→Prop
 | .skip,Q,tm,s=>Q .normal tm s
 | .run is,Q,tm,s=>lD P is (Q .normal) tm s
 | .par is ny,Q,tm,s=>match oI is ny with|some l=>iC P (Q .normal) l [] tm s|none=>False
 | .seq a b,Q,tm,s=>jX P B nt a (lu (jX P B nt b Q) Q) tm s
 | .cond x a b,Q,tm,s=>wU (x.ev tm) (jX P B nt a Q tm s) (jX P B nt b Q tm s)
 | .block id a,Q,tm,s=>jX P B nt a (iN id Q) tm s
 | .loop a,Q,tm,s=>bp P B nt a Q tm s
 | .exit id,Q,tm,s=>Q (.exit id) tm s
 | .scope a,Q,tm,s=>mY P B nt a a Q tm s
 | .label _,Q,tm,s=>Q .normal tm s
 | .goto l,Q,tm,s=>Q (.goto l) tm s
 | .ret,Q,tm,s=>Q .ret tm s
theorem jD : ∀ {ac:AC} {Q:Exit→Tm→St→Prop} {tm:Tm} {s:St},jX P B nt ac Q tm s→Sem P B nt ac Q tm s:=by
 intro ac
 induction ac with
 |skip=>exact fun h=>Sem.skip h
 |run is=>exact fun h=>Sem.run (qc h)
 |par is ny=>
  intro Q tm s h
  simp only[jX]at h
  split at h
  ·exact Sem.aoK ‹_› (n9 h)
  ·exact h.elim
 |seq a b UU UW=>
  intro Q tm s h
  refine Sem.seq ((UU h).mono fun e tm s hq=>?_)
  cases e with
  |normal=>exact UW hq
  |_=>exact hq
 |cond x a b UU UW=>
  intro Q tm s h
  refine Sem.akd ?_
  simp only[jX]at h
  unfold wU at h ⊢
  split at h
  ·exact⟨fun e=>UU (h.1 e),fun e=>UW (h.2 e)⟩
  ·exact h.elim
 |block id a ih=>exact fun h=>Sem.block (ih h)
 |loop a ih=>exact fun h=>Sem.loop h
 |exit id=>exact fun h=>Sem.exit h
 |scope a ih=>exact fun h=>Sem.scope h
 |label l=>exact fun h=>Sem.label h
 |goto l=>exact fun h=>Sem.goto h
 |ret=>exact fun h=>Sem.ret h
section
variable (Q:Exit→Tm→St→Prop) (N:Tm→St→Prop) (tm:Tm) (s:St) (a b:AC) (is:List AI) (x:X)
theorem Yf:jX P B nt .skip Q tm s=Q .normal tm s:=nd rfl
theorem adk:jX P B nt (.run is) Q tm s=lD P is (Q .normal) tm s:=nd rfl
theorem adl (ny:List (Nat×Nat)):jX P B nt (.par is ny) Q tm s=match oI is ny with|some l=>iC P (Q .normal) l [] tm s|none=>False:=nd rfl
theorem adn:jX P B nt (.seq a b) Q tm s=jX P B nt a (lu (jX P B nt b Q) Q) tm s:=nd rfl
theorem Yg:jX P B nt (.cond x a b) Q tm s = @CB (x.ev tm) ⟨jX P B nt a Q tm s,jX P B nt b Q tm s⟩:=nd rfl
theorem Vd (id:Nat):jX P B nt (.block id a) Q tm s=jX P B nt a (iN id Q) tm s:=nd rfl
theorem Yh:jX P B nt (.loop a) Q tm s=bp P B nt a Q tm s:=nd rfl
theorem Ve:jX P B nt (.scope a) Q tm s=mY P B nt a a Q tm s:=nd rfl
theorem Yi (id:Nat):jX P B nt (.exit id) Q tm s=Q (.exit id) tm s:=nd rfl
theorem Vf (id:Nat):jX P B nt (.label id) Q tm s=Q .normal tm s:=nd rfl
theorem Yj (id:Nat):jX P B nt (.goto id) Q tm s=Q (.goto id) tm s:=nd rfl
theorem ado:jX P B nt .ret Q tm s=Q .ret tm s:=nd rfl
theorem adp:lu N Q .normal tm s=N tm s:=nd rfl
theorem adq:lu N Q .ret tm s=Q .ret tm s:=nd rfl
theorem adr (id:Nat):lu N Q (.exit id) tm s=Q (.exit id) tm s:=nd rfl
theorem ads (id:Nat):lu N Q (.goto id) tm s=Q (.goto id) tm s:=nd rfl
theorem Yk (id:Nat):iN id Q .normal tm s=Q .normal tm s:=nd rfl
theorem Yl (id:Nat):iN id Q .ret tm s=Q .ret tm s:=nd rfl
theorem Ym (id l:Nat):iN id Q (.goto l) tm s=Q (.goto l) tm s:=nd rfl
theorem Yn (id i:Nat):iN id Q (.exit i) tm s=if i=id then Q .normal tm s else Q (.exit i) tm s:=nd rfl
end
theorem bp.ki {a:AC} {Q:Exit→Tm→St→Prop} {tm:Tm} {s:St} (h:jX P B nt a (lu (bp P B nt a Q) Q) tm s):bp P B nt a Q tm s:=bp.once (jD h)
theorem mY.ki {a r:AC} {Q:Exit→Tm→St→Prop} {tm:Tm} {s:St} (h:jX P B nt r (Bs P B nt a Q) tm s):mY P B nt a r Q tm s:=mY.once (jD h)
def yJ (tm:Tm) (n m:Nat):Tm→Prop
 | []=>True
 |(k,d)::r=>Wk ((tm.get k).fg n m) d∧yJ tm n m r
theorem yJ.get {tm:Tm} {n m:Nat} : ∀ {bK:Tm},yJ tm n m bK→∀ t,Wk ((tm.get t).fg n m) (bK.get t)
 | [],_,t=>Wk.junk _
 |(k,d)::r,h,t=>by
  simp only[Tm.get]
  split
  ·rename_i hk;subst hk;exact h.1
  ·exact yJ.get h.2 t
theorem Holds.re {Q:Exit→Tm→St→Prop} {tm bK:Tm} {s:St} {fz:List (List D)} {act:Act} {w:World} (n m:Nat) (hn:B.s.al.length≤n) (hm:B.s.aA.length≤m) (ht:yJ tm n m bK) (ho:ik (s.cut n m).al fz)
 (h:Holds B nt tm s act w):Holds B nt bK ⟨fz,(s.cut n m).aA⟩ act w:=by
 obtain⟨M,e,r,hr,h1,h2⟩:=h
 obtain⟨r',le⟩:=(r.cut n m).su ho
 have e':=e.cut hn hm
 refine⟨M,e'.trans ⟨le,fun _ _ _ _=>rfl,fun o h1 h2=>?_,fun t b c z hl e=> .inl ⟨hl,c,z,e⟩,fun _ _ h=>(h rfl).elim,Nat.le_refl _,rfl,rfl,rfl⟩,r',fun k=>((ht.get k) _ _ _ ((hr k).fg n m)).mono le,h1,h2⟩
 rw[← ho.len]at h2
 exact h1.elim (fun h1=>absurd h2 (Nat.not_lt.2 h1)) fun h1=>(h1 rfl).elim
theorem bp.re {a:AC} {Q:Exit→Tm→St→Prop} {tm:Tm} {s:St} (bK:Tm) (fz:List (List D)) (n m:Nat) (hn:B.s.al.length≤n) (hm:B.s.aA.length≤m) (ht:yJ tm n m bK) (ho:ik (s.cut n m).al fz)
 (h:bp P B nt a Q bK ⟨fz,(s.cut n m).aA⟩):bp P B nt a Q tm s:=
 fun c hc act w hh=>h c hc act w (hh.re (Q:=Q) n m hn hm ht ho)
theorem bp.ind {ι:Type} {a:AC} {Q:Exit→Tm→St→Prop} (I:ι→Prop) (μ:ι→Nat) (TM:ι→Tm) (ST:ι→St)
 (step : ∀ i,I i→(∀ j,I j→μ j<μ i→bp P B nt a Q (TM j) (ST j))→jX P B nt a (lu (bp P B nt a Q) Q) (TM i) (ST i)) : ∀ i,I i→bp P B nt a Q (TM i) (ST i):=by
 have key : ∀ n i,μ i<n→I i→bp P B nt a Q (TM i) (ST i):=by
  intro n
  induction n with
  |zero=>intro i h;exact absurd h (Nat.not_lt_zero _)
  |succ n ih=>exact fun i h hi=>bp.ki (step i hi fun j hj hD=>ih j (by omega) hj)
 exact fun i hi=>key (μ i+1) i (Nat.lt_succ_self _) hi
theorem drop_cons {α:Type} {l rest:List α} {k:Nat} {x:α} (h:l.drop k=x::rest):l[k]? = some x∧l.drop (k+1)=rest∧decide ((k:Int)<(l.length:Int))=true∧k<l.length:=by
 have h1:l[k]? = some x:=by
  have:(l.drop k)[0]? = some x:=by rw[h];rfl
  simpa using this
 have h2:=(List.getElem?_eq_some_iff.1 h1).1
 refine⟨h1, ?_,by simpa using h2,h2⟩
 have:l.drop (k+1)=(l.drop k).drop 1:=by rw[List.drop_drop]
 rw[this,h];rfl
theorem drop_nil {α:Type} {l:List α} {k:Nat} (h:l.drop k = []):decide ((k:Int)<(l.length:Int))=false:=by
 have:=List.drop_eq_nil_iff.1 h
 simp;omega
theorem bp.rD {a:AC} {Q:Exit→Tm→St→Prop} {tm:Tm} {s:St} (t z':Nat) {z:Nat} (hw:tm.get t = .slice .full z [])
 (h:bp P B nt a Q (tm.set t (.slice (.tok s.aA.length) z' [])) {s with aA:=s.aA++ [some 0]}):bp P B nt a Q tm s:=by
 intro c hc act w ⟨M,e,r,ht,h1,h2⟩
 obtain⟨r',le⟩:=r.blank
 refine h c hc act w ⟨_,J6 e le,r',fun k=>?_,h1,h2⟩
 rw[Tm.I3]
 split
 ·rename_i hk;subst hk;have:=ht k;rw[hw]at this;exact this.own
 ·exact(ht k).mono le
theorem bp.By {a:AC} {Q:Exit→Tm→St→Prop} {tm:Tm} {s:St} (o i z':Nat) {z:Nat} {cs:List D} (hc:s.al[o]? = some cs) (hi:cs[i]? = some (.slice .full z []))
 (h:bp P B nt a Q tm ⟨s.al.set o (cs.set i (.slice (.tok s.aA.length) z' [])),s.aA++ [some 0]⟩):bp P B nt a Q tm s:=by
 intro c hcc act w hh
 obtain⟨M,e,r,ht,h1,h2⟩:=hh
 obtain⟨r',le⟩:=r.blank
 have le':Le M s (M.fP s.aA.length none) ⟨s.al.set o (cs.set i (.slice (.tok s.aA.length) z' [])),s.aA++ [some 0]⟩:=⟨le.G,by simp,le.loc,le.t,le.tk⟩
 have le2:Le (M.fP s.aA.length none) {s with aA:=s.aA++ [some 0]} (M.fP s.aA.length none) ⟨s.al.set o (cs.set i (.slice (.tok s.aA.length) z' [])),s.aA++ [some 0]⟩:=
  ⟨fun _ _ _ h=>h,by simp,fun _ _=> .refl _,Nat.le_refl _,fun t n' _ e=>⟨n',e,Nat.le_refl _,fun _=>rfl⟩⟩
 have r2:Rel (M.fP s.aA.length none) ⟨s.al.set o (cs.set i (.slice (.tok s.aA.length) z' [])),s.aA++ [some 0]⟩ w:=by
  refine⟨r'.comm,fun o' ds e=>?_,fun o ho=>r'.kl o (by simpa using ho),fun o o' ho pk=>r'.inj o o' (by simpa using ho) (by simpa using pk),r'.tok,
   fun t b c z o hv e ho=>r'.fO t b c z o hv e (by simpa using ho),r'.gR⟩
  simp only[List.getElem?_set]at e
  split at e
  ·rename_i ho
   subst ho
   split at e
   ·cases e
    obtain⟨vs,T,g1,g2,g3,g4⟩:=r.obj o cs hc
    refine⟨vs,T,g1,by simpa using g2,g3,fun j d v e1 e2=>?_⟩
    rw[List.getElem?_set]at e1
    split at e1
    ·rename_i hj
     subst hj
     split at e1
     ·cases e1
      exact((g4 i _ v hi e2).own (z':=z')).mono le2
     ·cases e1
    ·exact(g4 j d v e1 e2).mono le'
   ·cases e
  ·obtain⟨vs,T,g1,g2,g3,g4⟩:=r'.obj o' ds e
   exact⟨vs,T,g1,g2,g3,fun i d v e1 e2=>(g4 i d v e1 e2).mono le2⟩
 have ee:Ext B.M B.s B.w (M.fP s.aA.length none) ⟨s.al.set o (cs.set i (.slice (.tok s.aA.length) z' [])),s.aA++ [some 0]⟩ w:=by
  refine(J6 e le).trans ⟨le2,fun _ _ _ _=>rfl,fun o h1 h2=>?_,fun t b c z hl e=> .inl ⟨hl,c,z,e⟩,fun _ _ h=>(h rfl).elim,Nat.le_refl _,rfl,rfl,rfl⟩
  simp at h2
  exact h1.elim (fun h1=>absurd h2 (Nat.not_lt.2 h1)) fun h1=>(h1 rfl).elim
 exact h c hcc act w ⟨_,ee,r2,fun k=>(ht k).mono le',h1,h2⟩
theorem F1 {ac r:AC} {l:Nat} {Q:Exit→Tm→St→Prop} {tm:Tm} {s:St} (hf:wT ac l=some r) (h:mY P B nt ac r Q tm s):Bs P B nt ac Q (.goto l) tm s:=⟨r,hf,h⟩
theorem Sem.oK {a b:AC} {Q:Exit→Tm→St→Prop} {tm:Tm} {s:St} (h:jX P B nt a (lu (Sem P B nt b Q) Q) tm s):Sem P B nt (.seq a b) Q tm s:=Sem.seq (jD h)
theorem Sem.re {a:AC} {Q:Exit→Tm→St→Prop} {tm:Tm} {s:St} (bK:Tm) (fz:List (List D)) (n m:Nat) (hn:B.s.al.length≤n) (hm:B.s.aA.length≤m) (ht:yJ tm n m bK) (ho:ik (s.cut n m).al fz)
 (h:Sem P B nt a Q bK ⟨fz,(s.cut n m).aA⟩):Sem P B nt a Q tm s:=
 fun c hc act w hh=>h c hc act w (hh.re (Q:=Q) n m hn hm ht ho)
def Has (P:Program) (f nt:Nat) (res:List (Nat×Option (Bool×Nat))) (body:AC):Prop:=∃ fn,P.funcs[f]? = some fn∧cF P fn=some ⟨nt,res,body⟩
theorem aH.go {f:FuncId} {res:List (Nat×Option (Bool×Nat))} {body:AC} {args:List D} {s:St} {d:D} {s':St} (h0:Has P f nt res body) (hl:Nat.ble args.length nt=true)
 (h : ∀ (B:gZ) (Q:Exit→Tm→St→Prop),B.s=s→rC s.al.length s.aA.length res d s'=Q→jX P B nt body Q (ou 0 args) s):aH P f args s d s':=by
 obtain⟨fn,hf,hc⟩:=h0
 exact aH.intro ⟨fn,hf,hc⟩ (Nat.le_of_ble_eq_true hl) fun B hB=>jD (h B _ hB rfl)
theorem aH.af0 {f:FuncId} {pre post:List D} {rows qo:List (List D)} {z z' k k':Nat} (h:aH P f (pre++ .slice (.tok 0) z rows::post) ⟨[],[some k]⟩ (.slice (.tok 0) z' qo) ⟨[],[some k']⟩)
 (hp:D.bM 0 0 pre=true) (ha:D.bM 0 0 post=true) (hw:D.jd 0 0 rows=true) (hw':D.jd 0 0 qo=true)
 {s:St} {t:Nat} (ht:s.aA[t]? = some (some k)):aH P f (pre++ .slice (.tok t) z rows::post) s (.slice (.tok t) z' qo) ⟨s.al,s.aA.set t (some k')⟩:=by
 refine bW.frame [] [t] h (by simp) (by simp) (by simp) (by simpa using (List.getElem?_eq_some_iff.1 ht).1) rfl (fun i o' ds e1 e2=>by simp at e1) rfl (fun i t' e1=>?_)
  ?_ ?_ ?_
 ·cases i with
  |zero=>simp at e1;subst e1;simp[ht]
  |succ i=>simp at e1
 ·have h1:=fY [] [t] _ hp
  have h2:=fY [] [t] _ ha
  rw[gP]at h1 h2
  simp[gP,D.cT,Tag.cT,h1,h2,ke _ _ _ hw]
 ·have h1:=jw (n':=0) (m':=1) (Nat.le_refl 0) (Nat.zero_le 1) _ hp
  have h2:=jw (n':=0) (m':=1) (Nat.le_refl 0) (Nat.zero_le 1) _ ha
  rw[AA]at h1 h2 ⊢
  simp only[List.length_nil,List.length_cons,List.all_append,h1,Bool.true_and,List.all_cons,h2,Bool.and_true,D.ok,Tag.ok,n8 (Nat.zero_le 0) (Nat.zero_le 1) _ hw]
  rfl
 ·rintro _ _ ⟨rfl,rfl⟩
  refine⟨by simp[D.back,D.cT,Tag.cT,kP,ke _ _ _ hw'], ?_⟩
  simp[St.back,lC]
theorem aoN (A C:Prop) : @CB (.bool true) ⟨A,C⟩=A:=by simp[CB,wU]
theorem aoO (A C:Prop) : @CB (.bool false) ⟨A,C⟩=C:=by simp[CB,wU]
theorem af2 (b:Bool) (A C:Prop) : @CB (.bool (!b)) ⟨A,C⟩ = @CB (.bool b) ⟨C,A⟩:=by
 cases b<;>simp[CB,wU]
theorem My {b:Bool} {A C:Prop} (h1:b=true→A) (h2:b=false→C) : @CB (.bool b) ⟨A,C⟩:=⟨h1,h2⟩
theorem af3 {b:Bool} {A C:Prop} (h:b=true) (h1:b=true→A) : @CB (.bool b) ⟨A,C⟩:=My h1 (fun h'=>by rw[h]at h';cases h')
theorem af4 {b:Bool} {A C:Prop} (h:b=false) (h1:b=false→C) : @CB (.bool b) ⟨A,C⟩:=My (fun h'=>by rw[h]at h';cases h') h1
theorem akg {n m:Nat} {res:List (Nat×Option (Bool×Nat))} {d:D} {s':St} {tm:Tm} {s:St} {Q:Exit→Tm→St→Prop} (hQ:rC n m res d s'=Q)
 (h : ∃ l,bh res tm s=some l∧Wk ((bk l).fg n m) d∧ik (s.cut n m).al s'.al∧(s.cut n m).aA=s'.aA):Q .ret tm s:=hQ ▸ h
theorem akh {n m:Nat} {res:List (Nat×Option (Bool×Nat))} {d:D} {s':St} {tm:Tm} {s:St} {Q:Exit→Tm→St→Prop} (hQ:rC n m res d s'=Q)
 (h : ∃ l,bh res tm s=some l∧Wk ((bk l).fg n m) d∧ik (s.cut n m).al s'.al∧(s.cut n m).aA=s'.aA):Q .normal tm s:=hQ ▸ h
end
attribute [go_sem] Yf adk adl adn Yg Vd Yh Ve Yi Vf Yj ado adp adq adr ads Yk Yl Ym Yn
theorem Vg : ∀ (tm:Tm) (s:St) (x:X),aY (AO.mv x) tm s=some (X.ev tm x,s):=
 fun tm s x=>nd (aY.eq_1 tm s x)
theorem Vh : ∀ (tm:Tm) (s:St) (c a b:X),
 aY (AO.pick c a b) tm s =
  match X.ev tm c with
  |D.bool t=>some (if t=true then X.ev tm a else X.ev tm b,s)
  |x=>none:=
 fun tm s c a b=>nd (aY.eq_2 tm s c a b)
theorem Vi : ∀ (tm:Tm) (s:St) (zero:List D),
 aY (AO.alloc zero) tm s=some (D.ptr s.al.length 0,{al:=s.al++ [zero],aA:=s.aA}):=
 fun tm s zero=>nd (aY.eq_3 tm s zero)
theorem Vj : ∀ (tm:Tm) (s:St) (x:X),
 aY (AO.box x) tm s =
  match (X.ev tm x).row with
  |some r=>some (D.ptr s.al.length 0,{al:=s.al++ [r],aA:=s.aA})
  |none=>none:=
 fun tm s x=>nd (aY.eq_4 tm s x)
theorem Vk : ∀ (tm:Tm) (s:St) (zero:List D) (parts:List (Nat×Nat×X)),
 aY (AO.build zero parts) tm s =
  match sW zero (List.map (fun(p:Nat×Nat×X)=>(p.fst,p.snd.fst,X.ev tm p.snd.snd)) parts)with
  |some cs=>some (D.agg cs,s)
  |none=>none:=
 fun tm s zero parts=>nd (aY.eq_5 tm s zero parts)
theorem Vl : ∀ (tm:Tm) (s:St) (zero:List D) (size n:Nat) (parts:List (Nat×X)),
 aY (AO.du zero size n parts) tm s =
  match ld size (gV zero n) (List.map (fun(p:Nat×X)=>(p.fst,X.ev tm p.snd)) parts)with
  |some rows=>some (D.slice Tag.full size rows,s)
  |none=>none:=
 fun tm s zero size n parts=>nd (aY.eq_6 tm s zero size n parts)
theorem Vm : ∀ (tm:Tm) (s:St) (zero:List D) (size n:Nat) (parts:List (Nat×X)),
 aY (AO.xf zero size n parts) tm s =
  match ld size (gV zero n) (List.map (fun(p:Nat×X)=>(p.fst,X.ev tm p.snd)) parts)with
  |some rows=>
   some (D.slice (Tag.tok s.aA.length) size rows,{al:=s.al,aA:=s.aA++ [some rows.length]})
  |none=>none:=
 fun tm s zero size n parts=>nd (aY.eq_7 tm s zero size n parts)
theorem Vn : ∀ (tm:Tm) (s:St) (x:X),
 aY (AO.C8 x) tm s =
  match X.ev tm x with
  | D.slice (Tag.tok t _) z rows=>
   if rows≠ []∧s.aA[t]? = some (some rows.length)then
    some (D.slice Tag.shared z rows,{al:=s.al,aA:=s.aA.set t none})
   else none
  |x=>none:=
 fun tm s x=>nd (aY.eq_8 tm s x)
theorem Vo : ∀ (tm:Tm) (s:St) (x:X) (agg:Bool) (size:Nat),
 aY (AO.load x agg size) tm s =
  match X.ev tm x with
  | D.ptr o off=>
   match s.al[o]? with
   |some cs=>
    match part cs off agg size with
    |some d=>some (d,s)
    |none=>none
   |none=>none
  |D.dS row off=>
   match part row off agg size with
   |some d=>some (d,s)
   |none=>none
  |x=>Bi x agg size s:=
 fun tm s x agg size=>nd (aY.eq_9 tm s x agg size)
theorem RK : ∀ (tm:Tm) (s:St) (p x:X) (size:Nat),
 aY (AO.store p x size) tm s =
  match X.ev tm p,(X.ev tm x).row with
  | D.ptr o off,some r=>
   match s.al[o]? with
   | some cs=>
    if r.length=size∧off+size≤cs.length then
     some (D.tuple [],{al:=s.al.set o (gS cs off r),aA:=s.aA})
    else none
   |none=>none
  |x,gk=>Df x gk size s:=
 fun tm s p x size=>nd (aY.eq_10 tm s p x size)
theorem RL : ∀ (tm:Tm) (s:St) (x:X),
 aY (AO.cz x) tm s =
  match X.ev tm x with
  |D.ptr o off=>some (D.ptr o off,s)
  |D.dS row off=>some (D.dS row off,s)
  |x=>match QP x with|some d=>some (d,s)|none=>none:=
 fun tm s x=>nd (aY.eq_11 tm s x)
theorem RM : ∀ (tm:Tm) (s:St) (op:BinOp) (x y:X),
 aY (AO.bin op x y) tm s =
  match zz op (X.ev tm x) (X.ev tm y)with
  |some d=>some (d,s)
  |none=>none:=
 fun tm s op x y=>nd (aY.eq_12 tm s op x y)
theorem RN : ∀ (tm:Tm) (s:St) (neg:Bool) (x y:X),
 aY (AO.JR neg x y) tm s =
  match X.ev tm x,X.ev tm y with
  |D.bool a,D.bool b=>some (D.bool (if neg=true then !a==b else a==b),s)
  |x,gk=>none:=
 fun tm s neg x y=>nd (aY.eq_13 tm s neg x y)
theorem RO : ∀ (tm:Tm) (s:St) (neg:Bool) (ks:List Nat) (x y:X),
 aY (AO.eqs neg ks x y) tm s =
  match X.ev tm x,X.ev tm y with
  |D.agg a,D.agg b=>
   match mL ks a b with
   |some e=>some (D.bool (if neg=true then !e else e),s)
   |none=>none
  |x,gk=>none:=
 fun tm s neg ks x y=>nd (aY.eq_14 tm s neg ks x y)
theorem RP : ∀ (tm:Tm) (s:St) (neg:Bool) (x y:X),
 aY (AO.JS neg x y) tm s =
  match X.ev tm x,X.ev tm y with
  |D.eY,D.eY=>some (D.bool !neg,s)
  |D.ptr o off,D.eY=>some (D.bool neg,s)
  |D.dS row off,D.eY=>some (D.bool neg,s)
  |x,gk=>none:=
 fun tm s neg x y=>nd (aY.eq_15 tm s neg x y)
theorem RQ : ∀ (tm:Tm) (s:St) (op:UnOp) (x:X),
 aY (AO.un op x) tm s =
  match LU op (X.ev tm x)with
  |some d=>some (d,s)
  |none=>none:=
 fun tm s op x=>nd (aY.eq_16 tm s op x)
theorem RR : ∀ (tm:Tm) (s:St) (k:IntKind) (x:X),
 aY (AO.conv k x) tm s =
  match X.ev tm x with
  |D.int k_1 n=>some (D.int k (k.wrap n),s)
  |x=>none:=
 fun tm s k x=>nd (aY.eq_17 tm s k x)
theorem RS : ∀ (tm:Tm) (s:St) (x:X),
 aY (AO.GQ x) tm s =
  match X.ev tm x with
  |D.slice g size rows=>
   match qb rows with
   |some b=>some (D.str b,s)
   |none=>none
  |x=>none:=
 fun tm s x=>nd (aY.eq_18 tm s x)
theorem RT : ∀ (tm:Tm) (s:St) (x:X),
 aY (AO.Ak x) tm s =
  match X.ev tm x with
  |D.str l=>some (D.slice Tag.shared 1 (List.map (fun(c:UInt8)=> [D.int IntKind.u8 ↑c.toNat]) l),s)
  |x=>none:=
 fun tm s x=>nd (aY.eq_19 tm s x)
theorem RU : ∀ (tm:Tm) (s:St) (size:Nat) (x:X) (lo hi:Option X),
 aY (AO.GR size x lo hi) tm s =
  match X.ev tm x with
  | D.slice g z rows=>
   match vv (Option.map (fun(x:X)=>X.ev tm x) lo),
    vw (Option.map (fun(x:X)=>X.ev tm x) hi) rows.length with
   | some l,some h=>
    if(rows = []∨z=size)∧0≤l∧l≤h∧h≤ ↑rows.length then
     some
      (D.slice (if l=0 then g.cut (decide (h = ↑rows.length))else Tag.shared) z
       (List.drop l.toNat (List.take h.toNat rows)),
       s)
    else none
   |x,gk=>none
  |x=>match zB x (Option.map (fun(x:X)=>X.ev tm x) lo) (Option.map (fun(x:X)=>X.ev tm x) hi)with|some d=>some (d,s)|none=>none:=
 fun tm s size x lo hi=>nd (aY.eq_20 tm s size x lo hi)
theorem RV : ∀ (tm:Tm) (s:St) (x:X) (lo hi:Option X),
 aY (AO.LQ x lo hi) tm s =
  match X.ev tm x with
  | D.str t=>
   match vv (Option.map (fun(x:X)=>X.ev tm x) lo),vw (Option.map (fun(x:X)=>X.ev tm x) hi) t.length with
   |some l,some h=>
    if 0≤l∧l≤h∧h≤ ↑t.length then some (D.str (List.drop l.toNat (List.take h.toNat t)),s)else none
   |x,gk=>none
  |x=>none:=
 fun tm s x lo hi=>nd (aY.eq_21 tm s x lo hi)
theorem RW : ∀ (tm:Tm) (s:St) (x:X) (off:Nat),
 aY (AO.aw x off) tm s =
  match X.ev tm x with
  |D.ptr o k=>some (D.ptr o (k+off),s)
  |D.dS row k=>some (D.dS row (k+off),s)
  |x=>match GX x off with|some d=>some (d,s)|none=>none:=
 fun tm s x off=>nd (aY.eq_22 tm s x off)
theorem RX : ∀ (tm:Tm) (s:St) (x:X) (off:Nat) (agg:Bool) (size:Nat),
 aY (AO.Fl x off agg size) tm s =
  match X.ev tm x with
  |D.agg cs=>
   match part cs off agg size with
   |some d=>some (d,s)
   |none=>none
  |x=>none:=
 fun tm s x off agg size=>nd (aY.eq_23 tm s x off agg size)
theorem RY : ∀ (tm:Tm) (s:St) (x i:X) (size:Nat),
 aY (AO.cu x i size) tm s =
  match X.ev tm x,X.ev tm i with
  | D.slice g z rows,D.int k n=>
   if 0≤n∧z=size then
    match rows[n.toNat]? with
    |some row=>some (D.dS row 0,s)
    |none=>none
   else none
  |x,gk=>match Am x gk size with|some d=>some (d,s)|none=>none:=
 fun tm s x i size=>nd (aY.eq_24 tm s x i size)
theorem RZ : ∀ (tm:Tm) (s:St) (x i:X),
 aY (AO.C9 x i) tm s =
  match X.ev tm x,X.ev tm i with
  | D.str t,D.int k n=>
   if 0≤n then
    match t[n.toNat]? with
    |some c=>some (D.int IntKind.u8 ↑c.toNat,s)
    |none=>none
   else none
  |x,gk=>none:=
 fun tm s x i=>nd (aY.eq_25 tm s x i)
theorem R0 : ∀ (tm:Tm) (s:St) (x:X) (i:Nat),
 aY (AO.ext x i) tm s =
  match X.ev tm x with
  |D.tuple ds=>
   match ds[i]? with
   |some d=>some (d,s)
   |none=>none
  |x=>none:=
 fun tm s x i=>nd (aY.eq_26 tm s x i)
theorem R3 : ∀ (tm:Tm) (s:St) (x:X),
 aY (AO.xg x) tm s =
  match X.ev tm x with
  |D.str t=>some (D.int IntKind.i64 ↑t.length,s)
  |x=>none:=
 fun tm s x=>nd (aY.eq_27 tm s x)
theorem R4 : ∀ (tm:Tm) (s:St) (x:X),
 aY (AO.len x) tm s =
  match X.ev tm x with
  |D.slice g size rows=>some (D.int IntKind.i64 ↑rows.length,s)
  |x=>match IY x with|some d=>some (d,s)|none=>none:=
 fun tm s x=>nd (aY.eq_28 tm s x)
theorem R5 : ∀ (tm:Tm) (s:St) (size bytes:Nat) (x y:X),
 aY (AO.app size bytes x y) tm s =
  match X.ev tm x with
  |D.slice g z rows=>jv size bytes (D.slice g z rows) (X.ev tm y) s
  |d=>zC size bytes d (X.ev tm y) s:=
 fun tm s size bytes x y=>nd (aY.eq_29 tm s size bytes x y)
theorem R6 : ∀ (tm:Tm) (s:St) (isMax:Bool) (x y:X),
 aY (AO.mm isMax x y) tm s =
  match X.ev tm x,X.ev tm y with
  |D.int k a,D.int k' b=>
   if k=k' then some (D.int k (if isMax=true then if b > a then b else a else if b<a then b else a),s)
   else none
  |x,gk=>none:=
 fun tm s isMax x y=>nd (aY.eq_30 tm s isMax x y)
theorem R7 (tm:Tm) (s:St) (r:List D) (T:TypeId):aY (AO.vu (.eY::r) T) tm s=some (.ptr s.al.length 0,{al:=s.al++ [.gf T s.al.length::r],aA:=s.aA}):=nd rfl
theorem R8 (tm:Tm) (s:St) (x:X) (T:TypeId):aY (AO.Da x T) tm s =
 match (x.ev tm).row with
 |some (.eY::r)=>some (.ptr s.al.length 0,{al:=s.al++ [.gf T s.al.length::r],aA:=s.aA})
 |_=>none:=nd rfl
theorem R9 (tm:Tm) (s:St) (x y:X):aY (AO.apps x y) tm s =
 match y.ev tm with
 | .str l=>De (x.ev tm) (.slice .shared 1 (l.map fun c=> [.int .u8 c.toNat])) s
 |_=>none:=nd rfl
theorem Sb (tm:Tm) (s:St) (x y:X):aY (AO.Db x y) tm s=De (x.ev tm) (y.ev tm) s:=nd rfl
theorem Sc (tm:Tm) (s:St) (f:Nat) (xs:List X):aY (AO.wQ f xs) tm s=some (.ix f (xs.map fun x=>x.ev tm),s):=nd rfl
theorem Sd (tm:Tm) (s:St):aY AO.wR tm s=some (.gT s.al.length,{al:=s.al++ [[]],aA:=s.aA}):=nd rfl
theorem Se (tm:Tm) (s:St) (m k v:X):aY (AO.Bg m k v) tm s =
 match m.ev tm,k.ev tm,v.ev tm with
 | .gT o, .str key, .slice g z rows=>
  match s.al[o]? with
  |some cs=>match zA key (.slice g z rows) cs with|some kR=>some (.tuple [],{al:=s.al.set o kR,aA:=s.aA})|none=>none
  |none=>none
 |_,_,_=>none:=nd rfl
theorem Sf (tm:Tm) (s:St) (m k:X) (zero:D):aY (AO.yu m k zero) tm s =
 match m.ev tm,k.ev tm with
 | .gT o, .str key=>
  match s.al[o]? with
  |some cs=>match Bh key zero cs with|some d=>some (d,s)|none=>none
  |none=>none
 |_,_=>none:=nd rfl
theorem Sg (tm:Tm) (s:St) (o:FO) (x y:X):aY (AO.sV o x y) tm s=match sm o (x.ev tm) (y.ev tm)with|some d=>some (d,s)|none=>none:=nd rfl
theorem Si (tm:Tm) (s:St) (size bytes:Nat) (zero:List D) (l c:X):aY (AO.Dc size bytes zero l c) tm s =
 match l.ev tm,c.ev tm with
 | .int .i64 n, .int .i64 m=>if n=m∧0≤n∧n*((bytes:Int)+1)≤bD then some (.dK size s.al.length 0 n.toNat,{s with al:=s.al++ [.int .i64 ((0:Nat):Int)::(gV zero n.toNat).flatten]})else none
 |_,_=>none:=nd rfl
theorem Mz (o:FO) (x y:X):(AO.sV o x y).core=false:=nd rfl
theorem MA (size bytes:Nat) (zero:List D) (l c:X):(AO.Dc size bytes zero l c).core=true:=nd rfl
theorem MB (f:Nat) (xs:List X):(AO.wQ f xs).core=false:=nd rfl
theorem MC:AO.wR.core=true:=nd rfl
theorem MD (m k v:X):(AO.Bg m k v).core=true:=nd rfl
theorem ME (m k:X) (zero:D):(AO.yu m k zero).core=false:=nd rfl
theorem Vp (n m f:Nat) (cs:List D):D.fg n m (.ix f cs) = .ix f (D.iG n m cs):=nd (by simp only[D.fg])
theorem Vq (n m:Nat) (o:Nat):D.fg n m (.gT o)=if o<n then .gT o else .junk:=nd (by simp only[D.fg])
theorem Sj (d:Option Nat) (g:Option (Nat×Bool)) (t:Nat) (xs:List X):(AI.kx d g t xs).dst=d:=nd rfl
theorem MF (x y:X):(AO.Db x y).core=true:=nd rfl
theorem MG (z:List D) (T:TypeId):(AO.vu z T).core=true:=nd rfl
theorem MH (x:X) (T:TypeId):(AO.Da x T).core=true:=nd rfl
theorem MI (x y:X):(AO.apps x y).core=true:=nd rfl
theorem Vr (n m:Nat) (v:Value):D.fg n m (.val v) = .val v:=nd (by simp only[D.fg])
theorem Vs (n m:Nat) (T:TypeId) (o:Nat):D.fg n m (.gf T o)=if o<n then .gf T o else .junk:=nd (by simp only[D.fg])
theorem Yo : ∀ (tm:Tm) (t:Nat),X.ev tm (X.s t)=tm.get t:=
 fun tm t=>nd (X.ev.eq_1 tm t)
theorem Yp : ∀ (tm:Tm) (d:D),X.ev tm (X.k d)=d:=
 fun tm d=>nd (X.ev.eq_2 tm d)
theorem Sk : ∀ (tm:Tm) (d:D) (t:Nat),tm.put (some t) d=tm.set t d:=
 fun tm d t=>nd (Tm.put.eq_1 tm d t)
theorem Sl : ∀ (tm:Tm) (d:D),tm.put none d=tm:=
 fun tm d=>nd (Tm.put.eq_2 tm d)
theorem Sn : ∀ (x:Nat) (gk:D),Tm.set [] x gk = [(x,gk)]:=
 fun x gk=>nd (Tm.set.eq_1 x gk)
theorem Sq : ∀ (x:Nat) (gk:D) (k:Nat) (e:D) (r:List (Nat×D)),
 Tm.set ((k,e)::r) x gk=if k=x then(k,gk)::r else(k,e)::Tm.set r x gk:=
 fun x gk k e r=>nd (Tm.set.eq_2 x gk k e r)
theorem Sr : ∀ (x:Nat),Tm.get [] x=D.junk:=
 fun x=>nd (Tm.get.eq_1 x)
theorem Ss : ∀ (x k:Nat) (d:D) (r:List (Nat×D)),Tm.get ((k,d)::r) x=if k=x then d else Tm.get r x:=
 fun x k d r=>nd (Tm.get.eq_2 x k d r)
theorem Vt : ∀ (x:Nat),ou x [] = []:=
 fun x=>nd (ou.eq_1 x)
theorem Vu : ∀ (x:Nat) (d:D) (r:List D),ou x (d::r)=(x,d)::ou (x+1) r:=
 fun x d r=>nd (ou.eq_2 x d r)
theorem Sv : ∀ (d:Option Nat) (g:Option (Nat×Bool)) (o:AO),(AI.op d g o).dst=d:=
 fun d g o=>nd (AI.dst.eq_1 d g o)
theorem Sw : ∀ (d:Option Nat) (g:Option (Nat×Bool)) (f:Nat) (xs:List X),(AI.call d g f xs).dst=d:=
 fun d g f xs=>nd (AI.dst.eq_2 d g f xs)
theorem Sx : ∀ (d:Option Nat) (g:Option (Nat×Bool)) (neg:Bool) (gk:X),(AI.nil d g neg gk).dst=d:=
 fun d g neg gk=>nd (AI.dst.eq_3 d g neg gk)
theorem Yq : ∀ (cs:List D) (off size:Nat),
 part cs off true size=if off+size≤cs.length then some (D.agg (List.take size (List.drop off cs)))else none:=
 fun cs off size=>nd (part.eq_1 cs off size)
theorem Yr : ∀ (cs:List D) (off size:Nat),part cs off false size=cs[off]? :=
 fun cs off size=>nd (part.eq_2 cs off size)
theorem Sy : ∀ (cs:List D) (off:Nat) (r:List D),
 gS cs off r=List.take off cs++r++List.drop (off+r.length) cs:=
 fun cs off r=>nd (gS.eq_1 cs off r)
theorem Vv : ∀ (cells:List D),sW cells [] = some cells:=
 fun cells=>nd (sW.eq_1 cells)
theorem Vw : ∀ (cells:List D) (off size:Nat) (d:D) (rest:List (Nat×Nat×D)),
 sW cells ((off,size,d)::rest) =
  match d.row with
  |none=>none
  |some r=>if r.length=size∧off+size≤cells.length then sW (gS cells off r) rest else none:=
 fun cells off size d rest=>nd (sW.eq_2 cells off size d rest)
theorem MJ : ∀ (size:Nat) (rows:List (List D)),ld size rows [] = some rows:=
 fun size rows=>nd (ld.eq_1 size rows)
theorem MK : ∀ (size:Nat) (rows:List (List D)) (i:Nat) (d:D) (rest:List (Nat×D)),
 ld size rows ((i,d)::rest) =
  match d.row with
  |none=>none
  |some r=>if r.length=size∧i<rows.length then ld size (rows.set i r) rest else none:=
 fun size rows i d rest=>nd (ld.eq_2 size rows i d rest)
theorem MM : ∀ (zero:List D),gV zero 0 = []:=
 fun zero=>nd (gV.eq_1 zero)
theorem MN : ∀ (zero:List D) (i:Nat),gV zero i.succ=zero::gV zero i:=
 fun zero i=>nd (gV.eq_2 zero i)
theorem Ys : ∀ (op:BinOp) (k:IntKind) (a:Int) (k':IntKind) (b:Int),
 zz op (D.int k a) (D.int k' b)=if k=k' then iy op k a b else none:=
 fun op k a k' b=>nd (zz.eq_1 op k a k' b)
theorem Yt : ∀ (op:BinOp) (a b:List UInt8),zz op (D.str a) (D.str b)=pU op a b:=
 fun op a b=>nd (zz.eq_2 op a b)
theorem Sz : ∀ (k:IntKind) (a b:Int),iy BinOp.add k a b=some (D.int k (k.wrap (a+b))):=
 fun k a b=>nd (iy.eq_1 k a b)
theorem SA : ∀ (k:IntKind) (a b:Int),iy BinOp.sub k a b=some (D.int k (k.wrap (a - b))):=
 fun k a b=>nd (iy.eq_2 k a b)
theorem SB : ∀ (k:IntKind) (a b:Int),iy BinOp.mul k a b=some (D.int k (k.wrap (a*b))):=
 fun k a b=>nd (iy.eq_3 k a b)
theorem SC : ∀ (k:IntKind) (a b:Int),
 iy BinOp.quo k a b=if b=0 then none else some (D.int k (k.wrap (a.tdiv b))):=
 fun k a b=>nd (iy.eq_4 k a b)
theorem SD : ∀ (k:IntKind) (a b:Int),iy BinOp.rem k a b=if b=0 then none else some (D.int k (a.tmod b)):=
 fun k a b=>nd (iy.eq_5 k a b)
theorem SE : ∀ (k:IntKind) (a b:Int),iy BinOp.eql k a b=some (D.bool (a==b)):=
 fun k a b=>nd (iy.eq_6 k a b)
theorem SF : ∀ (k:IntKind) (a b:Int),iy BinOp.neq k a b=some (D.bool (a != b)):=
 fun k a b=>nd (iy.eq_7 k a b)
theorem SG : ∀ (k:IntKind) (a b:Int),iy BinOp.lss k a b=some (D.bool (decide (a<b))):=
 fun k a b=>nd (iy.eq_8 k a b)
theorem SH : ∀ (k:IntKind) (a b:Int),iy BinOp.leq k a b=some (D.bool (decide (a≤b))):=
 fun k a b=>nd (iy.eq_9 k a b)
theorem OX : ∀ (k:IntKind) (a b:Int),iy BinOp.gtr k a b=some (D.bool (decide (a > b))):=
 fun k a b=>nd (iy.eq_10 k a b)
theorem OY : ∀ (k:IntKind) (a b:Int),iy BinOp.geq k a b=some (D.bool (decide (a≥b))):=
 fun k a b=>nd (iy.eq_11 k a b)
theorem SI : ∀ (a b:List UInt8),
 pU BinOp.add a b=if a.length+b.length≤bD then some (D.str (a++b))else none:=
 fun a b=>nd (pU.eq_1 a b)
theorem SJ : ∀ (a b:List UInt8),pU BinOp.eql a b=some (D.bool (a==b)):=
 fun a b=>nd (pU.eq_2 a b)
theorem SK : ∀ (a b:List UInt8),pU BinOp.neq a b=some (D.bool !a==b):=
 fun a b=>nd (pU.eq_3 a b)
theorem SL : ∀ (a b:List UInt8),pU BinOp.lss a b=some (D.bool (bytesLess a b)):=
 fun a b=>nd (pU.eq_4 a b)
theorem adt : ∀ (k:IntKind) (n:Int),LU UnOp.neg (D.int k n)=some (D.int k (k.wrap (0 - n))):=
 fun k n=>nd (LU.eq_1 k n)
theorem adu : ∀ (b:Bool),LU UnOp.not (D.bool b)=some (D.bool !b):=
 fun b=>nd (LU.eq_2 b)
theorem SM : ∀ (k:IntKind) (a:Int) (k':IntKind) (b:Int),
 oA 0 (D.int k a) (D.int k' b)=if k=k' then some (a==b)else none:=
 fun k a k' b=>nd (oA.eq_1 k a k' b)
theorem SN : ∀ (a b:Bool),oA 1 (D.bool a) (D.bool b)=some (a==b):=
 fun a b=>nd (oA.eq_2 a b)
theorem SO : ∀ (a b:List UInt8),oA 2 (D.str a) (D.str b)=some (a==b):=
 fun a b=>nd (oA.eq_3 a b)
theorem OZ:mL [] [] [] = some true:=
 nd (mL.eq_1)
theorem O0 : ∀ (k:Nat) (ks:List Nat) (x_3:D) (xs:List D) (y:D) (ys:List D),
 mL (k::ks) (x_3::xs) (y::ys) =
  match oA k x_3 y with
  |none=>none
  |some true=>mL ks xs ys
  |some false=>some false:=
 fun k ks x_3 xs y ys=>nd (mL.eq_2 k ks x_3 xs y ys)
theorem adv:vv none=some 0:=
 nd (vv.eq_1)
theorem adw : ∀ (k:IntKind) (n:Int),vv (some (D.int k n))=some n:=
 fun k n=>nd (vv.eq_2 k n)
theorem adx : ∀ (len:Nat),vw none len=some ↑len:=
 fun len=>nd (vw.eq_1 len)
theorem ady : ∀ (len:Nat) (k:IntKind) (n:Int),vw (some (D.int k n)) len=some n:=
 fun len k n=>nd (vw.eq_2 len k n)
theorem O1 : ∀ (zero:List D),(AO.alloc zero).core=true:=
 fun zero=>nd (AO.core.eq_1 zero)
theorem O2 : ∀ (gk:X),(AO.box gk).core=true:=
 fun gk=>nd (AO.core.eq_2 gk)
theorem O3 : ∀ (zero:List D) (size n:Nat) (parts:List (Nat×X)),(AO.xf zero size n parts).core=true:=
 fun zero size n parts=>nd (AO.core.eq_3 zero size n parts)
theorem O4 : ∀ (gk:X),(AO.C8 gk).core=true:=
 fun gk=>nd (AO.core.eq_4 gk)
theorem O5 : ∀ (p gk:X) (size:Nat),(AO.store p gk size).core=true:=
 fun p gk size=>nd (AO.core.eq_5 p gk size)
theorem O6 : ∀ (size bytes:Nat) (gk y:X),(AO.app size bytes gk y).core=true:=
 fun size bytes gk y=>nd (AO.core.eq_6 size bytes gk y)
theorem O7 : ∀ (val:Nat) (zero:List D),(AI.op (some val) none (AO.alloc zero)).kind=AK.alloc:=
 fun val zero=>nd (AI.kind.eq_1 val zero)
theorem O8 : ∀ (zero:List D),(AO.alloc zero).kind=AK.core:=
 fun zero=>nd (AO.kind.eq_1 zero)
theorem O9 : ∀ (gk:X),(AO.box gk).kind=AK.core:=
 fun gk=>nd (AO.kind.eq_2 gk)
theorem Pa : ∀ (zero:List D) (size n:Nat) (parts:List (Nat×X)),(AO.xf zero size n parts).kind=AK.core:=
 fun zero size n parts=>nd (AO.kind.eq_3 zero size n parts)
theorem Pb : ∀ (gk:X),(AO.C8 gk).kind=AK.core:=
 fun gk=>nd (AO.kind.eq_4 gk)
theorem Pe : ∀ (p gk:X) (size:Nat),(AO.store p gk size).kind=AK.core:=
 fun p gk size=>nd (AO.kind.eq_5 p gk size)
theorem Pf : ∀ (size bytes:Nat) (gk y:X),(AO.app size bytes gk y).kind=AK.core:=
 fun size bytes gk y=>nd (AO.kind.eq_6 size bytes gk y)
theorem Ph : ∀ (gk:X) (agg:Bool) (size:Nat),(AO.load gk agg size).kind=AK.load:=
 fun _ _ _=>nd rfl
theorem SP:iT AK.core=true:=
 nd (iT.eq_1)
theorem SQ:iT AK.alloc=true:=
 nd (iT.eq_2)
theorem SR : ∀ (i:AI) (tm:Tm) (d:D),pX i tm d [] = True:=
 fun i tm d=>nd (pX.eq_1 i tm d)
theorem SS : ∀ (i:AI) (tm:Tm) (d:D) (s:St) (r:List St),
 pX i tm d (s::r)=(kZ i tm s=some d∧pX i tm d r):=
 fun i tm d s r=>nd (pX.eq_2 i tm d s r)
theorem adz : ∀ (tm:Tm) (s:St) (dst:Option Nat) (o:AO),
 kZ (AI.op dst none o) tm s=Option.map (fun(x:D×St)=>x.fst) (aY o tm s):=
 fun tm s dst o=>nd (kZ.eq_1 tm s dst o)
theorem adA : ∀ (tm:Tm) (s:St) (dst:Option Nat) (t:Nat) (want:Bool) (o:AO),
 kZ (AI.op dst (some (t,want)) o) tm s =
  match tm.get t with
  |D.bool b=>if b=want then Option.map (fun(x:D×St)=>x.fst) (aY o tm s)else some (D.tuple [])
  |D.tuple vs=>some (D.tuple [])
  |x=>none:=
 fun tm s dst t want o=>nd (kZ.eq_2 tm s dst t want o)
theorem Pj : ∀ (is:List AI),oI is [] = some []:=
 fun is=>nd (oI.eq_1 is)
theorem Pk : ∀ (is:List AI) (q b:Nat) (r:List (Nat×Nat)),
 oI is ((q,b)::r) =
  match is[q]?,oI is r with
  |some ai,some l=>some ((ai,b)::l)
  |x,gk=>none:=
 fun is q b r=>nd (oI.eq_2 is q b r)
theorem adB : ∀ (tm:Tm) (n m:Nat),yJ tm n m [] = True:=
 fun tm n m=>nd (yJ.eq_1 tm n m)
theorem adC : ∀ (tm:Tm) (n m k:Nat) (d:D) (r:List (Nat×D)),
 yJ tm n m ((k,d)::r)=(Wk (D.fg n m (tm.get k)) d∧yJ tm n m r):=
 fun tm n m k d r=>nd (yJ.eq_2 tm n m k d r)
theorem Yu : ∀ (n m o off:Nat),D.fg n m (D.ptr o off)=if o<n then D.ptr o off else D.junk:=
 fun n m o off=>nd (D.fg.eq_1 n m o off)
theorem Yv : ∀ (n m:Nat) (row:List D) (off:Nat),D.fg n m (D.dS row off)=D.dS (D.iG n m row) off:=
 fun n m row off=>nd (D.fg.eq_2 n m row off)
theorem Yw : ∀ (n m:Nat) (g:Tag) (z:Nat) (rows:List (List D)),
 D.fg n m (D.slice g z rows)=D.slice (Tag.fg m g) z (D.lL n m rows):=
 fun n m g z rows=>nd (D.fg.eq_3 n m g z rows)
theorem Yx : ∀ (n m:Nat) (cs:List D),D.fg n m (D.agg cs)=D.agg (D.iG n m cs):=
 fun n m cs=>nd (D.fg.eq_4 n m cs)
theorem Yy : ∀ (n m:Nat) (ds:List D),D.fg n m (D.tuple ds)=D.tuple (D.iG n m ds):=
 fun n m ds=>nd (D.fg.eq_5 n m ds)
theorem Yz : ∀ (n m:Nat),D.fg n m D.junk=D.junk:=
 fun n m=>nd (D.fg.eq_6 n m)
theorem YA : ∀ (n m:Nat) (k:IntKind) (gk:Int),D.fg n m (D.int k gk)=D.int k gk:=
 fun n m k gk=>nd (D.fg.eq_7 n m k gk)
theorem YB : ∀ (n m:Nat) (b:Bool),D.fg n m (D.bool b)=D.bool b:=
 fun n m b=>nd (D.fg.eq_8 n m b)
theorem YC : ∀ (n m:Nat) (l:List UInt8),D.fg n m (D.str l)=D.str l:=
 fun n m l=>nd (D.fg.eq_9 n m l)
theorem Vx : ∀ (n m:Nat),D.fg n m D.eY=D.eY:=
 fun n m=>nd (D.fg.eq_10 n m)
theorem Vy : ∀ (n m:Nat),D.iG n m [] = []:=
 fun n m=>nd (D.iG.eq_1 n m)
theorem Vz : ∀ (n m:Nat) (d:D) (r:List D),D.iG n m (d::r)=D.fg n m d::D.iG n m r:=
 fun n m d r=>nd (D.iG.eq_2 n m d r)
theorem VA : ∀ (n m:Nat),D.lL n m [] = []:=
 fun n m=>nd (D.lL.eq_1 n m)
theorem VB : ∀ (n m:Nat) (d:List D) (r:List (List D)),D.lL n m (d::r)=D.iG n m d::D.lL n m r:=
 fun n m d r=>nd (D.lL.eq_2 n m d r)
theorem SU : ∀ (m t:Nat) (y:Bool),Tag.fg m (Tag.tok t y)=if t<m then Tag.tok t y else Tag.shared:=
 fun _ _ _=>nd rfl
theorem SV : ∀ (s:St) (n m:Nat),
 s.cut n m = {al:=List.map (D.iG n m) (List.take n s.al),aA:=List.take m s.aA}:=
 fun s n m=>nd (St.cut.eq_1 s n m)
theorem YD : ∀ (d:D),bk [d] = d:=
 fun d=>nd (bk.eq_1 d)
theorem YE (size bytes t:Nat) (rows:List (List D)) (g:Tag) (r:List D) (s:St):jv size bytes (.slice (.tok t) size rows) (.slice g size [r]) s =
 if(rows.length+1)*(bytes+1)≤bD∧s.aA[t]? = some (some rows.length)then some (.slice (.tok t) size (rows++ [r]),⟨s.al,s.aA.set t (some (rows.length+1))⟩)else none:=by
 simp only[jv,List.length_singleton]
 by_cases h1:(rows.length+1)*(bytes+1)≤bD<;>by_cases h2:s.aA[t]? = some (some rows.length)<;>simp[h1,h2]
theorem pH {size bytes t:Nat} {rows new:List (List D)} {g:Tag} {s:St} (h1:(rows.length+new.length)*(bytes+1)≤bD) (h2:s.aA[t]? = some (some rows.length)) :
 jv size bytes (.slice (.tok t) size rows) (.slice g size new) s=some (.slice (.tok t) size (rows++new),⟨s.al,s.aA.set t (some (rows.length+new.length))⟩):=by
 cases new with
 | nil=>
  have:s.aA.set t (some rows.length)=s.aA:=by
   apply List.ext_getElem?
   intro i
   rw[List.getElem?_set]
   split
   ·rename_i hi;subst hi;rw[h2,if_pos (List.getElem?_eq_some_iff.1 h2).1]
   ·rfl
  simp only[List.length_nil,Nat.add_zero]at h1
  simp[jv,h1,this]
 |cons x l=>
  simp only[jv,h1,h2]
  simp
theorem VC (size bytes z:Nat) (g:Tag) (r:List D) (s:St):jv size bytes (.slice .full z []) (.slice g size [r]) s =
 if bytes+1≤bD then some (.slice (.tok s.aA.length) size [r],⟨s.al,s.aA++ [some 1]⟩)else none:=by
 simp[jv]
theorem adD {P:Program} {B:gZ} {nt:Nat} (ac:AC) (Q:Exit→Tm→St→Prop) (tm:Tm) (s:St):Bs P B nt ac Q .normal tm s=Q .normal tm s:=nd rfl
theorem adE {P:Program} {B:gZ} {nt:Nat} (ac:AC) (Q:Exit→Tm→St→Prop) (tm:Tm) (s:St):Bs P B nt ac Q .ret tm s=Q .ret tm s:=nd rfl
theorem adF {P:Program} {B:gZ} {nt:Nat} (ac:AC) (Q:Exit→Tm→St→Prop) (tm:Tm) (s:St) (i:Nat):Bs P B nt ac Q (.exit i) tm s=Q (.exit i) tm s:=nd rfl
theorem adG (m:Nat):Tag.fg m .full = .full:=nd rfl
theorem VD (m:Nat):Tag.fg m .shared = .shared:=nd rfl
theorem aki {P:Program} (K:Tm→St→Prop) (tm:Tm) (s:St):lD P [] K tm s=K tm s:=nd rfl
theorem s_op {P:Program} (dst:Option Nat) (o:AO) (r:List AI) (K:Tm→St→Prop) (tm:Tm) (s:St) :
 lD P (.op dst none o::r) K tm s=(match aY o tm s with|some (d,s')=>lD P r K (tm.put dst d) s'|none=>False):=nd rfl
def KJ (P:Program) (r:List AI) (K:Tm→St→Prop) (tm:Tm) (dst:Option Nat) (d:D) (s:St):Prop:=lD P r K (tm.put dst d) s
theorem aoQ {P:Program} (r:List AI) (K:Tm→St→Prop) (tm:Tm) (dst:Option Nat) (d:D) (s:St):KJ P r K tm dst d s=lD P r K (tm.put dst d) s:=nd rfl
theorem s_call {P:Program} (dst:Option Nat) (f:Nat) (xs:List X) (r:List AI) (K:Tm→St→Prop) (tm:Tm) (s:St) :
 lD P (.call dst none f xs::r) K tm s=CL false P f (xs.map (·.ev tm)) s (KJ P r K tm dst):=nd rfl
def NJ (P:Program) (dst:Option Nat) (neg:Bool) (x:D) (r:List AI) (K:Tm→St→Prop) (tm:Tm) (s:St):Prop:=
 match x with
 | .slice _ _ rows=>∀ b:Bool,(rows≠ []→b=false)→lD P r K (tm.put dst (.bool (if neg then !b else b))) s
 |_=>False
theorem af5 {P:Program} (dst:Option Nat) (neg:Bool) (x:X) (r:List AI) (K:Tm→St→Prop) (tm:Tm) (s:St) :
 lD P (.nil dst none neg x::r) K tm s=NJ P dst neg (x.ev tm) r K tm s:=nd rfl
theorem adH {P:Program} (dst:Option Nat) (neg:Bool) (g:Tag) (z:Nat) (d:List D) (l:List (List D)) (r:List AI) (K:Tm→St→Prop) (tm:Tm) (s:St) :
 NJ P dst neg (.slice g z (d::l)) r K tm s=lD P r K (tm.put dst (.bool neg)) s:=by
 simp only[NJ,ne_eq,reduceCtorEq,not_false_eq_true,true_imp_iff,eq_iff_iff]
 refine⟨fun h=>by have:=h false rfl;cases neg<;>exact this,fun h b hb=>?_⟩
 subst hb;cases neg<;>exact h
theorem YF {P:Program} {dst:Option Nat} {neg:Bool} {g:Tag} {z:Nat} {l:List (List D)} {r:List AI} {K:Tm→St→Prop} {tm:Tm} {s:St}
 (h1:l = []→lD P r K (tm.put dst (.bool (!neg))) s) (h2:lD P r K (tm.put dst (.bool neg)) s):NJ P dst neg (.slice g z l) r K tm s:=by
 intro b hb
 cases b with
 |false=>cases neg<;>exact h2
 |true=>
  have:l = []:=Decidable.byContradiction fun h=>by cases hb h
  cases neg<;>exact h1 this
theorem akk {P:Program} (dst:Option Nat) (t:Nat) (w:Bool) (o:AO) (r:List AI) (K:Tm→St→Prop) (tm:Tm) (s:St) :
 lD P (.op dst (some (t,w)) o::r) K tm s = @GB (tm.get t) w ⟨(lD P (.op dst none o::r) K tm s),(lD P r K (tm.put dst (.tuple [])) s)⟩:=nd rfl
def CV (P:Program) (x:D) (akl:List D) (s:St) (K:D→St→Prop):Prop:=
 match x with
 | .ix f pB=>enters P f=true∧CL false P f (akl++pB) s K
 |_=>False
theorem adI {P:Program} (dst:Option Nat) (t:Nat) (xs:List X) (r:List AI) (K:Tm→St→Prop) (tm:Tm) (s:St) :
 lD P (.kx dst none t xs::r) K tm s=CV P (tm.get t) (xs.map (·.ev tm)) s (KJ P r K tm dst):=nd rfl
theorem CV.use {P:Program} {f:Nat} {pB akl:List D} {s s':St} {d:D} {K:D→St→Prop} (he:enters P f=true) (h:aH P f (akl++pB) s d s') (k:K d s'):CV P (.ix f pB) akl s K:=⟨he,CU h k⟩
theorem YG {P:Program} (dst:Option Nat) (t:Nat) (w:Bool) (u:Nat) (xs:List X) (r:List AI) (K:Tm→St→Prop) (tm:Tm) (s:St) :
 lD P (.kx dst (some (t,w)) u xs::r) K tm s = @GB (tm.get t) w ⟨(lD P (.kx dst none u xs::r) K tm s),(lD P r K (tm.put dst (.tuple [])) s)⟩:=nd rfl
theorem adJ {P:Program} (dst:Option Nat) (t:Nat) (w:Bool) (f:Nat) (xs:List X) (r:List AI) (K:Tm→St→Prop) (tm:Tm) (s:St) :
 lD P (.call dst (some (t,w)) f xs::r) K tm s = @GB (tm.get t) w ⟨(lD P (.call dst none f xs::r) K tm s),(lD P r K (tm.put dst (.tuple [])) s)⟩:=nd rfl
theorem af7 {P:Program} (dst:Option Nat) (t:Nat) (w:Bool) (neg:Bool) (x:X) (r:List AI) (K:Tm→St→Prop) (tm:Tm) (s:St) :
 lD P (.nil dst (some (t,w)) neg x::r) K tm s = @GB (tm.get t) w ⟨(lD P (.nil dst none neg x::r) K tm s),(lD P r K (tm.put dst (.tuple [])) s)⟩:=nd rfl
theorem aoR (b:Bool) (A C:Prop) : @GB (.bool b) true ⟨A,C⟩ = @CB (.bool b) ⟨A,C⟩:=nd rfl
theorem aoS (b:Bool) (A C:Prop) : @GB (.bool b) false ⟨A,C⟩ = @CB (.bool b) ⟨C,A⟩:=by
 cases b<;>simp[GB,CB,GJ,wU]
theorem aoT (l:List D) (w:Bool) (A C:Prop) : @GB (.tuple l) w ⟨A,C⟩=C:=nd rfl
theorem akm {P:Program} {K:Tm→St→Prop} (bT:List St) (tm:Tm) (s:St):iC P K [] bT tm s=K tm s:=nd rfl
def OJ (P:Program) (o:AO) (dst:Option Nat) (b:Nat) (r:List (AI×Nat)) (K:Tm→St→Prop) (bT:List St) (tm:Tm) (s:St):Bool→Prop
 |true=>match aY o tm s with|some (d,s')=>iC P K r (s::bT) (tm.put dst d) s'|none=>False
 |false=>match aY o tm s with|some (d,_)=>pX (.op dst none o) tm d (bT.take b)∧iC P K r bT (tm.put dst d) s|none=>False
theorem aoV {P:Program} {K:Tm→St→Prop} (dst:Option Nat) (o:AO) (b:Nat) (r:List (AI×Nat)) (bT:List St) (tm:Tm) (s:St) :
 iC P K ((.op dst none o,b)::r) bT tm s=OJ P o dst b r K bT tm s o.core:=by
 simp only[iC,oJ]
 cases o.core<;>rfl
theorem aoW {P:Program} (o:AO) (dst:Option Nat) (b:Nat) (r:List (AI×Nat)) (K:Tm→St→Prop) (bT:List St) (tm:Tm) (s:St) :
 OJ P o dst b r K bT tm s true=match aY o tm s with|some (d,s')=>iC P K r (s::bT) (tm.put dst d) s'|none=>False:=nd rfl
theorem aoX {P:Program} (o:AO) (dst:Option Nat) (b:Nat) (r:List (AI×Nat)) (K:Tm→St→Prop) (bT:List St) (tm:Tm) (s:St) :
 OJ P o dst b r K bT tm s false=match aY o tm s with|some (d,_)=>pX (.op dst none o) tm d (bT.take b)∧iC P K r bT (tm.put dst d) s|none=>False:=nd rfl
theorem akn {P:Program} {K:Tm→St→Prop} (dst:Option Nat) (t:Nat) (w:Bool) (o:AO) (b:Nat) (r:List (AI×Nat)) (bT:List St) (tm:Tm) (s:St) :
 iC P K ((.op dst (some (t,w)) o,b)::r) bT tm s = @GB (tm.get t) w ⟨(iC P K ((.op dst none o,b)::r) bT tm s),(iC P K r (if o.core then s::bT else bT) (tm.put dst (.tuple [])) s)⟩:=by
 simp only[GB,iC,oJ]
 cases o.core<;>rfl
def KG (P:Program) (K:Tm→St→Prop) (r:List (AI×Nat)) (bT:List St) (tm:Tm) (dst:Option Nat) (d:D) (s:St):Prop:=iC P K r bT (tm.put dst d) s
theorem aoY {P:Program} (K:Tm→St→Prop) (r:List (AI×Nat)) (bT:List St) (tm:Tm) (dst:Option Nat) (d:D) (s:St):KG P K r bT tm dst d s=iC P K r bT (tm.put dst d) s:=nd rfl
theorem g_call {P:Program} {K:Tm→St→Prop} (dst:Option Nat) (f:Nat) (xs:List X) (b:Nat) (r:List (AI×Nat)) (bT:List St) (tm:Tm) (s:St) :
 iC P K ((.call dst none f xs,b)::r) bT tm s=CL true P f (xs.map (·.ev tm)) s (KG P K r (s::bT) tm dst):=nd rfl
theorem adK {P:Program} {K:Tm→St→Prop} (dst:Option Nat) (t:Nat) (w:Bool) (f:Nat) (xs:List X) (b:Nat) (r:List (AI×Nat)) (bT:List St) (tm:Tm) (s:St) :
 iC P K ((.call dst (some (t,w)) f xs,b)::r) bT tm s = @GB (tm.get t) w ⟨(iC P K ((.call dst none f xs,b)::r) bT tm s),(iC P K r (s::bT) (tm.put dst (.tuple [])) s)⟩:=nd rfl
class Ok (p:Prop):Prop where
 out:p
instance:Ok True:=⟨trivial⟩
instance {p q:Prop} [Ok p] [Ok q] : Ok (p∧q):=⟨⟨Ok.out,Ok.out⟩⟩
instance {α:Type} (a:α):Ok (a=a):=⟨rfl⟩
instance (d:D):Ok (Wk d .junk):=⟨Wk.junk d⟩
instance {l l':List D} [Ok (kv l l')] : Ok (Wk (.tuple l) (.tuple l')):=⟨Wk.tuple Ok.out⟩
instance {l l':List D} [Ok (kv l l')] : Ok (Wk (.agg l) (.agg l')):=⟨Wk.agg Ok.out⟩
instance {g:Tag} {z:Nat} {l l':List (List D)} [Ok (ik l l')] : Ok (Wk (.slice g z l) (.slice g z l')):=⟨Wk.rows Ok.out⟩
instance {g:Tag} {z:Nat} {l l':List (List D)} [Ok (ik l l')] : Ok (Wk (.slice g z l) (.slice .shared z l')):=⟨Wk.slice Ok.out⟩
instance (z z':Nat):Ok (Wk (.slice .full z []) (.slice .full z' [])):=⟨Wk.aoH z z'⟩
instance (g:Tag) (z z':Nat):Ok (Wk (.slice g z []) (.slice .shared z' [])):=⟨Wk.nil g z z'⟩
instance (d:D):Ok (Wk d d):=⟨Wk.refl d⟩
instance:Ok (kv [] []):=⟨.nil⟩
instance {d d':D} {l l':List D} [Ok (Wk d d')] [Ok (kv l l')] : Ok (kv (d::l) (d'::l')):=⟨.cons Ok.out Ok.out⟩
instance (l:List D):Ok (kv l l):=⟨kv.refl l⟩
instance:Ok (ik [] []):=⟨.nil⟩
instance {d d':List D} {l l':List (List D)} [Ok (kv d d')] [Ok (ik l l')] : Ok (ik (d::l) (d'::l')):=⟨.cons Ok.out Ok.out⟩
instance {a a' b b':List (List D)} [Ok (ik a a')] [Ok (ik b b')] : Ok (ik (a++b) (a'++b')):=⟨ik.append Ok.out Ok.out⟩
instance (l:List (List D)):Ok (ik l l):=⟨ik.refl l⟩
theorem bs:(∀ b,(true ||b)=true)∧(∀ b,(false ||b)=b)∧(∀ b,(b ||true)=true)∧(∀ b,(b ||false)=b)∧(∀ b,(true && b)=b)∧(∀ b,(false && b)=false)∧(∀ b,(b && true)=b)∧(∀ b,(b && false)=false)∧
 (!true)=false∧(!false)=true∧(∀ b,(!!b)=b)∧((false=true)=False)∧(∀ (α β:Type) (a:α) (f:α→Option β),(some a).bind f=f a)∧
 (∀ (α β γ:Type) (x:Option α) (f:α→Option β) (g:β→Option γ),(x.bind f).bind g=x.bind fun y=>(f y).bind g):=
 ⟨Bool.true_or,Bool.false_or,Bool.or_true,Bool.or_false,Bool.true_and,Bool.false_and,Bool.and_true,Bool.and_false,rfl,rfl,Bool.not_not,by simp,fun _ _ _ _=>rfl,fun _ _ _ x f g=>Option.bind_assoc x f g⟩
attribute [go_sem] af2 aoN aoO aki s_op aoQ s_call af5 adH akk adJ af7 aoR aoS aoT akm aoV aoW aoX akn aoY g_call adK AO.core AI.kind AO.kind iT
attribute [go_sem] Sg Si Mz MA adI YG Sc Sd Se Sf MB MC MD ME Vp Vq Sj adi Yc
attribute [go_sem] Sb MF R7 R8 R9 MG MH MI Vr Vs adh Vb adb X9 ade Ya adf Yb Va adg Yd RI Ye
attribute [go_sem] Vg Vh Vi Vj Vk Vl Vm Vn Vo RK RL RM RN RO RP RQ RR RS RT RU RV RW RX RY RZ R0 R3 R4 R5 R6 Yo Yp Sk Sl Sn Sq Sr Ss Vt Vu Sv Sw Sx Yq Yr Sy Vv Vw MJ MK MM MN Ys Yt Sz SA SB SC SD SE SF SG SH OX OY SI SJ SK SL adt adu SM SN SO OZ O0 adv adw adx ady O1 O2 O3 O4 O5 O6 O7 O8 O9 Pa Pb Pe Pf Ph SP SQ SR SS adz adA Pj Pk adB adC Yu Yv Yw Yx Yy Yz YA YB YC Vx Vy Vz VA VB SU SV YD YE VC adG VD adD adE adF
attribute [go_sem] List.map_cons List.map_nil List.getElem?_cons_zero List.getElem?_cons_succ List.length_cons List.length_nil List.set_cons_zero List.set_cons_succ List.take_succ_cons List.take_zero List.take_nil List.drop_succ_cons List.drop_zero List.drop_nil List.cons_append List.nil_append List.append_nil Nat.zero_add Nat.add_zero Option.map_some Option.map_none
attribute [go_sem] Bool.not_false Bool.not_true List.length_map List.getElem?_map Int.toNat_natCast Int.natCast_nonneg Int.toNat_zero and_self and_true true_and
attribute [go_sem_proc ↓] reduceIte
attribute [go_sem_proc] Int.reduceLE reduceCtorEq Nat.reduceEqDiff Nat.reduceLeDiff Nat.reduceAdd Nat.reduceMul Nat.reduceSub Nat.reduceLT
theorem bq {b:Bool} {A C:Prop} (h1:b=true→A) (h:b=true:=by assumption) : @CB (.bool b) ⟨A,C⟩:=af3 h h1
theorem br {b:Bool} {A C:Prop} (h1:b=false→C) (h:b=false:=by assumption) : @CB (.bool b) ⟨A,C⟩:=af4 h h1
theorem bt {b:Bool} {A C:Prop} (h1:b=true→A) (h2:b=false→C) : @CB (.bool b) ⟨A,C⟩:=⟨h1,h2⟩
theorem jo {a b:Prop} (x:a) (y:b):a∧b:=⟨x,y⟩
theorem bO {α:Type _} (a b:α):(some a=some b)=(a=b):=Option.some.injEq a b
theorem bP {α:Sort _} {p:α→Prop} {a:α} : (∃ x,a=x∧p x)↔p a:=exists_eq_left'
theorem CC {n m:Nat} (h:Nat.ble n m=true):n≤m:=Nat.le_of_ble_eq_true h
theorem aJ {n m:Nat} {res:List (Nat×Option (Bool×Nat))} {d:D} {s':St} {e:Exit} {tm:Tm} {s:St} {Q:Exit→Tm→St→Prop} (hQ:rC n m res d s'=Q) (h : ∃ l,bh res tm s=some l∧Wk ((bk l).fg n m) d∧ik (s.cut n m).al s'.al∧(s.cut n m).aA=s'.aA) (he:e = .ret∨e = .normal:=by first|exact .inl rfl|exact .inr rfl):Q e tm s:=by cases he with|inl x=>cases x;exact akg hQ h|inr x=>cases x;exact akh hQ h
theorem cJ {p:Prop} (h:p:=by repeat' (first|exact Ok.out|with_reducible refine jo ?_ ?_|(simp;done))):p:=h
theorem cd {p:Prop} (h:p:=by repeat' (first|exact Ok.out|with_reducible refine jo ?_ ?_)):p:=h
theorem fU {p:Prop} (h:p:=by(try cases h);simp only[bh,bk,bO,bP,go_sem,hD,gA,gB,gC];repeat' (first|exact Ok.out|with_reducible refine jo ?_ ?_|(simp;done))):p:=h
theorem bA {p:Prop} (h:p:=by simp only[bh,bk,bO,bP,go_sem,hD,gA,gB,gC];repeat' (first|exact Ok.out|with_reducible refine jo ?_ ?_|(simp;done))):p:=h
theorem lX_ {p:Prop} (h:p:=by simp only[go_sem,hD,gA,gB,gC];repeat' (first|exact Ok.out|with_reducible refine jo ?_ ?_)):p:=h
theorem fI {P:Program} {B:gZ} {nt:Nat} {a:AC} {Q:Exit→Tm→St→Prop} {tm bK:Tm} {s:St} {fz:List (List D)} (n m:Nat) (h:bp P B nt a Q bK ⟨fz,(s.cut n m).aA⟩) (hn:B.s.al.length≤n:=by rw[hB];exact CC rfl) (hm:B.s.aA.length≤m:=by rw[hB];exact CC rfl) (ht:yJ tm n m bK:=by exact lX_) (ho:ik (s.cut n m).al fz:=by exact lX_):bp P B nt a Q tm s:=bp.re bK fz n m hn hm ht ho h
theorem fm {P:Program} {B:gZ} {nt:Nat} {a:AC} {Q:Exit→Tm→St→Prop} {tm bK:Tm} {s:St} {fz:List (List D)} (n m:Nat) (ht:yJ tm n m bK) (ho:ik (s.cut n m).al fz) (h:bp P B nt a Q bK ⟨fz,(s.cut n m).aA⟩) (hn:B.s.al.length≤n:=by rw[hB];exact CC rfl) (hm:B.s.aA.length≤m:=by rw[hB];exact CC rfl):bp P B nt a Q tm s:=bp.re bK fz n m hn hm ht ho h
theorem bX:0<1∧0<1∧0<1∧0<1:=⟨Nat.zero_lt_one,Nat.zero_lt_one,Nat.zero_lt_one,Nat.zero_lt_one⟩
end Go.Abs
namespace Go.Abs
mutual
theorem SW (n m:Nat) : ∀ d,D.ok 0 0 d=true→D.fg n m d=d
 | .junk,_=>by simp[D.fg]
 | .int k n,_=>by simp[D.fg]
 | .bool b,_=>by simp[D.fg]
 | .str l,_=>by simp[D.fg]
 | .eY,_=>by simp[D.fg]
 | .val v,_=>by simp[D.fg]
 | .fk z,_=>by simp[D.fg]
 | .gf T o,h=>by simp[D.ok]at h
 | .gT o,h=>by simp[D.ok]at h
 | .ix f cs,h=>by
  simp only[D.ok]at h
  simp only[D.fg,jh n m cs h]
 | .ptr o f,h=>by simp[D.ok]at h
 | .dS r f,h=>by
  simp only[D.ok]at h
  simp only[D.fg,jh n m r h]
 | .slice g z rows,h=>by
  simp only[D.ok,Bool.and_eq_true]at h
  simp only[D.fg,MO n m rows h.2]
  cases g with
  |tok t y=>simp[Tag.ok]at h
  |full=>rfl
  |shared=>rfl
 | .agg cs,h=>by
  simp only[D.ok]at h
  simp only[D.fg,jh n m cs h]
 | .tuple cs,h=>by
  simp only[D.ok]at h
  simp only[D.fg,jh n m cs h]
theorem jh (n m:Nat) : ∀ l,D.bM 0 0 l=true→D.iG n m l=l
 | [],_=>by simp[D.iG]
 |d::r,h=>by
  simp only[D.bM,Bool.and_eq_true]at h
  simp only[D.iG,SW n m d h.1,jh n m r h.2]
theorem MO (n m:Nat) : ∀ l,D.jd 0 0 l=true→D.lL n m l=l
 | [],_=>by simp[D.lL]
 |d::r,h=>by
  simp only[D.jd,Bool.and_eq_true]at h
  simp only[D.lL,jh n m d h.1,MO n m r h.2]
end
theorem je {α:Type} {f:α→List D} (h : ∀ x,D.bM 0 0 (f x)=true) (l:List α):D.jd 0 0 (l.map f)=true:=by
 simp[Hd,h]
theorem nF {α:Type} {f:α→List D} (h : ∀ x,D.bM 0 0 (f x)=true) (n m:Nat) (l:List α):D.lL n m (l.map f)=l.map f:=MO n m _ (je h l)
theorem PR (n m:Nat) : ∀ a b,D.lL n m (a++b)=D.lL n m a++D.lL n m b
 | [],b=>by simp[D.lL]
 |x::a,b=>by simp[D.lL,PR n m a b]
abbrev aK:=List UInt8
structure rl where
 kind:Int
 text:aK
 n:Int
 pos:Int
deriving DecidableEq
structure Ex where
 op:Int
 n:Int
 name:aK
 kids:List Ex
structure Ar where
 ref:Bool
 name:aK
 x:Ex
structure Sm where
 id:Int
 kind:Int
 labels:List aK
 name:aK
 proc:aK
 x:Ex
 has:Bool
 args:List Ar
 aQ:List Sm
 aN:List Sm
structure Pm where
 name:aK
 ref:Bool
structure Pc where
 name:aK
 params:List Pm
 vars:List aK
 body:List Sm
 fin:List aK
structure Pg where
 globals:List aK
 procs:List Pc
def rm:Ex:=⟨0,0,[],[]⟩
def ar0:Ar:=⟨false,[],rm⟩
def Ka:Sm:=⟨0,0,[],[],[],rm,false,[],[],[]⟩
def pg0:Pg:=⟨[],[]⟩
def encStr (s:aK):List D:= [.str s]
def k8 (t:rl):List D:= [.int .i64 t.kind, .str t.text, .int .i64 t.n, .int .i64 t.pos]
def sl (z:Nat) (rows:List (List D)):D:= .slice .shared z rows
mutual
def cb:Ex→List D
 |⟨op,n,name,kids⟩=> [.int .i64 op, .int .i64 n, .str name, .slice .shared 4 (xv kids)]
def xv:List Ex→List (List D)
 | []=> []
 |x::l=>cb x::xv l
end
theorem DF : ∀ l,xv l=l.map cb
 | []=>by simp[xv]
 |x::l=>by simp[xv,DF l]
theorem ji (x:Ex):cb x = [.int .i64 x.op, .int .i64 x.n, .str x.name, .slice .shared 4 (x.kids.map cb)]:=by
 cases x;simp[cb,DF]
def fi (a:Ar):List D:= [.bool a.ref, .str a.name, .int .i64 a.x.op, .int .i64 a.x.n, .str a.x.name, .slice .shared 4 (a.x.kids.map cb)]
mutual
def bd:Sm→List D
 |⟨id,kind,labels,name,proc,x,has,args,aQ,aN⟩=> [.int .i64 id, .int .i64 kind, .slice .shared 1 (labels.map encStr), .str name, .str proc,
  .int .i64 x.op, .int .i64 x.n, .str x.name, .slice .shared 4 (x.kids.map cb), .bool has, .slice .shared 6 (args.map fi), .slice .shared 13 (vL aQ), .slice .shared 13 (vL aN)]
def vL:List Sm→List (List D)
 | []=> []
 |x::l=>bd x::vL l
end
theorem Kb : ∀ l,vL l=l.map bd
 | []=>by simp[vL]
 |x::l=>by simp[vL,Kb l]
theorem dv (s:Sm):bd s = [.int .i64 s.id, .int .i64 s.kind, .slice .shared 1 (s.labels.map encStr), .str s.name, .str s.proc,
 .int .i64 s.x.op, .int .i64 s.x.n, .str s.x.name, .slice .shared 4 (s.x.kids.map cb), .bool s.has, .slice .shared 6 (s.args.map fi), .slice .shared 13 (s.aQ.map bd), .slice .shared 13 (s.aN.map bd)]:=by
 cases s;simp[bd,Kb]
def iW (p:Pm):List D:= [.str p.name, .bool p.ref]
def bS (p:Pc):List D:= [.str p.name, .slice .shared 2 (p.params.map iW), .slice .shared 1 (p.vars.map encStr), .slice .shared 13 (p.body.map bd), .slice .shared 1 (p.fin.map encStr)]
def bV (p:Pg):List D:= [.slice .shared 1 (p.globals.map encStr), .slice .shared 5 (p.procs.map bS)]
theorem af9 (x:rl):(k8 x).length=4:=nd rfl
theorem adL (x:rl):List.take 4 (k8 x)=k8 x:=nd rfl
theorem adM (x:rl):List.drop 4 (k8 x) = []:=nd rfl
theorem VE (x:rl):(k8 x)[0]? = some (.int .i64 x.kind):=nd rfl
theorem VF (x:rl):(k8 x)[1]? = some (.str x.text):=nd rfl
theorem VG (x:rl):(k8 x)[2]? = some (.int .i64 x.n):=nd rfl
theorem VH (x:rl):(k8 x)[3]? = some (.int .i64 x.pos):=nd rfl
theorem ako (Hk:Int) (abn:aK) (n_:Int) (agb:Int):k8 ⟨Hk,abn,n_,agb⟩ = [.int .i64 Hk, .str abn, .int .i64 n_, .int .i64 agb]:=by simp only[k8]
theorem abo (x:Ex):(cb x).length=4:=by simp only[ji];rfl
theorem agc (x:Ex):List.take 4 (cb x)=cb x:=by simp only[ji];rfl
theorem agd (x:Ex):List.drop 4 (cb x) = []:=by simp only[ji];rfl
theorem YH (x:Ex):(cb x)[0]? = some (.int .i64 x.op):=by simp only[ji];rfl
theorem YI (x:Ex):(cb x)[1]? = some (.int .i64 x.n):=by simp only[ji];rfl
theorem YJ (x:Ex):(cb x)[2]? = some (.str x.name):=by simp only[ji];rfl
theorem YK (x:Ex):(cb x)[3]? = some (.slice .shared 4 (x.kids.map cb)):=by simp only[ji];rfl
theorem aoZ (op_:Int) (n_:Int) (qq:aK) (abp:List Ex):cb ⟨op_,n_,qq,abp⟩ = [.int .i64 op_, .int .i64 n_, .str qq, .slice .shared 4 (abp.map cb)]:=by simp only[ji]
theorem akp (x:Ar):(fi x).length=6:=nd rfl
theorem age (x:Ar):List.take 6 (fi x)=fi x:=nd rfl
theorem agf (x:Ar):List.drop 6 (fi x) = []:=nd rfl
theorem YL (x:Ar):(fi x)[0]? = some (.bool x.ref):=nd rfl
theorem YM (x:Ar):(fi x)[1]? = some (.str x.name):=nd rfl
theorem YN (x:Ar):(fi x)[2]? = some (.int .i64 x.x.op):=nd rfl
theorem YO (x:Ar):(fi x)[3]? = some (.int .i64 x.x.n):=nd rfl
theorem YP (x:Ar):(fi x)[4]? = some (.str x.x.name):=nd rfl
theorem YQ (x:Ar):(fi x)[5]? = some (.slice .shared 4 (x.x.kids.map cb)):=nd rfl
theorem YR (x:Ar):List.take 4 (List.drop 2 (fi x))=cb x.x:=by simp only[fi,ji];rfl
theorem ao0 (MP:Bool) (qq:aK) (x_:Ex):fi ⟨MP,qq,x_⟩ = [.bool MP, .str qq, .int .i64 x_.op, .int .i64 x_.n, .str x_.name, .slice .shared 4 (x_.kids.map cb)]:=by simp only[fi]
theorem LD (x:Sm):(bd x).length=13:=by simp only[dv];rfl
theorem agh (x:Sm):List.take 13 (bd x)=bd x:=by simp only[dv];rfl
theorem agi (x:Sm):List.drop 13 (bd x) = []:=by simp only[dv];rfl
theorem YS (x:Sm):(bd x)[0]? = some (.int .i64 x.id):=by simp only[dv];rfl
theorem YT (x:Sm):(bd x)[1]? = some (.int .i64 x.kind):=by simp only[dv];rfl
theorem YU (x:Sm):(bd x)[2]? = some (.slice .shared 1 (x.labels.map encStr)):=by simp only[dv];rfl
theorem YV (x:Sm):(bd x)[3]? = some (.str x.name):=by simp only[dv];rfl
theorem YW (x:Sm):(bd x)[4]? = some (.str x.proc):=by simp only[dv];rfl
theorem YX (x:Sm):(bd x)[5]? = some (.int .i64 x.x.op):=by simp only[dv];rfl
theorem YY (x:Sm):(bd x)[6]? = some (.int .i64 x.x.n):=by simp only[dv];rfl
theorem YZ (x:Sm):(bd x)[7]? = some (.str x.x.name):=by simp only[dv];rfl
theorem Y0 (x:Sm):(bd x)[8]? = some (.slice .shared 4 (x.x.kids.map cb)):=by simp only[dv];rfl
theorem Y1 (x:Sm):(bd x)[9]? = some (.bool x.has):=by simp only[dv];rfl
theorem VI (x:Sm):(bd x)[10]? = some (.slice .shared 6 (x.args.map fi)):=by simp only[dv];rfl
theorem VJ (x:Sm):(bd x)[11]? = some (.slice .shared 13 (x.aQ.map bd)):=by simp only[dv];rfl
theorem VK (x:Sm):(bd x)[12]? = some (.slice .shared 13 (x.aN.map bd)):=by simp only[dv];rfl
theorem Y2 (x:Sm):List.take 4 (List.drop 5 (bd x))=cb x.x:=by simp only[dv,ji];rfl
theorem ao1 (id_:Int) (Hk:Int) (PS:List aK) (qq:aK) (abq:aK) (x_:Ex) (agj:Bool) (abr:List Ar) (agk:List Sm) (agl:List Sm):bd ⟨id_,Hk,PS,qq,abq,x_,agj,abr,agk,agl⟩ = [.int .i64 id_, .int .i64 Hk, .slice .shared 1 (PS.map encStr), .str qq, .str abq, .int .i64 x_.op, .int .i64 x_.n, .str x_.name, .slice .shared 4 (x_.kids.map cb), .bool agj, .slice .shared 6 (abr.map fi), .slice .shared 13 (agk.map bd), .slice .shared 13 (agl.map bd)]:=by simp only[dv]
theorem akq (x:Pm):(iW x).length=2:=nd rfl
theorem agm (x:Pm):List.take 2 (iW x)=iW x:=nd rfl
theorem agn (x:Pm):List.drop 2 (iW x) = []:=nd rfl
theorem Y3 (x:Pm):(iW x)[0]? = some (.str x.name):=nd rfl
theorem Y4 (x:Pm):(iW x)[1]? = some (.bool x.ref):=nd rfl
theorem ao2 (qq:aK) (MP:Bool):iW ⟨qq,MP⟩ = [.str qq, .bool MP]:=by simp only[iW]
theorem akr (x:Pc):(bS x).length=5:=nd rfl
theorem ago (x:Pc):List.take 5 (bS x)=bS x:=nd rfl
theorem agp (x:Pc):List.drop 5 (bS x) = []:=nd rfl
theorem Y5 (x:Pc):(bS x)[0]? = some (.str x.name):=nd rfl
theorem Y6 (x:Pc):(bS x)[1]? = some (.slice .shared 2 (x.params.map iW)):=nd rfl
theorem Y7 (x:Pc):(bS x)[2]? = some (.slice .shared 1 (x.vars.map encStr)):=nd rfl
theorem Y8 (x:Pc):(bS x)[3]? = some (.slice .shared 13 (x.body.map bd)):=nd rfl
theorem Y9 (x:Pc):(bS x)[4]? = some (.slice .shared 1 (x.fin.map encStr)):=nd rfl
theorem ao3 (qq:aK) (PT:List Pm) (abt:List aK) (abu:List Sm) (agq:List aK):bS ⟨qq,PT,abt,abu,agq⟩ = [.str qq, .slice .shared 2 (PT.map iW), .slice .shared 1 (abt.map encStr), .slice .shared 13 (abu.map bd), .slice .shared 1 (agq.map encStr)]:=by simp only[bS]
theorem aks (x:Pg):(bV x).length=2:=nd rfl
theorem agr (x:Pg):List.take 2 (bV x)=bV x:=nd rfl
theorem ags (x:Pg):List.drop 2 (bV x) = []:=nd rfl
theorem Za (x:Pg):(bV x)[0]? = some (.slice .shared 1 (x.globals.map encStr)):=nd rfl
theorem Zb (x:Pg):(bV x)[1]? = some (.slice .shared 5 (x.procs.map bS)):=nd rfl
theorem ao4 (MQ:List aK) (VL:List Pc):bV ⟨MQ,VL⟩ = [.slice .shared 1 (MQ.map encStr), .slice .shared 5 (VL.map bS)]:=by simp only[bV]
attribute [go_sem] af9 adL adM VE VF VG VH ako abo agc agd YH YI YJ YK aoZ akp age agf YL YM YN YO YP YQ YR ao0 LD agh agi YS YT YU YV YW YX YY YZ Y0 Y1 VI VJ VK Y2 ao1 akq agm agn Y3 Y4 ao2 akr ago agp Y5 Y6 Y7 Y8 Y9 ao3 aks agr ags Za Zb ao4
theorem Hl (s:aK):D.bM 0 0 (encStr s)=true:=rfl
theorem abv (t:rl):D.bM 0 0 (k8 t)=true:=rfl
mutual
theorem lE : ∀ x,D.bM 0 0 (cb x)=true
 |⟨op,n,name,kids⟩=>by simp[cb,D.bM,D.ok,Tag.ok,abw kids]
theorem abw : ∀ l,D.jd 0 0 (xv l)=true
 | []=>rfl
 |x::l=>by simp[xv,D.jd,lE x,abw l]
end
theorem SX (a:Ar):D.bM 0 0 (fi a)=true:=by simp[fi,D.bM,D.ok,Tag.ok,je lE]
mutual
theorem qh : ∀ x,D.bM 0 0 (bd x)=true
 |⟨id,kind,labels,name,proc,x,has,args,aQ,aN⟩=>by simp[bd,D.bM,D.ok,Tag.ok,SY aQ,SY aN,je Hl,je lE,je SX]
theorem SY : ∀ l,D.jd 0 0 (vL l)=true
 | []=>rfl
 |x::l=>by simp[vL,D.jd,qh x,SY l]
end
theorem SZ (p:Pm):D.bM 0 0 (iW p)=true:=rfl
theorem zJ (p:Pc):D.bM 0 0 (bS p)=true:=by simp[bS,D.bM,D.ok,Tag.ok,je SZ,je Hl,je qh]
theorem jj (p:Pg):D.bM 0 0 (bV p)=true:=by simp[bV,D.bM,D.ok,Tag.ok,je Hl,je zJ]
theorem agt (n m:Nat) (x:rl):D.iG n m (k8 x)=k8 x:=jh n m _ (abv x)
theorem akt (n m:Nat) (x:Ex):D.iG n m (cb x)=cb x:=jh n m _ (lE x)
theorem aku (n m:Nat) (x:Ar):D.iG n m (fi x)=fi x:=jh n m _ (SX x)
theorem akv (n m:Nat) (x:Sm):D.iG n m (bd x)=bd x:=jh n m _ (qh x)
theorem akw (n m:Nat) (x:Pm):D.iG n m (iW x)=iW x:=jh n m _ (SZ x)
theorem akx (n m:Nat) (x:Pc):D.iG n m (bS x)=bS x:=jh n m _ (zJ x)
theorem aky (n m:Nat) (x:Pg):D.iG n m (bV x)=bV x:=jh n m _ (jj x)
attribute [go_sem] agt akt aku akv akw akx aky
theorem fL (l:List aK):D.jd 0 0 (l.map encStr)=true:=je Hl l
theorem abx (l:List Ex):D.jd 0 0 (l.map cb)=true:=je lE l
theorem LF (l:List Ar):D.jd 0 0 (l.map fi)=true:=je SX l
theorem l8 (l:List Sm):D.jd 0 0 (l.map bd)=true:=je qh l
theorem akz (l:List Pm):D.jd 0 0 (l.map iW)=true:=je SZ l
theorem yK (l:List Pc):D.jd 0 0 (l.map bS)=true:=je zJ l
theorem MR (n m:Nat) (l:List aK):D.lL n m (l.map encStr)=l.map encStr:=nF Hl n m l
theorem agu (n m:Nat) (l:List rl):D.lL n m (l.map k8)=l.map k8:=nF abv n m l
theorem akA (n m:Nat) (l:List Ex):D.lL n m (l.map cb)=l.map cb:=nF lE n m l
theorem akB (n m:Nat) (l:List Ar):D.lL n m (l.map fi)=l.map fi:=nF SX n m l
theorem akC (n m:Nat) (l:List Sm):D.lL n m (l.map bd)=l.map bd:=nF qh n m l
theorem akD (n m:Nat) (l:List Pm):D.lL n m (l.map iW)=l.map iW:=nF SZ n m l
theorem aby (n m:Nat) (l:List Pc):D.lL n m (l.map bS)=l.map bS:=nF zJ n m l
theorem agv (x:Ex) (r:List D):cb x++r = .int .i64 x.op:: .int .i64 x.n:: .str x.name:: .slice .shared 4 (x.kids.map cb)::r:=by rw[ji];rfl
theorem adN (d:D) (x:Ex):d::cb x = [d, .int .i64 x.op, .int .i64 x.n, .str x.name, .slice .shared 4 (x.kids.map cb)]:=by rw[ji]
attribute [go_sem] agv adN
theorem akE:((0:Nat):Int)=0:=nd rfl
theorem akF:((1:Nat):Int)=1:=nd rfl
theorem akG:((2:Nat):Int)=2:=nd rfl
attribute [go_sem] akE akF akG PR List.length_append List.map_append encStr rm ar0 Ka pg0 MR agu akA akB akC akD aby
theorem mx (a b:Nat):(if(b:Int) > (a:Int)then(b:Int)else(a:Int))=((max a b:Nat):Int):=by split<;>omega
theorem eA {x:Int} (h1 : -9223372036854775808≤x) (h2:x<9223372036854775808):IntKind.wrap .i64 x=x:=by
 rw[IntKind.wrap_i64];omega
@[go_sem] theorem aM {n:Nat} (h:n<4611686018427387904):IntKind.wrap .i64 ((n:Int)+1)=((n+1:Nat):Int):=by
 rw[eA]<;>omega
def inc (n:Nat):Option Nat:=if n<4611686018427387904 then some (n+1)else none
def ao5 (n:Int):Option Int:=if -4611686018427387904<n∧n<4611686018427387904 then some (n+1)else none
@[go_sem] theorem anx {n:Nat} (h:n+1<4611686018427387904):IntKind.wrap .i64 ((n:Int)+1)=((n+1:Nat):Int):=by
 rw[eA]<;>omega
@[go_sem] theorem anz {n:Nat} (h:n<4611686018427387904):IntKind.wrap .i64 ((n:Int)+2)=((n+2:Nat):Int):=by
 rw[eA]<;>omega
def agw {α:Type} (l:List α) (i:Nat):Option α:=if i<4611686018427387904 then l[i]? else none
def push {α:Type} (k:Nat) (l:List α) (x:α):Option (List α):=if(l.length+1)*k≤bD then some (l++ [x])else none
end Go.Abs
namespace Go.Abs
def AH (os ts:List Nat) (tm:Tm):Tm→Prop
 | []=>True
 |(k,d)::r=>tm.get k=d.cT os ts∧d.ok os.length ts.length=true∧AH os ts tm r
theorem AH.get {os ts:List Nat} {tm:Tm} : ∀ {bK:Tm},AH os ts tm bK→∀ k,bK.get k = .junk∨(tm.get k=(bK.get k).cT os ts∧(bK.get k).ok os.length ts.length=true)
 | [],_,k=> .inl rfl
 |(q,d)::r,⟨h1,h2,h3⟩,k=>by
  simp only[Tm.get]
  split
  ·rename_i e;subst e;exact .inr ⟨h1,h2⟩
  ·exact h3.get k
section
variable {P:Program} {B:gZ} {nt:Nat}
theorem Holds.AJ {tm:Tm} {s:St} {act:Act} {w:World} (os:List Nat) (fz:List (List D)) (bK:Tm) (ur:os.Nodup) (jC : ∀ o∈os,o<s.al.length) (hn:B.s.al.length≤os.length)
 (hold : ∀ i,i<B.s.al.length→os[i]? = some i) (dB : ∀ (i o:Nat),os[i]? = some o→B.s.al.length≤i→B.s.al.length≤o) (ho:fz.length=os.length)
 (qE : ∀ (i o:Nat) (ds:List D),os[i]? = some o→fz[i]? = some ds→s.al[o]? = some (D.fa os (List.range s.aA.length) ds)∧D.bM os.length s.aA.length ds=true)
 (VM:AH os (List.range s.aA.length) tm bK) (h:Holds B nt tm s act w):Holds B nt bK ⟨fz,s.aA⟩ act w:=by
 obtain⟨M,e,r,hr,h1,h2⟩:=h
 have wF:(List.range s.aA.length).length=s.aA.length:=List.length_range
 have rg : ∀ (i t:Nat),(List.range s.aA.length)[i]? = some t→i=t:=fun i t h=>by
  rw[List.getElem?_eq_some_iff]at h
  obtain⟨h3,h4⟩:=h
  simpa using h4
 have r0:Rel (gF M os (List.range s.aA.length)) ⟨fz,s.aA⟩ w:=r.sub ur List.nodup_range jC ho (fun i o ds e1 e2=>by rw[wF];exact qE i o ds e1 e2) wF.symm (fun i t h=>by rw[rg i t h])
 have loc : ∀ (i:Nat) o,os[i]? = some o→(gF M os (List.range s.aA.length)).loc i=M.loc o:=fun i o h=>by simp only[gF,uG h]
 have be : ∀ t,t<s.aA.length→(gF M os (List.range s.aA.length)).be t=M.be t:=fun t h=>by
  have:(List.range s.aA.length)[t]? = some t:=List.getElem?_range h
  simp only[gF,uG this]
 refine⟨gF M os (List.range s.aA.length),⟨⟨e.le.G,by rw[ho];exact hn,fun o h=>?_,e.le.t,fun t n' h e'=>?_⟩,e.kept,fun o h3 h4=>?_,fun t b c z hl hb=>?_,e.sk,e.size,e.os,e.tape,e.output⟩,r0,fun k=>?_,h1,h2⟩
 ·rw[loc o o (hold o h)];exact e.le.loc o h
 ·obtain⟨n,g1,g2,g3⟩:=e.le.tk t n' h e'
  exact⟨n,g1,g2,fun eq=>by rw[be t (Nat.lt_of_lt_of_le h e.le.t)];exact g3 eq⟩
 ·simp only at h4
  rw[ho]at h4
  obtain⟨q,hq⟩ : ∃ q,os[o]? = some q:=⟨_,List.getElem?_eq_getElem h4⟩
  have oB:(gF M os (List.range s.aA.length)).mu o=M.mu q:=congrArg Prod.fst (loc o q hq)
  rw[oB]at h3 ⊢
  refine e.sj q ?_ (jC q (List.mem_of_getElem? hq))
  by_cases h5:B.s.al.length≤o
  ·exact .inl (dB o q hq h5)
  ·have:=hold o (by omega)
   rw[hq]at this
   cases this
   rcases h3 with h3|h3
   ·exact(h5 h3).elim
   ·exact .inr h3
 ·obtain⟨n,rj⟩:=hl
  have hD:=(List.getElem?_eq_some_iff.1 rj).1
  rw[be t hD]at hb
  exact e.ry t b c z ⟨n,rj⟩ hb
 ·rcases VM.get k with h3 | ⟨h3,h4⟩
  ·rw[h3];exact .junk _
  ·exact RD.Bt (M:=M) (M0:=gF M os (List.range s.aA.length)) (s:=s) (s0:=⟨fz,s.aA⟩) rfl loc ho (fun i t h=>by
    have:=rg i t h;subst this;exact be i (by have:=(List.getElem?_eq_some_iff.1 h).1;rwa [wF]at this)) (fun i t h=>by rw[rg i t h]) wF.symm (h3 ▸ hr k) _ rfl h4
theorem bp.AJ {a:AC} {Q:Exit→Tm→St→Prop} {tm:Tm} {s:St} (os:List Nat) (fz:List (List D)) (bK:Tm) (ur:os.Nodup) (jC : ∀ o∈os,o<s.al.length) (hn:B.s.al.length≤os.length)
 (hold : ∀ i,i<B.s.al.length→os[i]? = some i) (dB : ∀ (i o:Nat),os[i]? = some o→B.s.al.length≤i→B.s.al.length≤o) (ho:fz.length=os.length)
 (qE : ∀ (i o:Nat) (ds:List D),os[i]? = some o→fz[i]? = some ds→s.al[o]? = some (D.fa os (List.range s.aA.length) ds)∧D.bM os.length s.aA.length ds=true)
 (VM:AH os (List.range s.aA.length) tm bK) (h:bp P B nt a Q bK ⟨fz,s.aA⟩):bp P B nt a Q tm s:=
 fun c hc act w hh=>h c hc act w (hh.AJ os fz bK ur jC hn hold dB ho qE VM)
mutual
def D.gy (o g:Nat) (rows:List (List D)):D→D
 | .dK z o' g' len=>if o'=o∧g'=g∧len=rows.length then .slice .shared z rows else .dK z o' g' len
 | .dS row off=> .dS (D.kA o g rows row) off
 | .slice t z rs=> .slice t z (D.tn o g rows rs)
 | .agg cs=> .agg (D.kA o g rows cs)
 | .tuple ds=> .tuple (D.kA o g rows ds)
 | .ix f cs=> .ix f (D.kA o g rows cs)
 | .ptr o off=> .ptr o off
 | .junk=> .junk
 | .int k x=> .int k x
 | .bool b=> .bool b
 | .str l=> .str l
 | .eY=> .eY
 | .val v=> .val v
 | .gf T o=> .gf T o
 | .gT o=> .gT o
 | .gh o g off=> .gh o g off
 | .fk z=> .fk z
def D.kA (o g:Nat) (rows:List (List D)):List D→List D
 | []=> []
 |d::r=>D.gy o g rows d::D.kA o g rows r
def D.tn (o g:Nat) (rows:List (List D)):List (List D)→List (List D)
 | []=> []
 |d::r=>D.kA o g rows d::D.tn o g rows r
end
theorem nG (o g:Nat) (rows:List (List D)) : ∀ l,D.kA o g rows l=l.map (D.gy o g rows)
 | []=>by simp[D.kA]
 |d::r=>by simp[D.kA,nG o g rows r]
theorem PU (o g:Nat) (rows:List (List D)) : ∀ l,D.tn o g rows l=l.map (D.kA o g rows)
 | []=>by simp[D.tn]
 |d::r=>by simp[D.tn,PU o g rows r]
theorem RD.gy {M:Map} {s:St} {o g:Nat} {rows:List (List D)} {b cap z:Nat} {A:Nat→Option (Nat×Nat)} (hm:M.ob o = .arr z A) (ha:A g=some (b,cap))
 (hs : ∀ row∈rows,row.length=z) (h1 : ∀ (i:Nat) (row:List D) (j:Nat) (d:D),rows[i]? = some row→row[j]? = some d→∃ u,M.G b (0+(i*z+j))=some u)
 (h2 : ∀ (i:Nat) (row:List D) (j:Nat) (d:D) (u:Value),rows[i]? = some row→row[j]? = some d→M.G b (0+(i*z+j))=some u→RD M s d u)
 {d:D} {v:Value} (h:RD M s d v):RD M s (d.gy o g rows) v:=by
 induction h with
 | dK z' o' g' len b' sq A' ho xe yC hl=>
  simp only[D.gy]
  split
  ·rename_i hc
   obtain⟨rfl,rfl,rfl⟩:=hc
   rw[hm]at xe
   cases xe
   rw[ha]at yC
   cases yC
   exact .slice .shared z rows b 0 cap hl hs h1 h2 trivial
  ·exact .dK z' o' g' len b' sq A' ho xe yC hl
 |gh z' o' g' off b' sq A' ho xe yC=>simp only[D.gy];exact .gh z' o' g' off b' sq A' ho xe yC
 |fk z a=>simp only[D.gy];exact .fk z a
 |junk v=>simp only[D.gy];exact .junk v
 |int k x=>simp only[D.gy];exact .int k x
 |bool b=>simp only[D.gy];exact .bool b
 |str l=>simp only[D.gy];exact .str l
 |eY=>simp only[D.gy];exact .eY
 |val v hv=>simp only[D.gy];exact .val v hv
 |gf T o v h ht hv=>simp only[D.gy];exact .gf T o v h ht hv
 |gT o h hm=>simp only[D.gy];exact .gT o h hm
 |ptr o off h hm=>simp only[D.gy];exact .ptr o off h hm
 |ix f ds vs hl _ ih=>
  simp only[D.gy,nG]
  refine .ix f _ vs (by simpa using hl) (fun i d v e1 e2=>?_)
  simp only[List.getElem?_map,Option.map_eq_some_iff]at e1
  obtain⟨d',e1,rfl⟩:=e1
  exact ih i d' v e1 e2
 | dS row off b k h1 h2 ih=>
  simp only[D.gy,nG]
  refine .dS _ off b k (fun i d e=>?_) (fun i d u e eu=>?_)
  ·simp only [List.getElem?_map,Option.map_eq_some_iff]at e
   obtain⟨d',e,rfl⟩:=e
   exact h1 i d' e
  ·simp only [List.getElem?_map,Option.map_eq_some_iff]at e
   obtain⟨d',e,rfl⟩:=e
   exact ih i d' u e eu
 |jI t z cap hc ht=>simp only[D.gy,D.tn];exact .jI _ z cap hc ht
 |mS z a cap=>simp only[D.gy,D.tn];exact .mS z a cap
 | slice t z rs b k cap hl hs h1 h2 ht ih=>
  simp only[D.gy,PU]
  have hlen:(rs.map (D.kA o g rows)).length=rs.length:=by simp
  have key:=RD.slice (M:=M) (s:=s) t z (rs.map (D.kA o g rows)) b k cap (by rw[hlen];exact hl) (fun row hr=>by
   obtain⟨lA,h',rfl⟩:=List.mem_map.1 hr
   rw[nG,List.length_map];exact hs lA h')
   (fun i row j d e1 e2=>by
    simp only[List.getElem?_map,Option.map_eq_some_iff]at e1
    obtain⟨lA,e1,rfl⟩:=e1
    rw[nG]at e2
    simp only[List.getElem?_map,Option.map_eq_some_iff]at e2
    obtain⟨d',e2,rfl⟩:=e2
    exact h1 i lA j d' e1 e2)
   (fun i row j d u e1 e2 eu=>by
    simp only[List.getElem?_map,Option.map_eq_some_iff]at e1
    obtain⟨lA,e1,rfl⟩:=e1
    rw[nG]at e2
    simp only[List.getElem?_map,Option.map_eq_some_iff]at e2
    obtain⟨d',e2,rfl⟩:=e2
    exact ih i lA j d' u e1 e2 eu)
   (by rw[hlen];exact ht)
  rw[hlen]at key
  exact key
 |agg cells vs hl h1 _ ih=>
  simp only[D.gy,nG]
  refine .agg _ vs (by simpa using hl) h1 (fun i d v e1 e2=>?_)
  simp only[List.getElem?_map,Option.map_eq_some_iff]at e1
  obtain⟨d',e1,rfl⟩:=e1
  exact ih i d' v e1 e2
 |tuple ds vs hl _ ih=>
  simp only[D.gy,nG]
  refine .tuple _ vs (by simpa using hl) (fun i d v e1 e2=>?_)
  simp only[List.getElem?_map,Option.map_eq_some_iff]at e1
  obtain⟨d',e1,rfl⟩:=e1
  exact ih i d' v e1 e2
def CD (o g:Nat) (rows:List (List D)) (n m:Nat) (ds:List D):List D:=D.iG n m (D.kA o g rows ds)
def Hn (o g:Nat) (rows:List (List D)) (m:Nat) (tm:Tm):Tm→Prop
 | []=>True
 |(k,d)::r=>Wk (((tm.get k).gy o g rows).fg o m) d∧Hn o g rows m tm r
theorem Hn.get {o g m:Nat} {rows:List (List D)} {tm:Tm} : ∀ {bK:Tm},Hn o g rows m tm bK→∀ t,Wk (((tm.get t).gy o g rows).fg o m) (bK.get t)
 | [],_,t=>Wk.junk _
 |(k,d)::r,h,t=>by
  simp only[Tm.get]
  split
  ·rename_i hk;subst hk;exact h.1
  ·exact Hn.get h.2 t
theorem Holds.S1 {tm:Tm} {s:St} {act:Act} {w:World} (o g z:Nat) (rows:List (List D)) (bK:Tm) (fz:List (List D)) (hn:B.s.al.length≤o) (eK:s.al[o]? = some (.int .i64 (g:Int)::rows.flatten)) (hz : ∃ k l,tm.get k = .dK z o g l∨∃ (q:Nat) (ds:List D),s.al[q]? = some ds∧ds[k]? = some (.dK z o g l))
 (hs : ∀ row∈rows,row.length=z) (ht:Hn o g rows s.aA.length tm bK) (qE:ik ((s.al.take o).map (CD o g rows o s.aA.length)) fz)
 (h:Holds B nt tm s act w):Holds B nt bK ⟨fz,s.aA⟩ act w:=by
 obtain⟨M,e,r,hr,h1,h2⟩:=h
 have xw:o<s.al.length:=(List.getElem?_eq_some_iff.1 eK).1
 obtain⟨A,hm⟩ : ∃ A,M.ob o = .arr z A:=by
  obtain⟨k,l,hz|⟨q,ds,hq,hz⟩⟩:=hz
  ·have:=hr k
   rw[hz]at this
   obtain⟨_,_,A,_,_,hm,_⟩:=this.uC
   exact⟨A,hm⟩
  ·obtain⟨vs,T,_,dU,_,jJ⟩:=r.obj q ds hq
   have hD:=(List.getElem?_eq_some_iff.1 hz).1
   obtain⟨_,_,A,_,_,hm,_⟩:=(jJ k _ _ hz (Array.getElem?_eq_getElem (by omega))).uC
   exact⟨A,hm⟩
 have ha:l5 s o g=some rows.flatten:=by unfold l5;rw[eK];simp
 obtain⟨us,T,cap,hh,uk,Dm,dU,hle,iM,jJ⟩:=r.I6 hm ha
 obtain⟨gY,_⟩:=xo hs
 have VN : ∀ q,M.G (M.mu o) q=none:=r.kl o xw
 have vi:B.w.heap.size≤M.mu o:=e.sj o (.inl hn) xw
 let M':Map:= {M with G:=fun b q=>if b=M.mu o then us[q]? else M.G b q}
 have mT : ∀ b,b≠M.mu o→∀ q,M'.G b q=M.G b q:=fun b hb q=>if_neg hb
 have le:Le M s M' s:=⟨fun b q v hq=>by
  by_cases hb:b=M.mu o
  ·subst hb;rw[VN]at hq;cases hq
  ·rw[mT b hb];exact hq,Nat.le_refl _,fun _ _=> .refl _,Nat.le_refl _,fun t n' _ e=>⟨n',e,Nat.le_refl _,fun _=>rfl⟩⟩
 -- the rows are among the cells
 have iU : ∀ (i:Nat) (row:List D) (j:Nat) (d:D),rows[i]? = some row→row[j]? = some d→rows.flatten[i*z+j]? = some d:=by
  have gen : ∀ (rows:List (List D)),(∀ row∈rows,row.length=z)→∀ (i:Nat) (row:List D) (j:Nat) (d:D),rows[i]? = some row→row[j]? = some d→rows.flatten[i*z+j]? = some d:=by
   intro rows
   induction rows with
   |nil=>intro _ i row j d e1;simp at e1
   | cons a rows ih=>
    intro hs i row j d e1 e2
    have sO:=hs a (List.mem_cons_self ..)
    rw[List.flatten_cons]
    cases i with
    |zero=>
     simp at e1;subst e1
     rw[Nat.zero_mul,Nat.zero_add,List.getElem?_append_left (List.getElem?_eq_some_iff.1 e2).1];exact e2
    |succ i=>
     rw[List.getElem?_append_right (by rw[Nat.add_mul];omega),sO,show(i+1)*z+j - z=i*z+j by rw[Nat.add_mul];omega]
     exact ih (fun q hq=>hs q (List.mem_cons_of_mem _ hq)) i row j d (by simpa using e1) e2
  exact gen rows hs
 have g1 : ∀ (i:Nat) (row:List D) (j:Nat) (d:D),rows[i]? = some row→row[j]? = some d→∃ u,M'.G (M.mu o) (0+(i*z+j))=some u:=fun i row j d e1 e2=>by
  have hD:=(List.getElem?_eq_some_iff.1 (iU i row j d e1 e2)).1
  refine⟨us[i*z+j]'(by omega), ?_⟩
  show(if M.mu o=M.mu o then us[0+(i*z+j)]? else _)=_
  rw[if_pos rfl,Nat.zero_add]
  exact Array.getElem?_eq_getElem _
 have g2 : ∀ (i:Nat) (row:List D) (j:Nat) (d:D) (u:Value),rows[i]? = some row→row[j]? = some d→M'.G (M.mu o) (0+(i*z+j))=some u→RD M' s d u:=fun i row j d u e1 e2 eu=>by
  have CF:(if M.mu o=M.mu o then us[0+(i*z+j)]? else M.G (M.mu o) (0+(i*z+j)))=some u:=eu
  rw[if_pos rfl,Nat.zero_add]at CF
  exact(jJ _ d u (iU i row j d e1 e2) CF).mono le
 have conv : ∀ {d:D} {v:Value},RD M s d v→RD M' (s.cut o s.aA.length) ((d.gy o g rows).fg o s.aA.length) v:=fun hd=>((hd.mono le).gy (M:=M') hm uk hs g1 g2).fg o s.aA.length
 have rc:=r.cut o s.aA.length
 have ec:=e.cut hn e.le.t
 have hD : ∀ q,q<(s.cut o s.aA.length).al.length→q<s.al.length∧q≠o:=fun q h=>by rw[lP]at h;omega
 have PV:(s.cut o s.aA.length).aA=s.aA:=by simp[St.cut]
 have hlen:fz.length=min o s.al.length:=by rw[← qE.len];simp
 have VO:Le M (s.cut o s.aA.length) M' (s.cut o s.aA.length):=⟨le.G,Nat.le_refl _,fun _ _=> .refl _,Nat.le_refl _,fun t n' _ e=>⟨n',e,Nat.le_refl _,fun _=>rfl⟩⟩
 have les:Le M' (s.cut o s.aA.length) M' ⟨fz,s.aA⟩:=⟨fun _ _ _ h=>h,by rw[lP];simp only;omega,fun _ _=> .refl _,by simp[St.cut],fun t n' _ e=>⟨n',by rw[PV];exact e,Nat.le_refl _,fun _=>rfl⟩⟩
 refine⟨M',⟨(ec.le.trans VO).trans les,ec.kept,fun q h3 h4=>?_,fun t b c z hl hb=>?_,fun b q fu=>?_,ec.size,ec.os,ec.tape,ec.output⟩,⟨fun b q v hq=>?_,fun q ds hq=>?_,fun q hq sn=>?_,fun q q' hq lk=>?_,fun t n' Cx=>?_,fun t b c z q hl hb hq=>?_,fun t t' b c z c' z' hl mU=>?_⟩,fun k=>?_,h1,h2⟩
 ·exact ec.sj q h3 (by rw[lP];simp only[hlen]at h4;exact h4)
 ·exact ec.ry t b c z (by obtain⟨n,hn⟩:=hl;exact⟨n,by rw[PV];exact hn⟩) hb
 ·by_cases hb:b=M.mu o
  ·subst hb;exact .inl vi
  ·rw[mT b hb]at fu;exact ec.sk b q fu
 ·have lk:(if b=M.mu o then us[q]? else M.G b q)=some v:=hq
  by_cases hb:b=M.mu o
  ·rw [if_pos hb]at lk
   rw[hb,jA hh]
   exact⟨lk,iM v (Array.mem_of_getElem? lk)⟩
  ·rw [if_neg hb]at lk
   exact r.comm b q v lk
 ·have Fq:=(List.getElem?_eq_some_iff.1 hq).1
  have vD:q<o:=by simp only[hlen]at Fq;omega
  have hqs:q<s.al.length:=by omega
  obtain⟨Mr,agy⟩ : ∃ Mr,s.al[q]? = some Mr:=⟨_,List.getElem?_eq_getElem hqs⟩
  obtain⟨vs,T',h3,h4,h5,h6⟩:=r.obj q Mr agy
  obtain⟨r1,vM,hw⟩:=qE.get hq
  have ao6:r1=CD o g rows o s.aA.length Mr:=by
   rw[List.getElem?_map,List.getElem?_take_of_lt vD,agy]at vM
   simpa using vM.symm
  subst ao6
  refine⟨vs,T',h3,by rw[← hw.len];simp[CD,mZ,nG,h4],h5,fun i d v e1 e2=>?_⟩
  obtain⟨d1,DG,hwd⟩:=hw.get e1
  simp only[CD,mZ,nG,List.getElem?_map,Option.map_eq_some_iff]at DG
  obtain⟨d2,⟨d3,hd3,rfl⟩,rfl⟩:=DG
  exact(hwd _ _ _ (conv (h6 i d3 v hd3 e2))).mono les
 ·have Fq:q<o:=by simp only [hlen]at hq;omega
  show M'.G (M.mu q) sn=none
  rw[mT _ (fun e=>by have:=r.inj q o (by omega) xw e;omega)]
  exact r.kl q (by omega) sn
 ·simp only [hlen]at hq lk
  exact r.inj q q' (by omega) (by omega)
 ·rcases r.tok t n' Cx with h3 | ⟨b,cap,z,gv,T',h3,h4,h5,h6,h7⟩
  ·exact .inl h3
  ·refine .inr ⟨b,cap,z,gv,T',h3,h4,h5,h6,fun sn Bw=> ?_,h7.2⟩
   rw[mT _ (fun e=>r.fO t b cap z o ⟨n',Cx⟩ h3 xw e.symm)]
   exact h7.1 sn Bw
 ·simp only [hlen]at hq
  exact r.fO t b c z q hl hb (by omega)
 ·exact r.gR t t' b c z c' z' hl mU
 ·exact(ht.get k _ _ _ (conv (hr k))).mono les
theorem bp.S1 {a:AC} {Q:Exit→Tm→St→Prop} {tm:Tm} {s:St} (o g z:Nat) (rows:List (List D)) (bK:Tm) (fz:List (List D)) (hn:B.s.al.length≤o) (eK:s.al[o]? = some (.int .i64 (g:Int)::rows.flatten)) (hz : ∃ k l,tm.get k = .dK z o g l∨∃ (q:Nat) (ds:List D),s.al[q]? = some ds∧ds[k]? = some (.dK z o g l))
 (hs : ∀ row∈rows,row.length=z) (ht:Hn o g rows s.aA.length tm bK) (qE:ik ((s.al.take o).map (CD o g rows o s.aA.length)) fz)
 (h:bp P B nt a Q bK ⟨fz,s.aA⟩):bp P B nt a Q tm s:=fun c hc act w hh=>h c hc act w (hh.S1 o g z rows bK fz hn eK hz hs ht qE)
end
end Go.Abs
namespace Go.Abs
mutual
def D.flat:D→Bool
 | .int _ _=>true
 | .bool _=>true
 | .str _=>true
 | .tuple ds=>D.Ho ds
 |_=>false
def D.Ho:List D→Bool
 | []=>true
 |d::r=>d.flat && D.Ho r
end
theorem Kc : ∀ {l:List D},D.Ho l=true→∀ {i:Nat} {d:D},l[i]? = some d→d.flat=true
 | [],_,i,d,e=>by simp at e
 |a::l,h,i,d,e=>by
  simp only[D.Ho,Bool.and_eq_true]at h
  cases i with
  |zero=>simp at e;subst e;exact h.1
  |succ i=>exact Kc h.2 (by simpa using e)
theorem RD.flat {M M':Map} {s s':St} {d:D} {v:Value} (h:RD M s d v):d.flat=true→RD M' s' d v:=by
 induction h with
 |int k n=>exact fun _=> .int k n
 |bool b=>exact fun _=> .bool b
 |str l=>exact fun _=> .str l
 |tuple ds vs hl _ ih=>exact fun hf=> .tuple ds vs hl fun i d v e1 e2=>ih i d v e1 e2 (Kc (by simpa only[D.flat]using hf) e1)
 |_=>intro hf;simp only[D.flat,Bool.false_eq_true]at hf
theorem PW {n m:Nat} : ∀ {l:List D},D.bM n m l=true→∀ {i:Nat} {d:D},l[i]? = some d→d.ok n m=true
 | [],_,i,d,e=>by simp at e
 |a::l,h,i,d,e=>by
  simp only[D.bM,Bool.and_eq_true]at h
  cases i with
  |zero=>simp at e;subst e;exact h.1
  |succ i=>exact PW h.2 (by simpa using e)
theorem Rel.Ft {M:Map} {s:St} {w w':World} (r:Rel M s w) (Ft : ∀ k,k<w.heap.size→w'.heap[k]? = w.heap[k]?) (hs:w.heap.size≤w'.heap.size) (h1:w'.os=w.os) (h2:w'.tape=w.tape) (h3:w'.output=w.output) :
 Rel M s w'∧Ext M s w M s w':=by
 refine⟨⟨fun p o v e=>?_,fun o ds e=>?_,r.kl,r.inj,fun t n e=>?_,r.fO,r.gR⟩,⟨Le.refl M s,fun k hk _ _=>Ft k hk,fun o h h'=>by rcases h with h|h;omega;exact(h rfl).elim,fun t b c z h e=> .inl ⟨h,c,z,e⟩,fun _ _ h=>(h rfl).elim,hs,h1,h2,h3⟩⟩
 ·obtain⟨h1,h2⟩:=r.comm p o v e
  refine⟨?_,h2⟩
  rw[← h1]
  simp only[World.cell?,Ft _ (r.Dh e)]
 ·obtain⟨vs,T,h1,h2⟩:=r.obj o ds e
  exact⟨vs,T,h1.keep (Ft _ h1.lt),h2⟩
 ·rcases r.tok t n e with h | ⟨p,cap,z,vs,T,h1,h2,h3⟩
  ·exact .inl h
  ·exact .inr ⟨p,cap,z,vs,T,h1,by rw[Ft _ (ln h2)];exact h2,h3⟩
theorem aH.ao7 {P:Program} {f:FuncId} {args:List D} {d:D} {s:St} {o g z:Nat} {rows:List (List D)} {k:Nat} (hk:args[k]? = some (.dK z o g rows.length)) {more:List D}
 (eK:s.al[o]? = some (.int .i64 (g:Int)::(rows.flatten++more))) (hs : ∀ row∈rows,row.length=z) (h:aH P f (D.kA o g rows args) S0 d S0) (ha:D.bM 0 0 (D.kA o g rows args)=true)
 (hd:d.flat=true):aH P f args s d s:=by
 intro M w gx r hl dU Bu
 have hD:=(List.getElem?_eq_some_iff.1 hk).1
 obtain⟨b0,ao8,A,_,_,hm,_⟩:=(Bu k _ _ hk (Array.getElem?_eq_getElem (by omega))).uC
 have jg:l5 s o g=some (rows.flatten++more):=by unfold l5;rw[eK];simp
 obtain⟨us,T,cap,hh,uk,Dm,aBT,hle,iM,jJ⟩:=r.I6 hm jg
 have xw:o<s.al.length:=(List.getElem?_eq_some_iff.1 eK).1
 have VN : ∀ q,M.G (M.mu o) q=none:=r.kl o xw
 let M':Map:= {M with G:=fun b q=>if b=M.mu o then us[q]? else M.G b q}
 have mT : ∀ b,b≠M.mu o→∀ q,M'.G b q=M.G b q:=fun b hb q=>if_neg hb
 have le:Le M s M' s:=⟨fun b q v hq=>by
  by_cases hb:b=M.mu o
  ·subst hb;rw[VN]at hq;cases hq
  ·rw[mT b hb];exact hq,Nat.le_refl _,fun _ _=> .refl _,Nat.le_refl _,fun t n' _ e=>⟨n',e,Nat.le_refl _,fun _=>rfl⟩⟩
 have iU : ∀ (i:Nat) (row:List D) (j:Nat) (d:D),rows[i]? = some row→row[j]? = some d→(rows.flatten++more)[i*z+j]? = some d:=by
  have gen : ∀ (rows:List (List D)),(∀ row∈rows,row.length=z)→∀ (i:Nat) (row:List D) (j:Nat) (d:D),rows[i]? = some row→row[j]? = some d→rows.flatten[i*z+j]? = some d:=by
   intro rows
   induction rows with
   |nil=>intro _ i row j d e1;simp at e1
   | cons a rows ih=>
    intro hs i row j d e1 e2
    have sO:=hs a (List.mem_cons_self ..)
    rw[List.flatten_cons]
    cases i with
    |zero=>
     simp at e1;subst e1
     rw[Nat.zero_mul,Nat.zero_add,List.getElem?_append_left (List.getElem?_eq_some_iff.1 e2).1];exact e2
    |succ i=>
     rw[List.getElem?_append_right (by rw[Nat.add_mul];omega),sO,show(i+1)*z+j - z=i*z+j by rw[Nat.add_mul];omega]
     exact ih (fun q hq=>hs q (List.mem_cons_of_mem _ hq)) i row j d (by simpa using e1) e2
  intro i row j d e1 e2
  have:=gen rows hs i row j d e1 e2
  rw[List.getElem?_append_left (List.getElem?_eq_some_iff.1 this).1];exact this
 have g1 : ∀ (i:Nat) (row:List D) (j:Nat) (d:D),rows[i]? = some row→row[j]? = some d→∃ u,M'.G (M.mu o) (0+(i*z+j))=some u:=fun i row j d e1 e2=>by
  have hD:=(List.getElem?_eq_some_iff.1 (iU i row j d e1 e2)).1
  refine⟨us[i*z+j]'(by omega), ?_⟩
  show(if M.mu o=M.mu o then us[0+(i*z+j)]? else _)=_
  rw[if_pos rfl,Nat.zero_add]
  exact Array.getElem?_eq_getElem _
 have g2 : ∀ (i:Nat) (row:List D) (j:Nat) (d:D) (u:Value),rows[i]? = some row→row[j]? = some d→M'.G (M.mu o) (0+(i*z+j))=some u→RD M' s d u:=fun i row j d u e1 e2 eu=>by
  have CF:(if M.mu o=M.mu o then us[0+(i*z+j)]? else M.G (M.mu o) (0+(i*z+j)))=some u:=eu
  rw[if_pos rfl,Nat.zero_add]at CF
  exact(jJ _ d u (iU i row j d e1 e2) CF).mono le
 have r0:Rel M' S0 w:=⟨fun b q v hq=>by
  have lk:(if b=M.mu o then us[q]? else M.G b q)=some v:=hq
  by_cases hb:b=M.mu o
  ·rw [if_pos hb]at lk
   rw[hb,jA hh]
   exact⟨lk,iM v (Array.mem_of_getElem? lk)⟩
  ·rw [if_neg hb]at lk
   exact r.comm b q v lk,fun o ds e=>by simp[S0]at e,fun o h=>by simp[S0]at h,fun o _ h=>by simp[S0]at h,fun t n e=>by simp[S0]at e,
  fun t b c z o hl _ ho=>by simp[S0]at ho,fun t t' b c z c' z' hl=>by obtain⟨n,hn⟩:=hl;simp[S0]at hn⟩
 have l0:Laid M' S0 w:=fun q cs hq=>⟨(hl q cs hq).1,fun o ho=>by simp[S0]at ho,fun t c z ht=>by obtain⟨n,hn⟩:=ht;simp[S0]at hn⟩
 have a0 : ∀ (i:Nat) (d:D) (v:Value),(D.kA o g rows args)[i]? = some d→gx[i]? = some v→RD M' S0 d v:=fun i d0 v e1 e2=>by
  have nS:=PW ha e1
  rw[nG,List.getElem?_map,Option.map_eq_some_iff]at e1
  obtain⟨d1,e1,rfl⟩:=e1
  have vM:=((Bu i d1 v e1 e2).mono le).gy (M:=M') hm uk hs g1 g2
  exact RD.Bt (M:=M') (M0:=M') (s:=s) (s0:=S0) (os:= []) (ts:= []) rfl (by simp) rfl (by simp) (by simp) rfl vM _ (sv _ _ _ nS) nS
 refine(h M' w gx r0 l0 (by rw[dU,nG,List.length_map]) a0).mono fun e w' ⟨M2,d2,v,s2,h1,⟨h2,h3⟩,hx,_,h4⟩=>?_
 subst h2 h3
 have Ft : ∀ k,k<w.heap.size→w'.heap[k]? = w.heap[k]? :=fun k hk=>hx.kept k hk (fun o ho=>by simp[S0]at ho) (fun t c z ht=>by obtain⟨n,hn⟩:=ht;simp[S0]at hn)
 obtain⟨r',e'⟩:=r.Ft Ft hx.size hx.os hx.tape hx.output
 exact⟨M,d2,v,s,h1,⟨rfl,rfl⟩,e',r',h4.flat hd⟩
section
variable {P:Program} {B:gZ} {nt:Nat}
theorem bW.wK {f:FuncId} {res:List (Nat×Option (Bool×Nat))} {body:AC} {args:List D} {s:St} {R:D→St→Prop} (h0:Has P f nt res body) (hl:Nat.ble args.length nt=true)
 (h : ∀ (B:gZ) (Q:Exit→Tm→St→Prop),B.s=s→X4 res R=Q→jX P B nt body Q (ou 0 args) s):bW P f args s R:=by
 obtain⟨fn,hf,hc⟩:=h0
 refine bW.LC (bW.UY (Q:=R) hf hc (Nat.le_of_ble_eq_true hl) fun B hB=>jD (h B _ hB rfl)) fun d s1 h=>⟨d,s1,Wk.refl _,ik.refl _,rfl,h⟩
theorem iX {res:List (Nat×Option (Bool×Nat))} {R:D→St→Prop} {tm:Tm} {s:St} {e:Exit} {Q:Exit→Tm→St→Prop} (hQ:X4 res R=Q) (h : ∃ l,bh res tm s=some l∧R (bk l) s) (he:e = .ret∨e = .normal:=by first|exact .inl rfl|exact .inr rfl):Q e tm s:=by
 subst hQ
 rcases he with rfl|rfl<;>exact h
def upD (R:D→St→Prop) (d:D) (s:St):Prop:=∃ d' s',Wk d d'∧ik s.al s'.al∧s.aA=s'.aA∧R d' s'
theorem bW.up {f:FuncId} {args:List D} {s:St} {R:D→St→Prop} (h:bW P f args s (upD R)):bW P f args s R:=
 bW.LC h fun d s1 ⟨d',s',h1,h2,h3,h4⟩=>⟨d',s',h1,h2,h3,h4⟩
def xy (tm:Tm):Tm→Prop
 | []=>True
 |(k,d)::r=>Wk (tm.get k) d∧xy tm r
theorem xy.get {tm:Tm} : ∀ {bK:Tm},xy tm bK→∀ t,Wk (tm.get t) (bK.get t)
 | [],_,t=>Wk.junk _
 |(k,d)::r,h,t=>by
  simp only[Tm.get]
  split
  ·rename_i hk;subst hk;exact h.1
  ·exact xy.get h.2 t
theorem agA (tm:Tm):xy tm [] = True:=nd rfl
theorem agB (tm:Tm) (k:Nat) (d:D) (r:Tm):xy tm ((k,d)::r)=(Wk (tm.get k) d∧xy tm r):=nd rfl
attribute [go_sem] agA agB
theorem Holds.rn {tm bK:Tm} {s:St} {act:Act} {w:World} (ht:xy tm bK) (h:Holds B nt tm s act w):Holds B nt bK s act w:=by
 obtain⟨M,e,r,hr,h1,h2⟩:=h
 exact⟨M,e,r,fun k=>ht.get k _ _ _ (hr k),h1,h2⟩
theorem bp.rn {a:AC} {Q:Exit→Tm→St→Prop} {tm bK:Tm} {s:St} (ht:xy tm bK) (h:bp P B nt a Q bK s):bp P B nt a Q tm s:=fun c hc act w hh=>h c hc act w (hh.rn ht)
theorem mY.rn {a r:AC} {Q:Exit→Tm→St→Prop} {tm bK:Tm} {s:St} (ht:xy tm bK) (h:mY P B nt a r Q bK s):mY P B nt a r Q tm s:=fun c rest hc hr act w hh=>h c rest hc hr act w (hh.rn ht)
theorem Sem.rn {a:AC} {Q:Exit→Tm→St→Prop} {tm bK:Tm} {s:St} (ht:xy tm bK) (h:Sem P B nt a Q bK s):Sem P B nt a Q tm s:=fun c hc act w hh=>h c hc act w (hh.rn ht)
end
theorem ib {s:St} {o:Nat} {r:List D} (h:s.al[o]? = some r):o<s.al.length:=(List.getElem?_eq_some_iff.1 h).1
theorem PX {s:St} {a b:Nat} {r r':List D} (h:s.al[a]? = some r) (h':s.al[b]? = some r') (hn:r≠r'):a≠b:=fun e=>by subst e;rw[h]at h';cases h';exact hn rfl
end Go.Abs
namespace Go.Abs
theorem aH.C8 {P:Program} {f:Nat} {args:List D} {s0 s:St} {o off n m:Nat} {row:List D} (h:aH P f args s0 (.ptr o off) s) (ho:s.al[o]? = some row) (hn:s0.al.length≤n) (CG:n≤o) (hm:s0.aA.length≤m) :
 aH P f args s0 (.dS (D.iG n m row) off) (s.cut n m):=by
 intro M0 w0 gx r0 kW Zc ha
 refine(h M0 w0 gx r0 kW Zc ha).mono ?_
 rintro en w ⟨M,d,v0,s',rfl,⟨rfl,rfl⟩,e,r,hv⟩
 have Ao:=hv.Di
 have qD:v0 = .pointer (some ⟨M.mu o,off,none⟩):=hv.uB.1
 have xw:o<s'.al.length:=(List.getElem?_eq_some_iff.1 ho).1
 obtain⟨vs,T,hh,dU,⟨iM,_⟩,jJ⟩:=r.obj o row ho
 replace hh:w.heap[M.mu o]? = some (.cells vs T (0,0)):=hh.cells Ao
 let M':Map:= {M with G:=fun b q=>if b=M.mu o then vs[q]? else M.G b q}
 have VN : ∀ q,M.G (M.mu o) q=none:=r.kl o xw
 have le:Le M s' M' s':=⟨fun b q v hq=>by
  show(if b=M.mu o then vs[q]? else M.G b q)=some v
  by_cases hb:b=M.mu o
  ·subst hb;rw[VN]at hq;cases hq
  ·rw[if_neg hb];exact hq,Nat.le_refl _,fun _ _=> .refl _,Nat.le_refl _,fun t n' _ e=>⟨n',e,Nat.le_refl _,fun _=>rfl⟩⟩
 have hD : ∀ q,q<(s'.cut n m).al.length→q<s'.al.length∧q≠o:=fun q h=>by rw[lP]at h;omega
 have vi:w0.heap.size≤M.mu o:=e.sj o (.inl (by omega)) xw
 have ec:=e.cut hn hm
 have VO:Le M (s'.cut n m) M' (s'.cut n m):=⟨le.G,Nat.le_refl _,fun _ _=> .refl _,Nat.le_refl _,fun t n' _ e=>⟨n',e,Nat.le_refl _,fun _=>rfl⟩⟩
 have rc:=r.cut n m
 have mT : ∀ b,b≠M.mu o→∀ q,M'.G b q=M.G b q:=fun b hb q=>if_neg hb
 refine⟨M',_,v0,_,rfl,⟨rfl,rfl⟩,⟨ec.le.trans VO,ec.kept,ec.sj,ec.ry,fun b q fu=>?_,ec.size,ec.os,ec.tape,ec.output⟩,⟨fun b q v hq=>?_,fun q ds hq=>?_,fun q hq sn=>?_,rc.inj,fun t n' Cx=>?_,rc.fO,rc.gR⟩, ?_⟩
 ·by_cases hb:b=M.mu o
  ·subst hb;exact .inl vi
  ·rw[mT b hb]at fu;exact ec.sk b q fu
 ·have lk:(if b=M.mu o then vs[q]? else M.G b q)=some v:=hq
  by_cases hb:b=M.mu o
  ·rw [if_pos hb]at lk
   rw[hb,jA hh]
   exact⟨lk,iM v (Array.mem_of_getElem? lk)⟩
  ·rw [if_neg hb]at lk
   exact r.comm b q v lk
 ·obtain⟨gv,T',h3,h4,h5,h6⟩:=rc.obj q ds hq
  exact⟨gv,T',h3,h4,h5,fun i d v e1 e2=>(h6 i d v e1 e2).mono VO⟩
 ·obtain⟨h3,h4⟩:=hD q hq
  show M'.G (M.mu q) sn=none
  rw[mT _ (fun e=>h4 (r.inj q o h3 xw e))]
  exact r.kl q h3 sn
 ·rcases rc.tok t n' Cx with h3 | ⟨b,cap,z,gv,T',h3,h4,h5,h6,h7⟩
  ·exact .inl h3
  ·refine .inr ⟨b,cap,z,gv,T',h3,h4,h5,h6,fun sn Bw=> ?_,h7.2⟩
   rw[mT _ (fun e=>r.fO t b cap z o (xq ⟨n',Cx⟩) h3 xw e.symm)]
   exact h7.1 sn Bw
 ·rw [qD]
  have:=RD.dS (M:=M') (s:=s'.cut n m) (D.iG n m row) off (M.mu o) 0 (fun i d e1=>?_) (fun i d u e1 eu=>?_)
  ·simpa using this
  ·rw [mZ,List.getElem?_map,Option.map_eq_some_iff]at e1
   obtain⟨d0,e1,rfl⟩:=e1
   have hi:=(List.getElem?_eq_some_iff.1 e1).1
   refine⟨vs[i]'(by omega), ?_⟩
   show(if M.mu o=M.mu o then vs[0+i]? else _)=_
   rw[if_pos rfl,Nat.zero_add]
   exact Array.getElem?_eq_getElem _
  ·rw [mZ,List.getElem?_map,Option.map_eq_some_iff]at e1
   obtain⟨d0,e1,rfl⟩:=e1
   have CF:(if M.mu o=M.mu o then vs[0+i]? else M.G (M.mu o) (0+i))=some u:=eu
   rw[if_pos rfl,Nat.zero_add]at CF
   exact((jJ i d0 u e1 CF).fg n m).mono VO
theorem aH.goK {P:Program} {f:FuncId} {res:List (Nat×Option (Bool×Nat))} {body:AC} {args:List D} {s:St} {d:D} {s':St} {nt:Nat} (n m:Nat) (hn:s.al.length≤n) (hm:s.aA.length≤m) (h0:Has P f nt res body) (hl:Nat.ble args.length nt=true)
 (h : ∀ (B:gZ) (Q:Exit→Tm→St→Prop),B.s=s→rC n m res d s'=Q→jX P B nt body Q (ou 0 args) s):aH P f args s d s':=by
 obtain⟨fn,hf,hc⟩:=h0
 refine bW.LC (bW.intro (Q:=fun d1 s1=>Wk d1 d∧ik s1.al s'.al∧s1.aA=s'.aA) hf hc (Nat.le_of_ble_eq_true hl) fun B hB=>(jD (h B _ hB rfl)).mono fun e tm s1 hr=>?_) fun d1 s1 ⟨h1,h2,h3⟩=>⟨d,s',h1,h2,h3,rfl,rfl⟩
 subst hB
 cases e with
 |normal=>obtain⟨l,h1,h2,h3,h4⟩:=hr;exact⟨l,h1,_,_,hn,hm,h2,h3,h4⟩
 |ret=>obtain⟨l,h1,h2,h3,h4⟩:=hr;exact⟨l,h1,_,_,hn,hm,h2,h3,h4⟩
 |exit id=>exact hr.elim
 |goto l=>exact hr.elim
 |panic ch=>exact hr.elim
 |outgrown=>exact hr.elim
section
variable (s:St) (o g off len k z size bytes:Nat) (kk:IntKind)
theorem akH:l5 s o g=match s.al[o]? with|some (.int .i64 n::cells)=>if n=(g:Int)then some cells else none|_=>none:=nd rfl
theorem agC (agg:Bool):Bi (.gh o g off) agg size s=match l5 s o g with|some cells=>(match part cells off agg size with|some d=>some (d,s)|none=>none)|none=>none:=nd rfl
theorem adO (r:List D):Df (.gh o g off) (some r) size s=match l5 s o g with
 |some cells=>if r.length=size∧off+size≤cells.length then some (.tuple [],⟨s.al.set o (.int .i64 g::gS cells off r),s.aA⟩)else none
 |none=>none:=nd rfl
theorem akI:QP (.gh o g off)=some (.gh o g off):=nd rfl
theorem adP:GX (.gh o g k) off=some (.gh o g (k+off)):=nd rfl
theorem adQ:Am (.dK z o g len) (.int kk (k:Int)) size=if k<len then(if z=size then some (.gh o g (k*z))else none)else none:=by
 simp only[Am]
 by_cases h1:k<len<;>by_cases h2:z=size<;>simp[h1,h2]
theorem akJ:IY (.dK z o g len)=some (.int .i64 len):=nd rfl
theorem agD:IY (.fk z)=some (.int .i64 0):=nd rfl
theorem adR {s:St} {o g len z bytes:Nat} {t:Tag} {cells r:List D} (hs:s.al[o]? = some (.int .i64 (g:Int)::cells)) (hl:cells.length=len*z) (hm:(len+1)*(bytes+1)≤bD) :
 zC z bytes (.dK z o g len) (.slice t z [r]) s=some (.dK z o (g+1) (len+1),⟨s.al.set o (.int .i64 ((g+1:Nat):Int)::(cells++r)),s.aA⟩):=by
 have ha:l5 s o g=some cells:=by unfold l5;rw[hs];simp
 simp only[zC,ha,List.length_singleton,hm,hl,or_true,and_self,if_true,Nat.le_refl,List.flatten_cons,List.flatten_nil,List.append_nil]
 rw[List.take_of_length_le (by omega)]
theorem F3 {z bytes:Nat} (t:Tag) (r:List D) (s:St) (hm:bytes+1≤bD):zC z bytes (.fk z) (.slice t z [r]) s=some (.dK z s.al.length 0 1,⟨s.al++ [.int .i64 ((0:Nat):Int)::r],s.aA⟩):=by
 simp[zC,hm]
theorem akK (n m:Nat):D.fg n m (.dK z o g len)=if o<n then .dK z o g len else .junk:=nd (by simp only[D.fg])
theorem akL (n m:Nat):D.fg n m (.gh o g off)=if o<n then .gh o g off else .junk:=nd (by simp only[D.fg])
theorem akM (n m:Nat):D.fg n m (.fk z) = .fk z:=nd (by simp only[D.fg])
theorem agE:(D.dK z o g len).row=some [.dK z o g len]:=nd rfl
theorem agF:(D.gh o g off).row=some [.gh o g off]:=nd rfl
theorem agG:(D.fk z).row=some [.fk z]:=nd rfl
end
attribute [go_sem] akH agC adO akI adP adQ akJ agD akK akL akM agE agF agG
theorem Wk.fk (z z':Nat):Wk (.slice .full z []) (.fk z'):=fun M s v h=>by
 cases h with
 |jI _ _ cap hc ht=>subst hc;exact .fk z' none
 |slice _ _ _ b k cap hl hs h1 h2 ht=>
  have:cap=0:=ht
  subst this
  exact .fk z' _
instance (z z':Nat):Ok (Wk (.slice .full z []) (.fk z')):=⟨Wk.fk z z'⟩
instance {a a' b b':List D} [Ok (kv a a')] [Ok (kv b b')] : Ok (kv (a++b) (a'++b')):=⟨kv.append Ok.out Ok.out⟩
theorem akN (n m:Nat) (a b:List D):D.iG n m (a++b)=D.iG n m a++D.iG n m b:=nd (by simp only[mZ,List.map_append])
attribute [go_sem] akN
theorem xA {α:Type} (f:α→List D) (n:Nat) (h : ∀ a,(f a).length=n) : ∀ l:List α,((l.map f).flatten).length=l.length*n
 | []=>by simp
 |a::l=>by simp[h a,xA f n h l,Nat.add_mul,Nat.add_comm]
theorem Hp {α:Type} (f:α→List D) (n:Nat) (h : ∀ a,(f a).length=n) (a b:List α) (x y:α) (k:Nat) (r:List D) (hy:f y=gS (f x) k r) (hk:k+r.length≤n) :
 gS (((a++x::b).map f).flatten) (a.length*n+k) r=((a++y::b).map f).flatten:=by
 have sO:=xA f n h a
 have hx:=h x
 unfold gS
 simp only[List.map_append,List.map_cons,List.flatten_append,List.flatten_cons,hy]
 unfold gS
 have e1:((a.map f).flatten++(f x++(b.map f).flatten)).take (a.length*n+k)=(a.map f).flatten++(f x).take k:=by
  rw[List.take_append,sO,List.take_of_length_le (by omega),show a.length*n+k - a.length*n=k by omega,List.take_append_of_le_length (by omega)]
 have e2:((a.map f).flatten++(f x++(b.map f).flatten)).drop (a.length*n+k+r.length)=(f x).drop (k+r.length)++(b.map f).flatten:=by
  rw[List.drop_append,sO,List.drop_eq_nil_of_le (by omega),show a.length*n+k+r.length - a.length*n=k+r.length by omega,List.drop_append_of_le_length (by omega)]
  simp
 rw[e1,e2]
 simp only[List.append_assoc]
def xB (os:List Nat) (m:Nat) (al:List (List D)):List Nat→List (List D)→Prop
 | [],[]=>True
 |o::l,ds::r=>al[o]? = some (D.fa os (List.range m) ds)∧D.bM os.length m ds=true∧xB os m al l r
 |_,_=>False
theorem xB.get {os:List Nat} {m:Nat} {al:List (List D)} : ∀ {l:List Nat} {r:List (List D)},xB os m al l r→r.length=l.length∧∀ (i o:Nat) (ds:List D),l[i]? = some o→r[i]? = some ds→al[o]? = some (D.fa os (List.range m) ds)∧D.bM os.length m ds=true
 | [],[],_=>⟨rfl,fun i o ds h=>by simp at h⟩
 |o::l,ds::r,⟨h1,h2,h3⟩=>by
  obtain⟨g1,g2⟩:=h3.get
  refine⟨by simp[g1],fun i o' pj e1 e2=>?_⟩
  cases i with
  |zero=>simp at e1 e2;subst e1 e2;exact⟨h1,h2⟩
  |succ i=>exact g2 i o' pj (by simpa using e1) (by simpa using e2)
 | [],_::_,h=>h.elim
 |_::_,[],h=>h.elim
section
variable {P:Program} {B:gZ} {nt:Nat} {a:AC} {Q:Exit→Tm→St→Prop} {tm:Tm} {s:St}
theorem bp.S2 (hB:B.s = ⟨[],[]⟩) (os:List Nat) (fz:List (List D)) (bK:Tm) (ur:os.Nodup) (jC : ∀ o∈os,o<s.al.length) (qE:xB os s.aA.length s.al os fz) (VM:AH os (List.range s.aA.length) tm bK)
 (h:bp P B nt a Q bK ⟨fz,s.aA⟩):bp P B nt a Q tm s:=
 bp.AJ os fz bK ur jC (by rw[hB];exact Nat.zero_le _) (fun i h=>by rw[hB]at h;exact absurd h (Nat.not_lt_zero _)) (fun i o _ _=>by rw[hB];exact Nat.zero_le _) qE.get.1 qE.get.2 VM h
end
section
variable (os ts:List Nat) (n m:Nat)
theorem akO (o off:Nat):D.cT os ts (.ptr o off)=match os[o]? with|some o'=> .ptr o' off|none=> .junk:=nd (by simp only[D.cT]<;>rfl)
theorem akP (z o g len:Nat):D.cT os ts (.dK z o g len)=match os[o]? with|some o'=> .dK z o' g len|none=> .junk:=nd (by simp only[D.cT]<;>rfl)
theorem adS (g:Tag) (z:Nat) (rows:List (List D)):D.cT os ts (.slice g z rows) = .slice (g.cT ts) z (D.pF os ts rows):=nd (by simp only[D.cT])
theorem akQ (l:List D):D.cT os ts (.agg l) = .agg (D.fa os ts l):=nd (by simp only[D.cT])
theorem agH:D.cT os ts .junk = .junk:=nd (by simp only[D.cT])
theorem akR (k:IntKind) (x:Int):D.cT os ts (.int k x) = .int k x:=nd (by simp only[D.cT])
theorem agI (b:Bool):D.cT os ts (.bool b) = .bool b:=nd (by simp only[D.cT])
theorem akS (l:List UInt8):D.cT os ts (.str l) = .str l:=nd (by simp only[D.cT])
theorem agJ:D.cT os ts .eY = .eY:=nd (by simp only[D.cT])
theorem agK (z:Nat):D.cT os ts (.fk z) = .fk z:=nd (by simp only[D.cT])
theorem adT:D.fa os ts [] = []:=nd (by simp only[D.fa])
theorem adU (d:D) (l:List D):D.fa os ts (d::l)=D.cT os ts d::D.fa os ts l:=nd (by simp only[D.fa])
theorem Zd:Tag.cT ts .shared = .shared:=nd rfl
theorem agL:Tag.cT ts .full = .full:=nd rfl
theorem adV (o off:Nat):D.ok n m (.ptr o off)=decide (o<n):=nd (by simp only[D.ok])
theorem adW (z o g len:Nat):D.ok n m (.dK z o g len)=decide (o<n):=nd (by simp only[D.ok])
theorem VP (g:Tag) (z:Nat) (rows:List (List D)):D.ok n m (.slice g z rows)=(g.ok m && D.jd n m rows):=nd (by simp only[D.ok])
theorem adX (l:List D):D.ok n m (.agg l)=D.bM n m l:=nd (by simp only[D.ok])
theorem Ze:D.ok n m .junk=true:=nd (by simp only[D.ok])
theorem adY (k:IntKind) (x:Int):D.ok n m (.int k x)=true:=nd (by simp only[D.ok])
theorem Zf (b:Bool):D.ok n m (.bool b)=true:=nd (by simp only[D.ok])
theorem adZ (l:List UInt8):D.ok n m (.str l)=true:=nd (by simp only[D.ok])
theorem Zg:D.ok n m .eY=true:=nd (by simp only[D.ok])
theorem Zh (z:Nat):D.ok n m (.fk z)=true:=nd (by simp only[D.ok])
theorem agM:D.bM n m [] = true:=nd (by simp only[D.bM])
theorem agN (d:D) (l:List D):D.bM n m (d::l)=(D.ok n m d && D.bM n m l):=nd (by simp only[D.bM])
theorem S3:Tag.ok m .shared=true:=nd rfl
theorem Zi:Tag.ok m .full=true:=nd rfl
theorem ad0 (os:List Nat) (m:Nat) (al:List (List D)):xB os m al [] [] = True:=nd rfl
theorem ad1 (os:List Nat) (m:Nat) (al:List (List D)) (o:Nat) (l:List Nat) (ds:List D) (r:List (List D)):xB os m al (o::l) (ds::r)=(al[o]? = some (D.fa os (List.range m) ds)∧D.bM os.length m ds=true∧xB os m al l r):=nd rfl
theorem agO (tm:Tm):AH os ts tm [] = True:=nd rfl
theorem agP (tm:Tm) (k:Nat) (d:D) (r:Tm):AH os ts tm ((k,d)::r)=(tm.get k=d.cT os ts∧d.ok os.length ts.length=true∧AH os ts tm r):=nd rfl
theorem MS (rows:List (List D)) (h:D.jd 0 0 rows=true):D.pF os ts rows=rows:=ke os ts rows h
theorem Hq (row:List D) (h:D.bM 0 0 row=true):D.fa os ts row=row:=fY os ts row h
theorem S4 (rows:List (List D)) (h:D.jd 0 0 rows=true):D.jd n m rows=true:=n8 (Nat.zero_le n) (Nat.zero_le m) rows h
theorem LG (row:List D) (h:D.bM 0 0 row=true):D.bM n m row=true:=jw (Nat.zero_le n) (Nat.zero_le m) row h
theorem AL (p:Pg):D.fa os ts (bV p)=bV p:=Hq _ _ _ (jj p)
theorem PY (p:Sm):D.fa os ts (bd p)=bd p:=Hq _ _ _ (qh p)
theorem Bz (l:List Pc):D.pF os ts (l.map bS)=l.map bS:=MS _ _ _ (yK l)
theorem Zj (l:List Sm):D.pF os ts (l.map bd)=l.map bd:=MS _ _ _ (l8 l)
theorem px (l:List aK):D.pF os ts (l.map encStr)=l.map encStr:=MS _ _ _ (fL l)
theorem EH (p:Pc):D.fa os ts (bS p)=bS p:=Hq _ _ _ (zJ p)
theorem Hr (p:Pc):D.bM n m (bS p)=true:=LG _ _ _ (zJ p)
theorem DH (p:Pg):D.bM n m (bV p)=true:=LG _ _ _ (jj p)
theorem VQ (p:Sm):D.bM n m (bd p)=true:=LG _ _ _ (qh p)
theorem EI (l:List Pc):D.jd n m (l.map bS)=true:=S4 _ _ _ (yK l)
theorem ad2 (l:List Sm):D.jd n m (l.map bd)=true:=S4 _ _ _ (l8 l)
theorem uH (l:List aK):D.jd n m (l.map encStr)=true:=S4 _ _ _ (fL l)
theorem Hs : ∀ l:List Pc,D.bM 0 0 ((l.map bS).flatten)=true:=fun l=>by
 have h:=yK l
 rw[Hd,List.all_eq_true]at h
 rw[AA,List.all_eq_true]
 intro d hd
 obtain⟨r,hr,hd⟩:=List.mem_flatten.1 hd
 have:=h r hr
 rw[AA,List.all_eq_true]at this
 exact this d hd
theorem uI (l:List Pc):D.fa os ts ((l.map bS).flatten)=(l.map bS).flatten:=Hq _ _ _ (Hs l)
theorem xa (l:List Pc):D.bM n m ((l.map bS).flatten)=true:=LG _ _ _ (Hs l)
theorem ad3 (l:List Pc):D.iG n m ((l.map bS).flatten)=(l.map bS).flatten:=jh _ _ _ (Hs l)
end
attribute [go_sem] EH Hr akO akP adS akQ agH akR agI akS agJ agK adT adU Zd agL adV adW VP adX Ze adY Zf adZ Zg Zh agM agN S3 Zi ad0 ad1 agO agP AL PY Bz Zj px DH VQ EI ad2 uH uI xa ad3
mutual
theorem MT (o g:Nat) (rows:List (List D)) : ∀ d,D.ok 0 0 d=true→D.gy o g rows d=d
 | .junk,_=>by simp[D.gy]
 | .int k n,_=>by simp[D.gy]
 | .bool b,_=>by simp[D.gy]
 | .str l,_=>by simp[D.gy]
 | .eY,_=>by simp[D.gy]
 | .val v,_=>by simp[D.gy]
 | .fk z,_=>by simp[D.gy]
 | .gf T o,h=>by simp[D.ok]at h
 | .gT o,h=>by simp[D.ok]at h
 | .dK z o g len,h=>by simp[D.ok]at h
 | .gh o g off,h=>by simp[D.ok]at h
 | .ptr o f,h=>by simp[D.ok]at h
 | .ix f cs,h=>by
  simp only[D.ok]at h
  simp only[D.gy,uJ o g rows cs h]
 | .dS r f,h=>by
  simp only[D.ok]at h
  simp only[D.gy,uJ o g rows r h]
 | .slice t z rs,h=>by
  simp only[D.ok,Bool.and_eq_true]at h
  simp only[D.gy,AN o g rows rs h.2]
 | .agg cs,h=>by
  simp only[D.ok]at h
  simp only[D.gy,uJ o g rows cs h]
 | .tuple cs,h=>by
  simp only[D.ok]at h
  simp only[D.gy,uJ o g rows cs h]
theorem uJ (o g:Nat) (rows:List (List D)) : ∀ l,D.bM 0 0 l=true→D.kA o g rows l=l
 | [],_=>by simp[D.kA]
 |d::r,h=>by
  simp only[D.bM,Bool.and_eq_true]at h
  simp only[D.kA,MT o g rows d h.1,uJ o g rows r h.2]
theorem AN (o g:Nat) (rows:List (List D)) : ∀ l,D.jd 0 0 l=true→D.tn o g rows l=l
 | [],_=>by simp[D.tn]
 |d::r,h=>by
  simp only[D.jd,Bool.and_eq_true]at h
  simp only[D.tn,uJ o g rows d h.1,AN o g rows r h.2]
end
section
variable (o g:Nat) (rows:List (List D)) (n m:Nat)
theorem akT (q off:Nat):D.gy o g rows (.ptr q off) = .ptr q off:=nd (by simp only[D.gy])
theorem agQ (q h off:Nat):D.gy o g rows (.gh q h off) = .gh q h off:=nd (by simp only[D.gy])
theorem akU (z o' g' len:Nat):D.gy o g rows (.dK z o' g' len)=if o'=o∧g'=g∧len=rows.length then .slice .shared z rows else .dK z o' g' len:=nd (by simp only[D.gy])
theorem ad4 (t:Tag) (z:Nat) (rs:List (List D)):D.gy o g rows (.slice t z rs) = .slice t z (D.tn o g rows rs):=nd (by simp only[D.gy])
theorem akV (l:List D):D.gy o g rows (.agg l) = .agg (D.kA o g rows l):=nd (by simp only[D.gy])
theorem agR:D.gy o g rows .junk = .junk:=nd (by simp only[D.gy])
theorem akW (k:IntKind) (x:Int):D.gy o g rows (.int k x) = .int k x:=nd (by simp only[D.gy])
theorem agS (b:Bool):D.gy o g rows (.bool b) = .bool b:=nd (by simp only[D.gy])
theorem akX (l:List UInt8):D.gy o g rows (.str l) = .str l:=nd (by simp only[D.gy])
theorem ad5:D.kA o g rows [] = []:=nd (by simp only[D.kA])
theorem ad6 (d:D) (l:List D):D.kA o g rows (d::l)=D.gy o g rows d::D.kA o g rows l:=nd (by simp only[D.kA])
theorem ao9 (p:Pg):D.kA o g rows (bV p)=bV p:=uJ _ _ _ _ (jj p)
theorem akY (l:List Pc):D.tn o g rows (l.map bS)=l.map bS:=AN _ _ _ _ (yK l)
theorem akZ (l:List Sm):D.tn o g rows (l.map bd)=l.map bd:=AN _ _ _ _ (l8 l)
theorem agT (l:List aK):D.tn o g rows (l.map encStr)=l.map encStr:=AN _ _ _ _ (fL l)
theorem ak0 (ds:List D):CD o g rows n m ds=D.iG n m (D.kA o g rows ds):=nd rfl
theorem agU (tm:Tm):Hn o g rows m tm [] = True:=nd rfl
theorem agV (tm:Tm) (k:Nat) (d:D) (r:Tm):Hn o g rows m tm ((k,d)::r)=(Wk (((tm.get k).gy o g rows).fg o m) d∧Hn o g rows m tm r):=nd rfl
end
attribute [go_sem] akT agQ akU ad4 akV agR akW agS akX ad5 ad6 ao9 akY akZ agT ak0 agU agV
theorem aH.AJ {P:Program} {f:FuncId} {args:List D} {d d':D} {al fz:List (List D)} (os:List Nat) (h:aH P f args S0 d ⟨al,[]⟩) (ur:os.Nodup) (jC : ∀ o∈os,o<al.length) (ho:fz.length=os.length)
 (qE : ∀ (i o:Nat) (ds:List D),os[i]? = some o→fz[i]? = some ds→al[o]? = some (D.fa os [] ds)∧D.bM os.length 0 ds=true) (hd:d'.cT os [] = d) (nS:d'.ok os.length 0=true):aH P f args S0 d' ⟨fz,[]⟩:=by
 intro M0 w0 gx r0 kW Zc ha
 refine(h M0 w0 gx r0 kW Zc ha).mono ?_
 rintro en w ⟨M,d1,v,s',rfl,⟨rfl,rfl⟩,e,r,hv⟩
 have r1:Rel (gF M os []) ⟨fz,[]⟩ w:=r.sub ur List.nodup_nil jC ho qE rfl (fun i t h=>by simp at h)
 have loc : ∀ (i:Nat) o,os[i]? = some o→(gF M os []).loc i=M.loc o:=fun i o h=>by simp only[gF,uG h]
 refine⟨gF M os [],d',v,_,rfl,⟨rfl,rfl⟩,⟨⟨e.le.G,Nat.zero_le _,fun o h=>absurd h (Nat.not_lt_zero _),Nat.zero_le _,fun t n' h=>absurd h (Nat.not_lt_zero _)⟩,fun b hb _ _=>e.kept b hb (fun o h=>absurd h (Nat.not_lt_zero _)) (fun t c z ⟨n,hn⟩=>by simp[S0]at hn),fun o h3 h4=>?_,
  fun t b c z ⟨n,hn⟩=>by simp at hn,e.sk,e.size,e.os,e.tape,e.output⟩,r1, ?_⟩
 ·simp only at h4
  rw[ho]at h4
  obtain⟨q,hq⟩ : ∃ q,os[o]? = some q:=⟨_,List.getElem?_eq_getElem h4⟩
  rw[show(gF M os []).mu o=M.mu q from congrArg Prod.fst (loc o q hq)]
  exact e.sj q (.inl (Nat.zero_le _)) (jC q (List.mem_of_getElem? hq))
 ·exact RD.Bt (M:=M) (M0:=gF M os []) (s:=⟨al,[]⟩) (s0:=⟨fz,[]⟩) rfl loc ho (fun i t h=>by simp at h) (fun i t h=>by simp at h) rfl hv _ hd nS
theorem aH.abA {P:Program} {f:FuncId} {args row:List D} {d:D} (h:aH P f args S0 d ⟨[row],[]⟩) (ha:D.bM 0 0 args=true) (hr:D.bM 0 0 row=true) (s:St):aH P f args s (d.cT [s.al.length] []) ⟨s.al++ [row],s.aA⟩:=by
 refine bW.frame [] [] h List.nodup_nil List.nodup_nil (by simp) (by simp) rfl (by simp) rfl (by simp) (by rw[fY _ _ _ ha]) ha ?_
 rintro _ _ ⟨rfl,rfl⟩
 refine⟨by simp[D.back,kP], ?_⟩
 simp[St.back,lC,kP,fY _ _ _ hr]
end Go.Abs
namespace Go.Abs
mutual
def Ex.size:Ex→Nat
 |⟨_,_,_,kids⟩=>1+Ex.aU kids
def Ex.aU:List Ex→Nat
 | []=>0
 |x::l=>1+x.size+Ex.aU l
end
mutual
def Ex.depth:Ex→Nat
 |⟨_,_,_,kids⟩=>Ex.rN kids+1
def Ex.rN:List Ex→Nat
 | []=>0
 |x::l=>max x.depth (Ex.rN l)
end
def agW (x:Ex):Option Int:=if x.size<4611686018427387904 then some (x.depth:Int)else none
theorem Ex.cZ {x:Ex} : ∀ {l:List Ex},x∈l→x.size<Ex.aU l
 |y::l,h=>by
  simp only[Ex.aU]
  rcases List.mem_cons.1 h with rfl|h
  ·omega
  ·have:=Ex.cZ h;omega
theorem Ex.dR : ∀ (l:List Ex),l.length≤Ex.aU l
 | []=>Nat.le_refl _
 |x::l=>by simp only[Ex.aU,List.length_cons];have:=Ex.dR l;omega
def S5 (t:rl):Int×Int:=
 if t.kind != 4 then(0,0)
 else if t.text == [124,124]then(17,1)
 else if t.text == [38,38]then(16,2)
 else if t.text == [61,61]then(14,3)
 else if t.text == [33,61]then(15,3)
 else if t.text == [60]then(10,4)
 else if t.text == [60,61]then(11,4)
 else if t.text == [62]then(12,4)
 else if t.text == [62,61]then(13,4)
 else if t.text == [43]then(8,5)
 else if t.text == [45]then(9,5)
 else if t.text == [42]then(5,6)
 else if t.text == [47]then(6,6)
 else if t.text == [37]then(7,6)
 else(0,0)
structure Rd where
 l:List rl
 i:Nat
 code:Int
 MU:Int
 n:Nat
abbrev Rd.good (r:Rd):Bool:=r.code==0
def Rd.xC (r:Rd):Option rl:=(agw r.l r.i).bind fun t=>if decide (0≤t.kind) && decide (t.kind≤4)then some t else none
def Rd.bad (c:Int) (r:Rd):Option Rd:=if r.good then r.xC.bind fun t=>some {r with code:=c,MU:=t.pos}else some r
def Rd.is (text:aK) (r:Rd):Option Bool:=r.xC.bind fun t=>some ((t.kind==3 ||t.kind==4) && t.text==text)
def Rd.take (text:aK) (r:Rd):Option (Bool×Rd):=
 if !r.good then some (false,r)else(r.is text).bind fun b=>if !b then some (false,r)else some (true,{r with i:=r.i+1})
def Rd.want (text:aK) (r:Rd):Option Rd:=(r.take text).bind fun p=>if !p.1 then p.2.bad 3 else some p.2
def Rd.name (room:Bool) (r:Rd):Option (aK×Rd):=
 r.xC.bind fun t=>if !r.good ||t.kind != 1 then(r.bad 3).bind fun r=>some ([],r)else if !room then(r.bad 4).bind fun r=>some ([],r)else some (t.text,{r with i:=r.i+1})
def Rd.on (r:Rd):Rd:= {r with i:=r.i+1}
mutual
def Rd.one:Nat→Rd→Option (Ex×Rd)
 | 0,_=>none
 | n+1,r=>r.xC.bind fun t=>
  if !r.good then some (rm,r)
  else if t.kind==2 then some (⟨1,t.n,[],[]⟩,{r with i:=r.i+1})
  else if t.kind==1 then some (⟨2,0,t.text,[]⟩,{r with i:=r.i+1})
  else(r.take [40]).bind fun p=>
   if p.1 then(Rd.two n 1 p.2).bind fun x=>(x.2.want [41]).bind fun r=>some (x.1,r)
   else(p.2.take [45]).bind fun p=>
    if p.1 then(Rd.one n p.2).bind fun x=>some (⟨3,0,[],[x.1]⟩,x.2)
    else(p.2.take [33]).bind fun p=>
     if p.1 then(Rd.one n p.2).bind fun x=>some (⟨4,0,[],[x.1]⟩,x.2)
     else(p.2.bad 3).bind fun r=>some (rm,r)
def Rd.two:Nat→Int→Rd→Option (Ex×Rd)
 | 0,_,_=>none
 |n+1,least,r=>(Rd.one n r).bind fun x=>Rd.agX n least x.1 x.2
def Rd.agX:Nat→Int→Ex→Rd→Option (Ex×Rd)
 | 0,_,_,_=>none
 | n+1,least,x,r=>
  if r.good then r.xC.bind fun t=>
   if decide ((S5 t).2<least) ||(S5 t).1==0 then some (x,r)
   else(Rd.two n ((S5 t).2+1) {r with i:=r.i+1}).bind fun y=>Rd.agX n least ⟨(S5 t).1,0,[],[x,y.1]⟩ y.2
  else some (x,r)
end
def Rd.whole (n:Nat) (r:Rd):Option (Ex×Rd):=
 r.xC.bind fun t=>(Rd.two n 1 r).bind fun x=>
  if x.2.good then(agW x.1).bind fun d=>if decide (d > 20)then some (x.1,{x.2 with code:=4,MU:=t.pos})else some (x.1,x.2)
  else some (x.1,x.2)
def Rd.names:Nat→List aK→Int→Rd→Option (List aK×Rd)
 | 0,_,_,_=>none
 | n+1,l,agY,r=>
  if r.good then(r.name (decide ((l.length:Int)<agY))).bind fun p=>(push 17 l p.1).bind fun l=>(p.2.take [44]).bind fun q=>
   if !q.1 then(q.2.want [59]).bind fun r=>some (l,r)else Rd.names n l agY q.2
  else some (l,r)
def Rd.ahead (sign:aK) (r:Rd):Option Bool:=
 if r.good then r.xC.bind fun t=>if t.kind==1 then(agw r.l (r.i+1)).bind fun u=>some (u.kind==4 && u.text==sign)else some false
 else some false
def Rd.labels:Nat→List aK→Rd→Option (List aK×Rd)
 | 0,_,_=>none
 |n+1,l,r=>(r.ahead [58]).bind fun b=>if b then r.xC.bind fun t=>(push 17 l t.text).bind fun l=>Rd.labels n l {r with i:=r.i+2}else some (l,r)
def Rd.agZ (r:Rd):Option Bool:=
 r.xC.bind fun t=>some (if t.kind==1 then true else if t.kind != 3 then false
  else t.text == [105,102] ||t.text == [119,104,105,108,101] ||t.text == [98,114,101,97,107] ||t.text == [99,111,110,116,105,110,117,101] ||t.text == [114,101,116,117,114,110] ||t.text == [103,111,116,111] ||t.text == [114,101,97,100] ||t.text == [112,114,105,110,116])
def Rd.S6 (m:Nat):Nat→List Ar→Rd→Option (List Ar×Rd)
 | 0,_,_=>none
 | n+1,l,r=>
  if r.good then(r.take [114,101,102]).bind fun p=>
   if p.1 then(p.2.name true).bind fun x=>(push 81 l ⟨true,x.1,rm⟩).bind fun l=>(x.2.take [44]).bind fun c=>if !c.1 then some (l,c.2)else Rd.S6 m n l c.2
   else(Rd.whole m p.2).bind fun x=>(push 81 l ⟨false,[],x.1⟩).bind fun l=>(x.2.take [44]).bind fun c=>if !c.1 then some (l,c.2)else Rd.S6 m n l c.2
  else some (l,r)
def Rd.other (sign:aK) (r:Rd):Option Bool:=if r.good then(r.is sign).bind fun b=>some !b else some false
def Rd.call (m:Nat) (name proc:aK) (r:Rd):Option (Sm×Rd):=
 (r.want [40]).bind fun r=>(r.other [41]).bind fun b=>
  if b then(Rd.S6 m m [] r).bind fun q=>(q.2.want [41]).bind fun r=>(r.want [59]).bind fun r=>some (⟨0,4,[],name,proc,rm,false,q.1,[],[]⟩,r)
  else(r.want [41]).bind fun r=>(r.want [59]).bind fun r=>some (⟨0,4,[],name,proc,rm,false,[],[],[]⟩,r)
def Rd.named (m:Nat) (r:Rd):Option (Sm×Rd):=
 (r.name true).bind fun x=>(x.2.is [40]).bind fun b=>
  if b then Rd.call m [] x.1 x.2
  else(x.2.want [61]).bind fun r=>(r.ahead [40]).bind fun b=>
   if b then(r.name true).bind fun y=>Rd.call m x.1 y.1 y.2
   else(Rd.whole m r).bind fun y=>(y.2.want [59]).bind fun r=>some (⟨0,1,[],x.1,[],y.1,false,[],[],[]⟩,r)
def Rd.plain (m:Nat) (word:aK) (r:Rd):Option (Sm×Rd):=
 if word == [98,114,101,97,107]then some (⟨0,7,[],[],[],rm,false,[],[],[]⟩,r)
 else if word == [99,111,110,116,105,110,117,101]then some (⟨0,8,[],[],[],rm,false,[],[],[]⟩,r)
 else if word == [114,101,116,117,114,110]then(r.is [59]).bind fun b=>
  if !b then(Rd.whole m r).bind fun x=>some (⟨0,9,[],[],[],x.1,true,[],[],[]⟩,x.2)else some (⟨0,9,[],[],[],rm,false,[],[],[]⟩,r)
 else if word == [103,111,116,111]then(r.name true).bind fun x=>some (⟨0,10,[],x.1,[],rm,false,[],[],[]⟩,x.2)
 else if word == [114,101,97,100]then(r.name true).bind fun x=>some (⟨0,2,[],x.1,[],rm,false,[],[],[]⟩,x.2)
 else if word == [112,114,105,110,116]then(Rd.whole m r).bind fun x=>some (⟨0,3,[],[],[],x.1,false,[],[],[]⟩,x.2)
 else some (Ka,r)
def Rd.head (m:Nat) (r:Rd):Option (Ex×Rd):=(r.want [40]).bind fun r=>(Rd.whole m r).bind fun x=>(x.2.want [41]).bind fun r=>some (x.1,r)
mutual
def Rd.rows (m:Nat):Nat→Int→Bool→Rd→Option ((List Sm×List aK)×Rd)
 | 0,_,_,_=>none
 |n+1,nest,body,r=>Rd.abB m n nest body [] r
def Rd.abB (m:Nat):Nat→Int→Bool→List Sm→Rd→Option ((List Sm×List aK)×Rd)
 | 0,_,_,_,_=>none
 | n+1,nest,body,out,r=>
  if r.good then(Rd.labels m [] r).bind fun l=>(l.2.is [125]).bind fun b=>
   if b && (body ||(l.1.length:Int)==0)then some ((out,l.1),{l.2 with i:=l.2.i+1})
   else(Rd.stmt m n nest l.2).bind fun s=>(push 209 out {s.1 with labels:=l.1}).bind fun out=>Rd.abB m n nest body out s.2
  else some (([],[]),r)
def Rd.stmt (m:Nat):Nat→Int→Rd→Option (Sm×Rd)
 | 0,_,_=>none
 | n+1,nest,r=>r.agZ.bind fun b=>
  if !b then(r.bad 3).bind fun r=>some (Ka,r)
  else(inc r.n).bind fun k=>
   if decide ((k:Int) > 200) ||decide (nest > 12)then(({r with n:=k} : Rd).bad 4).bind fun r=>some (Ka,r)
   else({r with n:=k} : Rd).xC.bind fun t=>
    if t.kind==1 then Rd.named m {r with n:=k}
    else if t.text == [105,102]then Rd.choice m n nest {r with n:=k,i:=r.i+1}
    else if t.text == [119,104,105,108,101]then(Rd.head m {r with n:=k,i:=r.i+1}).bind fun x=>(Rd.block m n nest x.2).bind fun b=>some (⟨0,6,[],[],[],x.1,false,[],b.1,[]⟩,b.2)
    else(Rd.plain m t.text {r with n:=k,i:=r.i+1}).bind fun s=>(s.2.want [59]).bind fun r=>some (s.1,r)
def Rd.block (m:Nat):Nat→Int→Rd→Option (List Sm×Rd)
 | 0,_,_=>none
 |n+1,nest,r=>(r.want [123]).bind fun r=>(ao5 nest).bind fun k=>(Rd.rows m n k false r).bind fun p=>some (p.1.1,p.2)
def Rd.choice (m:Nat):Nat→Int→Rd→Option (Sm×Rd)
 | 0,_,_=>none
 |n+1,nest,r=>(Rd.head m r).bind fun x=>(Rd.block m n nest x.2).bind fun t=>(t.2.take [101,108,115,101]).bind fun q=>
  if q.1 then(Rd.block m n nest q.2).bind fun e=>some (⟨0,5,[],[],[],x.1,false,[],t.1,e.1⟩,e.2)
  else some (⟨0,5,[],[],[],x.1,false,[],t.1,[]⟩,q.2)
end
def Rd.params:Nat→List Pm→Rd→Option (List Pm×Rd)
 | 0,_,_=>none
 | n+1,l,r=>
  if r.good then(r.take [114,101,102]).bind fun q=>(q.2.name (decide ((l.length:Int)<8))).bind fun x=>(push 25 l ⟨x.1,q.1⟩).bind fun l=>(x.2.take [44]).bind fun c=>
   if !c.1 then some (l,c.2)else Rd.params n l c.2
  else some (l,r)
def Rd.vars (m:Nat):Nat→List aK→Rd→Option (List aK×Rd)
 | 0,_,_=>none
 |n+1,l,r=>(r.take [118,97,114]).bind fun q=>if q.1 then(Rd.names m l 16 q.2).bind fun x=>Rd.vars m n x.1 x.2 else some (l,q.2)
def Rd.abC (m:Nat) (name:aK) (ps:List Pm) (r:Rd):Option (Pc×Rd):=
 (Rd.vars m m [] r).bind fun v=>(Rd.rows m m 1 true v.2).bind fun b=>some (⟨name,ps,v.1,b.1.1,b.1.2⟩,b.2)
def Rd.proc (m:Nat) (r:Rd):Option (Pc×Rd):=
 (r.name true).bind fun x=>(x.2.want [40]).bind fun r=>(r.other [41]).bind fun b=>
  if b then(Rd.params m [] r).bind fun q=>(q.2.want [41]).bind fun r=>(r.want [123]).bind fun r=>Rd.abC m x.1 q.1 r
  else(r.want [41]).bind fun r=>(r.want [123]).bind fun r=>Rd.abC m x.1 [] r
def Rd.globals (m:Nat):Nat→List aK→Rd→Option (List aK×Rd)
 | 0,_,_=>none
 |n+1,l,r=>(r.take [103,108,111,98,97,108]).bind fun q=>if q.1 then(Rd.names m l 16 q.2).bind fun x=>Rd.globals m n x.1 x.2 else some (l,q.2)
def Rd.ag0 (r:Rd):Option Bool:=if r.good then r.is [112,114,111,99]else some false
def Rd.VR (r:Rd):Option Bool:=if r.good then r.xC.bind fun t=>some (t.kind != 0)else some false
def Rd.procs (m:Nat):Nat→List Pc→Rd→Option (List Pc×Rd)
 | 0,_,_=>none
 | n+1,l,r=>r.ag0.bind fun b=>
  if b then
   if(l.length:Int)==16 then(r.bad 4).bind fun r=>some (l,r)
   else(Rd.proc m {r with i:=r.i+1}).bind fun x=>(push 113 l x.1).bind fun l=>Rd.procs m n l x.2
  else r.VR.bind fun b=>if b then(r.bad 3).bind fun r=>some (l,r)else some (l,r)
def Rd.program (m:Nat) (r:Rd):Option (Pg×Rd):=(Rd.globals m m [] r).bind fun g=>(Rd.procs m m [] g.2).bind fun q=>some (⟨g.1,q.1⟩,q.2)
mutual
def Ex.beq:Ex→Ex→Bool
 |⟨op,n,name,kids⟩,⟨op',n',S7,abD⟩=>if op != op' ||n != n' || !(name==S7) ||(kids.length:Int) != (abD.length:Int)then false else Ex.rE kids abD
def Ex.rE:List Ex→List Ex→Bool
 | [],_=>true
 |_::_,[]=>true
 |x::l,y::l'=>if !Ex.beq x y then false else Ex.rE l l'
end
def Ar.aU:List Ar→Nat
 | []=>0
 |a::l=>1+a.x.size+Ar.aU l
mutual
def Sm.size:Sm→Nat
 |⟨_,_,labels,_,_,x,_,args,aQ,aN⟩=>1+labels.length+x.size+Ar.aU args+Sm.aU aQ+Sm.aU aN
def Sm.aU:List Sm→Nat
 | []=>0
 |s::l=>1+s.size+Sm.aU l
end
def Pc.size (f:Pc):Nat:=1+f.params.length+f.vars.length+f.fin.length+Sm.aU f.body
def Pc.aU:List Pc→Nat
 | []=>0
 |f::l=>1+f.size+Pc.aU l
def Pg.size (p:Pg):Nat:=1+p.globals.length+Pc.aU p.procs
mutual
def Sm.num (b:Bool) (n:Nat):Sm→Sm×Nat
 |⟨id,kind,labels,name,proc,x,has,args,aQ,aN⟩=>
  (⟨if b then((n+1:Nat):Int)else id,kind,labels,name,proc,x,has,args,(Sm.fB b (n+1) aQ).1,(Sm.fB b (Sm.fB b (n+1) aQ).2 aN).1⟩,(Sm.fB b (Sm.fB b (n+1) aQ).2 aN).2)
def Sm.fB (b:Bool) (n:Nat):List Sm→List Sm×Nat
 | []=>([],n)
 |s::l=>((Sm.num b n s).1::(Sm.fB b (Sm.num b n s).2 l).1,(Sm.fB b (Sm.num b n s).2 l).2)
end
def Pc.fB (n:Nat):List Pc→List Pc
 | []=> []
 |f::l=> {f with body:=(Sm.fB true n f.body).1}::Pc.fB (Sm.fB true n f.body).2 l
def Pg.number (p:Pg):Pg:= {p with procs:=Pc.fB 0 p.procs}
def Pg.ad7 (p:Pg):Option Pg:=if p.size<1073741824 then some p.number else none
mutual
theorem Sm.ag1 (b:Bool) (n:Nat) : ∀ s:Sm,(Sm.num b n s).2≤n+s.size
 |⟨id,kind,labels,name,proc,x,has,args,aQ,aN⟩=>by
  simp only[Sm.num,Sm.size]
  have h1:=Sm.uK b (n+1) aQ
  have h2:=Sm.uK b (Sm.fB b (n+1) aQ).2 aN
  omega
theorem Sm.uK (b:Bool) (n:Nat) : ∀ l:List Sm,(Sm.fB b n l).2≤n+Sm.aU l
 | []=>by simp[Sm.fB,Sm.aU]
 |s::l=>by
  simp only[Sm.fB,Sm.aU]
  have h1:=Sm.ag1 b n s
  have h2:=Sm.uK b (Sm.num b n s).2 l
  omega
end
theorem Sm.dR : ∀ (l:List Sm),l.length≤Sm.aU l
 | []=>Nat.le_refl _
 |x::l=>by simp only[Sm.aU,List.length_cons];have:=Sm.dR l;omega
theorem Ar.dR : ∀ (l:List Ar),l.length≤Ar.aU l
 | []=>Nat.le_refl _
 |x::l=>by simp only[Ar.aU,List.length_cons];have:=Ar.dR l;omega
theorem Pc.dR : ∀ (l:List Pc),l.length≤Pc.aU l
 | []=>Nat.le_refl _
 |x::l=>by simp only[Pc.aU,List.length_cons];have:=Pc.dR l;omega
theorem Ar.cZ {x:Ar} : ∀ {l:List Ar},x∈l→x.x.size<Ar.aU l
 |y::l,h=>by
  simp only[Ar.aU]
  rcases List.mem_cons.1 h with rfl|h
  ·omega
  ·have:=Ar.cZ h;omega
theorem Sm.cZ {x:Sm} : ∀ {l:List Sm},x∈l→x.size<Sm.aU l
 |y::l,h=>by
  simp only[Sm.aU]
  rcases List.mem_cons.1 h with rfl|h
  ·omega
  ·have:=Sm.cZ h;omega
theorem Pc.cZ {x:Pc} : ∀ {l:List Pc},x∈l→x.size<Pc.aU l
 |y::l,h=>by
  simp only[Pc.aU]
  rcases List.mem_cons.1 h with rfl|h
  ·omega
  ·have:=Pc.cZ h;omega
mutual
def Sm.kB:Sm→Nat
 |⟨_,_,_,_,_,_,_,_,aQ,aN⟩=>1+Sm.jK aQ+Sm.jK aN
def Sm.jK:List Sm→Nat
 | []=>0
 |s::l=>s.kB+Sm.jK l
end
structure Im where
 s:Sm
 proc:Int
 up:Int
 next:Int
 loop:Int
mutual
def Im.one (proc up next loop:Int) (out:List Im):Sm→List Im
 | ⟨id,kind,labels,name,pc,x,has,args,aQ,aN⟩=>
  Im.rows proc ((out.length:Int)+1) (if kind==6 then(out.length:Int)+1 else next) (if kind==6 then(out.length:Int)+1 else loop)
   (Im.rows proc ((out.length:Int)+1) (if kind==6 then(out.length:Int)+1 else next) (if kind==6 then(out.length:Int)+1 else loop) (out++ [⟨⟨id,kind,labels,name,pc,x,has,args,aQ,aN⟩,proc,up,next,loop⟩]) aQ) aN
def Im.rows (proc up next loop:Int) (out:List Im):List Sm→List Im
 | []=>out
 |s::l=>Im.rows proc up next loop (Im.one proc up (if l.length=0 then next else(out.length:Int)+1+(s.kB:Int)) loop out s) l
end
theorem Im.ag2 (proc up next loop:Int) (out:List Im) (s:Sm):Im.one proc up next loop out s =
 Im.rows proc ((out.length:Int)+1) (if s.kind==6 then(out.length:Int)+1 else next) (if s.kind==6 then(out.length:Int)+1 else loop)
  (Im.rows proc ((out.length:Int)+1) (if s.kind==6 then(out.length:Int)+1 else next) (if s.kind==6 then(out.length:Int)+1 else loop) (out++ [⟨s,proc,up,next,loop⟩]) s.aQ) s.aN:=by
 cases s;simp only[Im.one]
mutual
theorem ad8 (proc up next loop:Int) (out:List Im) : ∀ s:Sm,(Im.one proc up next loop out s).length=out.length+s.kB
 |⟨id,kind,labels,name,pc,x,has,args,aQ,aN⟩=>by
  simp only[Im.one,Sm.kB]
  rw[iP,iP]
  simp only[List.length_append,List.length_cons,List.length_nil];omega
theorem iP (proc up next loop:Int) (out:List Im) : ∀ l:List Sm,(Im.rows proc up next loop out l).length=out.length+Sm.jK l
 | []=>rfl
 |s::l=>by
  simp only[Im.rows,Sm.jK]
  rw[iP,ad8];omega
end
mutual
theorem F4 : ∀ s:Sm,s.kB≤s.size
 |⟨_,_,labels,_,_,x,_,args,aQ,aN⟩=>by
  have:=py aQ;have:=py aN
  simp only[Sm.kB,Sm.size];omega
theorem py : ∀ l:List Sm,Sm.jK l≤Sm.aU l
 | []=>Nat.le_refl _
 |s::l=>by
  have:=F4 s;have:=py l
  simp only[Sm.jK,Sm.aU];omega
end
structure Sh where
 L:List Im
 lo:List Int
 hi:List Int
def Sh.go (i:Nat) (h:Sh):List Pc→Sh
 | []=>h
 |f::l=>Sh.go (i+1) ⟨Im.rows i 0 (-1) 0 h.L f.body,h.lo++ [(h.L.length:Int)+1],h.hi++ [((Im.rows i 0 (-1) 0 h.L f.body).length:Int)+1]⟩ l
def Pg.a7 (p:Pg):Sh:=Sh.go 0 ⟨[],[],[]⟩ p.procs
def ad9:Nat:=3
def abE:Nat:=4
def abF:Nat:=5
def Zk:Nat:=6
def abG:Nat:=7
def abH:Nat:=8
def aea:Nat:=9
def abI:Nat:=10
def abJ:Nat:=11
def Zl:Nat:=12
def yL:Nat:=13
def Zm:Nat:=14
def zL:Nat:=15
def zM:Nat:=16
def xD:Nat:=17
def ajD:Nat:=18
def afa:Nat:=19
def rO:Nat:=20
def wc:Nat:=21
def sc:Nat:=22
def afb:Nat:=23
def abK:Nat:=24
def we:Nat:=25
def ak1:Nat:=26
def ajE:Nat:=27
def oM:Nat:=28
def oN:Nat:=29
def ajF:Nat:=30
def ag3:Nat:=31
def zN:Nat:=32
def wV:Nat:=33
def aeb:Nat:=34
def abL:Nat:=35
def q6:Nat:=36
def wg:Nat:=37
def zO:Nat:=38
def zP:Nat:=39
def kQ:Nat:=40
def iD:Nat:=41
def lW:Nat:=42
def l9:Nat:=43
def kg:Nat:=44
def jx:Nat:=45
def qH:Nat:=46
def qj:Nat:=47
def sw:Nat:=48
def qk:Nat:=49
def ag4:Nat:=50
def PZ:Nat:=51
def S8:Nat:=52
def zQ:Nat:=53
def ajG:Nat:=54
def rP:Nat:=55
def Zn:Nat:=56
def ag5:Nat:=57
def Zo:Nat:=58
def rQ:Nat:=59
def BA:Nat:=60
def wh:Nat:=61
def BB:Nat:=62
def abM:Nat:=63
def oO:Nat:=64
def pI:Nat:=65
def lF:Nat:=66
def lR:Nat:=67
def tr:Nat:=68
def mD:Nat:=69
def wW:Nat:=70
def lg:Nat:=71
def lh:Nat:=72
def xE:Nat:=73
def qI:Nat:=74
def iz:Nat:=75
def nn:Nat:=76
def jG:Nat:=77
def la:Nat:=78
def fy:Nat:=79
def qs:Nat:=80
def rR:Nat:=81
def lX:Nat:=82
def ak2:Nat:=83
def ag6:Nat:=84
def zR:Nat:=85
def afc:Nat:=86
def Un:Nat:=87
def P0:Nat:=88
def ag7:Nat:=89
def afd:Nat:=90
def S9:Nat:=91
def Ta:Nat:=92
def P2:Nat:=93
def VS:Nat:=94
def nH:Nat:=95
def se:Nat:=96
def xF:Nat:=97
def wi:Nat:=98
def zS:Nat:=99
def abN:Nat:=100
def tt:Nat:=101
def kC:Nat:=102
def mP:Nat:=103
def tu:Nat:=104
def DI:Nat:=105
def BD:Nat:=106
def wj:Nat:=107
def oa:Nat:=108
def lM:Nat:=109
def vj:Nat:=110
def ic:Nat:=111
def yM:Nat:=112
def oP:Nat:=113
def iY:Nat:=114
def cY:Nat:=115
def ag8:Nat:=116
def ag9:Nat:=117
def aha:Nat:=118
def abO:Nat:=119
def oc:Nat:=120
def Uo:Nat:=121
def aec:Nat:=122
def ahb:Nat:=123
def ahc:Nat:=124
def ak3:Nat:=125
def ak4:Nat:=126
def Tb:Nat:=127
def pY:Nat:=128
def ie:Nat:=129
def qt:Nat:=130
def sf:Nat:=131
def xG:Nat:=132
def tv:Nat:=133
def rS:Nat:=134
def xH:Nat:=135
def tw:Nat:=136
def uL:Nat:=137
def oQ:Nat:=138
def pJ:Nat:=139
def kD:Nat:=140
def zT:Nat:=141
def qJ:Nat:=142
def tx:Nat:=143
def wk:Nat:=144
def mE:Nat:=145
def qK:Nat:=146
def ak5:Nat:=147
def ahd:Nat:=148
def ahe:Nat:=149
def ahf:Nat:=150
def afe:Nat:=151
def ajH:Nat:=152
def ajI:Nat:=153
def anB:Nat:=154
def abP:Nat:=155
def aff:Nat:=156
def afg:Nat:=157
def ahg:Nat:=158
def ajJ:Nat:=159
def afh:Nat:=160
def ahh:Nat:=161
def ak6:Nat:=162
def ak7:Nat:=163
def abQ:Nat:=164
def aed:Nat:=165
def ahi:Nat:=166
def mh:Nat:=167
def tz:Nat:=168
def xI:Nat:=169
def xJ:Nat:=170
def wo:Nat:=171
def zU:Nat:=172
def kE:Nat:=173
def kX:Nat:=174
def zV:Nat:=175
def BE:Nat:=176
def tA:Nat:=177
def BF:Nat:=178
def ahj:Nat:=179
def ajK:Nat:=180
def ak8:Nat:=181
def ahk:Nat:=182
def aee:Nat:=183
def ak9:Nat:=184
def ajL:Nat:=185
def ala:Nat:=186
def ajM:Nat:=187
def ajN:Nat:=188
def tB:Nat:=189
def iZ:Nat:=190
def qu:Nat:=191
def wq:Nat:=192
def Hu:Nat:=193
def abR:Nat:=194
def kF:Nat:=195
def wu:Nat:=196
def uM:Nat:=197
def ahl:Nat:=198
def ahm:Nat:=199
def ajO:Nat:=200
def aef:Nat:=201
def ajP:Nat:=202
def alb:Nat:=203
def Pl:Nat:=204
def afi:Nat:=205
def afj:Nat:=206
def jQ:Nat:=207
def DJ:Nat:=208
def GN:Nat:=209
def DK:Nat:=210
def Fa:Nat:=211
def EJ:Nat:=212
def Ai:Nat:=213
def XH:Nat:=214
def C5:Nat:=215
def F5:Nat:=216
def XI:Nat:=217
def XJ:Nat:=218
def ahn:Nat:=219
def ajQ:Nat:=220
def ajR:Nat:=221
def afk:Nat:=222
def aho:Nat:=223
def GO:Nat:=224
def OI:Nat:=225
def Pn:Nat:=226
def C6:Nat:=227
def IW:Nat:=228
def VT:Nat:=229
def IX:Nat:=230
abbrev AI.o (t:Nat) (a:AO):AI:= .op (some t) none a
abbrev AI.g (t c:Nat) (b:Bool) (a:AO):AI:= .op (some t) (some (c,b)) a
abbrev AI.c (t f:Nat) (l:List X):AI:= .call (some t) none f l
abbrev AI.d (t c:Nat) (b:Bool) (f:Nat) (l:List X):AI:= .call (some t) (some (c,b)) f l
abbrev AI.m (t:Nat) (x:X):AI:= .op (some t) none (.mv x)
abbrev bG:X:= .s 0
abbrev bu:X:= .s 1
abbrev dC:X:= .s 2
abbrev cL:X:= .s 3
abbrev fK:X:= .s 4
abbrev cq:X:= .s 5
abbrev dH:X:= .s 6
abbrev c6:X:= .s 7
abbrev cW:X:= .s 8
abbrev dr:X:= .s 9
abbrev cj:X:= .s 10
abbrev cR:X:= .s 11
abbrev dd:X:= .s 12
abbrev dk:X:= .s 13
abbrev da:X:= .s 14
abbrev dE:X:= .s 15
abbrev dn:X:= .s 16
abbrev dN:X:= .s 17
abbrev dJ:X:= .s 18
abbrev ey:X:= .s 19
abbrev eC:X:= .s 20
abbrev eB:X:= .s 21
abbrev eD:X:= .s 22
abbrev eO:X:= .s 23
abbrev fb:X:= .s 24
abbrev ff:X:= .s 25
abbrev fD:X:= .s 26
abbrev fM:X:= .s 27
abbrev gp:X:= .s 28
abbrev gw:X:= .s 29
abbrev gE:X:= .s 30
abbrev gK:X:= .s 31
abbrev iu:X:= .s 32
abbrev ig:X:= .s 33
abbrev iQ:X:= .s 34
abbrev iw:X:= .s 35
abbrev iJ:X:= .s 36
abbrev jk:X:= .s 37
abbrev jL:X:= .s 38
abbrev jy:X:= .s 39
abbrev kq:X:= .s 40
abbrev jZ:X:= .s 41
abbrev kG:X:= .s 42
abbrev kr:X:= .s 43
abbrev kH:X:= .s 44
abbrev lS:X:= .s 45
abbrev lT:X:= .s 46
abbrev na:X:= .s 47
abbrev nc:X:= .s 48
abbrev ng:X:= .s 49
abbrev nz:X:= .s 50
abbrev ml:X:= .s 51
abbrev mn:X:= .s 52
abbrev nh:X:= .s 53
abbrev nA:X:= .s 54
abbrev nB:X:= .s 55
abbrev pK:X:= .s 56
abbrev qL:X:= .s 57
abbrev ql:X:= .s 58
abbrev od:X:= .s 59
abbrev rF:X:= .s 60
abbrev tC:X:= .s 61
abbrev sx:X:= .s 62
abbrev tD:X:= .s 63
abbrev tF:X:= .s 64
abbrev xK:X:= .s 65
abbrev zW:X:= .s 66
abbrev zX:X:= .s 67
abbrev xL:X:= .s 68
abbrev BG:X:= .s 69
abbrev BH:X:= .s 70
abbrev F6:X:= .s 71
abbrev DL:X:= .s 72
abbrev DM:X:= .s 73
abbrev F7:X:= .s 74
abbrev F8:X:= .s 75
abbrev DN:X:= .s 76
abbrev F9:X:= .s 77
abbrev BI:X:= .s 78
abbrev Jf:X:= .s 79
abbrev Jg:X:= .s 80
abbrev Jh:X:= .s 81
abbrev MV:X:= .s 82
abbrev MW:X:= .s 83
abbrev MX:X:= .s 84
abbrev MY:X:= .s 85
abbrev MZ:X:= .s 86
abbrev M3:X:= .s 87
abbrev M4:X:= .s 88
abbrev Ga:X:= .s 89
abbrev Ji:X:= .s 90
abbrev M5:X:= .s 91
abbrev Tc:X:= .s 92
abbrev Zp:X:= .s 93
abbrev Zq:X:= .s 94
abbrev Zr:X:= .s 95
abbrev ahp:X:= .s 96
abbrev ahq:X:= .s 97
abbrev ahr:X:= .s 98
abbrev ahs:X:= .s 99
abbrev abS:X:= .s 100
abbrev abT:X:= .s 101
abbrev abU:X:= .s 102
abbrev abV:X:= .s 103
abbrev abW:X:= .s 104
abbrev abX:X:= .s 105
abbrev abY:X:= .s 106
abbrev abZ:X:= .s 107
abbrev ab0:X:= .s 108
abbrev alc:X:= .s 109
abbrev ab1:X:= .s 110
abbrev ab2:X:= .s 111
abbrev Td:X:= .s 112
abbrev ab3:X:= .s 113
abbrev ab4:X:= .s 114
abbrev ab5:X:= .s 115
abbrev ab6:X:= .s 116
abbrev ab7:X:= .s 117
abbrev ab8:X:= .s 118
abbrev ab9:X:= .s 119
abbrev aca:X:= .s 120
abbrev acb:X:= .s 121
abbrev ace:X:= .s 122
abbrev acf:X:= .s 123
abbrev acg:X:= .s 124
abbrev ach:X:= .s 125
abbrev ald:X:= .s 126
abbrev aci:X:= .s 127
abbrev Hv:X:= .s 128
abbrev acj:X:= .s 129
abbrev ack:X:= .s 130
abbrev ale:X:= .s 131
abbrev alf:X:= .s 132
abbrev alg:X:= .s 133
abbrev alh:X:= .s 134
abbrev ali:X:= .s 135
abbrev alj:X:= .s 136
abbrev alk:X:= .s 137
abbrev alm:X:= .s 138
abbrev aln:X:= .s 139
abbrev alo:X:= .s 140
abbrev alp:X:= .s 141
abbrev alq:X:= .s 142
abbrev alr:X:= .s 143
abbrev als:X:= .s 144
abbrev alu:X:= .s 145
abbrev alv:X:= .s 146
abbrev alw:X:= .s 147
abbrev alx:X:= .s 148
abbrev aly:X:= .s 149
abbrev alz:X:= .s 150
abbrev alA:X:= .s 151
abbrev alB:X:= .s 152
abbrev alC:X:= .s 153
abbrev alD:X:= .s 154
abbrev alE:X:= .s 155
abbrev alG:X:= .s 156
abbrev alH:X:= .s 157
abbrev alI:X:= .s 158
abbrev alJ:X:= .s 159
abbrev alK:X:= .s 160
abbrev alL:X:= .s 161
abbrev alM:X:= .s 162
abbrev alN:X:= .s 163
abbrev alO:X:= .s 164
abbrev alP:X:= .s 165
abbrev alQ:X:= .s 166
abbrev alR:X:= .s 167
abbrev alS:X:= .s 168
abbrev alT:X:= .s 169
abbrev alU:X:= .s 170
abbrev alV:X:= .s 171
abbrev alW:X:= .s 172
abbrev alX:X:= .s 173
abbrev alY:X:= .s 174
abbrev alZ:X:= .s 175
abbrev Q04:AC:= .cond dd (.seq (.run [.o 8 (.mv (.k (.bool false)))]) .ret) .skip
abbrev Q09:AC:= .cond dE (.seq (.run [.o 8 (.mv (.k (.bool true)))]) .ret) .skip
abbrev Q0E:AC:= .cond eC (.seq (.run [.o 8 (.mv (.k (.bool true)))]) .ret) .skip
abbrev Q0K:AC:= .cond fD (.seq (.run [.o 8 (.mv (.k (.bool true)))]) .ret) .skip
abbrev Q0N:AC:= .par [.o 30 (.load cj true 2), .c 31 q6 [gE], .o 32 (.un .not gK), .m 33 iu, .g 34 33 false (.load cj true 2), .d 35 33 false rO [iQ], .g 36 33 false (.mv iw), .g 37 36 true (.load fK true 2), .g 38 36 true (.mv bu), .g 39 36 true (.mv dC), .d 40 36 true sc [jk,jL,jy], .g 41 36 true (.load cj true 2), .g 42 36 true (.mv bu), .g 43 36 true (.mv dC), .d 44 36 true sc [jZ,kG,kr], .d 45 36 true we [kq,kH], .g 46 33 false (.pick iJ lS (.k (.bool false))), .o 47 (.pick ig (.k (.bool true)) lT), .m 8 na] [(0,0),(1,0),(2,0),(3,0),(4,0),(5,0),(6,0),(7,0),(8,0),(9,0),(10,0),(11,1),(12,0),(13,0),(14,0),(15,0),(16,0),(17,0),(18,0)]
abbrev Q0Q:AC:= .seq (.seq (.run [.m 25 dr, .o 26 (.bin .eql ff (.k (.int .i64 0)))]) Q0K) (.seq (.run [.o 27 (.load fK true 2), .m 28 dr, .c 29 wg [fM,gp], .o 10 (.alloc [(.slice .full 0 []),(.slice .full 0 [])]), .op none none (.store cj gw 2)]) (.seq Q0N .ret))
abbrev Q0T:AC:= .seq (.seq (.run [.o 13 (.load fK true 2), .c 14 zM [dk], .o 15 (.un .not da)]) Q09) (.seq (.seq (.run [.o 16 (.load fK true 2), .m 17 bu, .m 18 dC, .c 19 wc [dn,dN,dJ], .o 20 (.un .not ey)]) Q0E) (.seq (.run [.o 21 (.load fK true 2), .c 22 wV [eB,(.k (.int .i64 5))], .m 23 cL, .c 24 zN [eD,eO], .m 9 fb]) Q0Q))
abbrev Q0V:AC:= .seq (.run [.o 4 (.box bG), .o 8 (.mv (.k (.bool false)))]) (.seq (.seq (.run [.c 11 zL [], .o 12 (.un .not cR)]) Q04) Q0T)
abbrev Q0Y:AC:= .run [.m 9 dC, .o 10 (.bin .eql dr (.k (.int .i64 0))), .m 11 cj, .g 12 11 true (.aw bu 0), .g 13 11 true (.load dd false 1), .g 14 11 true (.bin .eql dk (.k (.int .i64 1))), .o 15 (.pick cR da (.k (.bool false))), .m 16 dE, .g 17 16 true (.aw bu 1), .g 18 16 true (.load dN false 1), .g 19 16 true (.bin .eql dJ (.k (.int .i64 7))), .o 20 (.pick dn ey (.k (.bool false))), .m 21 eC, .g 22 21 true (.aw bu 3), .g 23 21 true (.load eD false 1),(.g 24 21 true (.du [(.int .i64 0)] 1 2 [(0,(.k (.int .i64 5))),(1,(.k (.int .i64 5)))])), .d 25 21 true oM [eO,fb], .o 26 (.pick eB ff (.k (.bool false))), .m 27 fD, .g 28 27 true (.aw bu 4), .g 29 27 true (.load gp false 1), .g 30 27 true (.len gw), .g 31 27 true (.bin .eql gE (.k (.int .i64 2))), .o 32 (.pick fM gK (.k (.bool false))), .m 33 iu, .g 34 33 true (.aw bu 4), .g 35 33 true (.load iQ false 1), .g 36 33 true (.cu iw (.k (.int .i64 0)) 2), .g 37 33 true (.aw iJ 0), .g 38 33 true (.load jk false 1), .g 39 33 true (.bin .eql jL (.k (.int .i64 2))), .o 40 (.pick ig jy (.k (.bool false))), .m 41 kq, .g 42 41 true (.aw bu 4), .g 43 41 true (.load kG false 1), .g 44 41 true (.cu kr (.k (.int .i64 1)) 2), .g 45 41 true (.aw kH 1), .g 46 41 true (.load lS false 1),(.g 47 41 true (.du [(.int .i64 0)] 1 1 [(0,(.k (.int .i64 5)))])), .d 48 41 true oM [lT,na], .o 49 (.pick jZ nc (.k (.bool false))), .m 50 ng, .g 51 50 true (.load bu true 5), .d 52 50 true zO [ml], .g 53 50 true (.sV .real mn mn),(.g 54 50 true (.sV .eq nh (.k (.val (.float .f64 4619567317775286272))))), .o 55 (.pick nz nA (.k (.bool false))), .m 0 nB]
abbrev Q10:AC:= .seq (.run [.c 4 zP [],(.o 5 (.du [(.int .i64 0)] 1 2 [(0,(.k (.int .i64 5))),(1,(.k (.int .i64 2)))])),(.c 6 xD [fK,(.k (.slice .full 0 [])),(.k (.int .i64 50)),cq]), .m 3 dH, .o 7 (.ext cL 0), .o 8 (.ext cL 1), .o 1 (.alloc [(.int .i64 0),(.int .i64 0),(.int .i64 0),(.slice .full 0 []),(.slice .full 0 [])]), .op none none (.store bu c6 5), .m 2 cW]) (.seq Q0Y .ret)
abbrev Q11:AC:= .seq (.run [.o 0 (.mv (.k (.bool false)))]) Q10
abbrev Q19:AC:= .par [.o 26 (.aw cq 4), .o 27 (.load fD false 1), .o 28 (.aw cq 2), .o 29 (.load gp false 1), .o 30 (.aw cq 0), .o 31 (.load gE false 1), .m 32 cL, .c 33 iD [gK,iu], .c 34 kQ [gw,ig], .c 35 kQ [fM,iQ], .m 3 iw] [(4,0),(5,0),(6,0),(7,0),(2,0),(3,1),(8,0),(0,0),(1,2),(9,0),(10,0)]
abbrev Q1I:AC:= .seq (.seq (.run [.m 36 dH, .o 37 (.aw cq 1), .o 38 (.load jk false 1), .o 39 (.len jL), .o 40 (.bin .lss iJ jy), .m 41 kq, .g 42 41 true (.mv cL), .g 43 41 true (.bin .leq kG (.k (.int .i64 20000))), .o 44 (.pick jZ kr (.k (.bool false)))]) (.cond kH .skip (.exit 2))) (.seq (.block 3 (.run [.o 47 (.aw cq 1), .o 48 (.load na false 1), .m 49 dH, .o 50 (.cu nc ng 2), .o 51 (.aw nz 0), .o 52 (.load ml false 1), .m 53 cL, .c 54 iD [mn,nh], .m 3 nA])) (.run [.m 45 dH, .o 46 (.bin .add lS (.k (.int .i64 1))), .m 6 lT]))
abbrev Q1N:AC:= .seq (.seq (.run [.o 6 (.mv (.k (.int .i64 0)))]) (.block 2 (.loop Q1I))) (.run [.o 55 (.aw cq 3), .o 56 (.load nB false 1), .m 57 cL, .c 58 lW [pK,qL], .m 3 ql])
abbrev Q1S:AC:= .seq (.block 1 (.seq (.run [.o 21 (.aw bu 1), .o 22 (.load eB false 1), .m 23 fK, .o 24 (.cu eD eO 5), .o 25 (.load fb true 5), .o 5 (.alloc [(.str []),(.slice .full 0 []),(.slice .full 0 []),(.slice .full 0 []),(.slice .full 0 [])]), .op none none (.store cq ff 5)]) (.seq Q19 Q1N))) (.run [.m 19 fK, .o 20 (.bin .add ey (.k (.int .i64 1))), .m 4 eC])
abbrev Q1T:AC:= .seq (.seq (.run [.m 10 fK, .o 11 (.aw bu 1), .o 12 (.load cR false 1), .o 13 (.len dd), .o 14 (.bin .lss cj dk), .m 15 da, .g 16 15 true (.mv cL), .g 17 15 true (.bin .leq dn (.k (.int .i64 20000))), .o 18 (.pick dE dN (.k (.bool false)))]) (.cond dJ .skip (.exit 0))) Q1S
abbrev Q1Z:AC:= .seq (.seq (.run [.o 4 (.mv (.k (.int .i64 0)))]) (.block 0 (.loop Q1T))) (.seq (.run [.m 59 cL, .o 60 (.bin .leq od (.k (.int .i64 20000))), .m 2 rF]) .ret)
abbrev Q21:AC:= .seq (.run [.o 1 (.box bG), .o 2 (.mv (.k (.bool false)))]) (.seq (.run [.o 7 (.aw bu 0), .o 8 (.load c6 false 1), .c 9 kQ [cW,(.k (.int .i64 0))], .m 3 dr]) Q1Z)
abbrev Q26:AC:= .cond fb (.seq (.run [.o 25 (.build [(.int .i64 0),(.int .i64 0),(.int .i64 0),(.slice .full 0 []),(.slice .full 0 [])] []), .op none none (.store cW ff 5), .o 9 (.mv (.k (.int .i64 1)))]) .ret) .skip
abbrev Q2G:AC:= .seq (.cond iJ .skip (.exit 0)) (.seq (.block 1 (.run [.m 37 cj, .m 38 cj, .o 39 (.cz jL), .o 40 (.aw jy 1), .o 41 (.load kq false 1), .o 42 (.alloc [(.int .i64 0)]), .o 43 (.du [.eY] 1 1 [(0,kG)]), .o 44 (.app 1 8 jZ kr), .o 45 (.cz jk), .o 46 (.aw lS 1), .op none none (.store lT kH 1)])) (.run [.o 47 (.bin .add iw (.k (.int .i64 1))), .m 35 na]))
abbrev Q2H:AC:= .seq (.run [.o 36 (.bin .lss iw iQ)]) Q2G
abbrev Q2R:AC:= .cond pK (.seq (.run [.o 12 (.mv (.k (.int .i64 0)))]) (.goto 0)) .skip
abbrev Q2S:AC:= .seq (.run [.m 55 dk,(.o 56 (.bin .eql nB (.k (.int .i64 (-1)))))]) Q2R
abbrev Q2W:AC:= .cond tD (.seq (.run [.m 64 cj, .o 65 (.cz tF), .o 66 (.aw xK 6), .o 67 (.aw zW 0), .op none none (.store zX (.k (.int .i64 2)) 1)]) (.goto 2)) .skip
abbrev Q38:AC:= .seq (.run [.m 102 cj, .o 103 (.aw cR 0), .o 104 (.load abV true 13), .c 105 qj [abU,abW], .m 12 abX]) (.seq (.run [.m 106 cj, .o 107 (.cz abY), .o 108 (.aw abZ 6), .o 109 (.aw ab0 0), .o 110 (.load alc false 1), .o 111 (.bin .eql ab1 (.k (.int .i64 0)))]) (.cond ab2 (.goto 0) .skip))
abbrev Q3C:AC:= .cond Zq (.run [.m 96 cj, .o 97 (.aw cR 0), .o 98 (.load ahq true 13), .c 99 qH [ahp,ahr], .m 13 ahs]) (.seq (.run [.o 101 (.bin .eql Ji (.k (.int .i64 9))), .m 100 abT]) (.cond abS Q38 (.run [.m 91 cj, .o 92 (.load cR true 17), .c 93 sw [M5,Tc], .m 13 Zp])))
abbrev Q3E:AC:= .block 2 (.seq (.run [.o 95 (.bin .eql Ji (.k (.int .i64 4))), .m 94 Zr]) Q3C)
abbrev Q3O:AC:= .seq (.run [.m 127 cj, .o 128 (.cz aci), .o 129 (.aw Hv 6), .o 130 (.load acj true 5), .op none none (.store cW ack 5), .o 9 (.mv (.k (.int .i64 0)))]) .ret
abbrev Q3Q:AC:= .seq (.seq (.run [.m 121 cj, .o 122 (.cz acb), .o 123 (.aw ace 6), .o 124 (.aw acf 0), .o 125 (.load acg false 1), .o 126 (.bin .eql ach (.k (.int .i64 0)))]) (.cond ald (.goto 1) .skip)) (.seq (.label 2) Q3O)
abbrev Q3R:AC:= .seq (.run [.m 118 cj, .m 119 dd, .c 120 qk [ab8,ab9], .m 13 aca]) Q3Q
abbrev Q3U:AC:= .seq (.seq (.run [.m 112 cj, .o 113 (.cz Td), .o 114 (.aw ab3 6), .o 115 (.aw ab4 0), .o 116 (.load ab5 false 1), .o 117 (.bin .eql ab6 (.k (.int .i64 0)))]) (.cond ab7 (.goto 1) .skip)) (.seq (.goto 2) (.seq (.label 0) Q3R))
abbrev Q3X:AC:= .seq (.run [.m 68 cj, .o 69 (.cz xL), .o 70 (.aw BG 6), .o 71 (.aw BH 1), .o 72 (.load F6 false 1), .o 73 (.bin .add DL (.k (.int .i64 1))), .o 74 (.cz xL), .o 75 (.aw F7 6), .o 76 (.aw F8 1), .op none none (.store DN DM 1)]) (.seq (.run [.m 77 cj, .o 78 (.cz F9), .o 79 (.aw BI 0), .o 80 (.load Jf false 1), .o 81 (.cz Jg), .o 82 (.aw Jh 2), .o 83 (.load MV false 1), .m 84 dk, .o 85 (.bin .sub MX (.k (.int .i64 1))), .o 86 (.cu MW MY 17), .o 87 (.load MZ true 17), .op none none (.store cR M3 17)]) (.seq (.seq (.run [.o 88 (.aw cR 0), .o 89 (.aw M4 1), .o 90 (.load Ga false 1)]) Q3E) Q3U))
abbrev Q3Z:AC:= .seq Q2S (.seq (.seq (.run [.m 57 cj, .o 58 (.cz qL), .o 59 (.aw ql 6), .o 60 (.aw od 1), .o 61 (.load rF false 1), .m 62 dC, .o 63 (.bin .eql tC sx)]) Q2W) Q3X)
abbrev Q42:AC:= .seq (.run [.o 12 (.mv (.k (.int .i64 0)))]) (.seq (.run [.m 48 cj, .m 49 cj, .o 50 (.cz ng), .o 51 (.aw nz 0), .o 52 (.load ml false 1),(.c 53 jx [mn,(.k (.str [109,97,105,110]))]),(.c 54 kg [nc,nh,(.k (.slice .full 0 [])),(.k (.int .i64 0))]), .m 13 nA]) (.seq (.label 1) Q3Z))
abbrev Q43:AC:= .seq (.run [.o 11 (.alloc [(.int .i64 0),(.int .i64 0),(.slice .full 0 []),(.str []),(.str []),(.int .i64 0),(.int .i64 0),(.str []),(.slice .full 0 []),(.bool false),(.slice .full 0 []),(.slice .full 0 []),(.slice .full 0 []),(.int .i64 0),(.int .i64 0),(.int .i64 0),(.int .i64 0)])]) Q42
abbrev Q44:AC:= .seq (.seq (.run [.o 32 (.aw fK 0), .o 33 (.load iu false 1), .o 34 (.len ig), .o 35 (.mv (.k (.int .i64 0)))]) (.block 0 (.loop Q2H))) Q43
abbrev Q46:AC:= .seq (.seq (.run [.m 14 dC, .o 15 (.bin .lss da (.k (.int .i64 0))), .m 16 dE, .g 17 16 false (.mv dC), .g 18 16 false (.bin .gtr dN (.k (.int .i64 1000000))), .o 19 (.pick dn (.k (.bool true)) dJ), .m 20 ey, .g 21 20 false (.load fK true 2), .d 22 20 false rO [eB], .g 23 20 false (.un .not eD), .o 24 (.pick eC (.k (.bool true)) eO)]) Q26) (.seq (.run [.o 26 (.load fK true 2), .c 27 l9 [fD], .m 28 bu, .m 29 cL, .o 30 (.build [.eY,(.slice .full 0 []),(.slice .full 0 []),(.slice .full 0 []),(.slice .full 0 []),(.slice .full 0 []),(.int .i64 0),(.int .i64 0),(.int .i64 0),(.slice .full 0 []),(.slice .full 0 [])] [(0,(1,fM)),(2,(1,gp)),(3,(1,gw))]), .o 31 (.box gE), .m 10 gK]) Q44)
abbrev Q47:AC:= .scope Q46
abbrev Q48:AC:= .seq (.run [.o 4 (.box bG), .o 8 (.alloc [(.int .i64 0),(.int .i64 0),(.int .i64 0),(.slice .full 0 []),(.slice .full 0 [])]), .o 9 (.mv (.k (.int .i64 0)))]) Q47
abbrev Q4C:AC:= .seq (.run [.o 1 (.box bG), .o 2 (.mv (.k (.bool false)))]) (.seq (.run [.o 3 (.load bu true 2), .c 4 zQ [cL], .o 5 (.Fl fK 0 false 1), .o 6 (.bin .eql cq (.k (.int .i64 0))), .m 2 dH]) .ret)
abbrev Q4G:AC:= .seq (.run [.o 3 (.box bG), .o 6 (.mv (.k (.bool false)))]) (.seq (.run [.o 7 (.load cL true 2), .c 8 rO [c6], .m 9 cW, .g 10 9 true (.mv dC), .g 11 9 true (.bin .geq cj (.k (.int .i64 0))), .o 12 (.pick dr cR (.k (.bool false))), .m 13 dd, .g 14 13 true (.mv dC), .g 15 13 true (.bin .leq da (.k (.int .i64 400))), .o 16 (.pick dk dE (.k (.bool false))), .m 17 dn, .g 18 17 true (.mv bu), .g 19 17 true (.len dJ), .g 20 17 true (.bin .leq ey (.k (.int .i64 100))), .o 21 (.pick dN eC (.k (.bool false))), .m 6 eB]) .ret)
abbrev Q4I:AC:= .par [.o 10 (.load cL true 2), .m 11 bu, .m 12 dC, .o 13 (.load cL true 2), .c 14 wV [dk,(.k (.int .i64 0))], .c 15 xD [cj,cR,dd,da], .m 9 dE, .o 16 (.ext dr 0), .o 17 (.ext dr 1), .o 7 (.alloc [(.int .i64 0),(.int .i64 0),(.int .i64 0),(.slice .full 0 []),(.slice .full 0 [])]), .op none none (.store c6 dn 5), .m 8 dN] [(3,0),(4,0),(0,1),(1,0),(2,0),(5,0),(9,0),(6,0),(7,0),(10,0),(8,0),(11,0)]
abbrev Q4M:AC:= .seq (.run [.o 3 (.box bG), .o 6 (.alloc [(.int .i64 0),(.int .i64 0),(.int .i64 0),(.slice .full 0 []),(.slice .full 0 [])])]) (.seq Q4I (.seq (.run [.o 18 (.load c6 true 5), .op none none (.store dH dJ 5)]) .ret))
abbrev Q4O:AC:= .run [.o 5 (.aw dC 0), .o 6 (.load cq false 1), .o 7 (.aw cL 0), .o 8 (.load c6 false 1), .o 9 (.bin .eql dH cW), .m 10 dr, .g 11 10 true (.aw dC 1), .g 12 10 true (.load cR false 1), .g 13 10 true (.aw cL 1), .g 14 10 true (.load dk false 1), .g 15 10 true (.bin .eql dd da), .o 16 (.pick cj dE (.k (.bool false))), .m 17 dn, .g 18 17 true (.aw dC 2), .g 19 17 true (.load dJ false 1), .g 20 17 true (.aw cL 2), .g 21 17 true (.load eC false 1), .g 22 17 true (.bin .eql ey eB), .o 23 (.pick dN eD (.k (.bool false))), .m 24 eO, .g 25 24 true (.aw dC 3), .g 26 24 true (.load ff false 1), .g 27 24 true (.aw cL 3), .g 28 24 true (.load fM false 1), .d 29 24 true oM [fD,gp], .o 30 (.pick fb gw (.k (.bool false))), .m 4 gE]
abbrev Q4Q:AC:= .seq (.run [.o 2 (.box bG), .o 3 (.box bu), .o 4 (.mv (.k (.bool false)))]) (.seq Q4O .ret)
abbrev Q4V:AC:= .cond cj (.seq (.run [.o 4 (.mv (.k (.bool false)))]) .ret) .skip
abbrev Q51:AC:= .par [.m 16 bG, .m 17 cq, .o 18 (.cu dn dN 1), .o 19 (.load dJ false 1), .m 20 bu, .m 21 cq, .o 22 (.cu eC eB 1), .o 23 (.load eD false 1), .o 24 (.bin .neq ey eO)] [(0,0),(1,0),(2,0),(3,0),(4,0),(5,0),(6,0),(7,0),(8,0)]
abbrev Q54:AC:= .cond fb (.seq (.run [.o 4 (.mv (.k (.bool false)))]) .ret) .skip
abbrev Q5A:AC:= .seq (.cond da .skip (.exit 0)) (.seq (.block 1 (.seq (.run [.m 15 dk, .m 5 dE]) (.seq Q51 Q54))) (.run [.o 25 (.bin .add dk (.k (.int .i64 1))), .m 13 ff]))
abbrev Q5E:AC:= .seq (.run [.m 11 bG, .o 12 (.len cR), .o 13 (.mv (.k (.int .i64 0)))]) (.block 0 (.loop (.seq (.run [.o 14 (.bin .lss dk dd)]) Q5A)))
abbrev Q5H:AC:= .seq Q5E (.seq (.run [.o 4 (.mv (.k (.bool true)))]) .ret)
abbrev Q5J:AC:= .seq (.run [.o 4 (.mv (.k (.bool false)))]) (.seq (.seq (.run [.m 6 bG, .o 7 (.len dH), .m 8 bu, .o 9 (.len cW), .o 10 (.bin .neq c6 dr)]) Q4V) Q5H)
abbrev Q5N:AC:= .seq (.run [.o 1 (.box bG), .o 2 (.mv (.k (.bool false)))]) (.seq (.run [.o 3 (.load bu true 4), .c 4 rP [cL,(.k (.int .i64 20))], .m 2 fK]) .ret)
abbrev Q5S:AC:= .cond c6 (.seq (.run [.o 4 (.mv (.k (.int .i64 0)))]) .ret) .skip
abbrev Q5W:AC:= .seq (.seq (.run [.m 5 bG, .o 6 (.len cq), .o 7 (.bin .eql dH (.k (.int .i64 0)))]) Q5S) (.seq (.run [.m 8 bG, .m 9 bu, .m 10 bG, .o 11 (.len cj), .c 12 BA [dr,cR], .o 13 (.cu cW dd 1), .o 14 (.load dk false 1), .m 4 da]) .ret)
abbrev Q5X:AC:= .seq (.run [.o 4 (.mv (.k (.int .i64 0)))]) Q5W
abbrev Q68:AC:= .seq (.run [.o 13 (.cu dr cR 16), .o 14 (.load dk true 16), .o 7 (.alloc [(.int .i64 0),(.int .i64 0),(.slice .full 0 []),(.str []),(.str []),(.int .i64 0),(.int .i64 0),(.str []),(.slice .full 0 []),(.bool false),(.slice .full 0 []),(.slice .full 0 []),(.slice .full 0 []),(.int .i64 0),(.int .i64 0),(.bool false)]), .op none none (.store c6 da 16)]) (.seq (.run [.m 15 bu, .o 16 (.bin .eql dE (.k (.int .i64 0))), .m 17 dn, .g 18 17 false (.aw c6 0), .g 19 17 false (.aw dJ 1), .g 20 17 false (.load ey false 1), .g 21 17 false (.mv bu), .g 22 17 false (.bin .eql eC eB), .o 23 (.pick dN (.k (.bool true)) eD)]) (.cond eO (.run [.m 24 cq, .o 25 (.aw c6 0), .o 26 (.aw ff 0), .o 27 (.load fD false 1), .o 28 (.du [(.int .i64 0)] 1 1 [(0,fM)]), .o 29 (.app 1 8 fb gp), .m 5 gw]) .skip))
abbrev Q6C:AC:= .seq (.cond dd .skip (.exit 0)) (.seq (.block 1 Q68) (.run [.o 30 (.bin .add cR (.k (.int .i64 1))), .m 11 gE]))
abbrev Q6G:AC:= .seq (.run [.o 8 (.load dC true 2), .c 9 BB [cW], .o 10 (.len dr), .o 11 (.mv (.k (.int .i64 0)))]) (.block 0 (.loop (.seq (.run [.o 12 (.bin .lss cR cj)]) Q6C)))
abbrev Q6L:AC:= .seq (.run [.o 2 (.box bG), .o 4 (.mv (.k (.slice .full 0 [])))]) (.seq (.run [.o 5 (.mv (.k (.slice .full 0 [])))]) (.seq Q6G (.seq (.run [.m 31 cq, .m 4 gK]) .ret)))
abbrev Q6Q:AC:= .cond eO (.seq (.run [.o 2 (.mv (.k (.bool false)))]) .ret) .skip
abbrev Q6X:AC:= .run [.o 33 (.aw cq 1), .o 34 (.load ig false 1), .o 35 (.len iQ), .o 36 (.bin .gtr iw (.k (.int .i64 8))), .m 37 iJ, .g 38 37 false (.aw cq 2), .g 39 37 false (.load jL false 1), .g 40 37 false (.len jy), .g 41 37 false (.bin .gtr kq (.k (.int .i64 16))), .o 42 (.pick jk (.k (.bool true)) jZ), .m 43 kG, .g 44 43 false (.aw cq 0), .g 45 43 false (.load kH false 1), .d 46 43 false pI [lS], .g 47 43 false (.un .not lT), .o 48 (.pick kr (.k (.bool true)) na), .m 49 nc, .g 50 49 false (.aw cq 2), .g 51 49 false (.load nz false 1), .d 52 49 false oO [ml], .g 53 49 false (.un .not mn), .o 54 (.pick ng (.k (.bool true)) nh), .m 55 nA, .g 56 55 false (.aw cq 4), .g 57 55 false (.load pK false 1), .d 58 55 false oO [qL], .g 59 55 false (.un .not ql), .o 60 (.pick nB (.k (.bool true)) od)]
abbrev Q70:AC:= .cond rF (.seq (.run [.o 2 (.mv (.k (.bool false)))]) .ret) .skip
abbrev Q79:AC:= .cond F6 (.seq (.run [.o 2 (.mv (.k (.bool false)))]) .ret) .skip
abbrev Q7E:AC:= .seq (.block 3 (.seq (.run [.o 66 (.cu sx tF 2), .o 67 (.load zW true 2), .o 7 (.alloc [(.str []),(.bool false)]), .op none none (.store c6 zX 2)]) (.seq (.run [.o 68 (.aw c6 0), .o 69 (.load xL false 1), .c 70 pI [BG], .o 71 (.un .not BH)]) Q79))) (.run [.o 72 (.bin .add tF (.k (.int .i64 1))), .m 64 DL])
abbrev Q7I:AC:= .block 2 (.loop (.seq (.run [.o 65 (.bin .lss tF tD)]) (.seq (.cond xK .skip (.exit 2)) Q7E)))
abbrev Q7N:AC:= .cond F9 (.seq (.run [.o 2 (.mv (.k (.bool false)))]) .ret) .skip
abbrev Q7P:AC:= .seq (.seq (.run [.o 61 (.aw cq 1), .o 62 (.load tC false 1), .o 63 (.len sx), .o 64 (.mv (.k (.int .i64 0)))]) Q7I) (.seq (.run [.m 73 cL, .o 74 (.aw cq 3), .o 75 (.load F7 false 1), .c 76 lF [DM,F8,(.k (.int .i64 1))], .o 77 (.un .not DN)]) Q7N)
abbrev Q7U:AC:= .seq (.block 1 (.seq (.run [.o 31 (.cu fM gw 5), .o 32 (.load gK true 5), .o 5 (.alloc [(.str []),(.slice .full 0 []),(.slice .full 0 []),(.slice .full 0 []),(.slice .full 0 [])]), .op none none (.store cq iu 5)]) (.seq (.seq Q6X Q70) Q7P))) (.run [.o 78 (.bin .add gw (.k (.int .i64 1))), .m 29 BI])
abbrev Q7Y:AC:= .block 0 (.loop (.seq (.run [.o 30 (.bin .lss gw gp)]) (.seq (.cond gE .skip (.exit 0)) Q7U)))
abbrev Q82:AC:= .seq (.seq (.run [.o 26 (.aw bu 1), .o 27 (.load fD false 1), .o 28 (.len fM), .o 29 (.mv (.k (.int .i64 0)))]) Q7Y) (.seq (.run [.o 2 (.mv (.k (.bool true)))]) .ret)
abbrev Q84:AC:= .seq (.seq (.run [.o 8 (.aw bu 0), .o 9 (.load cW false 1), .o 10 (.len dr), .o 11 (.bin .gtr cj (.k (.int .i64 16))), .m 12 cR, .g 13 12 false (.aw bu 1), .g 14 12 false (.load dk false 1), .g 15 12 false (.len da), .g 16 12 false (.bin .gtr dE (.k (.int .i64 16))), .o 17 (.pick dd (.k (.bool true)) dn), .m 18 dN, .g 19 18 false (.aw bu 0), .g 20 18 false (.load ey false 1), .d 21 18 false oO [eC], .g 22 18 false (.un .not eB), .o 23 (.pick dJ (.k (.bool true)) eD)]) Q6Q) (.seq (.run [.o 24 (.build [(.int .i64 0)] []), .o 25 (.box fb), .m 3 ff]) Q82)
abbrev Q85:AC:= .seq (.run [.o 1 (.box bG), .o 2 (.mv (.k (.bool false)))]) Q84
open Go.Proofs
theorem lY:Has Tryz.prog yL 48 [(8,none)] Q0V:=⟨Tryz.f13,by kernel_rfl,by kernel_rfl⟩
set_option maxRecDepth 20000 in
theorem La : Has Tryz.prog zL 56 [(0, none)] Q11 := ⟨Tryz.f15, by kernel_rfl, by kernel_rfl⟩
theorem Lb:Has Tryz.prog zM 61 [(2,none)] Q21:=⟨Tryz.f16,by kernel_rfl,by kernel_rfl⟩
theorem wX:Has Tryz.prog xD 131 [(8,(some (true,5))),(9,none)] Q48:=⟨Tryz.f17,by kernel_rfl,by kernel_rfl⟩
theorem Lc:Has Tryz.prog rO 7 [(2,none)] Q4C:=⟨Tryz.f20,by kernel_rfl,by kernel_rfl⟩
theorem Hw:Has Tryz.prog wc 22 [(6,none)] Q4G:=⟨Tryz.f21,by kernel_rfl,by kernel_rfl⟩
theorem Hx:Has Tryz.prog sc 19 [(6,(some (true,5)))] Q4M:=⟨Tryz.f22,by kernel_rfl,by kernel_rfl⟩
theorem Hy:Has Tryz.prog we 31 [(4,none)] Q4Q:=⟨Tryz.f25,by kernel_rfl,by kernel_rfl⟩
theorem xM:Has Tryz.prog oM 26 [(4,none)] Q5J:=⟨Tryz.f28,by kernel_rfl,by kernel_rfl⟩
theorem Gb:Has Tryz.prog oN 5 [(2,none)] Q5N:=⟨Tryz.f29,by kernel_rfl,by kernel_rfl⟩
theorem CH:Has Tryz.prog zN 15 [(4,none)] Q5X:=⟨Tryz.f32,by kernel_rfl,by kernel_rfl⟩
theorem M6:Has Tryz.prog wV 32 [(4,none)] Q6L:=⟨Tryz.f33,by kernel_rfl,by kernel_rfl⟩
theorem M7:Has Tryz.prog q6 79 [(2,none)] Q85:=⟨Tryz.f36,by kernel_rfl,by kernel_rfl⟩
end Go.Abs
