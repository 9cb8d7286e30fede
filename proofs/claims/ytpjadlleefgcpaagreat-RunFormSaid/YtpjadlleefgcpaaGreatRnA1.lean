/-
  What is proved here: part 1 of the road to the claim (Frame, Frame2, Walk, Par, Par1, Par2, Par3, Step, Wp, Types, SelA, Lend, Sym, Frz, WpA, Mir, MirTree, Cnt, MirFlat, Nums, Codes0, Have0).
  No conditions.
-/
import Derived.Test.YtpjadlleefgcpaaGreatRnA0
import Derived.Attr
import Derived.Test.YtpjadlleefgcpaaGreatProg
import Derived.KernelRfl

set_option linter.unusedSimpArgs false
set_option linter.unusedVariables false
namespace Go.Abs
def Tag.ok (m:Nat):Tag→Bool
 | .tok t _=>decide (t<m)
 |_=>true
def Tag.cL (ts:List Nat):Tag→Tag
 | .tok t y=>match ts[t]? with|some t'=> .tok t' y|none=> .shared
 |g=>g
mutual
def D.ok (n m:Nat):D→Bool
 | .ptr o _=>decide (o<n)
 | .dt row _=>D.bI n m row
 | .slice g _ rows=>g.ok m && D.gR n m rows
 | .agg cs=>D.bI n m cs
 | .tuple ds=>D.bI n m ds
 | .fb _ o=>decide (o<n)
 | .fS _ cs=>D.bI n m cs
 | .fI o=>decide (o<n)
 | .dW _ o _ _=>decide (o<n)
 | .fc o _ _=>decide (o<n)
 |_=>true
def D.bI (n m:Nat):List D→Bool
 | []=>true
 |d::r=>D.ok n m d && D.bI n m r
def D.gR (n m:Nat):List (List D)→Bool
 | []=>true
 |d::r=>D.bI n m d && D.gR n m r
end
mutual
def D.cL (os ts:List Nat):D→D
 | .ptr o off=>match os[o]? with|some o'=> .ptr o' off|none=> .junk
 | .dt row off=> .dt (D.eD os ts row) off
 | .slice g z rows=> .slice (g.cL ts) z (D.nz os ts rows)
 | .agg cs=> .agg (D.eD os ts cs)
 | .tuple ds=> .tuple (D.eD os ts ds)
 | .junk=> .junk
 | .int k x=> .int k x
 | .bool b=> .bool b
 | .str l=> .str l
 | .dN=> .dN
 | .val v=> .val v
 | .fb T o=>match os[o]? with|some o'=> .fb T o'|none=> .junk
 | .fS f cs=> .fS f (D.eD os ts cs)
 | .fI o=>match os[o]? with|some o'=> .fI o'|none=> .junk
 | .dW z o g len=>match os[o]? with|some o'=> .dW z o' g len|none=> .junk
 | .fc o g off=>match os[o]? with|some o'=> .fc o' g off|none=> .junk
 | .dU z=> .dU z
def D.eD (os ts:List Nat):List D→List D
 | []=> []
 |d::r=>D.cL os ts d::D.eD os ts r
def D.nz (os ts:List Nat):List (List D)→List (List D)
 | []=> []
 |d::r=>D.eD os ts d::D.nz os ts r
end
theorem fG (os ts:List Nat) : ∀ l,D.eD os ts l=l.map (D.cL os ts)
 | []=>by simp[D.eD]
 |d::r=>by simp[D.eD,fG os ts r]
theorem Bf (os ts:List Nat) : ∀ l,D.nz os ts l=l.map (D.eD os ts)
 | []=>by simp[D.nz]
 |d::r=>by simp[D.nz,Bf os ts r]
theorem xg (n m:Nat) : ∀ l,D.bI n m l=l.all (D.ok n m)
 | []=>by simp[D.bI]
 |d::r=>by simp[D.bI,xg n m r]
theorem Dq (n m:Nat) : ∀ l,D.gR n m l=l.all (D.bI n m)
 | []=>by simp[D.gR]
 |d::r=>by simp[D.gR,Dq n m r]
theorem uG {n m:Nat} {l:List D} (h:D.bI n m l=true) {i:Nat} {d:D} (e:l[i]? = some d):D.ok n m d=true:=by
 rw[xg]at h;exact List.all_eq_true.1 h d (List.mem_of_getElem? e)
theorem Wu {n m:Nat} {l:List (List D)} (h:D.gR n m l=true) {i:Nat} {d:List D} (e:l[i]? = some d):D.bI n m d=true:=by
 rw[Dq]at h;exact List.all_eq_true.1 h d (List.mem_of_getElem? e)
section
variable {M M0:Map} {s s0:St} {os ts:List Nat}
theorem iB.Bg (ku : ∀ (i:Nat) t,ts[i]? = some t→M0.be i=M.be t) (ht : ∀ (i t:Nat),ts[i]? = some t→s0.av[i]? = s.av[t]?) (hlen:s0.av.length=ts.length) {g:Tag} {z len cap:Nat} {base:Option (Nat×Nat)} (l8:g.ok ts.length=true) (h:iB M s (g.cL ts) z len base cap):iB M0 s0 g z len base cap:=by
 cases g with
 |full=>exact h
 |shared=>exact h
 |tok t y=>
  have hD:t<ts.length:=by simpa[Tag.ok]using l8
  have e:ts[t]? = some ts[t]:=List.getElem?_eq_getElem hD
  simp only[Tag.cL,e]at h
  obtain⟨h1,h2⟩:=h
  refine⟨by omega,fun n hn=>?_⟩
  rw[ht t _ e]at hn
  rw[ku t _ e]
  exact h2 n hn
theorem RD.Bg (hG:M0.G=M.G) (iW : ∀ (i:Nat) o,os[i]? = some o→M0.loc i=M.loc o) (ju:s0.ah.length=os.length)
 (ku : ∀ (i:Nat) t,ts[i]? = some t→M0.be i=M.be t) (ht : ∀ (i t:Nat),ts[i]? = some t→s0.av[i]? = s.av[t]?) (hlen:s0.av.length=ts.length) {d:D} {v:Value} (h:RD M s d v) :
 ∀ d0:D,d0.cL os ts=d→d0.ok os.length ts.length=true→RD M0 s0 d0 v:=by
 have mA : ∀ (i:Nat) o,os[i]? = some o→M0.mu i=M.mu o:=fun i o h=>congrArg Prod.fst (iW i o h)
 have tag:=fun {g z len cap base}=>@iB.Bg M M0 s s0 ts ku ht hlen g z len cap base
 induction h with
 | junk v=>
  intro d0 e ok
  cases d0<;>simp only[D.cL]at e<;>try (cases e;done)
  ·exact .junk v
  ·rename_i o off
   have hD:o<os.length:=by simpa[D.ok]using ok
   rw[List.getElem?_eq_getElem hD]at e;cases e
  ·rename_i T o
   have hD:o<os.length:=by simpa[D.ok]using ok
   rw[List.getElem?_eq_getElem hD]at e;cases e
  ·rename_i o
   have hD:o<os.length:=by simpa[D.ok]using ok
   rw[List.getElem?_eq_getElem hD]at e;cases e
  ·rename_i z o g len
   have hD:o<os.length:=by simpa[D.ok]using ok
   rw[List.getElem?_eq_getElem hD]at e;cases e
  ·rename_i o g off
   have hD:o<os.length:=by simpa[D.ok]using ok
   rw[List.getElem?_eq_getElem hD]at e;cases e
 |dU z a=>intro d0 e ok;cases d0<;>simp only[D.cL]at e<;>first|(cases e;exact .dU _ _)|(split at e<;>cases e)|cases e
 |dW z o g len b cap A ho hm ha hl=>
  intro d0 e ok
  cases d0<;>simp only[D.cL]at e<;>first|(cases e;done)|skip
  all_goals try (split at e<;>cases e;done)
  rename_i z0 o0 g0 LJ
  have hD:o0<os.length:=by simpa[D.ok]using ok
  rw[List.getElem?_eq_getElem hD]at e
  cases e
  exact RD.dW (s:=s0) z o0 g len b cap A (by omega) ((congrArg Prod.snd (iW o0 _ (List.getElem?_eq_getElem hD))).trans hm) ha hl
 |fc z o g off b cap A ho hm ha=>
  intro d0 e ok
  cases d0<;>simp only[D.cL]at e<;>first|(cases e;done)|skip
  all_goals try (split at e<;>cases e;done)
  rename_i o0 g0 RH
  have hD:o0<os.length:=by simpa[D.ok]using ok
  rw[List.getElem?_eq_getElem hD]at e
  cases e
  exact RD.fc (s:=s0) z o0 g off b cap A (by omega) ((congrArg Prod.snd (iW o0 _ (List.getElem?_eq_getElem hD))).trans hm) ha
 |val v hv=>intro d0 e ok;cases d0<;>simp only[D.cL]at e<;>first|(cases e;exact .val _ hv)|(split at e<;>cases e)|cases e
 |fb T o v ho ht hv=>
  intro d0 e ok
  cases d0<;>simp only[D.cL]at e<;>first|(split at e<;>cases e;done)|skip
  all_goals try (cases e;done)
  rename_i T0 o0
  have hD:o0<os.length:=by simpa[D.ok]using ok
  rw[List.getElem?_eq_getElem hD]at e
  cases e
  have hl:=iW o0 _ (List.getElem?_eq_getElem hD)
  exact .fb _ o0 v (by omega) ((congrArg (fun x=>x.2.ty?) hl).trans ht) (by rw[mA o0 _ (List.getElem?_eq_getElem hD)];exact hv)
 |int k x=>intro d0 e ok;cases d0<;>simp only[D.cL]at e<;>first|(cases e;exact .int _ _)|(split at e<;>cases e)|cases e
 |bool b=>intro d0 e ok;cases d0<;>simp only[D.cL]at e<;>first|(cases e;exact .bool _)|(split at e<;>cases e)|cases e
 |str l=>intro d0 e ok;cases d0<;>simp only[D.cL]at e<;>first|(cases e;exact .str _)|(split at e<;>cases e)|cases e
 |dN=>intro d0 e ok;cases d0<;>simp only[D.cL]at e<;>first|(cases e;exact .dN)|(split at e<;>cases e)|cases e
 |fI o ho hm=>
  intro d0 e ok
  cases d0<;>simp only[D.cL]at e<;>first|(cases e;done)|skip
  all_goals try (split at e<;>cases e;done)
  rename_i o0
  have hD:o0<os.length:=by simpa[D.ok]using ok
  rw[List.getElem?_eq_getElem hD]at e
  cases e
  rw[← mA o0 _ (List.getElem?_eq_getElem hD)]
  exact RD.fI (s:=s0) o0 (by omega) ((congrArg Prod.snd (iW o0 _ (List.getElem?_eq_getElem hD))).trans hm)
 |fS f ds vs hl _ ih=>
  intro d0 e ok
  cases d0<;>simp only[D.cL]at e<;>first|(split at e<;>cases e;done)|skip
  all_goals try (cases e;done)
  rename_i f0 OV
  simp only[D.fS.injEq]at e
  obtain⟨rfl,rfl⟩:=e
  simp only[D.ok]at ok
  rw[fG]at hl ih
  refine .fS _ OV vs (by simpa using hl) (fun i d v e1 e2=>ih i _ v (by rw[List.getElem?_map,e1];rfl) e2 d rfl (uG ok e1))
 |ptr o off ho hm=>
  intro d0 e ok
  cases d0<;>simp only[D.cL]at e<;>first|(cases e;done)|skip
  all_goals try (split at e<;>cases e;done)
  rename_i o0 RH
  have hD:o0<os.length:=by simpa[D.ok]using ok
  rw[List.getElem?_eq_getElem hD]at e
  cases e
  rw[← mA o0 _ (List.getElem?_eq_getElem hD)]
  exact RD.ptr (s:=s0) o0 _ (by omega) (by rw[show M0.ob o0=_ from congrArg Prod.snd (iW o0 _ (List.getElem?_eq_getElem hD))];exact hm)
 |dt row off b k h1 h2 ih=>
  intro d0 e ok
  cases d0<;>simp only[D.cL]at e<;>first|(split at e<;>cases e;done)|skip
  all_goals try (cases e;done)
  rename_i ahF RH
  simp only[D.dt.injEq]at e
  obtain⟨rfl,rfl⟩:=e
  simp only[D.ok]at ok
  rw[fG]at h1 ih
  refine .dt ahF RH b k (fun i d e=>?_) (fun i d u e eu=>?_)
  ·rw[hG];exact h1 i _ (by rw[List.getElem?_map,e];rfl)
  ·rw[hG]at eu;exact ih i _ u (by rw[List.getElem?_map,e];rfl) eu d rfl (uG ok e)
 |iz g z cap hc o6=>
  intro d0 e ok
  cases d0<;>simp only[D.cL]at e<;>first|(split at e<;>cases e;done)|skip
  all_goals try (cases e;done)
  rename_i g0 z0 jV
  simp only[D.slice.injEq]at e
  obtain⟨rfl,rfl,e⟩:=e
  have:jV = []:=by cases jV<;>simp[D.nz]at e;rfl
  subst this
  simp only[D.ok,Bool.and_eq_true]at ok
  exact .iz g0 z0 cap hc (tag ok.1 o6)
 | k6 z a cap=>
  intro d0 e ok
  cases d0<;>simp only[D.cL]at e<;>first|(split at e<;>cases e;done)|skip
  all_goals try (cases e;done)
  rename_i g0 z0 jV
  simp only[D.slice.injEq]at e
  obtain⟨hg,rfl,e⟩:=e
  have:jV = []:=by cases jV<;>simp[D.nz]at e;rfl
  subst this
  simp only[D.ok,Bool.and_eq_true]at ok
  have:g0 = .shared:=by
   cases g0 with
   |tok t y=>
    have ht:t<ts.length:=by simpa[Tag.ok]using ok.1
    simp[Tag.cL,ht]at hg
   |shared=>rfl
   |_=>simp[Tag.cL]at hg
  subst this
  exact .k6 _ a cap
 | slice g z rows b k cap hl hs h1 h2 o6 ih=>
  intro d0 e ok
  cases d0<;>simp only[D.cL]at e<;>first|(split at e<;>cases e;done)|skip
  all_goals try (cases e;done)
  rename_i g0 z0 jV
  simp only[D.slice.injEq]at e
  obtain⟨rfl,rfl,rfl⟩:=e
  simp only[D.ok,Bool.and_eq_true]at ok
  rw[Bf]at hl hs h1 ih o6
  simp only[Bf,List.length_map]at hl o6 ⊢
  have dS : ∀ (i:Nat) (row:List D),jV[i]? = some row→(jV.map (D.eD os ts))[i]? = some (D.eD os ts row):=fun i row e=>by rw[List.getElem?_map,e];rfl
  have ik : ∀ (row:List D) (j:Nat) (d:D),row[j]? = some d→(D.eD os ts row)[j]? = some (D.cL os ts d):=fun row j d e=>by rw[fG,List.getElem?_map,e];rfl
  refine .slice g0 z0 jV b k cap hl (fun row hr=>?_) (fun i row j d e1 e2=>?_) (fun i row j d u e1 e2 eu=>?_) (tag ok.1 o6)
  ·have:=hs (D.eD os ts row) (List.mem_map.2 ⟨row,hr,rfl⟩)
   rwa [fG,List.length_map]at this
  ·rw[hG];exact h1 i _ j _ (dS i row e1) (ik row j d e2)
  ·rw[hG]at eu;exact ih i _ j _ u (dS i row e1) (ik row j d e2) eu d rfl (uG (Wu ok.2 e1) e2)
 |agg cells vs hl h1 _ ih=>
  intro d0 e ok
  cases d0<;>simp only[D.cL]at e<;>first|(split at e<;>cases e;done)|skip
  all_goals try (cases e;done)
  rename_i OV
  simp only[D.agg.injEq]at e
  subst e
  simp only[D.ok]at ok
  rw[fG]at hl ih
  refine .agg OV vs (by simpa using hl) h1 (fun i d v e1 e2=>ih i _ v (by rw[List.getElem?_map,e1];rfl) e2 d rfl (uG ok e1))
 |tuple ds vs hl _ ih=>
  intro d0 e ok
  cases d0<;>simp only[D.cL]at e<;>first|(split at e<;>cases e;done)|skip
  all_goals try (cases e;done)
  rename_i OV
  simp only[D.tuple.injEq]at e
  subst e
  simp only[D.ok]at ok
  rw[fG]at hl ih
  refine .tuple OV vs (by simpa using hl) (fun i d v e1 e2=>ih i _ v (by rw[List.getElem?_map,e1];rfl) e2 d rfl (uG ok e1))
theorem RD.cL (hG:M0.G=M.G) (iW : ∀ i,i<s0.ah.length→∃ o,os[i]? = some o∧o<s.ah.length∧M.loc o=M0.loc i)
 (ku : ∀ i,i<s0.av.length→∃ t,ts[i]? = some t∧t<s.av.length∧s.av[t]? = s0.av[i]? ∧M.be t=M0.be i) {d:D} {v:Value} (h:RD M0 s0 d v):RD M s (d.cL os ts) v:=by
 have tag : ∀ {g:Tag} {z len cap:Nat} {base:Option (Nat×Nat)},iB M0 s0 g z len base cap→iB M s (g.cL ts) z len base cap:=by
  intro g z len cap base h
  cases g with
  |full=>exact h
  |shared=>exact h
  |tok t y=>
   obtain⟨h1,h2⟩:=h
   obtain⟨t',e,hD,Hp,hb⟩:=ku t h1
   simp only[Tag.cL,e]
   refine⟨hD,fun n hn=>?_⟩
   rw[hb]
   exact h2 n (Hp ▸ hn)
 induction h with
 |junk v=>simp only[D.cL];exact .junk v
 |int k x=>simp only[D.cL];exact .int k x
 |bool b=>simp only[D.cL];exact .bool b
 |str l=>simp only[D.cL];exact .str l
 |dN=>simp only[D.cL];exact .dN
 |ptr o off ho hk=>
  obtain⟨o',e,hD,hm⟩:=iW o ho
  simp only[D.cL,e]
  have hb:M.ob o'=M0.ob o:=congrArg Prod.snd hm
  have hm:M.mu o'=M0.mu o:=congrArg Prod.fst hm
  rw[← hm]
  exact .ptr o' off hD (by rw[hb];exact hk)
 |fI o ho hk=>
  obtain⟨o',e,hD,hm⟩:=iW o ho
  simp only[D.cL,e]
  have hb:M.ob o'=M0.ob o:=congrArg Prod.snd hm
  have hm:M.mu o'=M0.mu o:=congrArg Prod.fst hm
  rw[← hm]
  exact .fI o' hD (by rw[hb];exact hk)
 |dU z a=>simp only[D.cL];exact .dU z a
 |dW z o g len b cap A ho hk ha hl=>
  obtain⟨o',e,hD,hm⟩:=iW o ho
  simp only[D.cL,e]
  exact .dW z o' g len b cap A hD ((congrArg Prod.snd hm).trans hk) ha hl
 |fc z o g off b cap A ho hk ha=>
  obtain⟨o',e,hD,hm⟩:=iW o ho
  simp only[D.cL,e]
  exact .fc z o' g off b cap A hD ((congrArg Prod.snd hm).trans hk) ha
 |fS f ds vs hl _ ih=>
  simp only[D.cL,fG]
  refine .fS f _ vs (by simpa using hl) (fun i d v e1 e2=>?_)
  simp only[List.getElem?_map,Option.map_eq_some_iff]at e1
  obtain⟨d',e1,rfl⟩:=e1
  exact ih i d' v e1 e2
 |val v hv=>simp only[D.cL];exact .val v hv
 |fb T o v ho ht hv=>
  obtain⟨o',e,hD,hm⟩:=iW o ho
  simp only[D.cL,e]
  have h1:M.mu o'=M0.mu o:=congrArg Prod.fst hm
  have h2:M.ty o'=M0.ty o:=congrArg (fun x=>x.2.ty?) hm
  exact .fb T o' v hD (by rw[h2];exact ht) (by rw[h1];exact hv)
 | dt row off b k h1 h2 ih=>
  simp only[D.cL,fG]
  refine .dt _ off b k (fun i d e=>?_) (fun i d u e eu=>?_)
  ·simp only [List.getElem?_map,Option.map_eq_some_iff]at e
   obtain⟨d',e,rfl⟩:=e
   rw[← hG];exact h1 i d' e
  ·simp only [List.getElem?_map,Option.map_eq_some_iff]at e
   obtain⟨d',e,rfl⟩:=e
   rw[← hG]at eu;exact ih i d' u e eu
 |iz g z cap hc ht=>simp only[D.cL,D.nz];exact .iz _ z cap hc (tag ht)
 |k6 z a cap=>simp only[D.cL,D.nz,Tag.cL];exact .k6 z a cap
 | slice g z rows b k cap hl hs h1 h2 ht ih=>
  simp only[D.cL,Bf]
  have hlen:(rows.map (D.eD os ts)).length=rows.length:=by simp
  have key:=RD.slice (M:=M) (s:=s) (g.cL ts) z (rows.map (D.eD os ts)) b k cap (by rw[hlen];exact hl) (fun row hr=>by
   obtain⟨j8,h',rfl⟩:=List.mem_map.1 hr
   rw[fG,List.length_map];exact hs j8 h')
   (fun i row j d e1 e2=>by
    simp only[List.getElem?_map,Option.map_eq_some_iff]at e1
    obtain⟨j8,e1,rfl⟩:=e1
    rw[fG]at e2
    simp only[List.getElem?_map,Option.map_eq_some_iff]at e2
    obtain⟨d',e2,rfl⟩:=e2
    rw[← hG];exact h1 i j8 j d' e1 e2)
   (fun i row j d u e1 e2 eu=>by
    simp only[List.getElem?_map,Option.map_eq_some_iff]at e1
    obtain⟨j8,e1,rfl⟩:=e1
    rw[fG]at e2
    simp only[List.getElem?_map,Option.map_eq_some_iff]at e2
    obtain⟨d',e2,rfl⟩:=e2
    rw[← hG]at eu;exact ih i j8 j d' u e1 e2 eu)
   (by rw[hlen];exact tag ht)
  rw[hlen]at key
  exact key
 |agg cells vs hl h1 _ ih=>
  simp only[D.cL,fG]
  refine .agg _ vs (by simpa using hl) h1 (fun i d v e1 e2=>?_)
  simp only[List.getElem?_map,Option.map_eq_some_iff]at e1
  obtain⟨d',e1,rfl⟩:=e1
  exact ih i d' v e1 e2
 |tuple ds vs hl _ ih=>
  simp only[D.cL,fG]
  refine .tuple _ vs (by simpa using hl) (fun i d v e1 e2=>?_)
  simp only[List.getElem?_map,Option.map_eq_some_iff]at e1
  obtain⟨d',e1,rfl⟩:=e1
  exact ih i d' v e1 e2
def kn {α:Type} : List Nat→List α→List α→List α
 | [],new,l=>l++new
 |_::_,[],l=>l
 |o::os,x::xs,l=>kn os xs (l.set o x)
def ki (os:List Nat) (n k:Nat):List Nat:=os++(List.range k).map (n + ·)
theorem wk {α:Type} : ∀ (os:List Nat) (xs l:List α),os.length≤xs.length→(kn os xs l).length=l.length+(xs.length - os.length)
 | [],xs,l,_=>by simp[kn]
 |o::os,[],l,h=>by simp at h
 |o::os,x::xs,l,h=>by
  simp only[kn]
  rw[wk os xs _ (by simpa using h)]
  simp
theorem Ct {α:Type} : ∀ (os:List Nat) (xs l:List α),os.length≤xs.length→os.Nodup→(∀ o∈os,o<l.length)→
 (∀ (i:Nat) (o:Nat),os[i]? = some o→(kn os xs l)[o]? = xs[i]?)∧(∀ o,o<l.length→o∉os→(kn os xs l)[o]? = l[o]?)∧
 (∀ k,(kn os xs l)[l.length+k]? = xs[os.length+k]?)
 | [],xs,l,_,_,_=>by
  refine⟨by simp,fun o ho _=>by simp only[kn];rw[List.getElem?_append_left ho],fun k=>by simp only[kn];rw[List.getElem?_append_right (by omega)];simp⟩
 |o::os,[],l,h,_,_=>by simp at h
 | o::os,x::xs,l,h,hn,hD=>by
  simp only[List.nodup_cons]at hn
  have zb : ∀ q∈os,q<(l.set o x).length:=fun q hq=>by simpa using hD q (by simp[hq])
  obtain⟨h1,h2,h3⟩:=Ct os xs (l.set o x) (by simpa using h) hn.2 zb
  have ho:o<l.length:=hD o (by simp)
  simp only[kn]
  refine⟨fun i q e=>?_,fun q hq Ag=>?_,fun k=>?_⟩
  ·cases i with
   |zero=>
    simp only[List.getElem?_cons_zero,Option.some.injEq]at e
    subst e
    rw[h2 o (by simpa using ho) hn.1]
    simp[ho]
   |succ i=>simpa using h1 i q (by simpa using e)
  ·have uD:q≠o:=fun e=>Ag (by simp [e])
   rw[h2 q (by simpa using hq) (fun h=>Ag (by simp[h])),List.getElem?_set_ne (Ne.symm uD)]
  ·have:=h3 k
   simp only[List.length_set]at this
   rw[this]
   simp only[List.length_cons]
   rw[show os.length+1+k=(os.length+k)+1 by omega];simp
theorem B2 (os:List Nat) (n k i:Nat):(ki os n k)[i]? = if i<os.length then os[i]? else if i<os.length+k then some (n+(i - os.length))else none:=by
 unfold ki
 split
 ·rename_i h;rw[List.getElem?_append_left h]
 ·rename_i h
  rw[List.getElem?_append_right (by omega)]
  split
  ·rename_i h2
   rw[List.getElem?_map,List.getElem?_range (by omega)];rfl
  ·rename_i h2
   rw[List.getElem?_eq_none]
   simp;omega
def posOf:List Nat→Nat→Option Nat
 | [],_=>none
 |x::r,o=>if x=o then some 0 else(posOf r o).map (· + 1)
theorem iC : ∀ {l:List Nat} {o i:Nat},posOf l o=some i→l[i]? = some o
 | x::r,o,i,h=>by
  simp only[posOf]at h
  split at h
  ·rename_i e;cases h;simp[e]
  ·cases hp:posOf r o with
   |none=>rw[hp]at h;cases h
   |some j=>rw[hp]at h;cases h;simpa using iC hp
theorem lJ : ∀ {l:List Nat} {o i:Nat},l.Nodup→l[i]? = some o→posOf l o=some i
 | x::r,o,i,hn,h=>by
  simp only[List.nodup_cons]at hn
  simp only[posOf]
  cases i with
  |zero=>simp at h;simp[h]
  |succ i=>
   simp at h
   have:x≠o:=fun e=>hn.1 (by rw[e];exact List.mem_of_getElem? h)
   rw[if_neg this,lJ hn.2 h];rfl
end
end Go.Abs
namespace Go.Abs
theorem zc {l:List Nat} {n k:Nat} (h:l.Nodup) (hl : ∀ o∈l,o<n):(ki l n k).Nodup:=by
 unfold ki
 rw[List.nodup_append]
 refine⟨h, ?_,fun a ha b hb=>?_⟩
 ·rw [List.nodup_iff_pairwise_ne,List.pairwise_map]
  exact List.Pairwise.imp (fun h=>by omega) (List.nodup_iff_pairwise_ne.1 List.nodup_range)
 ·obtain⟨c,hc,rfl⟩:=List.mem_map.1 hb
  have:=hl a ha
  omega
def gw (M:Map) (os ts:List Nat):Map:=⟨M.G,fun i=>M.loc (os.getD i 0),fun i=>M.be (ts.getD i 0)⟩
def xh (M M0:Map) (os ts:List Nat):Map:=
 ⟨M0.G,fun o=>match posOf os o with|some i=>M0.loc i|none=>M.loc o,fun t=>match posOf ts t with|some i=>M0.be i|none=>M.be t⟩
section
variable {P:Program} {M:Map} {s s0:St} {w:World} {os ts:List Nat}
theorem ur {l:List Nat} {i o:Nat} (h:l[i]? = some o):l.getD i 0=o:=by simp[List.getD,h]
theorem Rel.sub (r:Rel M s w) (tF:os.Nodup) (uH:ts.Nodup) (ju : ∀ o∈os,o<s.ah.length)
 (ho:s0.ah.length=os.length) (wm : ∀ (i o:Nat) (ds:List D),os[i]? = some o→s0.ah[i]? = some ds→s.ah[o]? = some (D.eD os ts ds)∧D.bI os.length ts.length ds=true)
 (ht:s0.av.length=ts.length) (sZ : ∀ (i t:Nat),ts[i]? = some t→s0.av[i]? = s.av[t]?):Rel (gw M os ts) s0 w:=by
 have nth : ∀ i,i<s0.ah.length→∃ o,os[i]? = some o∧o<s.ah.length:=fun i hi=>⟨os[i],List.getElem?_eq_getElem (by omega),ju _ (List.getElem_mem _)⟩
 have loc : ∀ (i:Nat) o,os[i]? = some o→(gw M os ts).loc i=M.loc o:=fun i o h=>by simp only[gw,ur h]
 have mu : ∀ (i:Nat) o,os[i]? = some o→(gw M os ts).mu i=M.mu o:=fun i o h=>congrArg Prod.fst (loc i o h)
 have be : ∀ (i:Nat) t,ts[i]? = some t→(gw M os ts).be i=M.be t:=fun i t h=>by simp only[gw,ur h]
 have UE : ∀ t,s0.live t→∃ t',ts[t]? = some t'∧s.live t':=fun t ⟨n,hn⟩=>by
  have hD:=(List.getElem?_eq_some_iff.1 hn).1
  have e:ts[t]? = some ts[t]:=List.getElem?_eq_getElem (by omega)
  exact⟨_,e,n,by rw[← sZ t _ e];exact hn⟩
 refine⟨r.comm,fun i ds e=>?_,fun i hi off=>?_,fun i i' hi gI e=>?_,fun t n e=>?_,fun t b c z i hl e hi=>?_,fun t t' b c z c' z' h h' e e'=>?_⟩
 ·obtain⟨o,h1,_⟩:=nth i (List.getElem?_eq_some_iff.1 e).1
  obtain⟨h2,h3⟩:=wm i o ds h1 e
  obtain⟨vs,T,g1,g2,g3,g4⟩:=r.obj o _ h2
  refine⟨vs,T,by rw[loc i o h1];exact g1,by rw[fG]at g2;simpa using g2,⟨g3.1,by rw[show(gw M os ts).ty i=M.ty o from congrArg (fun x=>x.2.ty?) (loc i o h1)];exact g3.2⟩,fun j d v e1 e2=>?_⟩
  exact RD.Bg (M:=M) (M0:=gw M os ts) (s:=s) rfl loc ho be sZ ht (g4 j (d.cL os ts) v (by rw[fG,List.getElem?_map,e1];rfl) e2) d rfl (uG h3 e1)
 ·obtain⟨o,h1,h2⟩:=nth i hi
  rw[mu i o h1];exact r.jv o h2 off
 ·obtain⟨o,h1,h2⟩:=nth i hi
  obtain⟨o',rm,tG⟩:=nth i' gI
  rw[mu i o h1,mu i' o' rm]at e
  have:=r.inj o o' h2 tG e
  subst this
  have a:=lJ tF h1
  have b:=lJ tF rm
  rw[a]at b;cases b;rfl
 ·obtain⟨t',h1,h2⟩:=UE t ⟨n,e⟩
  rw[be t t' h1]
  exact r.tok t' n (by rw[← sZ t t' h1];exact e)
 ·obtain⟨t',h1,h2⟩:=UE t hl
  obtain⟨o,h3,h4⟩:=nth i hi
  rw[be t t' h1]at e
  rw[mu i o h3]
  exact r.eZ t' b c z o h2 e h4
 ·obtain⟨q,h1,h2⟩:=UE t h
  obtain⟨q',rm,tG⟩:=UE t' h'
  rw[be t q h1]at e
  rw[be t' q' rm]at e'
  have:=r.fJ q q' b c z c' z' h2 tG e e'
  subst this
  have a:=lJ uH h1
  have b:=lJ uH rm
  rw[a]at b;cases b;rfl
end
def St.back (s:St) (os ts:List Nat) (s':St):St:=
 ⟨kn os (s'.ah.map (D.eD (ki os s.ah.length (s'.ah.length - os.length)) (ki ts s.av.length (s'.av.length - ts.length)))) s.ah,kn ts s'.av s.av⟩
def D.back (s:St) (os ts:List Nat) (s':St) (d:D):D:=
 d.cL (ki os s.ah.length (s'.ah.length - os.length)) (ki ts s.av.length (s'.av.length - ts.length))
theorem bG.frame {P:Program} {f:FuncId} {LK args:List D} {s s0:St} {Q0 Q:D→St→Prop} (os ts:List Nat) (h:bG P f LK s0 Q0) (tF:os.Nodup) (uH:ts.Nodup) (ju : ∀ o∈os,o<s.ah.length) (w5 : ∀ t∈ts,t<s.av.length)
 (ho:s0.ah.length=os.length) (wm : ∀ (i o:Nat) (ds:List D),os[i]? = some o→s0.ah[i]? = some ds→s.ah[o]? = some (D.eD os ts ds)∧D.bI os.length ts.length ds=true)
 (ht:s0.av.length=ts.length) (sZ : ∀ (i t:Nat),ts[i]? = some t→s0.av[i]? = s.av[t]?)
 (yc:args=D.eD os ts LK) (l8:D.bI os.length ts.length LK=true) (k : ∀ d s',Q0 d s'→Q (d.back s os ts s') (s.back os ts s')):bG P f args s Q:=by
 intro M w fz r kh dK ha
 have r0:=r.sub tF uH ju ho wm ht sZ
 have loc : ∀ (i:Nat) o,os[i]? = some o→(gw M os ts).loc i=M.loc o:=fun i o h=>by simp only[gw,ur h]
 have mu : ∀ (i:Nat) o,os[i]? = some o→(gw M os ts).mu i=M.mu o:=fun i o h=>congrArg Prod.fst (loc i o h)
 have be : ∀ (i:Nat) t,ts[i]? = some t→(gw M os ts).be i=M.be t:=fun i t h=>by simp only[gw,ur h]
 subst yc
 have Zd:Laid (gw M os ts) s0 w:=by
  intro g cs hg
  obtain⟨h1,h2,h3⟩:=kh g cs hg
  refine⟨h1,fun o hD=>?_,fun t c z hl hb=>?_⟩
  ·obtain⟨o',nc⟩ : ∃ o',os[o]? = some o':=⟨_,List.getElem?_eq_getElem (by omega)⟩
   rw[mu o o' nc]
   exact h2 o' (ju o' (List.mem_of_getElem? nc))
  ·obtain⟨n,hn⟩:=hl
   have hD:=(List.getElem?_eq_some_iff.1 hn).1
   obtain⟨t',OW⟩ : ∃ t',ts[t]? = some t':=⟨_,List.getElem?_eq_getElem (by omega)⟩
   rw[be t t' OW]at hb
   exact h3 t' c z ⟨n,by rw[← sZ t t' OW];exact hn⟩ hb
 have hc:=h (gw M os ts) w fz r0 Zd (by rw[dK,fG,List.length_map]) (fun i d v e1 e2=>
  RD.Bg (M:=M) (M0:=gw M os ts) (s:=s) rfl loc ho be sZ ht (ha i (d.cL os ts) v (by rw[fG,List.getElem?_map,e1];rfl) e2) d rfl (uG l8 e1))
 refine hc.mono ?_
 rintro en w' ⟨xi,d,v,s',rfl,hq,e,r',hv⟩
 have Ht:=e.le.n
 have Df:=e.le.t
 generalize LL:ki os s.ah.length (s'.ah.length - os.length)=ln
 generalize LM:ki ts s.av.length (s'.av.length - ts.length)=ox
 have nd:ln.Nodup:=by rw[← LL];exact zc tF ju
 have ndt:ox.Nodup:=by rw[← LM];exact zc uH w5
 have LN : ∀ i,ln[i]? = if i<os.length then os[i]? else if i<s'.ah.length then some (s.ah.length+(i - os.length))else none:=fun i=>by
  rw[← LL,B2];split
  ·rfl
  ·rw[show os.length+(s'.ah.length - os.length)=s'.ah.length by omega]
 have LO : ∀ i,ox[i]? = if i<ts.length then ts[i]? else if i<s'.av.length then some (s.av.length+(i - ts.length))else none:=fun i=>by
  rw[← LM,B2];split
  ·rfl
  ·rw[show ts.length+(s'.av.length - ts.length)=s'.av.length by omega]
 have hsb:s.back os ts s' = ⟨kn os (s'.ah.map (D.eD ln ox)) s.ah,kn ts s'.av s.av⟩:=by simp only[St.back,LL,LM]
 have hdb:d.back s os ts s'=d.cL ln ox:=by simp only[D.back,LL,LM]
 have l5:=k d s' hq
 rw[hsb,hdb]at l5
 obtain⟨p1,p2,p3⟩:=Ct os (s'.ah.map (D.eD ln ox)) s.ah (by simp;omega) tF ju
 obtain⟨q1,q2,q3⟩:=Ct ts s'.av s.av (by omega) uH w5
 have Hz:=wk os (s'.ah.map (D.eD ln ox)) s.ah (by simp;omega)
 have HA:=wk ts s'.av s.av (by omega)
 simp only[List.length_map]at Hz
 generalize yY:(⟨kn os (s'.ah.map (D.eD ln ox)) s.ah,kn ts s'.av s.av⟩:St)=s2 at l5
 have so:s2.ah=kn os (s'.ah.map (D.eD ln ox)) s.ah:=by rw[← yY]
 have st:s2.av=kn ts s'.av s.av:=by rw[← yY]
 -- the framed objects
 have fo : ∀ (i o:Nat),ln[i]? = some o→o<s2.ah.length∧s2.ah[o]? = (s'.ah[i]?).map (D.eD ln ox)∧i<s'.ah.length∧(i<os.length→o<s.ah.length∧os[i]? = some o)∧(os.length≤i→s.ah.length≤o):=by
  intro i o hi
  rw[LN]at hi
  split at hi
  ·rename_i h1
   have hD:=ju o (List.mem_of_getElem? hi)
   refine⟨by rw[so,Hz];omega,by rw[so,p1 i o hi,List.getElem?_map],by omega,fun _=>⟨hD,hi⟩,fun h=>by omega⟩
  ·split at hi
   ·rename_i h1 h2
    cases hi
    refine⟨by rw[so,Hz];omega, ?_,h2,fun h=>by omega,fun _=>by omega⟩
    rw[so,p3,List.getElem?_map,show os.length+(i - os.length)=i by omega]
   ·cases hi
 have ft : ∀ (i t:Nat),ox[i]? = some t→t<s2.av.length∧s2.av[t]? = s'.av[i]? ∧i<s'.av.length∧(i<ts.length→t<s.av.length∧ts[i]? = some t)∧(ts.length≤i→s.av.length≤t):=by
  intro i t hi
  rw[LO]at hi
  split at hi
  ·rename_i h1
   have hD:=w5 t (List.mem_of_getElem? hi)
   refine⟨by rw[st,HA];omega,by rw[st,q1 i t hi],by omega,fun _=>⟨hD,hi⟩,fun h=>by omega⟩
  ·split at hi
   ·rename_i h1 h2
    cases hi
    refine⟨by rw[st,HA];omega, ?_,h2,fun h=>by omega,fun _=>by omega⟩
    rw[st,q3,show ts.length+(i - ts.length)=i by omega]
   ·cases hi
 -- all others
 have uo : ∀ o,o<s2.ah.length→posOf ln o=none→o<s.ah.length∧o∉os∧s2.ah[o]? = s.ah[o]? :=by
  intro o hD hp
  have nA : ∀ i,ln[i]? ≠some o:=fun i hi=>by rw[lJ nd hi]at hp;cases hp
  have h1:o<s.ah.length:=by
   rcases Nat.lt_or_ge o s.ah.length with h|h
   ·exact h
   ·exfalso
    rw[so,Hz]at hD
    refine nA (os.length+(o - s.ah.length)) ?_
    rw[LN,if_neg (by omega),if_pos (by omega)]
    congr 1;omega
  have h2:o∉os:=fun hm=>by
   obtain⟨i,hi⟩:=List.mem_iff_getElem?.1 hm
   have qf:=(List.getElem?_eq_some_iff.1 hi).1
   exact nA i (by rw[LN,if_pos qf];exact hi)
  exact⟨h1,h2,by rw[so,p2 o h1 h2]⟩
 have ut : ∀ t,t<s2.av.length→posOf ox t=none→t<s.av.length∧t∉ts∧s2.av[t]? = s.av[t]? :=by
  intro t hD hp
  have nA : ∀ i,ox[i]? ≠some t:=fun i hi=>by rw[lJ ndt hi]at hp;cases hp
  have h1:t<s.av.length:=by
   rcases Nat.lt_or_ge t s.av.length with h|h
   ·exact h
   ·exfalso
    rw[st,HA]at hD
    refine nA (ts.length+(t - s.av.length)) ?_
    rw[LO,if_neg (by omega),if_pos (by omega)]
    congr 1;omega
  have h2:t∉ts:=fun hm=>by
   obtain⟨i,hi⟩:=List.mem_iff_getElem?.1 hm
   have qf:=(List.getElem?_eq_some_iff.1 hi).1
   exact nA i (by rw[LO,if_pos qf];exact hi)
  exact⟨h1,h2,by rw[st,q2 t h1 h2]⟩
 generalize OY:xh M xi ln ox=M2
 have mG:xi.G=M2.G:=by rw[← OY];rfl
 have lo : ∀ (i o:Nat),ln[i]? = some o→M2.loc o=xi.loc i:=fun i o hi=>by rw[← OY];simp only[xh,lJ nd hi]
 have UF : ∀ o,posOf ln o=none→M2.loc o=M.loc o:=fun o hp=>by rw[← OY];simp only[xh,hp]
 have mo : ∀ (i o:Nat),ln[i]? = some o→M2.mu o=xi.mu i:=fun i o hi=>congrArg Prod.fst (lo i o hi)
 have HC : ∀ o,posOf ln o=none→M2.mu o=M.mu o:=fun o hp=>congrArg Prod.fst (UF o hp)
 have mt : ∀ (i t:Nat),ox[i]? = some t→M2.be t=xi.be i:=fun i t hi=>by rw[← OY];simp only[xh,lJ ndt hi]
 have HD : ∀ t,posOf ox t=none→M2.be t=M.be t:=fun t hp=>by rw[← OY];simp only[xh,hp]
 have le:Le M s M2 s2:=by
  refine⟨fun b o v hg=>by rw[← mG];exact e.le.G b o v hg,by rw[so,Hz];omega,fun o hD=>?_,by rw[st,HA];omega,fun t n' hD qu=>?_⟩
  ·cases hp:posOf ln o with
   |none=>rw[UF o hp];exact .refl _
   | some i=>
    have hi:=iC hp
    rw[lo i o hi]
    obtain⟨_,_,_,h1,h2⟩:=fo i o hi
    have qf:i<os.length:=by
     rcases Nat.lt_or_ge i os.length with h|h
     ·exact h
     ·have:=h2 h;omega
    have h3:=e.le.loc i (by omega)
    rw[loc i o (h1 qf).2]at h3
    exact h3
  ·cases hp:posOf ox t with
   |none=>
    obtain⟨_,_,h3⟩:=ut t (by rw[st,HA];omega) hp
    rw[h3]at qu
    exact⟨n',qu,Nat.le_refl _,fun _=>HD t hp⟩
   | some i=>
    have hi:=iC hp
    obtain⟨_,g1,_,h1,h2⟩:=ft i t hi
    have qf:i<ts.length:=by
     rcases Nat.lt_or_ge i ts.length with h|h
     ·exact h
     ·have:=h2 h;omega
    rw[g1]at qu
    obtain⟨n,h3,h4,h5⟩:=e.le.tk i n' (by omega) qu
    refine⟨n,by rw[← sZ i t (h1 qf).2];exact h3,h4,fun eq=>?_⟩
    rw[mt i t hi,h5 eq,be i t (h1 qf).2]
 have Ze : ∀ {d:D} {v:Value},RD xi s' d v→RD M2 s2 (d.cL ln ox) v:=fun hd=>RD.cL mG
  (fun i hi=>by
   obtain⟨o,ho⟩ : ∃ o,ln[i]? = some o:=by
    rw[LN];split
    ·rename_i h1;exact⟨_,List.getElem?_eq_getElem h1⟩
    ·exact⟨_,rfl⟩
   exact⟨o,ho,(fo i o ho).1,lo i o ho⟩)
  (fun i hi=>by
   obtain⟨t,ht⟩ : ∃ t,ox[i]? = some t:=by
    rw[LO];split
    ·rename_i h1;exact⟨_,List.getElem?_eq_getElem h1⟩
    ·exact⟨_,rfl⟩
   exact⟨t,ht,(ft i t ht).1,(ft i t ht).2.1,mt i t ht⟩) hd
 -- blocks that the callee did not know
 have GM : ∀ i,s0.live i→∃ t,ts[i]? = some t∧s.live t:=fun i ⟨n,hn⟩=>by
  have hD:=(List.getElem?_eq_some_iff.1 hn).1
  have e1:ts[i]? = some ts[i]:=List.getElem?_eq_getElem (by omega)
  exact⟨_,e1,n,by rw[← sZ i _ e1];exact hn⟩
 have LP : ∀ b,b<w.heap.size→(∀ (i o:Nat),os[i]? = some o→M.mu o≠b)→(∀ (i t:Nat) c z,ts[i]? = some t→s.live t→M.be t≠some (b,c,z))→
  w'.heap[b]? = w.heap[b]? ∧∀ off,xi.G b off=M.G b off:=by
  intro b hb h1 h2
  refine⟨e.kept b hb (fun i hi=>?_) (fun i c z hl=>?_),fun off=>?_⟩
  ·have e1:os[i]? = some os[i]:=List.getElem?_eq_getElem (by omega)
   rw[mu i _ e1];exact h1 i _ e1
  ·obtain⟨t,e1,hD⟩:=GM i hl
   rw[be i t e1];exact h2 i t c z e1 hD
  ·apply Classical.byContradiction
   intro eK
   rcases e.rp b off eK with h3|⟨i,c,z,hl,h3⟩
   ·omega
   ·obtain⟨t,e1,hD⟩:=GM i hl
    rw[be i t e1]at h3
    exact h2 i t c z e1 hD h3
 have UG : ∀ o,o<s.ah.length→o∉os→w'.heap[M.mu o]? = w.heap[M.mu o]? ∧∀ off,xi.G (M.mu o) off=M.G (M.mu o) off:=fun o hD nA=>
  LP _ (r.pM hD) (fun i o' h1 h2=>nA (by rw[← r.inj o' o (ju o' (List.mem_of_getElem? h1)) hD h2];exact List.mem_of_getElem? h1))
   (fun i t c z _ hl h2=>r.eZ t _ c z o hl h2 hD rfl)
 have adn : ∀ t b c z,s.live t→t∉ts→M.be t=some (b,c,z)→w'.heap[b]? = w.heap[b]? ∧∀ off,xi.G b off=M.G b off:=fun t b c z hl nA hb=>
  LP b (r.rT hl hb) (fun i o h1=>r.eZ t b c z o hl hb (ju o (List.mem_of_getElem? h1)))
   (fun i t' c' z' h1 nI h2=>nA (by rw[r.fJ t t' b c z c' z' hl nI hb h2];exact List.mem_of_getElem? h1))
 have lv : ∀ t,s2.live t→(∃ i,ox[i]? = some t∧s'.live i)∨(posOf ox t=none∧s.live t∧t∉ts):=by
  rintro t ⟨n,hn⟩
  cases hp:posOf ox t with
  |none=>
   obtain⟨h1,h2,h3⟩:=ut t (List.getElem?_eq_some_iff.1 hn).1 hp
   exact .inr ⟨rfl,⟨n,by rw[← h3];exact hn⟩,h2⟩
  |some i=>
   have hi:=iC hp
   exact .inl ⟨i,hi,n,by rw[← (ft i t hi).2.1];exact hn⟩
 -- where a framed object lies
 have UH : ∀ (i o:Nat),ln[i]? = some o→(o<s.ah.length∧o∈os∧xi.mu i=M.mu o)∨w.heap.size≤xi.mu i:=by
  intro i o hi
  obtain⟨_,_,h1,h2,h3⟩:=fo i o hi
  rcases e.mo h1 with ⟨h4,h5⟩|h4
  ·have h:i<os.length:=by omega
   exact .inl ⟨(h2 h).1,List.mem_of_getElem? (h2 h).2,by rw[h5,mu i o (h2 h).2]⟩
  ·exact .inr h4
 have UI : ∀ (i t b c z:Nat),ox[i]? = some t→s'.live i→xi.be i=some (b,c,z)→(s.live t∧t∈ts∧∃ c' z',M.be t=some (b,c',z'))∨w.heap.size≤b:=by
  intro i t b c z hi hl hb
  rcases e.pU i b c z hl hb with ⟨h1,c',z',h2⟩|h1
  ·obtain⟨t',e1,hD⟩:=GM i h1
   have qf:=(List.getElem?_eq_some_iff.1 e1).1
   obtain⟨_,_,_,h3,_⟩:=ft i t hi
   have:=(h3 qf).2
   rw[e1]at this;cases this
   rw[be i _ e1]at h2
   exact .inl ⟨hD,List.mem_of_getElem? e1,c',z',h2⟩
  ·exact .inr h1
 refine⟨M2,d.cL ln ox,v,s2,rfl,l5, ?_, ?_,Ze hv⟩
 ·-- Ext
  refine⟨le,fun b hb h1 h2=>?_,fun o h1 h2=>?_,fun t b c z hl hb=>?_,fun b off eK=>?_,e.size,e.os,e.tape,e.output⟩
  ·exact(LP b hb (fun i o h3=>h1 o (ju o (List.mem_of_getElem? h3))) (fun i t c z _ hl=>h2 t c z hl)).1
  ·cases hp:posOf ln o with
   |none=>
    have:=(uo o h2 hp).1
    rcases h1 with h1|h1
    ·omega
    ·exact(h1 (HC o hp)).elim
   | some i=>
    have hi:=iC hp
    rw[mo i o hi]at h1 ⊢
    rcases UH i o hi with ⟨h3,_,h5⟩|h3
    ·rcases h1 with h1 | h1
     ·omega
     ·exact(h1 h5).elim
    ·exact h3
  ·rcases lv t hl with ⟨i,hi,nI⟩ | ⟨hp,nI,_⟩
   ·rw [mt i t hi]at hb
    rcases UI i t b c z hi nI hb with ⟨h1,_,h2⟩|h1
    ·exact .inl ⟨h1,h2⟩
    ·exact .inr h1
   ·rw [HD t hp]at hb
    exact .inl ⟨nI,c,z,hb⟩
  ·rw [← mG]at eK
   rcases e.rp b off eK with h1|⟨i,c,z,hl,hb⟩
   ·exact .inl h1
   ·obtain⟨t,e1,hD⟩:=GM i hl
    rw[be i t e1]at hb
    exact .inr ⟨t,c,z,hD,hb⟩
 ·-- Rel
  refine⟨fun b o v hg=>r'.comm b o v (by rw[mG];exact hg),fun o ds Aa=>?_,fun o hD off=>?_,fun o o' hD zb heq=>?_,fun t n hn=>?_,fun t b c z o hl hb hD=>?_,fun t t' b c z c' z' hl nI hb rk=>?_⟩
  ·cases hp:posOf ln o with
   |some i=>
    have hi:=iC hp
    obtain⟨_,g1,_⟩:=fo i o hi
    rw[g1]at Aa
    obtain⟨na,h1,rfl⟩:=Option.map_eq_some_iff.1 Aa
    obtain⟨vs,T,h2,h3,h4,h5⟩:=r'.obj i na h1
    refine⟨vs,T,by rw[lo i o hi];exact h2,by rw[fG];simpa using h3,⟨h4.1,by rw[show M2.ty o=xi.ty i from congrArg (fun x=>x.2.ty?) (lo i o hi)];exact h4.2⟩,fun j d v e1 e2=>?_⟩
    rw[fG]at e1
    simp only[List.getElem?_map,Option.map_eq_some_iff]at e1
    obtain⟨d',e1,rfl⟩:=e1
    exact Ze (h5 j d' v e1 e2)
   |none=>
    obtain⟨h1,h2,h3⟩:=uo o (List.getElem?_eq_some_iff.1 Aa).1 hp
    rw[h3]at Aa
    obtain⟨vs,T,g1,g2,g3,g4⟩:=r.obj o ds Aa
    exact⟨vs,T,by rw[UF o hp];exact g1.keep (UG o h1 h2).1,g2,⟨g3.1,by rw[show M2.ty o=M.ty o from congrArg (fun x=>x.2.ty?) (UF o hp)];exact g3.2⟩,fun j d v e1 e2=>(g4 j d v e1 e2).mono le⟩
  ·cases hp:posOf ln o with
   |some i=>
    have hi:=iC hp
    rw[mo i o hi, ← mG];exact r'.jv i (fo i o hi).2.2.1 off
   |none=>
    obtain⟨h1,h2,h3⟩:=uo o hD hp
    rw[HC o hp, ← mG,(UG o h1 h2).2 off];exact r.jv o h1 off
  ·cases hp:posOf ln o with
   | some i=>
    have hi:=iC hp
    rw[mo i o hi]at heq
    cases mw:posOf ln o' with
    |some i'=>
     have gI:=iC mw
     rw[mo i' o' gI]at heq
     have:=r'.inj i i' (fo i o hi).2.2.1 (fo i' o' gI).2.2.1 heq
     subst this
     rw[hi]at gI;cases gI;rfl
    | none=>
     obtain⟨h1,h2,_⟩:=uo o' zb mw
     rw[HC o' mw]at heq
     rcases UH i o hi with ⟨h3,h4,h5⟩|h3
     ·rw [h5]at heq
      have:=r.inj o o' h3 h1 heq
      subst this;exact(h2 h4).elim
     ·have:=r.pM h1;omega
   | none=>
    obtain⟨h1,h2,_⟩:=uo o hD hp
    rw[HC o hp]at heq
    cases mw:posOf ln o' with
    | some i'=>
     have gI:=iC mw
     rw[mo i' o' gI]at heq
     rcases UH i' o' gI with ⟨h3,h4,h5⟩|h3
     ·rw [h5]at heq
      have:=r.inj o o' h1 h3 heq
      subst this;exact(h2 h4).elim
     ·have:=r.pM h1;omega
    |none=>
     obtain⟨rm,_,_⟩:=uo o' zb mw
     rw[HC o' mw]at heq
     exact r.inj o o' h1 rm heq
  ·rcases lv t ⟨n,hn⟩with ⟨i,hi,hl⟩ | ⟨hp,hl,nA⟩
   ·rw [mt i t hi, ← mG]
    exact r'.tok i n (by rw[← (ft i t hi).2.1];exact hn)
   ·obtain⟨_,_,h3⟩:=ut t (List.getElem?_eq_some_iff.1 hn).1 hp
    rw[h3]at hn
    rw[HD t hp]
    rcases r.tok t n hn with h4|⟨b,cap,size,vs,T,g1,g2,g3,g4,g5⟩
    ·exact .inl h4
    ·obtain⟨k1,k2⟩:=adn t b cap size hl nA g1
     exact .inr ⟨b,cap,size,vs,T,g1,by rw[k1];exact g2,g3,g4,fun off ho=>by rw[← mG,k2 off];exact g5.1 off ho,g5.2⟩
  ·rcases lv t hl with ⟨i,hi,nI⟩ | ⟨hp,nI,nA⟩
   ·rw [mt i t hi]at hb
    cases HE:posOf ln o with
    |some j=>
     have hj:=iC HE
     rw[mo j o hj]
     exact r'.eZ i b c z j nI hb (fo j o hj).2.2.1
    |none=>
     obtain⟨h1,h2,_⟩:=uo o hD HE
     rw[HC o HE]
     rcases UI i t b c z hi nI hb with ⟨h3,_,c',z',h4⟩|h3
     ·exact r.eZ t b c' z' o h3 h4 h1
     ·have:=r.pM h1;omega
   ·rw [HD t hp]at hb
    cases HE:posOf ln o with
    |some j=>
     have hj:=iC HE
     rw[mo j o hj]
     rcases UH j o hj with ⟨h3,_,h5⟩|h3
     ·rw[h5];exact r.eZ t b c z o nI hb h3
     ·have:=r.rT nI hb;omega
    |none=>
     obtain⟨h1,_,_⟩:=uo o hD HE
     rw[HC o HE];exact r.eZ t b c z o nI hb h1
  ·rcases lv t hl with ⟨i,hi,ze⟩ | ⟨hp,hD,nA⟩
   ·rw [mt i t hi]at hb
    rcases lv t' nI with ⟨i',gI,RI⟩|⟨mw,zb,UJ⟩
    ·rw [mt i' t' gI]at rk
     have:=r'.fJ i i' b c z c' z' ze RI hb rk
     subst this
     rw[hi]at gI;cases gI;rfl
    ·rw [HD t' mw]at rk
     rcases UI i t b c z hi ze hb with ⟨h3,h4,c2,z2,h5⟩|h3
     ·have:=r.fJ t t' b c2 z2 c' z' h3 zb h5 rk
      subst this;exact(UJ h4).elim
     ·have:=r.rT zb rk;omega
   ·rw [HD t hp]at hb
    rcases lv t' nI with ⟨i',gI,RI⟩|⟨mw,zb,UJ⟩
    ·rw [mt i' t' gI]at rk
     rcases UI i' t' b c' z' gI RI rk with ⟨h3,h4,c2,z2,h5⟩|h3
     ·have:=r.fJ t t' b c z c2 z2 hD h3 hb h5
      subst this;exact(nA h4).elim
     ·have:=r.rT hD hb;omega
    ·rw [HD t' mw]at rk
     exact r.fJ t t' b c z c' z' hD zb hb rk
end Go.Abs
namespace Go.Abs
def Wk (d d':D):Prop:=∀ (M:Map) (s:St) (v:Value),RD M s d v→RD M s d' v
inductive iZ:List D→List D→Prop where
 |nil:iZ [] []
 |cons {d d':D} {l l':List D} (h:Wk d d') (t:iZ l l'):iZ (d::l) (d'::l')
inductive gk:List (List D)→List (List D)→Prop where
 |nil:gk [] []
 |cons {r r':List D} {l l':List (List D)} (h:iZ r r') (t:gk l l'):gk (r::l) (r'::l')
theorem Wk.refl (d:D):Wk d d:=fun _ _ _ h=>h
theorem Wk.trans {a b c:D} (h:Wk a b) (k:Wk b c):Wk a c:=fun M s v r=>k M s v (h M s v r)
theorem Wk.junk (d:D):Wk d .junk:=fun _ _ v _=> .junk v
theorem iZ.refl : ∀ l,iZ l l
 | []=> .nil
 |d::l=> .cons (Wk.refl d) (iZ.refl l)
theorem gk.refl : ∀ l,gk l l
 | []=> .nil
 |d::l=> .cons (iZ.refl d) (gk.refl l)
theorem iZ.len {l l':List D} (h:iZ l l'):l.length=l'.length:=by
 induction h with
 |nil=>rfl
 |cons _ _ ih=>simp[ih]
theorem gk.len {l l':List (List D)} (h:gk l l'):l.length=l'.length:=by
 induction h with
 |nil=>rfl
 |cons _ _ ih=>simp[ih]
theorem iZ.get {l l':List D} (h:iZ l l') : ∀ {i:Nat} {d':D},l'[i]? = some d'→∃ d,l[i]? = some d∧Wk d d':=by
 induction h with
 |nil=>intro i d' e;simp at e
 |cons hd _ ih=>
  intro i d' e
  cases i with
  |zero=>simp at e;subst e;exact⟨_,rfl,hd⟩
  |succ i=>simp at e;simpa using ih e
theorem gk.get {l l':List (List D)} (h:gk l l') : ∀ {i:Nat} {d':List D},l'[i]? = some d'→∃ d,l[i]? = some d∧iZ d d':=by
 induction h with
 |nil=>intro i d' e;simp at e
 |cons hd _ ih=>
  intro i d' e
  cases i with
  |zero=>simp at e;subst e;exact⟨_,rfl,hd⟩
  |succ i=>simp at e;simpa using ih e
theorem iZ.append {a a' b b':List D} (h:iZ a a') (k:iZ b b'):iZ (a++b) (a'++b'):=by
 induction h with
 |nil=>exact k
 |cons hd _ ih=>exact .cons hd ih
theorem gk.append {a a' b b':List (List D)} (h:gk a a') (k:gk b b'):gk (a++b) (a'++b'):=by
 induction h with
 |nil=>exact k
 |cons hd _ ih=>exact .cons hd ih
theorem Wk.agg {l l':List D} (h:iZ l l'):Wk (.agg l) (.agg l'):=by
 intro M s v r
 cases r with
 |agg _ vs hl h1 hr=>
  refine .agg _ vs (by rw[← hl,h.len]) h1 fun i d' u e e2=>?_
  obtain⟨d,e1,hw⟩:=h.get e
  exact hw M s u (hr i d u e1 e2)
theorem Wk.tuple {l l':List D} (h:iZ l l'):Wk (.tuple l) (.tuple l'):=by
 intro M s v r
 cases r with
 |tuple _ vs hl hr=>
  refine .tuple _ vs (by rw[← hl,h.len]) fun i d' u e e2=>?_
  obtain⟨d,e1,hw⟩:=h.get e
  exact hw M s u (hr i d u e1 e2)
theorem Wk.rows {g:Tag} {z:Nat} {l l':List (List D)} (h:gk l l'):Wk (.slice g z l) (.slice g z l'):=by
 intro M s v r
 cases r with
 |iz _ _ cap hc ht=>cases h;exact .iz _ _ _ hc ht
 |k6 _ a cap=>cases h;exact .k6 _ a cap
 | slice _ _ _ b k cap hl hs h1 h2 ht=>
  rw[h.len]
  refine .slice g z l' b k cap (by rw[← h.len];exact hl) (fun row hm=>?_) (fun i row j d e e2=>?_) (fun i row j d u e e2 eu=>?_) (by rw[← h.len];exact ht)
  ·obtain⟨i,hi,he⟩:=List.mem_iff_getElem.1 hm
   obtain⟨r0,g1,g2⟩:=h.get (i:=i) (by rw[List.getElem?_eq_getElem hi,he])
   rw[← g2.len];exact hs r0 (List.mem_of_getElem? g1)
  ·obtain⟨r0,g1,g2⟩:=h.get e
   obtain⟨d0,g3,_⟩:=g2.get e2
   exact h1 i r0 j d0 g1 g3
  ·obtain⟨r0,g1,g2⟩:=h.get e
   obtain⟨d0,g3,g4⟩:=g2.get e2
   exact g4 M s u (h2 i r0 j d0 u g1 g3 eu)
theorem Wk.shared (g:Tag) (z:Nat) (l:List (List D)):Wk (.slice g z l) (.slice .shared z l):=by
 intro M s v r
 cases r with
 |iz _ _ cap hc ht=>exact .iz _ _ _ hc trivial
 |k6 _ a cap=>exact .k6 _ a cap
 |slice _ _ _ b k cap hl hs h1 h2 ht=>exact .slice _ _ _ b k cap hl hs h1 h2 trivial
theorem Wk.slice {g:Tag} {z:Nat} {l l':List (List D)} (h:gk l l'):Wk (.slice g z l) (.slice .shared z l'):=(Wk.shared g z l).trans (Wk.rows h)
theorem Wk.nil (g:Tag) (z z':Nat):Wk (.slice g z []) (.slice .shared z' []):=by
 intro M s v r
 cases r with
 |iz _ _ cap hc ht=>exact .iz _ _ _ hc trivial
 |k6 _ a cap=>exact .k6 _ a cap
 |slice _ _ _ b k cap hl hs h1 h2 ht=>exact .slice _ _ [] b k cap hl (by simp) (by simp) (by simp) trivial
theorem Wk.ahG (z z':Nat):Wk (.slice .full z []) (.slice .full z' []):=by
 intro M s v r
 cases r with
 |iz _ _ cap hc ht=>exact .iz _ _ _ hc ht
 |slice _ _ _ b k cap hl hs h1 h2 ht=>exact .slice _ _ [] b k cap hl (by simp) (by simp) (by simp) ht
theorem Rel.pg {M:Map} {s:St} {w:World} {ah:List (List D)} (r:Rel M s w) (h:gk s.ah ah):Rel M ⟨ah,s.av⟩ w∧Le M s M ⟨ah,s.av⟩:=by
 have le:Le M s M ⟨ah,s.av⟩:=⟨fun _ _ _ h=>h,Nat.le_of_eq h.len,fun _ _=> .refl _,Nat.le_refl _,fun t n' _ e=>⟨n',e,Nat.le_refl _,fun _=>rfl⟩⟩
 have hl:=h.len
 refine⟨⟨r.comm,fun o ds e=>?_,fun o ho=>r.jv o (by rw[hl];exact ho),fun o o' ho nc=>r.inj o o' (by rw[hl];exact ho) (by rw[hl];exact nc),r.tok,
  fun t b c z o hv e ho=>r.eZ t b c z o hv e (by rw[hl];exact ho),r.fJ⟩,le⟩
 obtain⟨ds0,g1,g2⟩:=h.get e
 obtain⟨vs,T,h1,h2,h3,h4⟩:=r.obj o ds0 g1
 refine⟨vs,T,h1,by rw[h2,g2.len],h3,fun i d v e1 e2=>?_⟩
 obtain⟨d0,k1,k2⟩:=g2.get e1
 exact(k2 _ _ _ (h4 i d0 v k1 e2)).mono le
theorem Rel.blank {M:Map} {s:St} {w:World} (r:Rel M s w) :
 Rel (M.eB s.av.length none) {s with av:=s.av++ [some 0]} w∧Le M s (M.eB s.av.length none) {s with av:=s.av++ [some 0]}:=by
 have ij : ∀ t,St.live {s with av:=s.av++ [some 0]} t→s.live t∨t=s.av.length:=by
  rintro t ⟨k,hk⟩
  rcases Nat.lt_or_ge t s.av.length with h|h
  ·rw[List.getElem?_append_left h]at hk;exact .inl ⟨k,hk⟩
  ·have:=(List.getElem?_eq_some_iff.1 hk).1
   simp at this;exact .inr (by omega)
 have hD : ∀ t,s.live t→t<s.av.length:=fun t ⟨k,hk⟩=>(List.getElem?_eq_some_iff.1 hk).1
 have hold : ∀ t,t<s.av.length→(M.eB s.av.length none).be t=M.be t:=fun t h=>by simp[Map.eB];omega
 have da:(M.eB s.av.length none).be s.av.length=none:=by simp[Map.eB]
 have le:Le M s (M.eB s.av.length none) {s with av:=s.av++ [some 0]}:=
  ⟨fun _ _ _ h=>h,Nat.le_refl _,fun _ _=> .refl _,by simp,fun t k h e=>by
   rw[List.getElem?_append_left h]at e
   exact⟨k,e,Nat.le_refl _,fun _=>hold t h⟩⟩
 refine⟨⟨r.comm,fun o ds e=>?_,r.jv,r.inj,fun t k e=>?_,fun t b' c z o hl e nc=>?_,fun t t' b' c z c' z' h h' e e'=>?_⟩,le⟩
 ·obtain⟨fu,T',h3,h4,h5,h6⟩:=r.obj o ds e
  exact⟨fu,T',h3,h4,h5,fun i d v e1 e2=>(h6 i d v e1 e2).mono le⟩
 ·rcases Nat.lt_or_ge t s.av.length with h | h
  ·rw [List.getElem?_append_left h]at e
   rw[hold t h];exact r.tok t k e
  ·have:=(List.getElem?_eq_some_iff.1 e).1
   simp at this
   have:t=s.av.length:=by omega
   subst this
   simp at e;subst e
   exact .inl ⟨da,rfl⟩
 ·rcases ij t hl with h | h
  ·rw[hold t (hD t h)]at e;exact r.eZ t b' c z o h e nc
  ·subst h;rw[da]at e;cases e
 ·rcases ij t h with h | h <;> rcases ij t' h' with h' | h'
  ·rw[hold t (hD t h)]at e;rw[hold t' (hD t' h')]at e';exact r.fJ t t' b' c z c' z' h h' e e'
  ·subst h';rw[da]at e';cases e'
  ·subst h;rw[da]at e;cases e
  ·omega
theorem RD.own {M:Map} {s:St} {z z':Nat} {v:Value} (h:RD M s (.slice .full z []) v):RD (M.eB s.av.length none) {s with av:=s.av++ [some 0]} (.slice (.tok s.av.length) z' []) v:=by
 have key : ∀ base:Option (Nat×Nat),iB (M.eB s.av.length none) {s with av:=s.av++ [some 0]} (.tok s.av.length) z' 0 base 0:=by
  intro base
  refine⟨by simp,fun n e=>?_⟩
  simp at e
  subst e
  exact⟨Nat.le_refl _,fun _=> .inl ⟨by simp[Map.eB],rfl,fun h=>by cases h⟩⟩
 cases h with
 |iz _ _ cap hc ht=>subst hc;exact .iz _ _ _ rfl (key none)
 |slice _ _ _ b k cap hl hs h1 h2 ht=>
  have:cap=0:=ht
  subst this
  exact .slice _ _ [] b k 0 (Nat.le_refl _) (by simp) (by simp) (by simp) (key _)
section
variable {P:Program} {B:fM} {nt:Nat} {Q:Exit→Tm→St→Prop} {tm:Tm} {s:St}
theorem Sem.wkO {ac:AC} (ah:List (List D)) (hw:gk s.ah ah) (h:Sem P B nt ac Q tm ⟨ah,s.av⟩):Sem P B nt ac Q tm s:=by
 intro c hc act w ⟨M,e,r,ht,h1,h2⟩
 obtain⟨r',le⟩:=r.pg hw
 refine h c hc act w ⟨M,e.trans ⟨le,fun _ _ _ _=>rfl,fun o h1 h2=>?_,fun t b c z hl e=> .inl ⟨hl,c,z,e⟩,fun _ _ h=>(h rfl).elim,Nat.le_refl _,rfl,rfl,rfl⟩,r',fun k=>(ht k).mono le,h1,h2⟩
 simp only[← hw.len]at h2
 exact h1.elim (fun h1=>absurd h2 (Nat.not_lt.2 h1)) fun h1=>(h1 rfl).elim
theorem Fv {M0 M:Map} {s0 s:St} {w0 w:World} (e:Ext M0 s0 w0 M s w) (le:Le M s (M.eB s.av.length none) {s with av:=s.av++ [some 0]}) :
 Ext M0 s0 w0 (M.eB s.av.length none) {s with av:=s.av++ [some 0]} w:=by
 refine e.trans ⟨le,fun _ _ _ _=>rfl,fun o h1 h2=>h1.elim (fun h1=>absurd h2 (Nat.not_lt.2 h1)) (fun h1=>(h1 rfl).elim),fun t b c z hl eq=>?_,fun _ _ h=>(h rfl).elim,Nat.le_refl _,rfl,rfl,rfl⟩
 obtain⟨k,hk⟩:=hl
 rcases Nat.lt_or_ge t s.av.length with h|h
 ·refine .inl ⟨⟨k,by rw [List.getElem?_append_left h]at hk;exact hk⟩,c,z, ?_⟩
  have:(M.eB s.av.length none).be t=M.be t:=by simp[Map.eB];omega
  rw[← this];exact eq
 ·have:=(List.getElem?_eq_some_iff.1 hk).1
  simp at this
  have:t=s.av.length:=by omega
  subst this
  simp[Map.eB]at eq
end
def aG (P:Program) (f:Nat) (args:List D) (s:St) (d:D) (s':St):Prop:=bG P f args s fun x y=>x=d∧y=s'
def ph (n m:Nat) (res:List (Nat×Option (Bool×Nat))) (d:D) (s':St):Exit→Tm→St→Prop
 | .normal,tm,s| .ret,tm,s=>∃ l,aR res tm s=some l∧Wk ((aS l).fg n m) d∧gk (s.cut n m).ah s'.ah∧(s.cut n m).av=s'.av
 |_,_,_=>False
theorem bG.pg {P:Program} {f:FuncId} {args Dr:List D} {s:St} {Q:D→St→Prop} (ha:iZ args Dr) (h:bG P f Dr s Q):bG P f args s Q:=
 fun M w fz r kh hl hr=>h M w fz r kh (by rw[hl,ha.len]) fun i d v e1 e2=>by
  obtain⟨d0,g1,g2⟩:=ha.get e1
  exact g2 _ _ _ (hr i d0 v g1 e2)
theorem bG.GN {P:Program} {f:FuncId} {args:List D} {s:St} {Q Q':D→St→Prop} (h:bG P f args s Q) (hq : ∀ d s1,Q d s1→∃ d' s',Wk d d'∧gk s1.ah s'.ah∧s1.av=s'.av∧Q' d' s'):bG P f args s Q':=
 fun M w fz r kh hl ha=>(h M w fz r kh hl ha).mono fun _ _ ⟨M',d,v,s1,h1,h2,h3,h4,h5⟩=>by
  obtain⟨d',s',g1,g2,g3,g4⟩:=hq d s1 h2
  obtain⟨r',le⟩:=h4.pg g2
  have hs:(⟨s'.ah,s1.av⟩:St)=s':=by rw[g3]
  rw[hs]at r' le
  refine⟨M',d',v,s',h1,g4,h3.trans ⟨le,fun _ _ _ _=>rfl,fun o h1 h2=>?_,fun t b c z hl e=> .inl ⟨by obtain⟨n,hn⟩:=hl;exact⟨n,by rw[g3];exact hn⟩,c,z,e⟩,fun _ _ h=>(h rfl).elim,Nat.le_refl _,rfl,rfl,rfl⟩,r',(g1 _ _ _ h5).mono le⟩
  rw[← g2.len]at h2
  exact h1.elim (fun h1=>absurd h2 (Nat.not_lt.2 h1)) fun h1=>(h1 rfl).elim
theorem aG.intro {P:Program} {f:FuncId} {af:AF} {args:List D} {s:St} {d:D} {s':St} (h0 : ∃ fn,P.funcs[f]? = some fn∧cF P fn=some af) (hl:args.length≤af.ntmps)
 (h : ∀ B:fM,B.s=s→Sem P B af.ntmps af.body (ph s.ah.length s.av.length af.results d s') (ml 0 args) s):aG P f args s d s':=by
 obtain⟨fn,hf,hc⟩:=h0
 refine bG.GN (bG.intro (Q:=fun d1 s1=>Wk d1 d∧gk s1.ah s'.ah∧s1.av=s'.av) hf hc hl fun B hB=>(h B hB).mono fun e tm s1 hr=>?_) fun d1 s1 ⟨h1,h2,h3⟩=>⟨d,s',h1,h2,h3,rfl,rfl⟩
 subst hB
 cases e with
 |normal=>obtain⟨l,h1,h2,h3,h4⟩:=hr;exact⟨l,h1,_,_,Nat.le_refl _,Nat.le_refl _,h2,h3,h4⟩
 |ret=>obtain⟨l,h1,h2,h3,h4⟩:=hr;exact⟨l,h1,_,_,Nat.le_refl _,Nat.le_refl _,h2,h3,h4⟩
 |exit id=>exact hr.elim
 |goto l=>exact hr.elim
 |panic ch=>exact hr.elim
 |outgrown=>exact hr.elim
theorem aG.use {P:Program} {f:FuncId} {args:List D} {s:St} {d:D} {s':St} {Q:D→St→Prop} (h:aG P f args s d s') (hq:Q d s'):bG P f args s Q:=
 bG.mono h fun x y ⟨h1,h2⟩=>by subst h1;subst h2;exact hq
mutual
theorem pZ (os ts:List Nat) : ∀ d,D.ok 0 0 d=true→D.cL os ts d=d
 | .junk,_=>by simp[D.cL]
 | .int k n,_=>by simp[D.cL]
 | .bool b,_=>by simp[D.cL]
 | .str l,_=>by simp[D.cL]
 | .dN,_=>by simp[D.cL]
 | .val v,_=>by simp[D.cL]
 | .fb T o,h=>by simp[D.ok]at h
 | .fI o,h=>by simp[D.ok]at h
 | .dW z o g len,h=>by simp[D.ok]at h
 | .fc o g off,h=>by simp[D.ok]at h
 | .dU z,_=>by simp[D.cL]
 | .fS f cs,h=>by
  simp only[D.ok]at h
  simp only[D.cL,fp os ts cs h]
 | .ptr o f,h=>by simp[D.ok]at h
 | .dt r f,h=>by
  simp only[D.ok]at h
  simp only[D.cL,fp os ts r h]
 | .slice g z rows,h=>by
  simp only[D.ok,Bool.and_eq_true]at h
  simp only[D.cL,iS os ts rows h.2]
  cases g with
  |tok t y=>simp[Tag.ok]at h
  |full=>rfl
  |shared=>rfl
 | .agg cs,h=>by
  simp only[D.ok]at h
  simp only[D.cL,fp os ts cs h]
 | .tuple cs,h=>by
  simp only[D.ok]at h
  simp only[D.cL,fp os ts cs h]
theorem fp (os ts:List Nat) : ∀ l,D.bI 0 0 l=true→D.eD os ts l=l
 | [],_=>by simp[D.eD]
 |d::r,h=>by
  simp only[D.bI,Bool.and_eq_true]at h
  simp only[D.eD,pZ os ts d h.1,fp os ts r h.2]
theorem iS (os ts:List Nat) : ∀ l,D.gR 0 0 l=true→D.nz os ts l=l
 | [],_=>by simp[D.nz]
 |d::r,h=>by
  simp only[D.gR,Bool.and_eq_true]at h
  simp only[D.nz,fp os ts d h.1,iS os ts r h.2]
end
mutual
theorem Ez {n m n' m':Nat} (hn:n≤n') (hm:m≤m') : ∀ d,D.ok n m d=true→D.ok n' m' d=true
 | .junk,_=>rfl
 | .int k n,_=>rfl
 | .bool b,_=>rfl
 | .str l,_=>rfl
 | .dN,_=>rfl
 | .val v,_=>rfl
 | .fb T o,h=>by simp[D.ok]at h ⊢;omega
 | .fI o,h=>by simp[D.ok]at h ⊢;omega
 | .dW z o g len,h=>by simp[D.ok]at h ⊢;omega
 | .fc o g off,h=>by simp[D.ok]at h ⊢;omega
 | .dU z,_=>rfl
 | .fS f cs,h=>by
  simp only[D.ok]at h ⊢
  exact ib hn hm cs h
 | .ptr o f,h=>by simp only[D.ok,decide_eq_true_eq]at h ⊢;omega
 | .dt r f,h=>by
  simp only[D.ok]at h ⊢
  exact ib hn hm r h
 | .slice g z rows,h=>by
  simp only[D.ok,Bool.and_eq_true]at h ⊢
  refine⟨?_,lR hn hm rows h.2⟩
  cases g with
  |tok t y=>simp only[Tag.ok,decide_eq_true_eq]at h ⊢;omega
  |full=>rfl
  |shared=>rfl
 | .agg cs,h=>by
  simp only[D.ok]at h ⊢
  exact ib hn hm cs h
 | .tuple cs,h=>by
  simp only[D.ok]at h ⊢
  exact ib hn hm cs h
theorem ib {n m n' m':Nat} (hn:n≤n') (hm:m≤m') : ∀ l,D.bI n m l=true→D.bI n' m' l=true
 | [],_=>rfl
 |d::r,h=>by
  simp only[D.bI,Bool.and_eq_true]at h ⊢
  exact⟨Ez hn hm d h.1,ib hn hm r h.2⟩
theorem lR {n m n' m':Nat} (hn:n≤n') (hm:m≤m') : ∀ l,D.gR n m l=true→D.gR n' m' l=true
 | [],_=>rfl
 |d::r,h=>by
  simp only[D.gR,Bool.and_eq_true]at h ⊢
  exact⟨ib hn hm d h.1,lR hn hm r h.2⟩
end
def S0:St:=⟨[],[]⟩
section
variable {P:Program} {f:Nat}
theorem aG.pure {args:List D} {d:D} (h:aG P f args S0 d S0) (ha:D.bI 0 0 args=true) (hd:D.ok 0 0 d=true) (s:St):aG P f args s d s:=by
 refine bG.frame [] [] h List.nodup_nil List.nodup_nil (by simp) (by simp) rfl (by simp) rfl (by simp) (by rw[fp _ _ _ ha]) ha ?_
 rintro _ _ ⟨rfl,rfl⟩
 refine⟨pZ _ _ _ hd, ?_⟩
 simp[St.back,kn,S0]
theorem aG.RJ {args row j8:List D} {d:D} (h:aG P f (.ptr 0 0::args) ⟨[row],[]⟩ d ⟨[j8],[]⟩) (ha:D.bI 0 0 args=true) (hr:D.bI 0 0 row=true) (Oy:D.bI 0 0 j8=true) (hd:D.ok 0 0 d=true)
 {s:St} {o:Nat} (ho:s.ah[o]? = some row):aG P f (.ptr o 0::args) s d ⟨s.ah.set o j8,s.av⟩:=by
 refine bG.frame [o] [] h (by simp) List.nodup_nil (by simpa using (List.getElem?_eq_some_iff.1 ho).1) (by simp) rfl (fun i o' ds e1 e2=>?_) rfl (by simp) (by simp[D.eD,D.cL,fp _ _ _ ha])
  (by simp[D.bI,D.ok,ib (Nat.zero_le 1) (Nat.le_refl 0) _ ha]) ?_
 ·cases i with
  |zero=>simp at e1 e2;subst e1;subst e2;exact⟨by rw[fp _ _ _ hr];exact ho,ib (Nat.zero_le 1) (Nat.le_refl 0) _ hr⟩
  |succ i=>simp at e1
 ·rintro _ _ ⟨rfl,rfl⟩
  refine⟨pZ _ _ _ hd, ?_⟩
  simp[St.back,kn,fp _ _ _ Oy]
end
end Go.Abs
namespace Go.Abs
theorem X.bR {x:X} {tm bl:Tm} (h : ∀ t∈x.reads,tm.get t=bl.get t):x.ev tm=x.ev bl:=by
 cases x with
 |s t=>exact h t (by simp[X.reads])
 |k d=>rfl
theorem qA {t:Nat} {x:X} : ∀ {l:List X},x∈l→t∈x.reads→t∈nG l
 | [],h,_=>by cases h
 |y::r,h,ht=>by
  simp only[nG,List.mem_append]
  rcases List.mem_cons.1 h with rfl|h
  ·exact .inl ht
  ·exact .inr (qA h ht)
theorem vC {x:Option X} {tm bl:Tm} (h : ∀ t∈zN x,tm.get t=bl.get t):x.map (·.ev tm)=x.map (·.ev bl):=by
 cases x with
 |none=>rfl
 |some y=>simp only[Option.map_some];rw[X.bR h]
theorem B3 {o:AO} {tm bl:Tm} {s:St} (h : ∀ t∈o.reads,tm.get t=bl.get t):aI o tm s=aI o bl s:=by
 cases o with
 |mv x=>
  have hx:x.ev tm=x.ev bl:=X.bR fun t ht=>h t (by simp[AO.reads,ht])
  simp only[aI,hx]
 |pick c a b=>
  have hc:c.ev tm=c.ev bl:=X.bR fun t ht=>h t (by simp[AO.reads,ht])
  have ha:a.ev tm=a.ev bl:=X.bR fun t ht=>h t (by simp[AO.reads,ht])
  have hb:b.ev tm=b.ev bl:=X.bR fun t ht=>h t (by simp[AO.reads,ht])
  simp only[aI,hc,ha,hb]
 |alloc z=>
  rfl
 |sn z T=>rfl
 |zK x T=>
  have hx:x.ev tm=x.ev bl:=X.bR fun t ht=>h t (by simp[AO.reads,ht])
  simp only[aI,hx]
 |zL x y=>
  have hx:x.ev tm=x.ev bl:=X.bR fun t ht=>h t (by simp[AO.reads,ht])
  have hy:y.ev tm=y.ev bl:=X.bR fun t ht=>h t (by simp[AO.reads,ht])
  simp only[aI,hx,hy]
 |apps x y=>
  have hx:x.ev tm=x.ev bl:=X.bR fun t ht=>h t (by simp[AO.reads,ht])
  have hy:y.ev tm=y.ev bl:=X.bR fun t ht=>h t (by simp[AO.reads,ht])
  simp only[aI,hx,hy]
 |box x=>
  have hx:x.ev tm=x.ev bl:=X.bR fun t ht=>h t (by simp[AO.reads,ht])
  simp only[aI,hx]
 |zI x=>
  have hx:x.ev tm=x.ev bl:=X.bR fun t ht=>h t (by simp[AO.reads,ht])
  simp only[aI,hx]
 |load x g n=>
  have hx:x.ev tm=x.ev bl:=X.bR fun t ht=>h t (by simp[AO.reads,ht])
  simp only[aI,hx]
 |store p x n=>
  have hp:p.ev tm=p.ev bl:=X.bR fun t ht=>h t (by simp[AO.reads,ht])
  have hx:x.ev tm=x.ev bl:=X.bR fun t ht=>h t (by simp[AO.reads,ht])
  simp only[aI,hp,hx]
 |bO x=>
  have hx:x.ev tm=x.ev bl:=X.bR fun t ht=>h t (by simp[AO.reads,ht])
  simp only[aI,hx]
 |bin op x y=>
  have hx:x.ev tm=x.ev bl:=X.bR fun t ht=>h t (by simp[AO.reads,ht])
  have hy:y.ev tm=y.ev bl:=X.bR fun t ht=>h t (by simp[AO.reads,ht])
  simp only[aI,hx,hy]
 |Ff n x y=>
  have hx:x.ev tm=x.ev bl:=X.bR fun t ht=>h t (by simp[AO.reads,ht])
  have hy:y.ev tm=y.ev bl:=X.bR fun t ht=>h t (by simp[AO.reads,ht])
  simp only[aI,hx,hy]
 |eqs n ks x y=>
  have hx:x.ev tm=x.ev bl:=X.bR fun t ht=>h t (by simp[AO.reads,ht])
  have hy:y.ev tm=y.ev bl:=X.bR fun t ht=>h t (by simp[AO.reads,ht])
  simp only[aI,hx,hy]
 |Fg n x y=>
  have hx:x.ev tm=x.ev bl:=X.bR fun t ht=>h t (by simp[AO.reads,ht])
  have hy:y.ev tm=y.ev bl:=X.bR fun t ht=>h t (by simp[AO.reads,ht])
  simp only[aI,hx,hy]
 |un op x=>
  have hx:x.ev tm=x.ev bl:=X.bR fun t ht=>h t (by simp[AO.reads,ht])
  simp only[aI,hx]
 |conv k x=>
  have hx:x.ev tm=x.ev bl:=X.bR fun t ht=>h t (by simp[AO.reads,ht])
  simp only[aI,hx]
 |C8 x=>
  have hx:x.ev tm=x.ev bl:=X.bR fun t ht=>h t (by simp[AO.reads,ht])
  simp only[aI,hx]
 |wV x=>
  have hx:x.ev tm=x.ev bl:=X.bR fun t ht=>h t (by simp[AO.reads,ht])
  simp only[aI,hx]
 |aq x n=>
  have hx:x.ev tm=x.ev bl:=X.bR fun t ht=>h t (by simp[AO.reads,ht])
  simp only[aI,hx]
 |BT x n g m=>
  have hx:x.ev tm=x.ev bl:=X.bR fun t ht=>h t (by simp[AO.reads,ht])
  simp only[aI,hx]
 |cq x i n=>
  have hx:x.ev tm=x.ev bl:=X.bR fun t ht=>h t (by simp[AO.reads,ht])
  have hi:i.ev tm=i.ev bl:=X.bR fun t ht=>h t (by simp[AO.reads,ht])
  simp only[aI,hx,hi]
 |zJ x i=>
  have hx:x.ev tm=x.ev bl:=X.bR fun t ht=>h t (by simp[AO.reads,ht])
  have hi:i.ev tm=i.ev bl:=X.bR fun t ht=>h t (by simp[AO.reads,ht])
  simp only[aI,hx,hi]
 |ext x i=>
  have hx:x.ev tm=x.ev bl:=X.bR fun t ht=>h t (by simp[AO.reads,ht])
  simp only[aI,hx]
 |len x=>
  have hx:x.ev tm=x.ev bl:=X.bR fun t ht=>h t (by simp[AO.reads,ht])
  simp only[aI,hx]
 |uv x=>
  have hx:x.ev tm=x.ev bl:=X.bR fun t ht=>h t (by simp[AO.reads,ht])
  simp only[aI,hx]
 |app a b x y=>
  have hx:x.ev tm=x.ev bl:=X.bR fun t ht=>h t (by simp[AO.reads,ht])
  have hy:y.ev tm=y.ev bl:=X.bR fun t ht=>h t (by simp[AO.reads,ht])
  simp only[aI,hx,hy]
 |mm b x y=>
  have hx:x.ev tm=x.ev bl:=X.bR fun t ht=>h t (by simp[AO.reads,ht])
  have hy:y.ev tm=y.ev bl:=X.bR fun t ht=>h t (by simp[AO.reads,ht])
  simp only[aI,hx,hy]
 | build z ps=>
  have hp:(ps.map fun p=>(p.1,p.2.1,p.2.2.ev tm))=ps.map fun p=>(p.1,p.2.1,p.2.2.ev bl):=List.map_congr_left fun p hp=>by
   have:p.2.2.ev tm=p.2.2.ev bl:=X.bR fun t ht=>h t (by simp only[AO.reads];exact qA (List.mem_map_of_mem hp) ht)
   rw[this]
  simp only[aI,hp]
 | du z m n ps=>
  have hp:(ps.map fun p=>(p.1,p.2.ev tm))=ps.map fun p=>(p.1,p.2.ev bl):=List.map_congr_left fun p hp=>by
   have:p.2.ev tm=p.2.ev bl:=X.bR fun t ht=>h t (by simp only[AO.reads];exact qA (List.mem_map_of_mem hp) ht)
   rw[this]
  simp only[aI,hp]
 | uu z m n ps=>
  have hp:(ps.map fun p=>(p.1,p.2.ev tm))=ps.map fun p=>(p.1,p.2.ev bl):=List.map_congr_left fun p hp=>by
   have:p.2.ev tm=p.2.ev bl:=X.bR fun t ht=>h t (by simp only[AO.reads];exact qA (List.mem_map_of_mem hp) ht)
   rw[this]
  simp only[aI,hp]
 |C9 n x lo hi=>
  have hx:x.ev tm=x.ev bl:=X.bR fun t ht=>h t (by simp[AO.reads,ht])
  have hl:lo.map (·.ev tm)=lo.map (·.ev bl):=vC fun t ht=>h t (by simp[AO.reads,ht])
  have hh:hi.map (·.ev tm)=hi.map (·.ev bl):=vC fun t ht=>h t (by simp[AO.reads,ht])
  simp only[aI,hx,hl,hh]
 |G5 x lo hi=>
  have hx:x.ev tm=x.ev bl:=X.bR fun t ht=>h t (by simp[AO.reads,ht])
  have hl:lo.map (·.ev tm)=lo.map (·.ev bl):=vC fun t ht=>h t (by simp[AO.reads,ht])
  have hh:hi.map (·.ev tm)=hi.map (·.ev bl):=vC fun t ht=>h t (by simp[AO.reads,ht])
  simp only[aI,hx,hl,hh]
 |tU f xs=>
  have hp:(xs.map fun x=>x.ev tm)=xs.map fun x=>x.ev bl:=List.map_congr_left fun x hx=>X.bR fun t ht=>h t (by simp only[AO.reads];exact qA hx ht)
  simp only[aI,hp]
 |tV=>rfl
 |xP m k v=>
  have hm:m.ev tm=m.ev bl:=X.bR fun t ht=>h t (by simp[AO.reads,ht])
  have hk:k.ev tm=k.ev bl:=X.bR fun t ht=>h t (by simp[AO.reads,ht])
  have hv:v.ev tm=v.ev bl:=X.bR fun t ht=>h t (by simp[AO.reads,ht])
  simp only[aI,hm,hk,hv]
 |zM a b z l c=>
  have hl:l.ev tm=l.ev bl:=X.bR fun t ht=>h t (by simp[AO.reads,ht])
  have hk:c.ev tm=c.ev bl:=X.bR fun t ht=>h t (by simp[AO.reads,ht])
  simp only[aI,hl,hk]
 |ql o x y=>
  have hx:x.ev tm=x.ev bl:=X.bR fun t ht=>h t (by simp[AO.reads,ht])
  have hy:y.ev tm=y.ev bl:=X.bR fun t ht=>h t (by simp[AO.reads,ht])
  simp only[aI,hx,hy]
 |vr m k z=>
  have hm:m.ev tm=m.ev bl:=X.bR fun t ht=>h t (by simp[AO.reads,ht])
  have hk:k.ev tm=k.ev bl:=X.bR fun t ht=>h t (by simp[AO.reads,ht])
  simp only[aI,hm,hk]
theorem Jz {x d:D} {agg:Bool} {size:Nat} {s s':St} (h:xR x agg size s=some (d,s')):s'=s:=by
 unfold xR at h
 (repeat' (split at h))<;>first|(cases h;rfl)|cases h
theorem JA {o:AO} (ho:gv o.kind=false) {tm:Tm} {s s':St} {d:D} (h:aI o tm s=some (d,s')):s'=s:=by
 cases o<;>simp only[AO.kind,gv]at ho<;>first|cases ho|skip
 all_goals
  simp only[aI]at h
  first
   |(cases h;rfl)
   |(repeat' (split at h))<;>first|exact Jz h|(cases h;rfl)|cases h
theorem LQ {o:AO} (ho:o.kind = .pure) {tm:Tm} {s s':St} : (aI o tm s).map (·.1)=(aI o tm s').map (·.1):=by
 cases o<;>simp only[AO.kind]at ho<;>first|cases ho|skip
 all_goals
  simp only[aI]
  first
   |rfl
   |(repeat' split)<;>rfl
def jD (ai:AI) (tm:Tm) (s:St):Option D:=
 match ai with
 | .op _ none o=>(aI o tm s).map (·.1)
 | .op _ (some (t,want)) o=>
  match tm.get t with
  | .bool b=>if b=want then(aI o tm s).map (·.1)else some (.tuple [])
  | .tuple _=>some (.tuple [])
  |_=>none
 |_=>none
def rX (P:Program) (ai:AI) (tm:Tm) (s:St) (d:D) (s':St):Prop:=
 match ai with
 | .op _ g o=>guarded g tm (aI o tm s=some (d,s')) (d = .tuple []∧s'=s)
 | .call _ g f xs=>guarded g tm (bG P f (xs.map (·.ev tm)) s fun x y=>x=d∧y=s') (d = .tuple []∧s'=s)
 | .nil .. =>False
 | .jb .. =>False
def kB (P:Program) (is:List AI) (K:Tm→St→Prop):List (Nat×Nat)→List St→Tm→St→Prop
 | [],_,tm,s=>K tm s
 | (q,b)::r,bA,tm,s=>
  match is[q]? with
  |none=>False
  |some ai=>
   match gv ai.kind with
   |true=>∃ d s',rX P ai tm s d s'∧kB P is K r (s::bA) (tm.put ai.dst d) s'
   |false=>∃ d,jD ai tm s=some d∧(ai.kind = .load→∀ s'∈bA.take b,jD ai tm s'=some d)∧kB P is K r bA (tm.put ai.dst d) s
def Tm.eqv (a b:Tm):Prop:=∀ t,a.get t=b.get t
theorem Tm.kX (tm:Tm) (dst:Option Nat) (d:D) (t:Nat):(tm.put dst d).get t=if dst=some t then d else tm.get t:=by
 cases dst with
 |none=>simp[Tm.put]
 |some u=>
  simp only[Tm.put,Tm.Es,Option.some.injEq]
  by_cases h:t=u
  ·subst h;simp
  ·rw[if_neg h,if_neg (fun e=>h e.symm)]
theorem Tm.eqv.put {a b:Tm} (h:a.eqv b) (dst:Option Nat) (d:D):(a.put dst d).eqv (b.put dst d):=fun t=>by
 rw[Tm.kX,Tm.kX,h t]
theorem Tm.HF (tm:Tm) {x y:Option Nat} (h : ∀ t,x=some t→y≠some t) (d e:D):((tm.put x d).put y e).eqv ((tm.put y e).put x d):=fun t=>by
 simp only[Tm.kX]
 by_cases h1:x=some t
 ·simp only[h1,h t h1,if_true,if_false]
 ·simp only[h1,if_false]
theorem zf {g:Option (Nat×Bool)} {tm bl:Tm} {A A' C:Prop} (h : ∀ t∈uw g,tm.get t=bl.get t) (ha:A→A') (hh:guarded g tm A C):guarded g bl A' C:=by
 cases g with
 |none=>exact ha hh
 | some p=>
  obtain⟨t,want⟩:=p
  unfold guarded at *
  simp only at *
  rw[← h t (by simp[uw])]
  split
  ·rename_i b hb
   rw[hb]at hh
   exact⟨fun e=>ha (hh.1 e),hh.2⟩
  ·rename_i hb
   rw[hb]at hh
   exact hh
  ·rename_i x h1 h2
   split at hh
   ·exact h1 _ ‹_›
   ·exact h2 _ ‹_›
   ·exact hh
theorem Fw {tm bl:Tm} : ∀ {l:List X},(∀ t∈nG l,tm.get t=bl.get t)→l.map (·.ev tm)=l.map (·.ev bl)
 | [],_=>rfl
 |x::r,h=>by
  simp only[List.map_cons]
  rw[X.bR fun t ht=>h t (by simp[nG,ht]),Fw (l:=r) fun t ht=>h t (by simp[nG,ht])]
theorem wo {P:Program} {ai:AI} {tm bl:Tm} {s s':St} {d:D} (h : ∀ t∈ai.reads,tm.get t=bl.get t) (hh:rX P ai tm s d s'):rX P ai bl s d s':=by
 cases ai with
 |op dst g o=>
  simp only[AI.reads,List.mem_append]at h
  exact zf (fun t ht=>h t (.inl ht)) (fun e=>by rw[← B3 fun t ht=>h t (.inr ht)];exact e) hh
 |call dst g f xs=>
  simp only[AI.reads,List.mem_append]at h
  exact zf (fun t ht=>h t (.inl ht)) (fun e=>by rw[← Fw fun t ht=>h t (.inr ht)];exact e) hh
 |nil dst g n x=>exact hh
 |jb dst g t xs=>exact hh
theorem qg {ai:AI} {tm bl:Tm} {s:St} (h : ∀ t∈ai.reads,tm.get t=bl.get t):jD ai tm s=jD ai bl s:=by
 cases ai with
 | op dst g o=>
  simp only[AI.reads,List.mem_append]at h
  have he:=B3 (s:=s) fun t ht=>h t (.inr ht)
  cases g with
  |none=>simp only[jD,he]
  |some p=>
   obtain⟨t,want⟩:=p
   simp only[jD,he,h t (.inl (by simp[uw]))]
 |call dst g f xs=>rfl
 |nil dst g n x=>rfl
 |jb dst g t xs=>rfl
theorem Kl {dst:Option Nat} {g:Option (Nat×Bool)} {o:AO} (h:gv (AI.op dst g o).kind=false):(AI.op dst g o).kind=o.kind:=by
 unfold AI.kind at *
 split at h
 ·cases h
 ·rename_i heq;cases heq;rfl
 ·cases h
theorem RK {ai:AI} (hk:ai.kind = .pure) {tm:Tm} {s s':St} : jD ai tm s=jD ai tm s':=by
 cases ai with
 |op dst g o=>
  have ho:o.kind = .pure:=by rw[← hk];exact(Kl (by rw[hk];rfl)).symm
  have he:=LQ ho (tm:=tm) (s:=s) (s':=s')
  cases g with
  |none=>simp only[jD,he]
  |some p=>simp only[jD,he]
 |call dst g f xs=>rfl
 |nil dst g n x=>rfl
 |jb dst g t xs=>rfl
theorem apart_spec {a q:AI} (h:a.apart q=true):(∀ t,a.dst=some t→t∉q.reads)∧(∀ t,q.dst=some t→t∉a.reads)∧(∀ t,a.dst=some t→q.dst≠some t):=by
 unfold AI.apart at h
 simp only[Bool.and_eq_true]at h
 obtain⟨⟨h1,h2⟩,h3⟩:=h
 refine⟨fun t e=>?_,fun t e=>?_,fun t e e'=>?_⟩
 ·rw[e]at h1;simpa[Db]using h1
 ·rw[e]at h2;simpa[Db]using h2
 ·rw[e,e']at h3;simp at h3
theorem rY {tm:Tm} {dst:Option Nat} {d:D} {l:List Nat} (h : ∀ t,dst=some t→t∉l) : ∀ t∈l,tm.get t=(tm.put dst d).get t:=fun t ht=>by
 rw[Tm.kX,if_neg fun e=>h t e ht]
section
variable {P:Program} {is:List AI} {K:Tm→St→Prop}
theorem rZ (hK : ∀ tm bl s,Tm.eqv tm bl→K tm s→K bl s) : ∀ (R:List (Nat×Nat)) (bA:List St) (tm bl:Tm) (s:St),tm.eqv bl→kB P is K R bA tm s→kB P is K R bA bl s
 | [],_,tm,bl,s,e,h=>hK tm bl s e h
 | (q,b)::R,bA,tm,bl,s,e,h=>by
  unfold kB at *
  split at h
  ·exact h.elim
  ·rename_i ai vB
   split at h
   ·rename_i hc
    obtain⟨d,s',h1,h2⟩:=h
    exact⟨d,s',wo (fun t _=>e t) h1,rZ hK R _ _ _ _ (e.put _ d) h2⟩
   ·rename_i hc
    obtain⟨d,h1,h2,h3⟩:=h
    refine⟨d, ?_,fun hl s' ou=>?_,rZ hK R _ _ _ _ (e.put _ d) h3⟩
    ·rw[← qg fun t _=>e t];exact h1
    ·rw[← qg fun t _=>e t];exact h2 hl s' ou
theorem HG (i:Nat) (l:List Nat):jn is (i::l)=(if gv (jc is i)then 1 else 0)+jn is l:=by
 unfold jn
 rw[List.filter_cons]
 split<;>simp<;>omega
theorem wq (hK : ∀ tm bl s,Tm.eqv tm bl→K tm s→K bl s) {q b:Nat} {ai:AI} (hq:is[q]? = some ai) (hm:gv ai.kind=false) (Y:List (Nat×Nat)) :
 ∀ (X:List (Nat×Nat)) (bA:List St) (tm:Tm) (s:St),(∀ a∈X,kR is a.1 q=true)→(ai.kind = .load→jn is (X.map (·.1))≤b)→
  kB P is K (X++(q,b)::Y) bA tm s→
  ∃ d,jD ai tm s=some d∧(ai.kind = .load→∀ s'∈bA.take (b - jn is (X.map (·.1))),jD ai tm s'=some d)∧kB P is K (X++Y) bA (tm.put ai.dst d) s
 | [],bA,tm,s,_,_,h=>by
  simp only[List.nil_append,kB,hq,hm]at h
  obtain⟨d,h1,h2,h3⟩:=h
  exact⟨d,h1,fun hl s' ou=>h2 hl s' (by simpa[jn]using ou),h3⟩
 | (a,c)::X,bA,tm,s,eA,hb,h=>by
  have LR:=eA (a,c) (by simp)
  unfold kR at LR
  split at LR
  ·rename_i ia iq hia tH
   rw[hq]at tH
   cases tH
   obtain⟨p1,p2,p3⟩:=apart_spec LR
   have OI:jc is a=ia.kind:=by simp[jc,hia]
   have GK : ∀ x∈X,kR is x.1 q=true:=fun x hx=>eA x (List.mem_cons_of_mem _ hx)
   rw[List.map_cons,HG,OI]at hb ⊢
   simp only[List.cons_append,kB,hia]at h ⊢
   cases hc:gv ia.kind
   ·simp only [hc,Bool.false_eq_true,if_false,Nat.zero_add]at h hb ⊢
    obtain⟨d,h1,h2,h3⟩:=h
    obtain⟨e,g1,g2,g3⟩:=wq hK hq hm Y X bA _ s GK hb h3
    have cg : ∀ s,jD ai tm s=jD ai (tm.put ia.dst d) s:=fun s=>qg (rY p1)
    have cg' : ∀ s,jD ia tm s=jD ia (tm.put ai.dst e) s:=fun s=>qg (rY p2)
    refine⟨e,by rw[cg];exact g1,fun hl s' ou=>by rw[cg];exact g2 hl s' ou,d,by rw[← cg'];exact h1,fun hl s' ou=>by rw[← cg'];exact h2 hl s' ou, ?_⟩
    exact rZ hK _ _ _ _ _ (Tm.HF tm p3 d e) g3
   ·simp only [hc,if_true]at h hb ⊢
    obtain⟨d,s1,h1,h3⟩:=h
    obtain⟨e,g1,g2,g3⟩:=wq hK hq hm Y X (s::bA) _ s1 GK (fun hl=>by have:=hb hl;omega) h3
    have cg : ∀ s,jD ai tm s=jD ai (tm.put ia.dst d) s:=fun s=>qg (rY p1)
    have pO:jD ai tm s=some e:=by
     cases hk:ai.kind with
     |pure=>rw[cg,RK hk (s':=s1)];exact g1
     |load=>
      have:=hb hk
      rw[cg]
      refine g2 hk s ?_
      rw[show b - jn is (X.map (·.1))=(b - (1+jn is (X.map (·.1))))+1 by omega,List.take_succ_cons]
      exact List.mem_cons_self
     |alloc=>rw[hk]at hm;cases hm
     |core=>rw[hk]at hm;cases hm
    refine⟨e,pO,fun hl s' ou=>?_,d,s1,wo (rY p2) h1,rZ hK _ _ _ _ _ (Tm.HF tm p3 d e) g3⟩
    have:=hb hl
    rw[cg]
    refine g2 hl s' ?_
    rw[show b - jn is (X.map (·.1))=(b - (1+jn is (X.map (·.1))))+1 by omega,List.take_succ_cons]
    exact List.mem_cons_of_mem _ ou
  ·cases LR
end
end Go.Abs
namespace Go.Abs
section
variable {P:Program}
theorem O0 {o:Oper} {z:List D} (h:Dd P o=some (.alloc z)) : ∃ t,o.op = .alloc t∧zeroOf P t=some z:=by
 obtain⟨dst,op,type,pos,after,guard⟩:=o
 unfold Dd at h
 simp only at h
 split at h
 case h_4 t=>
  split at h
  ·obtain⟨z',h1,h2⟩:=map_some h;cases h2
  ·obtain⟨z',h1,h2⟩:=map_some h;cases h2;exact⟨t,rfl,h1⟩
 all_goals
  first
   |(rw[Option.map_eq_some_iff]at h;obtain⟨_,_,h⟩:=h;cases h)
   |skip
 all_goals
  (repeat' (split at h))<;>first|(cases h;done)|(rw[Option.map_eq_some_iff]at h;obtain⟨_,_,h⟩:=h;cases h)
theorem Ah {nt:Nat} {ops:Array Oper} {o:Oper} {ai:AI} (h:cI P nt ops o=some ai) :
 ∃ g,ux ops o.guard=some g∧(∀ t,o.dst=some t→t<nt)∧rS P ops o g=some ai:=by
 have h2:=xf h
 unfold cI at h
 split at h
 ·cases h
 ·rename_i g hg
  split at h
  ·exact⟨g,hg,h2,h⟩
  ·cases h
theorem sE {ops:Array Oper} {o:Oper} {g:Option (Nat×Bool)} {ai:AI} (h:rS P ops o g=some ai):ai.dst=o.dst:=by
 unfold rS at h
 split at h
 ·split at h
  ·obtain⟨xs,_,rfl⟩:=map_some h;rfl
  ·cases h
 ·obtain⟨xs,_,rfl⟩:=map_some h;rfl
 ·split at h
  ·cases h;rfl
  ·split at h
   ·cases h;rfl
   ·cases h;rfl
   ·cases h
theorem sF {nt:Nat} {ops:Array Oper} {o:Oper} {ai:AI} (h:cI P nt ops o=some ai):ai.dst=o.dst:=by
 obtain⟨g,_,_,h⟩:=Ah h
 exact sE h
theorem wu {nt:Nat} {ops:Array Oper} {i:Nat} {o:Oper} {ai:AI} (hi:ops[i]? = some o) (hc:cI P nt ops o=some ai)
 {M:Map} {s:St} {w:World} {tm:Tm} {act:Act} (r:Rel M s w) (kh:Laid M s w) (ht:lE M s tm act.tmps) {K':Tm→St→Prop} (h:iI P [ai] K' tm s)
 {K:Act→World→Prop} {Q:Exit→Act→World→Prop}
 (hK : ∀ d v s1 w1 M1,K' (tm.put ai.dst d) s1→Ext M s w M1 s1 w1→Rel M1 s1 w1→RD M1 s1 d v→K (act.put o.dst v) w1):wpOp P ops Q i K act w:=by
 obtain⟨g,hg,_,hb⟩:=Ah hc
 rw[sE hb]at hK
 simp only[wpOp,hi]
 have skip:K' (tm.put o.dst (.tuple [])) s→K (act.put o.dst Go.undef) w:=fun hk=>hK _ _ _ _ _ hk (Ext.refl M s w) r .undef
 unfold rS at hb
 split at hb
 ·rename_i f args l7 l6
  split at hb
  ·rename_i x8
   obtain⟨xs,od,rfl⟩:=map_some hb
   simp only[iI]at h
   rcases jU hg ht h with ⟨hw,hA⟩|⟨hw,hB⟩
   ·simp only [hw,if_true]
    left
    have hex:(execOp act.eval o).run P w = .ok (.enter f (args.map act.eval)) w:=by
     obtain⟨dst,op,type,pos,after,guard⟩:=o
     simp only at l6
     subst l6
     exact wj act.eval dst f args l7 type pos after guard rfl x8 w
    obtain⟨c1,c2⟩:=vA ht od
    unfold Oper.wp
    rw[hex,Oper.upon_enter]
    refine(hA M w (args.map act.eval) r kh (by simp[c1]) (fun i d v e1 e2=>c2 i d v e1 (by simpa using e2))).mono ?_
    rintro en w' ⟨M',d,v,s',rfl,hk,e',r',hv⟩
    exact hK _ _ _ _ _ hk e' r' hv
   ·simp only [hw]
    exact skip hB
  ·cases hb
 ·rename_i t args l7 l6
  obtain⟨xs,od,rfl⟩:=map_some hb
  simp only[iI]at h
  rcases jU hg ht h with ⟨hw,hA⟩|⟨hw,hB⟩
  ·simp only [hw,if_true]
   left
   split at hA
   ·rename_i f np oc
    obtain⟨x8,hA⟩:=hA
    have OO:=ht t
    rw[oc]at OO
    obtain⟨vs,sA,hlen,Dp⟩:=OO.Kg
    have hex:(execOp act.eval o).run P w = .ok (.enter f (args.map act.eval++vs)) w:=by
     obtain⟨dst,op,type,pos,after,guard⟩:=o
     simp only at l6
     subst l6
     exact Ac act.eval dst (.tmp t) f vs args l7 type pos after guard sA x8 w
    have cc:=Ft od ht hlen Dp
    unfold Oper.wp
    rw[hex,Oper.upon_enter]
    refine(hA M w (args.map act.eval++vs) r kh cc.1 cc.2).mono ?_
    rintro en w' ⟨M',d,v,s',rfl,hk,e',r',hv⟩
    exact hK _ _ _ _ _ hk e' r' hv
   ·exact hA.elim
  ·simp only [hw]
   exact skip hB
 ·split at hb
  ·rename_i neg x Cr
   cases hb
   simp only[iI]at h
   rcases jU hg ht h with ⟨hw,hA⟩|⟨hw,hB⟩
   ·simp only [hw,if_true]
    left
    split at hA
    ·rename_i g' z rows hx
     obtain⟨b,hb,hex⟩:=za (w:=w) Cr ht hx
     unfold Oper.wp
     rw[hex,Oper.upon_value]
     exact hK _ _ _ _ _ (hA b hb) (Ext.refl M s w) r (.bool _)
    ·exact hA.elim
   ·simp only [hw]
    exact skip hB
  ·have fin : ∀ ao,ai = .op o.dst g ao→(∀ d s',aI ao tm s=some (d,s')→cJ P M s w (execOp act.eval o) d s')→
    (if Region.wanted o (yielded ops act.tmps)=true then o.wp P act w K Q∨(o.asks P act w∧LetsOut Q)else K (act.put o.dst Go.undef) w):=by
    intro ao vB Zb
    subst vB
    simp only[iI]at h
    rcases jU hg ht h with ⟨hw,hA⟩|⟨hw,hB⟩
    ·simp only [hw,if_true]
     left
     split at hA
     ·rename_i d s' qe
      obtain⟨v,w',M',dC,r',hv,e'⟩:=Zb d s' qe
      unfold Oper.wp
      rcases dC with dC|⟨dC,rfl⟩
      ·rw [dC,Oper.upon_value]
       exact hK _ _ _ _ _ hA e' r' hv
      ·rw [dC,Oper.upon_skip]
       exact hK _ _ _ _ _ hA e' r' hv
     ·exact hA.elim
    ·simp only [hw]
     exact skip hB
   split at hb
   ·rename_i z k n ps nJ
    cases hb
    refine fin _ rfl (fun d s' qe=>?_)
    split at qe
    ·exact x7 nJ r ht qe
    ·exact rW nJ r ht qe
   ·rename_i ao nJ
    cases hb
    exact fin _ rfl (fun d s' qe=>rW nJ r ht qe)
   ·cases hb
structure Km (M:Map) (s:St) (b:Nat):Prop where
 o : ∀ o,o<s.ah.length→M.mu o≠b
 t : ∀ t c z,s.live t→M.be t≠some (b,c,z)
 g : ∀ off,M.G b off=none
theorem Km.mono {M M':Map} {s s':St} {w w':World} {b:Nat} (h:Km M s b) (e:Ext M s w M' s' w') (hb:b<w.heap.size):Km M' s' b:=by
 refine⟨fun o ho=>?_,fun t c z hl he=>?_,fun off=>?_⟩
 ·rcases e.mo ho with ⟨h1,h2⟩ | h1
  ·rw[h2];exact h.o o h1
  ·omega
 ·rcases e.pU t b c z hl he with ⟨h1,c',z',h2⟩ | h1
  ·exact h.t t c' z' h1 h2
  ·omega
 ·by_cases hg:M'.G b off=M.G b off
  ·rw[hg];exact h.g off
  ·rcases e.rp b off hg with h1 | ⟨t,c,z,h1,h2⟩
   ·omega
   ·exact(h.t t c z h1 h2).elim
theorem Rel.idle {M:Map} {s:St} {w:World} (r:Rel M s w) (x:Obj):Rel M s (w.alloc x)∧Ext M s w M s (w.alloc x)∧Km M s w.heap.size:=by
 refine⟨⟨fun b o v e=>?_,fun o ds e=>?_,r.jv,r.inj,fun t n e=>?_,r.eZ,r.fJ⟩, ?_,⟨fun o ho=>?_,fun t c z hl e=>?_,fun off=>r.Lc (Nat.le_refl _) off⟩⟩
 ·obtain⟨h3,h4⟩:=r.comm b o v e
  refine⟨?_,h4⟩
  rw[World.cell?_alloc_lt]
  ·exact h3
  ·exact r.zS e
 ·obtain⟨vs,T,h3,h4,h5,h6⟩:=r.obj o ds e
  exact⟨vs,T,h3.keep (heap_alloc_old w _ _ h3.lt),h4,h5,h6⟩
 ·rcases r.tok t n e with h3 | ⟨b,cap,size,fu,T',h3,h4,h5⟩
  ·exact .inl h3
  ·exact .inr ⟨b,cap,size,fu,T',h3,by rw[heap_alloc_old w _ _ (jR h4)];exact h4,h5⟩
 ·exact⟨Le.refl M s,fun b hb _ _=>heap_alloc_old w _ b hb,fun o h3 h4=>by rcases h3 with h3|h3;omega;exact(h3 rfl).elim,fun t b c z h e=> .inl ⟨h,c,z,e⟩,fun _ _ h=>(h rfl).elim,by simp,rfl,rfl,rfl⟩
 ·have:=r.pM ho;omega
 ·have:=r.rT hl e;omega
theorem Rel.ado {M:Map} {s:St} {w:World} (r:Rel M s w) {B:fM} (e:Ext B.M B.s B.w M s w) {b:Nat} (u:Km M s b) (hb:B.w.heap.size≤b)
 (ds:List D) (vs:Array Value) (T:TypeId) (hh:w.heap[b]? = some (.cells vs T (0,0))) (hl:vs.size=ds.length) (h1 : ∀ v∈vs,v.oneCell'=true)
 (h2 : ∀ (i:Nat) (d:D) (v:Value),ds[i]? = some d→vs[i]? = some v→RD M s d v) :
 Rel (M.dJ s.ah.length b) {s with ah:=s.ah++ [ds]} w∧Ext B.M B.s B.w (M.dJ s.ah.length b) {s with ah:=s.ah++ [ds]} w∧
 Le M s (M.dJ s.ah.length b) {s with ah:=s.ah++ [ds]}:=by
 have le:=ry (M:=M) s b ds
 have mA : ∀ o,o<s.ah.length→(M.dJ s.ah.length b).mu o=M.mu o:=fun o ho=>congrArg Prod.fst (su M b .any ho)
 have da:(M.dJ s.ah.length b).mu s.ah.length=b:=by simp[Map.dJ,Map.mu]
 refine⟨⟨r.comm,fun o na e'=>?_,fun o ho off=>?_,fun o o' ho nc e'=>?_,r.tok,fun t b' c z o hl e' ho=>?_,r.fJ⟩, ?_,le⟩
 ·rcases Nat.lt_or_ge o s.ah.length with ho | ho
  ·rw [List.getElem?_append_left ho]at e'
   obtain⟨fu,T',h3,h4,h5,h6⟩:=r.obj o na e'
   refine⟨fu,T', ?_,h4,⟨h5.1,by rw[le.ty o ho];exact h5.2⟩,fun i d v e1 e2=>(h6 i d v e1 e2).mono le⟩
   rw[su M b .any ho];exact h3
  ·rw [List.getElem?_append_right ho]at e'
   have:o=s.ah.length:=by
    have:=(List.getElem?_eq_some_iff.1 e').1
    simp at this;omega
   subst this
   simp at e';subst e'
   refine⟨vs,T, ?_,hl,⟨h1,fun T' h=>by simp[Map.dJ,Map.ty,Ob.ty?]at h⟩,fun i d v e1 e2=>(h2 i d v e1 e2).mono le⟩
   have hl:(M.dJ s.ah.length b).loc s.ah.length=(b, .any):=by simp[Map.dJ]
   rw[hl];exact ig.of hh trivial
 ·simp at ho
  rcases Nat.lt_or_ge o s.ah.length with h3|h3
  ·rw[mA o h3];exact r.jv o h3 off
  ·have:o=s.ah.length:=by omega
   subst this
   rw[da];exact u.g off
 ·simp at ho nc
  rcases Nat.lt_or_ge o s.ah.length with h3|h3<;>rcases Nat.lt_or_ge o' s.ah.length with h4|h4
  ·rw[mA o h3,mA o' h4]at e';exact r.inj o o' h3 h4 e'
  ·have:o'=s.ah.length:=by omega
   subst this
   rw[mA o h3,da]at e'
   exact(u.o o h3 e').elim
  ·have:o=s.ah.length:=by omega
   subst this
   rw[mA o' h4,da]at e'
   exact(u.o o' h4 e'.symm).elim
  ·omega
 ·simp at ho
  rcases Nat.lt_or_ge o s.ah.length with h3|h3
  ·rw[mA o h3];exact r.eZ t b' c z o hl e' h3
  ·have:o=s.ah.length:=by omega
   subst this
   rw[da]
   intro he
   subst he
   exact u.t t c z hl e'
 ·refine⟨e.le.trans le,e.kept,fun o h3 h4=> ?_,e.pU,e.rp,e.size,e.os,e.tape,e.output⟩
  simp at h4
  rcases Nat.lt_or_ge o s.ah.length with h5|h5
  ·rw[mA o h5]at h3 ⊢;exact e.sX o h3 h5
  ·have:o=s.ah.length:=by omega
   subst this
   rw[da];exact hb
theorem JB {nt:Nat} {ops:Array Oper} {i:Nat} {o:Oper} {t:Nat} {z:List D} (hi:ops[i]? = some o) (hc:cI P nt ops o=some (.op (some t) none (.alloc z)))
 {w:World} {act:Act} {K:Act→World→Prop} {Q:Exit→Act→World→Prop}
 (hK : ∀ vs T,vs.size=z.length→(∀ v∈vs,v.oneCell'=true)→(∀ (M:Map) (s:St) (i:Nat) (d:D) (v:Value),z[i]? = some d→vs[i]? = some v→RD M s d v)→
  K (act.put (some t) (.pointer (some ⟨w.heap.size,0,none⟩))) (w.alloc (.cells vs T))):wpOp P ops Q i K act w:=by
 obtain⟨g,hg,_,hb⟩:=Ah hc
 have pY:=sE hb
 simp only[AI.dst]at pY
 simp only[wpOp,hi]
 have l6:g=none∧Dd P o=some (.alloc z):=by
  unfold rS at hb
  split at hb
  ·split at hb
   ·obtain⟨xs,_,h⟩:=map_some hb;cases h
   ·cases hb
  ·obtain⟨xs,_,h⟩:=map_some hb;cases h
  ·split at hb
   ·cases hb
   ·split at hb
    ·rename_i nJ
     simp only[Option.some.injEq,AI.op.injEq]at hb
     obtain⟨_,_,h⟩:=hb
     split at h<;>cases h
    ·rename_i ao nJ
     simp only[Option.some.injEq,AI.op.injEq]at hb
     obtain⟨_,h1,h2⟩:=hb
     subst h2
     exact⟨h1,nJ⟩
    ·cases hb
 obtain⟨rfl,nJ⟩:=l6
 obtain⟨T,hT,hz⟩:=O0 nJ
 have hw:Region.wanted o (yielded ops act.tmps)=true:=by
  have:o.guard=none:=by
   cases Fj:o.guard with
   |none=>rfl
   |some p=>
    obtain⟨j,b⟩:=p
    rw[Fj]at hg
    unfold ux at hg
    simp only at hg
    split at hg<;>cases hg
  simp[Region.wanted,this]
 simp only[hw,if_true]
 left
 unfold zeroOf at hz
 split at hz
 ·rename_i inf LH
  split at hz
  ·rename_i v hv
   split at hz
   ·have dC:(execOp act.eval o).run P w = .ok (.value (.pointer (some ⟨w.heap.size,0,none⟩))) (w.alloc (.cells v.cells T)):=by
     obtain⟨dst,op,type,pos,after,guard⟩:=o
     simp only at hT
     subst hT
     simp[execOp,Instr.alloc,zeroValue,fL P LH,hv,newVar,newRow]
    have h3:=fun M s=>kU (M:=M) (s:=s) hz
    obtain⟨h1,h2,_⟩:=h3 ⟨fun _ _=>none,fun _=>(0, .any),fun _=>none⟩ ⟨[],[]⟩
    unfold Oper.wp
    rw[dC,Oper.upon_value, ← pY]
    exact hK _ _ (by rw[h1];simp) (fun u hu=>h2 u (by simpa using hu)) (fun M s i d u e1 e2=>(h3 M s).2.2 i d u e1 (by simpa using e2))
   ·cases hz
  ·cases hz
 ·cases hz
end
end Go.Abs
namespace Go.Abs
section
variable {is:List AI} {af pt:List (List Nat)}
theorem zh {pq:List Nat} {l l':List Nat} (h:l'.Sublist l) (hb:kK is pq l=true):kK is pq l'=true:=by
 induction h with
 |slnil=>rfl
 |cons a h ih=>
  simp only[kK,Bool.and_eq_true]at hb
  exact ih hb.2
 |cons_cons a h ih=>
  simp only[kK,Bool.and_eq_true,Bool.or_eq_true]at hb ⊢
  refine⟨hb.1.imp id fun h1=>?_,ih hb.2⟩
  rw[List.all_eq_true]at h1 ⊢
  exact fun x hx=>h1 x (h.subset hx)
theorem Bh {f:Nat→Bool} {l l':List Nat} (h:l'.Sublist l) (ha:l.all f=true):l'.all f=true:=by
 rw[List.all_eq_true]at ha ⊢
 exact fun x hx=>ha x (h.subset hx)
theorem JC {l l':List Nat} (h:l'.Sublist l):jn is l'≤jn is l:=(h.filter _).length_le
theorem LS {pre EA:List Nat} {q b:Nat} (h:EA.Sublist pre) (hs:oo is pt pre q b=true):oo is pt EA q b=true:=by
 unfold oo at *
 split at hs
 ·exact Bh h hs
 ·exact Bh h hs
 ·simp only [Bool.and_eq_true]at hs ⊢
  exact⟨Bh h hs.1,zh h hs.2⟩
 ·simp only [Bool.and_eq_true,decide_eq_true_eq]at hs ⊢
  exact⟨⟨Bh h hs.1.1,zh h hs.1.2⟩,Nat.le_trans (JC (h.filter _)) hs.2⟩
theorem HH : ∀ {R:List (Nat×Nat)} {pre EA:List Nat},EA.Sublist pre→tC is af pt pre R=true→tC is af pt EA R=true
 | [],_,_,_,_=>rfl
 |(q,b)::R,pre,EA,h,ho=>by
  simp only[tC,Bool.and_eq_true,Bool.not_eq_true']at ho ⊢
  obtain⟨⟨⟨h1,h2⟩,h3⟩,h4⟩:=ho
  refine⟨⟨⟨LS h h1, ?_⟩,h3⟩,HH (h.cons_cons q) h4⟩
  rw[← Bool.not_eq_true,List.contains_iff_mem]at h2 ⊢
  exact fun hm=>h2 (h.subset hm)
theorem EB : ∀ {X:List (Nat×Nat)} {e:Nat×Nat} {Y:List (Nat×Nat)} {pre:List Nat},tC is af pt pre (X++e::Y)=true→tC is af pt pre (X++Y)=true
 | [],(q,b),Y,pre,h=>by
  simp only[List.nil_append,tC,Bool.and_eq_true]at h
  exact HH (List.sublist_cons_self q pre) h.2
 |(a,c)::X,e,Y,pre,h=>by
  simp only[List.cons_append,tC,Bool.and_eq_true]at h ⊢
  obtain⟨⟨⟨h1,h2⟩,h3⟩,h4⟩:=h
  refine⟨⟨⟨h1,h2⟩, ?_⟩,EB h4⟩
  rw[List.all_eq_true]at h3 ⊢
  intro j hj
  have:=h3 j hj
  simp only[Bool.and_eq_true,Bool.not_eq_true']at this ⊢
  refine⟨this.1, ?_⟩
  have h5:=this.2
  rw[← Bool.not_eq_true,List.contains_iff_mem]at h5 ⊢
  refine fun hm=>h5 ?_
  simp only[List.map_append,List.map_cons,List.mem_append,List.mem_cons]at hm ⊢
  exact hm.imp id .inr
theorem sG : ∀ {X:List (Nat×Nat)} {q b:Nat} {Y:List (Nat×Nat)} {pre:List Nat},tC is af pt pre (X++(q,b)::Y)=true→
 oo is pt ((X.map (·.1)).reverse++pre) q b=true∧q∉X.map (·.1)∧q∉pre∧(∀ j∈gG af q,j≠q∧j∉Y.map (·.1))∧tC is af pt (q::((X.map (·.1)).reverse++pre)) Y=true
 | [],q,b,Y,pre,h=>by
  simp only[List.nil_append,tC,Bool.and_eq_true,Bool.not_eq_true']at h
  obtain⟨⟨⟨h1,h2⟩,h3⟩,h4⟩:=h
  rw[← Bool.not_eq_true,List.contains_iff_mem]at h2
  refine⟨h1,by simp,h2,fun j hj=>?_,h4⟩
  rw[List.all_eq_true]at h3
  have:=h3 j hj
  simp only[Bool.and_eq_true,bne_iff_ne,Bool.not_eq_true', ← Bool.not_eq_true,List.contains_iff_mem]at this
  exact this
 |(a,c)::X,q,b,Y,pre,h=>by
  simp only[List.cons_append,tC,Bool.and_eq_true]at h
  obtain⟨_,h4⟩:=h
  obtain⟨g1,g2,g3,g4,g5⟩:=sG h4
  simp only[List.map_cons,List.reverse_cons,List.append_assoc,List.singleton_append]
  refine⟨g1, ?_,fun h=>g3 (List.mem_cons_of_mem _ h),g4,g5⟩
  intro hm
  rcases List.mem_cons.1 hm with rfl|hm
  ·exact g3 (by simp)
  ·exact g2 hm
theorem Bi : ∀ {Y:List (Nat×Nat)} {pre:List Nat},tC is af pt pre Y=true→∀ x∈Y,x.1∉pre∧(jc is x.1 = .alloc→∀ a∈pre,kR is a x.1=true)
 | [],_,_,x,hx=>by cases hx
 | (q,b)::Y,pre,h,x,hx=>by
  simp only[tC,Bool.and_eq_true,Bool.not_eq_true']at h
  obtain⟨⟨⟨h1,h2⟩,_⟩,h4⟩:=h
  rw[← Bool.not_eq_true,List.contains_iff_mem]at h2
  rcases List.mem_cons.1 hx with rfl|hx
  ·refine⟨h2,fun hk a ha=> ?_⟩
   unfold oo at h1
   simp only[hk]at h1
   rw[List.all_eq_true]at h1
   exact h1 a ha
  ·obtain⟨g1,g2⟩:=Bi h4 x hx
   exact⟨fun h=>g1 (List.mem_cons_of_mem _ h),fun hk a ha=>g2 hk a (List.mem_cons_of_mem _ ha)⟩
theorem B4 : ∀ {n:Nat},wW af pt n=true→∀ i,i<n→∀ j∈gG pt i,j∈gG af i∨∃ k∈gG af i,j∈gG pt k
 | 0,_,i,hi=>by omega
 | n+1,h,i,hi=>by
  simp only[wW,Bool.and_eq_true]at h
  rcases Nat.lt_or_ge i n with h1|h1
  ·exact B4 h.2 i h1
  ·have:i=n:=by omega
   subst this
   intro j hj
   have:=h.1
   rw[List.all_eq_true]at this
   have:=this j hj
   simp only[Bool.or_eq_true,List.contains_iff_mem,List.any_eq_true]at this
   exact this
theorem xj {pq:List Nat} : ∀ {l:List Nat},kK is pq l=true→∀ (x:Nat) (l1 l2:List Nat),l=l1++x::l2→jc is x = .alloc→x∈pq→∀ y∈l2,y∈pq
 | [],_,x,l1,l2,h=>by simp at h
 | a::l,hb,x,l1,l2,h=>by
  simp only[kK,Bool.and_eq_true,Bool.or_eq_true,Bool.not_eq_true',Bool.and_eq_false_iff]at hb
  intro hk hx y hy
  cases l1 with
  | nil=>
   simp only[List.nil_append,List.cons.injEq]at h
   obtain⟨rfl,rfl⟩:=h
   rcases hb.1 with h1|h1
   ·rcases h1 with h1 | h1
    ·simp[hk]at h1
    ·rw [← Bool.not_eq_true,List.contains_iff_mem]at h1
     exact(h1 hx).elim
   ·rw [List.all_eq_true]at h1
    have:=h1 y hy
    rwa [List.contains_iff_mem]at this
  |cons b l1=>
   simp only[List.cons_append,List.cons.injEq]at h
   exact xj hb.2 x l1 l2 h.2 hk hx y hy
end
structure Pd where
 q:Nat
 t:Nat
 z:List D
 b:Nat
structure Zf (is:List AI) (R:List (Nat×Nat)) (B:fM) (M:Map) (s:St) (act:Act) (w:World) (p:Pd):Prop where
 mem:p.q∈R.map (·.1)
 ai:is[p.q]? = some (.op (some p.t) none (.alloc p.z))
 cells : ∃ (vs:Array Value) (T:TypeId),w.heap[p.b]? = some (.cells vs T (0,0))∧vs.size=p.z.length∧(∀ v∈vs,v.oneCell'=true)∧
  ∀ (M:Map) (s:St) (i:Nat) (d:D) (v:Value),p.z[i]? = some d→vs[i]? = some v→RD M s d v
 unk:Km M s p.b
 base:B.w.heap.size≤p.b
 slot:act.tmps.getD p.t Go.undef = .pointer (some ⟨p.b,0,none⟩)
def yd (P:Program) (is:List AI) (K:Tm→St→Prop) (B:fM) (nt:Nat) (R:List (Nat×Nat)) (dT:List Pd) (act:Act) (w:World):Prop:=
 ∃ (M:Map) (s:St) (tm sH:Tm) (bA:List St),Ext B.M B.s B.w M s w∧Rel M s w∧lE M s sH act.tmps∧(∀ t,(∀ p∈dT,p.t≠t)→sH.get t=tm.get t)∧
  act.tmps.size=nt∧act.defers = []∧kB P is K R bA tm s∧(∀ p∈dT,Zf is R B M s act w p)∧
  (∀ p∈dT,∀ p'∈dT,p.q=p'.q∨p.t=p'.t∨p.b=p'.b→p=p')
structure qB (is:List AI) (af pt:List (List Nat)) (dm:Array Bool) (R:List (Nat×Nat)) (dT:List Pd):Prop where
 ok:tC is af pt [] R=true
 Fx : ∀ i,i<is.length→(dm.getD i false=true↔(i∉R.map (·.1)∨∃ p∈dT,p.q=i))
 cl : ∀ i,i<is.length→dm.getD i false=true→∀ j∈gG pt i,dm.getD j false=true
 size:dm.size=is.length
 lt : ∀ x∈R,x.1<is.length
section
variable {P:Program} {is:List AI} {af pt:List (List Nat)} {K:Tm→St→Prop} {B:fM} {nt:Nat}
theorem Zg {dm:Array Bool} {q b:Nat} {R:List (Nat×Nat)} {dT:List Pd} {act:Act} {w:World} (hs:qB is af pt dm ((q,b)::R) dT) (h:yd P is K B nt ((q,b)::R) dT act w)
 {p:Pd} (hp:p∈dT) (tJ:p.q=q) :
 qB is af pt dm R (dT.filter fun p'=>decide (p'.q≠q))∧yd P is K B nt R (dT.filter fun p'=>decide (p'.q≠q)) act w:=by
 have gU : ∀ p',p'∈(dT.filter fun p'=>decide (p'.q≠q))↔p'∈dT∧p'.q≠q:=fun p'=>by simp
 constructor
 ·have l8:=hs.ok
  have Cu:=sG (X:= []) l8
  refine⟨EB (X:= []) l8,fun i hi=>?_,hs.cl,hs.size,fun x hx=>hs.lt x (List.mem_cons_of_mem _ hx)⟩
  rw[hs.Fx i hi]
  simp only[List.map_cons,List.mem_cons,not_or]
  have Zh:q∉R.map (·.1):=fun hm=>by
   obtain⟨x,hx,rfl⟩:=List.mem_map.1 hm
   exact(Bi Cu.2.2.2.2 x hx).1 (by simp)
  constructor
  ·rintro(⟨h1,h2⟩ | ⟨p',h1,h2⟩)
   ·exact .inl h2
   ·by_cases hq:i=q
    ·subst hq;exact .inl Zh
    ·exact .inr ⟨p',(gU p').2 ⟨h1,by rw[h2];exact hq⟩,h2⟩
  ·rintro(h1 | ⟨p',h1,h2⟩)
   ·by_cases hq:i=q
    ·subst hq;exact .inr ⟨p,hp,tJ⟩
    ·exact .inl ⟨hq,h1⟩
   ·exact .inr ⟨p',((gU p').1 h1).1,h2⟩
 ·obtain⟨M,s,tm,sH,bA,e,r,ht,pO,hn,hd,hg,vD,sa⟩:=h
  have hk:=vD p hp
  obtain⟨vs,T,hh,hl,h1,h2⟩:=hk.cells
  have vB:=hk.ai
  rw[tJ]at vB
  simp only[kB,vB,AI.kind,gv]at hg
  obtain⟨d,s',jr,hg⟩:=hg
  have qe:aI (.alloc p.z) tm s=some (d,s'):=jr
  simp only[aI,Option.some.injEq,Prod.mk.injEq]at qe
  obtain⟨rfl,rfl⟩:=qe
  obtain⟨r',e',le⟩:=r.ado e hk.unk hk.base p.z vs T hh hl h1 (h2 M s)
  refine⟨_,_,_,sH.put (some p.t) (.ptr s.ah.length 0),_,e',r',fun u=>?_,fun t Kn=>?_,hn,hd,hg,fun p' mw=>?_,fun p1 h1 p2 h2=>sa p1 ((gU p1).1 h1).1 p2 ((gU p2).1 h2).1⟩
  ·rw [Tm.kX]
   split
   ·rename_i heq
    cases heq
    rw[hk.slot]
    have:(M.dJ s.ah.length p.b).mu s.ah.length=p.b:=by simp[Map.dJ,Map.mu]
    have h5:=RD.ptr (M:=M.dJ s.ah.length p.b) (s:= {s with ah:=s.ah++ [p.z]}) s.ah.length 0 (by simp) (by simp[Map.dJ,Map.ob,Ob.plain])
    rw[this]at h5
    exact h5
   ·exact(ht u).mono le
  ·simp only [AI.dst]
   rw[Tm.kX,Tm.kX]
   split
   ·rfl
   ·rename_i eK
    refine pO t fun p' mw=>?_
    by_cases hq:p'.q=q
    ·have:=sa p' mw p hp (.inl (hq.trans tJ.symm))
     subst this
     exact fun h=>eK (by rw[h])
    ·exact Kn p' ((gU p').2 ⟨mw,hq⟩)
  ·obtain⟨hp1,hp2⟩:=(gU p').1 mw
   have tB:=vD p' hp1
   refine⟨?_,tB.ai,tB.cells,⟨fun o ho=>?_,tB.unk.t,tB.unk.g⟩,tB.base,tB.slot⟩
   ·have:=tB.mem
    simp only[List.map_cons,List.mem_cons]at this
    exact this.resolve_left hp2
   ·simp at ho
    rcases Nat.lt_or_ge o s.ah.length with h5|h5
    ·rw[show(M.dJ s.ah.length p.b).mu o=M.mu o from congrArg Prod.fst (su M p.b .any h5)];exact tB.unk.o o h5
    ·have:o=s.ah.length:=by omega
     subst this
     have:(M.dJ s.ah.length p.b).mu s.ah.length=p.b:=by simp[Map.dJ,Map.mu]
     rw[this]
     intro hb
     have:=sa p hp p' hp1 (.inr (.inr hb))
     subst this
     exact hp2 tJ
theorem norm {dm:Array Bool} {act:Act} {w:World} : ∀ (R:List (Nat×Nat)) (dT:List Pd),qB is af pt dm R dT→yd P is K B nt R dT act w→
 ∃ R' vE,qB is af pt dm R' vE∧yd P is K B nt R' vE act w∧∀ x l,R'=x::l→∀ p∈vE,p.q≠x.1
 | [],dT,hs,h=>⟨[],dT,hs,h,fun _ _ he=>by cases he⟩
 | (q,b)::R,dT,hs,h=>by
  by_cases hp : ∃ p∈dT,p.q=q
  ·obtain⟨p,hp,tJ⟩:=hp
   obtain⟨h1,h2⟩:=Zg hs h hp tJ
   exact norm R _ h1 h2
  ·refine⟨(q,b)::R,dT,hs,h,fun x l he p Zi tJ=>hp ⟨p,Zi, ?_⟩⟩
   cases he
   exact tJ
theorem UK {ops:Array Oper} {q:Nat} {o:Oper} {ai:AI} (hi:ops[q]? = some o) (hc:cI P nt ops o=some ai) {R R':List (Nat×Nat)} {dT:List Pd} {act:Act} {w:World} {M:Map} {s s1:St} {tm sH:Tm} {d:D} {UL:List St}
 (e:Ext B.M B.s B.w M s w) (r:Rel M s w) (ht:lE M s sH act.tmps) (pO : ∀ t,(∀ p∈dT,p.t≠t)→sH.get t=tm.get t) (hn:act.tmps.size=nt) (hd:act.defers = [])
 (vD : ∀ p∈dT,Zf is R B M s act w p) (sa : ∀ p∈dT,∀ p'∈dT,p.q=p'.q∨p.t=p'.t∨p.b=p'.b→p=p')
 (hv:iI P [ai] (fun a b=>a=sH.put ai.dst d∧b=s1) sH s) (hg:kB P is K R' UL (tm.put ai.dst d) s1)
 (gU : ∀ p∈dT,p.q∈R'.map (·.1)) (pY : ∀ p∈dT,ai.dst≠some p.t) {Q:Exit→Act→World→Prop} :
 wpOp P ops Q q (yd P is K B nt R' dT) act w:=by
 refine wu hi hc r (B.laid.ext e) ht hv fun d' v s2 w1 M1 hk e1 r1 jd=>?_
 obtain⟨vv,rfl⟩:=hk
 have hde:=sF hc
 have hD : ∀ t,o.dst=some t→t<act.tmps.size:=fun t h=>by rw[hn];exact xf hc t h
 refine⟨M1,s2,tm.put ai.dst d,sH.put ai.dst d,UL,e.trans e1,r1, ?_,fun t Kn=>?_, ?_, ?_,hg,fun p hp=>?_,sa⟩
 ·rw [← vv,hde]
  exact(ht.mono e1.le).put hD jd
 ·rw[Tm.kX,Tm.kX,pO t Kn]
 ·cases ho:o.dst<;>simp[Act.put,hn]
 ·cases ho:o.dst<;>simp[Act.put,hd]
 ·have hk:=vD p hp
  obtain⟨vs,T,hh,hl,h1,h2⟩:=hk.cells
  have hb:=jR hh
  refine⟨gU p hp,hk.ai,⟨vs,T,by rw[e1.kept p.b hb hk.unk.o hk.unk.t];exact hh,hl,h1,h2⟩,hk.unk.mono e1 hb,hk.base, ?_⟩
  rw[← hk.slot]
  have:=pY p hp
  rw[hde]at this
  cases ho:o.dst with
  |none=>rfl
  |some t=>
   rw[ho]at this
   have eK:t≠p.t:=fun h=>this (by rw[h])
   simp[Act.put,Array.getElem?_setIfInBounds_ne eK]
theorem LU {ai:AI} (hm:gv ai.kind=false) {tm:Tm} {s:St} {d:D} (h:jD ai tm s=some d):iI P [ai] (fun a b=>a=tm.put ai.dst d∧b=s) tm s:=by
 cases ai with
 | op dst g o=>
  have hko:=Kl hm
  have key : ∀ {d},(aI o tm s).map (·.1)=some d→aI o tm s=some (d,s):=by
   intro d h
   cases he:aI o tm s with
   |none=>rw[he]at h;cases h
   |some p=>
    obtain⟨d',s'⟩:=p
    rw[he]at h
    simp only[Option.map_some,Option.some.injEq]at h
    subst h
    rw[JA (by rw[← hko];exact hm) he]
  simp only[iI,AI.dst]
  cases g with
  |none=>
   simp only[jD]at h
   simp only[guarded,key h,and_self]
  | some p=>
   obtain⟨t,want⟩:=p
   simp only[jD]at h
   simp only[guarded]
   split at h
   ·rename_i b hb
    simp only[hb]
    split at h
    ·rename_i heq
     refine⟨fun _=>by simp only[key h,and_self],fun eK=>?_⟩
     subst heq
     cases b<;>cases eK
    ·rename_i eK
     cases h
     exact⟨fun heq=>(eK heq).elim,fun _=>by simp⟩
   ·rename_i ds hb
    cases h
    simp only[hb,and_self]
   ·cases h
 |call dst g f xs=>cases hm
 |nil dst g n x=>cases hm
 |jb dst g t xs=>cases hm
theorem Ai {g:Option (Nat×Bool)} {tm:Tm} {A A' C C':Prop} (ha:A→A') (hc:C→C') (hh:guarded g tm A C):guarded g tm A' C':=by
 cases g with
 |none=>exact ha hh
 | some p=>
  obtain⟨t,want⟩:=p
  unfold guarded at *
  simp only at *
  split
  ·rename_i b hb;rw[hb]at hh;exact⟨fun e=>ha (hh.1 e),fun e=>hc (hh.2 e)⟩
  ·rename_i hb;rw[hb]at hh;exact hc hh
  ·rename_i x h1 h2
   split at hh
   ·exact h1 _ ‹_›
   ·exact h2 _ ‹_›
   ·exact hh
theorem HI {ai:AI} {tm:Tm} {s s1:St} {d:D} (h:rX P ai tm s d s1):iI P [ai] (fun a b=>a=tm.put ai.dst d∧b=s1) tm s:=by
 cases ai with
 |op dst g o=>
  refine Ai (fun e=>?_) (fun e=>?_) h
  ·rw[e];exact⟨rfl,rfl⟩
  ·obtain⟨rfl,rfl⟩:=e;exact⟨rfl,rfl⟩
 |call dst g f xs=>
  refine Ai (fun e=>?_) (fun e=>?_) h
  ·exact e.mono fun x y hxy=>by obtain⟨rfl,rfl⟩:=hxy;exact⟨rfl,rfl⟩
  ·obtain⟨rfl,rfl⟩:=e;exact⟨rfl,rfl⟩
 |nil dst g n x=>exact h.elim
 |jb dst g t xs=>exact h.elim
end
end Go.Abs
namespace Go.Abs
section
variable {P:Program} {is:List AI} {af pt:List (List Nat)} {K:Tm→St→Prop} {B:fM} {nt:Nat}
theorem Bj {ops:Array Oper} : ∀ {ol:List Oper} {is:List AI},qo P nt ops ol=some is→is.length=ol.length∧∀ (i:Nat) (o:Oper),ol[i]? = some o→∃ ai,is[i]? = some ai∧cI P nt ops o=some ai
 | [],is,h=>by cases h;exact⟨rfl,by simp⟩
 | o::ol,is,h=>by
  unfold qo at h
  split at h
  ·rename_i ai ON h1 h2
   cases h
   obtain⟨g1,g2⟩:=Bj h2
   refine⟨by simp[g1],fun i o' ho=>?_⟩
   cases i with
   |zero=>simp at ho;subst ho;exact⟨ai,rfl,h1⟩
   |succ i=>exact g2 i o' (by simpa using ho)
  ·cases h
theorem sb {dm:Array Bool} {i:Nat} (h:i<dm.size):dm.getD i true=dm.getD i false:=by
 simp[h]
theorem qB.done {dm:Array Bool} {X Y:List (Nat×Nat)} {q b:Nat} {dT:List Pd} (hs:qB is af pt dm (X++(q,b)::Y) dT) (hq:q<is.length)
 (Fy : ∀ j∈gG pt q,dm.getD j false=true):qB is af pt (dm.setIfInBounds q true) (X++Y) dT:=by
 obtain⟨g1,g2,g3,g4,g5⟩:=sG hs.ok
 have hqY:q∉Y.map (·.1):=fun hm=>by
  obtain⟨x,hx,rfl⟩:=List.mem_map.1 hm
  exact(Bi g5 x hx).1 (by simp)
 refine⟨EB hs.ok,fun i hi=>?_,fun i hi hl j hj=>?_,by simp[hs.size],fun x hx=>hs.lt x (by simp at hx ⊢;exact hx.imp id .inr)⟩
 ·by_cases tH:i=q
  ·subst tH
   have:i<dm.size:=by rw[hs.size];exact hq
   simp only[List.map_append,List.mem_append,g2,hqY,or_self,not_false_eq_true,true_or,iff_true]
   simp[this]
  ·rw [getD_set_ne false (Ne.symm tH),hs.Fx i hi]
   simp[tH]
 ·by_cases tH:i=q
  ·subst tH;exact getD_set_true (Fy j hj)
  ·rw [getD_set_ne false (Ne.symm tH)]at hl
   exact getD_set_true (hs.cl i hi hl j hj)
theorem qB.flag {dm:Array Bool} {R:List (Nat×Nat)} {dT:List Pd} (hs:qB is af pt dm R dT) {p:Pd} (hq:p.q<is.length)
 (Fy : ∀ j∈gG pt p.q,dm.getD j false=true):qB is af pt (dm.setIfInBounds p.q true) R (p::dT):=by
 refine⟨hs.ok,fun i hi=>?_,fun i hi hl j hj=>?_,by simp[hs.size],hs.lt⟩
 ·by_cases tH:i=p.q
  ·subst tH
   have:p.q<dm.size:=by rw[hs.size];exact hq
   simp[this]
  ·rw [getD_set_ne false (Ne.symm tH),hs.Fx i hi]
   have eK:p.q≠i:=fun h=>tH h.symm
   simp[eK]
 ·by_cases tH:i=p.q
  ·subst tH;exact getD_set_true (Fy j hj)
  ·rw [getD_set_ne false (Ne.symm tH)]at hl
   exact getD_set_true (hs.cl i hi hl j hj)
theorem LV {ai:AI} (h:ai.kind = .alloc) : ∃ t z,ai = .op (some t) none (.alloc z):=by
 cases ai with
 | op dst g o=>
  unfold AI.kind at h
  split at h
  ·rename_i heq;cases heq;exact⟨_,_,rfl⟩
  ·rename_i heq
   cases heq
   exfalso
   revert h
   cases o<;>simp[AO.kind]
  ·cases h
 |call dst g f xs=>cases h
 |nil dst g n x=>cases h
 |jb dst g t xs=>cases h
theorem LW {ops:Array Oper} (wv:qo P nt ops ops.toList=some is) (LX:wW af pt is.length=true)
 (hK : ∀ tm bl s,Tm.eqv tm bl→K tm s→K bl s) {dm:Array Bool} {R:List (Nat×Nat)} {dT:List Pd} {act:Act} {w:World} (hs:qB is af pt dm R dT) (h:yd P is K B nt R dT act w)
 (adq : ∀ x l,R=x::l→∀ p∈dT,p.q≠x.1) {q:Nat} (hq:q<is.length) (Dt:dm.getD q false=false) (jd : ∀ j∈gG af q,j<is.length∧dm.getD j false=true)
 {Q:Exit→Act→World→Prop} {K2:Act→World→Prop} (Zk : ∀ R' vE a' w',qB is af pt (dm.setIfInBounds q true) R' vE→yd P is K B nt R' vE a' w'→K2 a' w'):wpOp P ops Q q K2 act w:=by
 obtain⟨hlen,hY⟩:=Bj wv
 have uD:q<ops.size:=by rw[hlen]at hq;simpa using hq
 obtain⟨ai,vB,O2⟩:=hY q ops[q] (by simp[uD])
 have hi:ops[q]? = some ops[q]:=by simp[uD]
 have Fy : ∀ j∈gG pt q,dm.getD j false=true:=fun j hj=>by
  rcases B4 LX q hq j hj with h1|⟨k,h1,h2⟩
  ·exact(jd j h1).2
  ·exact hs.cl k (jd k h1).1 (jd k h1).2 j h2
 have O3 : ∀ p∈dT,p.q≠q:=fun p hp tJ=>by
  have:=(hs.Fx q hq).2 (.inr ⟨p,hp,tJ⟩)
  rw[Dt]at this;cases this
 have Zh:q∈R.map (·.1):=by
  by_cases hm:q∈R.map (·.1)
  ·exact hm
  ·have:=(hs.Fx q hq).2 (.inl hm)
   rw[Dt]at this;cases this
 obtain⟨⟨q',b⟩,hx,hqq⟩:=List.mem_map.1 Zh
 simp only at hqq
 subst hqq
 obtain⟨X,Y,rfl⟩:=List.append_of_mem hx
 obtain⟨g1,g2,g3,g4,g5⟩:=sG hs.ok
 rw[List.append_nil]at g1 g5
 obtain⟨M,s,tm,sH,bA,e,r,ht,pO,hn,hd,hg,vD,sa⟩:=h
 have O4:jc is q'=ai.kind:=by simp[jc,vB]
 -- what must have come up ahead of it, is not here any more, but for what was allocated early
 have UM : ∀ a∈X.map (·.1),a∈gG pt q'→∃ p∈dT,p.q=a:=fun a ha eA=>by
  have h1:=Fy a eA
  obtain⟨x,hxX,rfl⟩:=List.mem_map.1 ha
  rcases(hs.Fx x.1 (hs.lt x (by simp[hxX]))).1 h1 with h2|h2
  ·exact(h2 (by simp;exact .inl ⟨x.2,hxX⟩)).elim
  ·exact h2
 have UN : ∀ x l,X=x::l→x.1∉gG pt q':=fun x l hX hxp=>by
  obtain⟨p,hp,tJ⟩:=UM x.1 (by simp[hX]) hxp
  exact adq x (l++(q',b)::Y) (by simp[hX]) p hp tJ
 have hpk : ∀ p∈dT,jc is p.q = .alloc:=fun p hp=>by simp[jc,(vD p hp).ai,AI.kind]
 have Cu : ∀ p∈dT,(p.q∈X.map (·.1)→kR is p.q q'=true)→(∀ t,ai.dst=some t→t≠p.t)∧p.t∉ai.reads:=fun p hp hX=>by
  have hk:=vD p hp
  have hm:=hk.mem
  simp only[List.map_append,List.map_cons,List.mem_append,List.mem_cons]at hm
  rcases hm with hm|hm|hm
  ·have:=hX hm
   simp only[kR,hk.ai,vB]at this
   obtain⟨p1,p2,p3⟩:=apart_spec this
   exact⟨fun t ht he=>p3 p.t rfl (by rw[ht,he]),p1 p.t rfl⟩
  ·exact(O3 p hp hm).elim
  ·obtain⟨x,hxY,UO⟩:=List.mem_map.1 hm
   have:=(Bi g5 x hxY).2 (by rw[UO];exact hpk p hp) q' (by simp)
   rw[UO]at this
   simp only[kR,hk.ai,vB]at this
   obtain⟨p1,p2,p3⟩:=apart_spec this
   exact⟨fun t ht he=>p3 t ht (by rw[he];rfl),p2 p.t rfl⟩
 have O5:(∀ p∈dT,p.t∉ai.reads)→∀ t∈ai.reads,tm.get t=sH.get t:=fun hp t ht=>(pO t fun p Zi he=>hp p Zi (by rw[he];exact ht)).symm
 have UP : ∀ p∈dT,p.q∈(X++Y).map (·.1):=fun p hp=>by
  have hm:=(vD p hp).mem
  have:=O3 p hp
  simp only[List.map_append,List.map_cons,List.mem_append,List.mem_cons]at hm ⊢
  rcases hm with hm|hm|hm
  ·exact .inl hm
  ·exact(this hm).elim
  ·exact .inr hm
 by_cases Aj:ai.kind = .alloc
 ·-- an allocation
  obtain⟨t,z,rfl⟩:=LV Aj
  have eA : ∀ a∈X.map (·.1),kR is a q'=true:=fun a ha=>by
   unfold oo at g1
   rw[O4,Aj]at g1
   simp only[List.all_reverse,List.all_eq_true]at g1
   exact g1 a ha
  have zi:=fun p hp=>Cu p hp (eA p.q)
  refine JB hi O2 fun vs T hl h1 h2=>?_
  obtain⟨r1,e1,u1⟩:=r.idle (.cells vs T)
  have Zl:t<act.tmps.size:=by
   rw[hn]
   exact xf O2 t (by rw[← sF O2];rfl)
  have:=hs.flag (p:=⟨q',t,z,w.heap.size⟩) hq Fy
  refine Zk _ _ _ _ this ⟨M,s,tm,sH.put (some t) .junk,bA,e.trans e1,r1,lE.put ht (dst:=some t) (fun u hu=>by cases hu;exact Zl) (.junk _),fun u hu=>?_,by simp[Act.put,hn],by simp[Act.put,hd],hg,fun p hp=>?_,fun p hp p' mw he=>?_⟩
  ·have h3:=hu ⟨q',t,z,w.heap.size⟩ (by simp)
   rw[Tm.kX,if_neg (by simpa using h3)]
   exact pO u fun p hp=>hu p (List.mem_cons_of_mem _ hp)
  ·rcases List.mem_cons.1 hp with rfl | hp
   ·refine⟨by simp,vB,⟨vs,T,heap_alloc_new w _,hl,h1,h2⟩,u1,e.size, ?_⟩
    simp[Act.put,Zl]
   ·have hk:=vD p hp
    obtain⟨fu,T',jP,nI,rm,tG⟩:=hk.cells
    refine⟨hk.mem,hk.ai,⟨fu,T',by rw[heap_alloc_old w _ _ (jR jP)];exact jP,nI,rm,tG⟩,hk.unk,hk.base, ?_⟩
    rw[← hk.slot]
    have eK:t≠p.t:=(zi p hp).1 t rfl
    simp[Act.put,Array.getElem?_setIfInBounds_ne eK]
  ·have da : ∀ p∈dT,¬ (q'=p.q∨t=p.t∨w.heap.size=p.b):=fun p hp h=>by
    rcases h with h|h|h
    ·exact O3 p hp h.symm
    ·exact(zi p hp).1 t rfl h
    ·obtain⟨fu,T',jP,_⟩:=(vD p hp).cells
     have:=jR jP
     omega
   rcases List.mem_cons.1 hp with rfl|hp<;>rcases List.mem_cons.1 mw with rfl|mw
   ·rfl
   ·exact(da p' mw he).elim
   ·exact(da p hp (he.imp Eq.symm (Or.imp Eq.symm Eq.symm))).elim
   ·exact sa p hp p' mw he
 ·by_cases nJ:gv ai.kind=true
  ·-- a step that changes something: it stands first
   have hkc:ai.kind = .core:=by
    cases hk:ai.kind<;>simp_all [gv]
   have hX:X = []:=by
    cases X with
    |nil=>rfl
    |cons x l=>
     refine(UN x l rfl ?_).elim
     unfold oo at g1
     rw[O4,hkc]at g1
     simp only[List.all_reverse,List.all_eq_true]at g1
     have:=g1 x.1 (by simp)
     rwa [List.contains_iff_mem]at this
   subst hX
   have zi:=fun p hp=>Cu p hp (fun h=>by simp at h)
   simp only[List.nil_append,kB,vB,nJ]at hg
   obtain⟨d,s1,jr,hg⟩:=hg
   have ahH:=wo (O5 fun p hp=>(zi p hp).2) jr
   refine wpOp_mono (fun a' w' hr=>Zk _ _ _ _ (hs.done hq Fy) hr) ?_
   exact UK hi O2 e r ht pO hn hd vD sa (HI ahH) hg UP (fun p hp he=>(zi p hp).1 _ he rfl)
  ·-- a step that changes nothing
   have hm:gv ai.kind=false:=by simpa using nJ
   have nA : ∀ a∈X.map (·.1),a∉gG pt q':=fun a ha eA=>by
    obtain⟨p,hp,tJ⟩:=UM a ha eA
    have OI:jc is a = .alloc:=by rw[← tJ];exact hpk p hp
    have ku:kK is (gG pt q') (X.map (·.1)).reverse=true:=by
     unfold oo at g1
     rw[O4]at g1
     cases hk:ai.kind with
     |pure=>simp only[hk,Bool.and_eq_true]at g1;exact g1.2
     |load=>simp only[hk,Bool.and_eq_true]at g1;exact g1.1.2
     |alloc=>exact(Aj hk).elim
     |core=>rw[hk]at hm;cases hm
    cases X with
    |nil=>simp at ha
    | cons x l=>
     have ha2:a∈((x::l).map (·.1)).reverse:=List.mem_reverse.2 ha
     obtain⟨l1,l2,B5⟩:=List.append_of_mem ha2
     have ye:=xj ku a l1 l2 B5 OI eA
     refine UN x l rfl ?_
     cases kL:l2.reverse with
     |nil=>
      have h3:l2 = []:=by simpa using kL
      subst h3
      have:=congrArg List.reverse B5
      simp at this
      rw[this.1];exact eA
     |cons y l3=>
      have:=congrArg List.reverse B5
      simp only[List.reverse_reverse,List.map_cons,List.reverse_append,List.reverse_cons,List.reverse_nil,List.append_assoc,kL,List.cons_append,List.nil_append,List.cons.injEq]at this
      rw[this.1]
      exact ye y (by rw[← List.mem_reverse,kL];simp)
   have eA : ∀ a∈X,kR is a.1 q'=true:=fun a ha=>by
    have h3 : ∀ x∈(X.map (·.1)).reverse,((gG pt q').contains x ||kR is x q')=true:=by
     unfold oo at g1
     rw[O4]at g1
     cases hk:ai.kind with
     |pure=>simp only[hk,Bool.and_eq_true]at g1;exact List.all_eq_true.1 g1.1
     |load=>simp only[hk,Bool.and_eq_true]at g1;exact List.all_eq_true.1 g1.1.1
     |alloc=>exact(Aj hk).elim
     |core=>rw[hk]at hm;cases hm
    have:=h3 a.1 (List.mem_reverse.2 (List.mem_map_of_mem ha))
    simp only[Bool.or_eq_true,List.contains_iff_mem]at this
    exact this.resolve_left (nA a.1 (List.mem_map_of_mem ha))
   have Zm:ai.kind = .load→jn is (X.map (·.1))≤b:=fun hk=>by
    unfold oo at g1
    rw[O4,hk]at g1
    simp only[Bool.and_eq_true,decide_eq_true_eq]at g1
    have h3:=g1.2
    have h4:(X.map (·.1)).reverse.filter (fun a=> !(gG pt q').contains a)=(X.map (·.1)).reverse:=by
     rw[List.filter_eq_self]
     intro a ha
     have:=nA a (List.mem_reverse.1 ha)
     simpa using this
    rw[h4]at h3
    unfold jn at h3 ⊢
    rw[List.filter_reverse,List.length_reverse]at h3
    exact h3
   have zi:=fun p hp=>Cu p hp (fun h=>by
    obtain⟨x,hx,UO⟩:=List.mem_map.1 h
    rw[← UO];exact eA x hx)
   obtain⟨d,h1,_,B0⟩:=wq hK vB hm Y X bA tm s eA Zm hg
   have rm:jD ai sH s=some d:=by rw[← qg (O5 fun p hp=>(zi p hp).2)];exact h1
   refine wpOp_mono (fun a' w' hr=>Zk _ _ _ _ (hs.done hq Fy) hr) ?_
   exact UK hi O2 e r ht pO hn hd vD sa (LU hm rm) B0 UP (fun p hp he=>(zi p hp).1 _ he rfl)
theorem B6 {o:Oper} {j:Nat} : j∈my o↔∃ e∈o.after,Region.binds .any e=true∧e.on=j:=by
 simp only[my,List.mem_map,List.mem_filter,Array.mem_toList_iff]
 constructor
 ·rintro⟨e,⟨h1,h2⟩,h3⟩;exact⟨e,h1,h2,h3⟩
 ·rintro⟨e,h1,h2,h3⟩;exact⟨e,⟨h1,h2⟩,h3⟩
theorem LY {ops:Array Oper} (wv:qo P nt ops ops.toList=some is) (LX:wW (ops.toList.map my) pt is.length=true)
 (Zn : ∀ i,i<is.length→∀ j∈gG (ops.toList.map my) i,j<is.length) {Q:Exit→Tm→St→Prop} (hK : ∀ tm bl s,Tm.eqv tm bl→K tm s→K bl s)
 (hKQ : ∀ tm s act w,K tm s→Holds B nt tm s act w→pe B nt Q .normal act w) :
 ∀ (fuel:Nat) (dm:Array Bool) (R:List (Nat×Nat)) (dT:List Pd) (act:Act) (w:World) (U:List Nat),U.length≤fuel→(∀ j,j<is.length→dm.getD j false=false→j∈U)→
  qB is (ops.toList.map my) pt dm R dT→yd P is K B nt R dT act w→wpAny P .any ops (pe B nt Q) fuel dm act w:=by
 obtain⟨hlen,_⟩:=Bj wv
 have rV:is.length=ops.size:=by rw[hlen];simp
 have Zo : ∀ (j:Nat) (o:Oper),ops[j]? = some o→gG (ops.toList.map my) j=my o:=fun j o h=>by
  simp[gG,List.getD,h]
 have fin : ∀ {dm:Array Bool} {dT:List Pd} {act:Act} {w:World},yd P is K B nt [] dT act w→pe B nt Q .normal act w:=by
  intro dm dT act w h
  obtain⟨M,s,tm,sH,bA,e,r,ht,pO,hn,hd,hg,vD,sa⟩:=h
  have Cr : ∀ p∈dT,False:=fun p hp=>by have:=(vD p hp).mem;simp at this
  exact hKQ sH s act w (hK tm sH s (fun t=>(pO t fun p hp=>(Cr p hp).elim).symm) hg) ⟨M,e,r,ht,hn,hd⟩
 have O6 : ∀ {dm:Array Bool} {R:List (Nat×Nat)} {dT:List Pd} {x:Nat×Nat} {l:List (Nat×Nat)},qB is (ops.toList.map my) pt dm R dT→R=x::l→(∀ p∈dT,p.q≠x.1)→
  x.1∈Region.ready .any ops dm:=by
  intro dm R dT x l hs hR O3
  subst hR
  have hx:=hs.lt x (by simp)
  rw[mem_ready]
  have Dt:dm.getD x.1 false=false:=by
   cases hl:dm.getD x.1 false with
   |false=>rfl
   |true=>
    rcases(hs.Fx x.1 hx).1 hl with h1|⟨p,hp,tJ⟩
    ·exact(h1 (by simp)).elim
    ·exact(O3 p hp tJ).elim
  have hxo:x.1<ops.size:=by rw[← rV];exact hx
  refine⟨by rw[sb (by rw[hs.size];exact hx)];exact Dt,ops[x.1],by simp[hxo],fun e he hb=>?_⟩
  have hm:e.on∈gG (ops.toList.map my) x.1:=by rw[Zo x.1 ops[x.1] (by simp[hxo])];exact B6.2 ⟨e,he,hb,rfl⟩
  obtain⟨_,_,_,g4,_⟩:=sG (X:= []) (q:=x.1) (b:=x.2) hs.ok
  obtain⟨h1,h2⟩:=g4 _ hm
  refine(hs.Fx e.on (Zn x.1 hx _ hm)).2 (.inl ?_)
  simp only[List.map_cons,List.mem_cons,not_or]
  exact⟨h1,h2⟩
 intro fuel
 induction fuel with
 | zero=>
  intro dm R dT act w U hU Dt hs h
  obtain⟨R',vE,ou,h',hn⟩:=norm R dT hs h
  have hUn:U = []:=List.length_eq_zero_iff.1 (by omega)
  have ye : ∀ j,j<is.length→dm.getD j false=true:=fun j hj=>by
   cases hl:dm.getD j false with
   |true=>rfl
   |false=>have:=Dt j hj hl;rw[hUn]at this;cases this
  have hR:R' = []:=by
   cases hR:R' with
   |nil=>rfl
   |cons x l=>
    have hx:=ou.lt x (by simp[hR])
    have:=O6 ou hR (hn x l hR)
    rw[mem_ready,sb (by rw[ou.size];exact hx),ye x.1 hx]at this
    cases this.1
  subst hR
  refine⟨?_,fin (dm:=dm) h'⟩
  cases hr:Region.ready .any ops dm with
  |nil=>rfl
  |cons j js=>
   have hj:j∈Region.ready .any ops dm:=by rw[hr];simp
   rw[mem_ready]at hj
   obtain⟨h1,o,ho,_⟩:=hj
   have UQ:j<is.length:=by rw[rV];exact(Array.getElem?_eq_some_iff.1 ho).1
   rw[sb (by rw[hs.size];exact UQ),ye j UQ]at h1
   cases h1
 | succ fuel ih=>
  intro dm R dT act w U hU Dt hs h
  obtain⟨R',vE,ou,h',hn⟩:=norm R dT hs h
  refine⟨fun hr=>?_,fun i hi=>?_⟩
  ·cases hR:R' with
   |nil=>subst hR;exact fin (dm:=dm) h'
   |cons x l=>
    have:=O6 ou hR (hn x l hR)
    rw[hr]at this
    cases this
  ·rw [mem_ready]at hi
   obtain⟨h1,o,ho,ahJ⟩:=hi
   have qf:i<is.length:=by rw[rV];exact(Array.getElem?_eq_some_iff.1 ho).1
   rw[sb (by rw[hs.size];exact qf)]at h1
   refine LW wv LX hK ou h' hn qf h1 (fun j hj=>⟨Zn i qf j hj, ?_⟩) fun R2 ads a2 w2 yY h2=>?_
   ·rw [Zo i o ho]at hj
    obtain⟨e,he,hb,rfl⟩:=B6.1 hj
    exact ahJ e he hb
   ·refine ih _ R2 ads a2 w2 (U.erase i) ?_ (fun j hj hl=> ?_) yY h2
    ·have:=List.length_erase_of_mem (Dt i qf h1)
     omega
    ·have hji:j≠i:=fun e=>by
      subst e
      have:j<dm.size:=by rw[hs.size];exact qf
      simp[this]at hl
     rw[getD_set_ne false (Ne.symm hji)]at hl
     exact(List.mem_erase_of_ne hji).2 (Dt j hj hl)
theorem Sem.par {is:List AI} {lq:List (Nat×Nat)} {Q:Exit→Tm→St→Prop} {tm:Tm} {s:St} (h:kB P is (Q .normal) lq [] tm s):Sem P B nt (.par is lq) Q tm s:=by
 intro c hc act w hh
 obtain⟨id,ops,rfl,hi,hm,pt,hp⟩:=lb hc
 simp only[G6,Bool.and_eq_true,List.all_eq_true,List.mem_range,List.contains_iff_mem,decide_eq_true_eq]at hp
 obtain⟨⟨⟨⟨h1,h2⟩,h3⟩,h4⟩,h5⟩:=hp
 obtain⟨hlen,_⟩:=Bj hi
 have rV:is.length=ops.size:=by rw[hlen];simp
 refine wp_region_any hm ?_
 obtain⟨M,e,r,ht,hn,hd⟩:=hh
 have key : ∀ (R:List (Nat×Nat)) (bA:List St) (tm:Tm) (s:St),kB P is (Q .normal) R bA tm s→kB P is (fun tm s=>∃ bl,tm.eqv bl∧Q .normal bl s) R bA tm s:=by
  intro R
  induction R with
  |nil=>intro bA tm s h;exact⟨tm,fun _=>rfl,h⟩
  | cons x R ih=>
   obtain⟨q,b⟩:=x
   intro bA tm s h
   unfold kB at h ⊢
   split at h
   ·exact h.elim
   ·split at h
    ·obtain⟨d,s',h1,h2⟩:=h;exact⟨d,s',h1,ih _ _ _ h2⟩
    ·obtain⟨d,h1,h2,h3⟩:=h;exact⟨d,h1,h2,ih _ _ _ h3⟩
 have hg:=key _ _ _ _ h
 refine LY (K:=fun tm s=>∃ bl,tm.eqv bl∧Q .normal bl s) hi h1 h5 (fun tm bl s he ⟨t2,h3,h4⟩=>⟨t2,fun t=>(he t).symm.trans (h3 t),h4⟩)
  (fun tm s act w ⟨t2,h3,h4⟩ ⟨M,e,r,ht,hn,hd⟩=>⟨t2,s,h4,M,e,r,fun t=>by rw[← h3 t];exact ht t,hn,hd⟩) ops.size _ lq [] act _ (List.range is.length) (by simp[rV]) (fun j hj _=>by simpa using hj)
  ⟨h2,fun i hi=>?_,fun i hi hl=>?_,by simp[rV],h4⟩ ⟨M,s,tm,tm,[],⟨e.le,e.kept,e.sX,e.pU,e.rp,e.size,e.os,e.tape,e.output⟩,r.of_heap rfl,ht,fun _ _=>rfl,hn,hd,hg,by simp,by simp⟩
 ·have:i<ops.size:=by rw [← rV];exact hi
  have h6:=h3 i hi
  simp only[List.not_mem_nil,false_and,exists_false,or_false]
  rw[show(Array.replicate ops.size false).getD i false=false by simp[this]]
  simp[h6]
 ·have:i<ops.size:=by rw [← rV];exact hi
  rw[show(Array.replicate ops.size false).getD i false=false by simp[this]]at hl
  cases hl
end
end Go.Abs
namespace Go.Abs
theorem Wz (k:IntKind) (n:Int):D.row (.int k n)=some [.int k n]:=rfl
theorem RL (b:Bool):D.row (.bool b)=some [.bool b]:=rfl
theorem WA (l:List UInt8):D.row (.str l)=some [.str l]:=rfl
theorem RM:D.row .dN=some [.dN]:=rfl
theorem WB (o f:Nat):D.row (.ptr o f)=some [.ptr o f]:=rfl
theorem RN (r:List D) (f:Nat):D.row (.dt r f)=some [.dt r f]:=rfl
theorem O7 (g:Tag) (z:Nat) (r:List (List D)):D.row (.slice g z r)=some [.slice g z r]:=rfl
theorem WC (cs:List D):D.row (.agg cs)=some cs:=rfl
theorem WD (v:Value):D.row (.val v)=some [.val v]:=rfl
theorem O8 (T:TypeId) (o:Nat):D.row (.fb T o)=some [.fb T o]:=rfl
theorem WE (f:Nat) (cs:List D):D.row (.fS f cs)=some [.fS f cs]:=rfl
theorem RO (o:Nat):D.row (.fI o)=some [.fI o]:=rfl
theorem RP (w:Bool):Tag.cut .full w=if w then .full else .shared:=rfl
theorem LZ (w:Bool):Tag.cut .shared w = .shared:=rfl
theorem RQ (t:Nat) (y:Bool) (w:Bool):Tag.cut (.tok t y) w = .tok t y:=rfl
section
variable {P:Program}
def KC (P:Program) (r:List AI) (K:Tm→St→Prop) (tm:Tm) (dst:Option Nat) (d:D) (s:St):Prop:=iI P r K (tm.put dst d) s
def GI (P:Program) (g:D) (want:Bool) (i:AI) (r:List AI) (K:Tm→St→Prop) (tm:Tm) (s:St):Prop:=
 match g with
 | .bool b=>(b=want→iI P (i::r) K tm s)∧(b=(!want)→iI P r K (tm.put i.dst (.tuple [])) s)
 | .tuple _=>iI P r K (tm.put i.dst (.tuple [])) s
 |_=>False
def NI (P:Program) (dst:Option Nat) (neg:Bool) (x:D) (r:List AI) (K:Tm→St→Prop) (tm:Tm) (s:St):Prop:=
 match x with
 | .slice _ _ rows=>∀ b:Bool,(rows≠ []→b=false)→iI P r K (tm.put dst (.bool (if neg then !b else b))) s
 |_=>False
def tZ (d:D) (A C:Prop):Prop:=
 match d with
 | .bool b=>(b=true→A)∧(b=false→C)
 |_=>False
theorem Sem.adt {B:fM} {nt:Nat} {Q:Exit→Tm→St→Prop} {tm:Tm} {s:St} {x:X} {a b:AC} (h:tZ (x.ev tm) (Sem P B nt a Q tm s) (Sem P B nt b Q tm s)):Sem P B nt (.cond x a b) Q tm s:=by
 unfold tZ at h
 split at h
 ·rename_i t ht
  exact Sem.cond ht h.1 h.2
 ·exact h.elim
def gx (P:Program) (K:Tm→St→Prop):List (AI×Nat)→List St→Tm→St→Prop
 | [],_,tm,s=>K tm s
 |(ai,b)::r,bA,tm,s=>
  match gv ai.kind with
  |true=>∃ d s',rX P ai tm s d s'∧gx P K r (s::bA) (tm.put ai.dst d) s'
  |false=>∃ d,jD ai tm s=some d∧(ai.kind = .load→∀ s'∈bA.take b,jD ai tm s'=some d)∧gx P K r bA (tm.put ai.dst d) s
def mE (is:List AI):List (Nat×Nat)→Option (List (AI×Nat))
 | []=>some []
 |(q,b)::r=>match is[q]?,mE is r with
  |some ai,some l=>some ((ai,b)::l)
  |_,_=>none
theorem EC {is:List AI} {K:Tm→St→Prop} : ∀ {lq:List (Nat×Nat)} {items:List (AI×Nat)} {bA:List St} {tm:Tm} {s:St},mE is lq=some items→gx P K items bA tm s→kB P is K lq bA tm s
 | [],items,bA,tm,s,h,g=>by cases h;exact g
 | (q,b)::r,items,bA,tm,s,h,g=>by
  simp only[mE]at h
  split at h
  ·rename_i ai l h1 h2
   cases h
   simp only[gx]at g
   simp only[kB,h1]
   split at g
   ·rename_i hk
    obtain⟨d,s',g1,g2⟩:=g
    try simp only[hk]
    exact⟨d,s',g1,EC h2 g2⟩
   ·rename_i hk
    obtain⟨d,g1,g2,g3⟩:=g
    try simp only[hk]
    exact⟨d,g1,g2,EC h2 g3⟩
  ·cases h
theorem Sem.ahK {B:fM} {nt:Nat} {Q:Exit→Tm→St→Prop} {tm:Tm} {s:St} {is:List AI} {lq:List (Nat×Nat)} {items:List (AI×Nat)} (hi:mE is lq=some items) (h:gx P (Q .normal) items [] tm s):Sem P B nt (.par is lq) Q tm s:=
 Sem.par (EC hi h)
def AI.free:AI→AI
 | .op d _ o=> .op d none o
 | .call d _ f xs=> .call d none f xs
 | .nil d _ n x=> .nil d none n x
 | .jb d _ t xs=> .jb d none t xs
def GL (P:Program) (g:D) (want:Bool) (i:AI) (b:Nat) (r:List (AI×Nat)) (K:Tm→St→Prop) (bA:List St) (tm:Tm) (s:St):Prop:=
 match g with
 | .bool v=>(v=want→gx P K ((i,b)::r) bA tm s)∧(v=(!want)→gx P K r (if gv i.kind then s::bA else bA) (tm.put i.dst (.tuple [])) s)
 | .tuple _=>gx P K r (if gv i.kind then s::bA else bA) (tm.put i.dst (.tuple [])) s
 |_=>False
def CL (one:Bool) (P:Program) (f:Nat) (args:List D) (s:St) (K:D→St→Prop):Prop:=
 match one with
 |true=>∃ d s',aG P f args s d s'∧K d s'
 |false=>bG P f args s K
def KL (P:Program) (K:Tm→St→Prop) (r:List (AI×Nat)) (bA:List St) (tm:Tm) (dst:Option Nat) (d:D) (s:St):Prop:=gx P K r bA (tm.put dst d) s
def nK (i:AI) (tm:Tm) (d:D):List St→Prop
 | []=>True
 |s::r=>jD i tm s=some d∧nK i tm d r
theorem Du {i:AI} {tm:Tm} {d:D} : ∀ {l:List St},nK i tm d l→∀ s∈l,jD i tm s=some d
 | [],_,s,h=>by cases h
 |a::l,h,s,hs=>by
  rcases List.mem_cons.1 hs with rfl|hs
  ·exact h.1
  ·exact Du h.2 s hs
def PL (P:Program) (o:AO) (dst:Option Nat) (b:Nat) (r:List (AI×Nat)) (K:Tm→St→Prop) (bA:List St) (tm:Tm) (s:St):Prop:=
 match aI o tm s with
 |some (d,_)=>nK (.op dst none o) tm d (bA.take b)∧gx P K r bA (tm.put dst d) s
 |none=>False
def ML (P:Program) (o:AO) (dst:Option Nat) (r:List (AI×Nat)) (K:Tm→St→Prop) (bA:List St) (tm:Tm) (s:St):Prop:=
 match aI o tm s with
 |some (d,s')=>gx P K r (s::bA) (tm.put dst d) s'
 |none=>False
def AO.core:AO→Bool
 | .alloc _=>true
 | .box _=>true
 | .uu .. =>true
 | .zI _=>true
 | .store .. =>true
 | .app .. =>true
 | .sn .. =>true
 | .zK .. =>true
 | .zL .. =>true
 | .apps .. =>true
 | .tV=>true
 | .xP .. =>true
 | .zM .. =>true
 |_=>false
theorem sI (dst:Option Nat) (g:Option (Nat×Bool)) (o:AO):gv (AI.op dst g o).kind=o.core:=by
 cases dst<;>cases g<;>cases o<;>rfl
def OL (P:Program) (o:AO) (dst:Option Nat) (b:Nat) (r:List (AI×Nat)) (K:Tm→St→Prop) (bA:List St) (tm:Tm) (s:St):Prop:=
 match o.core with
 |true=>ML P o dst r K bA tm s
 |false=>PL P o dst b r K bA tm s
theorem HJ {K:Tm→St→Prop} {dst:Option Nat} {o:AO} {b:Nat} {r:List (AI×Nat)} {bA:List St} {tm:Tm} {s:St} (h:OL P o dst b r K bA tm s) :
 gx P K ((.op dst none o,b)::r) bA tm s:=by
 unfold OL at h
 simp only[gx,sI]
 cases hc:o.core with
 | true=>
  simp only[hc,ML]at h
  simp only[]
  split at h
  ·rename_i d s' he
   exact⟨d,s',by simpa[rX,guarded]using he,h⟩
  ·exact h.elim
 | false=>
  simp only[hc,PL]at h
  simp only[]
  split at h
  ·rename_i d s' he
   exact⟨d,by simp[jD,he],fun _=>Du h.1,h.2⟩
  ·exact h.elim
theorem L0 {K:Tm→St→Prop} {dst:Option Nat} {f:Nat} {xs:List X} {b:Nat} {r:List (AI×Nat)} {bA:List St} {tm:Tm} {s:St} (h:CL true P f (xs.map (·.ev tm)) s (KL P K r (s::bA) tm dst)) :
 gx P K ((.call dst none f xs,b)::r) bA tm s:=by
 obtain⟨d,s',h1,h2⟩:=h
 exact⟨d,s',h1,h2⟩
theorem Zp {K:Tm→St→Prop} {i:AI} {t:Nat} {w:Bool} {b:Nat} {r:List (AI×Nat)} {bA:List St} {tm:Tm} {s:St} {j:AI} (hf:(∃ d o,i = .op d none o∧j = .op d (some (t,w)) o)∨(∃ d f xs,i = .call d none f xs∧j = .call d (some (t,w)) f xs))
 (hg:tm.get t = .bool w) (h:gx P K ((i,b)::r) bA tm s):gx P K ((j,b)::r) bA tm s:=by
 rcases hf with ⟨d,o,rfl,rfl⟩|⟨d,f,xs,rfl,rfl⟩
 ·simp only [gx,sI]at h ⊢
  cases hc:o.core<;>simp only[hc]at h ⊢
  ·obtain⟨x,h1,h2,h3⟩:=h
   refine⟨x,by simpa[jD,hg]using h1,fun hk s' ou=>?_,h3⟩
   have tB:(AI.op d none o).kind = .load:=by
    cases d<;>cases o<;>first|exact hk|(cases hc;done)|(cases hk;done)
   simpa[jD,hg]using h2 tB s' ou
  ·obtain⟨x,s',h1,h2⟩:=h
   exact⟨x,s',by simpa[rX,guarded,hg]using h1,h2⟩
 ·obtain⟨x,s',h1,h2⟩:=h
  exact⟨x,s',by simpa[rX,guarded,hg]using h1,h2⟩
theorem O9 {K:Tm→St→Prop} {i:AI} {t:Nat} {w:Bool} {b:Nat} {r:List (AI×Nat)} {bA:List St} {tm:Tm} {s:St} {j:AI} (hf:(∃ d o,i = .op d none o∧j = .op d (some (t,w)) o)∨(∃ d f xs,i = .call d none f xs∧j = .call d (some (t,w)) f xs))
 (hg:tm.get t = .bool (!w)∨∃ l,tm.get t = .tuple l) (h:gx P K r (if gv i.kind then s::bA else bA) (tm.put i.dst (.tuple [])) s):gx P K ((j,b)::r) bA tm s:=by
 rcases hf with ⟨d,o,rfl,rfl⟩|⟨d,f,xs,rfl,rfl⟩
 ·simp only [gx,sI]at h ⊢
  cases hc:o.core<;>simp only[hc]at h ⊢
  ·refine⟨.tuple [], ?_,fun hk s' ou=> ?_,h⟩
   ·rcases hg with hg|⟨l,hg⟩<;>simp[jD,hg]
   ·rcases hg with hg|⟨l,hg⟩<;>simp[jD,hg]
  ·refine⟨.tuple [],s, ?_,h⟩
   rcases hg with hg|⟨l,hg⟩<;>simp[rX,guarded,hg]
 ·refine⟨.tuple [],s, ?_,h⟩
  rcases hg with hg|⟨l,hg⟩<;>simp[rX,guarded,hg]
theorem Ko {K:Tm→St→Prop} {i j:AI} {t:Nat} {w:Bool} {b:Nat} {r:List (AI×Nat)} {bA:List St} {tm:Tm} {s:St} (hf:(∃ d o,i = .op d none o∧j = .op d (some (t,w)) o)∨(∃ d f xs,i = .call d none f xs∧j = .call d (some (t,w)) f xs))
 (h:GL P (tm.get t) w i b r K bA tm s):gx P K ((j,b)::r) bA tm s:=by
 unfold GL at h
 split at h
 ·rename_i v hv
  by_cases e:v=w
  ·exact Zp hf (by rw[hv,e]) (h.1 e)
  ·exact O9 hf (.inl (by rw[hv];cases v<;>cases w<;>simp_all)) (h.2 (by cases v<;>cases w<;>simp_all))
 ·rename_i l hl
  exact O9 hf (.inr ⟨l,hl⟩) h
 ·exact h.elim
theorem Fz {K:Tm→St→Prop} {dst:Option Nat} {o:AO} {t:Nat} {w:Bool} {b:Nat} {r:List (AI×Nat)} {bA:List St} {tm:Tm} {s:St} (h:GL P (tm.get t) w (.op dst none o) b r K bA tm s) :
 gx P K ((.op dst (some (t,w)) o,b)::r) bA tm s:=Ko (.inl ⟨dst,o,rfl,rfl⟩) h
theorem JD {K:Tm→St→Prop} {dst:Option Nat} {f:Nat} {xs:List X} {t:Nat} {w:Bool} {b:Nat} {r:List (AI×Nat)} {bA:List St} {tm:Tm} {s:St} (h:GL P (tm.get t) w (.call dst none f xs) b r K bA tm s) :
 gx P K ((.call dst (some (t,w)) f xs,b)::r) bA tm s:=Ko (.inr ⟨dst,f,xs,rfl,rfl⟩) h
theorem CL.use {one:Bool} {f:Nat} {args:List D} {s:St} {d:D} {s':St} {K:D→St→Prop} (h:aG P f args s d s') (hk:K d s'):CL one P f args s K:=
 match one with
 |true=>⟨d,s',h,hk⟩
 |false=>h.use hk
theorem CU {one:Bool} {f:Nat} {args:List D} {s:St} {d:D} {s':St} {K:D→St→Prop} (h:aG P f args s d s') (hk:K d s'):CL one P f args s K:=CL.use h hk
theorem CR {f:Nat} {args:List D} {s:St} {Q K:D→St→Prop} (h:bG P f args s Q) (hk : ∀ d s',Q d s'→K d s'):CL false P f args s K:=bG.mono h hk
end
end Go.Abs
namespace Go.Abs
theorem nd {α:Type} {a b:α} (h:a=b):a=b:=h
def GJ (g:D) (w:Bool) (A C:Prop):Prop:=
 match g with
 | .bool b=>(b=w→A)∧(b=(!w)→C)
 | .tuple _=>C
 |_=>False
class Two where
 a:Prop
 c:Prop
def CB (d:D) [b:Two] : Prop:=tZ d b.a b.c
def GB (d:D) (w:Bool) [b:Two] : Prop:=GJ d w b.a b.c
def mF (g:Option (Nat×Bool)) (tm:Tm) (A C:Prop):Prop:=
 match g with
 |none=>A
 |some (t,w)=>GJ (tm.get t) w A C
def j9 (P:Program):List AI→(Tm→St→Prop)→Tm→St→Prop
 | [],K,tm,s=>K tm s
 | .op dst g o::r,K,tm,s=>mF g tm (match aI o tm s with|some (d,s')=>j9 P r K (tm.put dst d) s'|none=>False) (j9 P r K (tm.put dst (.tuple [])) s)
 | .call dst g f xs::r,K,tm,s=>mF g tm (CL false P f (xs.map (·.ev tm)) s fun d s'=>j9 P r K (tm.put dst d) s') (j9 P r K (tm.put dst (.tuple [])) s)
 | .nil dst g neg x::r,K,tm,s=>
  mF g tm (match x.ev tm with
   | .slice _ _ rows=>∀ b:Bool,(rows≠ []→b=false)→j9 P r K (tm.put dst (.bool (if neg then !b else b))) s
   |_=>False) (j9 P r K (tm.put dst (.tuple [])) s)
 | .jb dst g t xs::r,K,tm,s=>
  mF g tm (match tm.get t with
   | .fS f np=>enters P f=true∧CL false P f (xs.map (·.ev tm)++np) s fun d s'=>j9 P r K (tm.put dst d) s'
   |_=>False) (j9 P r K (tm.put dst (.tuple [])) s)
theorem sc {g:Option (Nat×Bool)} {tm:Tm} {A C A' C':Prop} (h:mF g tm A C) (ha:A→A') (hc:C→C'):guarded g tm A' C':=by
 unfold mF at h
 unfold guarded
 cases g with
 |none=>exact ha h
 | some p=>
  obtain⟨t,w⟩:=p
  simp only[GJ]at h ⊢
  split at h
  ·rename_i hb;try simp only [hb]
   exact⟨fun e=>ha (h.1 e),fun e=>hc (h.2 e)⟩
  ·rename_i hb;try simp only [hb]
   exact hc h
  ·exact h.elim
theorem nR {P:Program} {K:Tm→St→Prop} : ∀ {is:List AI} {tm:Tm} {s:St},j9 P is K tm s→iI P is K tm s
 | [],tm,s,h=>h
 | .op dst g o::r,tm,s,h=>by
  refine sc h (fun h=>?_) nR
  split at h
  ·rename_i he;try simp only [he]
   exact nR h
  ·exact h.elim
 | .call dst g f xs::r,tm,s,h=>sc h (fun h=>bG.mono h fun _ _ h=>nR h) nR
 | .nil dst g neg x::r,tm,s,h=>by
  refine sc h (fun h=>?_) nR
  split at h
  ·rename_i he;try simp only [he]
   exact fun b hb=>nR (h b hb)
  ·exact h.elim
 | .jb dst g t xs::r,tm,s,h=>by
  refine sc h (fun h=>?_) nR
  split at h
  ·rename_i he;try simp only [he]
   exact⟨h.1,bG.mono h.2 fun _ _ h=>nR h⟩
  ·exact h.elim
def fY (P:Program) (K:Tm→St→Prop):List (AI×Nat)→List St→Tm→St→Prop
 | [],_,tm,s=>K tm s
 |(.op dst g o,b)::r,bA,tm,s=>
  match o.core with
  |true=>mF g tm (match aI o tm s with|some (d,s')=>fY P K r (s::bA) (tm.put dst d) s'|none=>False) (fY P K r (s::bA) (tm.put dst (.tuple [])) s)
  |false=>mF g tm (match aI o tm s with|some (d,_)=>nK (.op dst none o) tm d (bA.take b)∧fY P K r bA (tm.put dst d) s|none=>False) (fY P K r bA (tm.put dst (.tuple [])) s)
 |(.call dst g f xs,_)::r,bA,tm,s=>mF g tm (CL true P f (xs.map (·.ev tm)) s fun d s'=>fY P K r (s::bA) (tm.put dst d) s') (fY P K r (s::bA) (tm.put dst (.tuple [])) s)
 |(.nil ..,_)::_,_,_,_=>False
 |(.jb ..,_)::_,_,_,_=>False
theorem Al {P:Program} {t:Nat} {w:Bool} {tm:Tm} {i:AI} {b:Nat} {r:List (AI×Nat)} {K:Tm→St→Prop} {bA:List St} {s:St} {A C:Prop} (h:mF (some (t,w)) tm A C) (ha:A→gx P K ((i,b)::r) bA tm s)
 (hc:C→gx P K r (if gv i.kind then s::bA else bA) (tm.put i.dst (.tuple [])) s):GL P (tm.get t) w i b r K bA tm s:=by
 simp only[mF,GJ]at h
 unfold GL
 split at h
 ·rename_i hb;try simp only [hb]
  exact⟨fun e=>ha (h.1 e),fun e=>hc (h.2 e)⟩
 ·rename_i hb;try simp only [hb]
  exact hc h
 ·exact h.elim
theorem lS {P:Program} {K:Tm→St→Prop} : ∀ {l:List (AI×Nat)} {bA:List St} {tm:Tm} {s:St},fY P K l bA tm s→gx P K l bA tm s
 | [],bA,tm,s,h=>h
 | (.op dst g o,b)::r,bA,tm,s,h=>by
  simp only[fY]at h
  cases hc:o.core with
  | true=>
   simp only[hc]at h
   have ha:(match aI o tm s with|some (d,s')=>fY P K r (s::bA) (tm.put dst d) s'|none=>False)→gx P K ((.op dst none o,b)::r) bA tm s:=by
    intro h
    refine HJ ?_
    simp only[OL,hc,ML]
    split at h
    ·rename_i he;try simp only [he]
     exact lS h
    ·exact h.elim
   cases g with
   |none=>exact ha h
   |some p=>
    obtain⟨t,w⟩:=p
    refine Fz (Al h ha fun h=>?_)
    simp only[sI,hc,if_true]
    exact lS h
  | false=>
   simp only[hc]at h
   have ha:(match aI o tm s with|some (d,_)=>nK (.op dst none o) tm d (bA.take b)∧fY P K r bA (tm.put dst d) s|none=>False)→gx P K ((.op dst none o,b)::r) bA tm s:=by
    intro h
    refine HJ ?_
    simp only[OL,hc,PL]
    split at h
    ·rename_i he;try simp only [he]
     exact⟨h.1,lS h.2⟩
    ·exact h.elim
   cases g with
   |none=>exact ha h
   |some p=>
    obtain⟨t,w⟩:=p
    refine Fz (Al h ha fun h=>?_)
    simp only[sI,hc]
    exact lS h
 | (.call dst g f xs,b)::r,bA,tm,s,h=>by
  simp only[fY]at h
  have ha:(CL true P f (xs.map (·.ev tm)) s fun d s'=>fY P K r (s::bA) (tm.put dst d) s')→gx P K ((.call dst none f xs,b)::r) bA tm s:=
   fun⟨d,s',h1,h2⟩=>L0 ⟨d,s',h1,lS h2⟩
  cases g with
  |none=>exact ha h
  |some p=>
   obtain⟨t,w⟩:=p
   exact JD (Al h ha fun h=>lS h)
 |(.nil ..,_)::_,bA,tm,s,h=>h.elim
 |(.jb ..,_)::_,bA,tm,s,h=>h.elim
section
variable {P:Program} {B:fM} {nt:Nat}
def jQ (P:Program) (B:fM) (nt:Nat):AC→(Exit→Tm→St→Prop)→Tm→St→Prop
 | .skip,Q,tm,s=>Q .normal tm s
 | .run is,Q,tm,s=>j9 P is (Q .normal) tm s
 | .par is lq,Q,tm,s=>match mE is lq with|some l=>fY P (Q .normal) l [] tm s|none=>False
 | .seq a b,Q,tm,s=>jQ P B nt a (nw (jQ P B nt b Q) Q) tm s
 | .cond x a b,Q,tm,s=>tZ (x.ev tm) (jQ P B nt a Q tm s) (jQ P B nt b Q tm s)
 | .block id a,Q,tm,s=>jQ P B nt a (km id Q) tm s
 | .loop a,Q,tm,s=>bq P B nt a Q tm s
 | .exit id,Q,tm,s=>Q (.exit id) tm s
 | .scope a,Q,tm,s=>ld P B nt a a Q tm s
 | .label _,Q,tm,s=>Q .normal tm s
 | .goto l,Q,tm,s=>Q (.goto l) tm s
 | .ret,Q,tm,s=>Q .ret tm s
theorem il : ∀ {ac:AC} {Q:Exit→Tm→St→Prop} {tm:Tm} {s:St},jQ P B nt ac Q tm s→Sem P B nt ac Q tm s:=by
 intro ac
 induction ac with
 |skip=>exact fun h=>Sem.skip h
 |run is=>exact fun h=>Sem.run (nR h)
 |par is lq=>
  intro Q tm s h
  simp only[jQ]at h
  split at h
  ·exact Sem.ahK ‹_› (lS h)
  ·exact h.elim
 |seq a b OQ OR=>
  intro Q tm s h
  refine Sem.seq ((OQ h).mono fun e tm s hq=>?_)
  cases e with
  |normal=>exact OR hq
  |_=>exact hq
 |cond x a b OQ OR=>
  intro Q tm s h
  refine Sem.adt ?_
  simp only[jQ]at h
  unfold tZ at h ⊢
  split at h
  ·exact⟨fun e=>OQ (h.1 e),fun e=>OR (h.2 e)⟩
  ·exact h.elim
 |block id a ih=>exact fun h=>Sem.block (ih h)
 |loop a ih=>exact fun h=>Sem.loop h
 |exit id=>exact fun h=>Sem.exit h
 |scope a ih=>exact fun h=>Sem.scope h
 |label l=>exact fun h=>Sem.label h
 |goto l=>exact fun h=>Sem.goto h
 |ret=>exact fun h=>Sem.ret h
section
variable (Q:Exit→Tm→St→Prop) (N:Tm→St→Prop) (tm:Tm) (s:St) (a b:AC) (is:List AI) (x:X)
theorem RR:jQ P B nt .skip Q tm s=Q .normal tm s:=nd rfl
theorem WH:jQ P B nt (.run is) Q tm s=j9 P is (Q .normal) tm s:=nd rfl
theorem WI (lq:List (Nat×Nat)):jQ P B nt (.par is lq) Q tm s=match mE is lq with|some l=>fY P (Q .normal) l [] tm s|none=>False:=nd rfl
theorem WJ:jQ P B nt (.seq a b) Q tm s=jQ P B nt a (nw (jQ P B nt b Q) Q) tm s:=nd rfl
theorem RS:jQ P B nt (.cond x a b) Q tm s = @CB (x.ev tm) ⟨jQ P B nt a Q tm s,jQ P B nt b Q tm s⟩:=nd rfl
theorem Pa (id:Nat):jQ P B nt (.block id a) Q tm s=jQ P B nt a (km id Q) tm s:=nd rfl
theorem RT:jQ P B nt (.loop a) Q tm s=bq P B nt a Q tm s:=nd rfl
theorem Pb:jQ P B nt (.scope a) Q tm s=ld P B nt a a Q tm s:=nd rfl
theorem RU (id:Nat):jQ P B nt (.exit id) Q tm s=Q (.exit id) tm s:=nd rfl
theorem Pe (id:Nat):jQ P B nt (.label id) Q tm s=Q .normal tm s:=nd rfl
theorem RV (id:Nat):jQ P B nt (.goto id) Q tm s=Q (.goto id) tm s:=nd rfl
theorem WK:jQ P B nt .ret Q tm s=Q .ret tm s:=nd rfl
theorem WL:nw N Q .normal tm s=N tm s:=nd rfl
theorem WM:nw N Q .ret tm s=Q .ret tm s:=nd rfl
theorem WN (id:Nat):nw N Q (.exit id) tm s=Q (.exit id) tm s:=nd rfl
theorem WO (id:Nat):nw N Q (.goto id) tm s=Q (.goto id) tm s:=nd rfl
theorem RW (id:Nat):km id Q .normal tm s=Q .normal tm s:=nd rfl
theorem RX (id:Nat):km id Q .ret tm s=Q .ret tm s:=nd rfl
theorem RY (id l:Nat):km id Q (.goto l) tm s=Q (.goto l) tm s:=nd rfl
theorem RZ (id i:Nat):km id Q (.exit i) tm s=if i=id then Q .normal tm s else Q (.exit i) tm s:=nd rfl
end
theorem bq.kC {a:AC} {Q:Exit→Tm→St→Prop} {tm:Tm} {s:St} (h:jQ P B nt a (nw (bq P B nt a Q) Q) tm s):bq P B nt a Q tm s:=bq.once (il h)
theorem ld.kC {a r:AC} {Q:Exit→Tm→St→Prop} {tm:Tm} {s:St} (h:jQ P B nt r (ya P B nt a Q) tm s):ld P B nt a r Q tm s:=ld.once (il h)
def vF (tm:Tm) (n m:Nat):Tm→Prop
 | []=>True
 |(k,d)::r=>Wk ((tm.get k).fg n m) d∧vF tm n m r
theorem vF.get {tm:Tm} {n m:Nat} : ∀ {bl:Tm},vF tm n m bl→∀ t,Wk ((tm.get t).fg n m) (bl.get t)
 | [],_,t=>Wk.junk _
 |(k,d)::r,h,t=>by
  simp only[Tm.get]
  split
  ·rename_i hk;subst hk;exact h.1
  ·exact vF.get h.2 t
theorem Holds.re {Q:Exit→Tm→St→Prop} {tm bl:Tm} {s:St} {fZ:List (List D)} {act:Act} {w:World} (n m:Nat) (hn:B.s.ah.length≤n) (hm:B.s.av.length≤m) (ht:vF tm n m bl) (ho:gk (s.cut n m).ah fZ)
 (h:Holds B nt tm s act w):Holds B nt bl ⟨fZ,(s.cut n m).av⟩ act w:=by
 obtain⟨M,e,r,hr,h1,h2⟩:=h
 obtain⟨r',le⟩:=(r.cut n m).pg ho
 have e':=e.cut hn hm
 refine⟨M,e'.trans ⟨le,fun _ _ _ _=>rfl,fun o h1 h2=>?_,fun t b c z hl e=> .inl ⟨hl,c,z,e⟩,fun _ _ h=>(h rfl).elim,Nat.le_refl _,rfl,rfl,rfl⟩,r',fun k=>((ht.get k) _ _ _ ((hr k).fg n m)).mono le,h1,h2⟩
 rw[← ho.len]at h2
 exact h1.elim (fun h1=>absurd h2 (Nat.not_lt.2 h1)) fun h1=>(h1 rfl).elim
theorem bq.re {a:AC} {Q:Exit→Tm→St→Prop} {tm:Tm} {s:St} (bl:Tm) (fZ:List (List D)) (n m:Nat) (hn:B.s.ah.length≤n) (hm:B.s.av.length≤m) (ht:vF tm n m bl) (ho:gk (s.cut n m).ah fZ)
 (h:bq P B nt a Q bl ⟨fZ,(s.cut n m).av⟩):bq P B nt a Q tm s:=
 fun c hc act w hh=>h c hc act w (hh.re (Q:=Q) n m hn hm ht ho)
theorem bq.ind {ι:Type} {a:AC} {Q:Exit→Tm→St→Prop} (I:ι→Prop) (μ:ι→Nat) (TM:ι→Tm) (ST:ι→St)
 (step : ∀ i,I i→(∀ j,I j→μ j<μ i→bq P B nt a Q (TM j) (ST j))→jQ P B nt a (nw (bq P B nt a Q) Q) (TM i) (ST i)) : ∀ i,I i→bq P B nt a Q (TM i) (ST i):=by
 have key : ∀ n i,μ i<n→I i→bq P B nt a Q (TM i) (ST i):=by
  intro n
  induction n with
  |zero=>intro i h;exact absurd h (Nat.not_lt_zero _)
  |succ n ih=>exact fun i h hi=>bq.kC (step i hi fun j hj hD=>ih j (by omega) hj)
 exact fun i hi=>key (μ i+1) i (Nat.lt_succ_self _) hi
theorem drop_cons {α:Type} {l rest:List α} {k:Nat} {x:α} (h:l.drop k=x::rest):l[k]? = some x∧l.drop (k+1)=rest∧decide ((k:Int)<(l.length:Int))=true∧k<l.length:=by
 have h1:l[k]? = some x:=by
  have:(l.drop k)[0]? = some x:=by rw[h];rfl
  simpa using this
 have h2:=(List.getElem?_eq_some_iff.1 h1).1
 refine⟨h1, ?_,by simpa using h2,h2⟩
 have:l.drop (k+1)=(l.drop k).drop 1:=by rw[List.drop_drop]
 rw[this,h];rfl
theorem drop_nil {α:Type} {l:List α} {k:Nat} (h:l.drop k = []):decide ((k:Int)<(l.length:Int))=false:=by
 have:=List.drop_eq_nil_iff.1 h
 simp;omega
theorem bq.wx {a:AC} {Q:Exit→Tm→St→Prop} {tm:Tm} {s:St} (t z':Nat) {z:Nat} (hw:tm.get t = .slice .full z [])
 (h:bq P B nt a Q (tm.set t (.slice (.tok s.av.length) z' [])) {s with av:=s.av++ [some 0]}):bq P B nt a Q tm s:=by
 intro c hc act w ⟨M,e,r,ht,h1,h2⟩
 obtain⟨r',le⟩:=r.blank
 refine h c hc act w ⟨_,Fv e le,r',fun k=>?_,h1,h2⟩
 rw[Tm.Es]
 split
 ·rename_i hk;subst hk;have:=ht k;rw[hw]at this;exact this.own
 ·exact(ht k).mono le
theorem bq.Cw {a:AC} {Q:Exit→Tm→St→Prop} {tm:Tm} {s:St} (o i z':Nat) {z:Nat} {cs:List D} (hc:s.ah[o]? = some cs) (hi:cs[i]? = some (.slice .full z []))
 (h:bq P B nt a Q tm ⟨s.ah.set o (cs.set i (.slice (.tok s.av.length) z' [])),s.av++ [some 0]⟩):bq P B nt a Q tm s:=by
 intro c Y3 act w hh
 obtain⟨M,e,r,ht,h1,h2⟩:=hh
 obtain⟨r',le⟩:=r.blank
 have le':Le M s (M.eB s.av.length none) ⟨s.ah.set o (cs.set i (.slice (.tok s.av.length) z' [])),s.av++ [some 0]⟩:=⟨le.G,by simp,le.loc,le.t,le.tk⟩
 have Zr:Le (M.eB s.av.length none) {s with av:=s.av++ [some 0]} (M.eB s.av.length none) ⟨s.ah.set o (cs.set i (.slice (.tok s.av.length) z' [])),s.av++ [some 0]⟩:=
  ⟨fun _ _ _ h=>h,by simp,fun _ _=> .refl _,Nat.le_refl _,fun t n' _ e=>⟨n',e,Nat.le_refl _,fun _=>rfl⟩⟩
 have r2:Rel (M.eB s.av.length none) ⟨s.ah.set o (cs.set i (.slice (.tok s.av.length) z' [])),s.av++ [some 0]⟩ w:=by
  refine⟨r'.comm,fun o' ds e=>?_,fun o ho=>r'.jv o (by simpa using ho),fun o o' ho nc=>r'.inj o o' (by simpa using ho) (by simpa using nc),r'.tok,
   fun t b c z o hv e ho=>r'.eZ t b c z o hv e (by simpa using ho),r'.fJ⟩
  simp only[List.getElem?_set]at e
  split at e
  ·rename_i ho
   subst ho
   split at e
   ·cases e
    obtain⟨vs,T,g1,g2,g3,g4⟩:=r.obj o cs hc
    refine⟨vs,T,g1,by simpa using g2,g3,fun j d v e1 e2=>?_⟩
    rw[List.getElem?_set]at e1
    split at e1
    ·rename_i hj
     subst hj
     split at e1
     ·cases e1
      exact((g4 i _ v hi e2).own (z':=z')).mono Zr
     ·cases e1
    ·exact(g4 j d v e1 e2).mono le'
   ·cases e
  ·obtain⟨vs,T,g1,g2,g3,g4⟩:=r'.obj o' ds e
   exact⟨vs,T,g1,g2,g3,fun i d v e1 e2=>(g4 i d v e1 e2).mono Zr⟩
 have ee:Ext B.M B.s B.w (M.eB s.av.length none) ⟨s.ah.set o (cs.set i (.slice (.tok s.av.length) z' [])),s.av++ [some 0]⟩ w:=by
  refine(Fv e le).trans ⟨Zr,fun _ _ _ _=>rfl,fun o h1 h2=>?_,fun t b c z hl e=> .inl ⟨hl,c,z,e⟩,fun _ _ h=>(h rfl).elim,Nat.le_refl _,rfl,rfl,rfl⟩
  simp at h2
  exact h1.elim (fun h1=>absurd h2 (Nat.not_lt.2 h1)) fun h1=>(h1 rfl).elim
 exact h c Y3 act w ⟨_,ee,r2,fun k=>(ht k).mono le',h1,h2⟩
theorem Cx {ac r:AC} {l:Nat} {Q:Exit→Tm→St→Prop} {tm:Tm} {s:St} (hf:tX ac l=some r) (h:ld P B nt ac r Q tm s):ya P B nt ac Q (.goto l) tm s:=⟨r,hf,h⟩
theorem Sem.mH {a b:AC} {Q:Exit→Tm→St→Prop} {tm:Tm} {s:St} (h:jQ P B nt a (nw (Sem P B nt b Q) Q) tm s):Sem P B nt (.seq a b) Q tm s:=Sem.seq (il h)
theorem Sem.re {a:AC} {Q:Exit→Tm→St→Prop} {tm:Tm} {s:St} (bl:Tm) (fZ:List (List D)) (n m:Nat) (hn:B.s.ah.length≤n) (hm:B.s.av.length≤m) (ht:vF tm n m bl) (ho:gk (s.cut n m).ah fZ)
 (h:Sem P B nt a Q bl ⟨fZ,(s.cut n m).av⟩):Sem P B nt a Q tm s:=
 fun c hc act w hh=>h c hc act w (hh.re (Q:=Q) n m hn hm ht ho)
def Has (P:Program) (f nt:Nat) (res:List (Nat×Option (Bool×Nat))) (body:AC):Prop:=∃ fn,P.funcs[f]? = some fn∧cF P fn=some ⟨nt,res,body⟩
theorem aG.go {f:FuncId} {res:List (Nat×Option (Bool×Nat))} {body:AC} {args:List D} {s:St} {d:D} {s':St} (h0:Has P f nt res body) (hl:Nat.ble args.length nt=true)
 (h : ∀ (B:fM) (Q:Exit→Tm→St→Prop),B.s=s→ph s.ah.length s.av.length res d s'=Q→jQ P B nt body Q (ml 0 args) s):aG P f args s d s':=by
 obtain⟨fn,hf,hc⟩:=h0
 exact aG.intro ⟨fn,hf,hc⟩ (Nat.le_of_ble_eq_true hl) fun B hB=>il (h B _ hB rfl)
theorem aG.ahN {f:FuncId} {pre post:List D} {rows oa:List (List D)} {z z' k k':Nat} (h:aG P f (pre++ .slice (.tok 0) z rows::post) ⟨[],[some k]⟩ (.slice (.tok 0) z' oa) ⟨[],[some k']⟩)
 (hp:D.bI 0 0 pre=true) (ha:D.bI 0 0 post=true) (hw:D.gR 0 0 rows=true) (Zs:D.gR 0 0 oa=true)
 {s:St} {t:Nat} (ht:s.av[t]? = some (some k)):aG P f (pre++ .slice (.tok t) z rows::post) s (.slice (.tok t) z' oa) ⟨s.ah,s.av.set t (some k')⟩:=by
 refine bG.frame [] [t] h (by simp) (by simp) (by simp) (by simpa using (List.getElem?_eq_some_iff.1 ht).1) rfl (fun i o' ds e1 e2=>by simp at e1) rfl (fun i t' e1=>?_)
  ?_ ?_ ?_
 ·cases i with
  |zero=>simp at e1;subst e1;simp[ht]
  |succ i=>simp at e1
 ·have h1:=fp [] [t] _ hp
  have h2:=fp [] [t] _ ha
  rw[fG]at h1 h2
  simp[fG,D.cL,Tag.cL,h1,h2,iS _ _ _ hw]
 ·have h1:=ib (n':=0) (m':=1) (Nat.le_refl 0) (Nat.zero_le 1) _ hp
  have h2:=ib (n':=0) (m':=1) (Nat.le_refl 0) (Nat.zero_le 1) _ ha
  rw[xg]at h1 h2 ⊢
  simp only[List.length_nil,List.length_cons,List.all_append,h1,Bool.true_and,List.all_cons,h2,Bool.and_true,D.ok,Tag.ok,lR (Nat.zero_le 0) (Nat.zero_le 1) _ hw]
  rfl
 ·rintro _ _ ⟨rfl,rfl⟩
  refine⟨by simp[D.back,D.cL,Tag.cL,ki,iS _ _ _ Zs], ?_⟩
  simp[St.back,kn]
theorem ahO (A C:Prop) : @CB (.bool true) ⟨A,C⟩=A:=by simp[CB,tZ]
theorem ahP (A C:Prop) : @CB (.bool false) ⟨A,C⟩=C:=by simp[CB,tZ]
theorem Zt (b:Bool) (A C:Prop) : @CB (.bool (!b)) ⟨A,C⟩ = @CB (.bool b) ⟨C,A⟩:=by
 cases b<;>simp[CB,tZ]
theorem HK {b:Bool} {A C:Prop} (h1:b=true→A) (h2:b=false→C) : @CB (.bool b) ⟨A,C⟩:=⟨h1,h2⟩
theorem Zu {b:Bool} {A C:Prop} (h:b=true) (h1:b=true→A) : @CB (.bool b) ⟨A,C⟩:=HK h1 (fun h'=>by rw[h]at h';cases h')
theorem Zv {b:Bool} {A C:Prop} (h:b=false) (h1:b=false→C) : @CB (.bool b) ⟨A,C⟩:=HK (fun h'=>by rw[h]at h';cases h') h1
theorem adw {n m:Nat} {res:List (Nat×Option (Bool×Nat))} {d:D} {s':St} {tm:Tm} {s:St} {Q:Exit→Tm→St→Prop} (hQ:ph n m res d s'=Q)
 (h : ∃ l,aR res tm s=some l∧Wk ((aS l).fg n m) d∧gk (s.cut n m).ah s'.ah∧(s.cut n m).av=s'.av):Q .ret tm s:=hQ ▸ h
theorem adx {n m:Nat} {res:List (Nat×Option (Bool×Nat))} {d:D} {s':St} {tm:Tm} {s:St} {Q:Exit→Tm→St→Prop} (hQ:ph n m res d s'=Q)
 (h : ∃ l,aR res tm s=some l∧Wk ((aS l).fg n m) d∧gk (s.cut n m).ah s'.ah∧(s.cut n m).av=s'.av):Q .normal tm s:=hQ ▸ h
end
attribute [go_sem] RR WH WI WJ RS Pa RT Pb RU Pe RV WK WL WM WN WO RW RX RY RZ
theorem Pf : ∀ (tm:Tm) (s:St) (x:X),aI (AO.mv x) tm s=some (X.ev tm x,s):=
 fun tm s x=>nd (aI.eq_1 tm s x)
theorem Ph : ∀ (tm:Tm) (s:St) (c a b:X),
 aI (AO.pick c a b) tm s =
  match X.ev tm c with
  |D.bool t=>some (if t=true then X.ev tm a else X.ev tm b,s)
  |x=>none:=
 fun tm s c a b=>nd (aI.eq_2 tm s c a b)
theorem Pj : ∀ (tm:Tm) (s:St) (zero:List D),
 aI (AO.alloc zero) tm s=some (D.ptr s.ah.length 0,{ah:=s.ah++ [zero],av:=s.av}):=
 fun tm s zero=>nd (aI.eq_3 tm s zero)
theorem Pk : ∀ (tm:Tm) (s:St) (x:X),
 aI (AO.box x) tm s =
  match (X.ev tm x).row with
  |some r=>some (D.ptr s.ah.length 0,{ah:=s.ah++ [r],av:=s.av})
  |none=>none:=
 fun tm s x=>nd (aI.eq_4 tm s x)
theorem Pl : ∀ (tm:Tm) (s:St) (zero:List D) (parts:List (Nat×Nat×X)),
 aI (AO.build zero parts) tm s =
  match qm zero (List.map (fun(p:Nat×Nat×X)=>(p.fst,p.snd.fst,X.ev tm p.snd.snd)) parts)with
  |some cs=>some (D.agg cs,s)
  |none=>none:=
 fun tm s zero parts=>nd (aI.eq_5 tm s zero parts)
theorem Pn : ∀ (tm:Tm) (s:St) (zero:List D) (size n:Nat) (parts:List (Nat×X)),
 aI (AO.du zero size n parts) tm s =
  match jJ size (fK zero n) (List.map (fun(p:Nat×X)=>(p.fst,X.ev tm p.snd)) parts)with
  |some rows=>some (D.slice Tag.full size rows,s)
  |none=>none:=
 fun tm s zero size n parts=>nd (aI.eq_6 tm s zero size n parts)
theorem Po : ∀ (tm:Tm) (s:St) (zero:List D) (size n:Nat) (parts:List (Nat×X)),
 aI (AO.uu zero size n parts) tm s =
  match jJ size (fK zero n) (List.map (fun(p:Nat×X)=>(p.fst,X.ev tm p.snd)) parts)with
  |some rows=>
   some (D.slice (Tag.tok s.av.length) size rows,{ah:=s.ah,av:=s.av++ [some rows.length]})
  |none=>none:=
 fun tm s zero size n parts=>nd (aI.eq_7 tm s zero size n parts)
theorem Pp : ∀ (tm:Tm) (s:St) (x:X),
 aI (AO.zI x) tm s =
  match X.ev tm x with
  | D.slice (Tag.tok t _) z rows=>
   if rows≠ []∧s.av[t]? = some (some rows.length)then
    some (D.slice Tag.shared z rows,{ah:=s.ah,av:=s.av.set t none})
   else none
  |x=>none:=
 fun tm s x=>nd (aI.eq_8 tm s x)
theorem Pq : ∀ (tm:Tm) (s:St) (x:X) (agg:Bool) (size:Nat),
 aI (AO.load x agg size) tm s =
  match X.ev tm x with
  | D.ptr o off=>
   match s.ah[o]? with
   |some cs=>
    match part cs off agg size with
    |some d=>some (d,s)
    |none=>none
   |none=>none
  |D.dt row off=>
   match part row off agg size with
   |some d=>some (d,s)
   |none=>none
  |x=>xR x agg size s:=
 fun tm s x agg size=>nd (aI.eq_9 tm s x agg size)
theorem L1 : ∀ (tm:Tm) (s:St) (p x:X) (size:Nat),
 aI (AO.store p x size) tm s =
  match X.ev tm p,(X.ev tm x).row with
  | D.ptr o off,some r=>
   match s.ah[o]? with
   | some cs=>
    if r.length=size∧off+size≤cs.length then
     some (D.tuple [],{ah:=s.ah.set o (gY cs off r),av:=s.av})
    else none
   |none=>none
  |x,fh=>zP x fh size s:=
 fun tm s p x size=>nd (aI.eq_10 tm s p x size)
theorem L2 : ∀ (tm:Tm) (s:St) (x:X),
 aI (AO.bO x) tm s =
  match X.ev tm x with
  |D.ptr o off=>some (D.ptr o off,s)
  |D.dt row off=>some (D.dt row off,s)
  |x=>match K8 x with|some d=>some (d,s)|none=>none:=
 fun tm s x=>nd (aI.eq_11 tm s x)
theorem L3 : ∀ (tm:Tm) (s:St) (op:BinOp) (x y:X),
 aI (AO.bin op x y) tm s =
  match wc op (X.ev tm x) (X.ev tm y)with
  |some d=>some (d,s)
  |none=>none:=
 fun tm s op x y=>nd (aI.eq_12 tm s op x y)
theorem L4 : ∀ (tm:Tm) (s:St) (neg:Bool) (x y:X),
 aI (AO.Ff neg x y) tm s =
  match X.ev tm x,X.ev tm y with
  |D.bool a,D.bool b=>some (D.bool (if neg=true then !a==b else a==b),s)
  |x,fh=>none:=
 fun tm s neg x y=>nd (aI.eq_13 tm s neg x y)
theorem L5 : ∀ (tm:Tm) (s:St) (neg:Bool) (ks:List Nat) (x y:X),
 aI (AO.eqs neg ks x y) tm s =
  match X.ev tm x,X.ev tm y with
  |D.agg a,D.agg b=>
   match kS ks a b with
   |some e=>some (D.bool (if neg=true then !e else e),s)
   |none=>none
  |x,fh=>none:=
 fun tm s neg ks x y=>nd (aI.eq_14 tm s neg ks x y)
theorem L6 : ∀ (tm:Tm) (s:St) (neg:Bool) (x y:X),
 aI (AO.Fg neg x y) tm s =
  match X.ev tm x,X.ev tm y with
  |D.dN,D.dN=>some (D.bool !neg,s)
  |D.ptr o off,D.dN=>some (D.bool neg,s)
  |D.dt row off,D.dN=>some (D.bool neg,s)
  |x,fh=>none:=
 fun tm s neg x y=>nd (aI.eq_15 tm s neg x y)
theorem L7 : ∀ (tm:Tm) (s:St) (op:UnOp) (x:X),
 aI (AO.un op x) tm s =
  match G8 op (X.ev tm x)with
  |some d=>some (d,s)
  |none=>none:=
 fun tm s op x=>nd (aI.eq_16 tm s op x)
theorem L8 : ∀ (tm:Tm) (s:St) (k:IntKind) (x:X),
 aI (AO.conv k x) tm s =
  match X.ev tm x with
  |D.int k_1 n=>some (D.int k (k.wrap n),s)
  |x=>none:=
 fun tm s k x=>nd (aI.eq_17 tm s k x)
theorem L9 : ∀ (tm:Tm) (s:St) (x:X),
 aI (AO.C8 x) tm s =
  match X.ev tm x with
  |D.slice g size rows=>
   match nQ rows with
   |some b=>some (D.str b,s)
   |none=>none
  |x=>none:=
 fun tm s x=>nd (aI.eq_18 tm s x)
theorem Ma : ∀ (tm:Tm) (s:St) (x:X),
 aI (AO.wV x) tm s =
  match X.ev tm x with
  |D.str l=>some (D.slice Tag.shared 1 (List.map (fun(c:UInt8)=> [D.int IntKind.u8 ↑c.toNat]) l),s)
  |x=>none:=
 fun tm s x=>nd (aI.eq_19 tm s x)
theorem Mb : ∀ (tm:Tm) (s:St) (size:Nat) (x:X) (lo hi:Option X),
 aI (AO.C9 size x lo hi) tm s =
  match X.ev tm x with
  | D.slice g z rows=>
   match sq (Option.map (fun(x:X)=>X.ev tm x) lo),
    sr (Option.map (fun(x:X)=>X.ev tm x) hi) rows.length with
   | some l,some h=>
    if(rows = []∨z=size)∧0≤l∧l≤h∧h≤ ↑rows.length then
     some
      (D.slice (if l=0 then g.cut (decide (h = ↑rows.length))else Tag.shared) z
       (List.drop l.toNat (List.take h.toNat rows)),
       s)
    else none
   |x,fh=>none
  |x=>match wg x (Option.map (fun(x:X)=>X.ev tm x) lo) (Option.map (fun(x:X)=>X.ev tm x) hi)with|some d=>some (d,s)|none=>none:=
 fun tm s size x lo hi=>nd (aI.eq_20 tm s size x lo hi)
theorem Md : ∀ (tm:Tm) (s:St) (x:X) (lo hi:Option X),
 aI (AO.G5 x lo hi) tm s =
  match X.ev tm x with
  | D.str t=>
   match sq (Option.map (fun(x:X)=>X.ev tm x) lo),sr (Option.map (fun(x:X)=>X.ev tm x) hi) t.length with
   |some l,some h=>
    if 0≤l∧l≤h∧h≤ ↑t.length then some (D.str (List.drop l.toNat (List.take h.toNat t)),s)else none
   |x,fh=>none
  |x=>none:=
 fun tm s x lo hi=>nd (aI.eq_21 tm s x lo hi)
theorem Me : ∀ (tm:Tm) (s:St) (x:X) (off:Nat),
 aI (AO.aq x off) tm s =
  match X.ev tm x with
  |D.ptr o k=>some (D.ptr o (k+off),s)
  |D.dt row k=>some (D.dt row (k+off),s)
  |x=>match Dc x off with|some d=>some (d,s)|none=>none:=
 fun tm s x off=>nd (aI.eq_22 tm s x off)
theorem Mf : ∀ (tm:Tm) (s:St) (x:X) (off:Nat) (agg:Bool) (size:Nat),
 aI (AO.BT x off agg size) tm s =
  match X.ev tm x with
  |D.agg cs=>
   match part cs off agg size with
   |some d=>some (d,s)
   |none=>none
  |x=>none:=
 fun tm s x off agg size=>nd (aI.eq_23 tm s x off agg size)
theorem Mg : ∀ (tm:Tm) (s:St) (x i:X) (size:Nat),
 aI (AO.cq x i size) tm s =
  match X.ev tm x,X.ev tm i with
  | D.slice g z rows,D.int k n=>
   if 0≤n∧z=size then
    match rows[n.toNat]? with
    |some row=>some (D.dt row 0,s)
    |none=>none
   else none
  |x,fh=>match wX x fh size with|some d=>some (d,s)|none=>none:=
 fun tm s x i size=>nd (aI.eq_24 tm s x i size)
theorem Mh : ∀ (tm:Tm) (s:St) (x i:X),
 aI (AO.zJ x i) tm s =
  match X.ev tm x,X.ev tm i with
  | D.str t,D.int k n=>
   if 0≤n then
    match t[n.toNat]? with
    |some c=>some (D.int IntKind.u8 ↑c.toNat,s)
    |none=>none
   else none
  |x,fh=>none:=
 fun tm s x i=>nd (aI.eq_25 tm s x i)
theorem Mi : ∀ (tm:Tm) (s:St) (x:X) (i:Nat),
 aI (AO.ext x i) tm s =
  match X.ev tm x with
  |D.tuple ds=>
   match ds[i]? with
   |some d=>some (d,s)
   |none=>none
  |x=>none:=
 fun tm s x i=>nd (aI.eq_26 tm s x i)
theorem Mj : ∀ (tm:Tm) (s:St) (x:X),
 aI (AO.uv x) tm s =
  match X.ev tm x with
  |D.str t=>some (D.int IntKind.i64 ↑t.length,s)
  |x=>none:=
 fun tm s x=>nd (aI.eq_27 tm s x)
theorem Mk : ∀ (tm:Tm) (s:St) (x:X),
 aI (AO.len x) tm s =
  match X.ev tm x with
  |D.slice g size rows=>some (D.int IntKind.i64 ↑rows.length,s)
  |x=>match Em x with|some d=>some (d,s)|none=>none:=
 fun tm s x=>nd (aI.eq_28 tm s x)
theorem Ml : ∀ (tm:Tm) (s:St) (size bytes:Nat) (x y:X),
 aI (AO.app size bytes x y) tm s =
  match X.ev tm x with
  |D.slice g z rows=>gZ size bytes (D.slice g z rows) (X.ev tm y) s
  |d=>zQ size bytes d (X.ev tm y) s:=
 fun tm s size bytes x y=>nd (aI.eq_29 tm s size bytes x y)
theorem Mm : ∀ (tm:Tm) (s:St) (isMax:Bool) (x y:X),
 aI (AO.mm isMax x y) tm s =
  match X.ev tm x,X.ev tm y with
  |D.int k a,D.int k' b=>
   if k=k' then some (D.int k (if isMax=true then if b > a then b else a else if b<a then b else a),s)
   else none
  |x,fh=>none:=
 fun tm s isMax x y=>nd (aI.eq_30 tm s isMax x y)
theorem Mn (tm:Tm) (s:St) (r:List D) (T:TypeId):aI (AO.sn (.dN::r) T) tm s=some (.ptr s.ah.length 0,{ah:=s.ah++ [.fb T s.ah.length::r],av:=s.av}):=nd rfl
theorem Mp (tm:Tm) (s:St) (x:X) (T:TypeId):aI (AO.zK x T) tm s =
 match (x.ev tm).row with
 |some (.dN::r)=>some (.ptr s.ah.length 0,{ah:=s.ah++ [.fb T s.ah.length::r],av:=s.av})
 |_=>none:=nd rfl
theorem Mq (tm:Tm) (s:St) (x y:X):aI (AO.apps x y) tm s =
 match y.ev tm with
 | .str l=>zO (x.ev tm) (.slice .shared 1 (l.map fun c=> [.int .u8 c.toNat])) s
 |_=>none:=nd rfl
theorem Mr (tm:Tm) (s:St) (x y:X):aI (AO.zL x y) tm s=zO (x.ev tm) (y.ev tm) s:=nd rfl
theorem Ms (tm:Tm) (s:St) (f:Nat) (xs:List X):aI (AO.tU f xs) tm s=some (.fS f (xs.map fun x=>x.ev tm),s):=nd rfl
theorem Mt (tm:Tm) (s:St):aI AO.tV tm s=some (.fI s.ah.length,{ah:=s.ah++ [[]],av:=s.av}):=nd rfl
theorem Mu (tm:Tm) (s:St) (m k v:X):aI (AO.xP m k v) tm s =
 match m.ev tm,k.ev tm,v.ev tm with
 | .fI o, .str key, .slice g z rows=>
  match s.ah[o]? with
  |some cs=>match we key (.slice g z rows) cs with|some jq=>some (.tuple [],{ah:=s.ah.set o jq,av:=s.av})|none=>none
  |none=>none
 |_,_,_=>none:=nd rfl
theorem Mv (tm:Tm) (s:St) (m k:X) (zero:D):aI (AO.vr m k zero) tm s =
 match m.ev tm,k.ev tm with
 | .fI o, .str key=>
  match s.ah[o]? with
  |some cs=>match xQ key zero cs with|some d=>some (d,s)|none=>none
  |none=>none
 |_,_=>none:=nd rfl
theorem Mw (tm:Tm) (s:St) (o:FO) (x y:X):aI (AO.ql o x y) tm s=match pV o (x.ev tm) (y.ev tm)with|some d=>some (d,s)|none=>none:=nd rfl
theorem Mx (tm:Tm) (s:St) (size bytes:Nat) (zero:List D) (l c:X):aI (AO.zM size bytes zero l c) tm s =
 match l.ev tm,c.ev tm with
 | .int .i64 n, .int .i64 m=>if n=m∧0≤n∧n*((bytes:Int)+1)≤bH then some (.dW size s.ah.length 0 n.toNat,{s with ah:=s.ah++ [.int .i64 ((0:Nat):Int)::(fK zero n.toNat).flatten]})else none
 |_,_=>none:=nd rfl
theorem HL (o:FO) (x y:X):(AO.ql o x y).core=false:=nd rfl
theorem HM (size bytes:Nat) (zero:List D) (l c:X):(AO.zM size bytes zero l c).core=true:=nd rfl
theorem HN (f:Nat) (xs:List X):(AO.tU f xs).core=false:=nd rfl
theorem HO:AO.tV.core=true:=nd rfl
theorem HP (m k v:X):(AO.xP m k v).core=true:=nd rfl
theorem HQ (m k:X) (zero:D):(AO.vr m k zero).core=false:=nd rfl
theorem Pr (n m f:Nat) (cs:List D):D.fg n m (.fS f cs) = .fS f (D.gf n m cs):=nd (by simp only[D.fg])
theorem Ps (n m:Nat) (o:Nat):D.fg n m (.fI o)=if o<n then .fI o else .junk:=nd (by simp only[D.fg])
theorem My (d:Option Nat) (g:Option (Nat×Bool)) (t:Nat) (xs:List X):(AI.jb d g t xs).dst=d:=nd rfl
theorem HR (x y:X):(AO.zL x y).core=true:=nd rfl
theorem HS (z:List D) (T:TypeId):(AO.sn z T).core=true:=nd rfl
theorem HT (x:X) (T:TypeId):(AO.zK x T).core=true:=nd rfl
theorem HU (x y:X):(AO.apps x y).core=true:=nd rfl
theorem Pt (n m:Nat) (v:Value):D.fg n m (.val v) = .val v:=nd (by simp only[D.fg])
theorem Pu (n m:Nat) (T:TypeId) (o:Nat):D.fg n m (.fb T o)=if o<n then .fb T o else .junk:=nd (by simp only[D.fg])
theorem R0 : ∀ (tm:Tm) (t:Nat),X.ev tm (X.s t)=tm.get t:=
 fun tm t=>nd (X.ev.eq_1 tm t)
theorem R3 : ∀ (tm:Tm) (d:D),X.ev tm (X.k d)=d:=
 fun tm d=>nd (X.ev.eq_2 tm d)
theorem Mz : ∀ (tm:Tm) (d:D) (t:Nat),tm.put (some t) d=tm.set t d:=
 fun tm d t=>nd (Tm.put.eq_1 tm d t)
theorem MA : ∀ (tm:Tm) (d:D),tm.put none d=tm:=
 fun tm d=>nd (Tm.put.eq_2 tm d)
theorem MB : ∀ (x:Nat) (fh:D),Tm.set [] x fh = [(x,fh)]:=
 fun x fh=>nd (Tm.set.eq_1 x fh)
theorem MC : ∀ (x:Nat) (fh:D) (k:Nat) (e:D) (r:List (Nat×D)),
 Tm.set ((k,e)::r) x fh=if k=x then(k,fh)::r else(k,e)::Tm.set r x fh:=
 fun x fh k e r=>nd (Tm.set.eq_2 x fh k e r)
theorem MD : ∀ (x:Nat),Tm.get [] x=D.junk:=
 fun x=>nd (Tm.get.eq_1 x)
theorem ME : ∀ (x k:Nat) (d:D) (r:List (Nat×D)),Tm.get ((k,d)::r) x=if k=x then d else Tm.get r x:=
 fun x k d r=>nd (Tm.get.eq_2 x k d r)
theorem Pv : ∀ (x:Nat),ml x [] = []:=
 fun x=>nd (ml.eq_1 x)
theorem Pw : ∀ (x:Nat) (d:D) (r:List D),ml x (d::r)=(x,d)::ml (x+1) r:=
 fun x d r=>nd (ml.eq_2 x d r)
theorem MF : ∀ (d:Option Nat) (g:Option (Nat×Bool)) (o:AO),(AI.op d g o).dst=d:=
 fun d g o=>nd (AI.dst.eq_1 d g o)
theorem MG : ∀ (d:Option Nat) (g:Option (Nat×Bool)) (f:Nat) (xs:List X),(AI.call d g f xs).dst=d:=
 fun d g f xs=>nd (AI.dst.eq_2 d g f xs)
theorem MH : ∀ (d:Option Nat) (g:Option (Nat×Bool)) (neg:Bool) (fh:X),(AI.nil d g neg fh).dst=d:=
 fun d g neg fh=>nd (AI.dst.eq_3 d g neg fh)
theorem R4 : ∀ (cs:List D) (off size:Nat),
 part cs off true size=if off+size≤cs.length then some (D.agg (List.take size (List.drop off cs)))else none:=
 fun cs off size=>nd (part.eq_1 cs off size)
theorem R5 : ∀ (cs:List D) (off size:Nat),part cs off false size=cs[off]? :=
 fun cs off size=>nd (part.eq_2 cs off size)
theorem MI : ∀ (cs:List D) (off:Nat) (r:List D),
 gY cs off r=List.take off cs++r++List.drop (off+r.length) cs:=
 fun cs off r=>nd (gY.eq_1 cs off r)
theorem Px : ∀ (cells:List D),qm cells [] = some cells:=
 fun cells=>nd (qm.eq_1 cells)
theorem Py : ∀ (cells:List D) (off size:Nat) (d:D) (rest:List (Nat×Nat×D)),
 qm cells ((off,size,d)::rest) =
  match d.row with
  |none=>none
  |some r=>if r.length=size∧off+size≤cells.length then qm (gY cells off r) rest else none:=
 fun cells off size d rest=>nd (qm.eq_2 cells off size d rest)
theorem HV : ∀ (size:Nat) (rows:List (List D)),jJ size rows [] = some rows:=
 fun size rows=>nd (jJ.eq_1 size rows)
theorem HW : ∀ (size:Nat) (rows:List (List D)) (i:Nat) (d:D) (rest:List (Nat×D)),
 jJ size rows ((i,d)::rest) =
  match d.row with
  |none=>none
  |some r=>if r.length=size∧i<rows.length then jJ size (rows.set i r) rest else none:=
 fun size rows i d rest=>nd (jJ.eq_2 size rows i d rest)
theorem HX : ∀ (zero:List D),fK zero 0 = []:=
 fun zero=>nd (fK.eq_1 zero)
theorem HY : ∀ (zero:List D) (i:Nat),fK zero i.succ=zero::fK zero i:=
 fun zero i=>nd (fK.eq_2 zero i)
theorem R6 : ∀ (op:BinOp) (k:IntKind) (a:Int) (k':IntKind) (b:Int),
 wc op (D.int k a) (D.int k' b)=if k=k' then fU op k a b else none:=
 fun op k a k' b=>nd (wc.eq_1 op k a k' b)
theorem R7 : ∀ (op:BinOp) (a b:List UInt8),wc op (D.str a) (D.str b)=nH op a b:=
 fun op a b=>nd (wc.eq_2 op a b)
theorem MJ : ∀ (k:IntKind) (a b:Int),fU BinOp.add k a b=some (D.int k (k.wrap (a+b))):=
 fun k a b=>nd (fU.eq_1 k a b)
theorem MK : ∀ (k:IntKind) (a b:Int),fU BinOp.sub k a b=some (D.int k (k.wrap (a - b))):=
 fun k a b=>nd (fU.eq_2 k a b)
theorem MM : ∀ (k:IntKind) (a b:Int),fU BinOp.mul k a b=some (D.int k (k.wrap (a*b))):=
 fun k a b=>nd (fU.eq_3 k a b)
theorem MN : ∀ (k:IntKind) (a b:Int),
 fU BinOp.quo k a b=if b=0 then none else some (D.int k (k.wrap (a.tdiv b))):=
 fun k a b=>nd (fU.eq_4 k a b)
theorem MO : ∀ (k:IntKind) (a b:Int),fU BinOp.rem k a b=if b=0 then none else some (D.int k (a.tmod b)):=
 fun k a b=>nd (fU.eq_5 k a b)
theorem MP : ∀ (k:IntKind) (a b:Int),fU BinOp.eql k a b=some (D.bool (a==b)):=
 fun k a b=>nd (fU.eq_6 k a b)
theorem MQ : ∀ (k:IntKind) (a b:Int),fU BinOp.neq k a b=some (D.bool (a != b)):=
 fun k a b=>nd (fU.eq_7 k a b)
theorem MR : ∀ (k:IntKind) (a b:Int),fU BinOp.lss k a b=some (D.bool (decide (a<b))):=
 fun k a b=>nd (fU.eq_8 k a b)
theorem MS : ∀ (k:IntKind) (a b:Int),fU BinOp.leq k a b=some (D.bool (decide (a≤b))):=
 fun k a b=>nd (fU.eq_9 k a b)
theorem JF : ∀ (k:IntKind) (a b:Int),fU BinOp.gtr k a b=some (D.bool (decide (a > b))):=
 fun k a b=>nd (fU.eq_10 k a b)
theorem JG : ∀ (k:IntKind) (a b:Int),fU BinOp.geq k a b=some (D.bool (decide (a≥b))):=
 fun k a b=>nd (fU.eq_11 k a b)
theorem MT : ∀ (a b:List UInt8),
 nH BinOp.add a b=if a.length+b.length≤bH then some (D.str (a++b))else none:=
 fun a b=>nd (nH.eq_1 a b)
theorem MU : ∀ (a b:List UInt8),nH BinOp.eql a b=some (D.bool (a==b)):=
 fun a b=>nd (nH.eq_2 a b)
theorem MV : ∀ (a b:List UInt8),nH BinOp.neq a b=some (D.bool !a==b):=
 fun a b=>nd (nH.eq_3 a b)
theorem MW : ∀ (a b:List UInt8),nH BinOp.lss a b=some (D.bool (bytesLess a b)):=
 fun a b=>nd (nH.eq_4 a b)
theorem WQ : ∀ (k:IntKind) (n:Int),G8 UnOp.neg (D.int k n)=some (D.int k (k.wrap (0 - n))):=
 fun k n=>nd (G8.eq_1 k n)
theorem WR : ∀ (b:Bool),G8 UnOp.not (D.bool b)=some (D.bool !b):=
 fun b=>nd (G8.eq_2 b)
theorem MX : ∀ (k:IntKind) (a:Int) (k':IntKind) (b:Int),
 mz 0 (D.int k a) (D.int k' b)=if k=k' then some (a==b)else none:=
 fun k a k' b=>nd (mz.eq_1 k a k' b)
theorem MY : ∀ (a b:Bool),mz 1 (D.bool a) (D.bool b)=some (a==b):=
 fun a b=>nd (mz.eq_2 a b)
theorem MZ : ∀ (a b:List UInt8),mz 2 (D.str a) (D.str b)=some (a==b):=
 fun a b=>nd (mz.eq_3 a b)
theorem JH:kS [] [] [] = some true:=
 nd (kS.eq_1)
theorem JI : ∀ (k:Nat) (ks:List Nat) (UR:D) (xs:List D) (y:D) (ys:List D),
 kS (k::ks) (UR::xs) (y::ys) =
  match mz k UR y with
  |none=>none
  |some true=>kS ks xs ys
  |some false=>some false:=
 fun k ks UR xs y ys=>nd (kS.eq_2 k ks UR xs y ys)
theorem WS:sq none=some 0:=
 nd (sq.eq_1)
theorem WT : ∀ (k:IntKind) (n:Int),sq (some (D.int k n))=some n:=
 fun k n=>nd (sq.eq_2 k n)
theorem WU : ∀ (len:Nat),sr none len=some ↑len:=
 fun len=>nd (sr.eq_1 len)
theorem WV : ∀ (len:Nat) (k:IntKind) (n:Int),sr (some (D.int k n)) len=some n:=
 fun len k n=>nd (sr.eq_2 len k n)
theorem JK : ∀ (zero:List D),(AO.alloc zero).core=true:=
 fun zero=>nd (AO.core.eq_1 zero)
theorem JL : ∀ (fh:X),(AO.box fh).core=true:=
 fun fh=>nd (AO.core.eq_2 fh)
theorem JM : ∀ (zero:List D) (size n:Nat) (parts:List (Nat×X)),(AO.uu zero size n parts).core=true:=
 fun zero size n parts=>nd (AO.core.eq_3 zero size n parts)
theorem JN : ∀ (fh:X),(AO.zI fh).core=true:=
 fun fh=>nd (AO.core.eq_4 fh)
theorem JO : ∀ (p fh:X) (size:Nat),(AO.store p fh size).core=true:=
 fun p fh size=>nd (AO.core.eq_5 p fh size)
theorem JP : ∀ (size bytes:Nat) (fh y:X),(AO.app size bytes fh y).core=true:=
 fun size bytes fh y=>nd (AO.core.eq_6 size bytes fh y)
theorem JQ : ∀ (val:Nat) (zero:List D),(AI.op (some val) none (AO.alloc zero)).kind=AK.alloc:=
 fun val zero=>nd (AI.kind.eq_1 val zero)
theorem JR : ∀ (zero:List D),(AO.alloc zero).kind=AK.core:=
 fun zero=>nd (AO.kind.eq_1 zero)
theorem JS : ∀ (fh:X),(AO.box fh).kind=AK.core:=
 fun fh=>nd (AO.kind.eq_2 fh)
theorem JT : ∀ (zero:List D) (size n:Nat) (parts:List (Nat×X)),(AO.uu zero size n parts).kind=AK.core:=
 fun zero size n parts=>nd (AO.kind.eq_3 zero size n parts)
theorem JU : ∀ (fh:X),(AO.zI fh).kind=AK.core:=
 fun fh=>nd (AO.kind.eq_4 fh)
theorem JV : ∀ (p fh:X) (size:Nat),(AO.store p fh size).kind=AK.core:=
 fun p fh size=>nd (AO.kind.eq_5 p fh size)
theorem JW : ∀ (size bytes:Nat) (fh y:X),(AO.app size bytes fh y).kind=AK.core:=
 fun size bytes fh y=>nd (AO.kind.eq_6 size bytes fh y)
theorem JX : ∀ (fh:X) (agg:Bool) (size:Nat),(AO.load fh agg size).kind=AK.load:=
 fun _ _ _=>nd rfl
theorem M3:gv AK.core=true:=
 nd (gv.eq_1)
theorem M4:gv AK.alloc=true:=
 nd (gv.eq_2)
theorem M5 : ∀ (i:AI) (tm:Tm) (d:D),nK i tm d [] = True:=
 fun i tm d=>nd (nK.eq_1 i tm d)
theorem M6 : ∀ (i:AI) (tm:Tm) (d:D) (s:St) (r:List St),
 nK i tm d (s::r)=(jD i tm s=some d∧nK i tm d r):=
 fun i tm d s r=>nd (nK.eq_2 i tm d s r)
theorem WW : ∀ (tm:Tm) (s:St) (dst:Option Nat) (o:AO),
 jD (AI.op dst none o) tm s=Option.map (fun(x:D×St)=>x.fst) (aI o tm s):=
 fun tm s dst o=>nd (jD.eq_1 tm s dst o)
theorem WX : ∀ (tm:Tm) (s:St) (dst:Option Nat) (t:Nat) (want:Bool) (o:AO),
 jD (AI.op dst (some (t,want)) o) tm s =
  match tm.get t with
  |D.bool b=>if b=want then Option.map (fun(x:D×St)=>x.fst) (aI o tm s)else some (D.tuple [])
  |D.tuple vs=>some (D.tuple [])
  |x=>none:=
 fun tm s dst t want o=>nd (jD.eq_2 tm s dst t want o)
theorem JY : ∀ (is:List AI),mE is [] = some []:=
 fun is=>nd (mE.eq_1 is)
theorem JZ : ∀ (is:List AI) (q b:Nat) (r:List (Nat×Nat)),
 mE is ((q,b)::r) =
  match is[q]?,mE is r with
  |some ai,some l=>some ((ai,b)::l)
  |x,fh=>none:=
 fun is q b r=>nd (mE.eq_2 is q b r)
theorem WY : ∀ (tm:Tm) (n m:Nat),vF tm n m [] = True:=
 fun tm n m=>nd (vF.eq_1 tm n m)
theorem WZ : ∀ (tm:Tm) (n m k:Nat) (d:D) (r:List (Nat×D)),
 vF tm n m ((k,d)::r)=(Wk (D.fg n m (tm.get k)) d∧vF tm n m r):=
 fun tm n m k d r=>nd (vF.eq_2 tm n m k d r)
theorem R8 : ∀ (n m o off:Nat),D.fg n m (D.ptr o off)=if o<n then D.ptr o off else D.junk:=
 fun n m o off=>nd (D.fg.eq_1 n m o off)
theorem R9 : ∀ (n m:Nat) (row:List D) (off:Nat),D.fg n m (D.dt row off)=D.dt (D.gf n m row) off:=
 fun n m row off=>nd (D.fg.eq_2 n m row off)
theorem Sb : ∀ (n m:Nat) (g:Tag) (z:Nat) (rows:List (List D)),
 D.fg n m (D.slice g z rows)=D.slice (Tag.fg m g) z (D.kg n m rows):=
 fun n m g z rows=>nd (D.fg.eq_3 n m g z rows)
theorem Sc : ∀ (n m:Nat) (cs:List D),D.fg n m (D.agg cs)=D.agg (D.gf n m cs):=
 fun n m cs=>nd (D.fg.eq_4 n m cs)
theorem Sd : ∀ (n m:Nat) (ds:List D),D.fg n m (D.tuple ds)=D.tuple (D.gf n m ds):=
 fun n m ds=>nd (D.fg.eq_5 n m ds)
theorem Se : ∀ (n m:Nat),D.fg n m D.junk=D.junk:=
 fun n m=>nd (D.fg.eq_6 n m)
theorem Sf : ∀ (n m:Nat) (k:IntKind) (fh:Int),D.fg n m (D.int k fh)=D.int k fh:=
 fun n m k fh=>nd (D.fg.eq_7 n m k fh)
theorem Sg : ∀ (n m:Nat) (b:Bool),D.fg n m (D.bool b)=D.bool b:=
 fun n m b=>nd (D.fg.eq_8 n m b)
theorem Si : ∀ (n m:Nat) (l:List UInt8),D.fg n m (D.str l)=D.str l:=
 fun n m l=>nd (D.fg.eq_9 n m l)
theorem Pz : ∀ (n m:Nat),D.fg n m D.dN=D.dN:=
 fun n m=>nd (D.fg.eq_10 n m)
theorem PA : ∀ (n m:Nat),D.gf n m [] = []:=
 fun n m=>nd (D.gf.eq_1 n m)
theorem PB : ∀ (n m:Nat) (d:D) (r:List D),D.gf n m (d::r)=D.fg n m d::D.gf n m r:=
 fun n m d r=>nd (D.gf.eq_2 n m d r)
theorem PC : ∀ (n m:Nat),D.kg n m [] = []:=
 fun n m=>nd (D.kg.eq_1 n m)
theorem PD : ∀ (n m:Nat) (d:List D) (r:List (List D)),D.kg n m (d::r)=D.gf n m d::D.kg n m r:=
 fun n m d r=>nd (D.kg.eq_2 n m d r)
theorem M7 : ∀ (m t:Nat) (y:Bool),Tag.fg m (Tag.tok t y)=if t<m then Tag.tok t y else Tag.shared:=
 fun _ _ _=>nd rfl
theorem M8 : ∀ (s:St) (n m:Nat),
 s.cut n m = {ah:=List.map (D.gf n m) (List.take n s.ah),av:=List.take m s.av}:=
 fun s n m=>nd (St.cut.eq_1 s n m)
theorem Sj : ∀ (d:D),aS [d] = d:=
 fun d=>nd (aS.eq_1 d)
theorem Sk (size bytes t:Nat) (rows:List (List D)) (g:Tag) (r:List D) (s:St):gZ size bytes (.slice (.tok t) size rows) (.slice g size [r]) s =
 if(rows.length+1)*(bytes+1)≤bH∧s.av[t]? = some (some rows.length)then some (.slice (.tok t) size (rows++ [r]),⟨s.ah,s.av.set t (some (rows.length+1))⟩)else none:=by
 simp only[gZ,List.length_singleton]
 by_cases h1:(rows.length+1)*(bytes+1)≤bH<;>by_cases h2:s.av[t]? = some (some rows.length)<;>simp[h1,h2]
theorem oz {size bytes t:Nat} {rows new:List (List D)} {g:Tag} {s:St} (h1:(rows.length+new.length)*(bytes+1)≤bH) (h2:s.av[t]? = some (some rows.length)) :
 gZ size bytes (.slice (.tok t) size rows) (.slice g size new) s=some (.slice (.tok t) size (rows++new),⟨s.ah,s.av.set t (some (rows.length+new.length))⟩):=by
 cases new with
 | nil=>
  have:s.av.set t (some rows.length)=s.av:=by
   apply List.ext_getElem?
   intro i
   rw[List.getElem?_set]
   split
   ·rename_i hi;subst hi;rw[h2,if_pos (List.getElem?_eq_some_iff.1 h2).1]
   ·rfl
  simp only[List.length_nil,Nat.add_zero]at h1
  simp[gZ,h1,this]
 |cons x l=>
  simp only[gZ,h1,h2]
  simp
theorem PE (size bytes z:Nat) (g:Tag) (r:List D) (s:St):gZ size bytes (.slice .full z []) (.slice g size [r]) s =
 if bytes+1≤bH then some (.slice (.tok s.av.length) size [r],⟨s.ah,s.av++ [some 1]⟩)else none:=by
 simp[gZ]
theorem W0 {P:Program} {B:fM} {nt:Nat} (ac:AC) (Q:Exit→Tm→St→Prop) (tm:Tm) (s:St):ya P B nt ac Q .normal tm s=Q .normal tm s:=nd rfl
theorem W1 {P:Program} {B:fM} {nt:Nat} (ac:AC) (Q:Exit→Tm→St→Prop) (tm:Tm) (s:St):ya P B nt ac Q .ret tm s=Q .ret tm s:=nd rfl
theorem W2 {P:Program} {B:fM} {nt:Nat} (ac:AC) (Q:Exit→Tm→St→Prop) (tm:Tm) (s:St) (i:Nat):ya P B nt ac Q (.exit i) tm s=Q (.exit i) tm s:=nd rfl
theorem W3 (m:Nat):Tag.fg m .full = .full:=nd rfl
theorem PF (m:Nat):Tag.fg m .shared = .shared:=nd rfl
theorem ady {P:Program} (K:Tm→St→Prop) (tm:Tm) (s:St):j9 P [] K tm s=K tm s:=nd rfl
theorem s_op {P:Program} (dst:Option Nat) (o:AO) (r:List AI) (K:Tm→St→Prop) (tm:Tm) (s:St) :
 j9 P (.op dst none o::r) K tm s=(match aI o tm s with|some (d,s')=>j9 P r K (tm.put dst d) s'|none=>False):=nd rfl
def KJ (P:Program) (r:List AI) (K:Tm→St→Prop) (tm:Tm) (dst:Option Nat) (d:D) (s:St):Prop:=j9 P r K (tm.put dst d) s
theorem ahR {P:Program} (r:List AI) (K:Tm→St→Prop) (tm:Tm) (dst:Option Nat) (d:D) (s:St):KJ P r K tm dst d s=j9 P r K (tm.put dst d) s:=nd rfl
theorem s_call {P:Program} (dst:Option Nat) (f:Nat) (xs:List X) (r:List AI) (K:Tm→St→Prop) (tm:Tm) (s:St) :
 j9 P (.call dst none f xs::r) K tm s=CL false P f (xs.map (·.ev tm)) s (KJ P r K tm dst):=nd rfl
def NJ (P:Program) (dst:Option Nat) (neg:Bool) (x:D) (r:List AI) (K:Tm→St→Prop) (tm:Tm) (s:St):Prop:=
 match x with
 | .slice _ _ rows=>∀ b:Bool,(rows≠ []→b=false)→j9 P r K (tm.put dst (.bool (if neg then !b else b))) s
 |_=>False
theorem Zw {P:Program} (dst:Option Nat) (neg:Bool) (x:X) (r:List AI) (K:Tm→St→Prop) (tm:Tm) (s:St) :
 j9 P (.nil dst none neg x::r) K tm s=NJ P dst neg (x.ev tm) r K tm s:=nd rfl
theorem W4 {P:Program} (dst:Option Nat) (neg:Bool) (g:Tag) (z:Nat) (d:List D) (l:List (List D)) (r:List AI) (K:Tm→St→Prop) (tm:Tm) (s:St) :
 NJ P dst neg (.slice g z (d::l)) r K tm s=j9 P r K (tm.put dst (.bool neg)) s:=by
 simp only[NJ,ne_eq,reduceCtorEq,not_false_eq_true,true_imp_iff,eq_iff_iff]
 refine⟨fun h=>by have:=h false rfl;cases neg<;>exact this,fun h b hb=>?_⟩
 subst hb;cases neg<;>exact h
theorem Sl {P:Program} {dst:Option Nat} {neg:Bool} {g:Tag} {z:Nat} {l:List (List D)} {r:List AI} {K:Tm→St→Prop} {tm:Tm} {s:St}
 (h1:l = []→j9 P r K (tm.put dst (.bool (!neg))) s) (h2:j9 P r K (tm.put dst (.bool neg)) s):NJ P dst neg (.slice g z l) r K tm s:=by
 intro b hb
 cases b with
 |false=>cases neg<;>exact h2
 |true=>
  have:l = []:=Decidable.byContradiction fun h=>by cases hb h
  cases neg<;>exact h1 this
theorem adA {P:Program} (dst:Option Nat) (t:Nat) (w:Bool) (o:AO) (r:List AI) (K:Tm→St→Prop) (tm:Tm) (s:St) :
 j9 P (.op dst (some (t,w)) o::r) K tm s = @GB (tm.get t) w ⟨(j9 P (.op dst none o::r) K tm s),(j9 P r K (tm.put dst (.tuple [])) s)⟩:=nd rfl
def CV (P:Program) (x:D) (adB:List D) (s:St) (K:D→St→Prop):Prop:=
 match x with
 | .fS f np=>enters P f=true∧CL false P f (adB++np) s K
 |_=>False
theorem W5 {P:Program} (dst:Option Nat) (t:Nat) (xs:List X) (r:List AI) (K:Tm→St→Prop) (tm:Tm) (s:St) :
 j9 P (.jb dst none t xs::r) K tm s=CV P (tm.get t) (xs.map (·.ev tm)) s (KJ P r K tm dst):=nd rfl
theorem CV.use {P:Program} {f:Nat} {np adB:List D} {s s':St} {d:D} {K:D→St→Prop} (he:enters P f=true) (h:aG P f (adB++np) s d s') (k:K d s'):CV P (.fS f np) adB s K:=⟨he,CU h k⟩
theorem Sn {P:Program} (dst:Option Nat) (t:Nat) (w:Bool) (u:Nat) (xs:List X) (r:List AI) (K:Tm→St→Prop) (tm:Tm) (s:St) :
 j9 P (.jb dst (some (t,w)) u xs::r) K tm s = @GB (tm.get t) w ⟨(j9 P (.jb dst none u xs::r) K tm s),(j9 P r K (tm.put dst (.tuple [])) s)⟩:=nd rfl
theorem W6 {P:Program} (dst:Option Nat) (t:Nat) (w:Bool) (f:Nat) (xs:List X) (r:List AI) (K:Tm→St→Prop) (tm:Tm) (s:St) :
 j9 P (.call dst (some (t,w)) f xs::r) K tm s = @GB (tm.get t) w ⟨(j9 P (.call dst none f xs::r) K tm s),(j9 P r K (tm.put dst (.tuple [])) s)⟩:=nd rfl
theorem Zy {P:Program} (dst:Option Nat) (t:Nat) (w:Bool) (neg:Bool) (x:X) (r:List AI) (K:Tm→St→Prop) (tm:Tm) (s:St) :
 j9 P (.nil dst (some (t,w)) neg x::r) K tm s = @GB (tm.get t) w ⟨(j9 P (.nil dst none neg x::r) K tm s),(j9 P r K (tm.put dst (.tuple [])) s)⟩:=nd rfl
theorem ahS (b:Bool) (A C:Prop) : @GB (.bool b) true ⟨A,C⟩ = @CB (.bool b) ⟨A,C⟩:=nd rfl
theorem ahT (b:Bool) (A C:Prop) : @GB (.bool b) false ⟨A,C⟩ = @CB (.bool b) ⟨C,A⟩:=by
 cases b<;>simp[GB,CB,GJ,tZ]
theorem ahU (l:List D) (w:Bool) (A C:Prop) : @GB (.tuple l) w ⟨A,C⟩=C:=nd rfl
theorem adC {P:Program} {K:Tm→St→Prop} (bA:List St) (tm:Tm) (s:St):fY P K [] bA tm s=K tm s:=nd rfl
def OJ (P:Program) (o:AO) (dst:Option Nat) (b:Nat) (r:List (AI×Nat)) (K:Tm→St→Prop) (bA:List St) (tm:Tm) (s:St):Bool→Prop
 |true=>match aI o tm s with|some (d,s')=>fY P K r (s::bA) (tm.put dst d) s'|none=>False
 |false=>match aI o tm s with|some (d,_)=>nK (.op dst none o) tm d (bA.take b)∧fY P K r bA (tm.put dst d) s|none=>False
theorem ahW {P:Program} {K:Tm→St→Prop} (dst:Option Nat) (o:AO) (b:Nat) (r:List (AI×Nat)) (bA:List St) (tm:Tm) (s:St) :
 fY P K ((.op dst none o,b)::r) bA tm s=OJ P o dst b r K bA tm s o.core:=by
 simp only[fY,mF]
 cases o.core<;>rfl
theorem ahX {P:Program} (o:AO) (dst:Option Nat) (b:Nat) (r:List (AI×Nat)) (K:Tm→St→Prop) (bA:List St) (tm:Tm) (s:St) :
 OJ P o dst b r K bA tm s true=match aI o tm s with|some (d,s')=>fY P K r (s::bA) (tm.put dst d) s'|none=>False:=nd rfl
theorem ahY {P:Program} (o:AO) (dst:Option Nat) (b:Nat) (r:List (AI×Nat)) (K:Tm→St→Prop) (bA:List St) (tm:Tm) (s:St) :
 OJ P o dst b r K bA tm s false=match aI o tm s with|some (d,_)=>nK (.op dst none o) tm d (bA.take b)∧fY P K r bA (tm.put dst d) s|none=>False:=nd rfl
theorem adD {P:Program} {K:Tm→St→Prop} (dst:Option Nat) (t:Nat) (w:Bool) (o:AO) (b:Nat) (r:List (AI×Nat)) (bA:List St) (tm:Tm) (s:St) :
 fY P K ((.op dst (some (t,w)) o,b)::r) bA tm s = @GB (tm.get t) w ⟨(fY P K ((.op dst none o,b)::r) bA tm s),(fY P K r (if o.core then s::bA else bA) (tm.put dst (.tuple [])) s)⟩:=by
 simp only[GB,fY,mF]
 cases o.core<;>rfl
def KG (P:Program) (K:Tm→St→Prop) (r:List (AI×Nat)) (bA:List St) (tm:Tm) (dst:Option Nat) (d:D) (s:St):Prop:=fY P K r bA (tm.put dst d) s
theorem ahZ {P:Program} (K:Tm→St→Prop) (r:List (AI×Nat)) (bA:List St) (tm:Tm) (dst:Option Nat) (d:D) (s:St):KG P K r bA tm dst d s=fY P K r bA (tm.put dst d) s:=nd rfl
theorem g_call {P:Program} {K:Tm→St→Prop} (dst:Option Nat) (f:Nat) (xs:List X) (b:Nat) (r:List (AI×Nat)) (bA:List St) (tm:Tm) (s:St) :
 fY P K ((.call dst none f xs,b)::r) bA tm s=CL true P f (xs.map (·.ev tm)) s (KG P K r (s::bA) tm dst):=nd rfl
theorem W7 {P:Program} {K:Tm→St→Prop} (dst:Option Nat) (t:Nat) (w:Bool) (f:Nat) (xs:List X) (b:Nat) (r:List (AI×Nat)) (bA:List St) (tm:Tm) (s:St) :
 fY P K ((.call dst (some (t,w)) f xs,b)::r) bA tm s = @GB (tm.get t) w ⟨(fY P K ((.call dst none f xs,b)::r) bA tm s),(fY P K r (s::bA) (tm.put dst (.tuple [])) s)⟩:=nd rfl
class Ok (p:Prop):Prop where
 out:p
instance:Ok True:=⟨trivial⟩
instance {p q:Prop} [Ok p] [Ok q] : Ok (p∧q):=⟨⟨Ok.out,Ok.out⟩⟩
instance {α:Type} (a:α):Ok (a=a):=⟨rfl⟩
instance (d:D):Ok (Wk d .junk):=⟨Wk.junk d⟩
instance {l l':List D} [Ok (iZ l l')] : Ok (Wk (.tuple l) (.tuple l')):=⟨Wk.tuple Ok.out⟩
instance {l l':List D} [Ok (iZ l l')] : Ok (Wk (.agg l) (.agg l')):=⟨Wk.agg Ok.out⟩
instance {g:Tag} {z:Nat} {l l':List (List D)} [Ok (gk l l')] : Ok (Wk (.slice g z l) (.slice g z l')):=⟨Wk.rows Ok.out⟩
instance {g:Tag} {z:Nat} {l l':List (List D)} [Ok (gk l l')] : Ok (Wk (.slice g z l) (.slice .shared z l')):=⟨Wk.slice Ok.out⟩
instance (z z':Nat):Ok (Wk (.slice .full z []) (.slice .full z' [])):=⟨Wk.ahG z z'⟩
instance (g:Tag) (z z':Nat):Ok (Wk (.slice g z []) (.slice .shared z' [])):=⟨Wk.nil g z z'⟩
instance (d:D):Ok (Wk d d):=⟨Wk.refl d⟩
instance:Ok (iZ [] []):=⟨.nil⟩
instance {d d':D} {l l':List D} [Ok (Wk d d')] [Ok (iZ l l')] : Ok (iZ (d::l) (d'::l')):=⟨.cons Ok.out Ok.out⟩
instance (l:List D):Ok (iZ l l):=⟨iZ.refl l⟩
instance:Ok (gk [] []):=⟨.nil⟩
instance {d d':List D} {l l':List (List D)} [Ok (iZ d d')] [Ok (gk l l')] : Ok (gk (d::l) (d'::l')):=⟨.cons Ok.out Ok.out⟩
instance {a a' b b':List (List D)} [Ok (gk a a')] [Ok (gk b b')] : Ok (gk (a++b) (a'++b')):=⟨gk.append Ok.out Ok.out⟩
instance (l:List (List D)):Ok (gk l l):=⟨gk.refl l⟩
theorem bs:(∀ b,(true ||b)=true)∧(∀ b,(false ||b)=b)∧(∀ b,(b ||true)=true)∧(∀ b,(b ||false)=b)∧(∀ b,(true && b)=b)∧(∀ b,(false && b)=false)∧(∀ b,(b && true)=b)∧(∀ b,(b && false)=false)∧
 (!true)=false∧(!false)=true∧(∀ b,(!!b)=b)∧((false=true)=False)∧(∀ (α β:Type) (a:α) (f:α→Option β),(some a).bind f=f a)∧
 (∀ (α β γ:Type) (x:Option α) (f:α→Option β) (g:β→Option γ),(x.bind f).bind g=x.bind fun y=>(f y).bind g):=
 ⟨Bool.true_or,Bool.false_or,Bool.or_true,Bool.or_false,Bool.true_and,Bool.false_and,Bool.and_true,Bool.and_false,rfl,rfl,Bool.not_not,by simp,fun _ _ _ _=>rfl,fun _ _ _ x f g=>Option.bind_assoc x f g⟩
attribute [go_sem] Zt ahO ahP ady s_op ahR s_call Zw W4 adA W6 Zy ahS ahT ahU adC ahW ahX ahY adD ahZ g_call W7 AO.core AI.kind AO.kind gv
attribute [go_sem] Mw Mx HL HM W5 Sn Ms Mt Mu Mv HN HO HP HQ Pr Ps My WE RO
attribute [go_sem] Mr HR Mn Mp Mq HS HT HU Pt Pu WD O8 Wz RL WA RM WB RN O7 WC RP LZ RQ
attribute [go_sem] Pf Ph Pj Pk Pl Pn Po Pp Pq L1 L2 L3 L4 L5 L6 L7 L8 L9 Ma Mb Md Me Mf Mg Mh Mi Mj Mk Ml Mm R0 R3 Mz MA MB MC MD ME Pv Pw MF MG MH R4 R5 MI Px Py HV HW HX HY R6 R7 MJ MK MM MN MO MP MQ MR MS JF JG MT MU MV MW WQ WR MX MY MZ JH JI WS WT WU WV JK JL JM JN JO JP JQ JR JS JT JU JV JW JX M3 M4 M5 M6 WW WX JY JZ WY WZ R8 R9 Sb Sc Sd Se Sf Sg Si Pz PA PB PC PD M7 M8 Sj Sk PE W3 PF W0 W1 W2
attribute [go_sem] List.map_cons List.map_nil List.getElem?_cons_zero List.getElem?_cons_succ List.length_cons List.length_nil List.set_cons_zero List.set_cons_succ List.take_succ_cons List.take_zero List.take_nil List.drop_succ_cons List.drop_zero List.drop_nil List.cons_append List.nil_append List.append_nil Nat.zero_add Nat.add_zero Option.map_some Option.map_none
attribute [go_sem] Bool.not_false Bool.not_true List.length_map List.getElem?_map Int.toNat_natCast Int.natCast_nonneg Int.toNat_zero and_self and_true true_and
attribute [go_sem_proc ↓] reduceIte
attribute [go_sem_proc] Int.reduceLE reduceCtorEq Nat.reduceEqDiff Nat.reduceLeDiff Nat.reduceAdd Nat.reduceMul Nat.reduceSub Nat.reduceLT
theorem bm {b:Bool} {A C:Prop} (h1:b=true→A) (h:b=true:=by assumption) : @CB (.bool b) ⟨A,C⟩:=Zu h h1
theorem bn {b:Bool} {A C:Prop} (h1:b=false→C) (h:b=false:=by assumption) : @CB (.bool b) ⟨A,C⟩:=Zv h h1
theorem bo {b:Bool} {A C:Prop} (h1:b=true→A) (h2:b=false→C) : @CB (.bool b) ⟨A,C⟩:=⟨h1,h2⟩
theorem iJ {a b:Prop} (x:a) (y:b):a∧b:=⟨x,y⟩
theorem bC {α:Type _} (a b:α):(some a=some b)=(a=b):=Option.some.injEq a b
theorem bD {α:Sort _} {p:α→Prop} {a:α} : (∃ x,a=x∧p x)↔p a:=exists_eq_left'
theorem B7 {n m:Nat} (h:Nat.ble n m=true):n≤m:=Nat.le_of_ble_eq_true h
theorem aE {n m:Nat} {res:List (Nat×Option (Bool×Nat))} {d:D} {s':St} {e:Exit} {tm:Tm} {s:St} {Q:Exit→Tm→St→Prop} (hQ:ph n m res d s'=Q) (h : ∃ l,aR res tm s=some l∧Wk ((aS l).fg n m) d∧gk (s.cut n m).ah s'.ah∧(s.cut n m).av=s'.av) (he:e = .ret∨e = .normal:=by first|exact .inl rfl|exact .inr rfl):Q e tm s:=by cases he with|inl x=>cases x;exact adw hQ h|inr x=>cases x;exact adx hQ h
theorem cb {p:Prop} (h:p:=by repeat' (first|exact Ok.out|with_reducible refine iJ ?_ ?_|(simp;done))):p:=h
theorem cv {p:Prop} (h:p:=by repeat' (first|exact Ok.out|with_reducible refine iJ ?_ ?_)):p:=h
theorem fV {p:Prop} (h:p:=by(try cases h);simp only[aR,aS,bC,bD,go_sem,hD,hY,hZ,gA];repeat' (first|exact Ok.out|with_reducible refine iJ ?_ ?_|(simp;done))):p:=h
theorem bg {p:Prop} (h:p:=by simp only[aR,aS,bC,bD,go_sem,hD,hY,hZ,gA];repeat' (first|exact Ok.out|with_reducible refine iJ ?_ ?_|(simp;done))):p:=h
theorem lX_ {p:Prop} (h:p:=by simp only[go_sem,hD,hY,hZ,gA];repeat' (first|exact Ok.out|with_reducible refine iJ ?_ ?_)):p:=h
theorem fi {P:Program} {B:fM} {nt:Nat} {a:AC} {Q:Exit→Tm→St→Prop} {tm bl:Tm} {s:St} {fZ:List (List D)} (n m:Nat) (h:bq P B nt a Q bl ⟨fZ,(s.cut n m).av⟩) (hn:B.s.ah.length≤n:=by rw[hB];exact B7 rfl) (hm:B.s.av.length≤m:=by rw[hB];exact B7 rfl) (ht:vF tm n m bl:=by exact lX_) (ho:gk (s.cut n m).ah fZ:=by exact lX_):bq P B nt a Q tm s:=bq.re bl fZ n m hn hm ht ho h
theorem fj {P:Program} {B:fM} {nt:Nat} {a:AC} {Q:Exit→Tm→St→Prop} {tm bl:Tm} {s:St} {fZ:List (List D)} (n m:Nat) (ht:vF tm n m bl) (ho:gk (s.cut n m).ah fZ) (h:bq P B nt a Q bl ⟨fZ,(s.cut n m).av⟩) (hn:B.s.ah.length≤n:=by rw[hB];exact B7 rfl) (hm:B.s.av.length≤m:=by rw[hB];exact B7 rfl):bq P B nt a Q tm s:=bq.re bl fZ n m hn hm ht ho h
theorem bS:0<1∧0<1∧0<1∧0<1:=⟨Nat.zero_lt_one,Nat.zero_lt_one,Nat.zero_lt_one,Nat.zero_lt_one⟩
end Go.Abs
namespace Go.Abs
mutual
theorem M9 (n m:Nat) : ∀ d,D.ok 0 0 d=true→D.fg n m d=d
 | .junk,_=>by simp[D.fg]
 | .int k n,_=>by simp[D.fg]
 | .bool b,_=>by simp[D.fg]
 | .str l,_=>by simp[D.fg]
 | .dN,_=>by simp[D.fg]
 | .val v,_=>by simp[D.fg]
 | .dU z,_=>by simp[D.fg]
 | .fb T o,h=>by simp[D.ok]at h
 | .fI o,h=>by simp[D.ok]at h
 | .fS f cs,h=>by
  simp only[D.ok]at h
  simp only[D.fg,gK n m cs h]
 | .ptr o f,h=>by simp[D.ok]at h
 | .dt r f,h=>by
  simp only[D.ok]at h
  simp only[D.fg,gK n m r h]
 | .slice g z rows,h=>by
  simp only[D.ok,Bool.and_eq_true]at h
  simp only[D.fg,HZ n m rows h.2]
  cases g with
  |tok t y=>simp[Tag.ok]at h
  |full=>rfl
  |shared=>rfl
 | .agg cs,h=>by
  simp only[D.ok]at h
  simp only[D.fg,gK n m cs h]
 | .tuple cs,h=>by
  simp only[D.ok]at h
  simp only[D.fg,gK n m cs h]
theorem gK (n m:Nat) : ∀ l,D.bI 0 0 l=true→D.gf n m l=l
 | [],_=>by simp[D.gf]
 |d::r,h=>by
  simp only[D.bI,Bool.and_eq_true]at h
  simp only[D.gf,M9 n m d h.1,gK n m r h.2]
theorem HZ (n m:Nat) : ∀ l,D.gR 0 0 l=true→D.kg n m l=l
 | [],_=>by simp[D.kg]
 |d::r,h=>by
  simp only[D.gR,Bool.and_eq_true]at h
  simp only[D.kg,gK n m d h.1,HZ n m r h.2]
end
theorem gV {α:Type} {f:α→List D} (h : ∀ x,D.bI 0 0 (f x)=true) (l:List α):D.gR 0 0 (l.map f)=true:=by
 simp[Dq,h]
theorem lz {α:Type} {f:α→List D} (h : ∀ x,D.bI 0 0 (f x)=true) (n m:Nat) (l:List α):D.kg n m (l.map f)=l.map f:=HZ n m _ (gV h l)
theorem Kp (n m:Nat) : ∀ a b,D.kg n m (a++b)=D.kg n m a++D.kg n m b
 | [],b=>by simp[D.kg]
 |x::a,b=>by simp[D.kg,Kp n m a b]
abbrev aF:=List UInt8
structure pC where
 kind:Int
 text:aF
 n:Int
 pos:Int
deriving DecidableEq
structure Ex where
 op:Int
 n:Int
 name:aF
 kids:List Ex
structure Ar where
 ref:Bool
 name:aF
 x:Ex
structure Sm where
 id:Int
 kind:Int
 labels:List aF
 name:aF
 proc:aF
 x:Ex
 has:Bool
 args:List Ar
 aY:List Sm
 aW:List Sm
structure Pm where
 name:aF
 ref:Bool
structure Pc where
 name:aF
 params:List Pm
 vars:List aF
 body:List Sm
 fin:List aF
structure Pg where
 globals:List aF
 procs:List Pc
def qC:Ex:=⟨0,0,[],[]⟩
def ar0:Ar:=⟨false,[],qC⟩
def H0:Sm:=⟨0,0,[],[],[],qC,false,[],[],[]⟩
def Zz:Pg:=⟨[],[]⟩
def encStr (s:aF):List D:= [.str s]
def jE (t:pC):List D:= [.int .i64 t.kind, .str t.text, .int .i64 t.n, .int .i64 t.pos]
def sl (z:Nat) (rows:List (List D)):D:= .slice .shared z rows
mutual
def bW:Ex→List D
 |⟨op,n,name,kids⟩=> [.int .i64 op, .int .i64 n, .str name, .slice .shared 4 (uI kids)]
def uI:List Ex→List (List D)
 | []=> []
 |x::l=>bW x::uI l
end
theorem FA : ∀ l,uI l=l.map bW
 | []=>by simp[uI]
 |x::l=>by simp[uI,FA l]
theorem iL (x:Ex):bW x = [.int .i64 x.op, .int .i64 x.n, .str x.name, .slice .shared 4 (x.kids.map bW)]:=by
 cases x;simp[bW,FA]
def eg (a:Ar):List D:= [.bool a.ref, .str a.name, .int .i64 a.x.op, .int .i64 a.x.n, .str a.x.name, .slice .shared 4 (a.x.kids.map bW)]
mutual
def bk:Sm→List D
 |⟨id,kind,labels,name,proc,x,has,args,aY,aW⟩=> [.int .i64 id, .int .i64 kind, .slice .shared 1 (labels.map encStr), .str name, .str proc,
  .int .i64 x.op, .int .i64 x.n, .str x.name, .slice .shared 4 (x.kids.map bW), .bool has, .slice .shared 6 (args.map eg), .slice .shared 13 (sJ aY), .slice .shared 13 (sJ aW)]
def sJ:List Sm→List (List D)
 | []=> []
 |x::l=>bk x::sJ l
end
theorem FB : ∀ l,sJ l=l.map bk
 | []=>by simp[sJ]
 |x::l=>by simp[sJ,FB l]
theorem eO (s:Sm):bk s = [.int .i64 s.id, .int .i64 s.kind, .slice .shared 1 (s.labels.map encStr), .str s.name, .str s.proc,
 .int .i64 s.x.op, .int .i64 s.x.n, .str s.x.name, .slice .shared 4 (s.x.kids.map bW), .bool s.has, .slice .shared 6 (s.args.map eg), .slice .shared 13 (s.aY.map bk), .slice .shared 13 (s.aW.map bk)]:=by
 cases s;simp[bk,FB]
def iu (p:Pm):List D:= [.str p.name, .bool p.ref]
def cj (p:Pc):List D:= [.str p.name, .slice .shared 2 (p.params.map iu), .slice .shared 1 (p.vars.map encStr), .slice .shared 13 (p.body.map bk), .slice .shared 1 (p.fin.map encStr)]
def cG (p:Pg):List D:= [.slice .shared 1 (p.globals.map encStr), .slice .shared 5 (p.procs.map cj)]
theorem ZA (x:pC):(jE x).length=4:=nd rfl
theorem W8 (x:pC):List.take 4 (jE x)=jE x:=nd rfl
theorem W9 (x:pC):List.drop 4 (jE x) = []:=nd rfl
theorem PG (x:pC):(jE x)[0]? = some (.int .i64 x.kind):=nd rfl
theorem PH (x:pC):(jE x)[1]? = some (.str x.text):=nd rfl
theorem PI (x:pC):(jE x)[2]? = some (.int .i64 x.n):=nd rfl
theorem PJ (x:pC):(jE x)[3]? = some (.int .i64 x.pos):=nd rfl
theorem adE (Dv:Int) (US:aF) (n_:Int) (ZC:Int):jE ⟨Dv,US,n_,ZC⟩ = [.int .i64 Dv, .str US, .int .i64 n_, .int .i64 ZC]:=by simp only[jE]
theorem UT (x:Ex):(bW x).length=4:=by simp only[iL];rfl
theorem ZD (x:Ex):List.take 4 (bW x)=bW x:=by simp only[iL];rfl
theorem ZE (x:Ex):List.drop 4 (bW x) = []:=by simp only[iL];rfl
theorem Sp (x:Ex):(bW x)[0]? = some (.int .i64 x.op):=by simp only[iL];rfl
theorem Sq (x:Ex):(bW x)[1]? = some (.int .i64 x.n):=by simp only[iL];rfl
theorem Sr (x:Ex):(bW x)[2]? = some (.str x.name):=by simp only[iL];rfl
theorem Ss (x:Ex):(bW x)[3]? = some (.slice .shared 4 (x.kids.map bW)):=by simp only[iL];rfl
theorem ah0 (op_:Int) (n_:Int) (oe:aF) (UU:List Ex):bW ⟨op_,n_,oe,UU⟩ = [.int .i64 op_, .int .i64 n_, .str oe, .slice .shared 4 (UU.map bW)]:=by simp only[iL]
theorem adF (x:Ar):(eg x).length=6:=nd rfl
theorem ZF (x:Ar):List.take 6 (eg x)=eg x:=nd rfl
theorem ZG (x:Ar):List.drop 6 (eg x) = []:=nd rfl
theorem Sv (x:Ar):(eg x)[0]? = some (.bool x.ref):=nd rfl
theorem Sw (x:Ar):(eg x)[1]? = some (.str x.name):=nd rfl
theorem Sx (x:Ar):(eg x)[2]? = some (.int .i64 x.x.op):=nd rfl
theorem Sy (x:Ar):(eg x)[3]? = some (.int .i64 x.x.n):=nd rfl
theorem Sz (x:Ar):(eg x)[4]? = some (.str x.x.name):=nd rfl
theorem SA (x:Ar):(eg x)[5]? = some (.slice .shared 4 (x.x.kids.map bW)):=nd rfl
theorem SB (x:Ar):List.take 4 (List.drop 2 (eg x))=bW x.x:=by simp only[eg,iL];rfl
theorem ah1 (H2:Bool) (oe:aF) (x_:Ex):eg ⟨H2,oe,x_⟩ = [.bool H2, .str oe, .int .i64 x_.op, .int .i64 x_.n, .str x_.name, .slice .shared 4 (x_.kids.map bW)]:=by simp only[eg]
theorem GO (x:Sm):(bk x).length=13:=by simp only[eO];rfl
theorem ZH (x:Sm):List.take 13 (bk x)=bk x:=by simp only[eO];rfl
theorem ZI (x:Sm):List.drop 13 (bk x) = []:=by simp only[eO];rfl
theorem SC (x:Sm):(bk x)[0]? = some (.int .i64 x.id):=by simp only[eO];rfl
theorem SD (x:Sm):(bk x)[1]? = some (.int .i64 x.kind):=by simp only[eO];rfl
theorem SE (x:Sm):(bk x)[2]? = some (.slice .shared 1 (x.labels.map encStr)):=by simp only[eO];rfl
theorem SF (x:Sm):(bk x)[3]? = some (.str x.name):=by simp only[eO];rfl
theorem SG (x:Sm):(bk x)[4]? = some (.str x.proc):=by simp only[eO];rfl
theorem SH (x:Sm):(bk x)[5]? = some (.int .i64 x.x.op):=by simp only[eO];rfl
theorem SI (x:Sm):(bk x)[6]? = some (.int .i64 x.x.n):=by simp only[eO];rfl
theorem SJ (x:Sm):(bk x)[7]? = some (.str x.x.name):=by simp only[eO];rfl
theorem SK (x:Sm):(bk x)[8]? = some (.slice .shared 4 (x.x.kids.map bW)):=by simp only[eO];rfl
theorem SL (x:Sm):(bk x)[9]? = some (.bool x.has):=by simp only[eO];rfl
theorem PK (x:Sm):(bk x)[10]? = some (.slice .shared 6 (x.args.map eg)):=by simp only[eO];rfl
theorem PN (x:Sm):(bk x)[11]? = some (.slice .shared 13 (x.aY.map bk)):=by simp only[eO];rfl
theorem PO (x:Sm):(bk x)[12]? = some (.slice .shared 13 (x.aW.map bk)):=by simp only[eO];rfl
theorem SM (x:Sm):List.take 4 (List.drop 5 (bk x))=bW x.x:=by simp only[eO,iL];rfl
theorem ah2 (id_:Int) (Dv:Int) (Kq:List aF) (oe:aF) (UW:aF) (x_:Ex) (ZJ:Bool) (UX:List Ar) (ZK:List Sm) (ZL:List Sm):bk ⟨id_,Dv,Kq,oe,UW,x_,ZJ,UX,ZK,ZL⟩ = [.int .i64 id_, .int .i64 Dv, .slice .shared 1 (Kq.map encStr), .str oe, .str UW, .int .i64 x_.op, .int .i64 x_.n, .str x_.name, .slice .shared 4 (x_.kids.map bW), .bool ZJ, .slice .shared 6 (UX.map eg), .slice .shared 13 (ZK.map bk), .slice .shared 13 (ZL.map bk)]:=by simp only[eO]
theorem adG (x:Pm):(iu x).length=2:=nd rfl
theorem ZM (x:Pm):List.take 2 (iu x)=iu x:=nd rfl
theorem ZN (x:Pm):List.drop 2 (iu x) = []:=nd rfl
theorem SN (x:Pm):(iu x)[0]? = some (.str x.name):=nd rfl
theorem SO (x:Pm):(iu x)[1]? = some (.bool x.ref):=nd rfl
theorem ah3 (oe:aF) (H2:Bool):iu ⟨oe,H2⟩ = [.str oe, .bool H2]:=by simp only[iu]
theorem adH (x:Pc):(cj x).length=5:=nd rfl
theorem ZO (x:Pc):List.take 5 (cj x)=cj x:=nd rfl
theorem ZP (x:Pc):List.drop 5 (cj x) = []:=nd rfl
theorem SP (x:Pc):(cj x)[0]? = some (.str x.name):=nd rfl
theorem SQ (x:Pc):(cj x)[1]? = some (.slice .shared 2 (x.params.map iu)):=nd rfl
theorem SR (x:Pc):(cj x)[2]? = some (.slice .shared 1 (x.vars.map encStr)):=nd rfl
theorem SS (x:Pc):(cj x)[3]? = some (.slice .shared 13 (x.body.map bk)):=nd rfl
theorem SU (x:Pc):(cj x)[4]? = some (.slice .shared 1 (x.fin.map encStr)):=nd rfl
theorem ah4 (oe:aF) (Kr:List Pm) (UY:List aF) (UZ:List Sm) (ZQ:List aF):cj ⟨oe,Kr,UY,UZ,ZQ⟩ = [.str oe, .slice .shared 2 (Kr.map iu), .slice .shared 1 (UY.map encStr), .slice .shared 13 (UZ.map bk), .slice .shared 1 (ZQ.map encStr)]:=by simp only[cj]
theorem adI (x:Pg):(cG x).length=2:=nd rfl
theorem ZR (x:Pg):List.take 2 (cG x)=cG x:=nd rfl
theorem ZS (x:Pg):List.drop 2 (cG x) = []:=nd rfl
theorem SV (x:Pg):(cG x)[0]? = some (.slice .shared 1 (x.globals.map encStr)):=nd rfl
theorem SW (x:Pg):(cG x)[1]? = some (.slice .shared 5 (x.procs.map cj)):=nd rfl
theorem ah5 (H3:List aF) (PQ:List Pc):cG ⟨H3,PQ⟩ = [.slice .shared 1 (H3.map encStr), .slice .shared 5 (PQ.map cj)]:=by simp only[cG]
attribute [go_sem] ZA W8 W9 PG PH PI PJ adE UT ZD ZE Sp Sq Sr Ss ah0 adF ZF ZG Sv Sw Sx Sy Sz SA SB ah1 GO ZH ZI SC SD SE SF SG SH SI SJ SK SL PK PN PO SM ah2 adG ZM ZN SN SO ah3 adH ZO ZP SP SQ SR SS SU ah4 adI ZR ZS SV SW ah5
theorem Dw (s:aF):D.bI 0 0 (encStr s)=true:=rfl
theorem U0 (t:pC):D.bI 0 0 (jE t)=true:=rfl
mutual
theorem lr : ∀ x,D.bI 0 0 (bW x)=true
 |⟨op,n,name,kids⟩=>by simp[bW,D.bI,D.ok,Tag.ok,U1 kids]
theorem U1 : ∀ l,D.gR 0 0 (uI l)=true
 | []=>rfl
 |x::l=>by simp[uI,D.gR,lr x,U1 l]
end
theorem Na (a:Ar):D.bI 0 0 (eg a)=true:=by simp[eg,D.bI,D.ok,Tag.ok,gV lr]
mutual
theorem qD : ∀ x,D.bI 0 0 (bk x)=true
 |⟨id,kind,labels,name,proc,x,has,args,aY,aW⟩=>by simp[bk,D.bI,D.ok,Tag.ok,Nb aY,Nb aW,gV Dw,gV lr,gV Na]
theorem Nb : ∀ l,D.gR 0 0 (sJ l)=true
 | []=>rfl
 |x::l=>by simp[sJ,D.gR,qD x,Nb l]
end
theorem Nc (p:Pm):D.bI 0 0 (iu p)=true:=rfl
theorem yf (p:Pc):D.bI 0 0 (cj p)=true:=by simp[cj,D.bI,D.ok,Tag.ok,gV Nc,gV Dw,gV qD]
theorem kp (p:Pg):D.bI 0 0 (cG p)=true:=by simp[cG,D.bI,D.ok,Tag.ok,gV Dw,gV yf]
theorem ZT (n m:Nat) (x:pC):D.gf n m (jE x)=jE x:=gK n m _ (U0 x)
theorem adJ (n m:Nat) (x:Ex):D.gf n m (bW x)=bW x:=gK n m _ (lr x)
theorem adK (n m:Nat) (x:Ar):D.gf n m (eg x)=eg x:=gK n m _ (Na x)
theorem adL (n m:Nat) (x:Sm):D.gf n m (bk x)=bk x:=gK n m _ (qD x)
theorem adM (n m:Nat) (x:Pm):D.gf n m (iu x)=iu x:=gK n m _ (Nc x)
theorem adN (n m:Nat) (x:Pc):D.gf n m (cj x)=cj x:=gK n m _ (yf x)
theorem adO (n m:Nat) (x:Pg):D.gf n m (cG x)=cG x:=gK n m _ (kp x)
attribute [go_sem] ZT adJ adK adL adM adN adO
theorem eQ (l:List aF):D.gR 0 0 (l.map encStr)=true:=gV Dw l
theorem U2 (l:List Ex):D.gR 0 0 (l.map bW)=true:=gV lr l
theorem GQ (l:List Ar):D.gR 0 0 (l.map eg)=true:=gV Na l
theorem qE (l:List Sm):D.gR 0 0 (l.map bk)=true:=gV qD l
theorem adP (l:List Pm):D.gR 0 0 (l.map iu)=true:=gV Nc l
theorem vG (l:List Pc):D.gR 0 0 (l.map cj)=true:=gV yf l
theorem PR (n m:Nat) (l:List aF):D.kg n m (l.map encStr)=l.map encStr:=lz Dw n m l
theorem ZU (n m:Nat) (l:List pC):D.kg n m (l.map jE)=l.map jE:=lz U0 n m l
theorem adQ (n m:Nat) (l:List Ex):D.kg n m (l.map bW)=l.map bW:=lz lr n m l
theorem adR (n m:Nat) (l:List Ar):D.kg n m (l.map eg)=l.map eg:=lz Na n m l
theorem adS (n m:Nat) (l:List Sm):D.kg n m (l.map bk)=l.map bk:=lz qD n m l
theorem adT (n m:Nat) (l:List Pm):D.kg n m (l.map iu)=l.map iu:=lz Nc n m l
theorem U3 (n m:Nat) (l:List Pc):D.kg n m (l.map cj)=l.map cj:=lz yf n m l
theorem ZV (x:Ex) (r:List D):bW x++r = .int .i64 x.op:: .int .i64 x.n:: .str x.name:: .slice .shared 4 (x.kids.map bW)::r:=by rw[iL];rfl
theorem Xa (d:D) (x:Ex):d::bW x = [d, .int .i64 x.op, .int .i64 x.n, .str x.name, .slice .shared 4 (x.kids.map bW)]:=by rw[iL]
attribute [go_sem] ZV Xa
theorem adU:((0:Nat):Int)=0:=nd rfl
theorem adV:((1:Nat):Int)=1:=nd rfl
theorem adW:((2:Nat):Int)=2:=nd rfl
attribute [go_sem] adU adV adW Kp List.length_append List.map_append encStr qC ar0 H0 Zz PR ZU adQ adR adS adT U3
theorem mx (a b:Nat):(if(b:Int) > (a:Int)then(b:Int)else(a:Int))=((max a b:Nat):Int):=by split<;>omega
theorem ek {x:Int} (h1 : -9223372036854775808≤x) (h2:x<9223372036854775808):IntKind.wrap .i64 x=x:=by
 rw[IntKind.wrap_i64];omega
@[go_sem] theorem aJ {n:Nat} (h:n<4611686018427387904):IntKind.wrap .i64 ((n:Int)+1)=((n+1:Nat):Int):=by
 rw[ek]<;>omega
def inc (n:Nat):Option Nat:=if n<4611686018427387904 then some (n+1)else none
def ah6 (n:Int):Option Int:=if -4611686018427387904<n∧n<4611686018427387904 then some (n+1)else none
@[go_sem] theorem agH {n:Nat} (h:n+1<4611686018427387904):IntKind.wrap .i64 ((n:Int)+1)=((n+1:Nat):Int):=by
 rw[ek]<;>omega
@[go_sem] theorem agI {n:Nat} (h:n<4611686018427387904):IntKind.wrap .i64 ((n:Int)+2)=((n+2:Nat):Int):=by
 rw[ek]<;>omega
def ZW {α:Type} (l:List α) (i:Nat):Option α:=if i<4611686018427387904 then l[i]? else none
def push {α:Type} (k:Nat) (l:List α) (x:α):Option (List α):=if(l.length+1)*k≤bH then some (l++ [x])else none
end Go.Abs
namespace Go.Abs
def B8 (os ts:List Nat) (tm:Tm):Tm→Prop
 | []=>True
 |(k,d)::r=>tm.get k=d.cL os ts∧d.ok os.length ts.length=true∧B8 os ts tm r
theorem B8.get {os ts:List Nat} {tm:Tm} : ∀ {bl:Tm},B8 os ts tm bl→∀ k,bl.get k = .junk∨(tm.get k=(bl.get k).cL os ts∧(bl.get k).ok os.length ts.length=true)
 | [],_,k=> .inl rfl
 |(q,d)::r,⟨h1,h2,h3⟩,k=>by
  simp only[Tm.get]
  split
  ·rename_i e;subst e;exact .inr ⟨h1,h2⟩
  ·exact h3.get k
section
variable {P:Program} {B:fM} {nt:Nat}
theorem Holds.ZX {tm:Tm} {s:St} {act:Act} {w:World} (os:List Nat) (fZ:List (List D)) (bl:Tm) (tF:os.Nodup) (ju : ∀ o∈os,o<s.ah.length) (hn:B.s.ah.length≤os.length)
 (hold : ∀ i,i<B.s.ah.length→os[i]? = some i) (da : ∀ (i o:Nat),os[i]? = some o→B.s.ah.length≤i→B.s.ah.length≤o) (ho:fZ.length=os.length)
 (wm : ∀ (i o:Nat) (ds:List D),os[i]? = some o→fZ[i]? = some ds→s.ah[o]? = some (D.eD os (List.range s.av.length) ds)∧D.bI os.length s.av.length ds=true)
 (PS:B8 os (List.range s.av.length) tm bl) (h:Holds B nt tm s act w):Holds B nt bl ⟨fZ,s.av⟩ act w:=by
 obtain⟨M,e,r,hr,h1,h2⟩:=h
 have w5:(List.range s.av.length).length=s.av.length:=List.length_range
 have rg : ∀ (i t:Nat),(List.range s.av.length)[i]? = some t→i=t:=fun i t h=>by
  rw[List.getElem?_eq_some_iff]at h
  obtain⟨h3,h4⟩:=h
  simpa using h4
 have r0:Rel (gw M os (List.range s.av.length)) ⟨fZ,s.av⟩ w:=r.sub tF List.nodup_range ju ho (fun i o ds e1 e2=>by rw[w5];exact wm i o ds e1 e2) w5.symm (fun i t h=>by rw[rg i t h])
 have loc : ∀ (i:Nat) o,os[i]? = some o→(gw M os (List.range s.av.length)).loc i=M.loc o:=fun i o h=>by simp only[gw,ur h]
 have be : ∀ t,t<s.av.length→(gw M os (List.range s.av.length)).be t=M.be t:=fun t h=>by
  have:(List.range s.av.length)[t]? = some t:=List.getElem?_range h
  simp only[gw,ur this]
 refine⟨gw M os (List.range s.av.length),⟨⟨e.le.G,by rw[ho];exact hn,fun o h=>?_,e.le.t,fun t n' h e'=>?_⟩,e.kept,fun o h3 h4=>?_,fun t b c z hl hb=>?_,e.rp,e.size,e.os,e.tape,e.output⟩,r0,fun k=>?_,h1,h2⟩
 ·rw[loc o o (hold o h)];exact e.le.loc o h
 ·obtain⟨n,g1,g2,g3⟩:=e.le.tk t n' h e'
  exact⟨n,g1,g2,fun eq=>by rw[be t (Nat.lt_of_lt_of_le h e.le.t)];exact g3 eq⟩
 ·simp only at h4
  rw[ho]at h4
  obtain⟨q,hq⟩ : ∃ q,os[o]? = some q:=⟨_,List.getElem?_eq_getElem h4⟩
  have mA:(gw M os (List.range s.av.length)).mu o=M.mu q:=congrArg Prod.fst (loc o q hq)
  rw[mA]at h3 ⊢
  refine e.sX q ?_ (ju q (List.mem_of_getElem? hq))
  by_cases h5:B.s.ah.length≤o
  ·exact .inl (da o q hq h5)
  ·have:=hold o (by omega)
   rw[hq]at this
   cases this
   rcases h3 with h3|h3
   ·exact(h5 h3).elim
   ·exact .inr h3
 ·obtain⟨n,qu⟩:=hl
  have hD:=(List.getElem?_eq_some_iff.1 qu).1
  rw[be t hD]at hb
  exact e.pU t b c z ⟨n,qu⟩ hb
 ·rcases PS.get k with h3 | ⟨h3,h4⟩
  ·rw[h3];exact .junk _
  ·exact RD.Bg (M:=M) (M0:=gw M os (List.range s.av.length)) (s:=s) (s0:=⟨fZ,s.av⟩) rfl loc ho (fun i t h=>by
    have:=rg i t h;subst this;exact be i (by have:=(List.getElem?_eq_some_iff.1 h).1;rwa [w5]at this)) (fun i t h=>by rw[rg i t h]) w5.symm (h3 ▸ hr k) _ rfl h4
theorem bq.ZX {a:AC} {Q:Exit→Tm→St→Prop} {tm:Tm} {s:St} (os:List Nat) (fZ:List (List D)) (bl:Tm) (tF:os.Nodup) (ju : ∀ o∈os,o<s.ah.length) (hn:B.s.ah.length≤os.length)
 (hold : ∀ i,i<B.s.ah.length→os[i]? = some i) (da : ∀ (i o:Nat),os[i]? = some o→B.s.ah.length≤i→B.s.ah.length≤o) (ho:fZ.length=os.length)
 (wm : ∀ (i o:Nat) (ds:List D),os[i]? = some o→fZ[i]? = some ds→s.ah[o]? = some (D.eD os (List.range s.av.length) ds)∧D.bI os.length s.av.length ds=true)
 (PS:B8 os (List.range s.av.length) tm bl) (h:bq P B nt a Q bl ⟨fZ,s.av⟩):bq P B nt a Q tm s:=
 fun c hc act w hh=>h c hc act w (hh.ZX os fZ bl tF ju hn hold da ho wm PS)
mutual
def D.fA (o g:Nat) (rows:List (List D)):D→D
 | .dW z o' g' len=>if o'=o∧g'=g∧len=rows.length then .slice .shared z rows else .dW z o' g' len
 | .dt row off=> .dt (D.je o g rows row) off
 | .slice t z rs=> .slice t z (D.qF o g rows rs)
 | .agg cs=> .agg (D.je o g rows cs)
 | .tuple ds=> .tuple (D.je o g rows ds)
 | .fS f cs=> .fS f (D.je o g rows cs)
 | .ptr o off=> .ptr o off
 | .junk=> .junk
 | .int k x=> .int k x
 | .bool b=> .bool b
 | .str l=> .str l
 | .dN=> .dN
 | .val v=> .val v
 | .fb T o=> .fb T o
 | .fI o=> .fI o
 | .fc o g off=> .fc o g off
 | .dU z=> .dU z
def D.je (o g:Nat) (rows:List (List D)):List D→List D
 | []=> []
 |d::r=>D.fA o g rows d::D.je o g rows r
def D.qF (o g:Nat) (rows:List (List D)):List (List D)→List (List D)
 | []=> []
 |d::r=>D.je o g rows d::D.qF o g rows r
end
theorem nS (o g:Nat) (rows:List (List D)) : ∀ l,D.je o g rows l=l.map (D.fA o g rows)
 | []=>by simp[D.je]
 |d::r=>by simp[D.je,nS o g rows r]
theorem Ks (o g:Nat) (rows:List (List D)) : ∀ l,D.qF o g rows l=l.map (D.je o g rows)
 | []=>by simp[D.qF]
 |d::r=>by simp[D.qF,Ks o g rows r]
theorem RD.fA {M:Map} {s:St} {o g:Nat} {rows:List (List D)} {b cap z:Nat} {A:Nat→Option (Nat×Nat)} (hm:M.ob o = .arr z A) (ha:A g=some (b,cap))
 (hs : ∀ row∈rows,row.length=z) (h1 : ∀ (i:Nat) (row:List D) (j:Nat) (d:D),rows[i]? = some row→row[j]? = some d→∃ u,M.G b (0+(i*z+j))=some u)
 (h2 : ∀ (i:Nat) (row:List D) (j:Nat) (d:D) (u:Value),rows[i]? = some row→row[j]? = some d→M.G b (0+(i*z+j))=some u→RD M s d u)
 {d:D} {v:Value} (h:RD M s d v):RD M s (d.fA o g rows) v:=by
 induction h with
 | dW z' o' g' len b' pX A' ho yW vz hl=>
  simp only[D.fA]
  split
  ·rename_i hc
   obtain⟨rfl,rfl,rfl⟩:=hc
   rw[hm]at yW
   cases yW
   rw[ha]at vz
   cases vz
   exact .slice .shared z rows b 0 cap hl hs h1 h2 trivial
  ·exact .dW z' o' g' len b' pX A' ho yW vz hl
 |fc z' o' g' off b' pX A' ho yW vz=>simp only[D.fA];exact .fc z' o' g' off b' pX A' ho yW vz
 |dU z a=>simp only[D.fA];exact .dU z a
 |junk v=>simp only[D.fA];exact .junk v
 |int k x=>simp only[D.fA];exact .int k x
 |bool b=>simp only[D.fA];exact .bool b
 |str l=>simp only[D.fA];exact .str l
 |dN=>simp only[D.fA];exact .dN
 |val v hv=>simp only[D.fA];exact .val v hv
 |fb T o v h ht hv=>simp only[D.fA];exact .fb T o v h ht hv
 |fI o h hm=>simp only[D.fA];exact .fI o h hm
 |ptr o off h hm=>simp only[D.fA];exact .ptr o off h hm
 |fS f ds vs hl _ ih=>
  simp only[D.fA,nS]
  refine .fS f _ vs (by simpa using hl) (fun i d v e1 e2=>?_)
  simp only[List.getElem?_map,Option.map_eq_some_iff]at e1
  obtain⟨d',e1,rfl⟩:=e1
  exact ih i d' v e1 e2
 | dt row off b k h1 h2 ih=>
  simp only[D.fA,nS]
  refine .dt _ off b k (fun i d e=>?_) (fun i d u e eu=>?_)
  ·simp only [List.getElem?_map,Option.map_eq_some_iff]at e
   obtain⟨d',e,rfl⟩:=e
   exact h1 i d' e
  ·simp only [List.getElem?_map,Option.map_eq_some_iff]at e
   obtain⟨d',e,rfl⟩:=e
   exact ih i d' u e eu
 |iz t z cap hc ht=>simp only[D.fA,D.qF];exact .iz _ z cap hc ht
 |k6 z a cap=>simp only[D.fA,D.qF];exact .k6 z a cap
 | slice t z rs b k cap hl hs h1 h2 ht ih=>
  simp only[D.fA,Ks]
  have hlen:(rs.map (D.je o g rows)).length=rs.length:=by simp
  have key:=RD.slice (M:=M) (s:=s) t z (rs.map (D.je o g rows)) b k cap (by rw[hlen];exact hl) (fun row hr=>by
   obtain⟨j8,h',rfl⟩:=List.mem_map.1 hr
   rw[nS,List.length_map];exact hs j8 h')
   (fun i row j d e1 e2=>by
    simp only[List.getElem?_map,Option.map_eq_some_iff]at e1
    obtain⟨j8,e1,rfl⟩:=e1
    rw[nS]at e2
    simp only[List.getElem?_map,Option.map_eq_some_iff]at e2
    obtain⟨d',e2,rfl⟩:=e2
    exact h1 i j8 j d' e1 e2)
   (fun i row j d u e1 e2 eu=>by
    simp only[List.getElem?_map,Option.map_eq_some_iff]at e1
    obtain⟨j8,e1,rfl⟩:=e1
    rw[nS]at e2
    simp only[List.getElem?_map,Option.map_eq_some_iff]at e2
    obtain⟨d',e2,rfl⟩:=e2
    exact ih i j8 j d' u e1 e2 eu)
   (by rw[hlen];exact ht)
  rw[hlen]at key
  exact key
 |agg cells vs hl h1 _ ih=>
  simp only[D.fA,nS]
  refine .agg _ vs (by simpa using hl) h1 (fun i d v e1 e2=>?_)
  simp only[List.getElem?_map,Option.map_eq_some_iff]at e1
  obtain⟨d',e1,rfl⟩:=e1
  exact ih i d' v e1 e2
 |tuple ds vs hl _ ih=>
  simp only[D.fA,nS]
  refine .tuple _ vs (by simpa using hl) (fun i d v e1 e2=>?_)
  simp only[List.getElem?_map,Option.map_eq_some_iff]at e1
  obtain⟨d',e1,rfl⟩:=e1
  exact ih i d' v e1 e2
def fzR (o g:Nat) (rows:List (List D)) (n m:Nat) (ds:List D):List D:=D.gf n m (D.je o g rows ds)
def U4 (o g:Nat) (rows:List (List D)) (m:Nat) (tm:Tm):Tm→Prop
 | []=>True
 |(k,d)::r=>Wk (((tm.get k).fA o g rows).fg o m) d∧U4 o g rows m tm r
end
end Go.Abs
namespace Go.Abs
mutual
def D.flat:D→Bool
 | .int _ _=>true
 | .bool _=>true
 | .str _=>true
 | .tuple ds=>D.Dx ds
 |_=>false
def D.Dx:List D→Bool
 | []=>true
 |d::r=>d.flat && D.Dx r
end
theorem FC : ∀ {l:List D},D.Dx l=true→∀ {i:Nat} {d:D},l[i]? = some d→d.flat=true
 | [],_,i,d,e=>by simp at e
 |a::l,h,i,d,e=>by
  simp only[D.Dx,Bool.and_eq_true]at h
  cases i with
  |zero=>simp at e;subst e;exact h.1
  |succ i=>exact FC h.2 (by simpa using e)
theorem RD.flat {M M':Map} {s s':St} {d:D} {v:Value} (h:RD M s d v):d.flat=true→RD M' s' d v:=by
 induction h with
 |int k n=>exact fun _=> .int k n
 |bool b=>exact fun _=> .bool b
 |str l=>exact fun _=> .str l
 |tuple ds vs hl _ ih=>exact fun hf=> .tuple ds vs hl fun i d v e1 e2=>ih i d v e1 e2 (FC (by simpa only[D.flat]using hf) e1)
 |_=>intro hf;simp only[D.flat,Bool.false_eq_true]at hf
theorem Kt {n m:Nat} : ∀ {l:List D},D.bI n m l=true→∀ {i:Nat} {d:D},l[i]? = some d→d.ok n m=true
 | [],_,i,d,e=>by simp at e
 |a::l,h,i,d,e=>by
  simp only[D.bI,Bool.and_eq_true]at h
  cases i with
  |zero=>simp at e;subst e;exact h.1
  |succ i=>exact Kt h.2 (by simpa using e)
theorem Rel.B1 {M:Map} {s:St} {w w':World} (r:Rel M s w) (B1 : ∀ k,k<w.heap.size→w'.heap[k]? = w.heap[k]?) (hs:w.heap.size≤w'.heap.size) (h1:w'.os=w.os) (h2:w'.tape=w.tape) (h3:w'.output=w.output) :
 Rel M s w'∧Ext M s w M s w':=by
 refine⟨⟨fun p o v e=>?_,fun o ds e=>?_,r.jv,r.inj,fun t n e=>?_,r.eZ,r.fJ⟩,⟨Le.refl M s,fun k hk _ _=>B1 k hk,fun o h h'=>by rcases h with h|h;omega;exact(h rfl).elim,fun t b c z h e=> .inl ⟨h,c,z,e⟩,fun _ _ h=>(h rfl).elim,hs,h1,h2,h3⟩⟩
 ·obtain⟨h1,h2⟩:=r.comm p o v e
  refine⟨?_,h2⟩
  rw[← h1]
  simp only[World.cell?,B1 _ (r.zS e)]
 ·obtain⟨vs,T,h1,h2⟩:=r.obj o ds e
  exact⟨vs,T,h1.keep (B1 _ h1.lt),h2⟩
 ·rcases r.tok t n e with h | ⟨p,cap,z,vs,T,h1,h2,h3⟩
  ·exact .inl h
  ·exact .inr ⟨p,cap,z,vs,T,h1,by rw[B1 _ (jR h2)];exact h2,h3⟩
theorem aG.ah7 {P:Program} {f:FuncId} {args:List D} {d:D} {s:St} {o g z:Nat} {rows:List (List D)} {k:Nat} (hk:args[k]? = some (.dW z o g rows.length)) {more:List D}
 (dS:s.ah[o]? = some (.int .i64 (g:Int)::(rows.flatten++more))) (hs : ∀ row∈rows,row.length=z) (h:aG P f (D.je o g rows args) S0 d S0) (ha:D.bI 0 0 (D.je o g rows args)=true)
 (hd:d.flat=true):aG P f args s d s:=by
 intro M w fz r hl dK yc
 have hD:=(List.getElem?_eq_some_iff.1 hk).1
 obtain⟨b0,ah8,A,_,_,hm,_⟩:=(yc k _ _ hk (Array.getElem?_eq_getElem (by omega))).w7
 have gJ:nq s o g=some (rows.flatten++more):=by unfold nq;rw[dS];simp
 obtain⟨us,T,cap,hh,xa,BW,atJ,hle,gH,jd⟩:=r.Hl hm gJ
 have EE:o<s.ah.length:=(List.getElem?_eq_some_iff.1 dS).1
 have ZY : ∀ q,M.G (M.mu o) q=none:=r.jv o EE
 let M':Map:= {M with G:=fun b q=>if b=M.mu o then us[q]? else M.G b q}
 have pA : ∀ b,b≠M.mu o→∀ q,M'.G b q=M.G b q:=fun b hb q=>if_neg hb
 have le:Le M s M' s:=⟨fun b q v hq=>by
  by_cases hb:b=M.mu o
  ·subst hb;rw[ZY]at hq;cases hq
  ·rw[pA b hb];exact hq,Nat.le_refl _,fun _ _=> .refl _,Nat.le_refl _,fun t n' _ e=>⟨n',e,Nat.le_refl _,fun _=>rfl⟩⟩
 have ik : ∀ (i:Nat) (row:List D) (j:Nat) (d:D),rows[i]? = some row→row[j]? = some d→(rows.flatten++more)[i*z+j]? = some d:=by
  have gen : ∀ (rows:List (List D)),(∀ row∈rows,row.length=z)→∀ (i:Nat) (row:List D) (j:Nat) (d:D),rows[i]? = some row→row[j]? = some d→rows.flatten[i*z+j]? = some d:=by
   intro rows
   induction rows with
   |nil=>intro _ i row j d e1;simp at e1
   | cons a rows ih=>
    intro hs i row j d e1 e2
    have Aj:=hs a (List.mem_cons_self ..)
    rw[List.flatten_cons]
    cases i with
    |zero=>
     simp at e1;subst e1
     rw[Nat.zero_mul,Nat.zero_add,List.getElem?_append_left (List.getElem?_eq_some_iff.1 e2).1];exact e2
    |succ i=>
     rw[List.getElem?_append_right (by rw[Nat.add_mul];omega),Aj,show(i+1)*z+j - z=i*z+j by rw[Nat.add_mul];omega]
     exact ih (fun q hq=>hs q (List.mem_cons_of_mem _ hq)) i row j d (by simpa using e1) e2
  intro i row j d e1 e2
  have:=gen rows hs i row j d e1 e2
  rw[List.getElem?_append_left (List.getElem?_eq_some_iff.1 this).1];exact this
 have g1 : ∀ (i:Nat) (row:List D) (j:Nat) (d:D),rows[i]? = some row→row[j]? = some d→∃ u,M'.G (M.mu o) (0+(i*z+j))=some u:=fun i row j d e1 e2=>by
  have hD:=(List.getElem?_eq_some_iff.1 (ik i row j d e1 e2)).1
  refine⟨us[i*z+j]'(by omega), ?_⟩
  show(if M.mu o=M.mu o then us[0+(i*z+j)]? else _)=_
  rw[if_pos rfl,Nat.zero_add]
  exact Array.getElem?_eq_getElem _
 have g2 : ∀ (i:Nat) (row:List D) (j:Nat) (d:D) (u:Value),rows[i]? = some row→row[j]? = some d→M'.G (M.mu o) (0+(i*z+j))=some u→RD M' s d u:=fun i row j d u e1 e2 eu=>by
  have Dy:(if M.mu o=M.mu o then us[0+(i*z+j)]? else M.G (M.mu o) (0+(i*z+j)))=some u:=eu
  rw[if_pos rfl,Nat.zero_add]at Dy
  exact(jd _ d u (ik i row j d e1 e2) Dy).mono le
 have r0:Rel M' S0 w:=⟨fun b q v hq=>by
  have l5:(if b=M.mu o then us[q]? else M.G b q)=some v:=hq
  by_cases hb:b=M.mu o
  ·rw [if_pos hb]at l5
   rw[hb,iP hh]
   exact⟨l5,gH v (Array.mem_of_getElem? l5)⟩
  ·rw [if_neg hb]at l5
   exact r.comm b q v l5,fun o ds e=>by simp[S0]at e,fun o h=>by simp[S0]at h,fun o _ h=>by simp[S0]at h,fun t n e=>by simp[S0]at e,
  fun t b c z o hl _ ho=>by simp[S0]at ho,fun t t' b c z c' z' hl=>by obtain⟨n,hn⟩:=hl;simp[S0]at hn⟩
 have l0:Laid M' S0 w:=fun q cs hq=>⟨(hl q cs hq).1,fun o ho=>by simp[S0]at ho,fun t c z ht=>by obtain⟨n,hn⟩:=ht;simp[S0]at hn⟩
 have a0 : ∀ (i:Nat) (d:D) (v:Value),(D.je o g rows args)[i]? = some d→fz[i]? = some v→RD M' S0 d v:=fun i d0 v e1 e2=>by
  have l8:=Kt ha e1
  rw[nS,List.getElem?_map,Option.map_eq_some_iff]at e1
  obtain⟨d1,e1,rfl⟩:=e1
  have vH:=((yc i d1 v e1 e2).mono le).fA (M:=M') hm xa hs g1 g2
  exact RD.Bg (M:=M') (M0:=M') (s:=s) (s0:=S0) (os:= []) (ts:= []) rfl (by simp) rfl (by simp) (by simp) rfl vH _ (pZ _ _ _ l8) l8
 refine(h M' w fz r0 l0 (by rw[dK,nS,List.length_map]) a0).mono fun e w' ⟨M2,d2,v,s2,h1,⟨h2,h3⟩,hx,_,h4⟩=>?_
 subst h2 h3
 have B1 : ∀ k,k<w.heap.size→w'.heap[k]? = w.heap[k]? :=fun k hk=>hx.kept k hk (fun o ho=>by simp[S0]at ho) (fun t c z ht=>by obtain⟨n,hn⟩:=ht;simp[S0]at hn)
 obtain⟨r',e'⟩:=r.B1 B1 hx.size hx.os hx.tape hx.output
 exact⟨M,d2,v,s,h1,⟨rfl,rfl⟩,e',r',h4.flat hd⟩
section
variable {P:Program} {B:fM} {nt:Nat}
theorem bG.tL {f:FuncId} {res:List (Nat×Option (Bool×Nat))} {body:AC} {args:List D} {s:St} {R:D→St→Prop} (h0:Has P f nt res body) (hl:Nat.ble args.length nt=true)
 (h : ∀ (B:fM) (Q:Exit→Tm→St→Prop),B.s=s→RG res R=Q→jQ P B nt body Q (ml 0 args) s):bG P f args s R:=by
 obtain⟨fn,hf,hc⟩:=h0
 refine bG.GN (bG.OU (Q:=R) hf hc (Nat.le_of_ble_eq_true hl) fun B hB=>il (h B _ hB rfl)) fun d s1 h=>⟨d,s1,Wk.refl _,gk.refl _,rfl,h⟩
theorem gy {res:List (Nat×Option (Bool×Nat))} {R:D→St→Prop} {tm:Tm} {s:St} {e:Exit} {Q:Exit→Tm→St→Prop} (hQ:RG res R=Q) (h : ∃ l,aR res tm s=some l∧R (aS l) s) (he:e = .ret∨e = .normal:=by first|exact .inl rfl|exact .inr rfl):Q e tm s:=by
 subst hQ
 rcases he with rfl|rfl<;>exact h
def upD (R:D→St→Prop) (d:D) (s:St):Prop:=∃ d' s',Wk d d'∧gk s.ah s'.ah∧s.av=s'.av∧R d' s'
theorem bG.up {f:FuncId} {args:List D} {s:St} {R:D→St→Prop} (h:bG P f args s (upD R)):bG P f args s R:=
 bG.GN h fun d s1 ⟨d',s',h1,h2,h3,h4⟩=>⟨d',s',h1,h2,h3,h4⟩
def uJ (tm:Tm):Tm→Prop
 | []=>True
 |(k,d)::r=>Wk (tm.get k) d∧uJ tm r
theorem uJ.get {tm:Tm} : ∀ {bl:Tm},uJ tm bl→∀ t,Wk (tm.get t) (bl.get t)
 | [],_,t=>Wk.junk _
 |(k,d)::r,h,t=>by
  simp only[Tm.get]
  split
  ·rename_i hk;subst hk;exact h.1
  ·exact uJ.get h.2 t
theorem ZZ (tm:Tm):uJ tm [] = True:=nd rfl
theorem Z0 (tm:Tm) (k:Nat) (d:D) (r:Tm):uJ tm ((k,d)::r)=(Wk (tm.get k) d∧uJ tm r):=nd rfl
attribute [go_sem] ZZ Z0
theorem Holds.o7 {tm bl:Tm} {s:St} {act:Act} {w:World} (ht:uJ tm bl) (h:Holds B nt tm s act w):Holds B nt bl s act w:=by
 obtain⟨M,e,r,hr,h1,h2⟩:=h
 exact⟨M,e,r,fun k=>ht.get k _ _ _ (hr k),h1,h2⟩
theorem bq.o7 {a:AC} {Q:Exit→Tm→St→Prop} {tm bl:Tm} {s:St} (ht:uJ tm bl) (h:bq P B nt a Q bl s):bq P B nt a Q tm s:=fun c hc act w hh=>h c hc act w (hh.o7 ht)
theorem ld.o7 {a r:AC} {Q:Exit→Tm→St→Prop} {tm bl:Tm} {s:St} (ht:uJ tm bl) (h:ld P B nt a r Q bl s):ld P B nt a r Q tm s:=fun c rest hc hr act w hh=>h c rest hc hr act w (hh.o7 ht)
theorem Sem.o7 {a:AC} {Q:Exit→Tm→St→Prop} {tm bl:Tm} {s:St} (ht:uJ tm bl) (h:Sem P B nt a Q bl s):Sem P B nt a Q tm s:=fun c hc act w hh=>h c hc act w (hh.o7 ht)
end
theorem fN {s:St} {o:Nat} {r:List D} (h:s.ah[o]? = some r):o<s.ah.length:=(List.getElem?_eq_some_iff.1 h).1
theorem Ku {s:St} {a b:Nat} {r r':List D} (h:s.ah[a]? = some r) (h':s.ah[b]? = some r') (hn:r≠r'):a≠b:=fun e=>by subst e;rw[h]at h';cases h';exact hn rfl
end Go.Abs
namespace Go.Abs
theorem aG.zI {P:Program} {f:Nat} {args:List D} {s0 s:St} {o off n m:Nat} {row:List D} (h:aG P f args s0 (.ptr o off) s) (ho:s.ah[o]? = some row) (hn:s0.ah.length≤n) (zj:n≤o) (hm:s0.av.length≤m) :
 aG P f args s0 (.dt (D.gf n m row) off) (s.cut n m):=by
 intro M0 w0 fz r0 kh ah9 ha
 refine(h M0 w0 fz r0 kh ah9 ha).mono ?_
 rintro en w ⟨M,d,v0,s',rfl,⟨rfl,rfl⟩,e,r,hv⟩
 have wZ:=hv.zT
 have pf:v0 = .pointer (some ⟨M.mu o,off,none⟩):=hv.rA.1
 have EE:o<s'.ah.length:=(List.getElem?_eq_some_iff.1 ho).1
 obtain⟨vs,T,hh,dK,⟨gH,_⟩,jd⟩:=r.obj o row ho
 replace hh:w.heap[M.mu o]? = some (.cells vs T (0,0)):=hh.cells wZ
 let M':Map:= {M with G:=fun b q=>if b=M.mu o then vs[q]? else M.G b q}
 have ZY : ∀ q,M.G (M.mu o) q=none:=r.jv o EE
 have le:Le M s' M' s':=⟨fun b q v hq=>by
  show(if b=M.mu o then vs[q]? else M.G b q)=some v
  by_cases hb:b=M.mu o
  ·subst hb;rw[ZY]at hq;cases hq
  ·rw[if_neg hb];exact hq,Nat.le_refl _,fun _ _=> .refl _,Nat.le_refl _,fun t n' _ e=>⟨n',e,Nat.le_refl _,fun _=>rfl⟩⟩
 have hD : ∀ q,q<(s'.cut n m).ah.length→q<s'.ah.length∧q≠o:=fun q h=>by rw[ny]at h;omega
 have vI:w0.heap.size≤M.mu o:=e.sX o (.inl (by omega)) EE
 have ec:=e.cut hn hm
 have Z1:Le M (s'.cut n m) M' (s'.cut n m):=⟨le.G,Nat.le_refl _,fun _ _=> .refl _,Nat.le_refl _,fun t n' _ e=>⟨n',e,Nat.le_refl _,fun _=>rfl⟩⟩
 have rc:=r.cut n m
 have pA : ∀ b,b≠M.mu o→∀ q,M'.G b q=M.G b q:=fun b hb q=>if_neg hb
 refine⟨M',_,v0,_,rfl,⟨rfl,rfl⟩,⟨ec.le.trans Z1,ec.kept,ec.sX,ec.pU,fun b q eK=>?_,ec.size,ec.os,ec.tape,ec.output⟩,⟨fun b q v hq=>?_,fun q ds hq=>?_,fun q hq wh=>?_,rc.inj,fun t n' OW=>?_,rc.eZ,rc.fJ⟩, ?_⟩
 ·by_cases hb:b=M.mu o
  ·subst hb;exact .inl vI
  ·rw[pA b hb]at eK;exact ec.rp b q eK
 ·have l5:(if b=M.mu o then vs[q]? else M.G b q)=some v:=hq
  by_cases hb:b=M.mu o
  ·rw [if_pos hb]at l5
   rw[hb,iP hh]
   exact⟨l5,gH v (Array.mem_of_getElem? l5)⟩
  ·rw [if_neg hb]at l5
   exact r.comm b q v l5
 ·obtain⟨fu,T',h3,h4,h5,h6⟩:=rc.obj q ds hq
  exact⟨fu,T',h3,h4,h5,fun i d v e1 e2=>(h6 i d v e1 e2).mono Z1⟩
 ·obtain⟨h3,h4⟩:=hD q hq
  show M'.G (M.mu q) wh=none
  rw[pA _ (fun e=>h4 (r.inj q o h3 EE e))]
  exact r.jv q h3 wh
 ·rcases rc.tok t n' OW with h3 | ⟨b,cap,z,fu,T',h3,h4,h5,h6,h7⟩
  ·exact .inl h3
  ·refine .inr ⟨b,cap,z,fu,T',h3,h4,h5,h6,fun wh Cu=> ?_,h7.2⟩
   rw[pA _ (fun e=>r.eZ t b cap z o (uF ⟨n',OW⟩) h3 EE e.symm)]
   exact h7.1 wh Cu
 ·rw [pf]
  have:=RD.dt (M:=M') (s:=s'.cut n m) (D.gf n m row) off (M.mu o) 0 (fun i d e1=>?_) (fun i d u e1 eu=>?_)
  ·simpa using this
  ·rw [mD,List.getElem?_map,Option.map_eq_some_iff]at e1
   obtain⟨d0,e1,rfl⟩:=e1
   have hi:=(List.getElem?_eq_some_iff.1 e1).1
   refine⟨vs[i]'(by omega), ?_⟩
   show(if M.mu o=M.mu o then vs[0+i]? else _)=_
   rw[if_pos rfl,Nat.zero_add]
   exact Array.getElem?_eq_getElem _
  ·rw [mD,List.getElem?_map,Option.map_eq_some_iff]at e1
   obtain⟨d0,e1,rfl⟩:=e1
   have Dy:(if M.mu o=M.mu o then vs[0+i]? else M.G (M.mu o) (0+i))=some u:=eu
   rw[if_pos rfl,Nat.zero_add]at Dy
   exact((jd i d0 u e1 Dy).fg n m).mono Z1
theorem aG.goK {P:Program} {f:FuncId} {res:List (Nat×Option (Bool×Nat))} {body:AC} {args:List D} {s:St} {d:D} {s':St} {nt:Nat} (n m:Nat) (hn:s.ah.length≤n) (hm:s.av.length≤m) (h0:Has P f nt res body) (hl:Nat.ble args.length nt=true)
 (h : ∀ (B:fM) (Q:Exit→Tm→St→Prop),B.s=s→ph n m res d s'=Q→jQ P B nt body Q (ml 0 args) s):aG P f args s d s':=by
 obtain⟨fn,hf,hc⟩:=h0
 refine bG.GN (bG.intro (Q:=fun d1 s1=>Wk d1 d∧gk s1.ah s'.ah∧s1.av=s'.av) hf hc (Nat.le_of_ble_eq_true hl) fun B hB=>(il (h B _ hB rfl)).mono fun e tm s1 hr=>?_) fun d1 s1 ⟨h1,h2,h3⟩=>⟨d,s',h1,h2,h3,rfl,rfl⟩
 subst hB
 cases e with
 |normal=>obtain⟨l,h1,h2,h3,h4⟩:=hr;exact⟨l,h1,_,_,hn,hm,h2,h3,h4⟩
 |ret=>obtain⟨l,h1,h2,h3,h4⟩:=hr;exact⟨l,h1,_,_,hn,hm,h2,h3,h4⟩
 |exit id=>exact hr.elim
 |goto l=>exact hr.elim
 |panic ch=>exact hr.elim
 |outgrown=>exact hr.elim
section
variable (s:St) (o g off len k z size bytes:Nat) (kk:IntKind)
theorem adX:nq s o g=match s.ah[o]? with|some (.int .i64 n::cells)=>if n=(g:Int)then some cells else none|_=>none:=nd rfl
theorem Z2 (agg:Bool):xR (.fc o g off) agg size s=match nq s o g with|some cells=>(match part cells off agg size with|some d=>some (d,s)|none=>none)|none=>none:=nd rfl
theorem Xb (r:List D):zP (.fc o g off) (some r) size s=match nq s o g with
 |some cells=>if r.length=size∧off+size≤cells.length then some (.tuple [],⟨s.ah.set o (.int .i64 g::gY cells off r),s.av⟩)else none
 |none=>none:=nd rfl
theorem adY:K8 (.fc o g off)=some (.fc o g off):=nd rfl
theorem Xc:Dc (.fc o g k) off=some (.fc o g (k+off)):=nd rfl
theorem Xd:wX (.dW z o g len) (.int kk (k:Int)) size=if k<len then(if z=size then some (.fc o g (k*z))else none)else none:=by
 simp only[wX]
 by_cases h1:k<len<;>by_cases h2:z=size<;>simp[h1,h2]
theorem adZ:Em (.dW z o g len)=some (.int .i64 len):=nd rfl
theorem Z3:Em (.dU z)=some (.int .i64 0):=nd rfl
theorem H5 {z bytes:Nat} (t:Tag) (r:List D) (s:St) (hm:bytes+1≤bH):zQ z bytes (.dU z) (.slice t z [r]) s=some (.dW z s.ah.length 0 1,⟨s.ah++ [.int .i64 ((0:Nat):Int)::r],s.av⟩):=by
 simp[zQ,hm]
theorem ad0 (n m:Nat):D.fg n m (.dW z o g len)=if o<n then .dW z o g len else .junk:=nd (by simp only[D.fg])
theorem ad1 (n m:Nat):D.fg n m (.fc o g off)=if o<n then .fc o g off else .junk:=nd (by simp only[D.fg])
theorem ad2 (n m:Nat):D.fg n m (.dU z) = .dU z:=nd (by simp only[D.fg])
theorem Z4:(D.dW z o g len).row=some [.dW z o g len]:=nd rfl
theorem Z5:(D.fc o g off).row=some [.fc o g off]:=nd rfl
theorem Z6:(D.dU z).row=some [.dU z]:=nd rfl
end
attribute [go_sem] adX Z2 Xb adY Xc Xd adZ Z3 ad0 ad1 ad2 Z4 Z5 Z6
theorem Wk.dU (z z':Nat):Wk (.slice .full z []) (.dU z'):=fun M s v h=>by
 cases h with
 |iz _ _ cap hc ht=>subst hc;exact .dU z' none
 |slice _ _ _ b k cap hl hs h1 h2 ht=>
  have:cap=0:=ht
  subst this
  exact .dU z' _
instance (z z':Nat):Ok (Wk (.slice .full z []) (.dU z')):=⟨Wk.dU z z'⟩
instance {a a' b b':List D} [Ok (iZ a a')] [Ok (iZ b b')] : Ok (iZ (a++b) (a'++b')):=⟨iZ.append Ok.out Ok.out⟩
theorem ad3 (n m:Nat) (a b:List D):D.gf n m (a++b)=D.gf n m a++D.gf n m b:=nd (by simp only[mD,List.map_append])
attribute [go_sem] ad3
def Am (os:List Nat) (m:Nat) (ah:List (List D)):List Nat→List (List D)→Prop
 | [],[]=>True
 |o::l,ds::r=>ah[o]? = some (D.eD os (List.range m) ds)∧D.bI os.length m ds=true∧Am os m ah l r
 |_,_=>False
theorem Am.get {os:List Nat} {m:Nat} {ah:List (List D)} : ∀ {l:List Nat} {r:List (List D)},Am os m ah l r→r.length=l.length∧∀ (i o:Nat) (ds:List D),l[i]? = some o→r[i]? = some ds→ah[o]? = some (D.eD os (List.range m) ds)∧D.bI os.length m ds=true
 | [],[],_=>⟨rfl,fun i o ds h=>by simp at h⟩
 |o::l,ds::r,⟨h1,h2,h3⟩=>by
  obtain⟨g1,g2⟩:=h3.get
  refine⟨by simp[g1],fun i o' na e1 e2=>?_⟩
  cases i with
  |zero=>simp at e1 e2;subst e1 e2;exact⟨h1,h2⟩
  |succ i=>exact g2 i o' na (by simpa using e1) (by simpa using e2)
 | [],_::_,h=>h.elim
 |_::_,[],h=>h.elim
section
variable {P:Program} {B:fM} {nt:Nat} {a:AC} {Q:Exit→Tm→St→Prop} {tm:Tm} {s:St}
theorem bq.aia (hB:B.s = ⟨[],[]⟩) (os:List Nat) (fZ:List (List D)) (bl:Tm) (tF:os.Nodup) (ju : ∀ o∈os,o<s.ah.length) (wm:Am os s.av.length s.ah os fZ) (PS:B8 os (List.range s.av.length) tm bl)
 (h:bq P B nt a Q bl ⟨fZ,s.av⟩):bq P B nt a Q tm s:=
 bq.ZX os fZ bl tF ju (by rw[hB];exact Nat.zero_le _) (fun i h=>by rw[hB]at h;exact absurd h (Nat.not_lt_zero _)) (fun i o _ _=>by rw[hB];exact Nat.zero_le _) wm.get.1 wm.get.2 PS h
end
section
variable (os ts:List Nat) (n m:Nat)
theorem ad4 (o off:Nat):D.cL os ts (.ptr o off)=match os[o]? with|some o'=> .ptr o' off|none=> .junk:=nd (by simp only[D.cL]<;>rfl)
theorem ad5 (z o g len:Nat):D.cL os ts (.dW z o g len)=match os[o]? with|some o'=> .dW z o' g len|none=> .junk:=nd (by simp only[D.cL]<;>rfl)
theorem Xe (g:Tag) (z:Nat) (rows:List (List D)):D.cL os ts (.slice g z rows) = .slice (g.cL ts) z (D.nz os ts rows):=nd (by simp only[D.cL])
theorem ad6 (l:List D):D.cL os ts (.agg l) = .agg (D.eD os ts l):=nd (by simp only[D.cL])
theorem Z7:D.cL os ts .junk = .junk:=nd (by simp only[D.cL])
theorem ad7 (k:IntKind) (x:Int):D.cL os ts (.int k x) = .int k x:=nd (by simp only[D.cL])
theorem Z8 (b:Bool):D.cL os ts (.bool b) = .bool b:=nd (by simp only[D.cL])
theorem ad8 (l:List UInt8):D.cL os ts (.str l) = .str l:=nd (by simp only[D.cL])
theorem Z9:D.cL os ts .dN = .dN:=nd (by simp only[D.cL])
theorem aac (z:Nat):D.cL os ts (.dU z) = .dU z:=nd (by simp only[D.cL])
theorem Xf:D.eD os ts [] = []:=nd (by simp only[D.eD])
theorem Xg (d:D) (l:List D):D.eD os ts (d::l)=D.cL os ts d::D.eD os ts l:=nd (by simp only[D.eD])
theorem SX:Tag.cL ts .shared = .shared:=nd rfl
theorem aad:Tag.cL ts .full = .full:=nd rfl
theorem Xh (o off:Nat):D.ok n m (.ptr o off)=decide (o<n):=nd (by simp only[D.ok])
theorem Xi (z o g len:Nat):D.ok n m (.dW z o g len)=decide (o<n):=nd (by simp only[D.ok])
theorem PT (g:Tag) (z:Nat) (rows:List (List D)):D.ok n m (.slice g z rows)=(g.ok m && D.gR n m rows):=nd (by simp only[D.ok])
theorem Xj (l:List D):D.ok n m (.agg l)=D.bI n m l:=nd (by simp only[D.ok])
theorem SY:D.ok n m .junk=true:=nd (by simp only[D.ok])
theorem Xk (k:IntKind) (x:Int):D.ok n m (.int k x)=true:=nd (by simp only[D.ok])
theorem SZ (b:Bool):D.ok n m (.bool b)=true:=nd (by simp only[D.ok])
theorem Xl (l:List UInt8):D.ok n m (.str l)=true:=nd (by simp only[D.ok])
theorem S1:D.ok n m .dN=true:=nd (by simp only[D.ok])
theorem S2 (z:Nat):D.ok n m (.dU z)=true:=nd (by simp only[D.ok])
theorem aae:D.bI n m [] = true:=nd (by simp only[D.bI])
theorem aaf (d:D) (l:List D):D.bI n m (d::l)=(D.ok n m d && D.bI n m l):=nd (by simp only[D.bI])
theorem Nd:Tag.ok m .shared=true:=nd rfl
theorem S3:Tag.ok m .full=true:=nd rfl
theorem Xm (os:List Nat) (m:Nat) (ah:List (List D)):Am os m ah [] [] = True:=nd rfl
theorem Xn (os:List Nat) (m:Nat) (ah:List (List D)) (o:Nat) (l:List Nat) (ds:List D) (r:List (List D)):Am os m ah (o::l) (ds::r)=(ah[o]? = some (D.eD os (List.range m) ds)∧D.bI os.length m ds=true∧Am os m ah l r):=nd rfl
theorem aag (tm:Tm):B8 os ts tm [] = True:=nd rfl
theorem aah (tm:Tm) (k:Nat) (d:D) (r:Tm):B8 os ts tm ((k,d)::r)=(tm.get k=d.cL os ts∧d.ok os.length ts.length=true∧B8 os ts tm r):=nd rfl
theorem H6 (rows:List (List D)) (h:D.gR 0 0 rows=true):D.nz os ts rows=rows:=iS os ts rows h
theorem Dz (row:List D) (h:D.bI 0 0 row=true):D.eD os ts row=row:=fp os ts row h
theorem Nf (rows:List (List D)) (h:D.gR 0 0 rows=true):D.gR n m rows=true:=lR (Nat.zero_le n) (Nat.zero_le m) rows h
theorem GR (row:List D) (h:D.bI 0 0 row=true):D.bI n m row=true:=ib (Nat.zero_le n) (Nat.zero_le m) row h
theorem Kv (p:Pg):D.eD os ts (cG p)=cG p:=Dz _ _ _ (kp p)
theorem Xo (p:Sm):D.eD os ts (bk p)=bk p:=Dz _ _ _ (qD p)
theorem S4 (l:List Pc):D.nz os ts (l.map cj)=l.map cj:=H6 _ _ _ (vG l)
theorem S5 (l:List Sm):D.nz os ts (l.map bk)=l.map bk:=H6 _ _ _ (qE l)
theorem PU (l:List aF):D.nz os ts (l.map encStr)=l.map encStr:=H6 _ _ _ (eQ l)
theorem Xp (p:Pc):D.eD os ts (cj p)=cj p:=Dz _ _ _ (yf p)
theorem aai (p:Pc):D.bI n m (cj p)=true:=GR _ _ _ (yf p)
theorem PV (p:Pg):D.bI n m (cG p)=true:=GR _ _ _ (kp p)
theorem aaj (p:Sm):D.bI n m (bk p)=true:=GR _ _ _ (qD p)
theorem Xq (l:List Pc):D.gR n m (l.map cj)=true:=Nf _ _ _ (vG l)
theorem Xr (l:List Sm):D.gR n m (l.map bk)=true:=Nf _ _ _ (qE l)
theorem S6 (l:List aF):D.gR n m (l.map encStr)=true:=Nf _ _ _ (eQ l)
theorem Ng : ∀ l:List Pc,D.bI 0 0 ((l.map cj).flatten)=true:=fun l=>by
 have h:=vG l
 rw[Dq,List.all_eq_true]at h
 rw[xg,List.all_eq_true]
 intro d hd
 obtain⟨r,hr,hd⟩:=List.mem_flatten.1 hd
 have:=h r hr
 rw[xg,List.all_eq_true]at this
 exact this d hd
theorem S7 (l:List Pc):D.eD os ts ((l.map cj).flatten)=(l.map cj).flatten:=Dz _ _ _ (Ng l)
theorem Xs (l:List Pc):D.bI n m ((l.map cj).flatten)=true:=GR _ _ _ (Ng l)
theorem Xt (l:List Pc):D.gf n m ((l.map cj).flatten)=(l.map cj).flatten:=gK _ _ _ (Ng l)
end
attribute [go_sem] Xp aai ad4 ad5 Xe ad6 Z7 ad7 Z8 ad8 Z9 aac Xf Xg SX aad Xh Xi PT Xj SY Xk SZ Xl S1 S2 aae aaf Nd S3 Xm Xn aag aah Kv Xo S4 S5 PU PV aaj Xq Xr S6 S7 Xs Xt
mutual
theorem H7 (o g:Nat) (rows:List (List D)) : ∀ d,D.ok 0 0 d=true→D.fA o g rows d=d
 | .junk,_=>by simp[D.fA]
 | .int k n,_=>by simp[D.fA]
 | .bool b,_=>by simp[D.fA]
 | .str l,_=>by simp[D.fA]
 | .dN,_=>by simp[D.fA]
 | .val v,_=>by simp[D.fA]
 | .dU z,_=>by simp[D.fA]
 | .fb T o,h=>by simp[D.ok]at h
 | .fI o,h=>by simp[D.ok]at h
 | .dW z o g len,h=>by simp[D.ok]at h
 | .fc o g off,h=>by simp[D.ok]at h
 | .ptr o f,h=>by simp[D.ok]at h
 | .fS f cs,h=>by
  simp only[D.ok]at h
  simp only[D.fA,rE o g rows cs h]
 | .dt r f,h=>by
  simp only[D.ok]at h
  simp only[D.fA,rE o g rows r h]
 | .slice t z rs,h=>by
  simp only[D.ok,Bool.and_eq_true]at h
  simp only[D.fA,xk o g rows rs h.2]
 | .agg cs,h=>by
  simp only[D.ok]at h
  simp only[D.fA,rE o g rows cs h]
 | .tuple cs,h=>by
  simp only[D.ok]at h
  simp only[D.fA,rE o g rows cs h]
theorem rE (o g:Nat) (rows:List (List D)) : ∀ l,D.bI 0 0 l=true→D.je o g rows l=l
 | [],_=>by simp[D.je]
 |d::r,h=>by
  simp only[D.bI,Bool.and_eq_true]at h
  simp only[D.je,H7 o g rows d h.1,rE o g rows r h.2]
theorem xk (o g:Nat) (rows:List (List D)) : ∀ l,D.gR 0 0 l=true→D.qF o g rows l=l
 | [],_=>by simp[D.qF]
 |d::r,h=>by
  simp only[D.gR,Bool.and_eq_true]at h
  simp only[D.qF,rE o g rows d h.1,xk o g rows r h.2]
end
section
variable (o g:Nat) (rows:List (List D)) (n m:Nat)
theorem ad9 (q off:Nat):D.fA o g rows (.ptr q off) = .ptr q off:=nd (by simp only[D.fA])
theorem aak (q h off:Nat):D.fA o g rows (.fc q h off) = .fc q h off:=nd (by simp only[D.fA])
theorem aea (z o' g' len:Nat):D.fA o g rows (.dW z o' g' len)=if o'=o∧g'=g∧len=rows.length then .slice .shared z rows else .dW z o' g' len:=nd (by simp only[D.fA])
theorem Xu (t:Tag) (z:Nat) (rs:List (List D)):D.fA o g rows (.slice t z rs) = .slice t z (D.qF o g rows rs):=nd (by simp only[D.fA])
theorem aeb (l:List D):D.fA o g rows (.agg l) = .agg (D.je o g rows l):=nd (by simp only[D.fA])
theorem aal:D.fA o g rows .junk = .junk:=nd (by simp only[D.fA])
theorem aec (k:IntKind) (x:Int):D.fA o g rows (.int k x) = .int k x:=nd (by simp only[D.fA])
theorem aam (b:Bool):D.fA o g rows (.bool b) = .bool b:=nd (by simp only[D.fA])
theorem aed (l:List UInt8):D.fA o g rows (.str l) = .str l:=nd (by simp only[D.fA])
theorem Xv:D.je o g rows [] = []:=nd (by simp only[D.je])
theorem Xw (d:D) (l:List D):D.je o g rows (d::l)=D.fA o g rows d::D.je o g rows l:=nd (by simp only[D.je])
theorem aib (p:Pg):D.je o g rows (cG p)=cG p:=rE _ _ _ _ (kp p)
theorem aee (l:List Pc):D.qF o g rows (l.map cj)=l.map cj:=xk _ _ _ _ (vG l)
theorem aef (l:List Sm):D.qF o g rows (l.map bk)=l.map bk:=xk _ _ _ _ (qE l)
theorem aan (l:List aF):D.qF o g rows (l.map encStr)=l.map encStr:=xk _ _ _ _ (eQ l)
theorem aeg (ds:List D):fzR o g rows n m ds=D.gf n m (D.je o g rows ds):=nd rfl
theorem aao (tm:Tm):U4 o g rows m tm [] = True:=nd rfl
theorem aap (tm:Tm) (k:Nat) (d:D) (r:Tm):U4 o g rows m tm ((k,d)::r)=(Wk (((tm.get k).fA o g rows).fg o m) d∧U4 o g rows m tm r):=nd rfl
end
attribute [go_sem] ad9 aak aea Xu aeb aal aec aam aed Xv Xw aib aee aef aan aeg aao aap
end Go.Abs
namespace Go.Abs
mutual
def Ex.size:Ex→Nat
 |⟨_,_,_,kids⟩=>1+Ex.a8 kids
def Ex.a8:List Ex→Nat
 | []=>0
 |x::l=>1+x.size+Ex.a8 l
end
mutual
def Ex.depth:Ex→Nat
 |⟨_,_,_,kids⟩=>Ex.pD kids+1
def Ex.pD:List Ex→Nat
 | []=>0
 |x::l=>max x.depth (Ex.pD l)
end
def aaq (x:Ex):Option Int:=if x.size<4611686018427387904 then some (x.depth:Int)else none
theorem Ex.dr {x:Ex} : ∀ {l:List Ex},x∈l→x.size<Ex.a8 l
 |y::l,h=>by
  simp only[Ex.a8]
  rcases List.mem_cons.1 h with rfl|h
  ·omega
  ·have:=Ex.dr h;omega
theorem Ex.eR : ∀ (l:List Ex),l.length≤Ex.a8 l
 | []=>Nat.le_refl _
 |x::l=>by simp only[Ex.a8,List.length_cons];have:=Ex.eR l;omega
def Nh (t:pC):Int×Int:=
 if t.kind != 4 then(0,0)
 else if t.text == [124,124]then(17,1)
 else if t.text == [38,38]then(16,2)
 else if t.text == [61,61]then(14,3)
 else if t.text == [33,61]then(15,3)
 else if t.text == [60]then(10,4)
 else if t.text == [60,61]then(11,4)
 else if t.text == [62]then(12,4)
 else if t.text == [62,61]then(13,4)
 else if t.text == [43]then(8,5)
 else if t.text == [45]then(9,5)
 else if t.text == [42]then(5,6)
 else if t.text == [47]then(6,6)
 else if t.text == [37]then(7,6)
 else(0,0)
structure Rd where
 l:List pC
 i:Nat
 code:Int
 H8:Int
 n:Nat
abbrev Rd.good (r:Rd):Bool:=r.code==0
def Rd.uK (r:Rd):Option pC:=(ZW r.l r.i).bind fun t=>if decide (0≤t.kind) && decide (t.kind≤4)then some t else none
def Rd.bad (c:Int) (r:Rd):Option Rd:=if r.good then r.uK.bind fun t=>some {r with code:=c,H8:=t.pos}else some r
def Rd.is (text:aF) (r:Rd):Option Bool:=r.uK.bind fun t=>some ((t.kind==3 ||t.kind==4) && t.text==text)
def Rd.take (text:aF) (r:Rd):Option (Bool×Rd):=
 if !r.good then some (false,r)else(r.is text).bind fun b=>if !b then some (false,r)else some (true,{r with i:=r.i+1})
def Rd.want (text:aF) (r:Rd):Option Rd:=(r.take text).bind fun p=>if !p.1 then p.2.bad 3 else some p.2
def Rd.name (room:Bool) (r:Rd):Option (aF×Rd):=
 r.uK.bind fun t=>if !r.good ||t.kind != 1 then(r.bad 3).bind fun r=>some ([],r)else if !room then(r.bad 4).bind fun r=>some ([],r)else some (t.text,{r with i:=r.i+1})
def Rd.on (r:Rd):Rd:= {r with i:=r.i+1}
mutual
def Rd.one:Nat→Rd→Option (Ex×Rd)
 | 0,_=>none
 | n+1,r=>r.uK.bind fun t=>
  if !r.good then some (qC,r)
  else if t.kind==2 then some (⟨1,t.n,[],[]⟩,{r with i:=r.i+1})
  else if t.kind==1 then some (⟨2,0,t.text,[]⟩,{r with i:=r.i+1})
  else(r.take [40]).bind fun p=>
   if p.1 then(Rd.two n 1 p.2).bind fun x=>(x.2.want [41]).bind fun r=>some (x.1,r)
   else(p.2.take [45]).bind fun p=>
    if p.1 then(Rd.one n p.2).bind fun x=>some (⟨3,0,[],[x.1]⟩,x.2)
    else(p.2.take [33]).bind fun p=>
     if p.1 then(Rd.one n p.2).bind fun x=>some (⟨4,0,[],[x.1]⟩,x.2)
     else(p.2.bad 3).bind fun r=>some (qC,r)
def Rd.two:Nat→Int→Rd→Option (Ex×Rd)
 | 0,_,_=>none
 |n+1,least,r=>(Rd.one n r).bind fun x=>Rd.aar n least x.1 x.2
def Rd.aar:Nat→Int→Ex→Rd→Option (Ex×Rd)
 | 0,_,_,_=>none
 | n+1,least,x,r=>
  if r.good then r.uK.bind fun t=>
   if decide ((Nh t).2<least) ||(Nh t).1==0 then some (x,r)
   else(Rd.two n ((Nh t).2+1) {r with i:=r.i+1}).bind fun y=>Rd.aar n least ⟨(Nh t).1,0,[],[x,y.1]⟩ y.2
  else some (x,r)
end
def Rd.whole (n:Nat) (r:Rd):Option (Ex×Rd):=
 r.uK.bind fun t=>(Rd.two n 1 r).bind fun x=>
  if x.2.good then(aaq x.1).bind fun d=>if decide (d > 20)then some (x.1,{x.2 with code:=4,H8:=t.pos})else some (x.1,x.2)
  else some (x.1,x.2)
def Rd.names:Nat→List aF→Int→Rd→Option (List aF×Rd)
 | 0,_,_,_=>none
 | n+1,l,aas,r=>
  if r.good then(r.name (decide ((l.length:Int)<aas))).bind fun p=>(push 17 l p.1).bind fun l=>(p.2.take [44]).bind fun q=>
   if !q.1 then(q.2.want [59]).bind fun r=>some (l,r)else Rd.names n l aas q.2
  else some (l,r)
def Rd.ahead (sign:aF) (r:Rd):Option Bool:=
 if r.good then r.uK.bind fun t=>if t.kind==1 then(ZW r.l (r.i+1)).bind fun u=>some (u.kind==4 && u.text==sign)else some false
 else some false
def Rd.labels:Nat→List aF→Rd→Option (List aF×Rd)
 | 0,_,_=>none
 |n+1,l,r=>(r.ahead [58]).bind fun b=>if b then r.uK.bind fun t=>(push 17 l t.text).bind fun l=>Rd.labels n l {r with i:=r.i+2}else some (l,r)
def Rd.aat (r:Rd):Option Bool:=
 r.uK.bind fun t=>some (if t.kind==1 then true else if t.kind != 3 then false
  else t.text == [105,102] ||t.text == [119,104,105,108,101] ||t.text == [98,114,101,97,107] ||t.text == [99,111,110,116,105,110,117,101] ||t.text == [114,101,116,117,114,110] ||t.text == [103,111,116,111] ||t.text == [114,101,97,100] ||t.text == [112,114,105,110,116])
def Rd.Ni (m:Nat):Nat→List Ar→Rd→Option (List Ar×Rd)
 | 0,_,_=>none
 | n+1,l,r=>
  if r.good then(r.take [114,101,102]).bind fun p=>
   if p.1 then(p.2.name true).bind fun x=>(push 81 l ⟨true,x.1,qC⟩).bind fun l=>(x.2.take [44]).bind fun c=>if !c.1 then some (l,c.2)else Rd.Ni m n l c.2
   else(Rd.whole m p.2).bind fun x=>(push 81 l ⟨false,[],x.1⟩).bind fun l=>(x.2.take [44]).bind fun c=>if !c.1 then some (l,c.2)else Rd.Ni m n l c.2
  else some (l,r)
def Rd.other (sign:aF) (r:Rd):Option Bool:=if r.good then(r.is sign).bind fun b=>some !b else some false
def Rd.call (m:Nat) (name proc:aF) (r:Rd):Option (Sm×Rd):=
 (r.want [40]).bind fun r=>(r.other [41]).bind fun b=>
  if b then(Rd.Ni m m [] r).bind fun q=>(q.2.want [41]).bind fun r=>(r.want [59]).bind fun r=>some (⟨0,4,[],name,proc,qC,false,q.1,[],[]⟩,r)
  else(r.want [41]).bind fun r=>(r.want [59]).bind fun r=>some (⟨0,4,[],name,proc,qC,false,[],[],[]⟩,r)
def Rd.named (m:Nat) (r:Rd):Option (Sm×Rd):=
 (r.name true).bind fun x=>(x.2.is [40]).bind fun b=>
  if b then Rd.call m [] x.1 x.2
  else(x.2.want [61]).bind fun r=>(r.ahead [40]).bind fun b=>
   if b then(r.name true).bind fun y=>Rd.call m x.1 y.1 y.2
   else(Rd.whole m r).bind fun y=>(y.2.want [59]).bind fun r=>some (⟨0,1,[],x.1,[],y.1,false,[],[],[]⟩,r)
def Rd.plain (m:Nat) (word:aF) (r:Rd):Option (Sm×Rd):=
 if word == [98,114,101,97,107]then some (⟨0,7,[],[],[],qC,false,[],[],[]⟩,r)
 else if word == [99,111,110,116,105,110,117,101]then some (⟨0,8,[],[],[],qC,false,[],[],[]⟩,r)
 else if word == [114,101,116,117,114,110]then(r.is [59]).bind fun b=>
  if !b then(Rd.whole m r).bind fun x=>some (⟨0,9,[],[],[],x.1,true,[],[],[]⟩,x.2)else some (⟨0,9,[],[],[],qC,false,[],[],[]⟩,r)
 else if word == [103,111,116,111]then(r.name true).bind fun x=>some (⟨0,10,[],x.1,[],qC,false,[],[],[]⟩,x.2)
 else if word == [114,101,97,100]then(r.name true).bind fun x=>some (⟨0,2,[],x.1,[],qC,false,[],[],[]⟩,x.2)
 else if word == [112,114,105,110,116]then(Rd.whole m r).bind fun x=>some (⟨0,3,[],[],[],x.1,false,[],[],[]⟩,x.2)
 else some (H0,r)
def Rd.head (m:Nat) (r:Rd):Option (Ex×Rd):=(r.want [40]).bind fun r=>(Rd.whole m r).bind fun x=>(x.2.want [41]).bind fun r=>some (x.1,r)
mutual
def Rd.rows (m:Nat):Nat→Int→Bool→Rd→Option ((List Sm×List aF)×Rd)
 | 0,_,_,_=>none
 |n+1,nest,body,r=>Rd.U5 m n nest body [] r
def Rd.U5 (m:Nat):Nat→Int→Bool→List Sm→Rd→Option ((List Sm×List aF)×Rd)
 | 0,_,_,_,_=>none
 | n+1,nest,body,out,r=>
  if r.good then(Rd.labels m [] r).bind fun l=>(l.2.is [125]).bind fun b=>
   if b && (body ||(l.1.length:Int)==0)then some ((out,l.1),{l.2 with i:=l.2.i+1})
   else(Rd.stmt m n nest l.2).bind fun s=>(push 209 out {s.1 with labels:=l.1}).bind fun out=>Rd.U5 m n nest body out s.2
  else some (([],[]),r)
def Rd.stmt (m:Nat):Nat→Int→Rd→Option (Sm×Rd)
 | 0,_,_=>none
 | n+1,nest,r=>r.aat.bind fun b=>
  if !b then(r.bad 3).bind fun r=>some (H0,r)
  else(inc r.n).bind fun k=>
   if decide ((k:Int) > 200) ||decide (nest > 12)then(({r with n:=k} : Rd).bad 4).bind fun r=>some (H0,r)
   else({r with n:=k} : Rd).uK.bind fun t=>
    if t.kind==1 then Rd.named m {r with n:=k}
    else if t.text == [105,102]then Rd.choice m n nest {r with n:=k,i:=r.i+1}
    else if t.text == [119,104,105,108,101]then(Rd.head m {r with n:=k,i:=r.i+1}).bind fun x=>(Rd.block m n nest x.2).bind fun b=>some (⟨0,6,[],[],[],x.1,false,[],b.1,[]⟩,b.2)
    else(Rd.plain m t.text {r with n:=k,i:=r.i+1}).bind fun s=>(s.2.want [59]).bind fun r=>some (s.1,r)
def Rd.block (m:Nat):Nat→Int→Rd→Option (List Sm×Rd)
 | 0,_,_=>none
 |n+1,nest,r=>(r.want [123]).bind fun r=>(ah6 nest).bind fun k=>(Rd.rows m n k false r).bind fun p=>some (p.1.1,p.2)
def Rd.choice (m:Nat):Nat→Int→Rd→Option (Sm×Rd)
 | 0,_,_=>none
 |n+1,nest,r=>(Rd.head m r).bind fun x=>(Rd.block m n nest x.2).bind fun t=>(t.2.take [101,108,115,101]).bind fun q=>
  if q.1 then(Rd.block m n nest q.2).bind fun e=>some (⟨0,5,[],[],[],x.1,false,[],t.1,e.1⟩,e.2)
  else some (⟨0,5,[],[],[],x.1,false,[],t.1,[]⟩,q.2)
end
def Rd.params:Nat→List Pm→Rd→Option (List Pm×Rd)
 | 0,_,_=>none
 | n+1,l,r=>
  if r.good then(r.take [114,101,102]).bind fun q=>(q.2.name (decide ((l.length:Int)<8))).bind fun x=>(push 25 l ⟨x.1,q.1⟩).bind fun l=>(x.2.take [44]).bind fun c=>
   if !c.1 then some (l,c.2)else Rd.params n l c.2
  else some (l,r)
def Rd.vars (m:Nat):Nat→List aF→Rd→Option (List aF×Rd)
 | 0,_,_=>none
 |n+1,l,r=>(r.take [118,97,114]).bind fun q=>if q.1 then(Rd.names m l 16 q.2).bind fun x=>Rd.vars m n x.1 x.2 else some (l,q.2)
def Rd.U6 (m:Nat) (name:aF) (ps:List Pm) (r:Rd):Option (Pc×Rd):=
 (Rd.vars m m [] r).bind fun v=>(Rd.rows m m 1 true v.2).bind fun b=>some (⟨name,ps,v.1,b.1.1,b.1.2⟩,b.2)
def Rd.proc (m:Nat) (r:Rd):Option (Pc×Rd):=
 (r.name true).bind fun x=>(x.2.want [40]).bind fun r=>(r.other [41]).bind fun b=>
  if b then(Rd.params m [] r).bind fun q=>(q.2.want [41]).bind fun r=>(r.want [123]).bind fun r=>Rd.U6 m x.1 q.1 r
  else(r.want [41]).bind fun r=>(r.want [123]).bind fun r=>Rd.U6 m x.1 [] r
def Rd.globals (m:Nat):Nat→List aF→Rd→Option (List aF×Rd)
 | 0,_,_=>none
 |n+1,l,r=>(r.take [103,108,111,98,97,108]).bind fun q=>if q.1 then(Rd.names m l 16 q.2).bind fun x=>Rd.globals m n x.1 x.2 else some (l,q.2)
def Rd.aau (r:Rd):Option Bool:=if r.good then r.is [112,114,111,99]else some false
def Rd.PW (r:Rd):Option Bool:=if r.good then r.uK.bind fun t=>some (t.kind != 0)else some false
def Rd.procs (m:Nat):Nat→List Pc→Rd→Option (List Pc×Rd)
 | 0,_,_=>none
 | n+1,l,r=>r.aau.bind fun b=>
  if b then
   if(l.length:Int)==16 then(r.bad 4).bind fun r=>some (l,r)
   else(Rd.proc m {r with i:=r.i+1}).bind fun x=>(push 113 l x.1).bind fun l=>Rd.procs m n l x.2
  else r.PW.bind fun b=>if b then(r.bad 3).bind fun r=>some (l,r)else some (l,r)
def Rd.program (m:Nat) (r:Rd):Option (Pg×Rd):=(Rd.globals m m [] r).bind fun g=>(Rd.procs m m [] g.2).bind fun q=>some (⟨g.1,q.1⟩,q.2)
mutual
def Ex.beq:Ex→Ex→Bool
 |⟨op,n,name,kids⟩,⟨op',n',Nj,U7⟩=>if op != op' ||n != n' || !(name==Nj) ||(kids.length:Int) != (U7.length:Int)then false else Ex.pj kids U7
def Ex.pj:List Ex→List Ex→Bool
 | [],_=>true
 |_::_,[]=>true
 |x::l,y::l'=>if !Ex.beq x y then false else Ex.pj l l'
end
def Ar.a8:List Ar→Nat
 | []=>0
 |a::l=>1+a.x.size+Ar.a8 l
mutual
def Sm.size:Sm→Nat
 |⟨_,_,labels,_,_,x,_,args,aY,aW⟩=>1+labels.length+x.size+Ar.a8 args+Sm.a8 aY+Sm.a8 aW
def Sm.a8:List Sm→Nat
 | []=>0
 |s::l=>1+s.size+Sm.a8 l
end
def Pc.size (f:Pc):Nat:=1+f.params.length+f.vars.length+f.fin.length+Sm.a8 f.body
def Pc.a8:List Pc→Nat
 | []=>0
 |f::l=>1+f.size+Pc.a8 l
def Pg.size (p:Pg):Nat:=1+p.globals.length+Pc.a8 p.procs
mutual
def Sm.num (b:Bool) (n:Nat):Sm→Sm×Nat
 |⟨id,kind,labels,name,proc,x,has,args,aY,aW⟩=>
  (⟨if b then((n+1:Nat):Int)else id,kind,labels,name,proc,x,has,args,(Sm.tc b (n+1) aY).1,(Sm.tc b (Sm.tc b (n+1) aY).2 aW).1⟩,(Sm.tc b (Sm.tc b (n+1) aY).2 aW).2)
def Sm.tc (b:Bool) (n:Nat):List Sm→List Sm×Nat
 | []=>([],n)
 |s::l=>((Sm.num b n s).1::(Sm.tc b (Sm.num b n s).2 l).1,(Sm.tc b (Sm.num b n s).2 l).2)
end
def Pc.tc (n:Nat):List Pc→List Pc
 | []=> []
 |f::l=> {f with body:=(Sm.tc true n f.body).1}::Pc.tc (Sm.tc true n f.body).2 l
def Pg.number (p:Pg):Pg:= {p with procs:=Pc.tc 0 p.procs}
def Pg.Xx (p:Pg):Option Pg:=if p.size<1073741824 then some p.number else none
theorem Sm.eR : ∀ (l:List Sm),l.length≤Sm.a8 l
 | []=>Nat.le_refl _
 |x::l=>by simp only[Sm.a8,List.length_cons];have:=Sm.eR l;omega
theorem Ar.eR : ∀ (l:List Ar),l.length≤Ar.a8 l
 | []=>Nat.le_refl _
 |x::l=>by simp only[Ar.a8,List.length_cons];have:=Ar.eR l;omega
theorem Pc.eR : ∀ (l:List Pc),l.length≤Pc.a8 l
 | []=>Nat.le_refl _
 |x::l=>by simp only[Pc.a8,List.length_cons];have:=Pc.eR l;omega
theorem Ar.dr {x:Ar} : ∀ {l:List Ar},x∈l→x.x.size<Ar.a8 l
 |y::l,h=>by
  simp only[Ar.a8]
  rcases List.mem_cons.1 h with rfl|h
  ·omega
  ·have:=Ar.dr h;omega
theorem Sm.dr {x:Sm} : ∀ {l:List Sm},x∈l→x.size<Sm.a8 l
 |y::l,h=>by
  simp only[Sm.a8]
  rcases List.mem_cons.1 h with rfl|h
  ·omega
  ·have:=Sm.dr h;omega
theorem Pc.dr {x:Pc} : ∀ {l:List Pc},x∈l→x.size<Pc.a8 l
 |y::l,h=>by
  simp only[Pc.a8]
  rcases List.mem_cons.1 h with rfl|h
  ·omega
  ·have:=Pc.dr h;omega
mutual
def Sm.jf:Sm→Nat
 |⟨_,_,_,_,_,_,_,_,aY,aW⟩=>1+Sm.iM aY+Sm.iM aW
def Sm.iM:List Sm→Nat
 | []=>0
 |s::l=>s.jf+Sm.iM l
end
structure Im where
 s:Sm
 proc:Int
 up:Int
 next:Int
 loop:Int
mutual
def Im.one (proc up next loop:Int) (out:List Im):Sm→List Im
 | ⟨id,kind,labels,name,pc,x,has,args,aY,aW⟩=>
  Im.rows proc ((out.length:Int)+1) (if kind==6 then(out.length:Int)+1 else next) (if kind==6 then(out.length:Int)+1 else loop)
   (Im.rows proc ((out.length:Int)+1) (if kind==6 then(out.length:Int)+1 else next) (if kind==6 then(out.length:Int)+1 else loop) (out++ [⟨⟨id,kind,labels,name,pc,x,has,args,aY,aW⟩,proc,up,next,loop⟩]) aY) aW
def Im.rows (proc up next loop:Int) (out:List Im):List Sm→List Im
 | []=>out
 |s::l=>Im.rows proc up next loop (Im.one proc up (if l.length=0 then next else(out.length:Int)+1+(s.jf:Int)) loop out s) l
end
theorem Im.aav (proc up next loop:Int) (out:List Im) (s:Sm):Im.one proc up next loop out s =
 Im.rows proc ((out.length:Int)+1) (if s.kind==6 then(out.length:Int)+1 else next) (if s.kind==6 then(out.length:Int)+1 else loop)
  (Im.rows proc ((out.length:Int)+1) (if s.kind==6 then(out.length:Int)+1 else next) (if s.kind==6 then(out.length:Int)+1 else loop) (out++ [⟨s,proc,up,next,loop⟩]) s.aY) s.aW:=by
 cases s;simp only[Im.one]
mutual
theorem Xy (proc up next loop:Int) (out:List Im) : ∀ s:Sm,(Im.one proc up next loop out s).length=out.length+s.jf
 |⟨id,kind,labels,name,pc,x,has,args,aY,aW⟩=>by
  simp only[Im.one,Sm.jf]
  rw[gn,gn]
  simp only[List.length_append,List.length_cons,List.length_nil];omega
theorem gn (proc up next loop:Int) (out:List Im) : ∀ l:List Sm,(Im.rows proc up next loop out l).length=out.length+Sm.iM l
 | []=>rfl
 |s::l=>by
  simp only[Im.rows,Sm.iM]
  rw[gn,Xy];omega
end
mutual
theorem Cy : ∀ s:Sm,s.jf≤s.size
 |⟨_,_,labels,_,_,x,_,args,aY,aW⟩=>by
  have:=ni aY;have:=ni aW
  simp only[Sm.jf,Sm.size];omega
theorem ni : ∀ l:List Sm,Sm.iM l≤Sm.a8 l
 | []=>Nat.le_refl _
 |s::l=>by
  have:=Cy s;have:=ni l
  simp only[Sm.iM,Sm.a8];omega
end
structure Sh where
 L:List Im
 lo:List Int
 hi:List Int
def Sh.go (i:Nat) (h:Sh):List Pc→Sh
 | []=>h
 |f::l=>Sh.go (i+1) ⟨Im.rows i 0 (-1) 0 h.L f.body,h.lo++ [(h.L.length:Int)+1],h.hi++ [((Im.rows i 0 (-1) 0 h.L f.body).length:Int)+1]⟩ l
def Pg.aX (p:Pg):Sh:=Sh.go 0 ⟨[],[],[]⟩ p.procs
def Xz:Nat:=3
def vJ:Nat:=4
def U8:Nat:=5
def S8:Nat:=6
def U9:Nat:=7
def Va:Nat:=8
def XA:Nat:=9
def Vb:Nat:=10
def Vc:Nat:=11
def S9:Nat:=12
def Vd:Nat:=13
def Ta:Nat:=14
def wy:Nat:=15
def wz:Nat:=16
def rF:Nat:=17
def acO:Nat:=18
def pP:Nat:=19
def se:Nat:=20
def Yz:Nat:=21
def YA:Nat:=22
def YB:Nat:=23
def qH:Nat:=24
def td:Nat:=25
def aeh:Nat:=26
def acP:Nat:=27
def kY:Nat:=28
def mI:Nat:=29
def acQ:Nat:=30
def aaw:Nat:=31
def acR:Nat:=32
def aei:Nat:=33
def XB:Nat:=34
def Ve:Nat:=35
def qI:Nat:=36
def YC:Nat:=37
def wA:Nat:=38
def wB:Nat:=39
def jo:Nat:=40
def ga:Nat:=41
def kv:Nat:=42
def kD:Nat:=43
def iT:Nat:=44
def ic:Nat:=45
def oA:Nat:=46
def nY:Nat:=47
def p6:Nat:=48
def nZ:Nat:=49
def aax:Nat:=50
def Kw:Nat:=51
def Nk:Nat:=52
def wC:Nat:=53
def acS:Nat:=54
def pE:Nat:=55
def Tb:Nat:=56
def aay:Nat:=57
def Tc:Nat:=58
def acT:Nat:=59
def aej:Nat:=60
def YD:Nat:=61
def aek:Nat:=62
def Vf:Nat:=63
def mJ:Nat:=64
def nC:Nat:=65
def kb:Nat:=66
def YE:Nat:=67
def qJ:Nat:=68
def kN:Nat:=69
def ub:Nat:=70
def jL:Nat:=71
def jM:Nat:=72
def uL:Nat:=73
def oB:Nat:=74
def fW:Nat:=75
def lj:Nat:=76
def ix:Nat:=77
def jF:Nat:=78
def dV:Nat:=79
def og:Nat:=80
def pF:Nat:=81
def kx:Nat:=82
def ael:Nat:=83
def aaz:Nat:=84
def acU:Nat:=85
def YF:Nat:=86
def Oa:Nat:=87
def Kx:Nat:=88
def aaA:Nat:=89
def YG:Nat:=90
def Nl:Nat:=91
def Nn:Nat:=92
def Ky:Nat:=93
def PX:Nat:=94
def lA:Nat:=95
def pQ:Nat:=96
def uM:Nat:=97
def tf:Nat:=98
def wD:Nat:=99
def Vg:Nat:=100
def aem:Nat:=101
def Vh:Nat:=102
def XC:Nat:=103
def qK:Nat:=104
def An:Nat:=105
def yh:Nat:=106
def ti:Nat:=107
def lT:Nat:=108
def kj:Nat:=109
def sf:Nat:=110
def fO:Nat:=111
def vK:Nat:=112
def mK:Nat:=113
def gB:Nat:=114
def bY:Nat:=115
def aaB:Nat:=116
def aaC:Nat:=117
def aaD:Nat:=118
def Vi:Nat:=119
def J0:Nat:=120
def Oc:Nat:=121
def XD:Nat:=122
def aaE:Nat:=123
def aaF:Nat:=124
def aen:Nat:=125
def aeo:Nat:=126
def No:Nat:=127
def nL:Nat:=128
def fP:Nat:=129
def oh:Nat:=130
def pR:Nat:=131
def uN:Nat:=132
def qL:Nat:=133
def pG:Nat:=134
def uO:Nat:=135
def qM:Nat:=136
def rG:Nat:=137
def aaG:Nat:=138
def aep:Nat:=139
def Vj:Nat:=140
def wE:Nat:=141
def oD:Nat:=142
def qN:Nat:=143
def tj:Nat:=144
def kO:Nat:=145
def oE:Nat:=146
def aeq:Nat:=147
def aaH:Nat:=148
def aaI:Nat:=149
def aaJ:Nat:=150
def YH:Nat:=151
def acV:Nat:=152
def acW:Nat:=153
def agK:Nat:=154
def Vk:Nat:=155
def YI:Nat:=156
def YJ:Nat:=157
def aaK:Nat:=158
def acX:Nat:=159
def YK:Nat:=160
def aaL:Nat:=161
def aer:Nat:=162
def aes:Nat:=163
def Vl:Nat:=164
def XE:Nat:=165
def aaM:Nat:=166
def kE:Nat:=167
def qO:Nat:=168
def uP:Nat:=169
def uQ:Nat:=170
def tn:Nat:=171
def wF:Nat:=172
def jg:Nat:=173
def jA:Nat:=174
def wG:Nat:=175
def yi:Nat:=176
def qP:Nat:=177
def yj:Nat:=178
def aaN:Nat:=179
def acY:Nat:=180
def aet:Nat:=181
def aaO:Nat:=182
def XF:Nat:=183
def aeu:Nat:=184
def acZ:Nat:=185
def aev:Nat:=186
def ac0:Nat:=187
def ac1:Nat:=188
def qQ:Nat:=189
def gC:Nat:=190
def oi:Nat:=191
def tq:Nat:=192
def DA:Nat:=193
def Vm:Nat:=194
def jh:Nat:=195
def tr:Nat:=196
def rH:Nat:=197
def aaP:Nat:=198
def aaQ:Nat:=199
def ac2:Nat:=200
def XG:Nat:=201
def ac3:Nat:=202
def aew:Nat:=203
def J1:Nat:=204
def YL:Nat:=205
def YM:Nat:=206
def iD:Nat:=207
def Ao:Nat:=208
def C6:Nat:=209
def Ap:Nat:=210
def BI:Nat:=211
def Bk:Nat:=212
def wT:Nat:=213
def Rg:Nat:=214
def zF:Nat:=215
def Cz:Nat:=216
def Rh:Nat:=217
def Ri:Nat:=218
def aaR:Nat:=219
def ac4:Nat:=220
def ac5:Nat:=221
def YN:Nat:=222
def aaS:Nat:=223
def C7:Nat:=224
def Js:Nat:=225
def J2:Nat:=226
def zG:Nat:=227
def Ek:Nat:=228
def PY:Nat:=229
def El:Nat:=230
abbrev AI.o (t:Nat) (a:AO):AI:= .op (some t) none a
abbrev AI.g (t c:Nat) (b:Bool) (a:AO):AI:= .op (some t) (some (c,b)) a
abbrev AI.c (t f:Nat) (l:List X):AI:= .call (some t) none f l
abbrev AI.d (t c:Nat) (b:Bool) (f:Nat) (l:List X):AI:= .call (some t) (some (c,b)) f l
abbrev AI.m (t:Nat) (x:X):AI:= .op (some t) none (.mv x)
abbrev bu:X:= .s 0
abbrev bx:X:= .s 1
abbrev dv:X:= .s 2
abbrev cz:X:= .s 3
abbrev fB:X:= .s 4
abbrev bZ:X:= .s 5
abbrev dz:X:= .s 6
abbrev dd:X:= .s 7
abbrev cZ:X:= .s 8
abbrev dA:X:= .s 9
abbrev bX:X:= .s 10
abbrev dg:X:= .s 11
abbrev c6:X:= .s 12
abbrev de:X:= .s 13
abbrev cO:X:= .s 14
abbrev dE:X:= .s 15
abbrev dn:X:= .s 16
abbrev dG:X:= .s 17
abbrev dF:X:= .s 18
abbrev ei:X:= .s 19
abbrev ew:X:= .s 20
abbrev eo:X:= .s 21
abbrev ey:X:= .s 22
abbrev ep:X:= .s 23
abbrev eH:X:= .s 24
abbrev eI:X:= .s 25
abbrev fk:X:= .s 26
abbrev fm:X:= .s 27
abbrev gb:X:= .s 28
abbrev gd:X:= .s 29
abbrev gD:X:= .s 30
abbrev gp:X:= .s 31
abbrev gL:X:= .s 32
abbrev gE:X:= .s 33
abbrev iA:X:= .s 34
abbrev gM:X:= .s 35
abbrev ie:X:= .s 36
abbrev iY:X:= .s 37
abbrev jN:X:= .s 38
abbrev jy:X:= .s 39
abbrev kd:X:= .s 40
abbrev jO:X:= .s 41
abbrev kF:X:= .s 42
abbrev kq:X:= .s 43
abbrev lf:X:= .s 44
abbrev lU:X:= .s 45
abbrev lV:X:= .s 46
abbrev mL:X:= .s 47
abbrev lu:X:= .s 48
abbrev lx:X:= .s 49
abbrev lW:X:= .s 50
abbrev lg:X:= .s 51
abbrev lh:X:= .s 52
abbrev ly:X:= .s 53
abbrev lX:X:= .s 54
abbrev lY:X:= .s 55
abbrev n6:X:= .s 56
abbrev pk:X:= .s 57
abbrev oG:X:= .s 58
abbrev mM:X:= .s 59
abbrev p7:X:= .s 60
abbrev rI:X:= .s 61
abbrev qR:X:= .s 62
abbrev rJ:X:= .s 63
abbrev rK:X:= .s 64
abbrev uR:X:= .s 65
abbrev wH:X:= .s 66
abbrev wI:X:= .s 67
abbrev uS:X:= .s 68
abbrev yk:X:= .s 69
abbrev yl:X:= .s 70
abbrev CA:X:= .s 71
abbrev Aq:X:= .s 72
abbrev As:X:= .s 73
abbrev CC:X:= .s 74
abbrev CD:X:= .s 75
abbrev Au:X:= .s 76
abbrev CF:X:= .s 77
abbrev ym:X:= .s 78
abbrev EF:X:= .s 79
abbrev EG:X:= .s 80
abbrev EH:X:= .s 81
abbrev H9:X:= .s 82
abbrev Ia:X:= .s 83
abbrev Ib:X:= .s 84
abbrev Ic:X:= .s 85
abbrev Ie:X:= .s 86
abbrev Ig:X:= .s 87
abbrev Ih:X:= .s 88
abbrev CG:X:= .s 89
abbrev EI:X:= .s 90
abbrev Ii:X:= .s 91
abbrev Np:X:= .s 92
abbrev Td:X:= .s 93
abbrev Te:X:= .s 94
abbrev Tf:X:= .s 95
abbrev aaT:X:= .s 96
abbrev aaU:X:= .s 97
abbrev aaV:X:= .s 98
abbrev aaW:X:= .s 99
abbrev Vn:X:= .s 100
abbrev Vo:X:= .s 101
abbrev Vp:X:= .s 102
abbrev Vq:X:= .s 103
abbrev Vr:X:= .s 104
abbrev Vs:X:= .s 105
abbrev Vt:X:= .s 106
abbrev Vu:X:= .s 107
abbrev Vv:X:= .s 108
abbrev aex:X:= .s 109
abbrev Vw:X:= .s 110
abbrev Vx:X:= .s 111
abbrev Nq:X:= .s 112
abbrev Vy:X:= .s 113
abbrev Vz:X:= .s 114
abbrev VA:X:= .s 115
abbrev VB:X:= .s 116
abbrev VC:X:= .s 117
abbrev VD:X:= .s 118
abbrev VE:X:= .s 119
abbrev VF:X:= .s 120
abbrev VG:X:= .s 121
abbrev VH:X:= .s 122
abbrev VI:X:= .s 123
abbrev VJ:X:= .s 124
abbrev VK:X:= .s 125
abbrev aey:X:= .s 126
abbrev VL:X:= .s 127
abbrev DB:X:= .s 128
abbrev VM:X:= .s 129
abbrev VN:X:= .s 130
abbrev aez:X:= .s 131
abbrev aeA:X:= .s 132
abbrev aeB:X:= .s 133
abbrev aeC:X:= .s 134
abbrev aeD:X:= .s 135
abbrev aeE:X:= .s 136
abbrev aeF:X:= .s 137
abbrev aeG:X:= .s 138
abbrev aeH:X:= .s 139
abbrev aeI:X:= .s 140
abbrev aeJ:X:= .s 141
abbrev aeK:X:= .s 142
abbrev aeL:X:= .s 143
abbrev aeM:X:= .s 144
abbrev aeN:X:= .s 145
abbrev aeO:X:= .s 146
abbrev aeP:X:= .s 147
abbrev aeQ:X:= .s 148
abbrev aeR:X:= .s 149
abbrev aeS:X:= .s 150
abbrev aeT:X:= .s 151
abbrev aeU:X:= .s 152
abbrev aeV:X:= .s 153
abbrev aeW:X:= .s 154
abbrev aeX:X:= .s 155
abbrev aeY:X:= .s 156
abbrev aeZ:X:= .s 157
abbrev ae0:X:= .s 158
abbrev ae1:X:= .s 159
abbrev ae2:X:= .s 160
abbrev ae3:X:= .s 161
abbrev ae4:X:= .s 162
abbrev ae5:X:= .s 163
abbrev ae6:X:= .s 164
abbrev ae7:X:= .s 165
abbrev ae8:X:= .s 166
abbrev ae9:X:= .s 167
abbrev afa:X:= .s 168
abbrev afb:X:= .s 169
abbrev afc:X:= .s 170
abbrev afd:X:= .s 171
abbrev afe:X:= .s 172
abbrev aff:X:= .s 173
abbrev afg:X:= .s 174
abbrev afh:X:= .s 175
abbrev Q04:AC:= .cond bX (.seq (.run [.o 6 (.mv (.k (.bool false)))]) .ret) .skip
abbrev Q09:AC:= .cond de (.seq (.run [.o 6 (.mv (.k (.bool true)))]) .ret) .skip
abbrev Q0E:AC:= .cond gb (.seq (.run [.o 6 (.mv (.k (.bool true)))]) .ret) .skip
abbrev Q0J:AC:= .seq (.run [.o 30 (.load cz true 2), .m 31 bx, .m 32 dv,(.o 33 (.du [(.int .i64 0)] 1 3 [(0,(.k (.int .i64 1))),(1,(.k (.int .i64 2))),(2,(.k (.int .i64 3)))])), .c 34 rF [gD,gp,gL,gE], .m 29 iA, .o 35 (.ext gd 0), .o 36 (.ext gd 1), .o 7 (.alloc [(.int .i64 0),(.int .i64 0),(.int .i64 0),(.slice .full 0 []),(.slice .full 0 [])]), .op none none (.store dd gM 5), .m 8 ie]) (.seq (.run [.m 37 cZ, .o 38 (.bin .eql iY (.k (.int .i64 1))), .m 39 jN, .g 40 39 true (.load dd true 5), .g 41 39 true (.build [(.int .i64 0),(.int .i64 0),(.int .i64 0),(.slice .full 0 []),(.slice .full 0 [])] []), .d 42 39 true pP [kd,jO], .o 43 (.pick jy kF (.k (.bool false))), .m 6 kq]) .ret)
abbrev Q0K:AC:= .seq (.seq (.run [.o 14 (.load cz true 2), .c 15 se [cO], .m 16 dE, .g 17 16 true (.mv dv), .g 18 16 true (.bin .geq dG (.k (.int .i64 0))), .o 19 (.pick dn dF (.k (.bool false))), .m 20 ei, .g 21 20 true (.mv dv), .g 22 20 true (.bin .leq eo (.k (.int .i64 1000000))), .o 23 (.pick ew ey (.k (.bool false))), .m 24 ep, .g 25 24 false (.mv bx), .g 26 24 false (.len eI), .g 27 24 false (.bin .gtr fk (.k (.int .i64 100))), .o 28 (.pick eH (.k (.bool true)) fm)]) Q0E) Q0J
abbrev Q0N:AC:= .seq (.run [.o 3 (.box bu), .o 6 (.mv (.k (.bool false)))]) (.seq (.seq (.run [.c 9 wy [], .o 10 (.un .not dA)]) Q04) (.seq (.seq (.run [.o 11 (.load cz true 2), .c 12 wz [dg], .o 13 (.un .not c6)]) Q09) Q0K))
abbrev Q0Q:AC:= .run [.m 9 dv, .o 10 (.bin .eql dA (.k (.int .i64 0))), .m 11 bX, .g 12 11 true (.aq bx 0), .g 13 11 true (.load c6 false 1), .g 14 11 true (.bin .eql de (.k (.int .i64 1))), .o 15 (.pick dg cO (.k (.bool false))), .m 16 dE, .g 17 16 true (.aq bx 1), .g 18 16 true (.load dG false 1), .g 19 16 true (.bin .eql dF (.k (.int .i64 7))), .o 20 (.pick dn ei (.k (.bool false))), .m 21 ew, .g 22 21 true (.aq bx 3), .g 23 21 true (.load ey false 1),(.g 24 21 true (.du [(.int .i64 0)] 1 2 [(0,(.k (.int .i64 5))),(1,(.k (.int .i64 5)))])), .d 25 21 true kY [ep,eH], .o 26 (.pick eo eI (.k (.bool false))), .m 27 fk, .g 28 27 true (.aq bx 4), .g 29 27 true (.load gb false 1), .g 30 27 true (.len gd), .g 31 27 true (.bin .eql gD (.k (.int .i64 2))), .o 32 (.pick fm gp (.k (.bool false))), .m 33 gL, .g 34 33 true (.aq bx 4), .g 35 33 true (.load iA false 1), .g 36 33 true (.cq gM (.k (.int .i64 0)) 2), .g 37 33 true (.aq ie 0), .g 38 33 true (.load iY false 1), .g 39 33 true (.bin .eql jN (.k (.int .i64 2))), .o 40 (.pick gE jy (.k (.bool false))), .m 41 kd, .g 42 41 true (.aq bx 4), .g 43 41 true (.load kF false 1), .g 44 41 true (.cq kq (.k (.int .i64 1)) 2), .g 45 41 true (.aq lf 1), .g 46 41 true (.load lU false 1),(.g 47 41 true (.du [(.int .i64 0)] 1 1 [(0,(.k (.int .i64 5)))])), .d 48 41 true kY [lV,mL], .o 49 (.pick jO lu (.k (.bool false))), .m 50 lx, .g 51 50 true (.load bx true 5), .d 52 50 true wA [lg], .g 53 50 true (.ql .real lh lh),(.g 54 50 true (.ql .eq ly (.k (.val (.float .f64 4619567317775286272))))), .o 55 (.pick lW lX (.k (.bool false))), .m 0 lY]
abbrev Q0S:AC:= .seq (.run [.c 4 wB [],(.o 5 (.du [(.int .i64 0)] 1 2 [(0,(.k (.int .i64 5))),(1,(.k (.int .i64 2)))])),(.c 6 rF [fB,(.k (.slice .full 0 [])),(.k (.int .i64 50)),bZ]), .m 3 dz, .o 7 (.ext cz 0), .o 8 (.ext cz 1), .o 1 (.alloc [(.int .i64 0),(.int .i64 0),(.int .i64 0),(.slice .full 0 []),(.slice .full 0 [])]), .op none none (.store bx dd 5), .m 2 cZ]) (.seq Q0Q .ret)
abbrev Q0T:AC:= .seq (.run [.o 0 (.mv (.k (.bool false)))]) Q0S
abbrev Q11:AC:= .par [.o 26 (.aq bZ 4), .o 27 (.load fk false 1), .o 28 (.aq bZ 2), .o 29 (.load gb false 1), .o 30 (.aq bZ 0), .o 31 (.load gD false 1), .m 32 cz, .c 33 ga [gp,gL], .c 34 jo [gd,gE], .c 35 jo [fm,iA], .m 3 gM] [(4,0),(5,0),(6,0),(7,0),(2,0),(3,1),(8,0),(0,0),(1,2),(9,0),(10,0)]
abbrev Q1A:AC:= .seq (.seq (.run [.m 36 dz, .o 37 (.aq bZ 1), .o 38 (.load iY false 1), .o 39 (.len jN), .o 40 (.bin .lss ie jy), .m 41 kd, .g 42 41 true (.mv cz), .g 43 41 true (.bin .leq kF (.k (.int .i64 20000))), .o 44 (.pick jO kq (.k (.bool false)))]) (.cond lf .skip (.exit 2))) (.seq (.block 3 (.run [.o 47 (.aq bZ 1), .o 48 (.load mL false 1), .m 49 dz, .o 50 (.cq lu lx 2), .o 51 (.aq lW 0), .o 52 (.load lg false 1), .m 53 cz, .c 54 ga [lh,ly], .m 3 lX])) (.run [.m 45 dz, .o 46 (.bin .add lU (.k (.int .i64 1))), .m 6 lV]))
abbrev Q1F:AC:= .seq (.seq (.run [.o 6 (.mv (.k (.int .i64 0)))]) (.block 2 (.loop Q1A))) (.run [.o 55 (.aq bZ 3), .o 56 (.load lY false 1), .m 57 cz, .c 58 kv [n6,pk], .m 3 oG])
abbrev Q1K:AC:= .seq (.block 1 (.seq (.run [.o 21 (.aq bx 1), .o 22 (.load eo false 1), .m 23 fB, .o 24 (.cq ey ep 5), .o 25 (.load eH true 5), .o 5 (.alloc [(.str []),(.slice .full 0 []),(.slice .full 0 []),(.slice .full 0 []),(.slice .full 0 [])]), .op none none (.store bZ eI 5)]) (.seq Q11 Q1F))) (.run [.m 19 fB, .o 20 (.bin .add ei (.k (.int .i64 1))), .m 4 ew])
abbrev Q1L:AC:= .seq (.seq (.run [.m 10 fB, .o 11 (.aq bx 1), .o 12 (.load dg false 1), .o 13 (.len c6), .o 14 (.bin .lss bX de), .m 15 cO, .g 16 15 true (.mv cz), .g 17 15 true (.bin .leq dn (.k (.int .i64 20000))), .o 18 (.pick dE dG (.k (.bool false)))]) (.cond dF .skip (.exit 0))) Q1K
abbrev Q1R:AC:= .seq (.seq (.run [.o 4 (.mv (.k (.int .i64 0)))]) (.block 0 (.loop Q1L))) (.seq (.run [.m 59 cz, .o 60 (.bin .leq mM (.k (.int .i64 20000))), .m 2 p7]) .ret)
abbrev Q1T:AC:= .seq (.run [.o 1 (.box bu), .o 2 (.mv (.k (.bool false)))]) (.seq (.run [.o 7 (.aq bx 0), .o 8 (.load dd false 1), .c 9 jo [cZ,(.k (.int .i64 0))], .m 3 dA]) Q1R)
abbrev Q1Y:AC:= .cond eH (.seq (.run [.o 25 (.build [(.int .i64 0),(.int .i64 0),(.int .i64 0),(.slice .full 0 []),(.slice .full 0 [])] []), .op none none (.store cZ eI 5), .o 9 (.mv (.k (.int .i64 1)))]) .ret) .skip
abbrev Q28:AC:= .seq (.cond ie .skip (.exit 0)) (.seq (.block 1 (.run [.m 37 bX, .m 38 bX, .o 39 (.bO jN), .o 40 (.aq jy 1), .o 41 (.load kd false 1), .o 42 (.alloc [(.int .i64 0)]), .o 43 (.du [.dN] 1 1 [(0,kF)]), .o 44 (.app 1 8 jO kq), .o 45 (.bO iY), .o 46 (.aq lU 1), .op none none (.store lV lf 1)])) (.run [.o 47 (.bin .add gM (.k (.int .i64 1))), .m 35 mL]))
abbrev Q29:AC:= .seq (.run [.o 36 (.bin .lss gM iA)]) Q28
abbrev Q2J:AC:= .cond n6 (.seq (.run [.o 12 (.mv (.k (.int .i64 0)))]) (.goto 0)) .skip
abbrev Q2K:AC:= .seq (.run [.m 55 de,(.o 56 (.bin .eql lY (.k (.int .i64 (-1)))))]) Q2J
abbrev Q2O:AC:= .cond rJ (.seq (.run [.m 64 bX, .o 65 (.bO rK), .o 66 (.aq uR 6), .o 67 (.aq wH 0), .op none none (.store wI (.k (.int .i64 2)) 1)]) (.goto 2)) .skip
abbrev Q30:AC:= .seq (.run [.m 102 bX, .o 103 (.aq dg 0), .o 104 (.load Vq true 13), .c 105 nY [Vp,Vr], .m 12 Vs]) (.seq (.run [.m 106 bX, .o 107 (.bO Vt), .o 108 (.aq Vu 6), .o 109 (.aq Vv 0), .o 110 (.load aex false 1), .o 111 (.bin .eql Vw (.k (.int .i64 0)))]) (.cond Vx (.goto 0) .skip))
abbrev Q34:AC:= .cond Te (.run [.m 96 bX, .o 97 (.aq dg 0), .o 98 (.load aaU true 13), .c 99 oA [aaT,aaV], .m 13 aaW]) (.seq (.run [.o 101 (.bin .eql EI (.k (.int .i64 9))), .m 100 Vo]) (.cond Vn Q30 (.run [.m 91 bX, .o 92 (.load dg true 17), .c 93 p6 [Ii,Np], .m 13 Td])))
abbrev Q36:AC:= .block 2 (.seq (.run [.o 95 (.bin .eql EI (.k (.int .i64 4))), .m 94 Tf]) Q34)
abbrev Q3G:AC:= .seq (.run [.m 127 bX, .o 128 (.bO VL), .o 129 (.aq DB 6), .o 130 (.load VM true 5), .op none none (.store cZ VN 5), .o 9 (.mv (.k (.int .i64 0)))]) .ret
abbrev Q3I:AC:= .seq (.seq (.run [.m 121 bX, .o 122 (.bO VG), .o 123 (.aq VH 6), .o 124 (.aq VI 0), .o 125 (.load VJ false 1), .o 126 (.bin .eql VK (.k (.int .i64 0)))]) (.cond aey (.goto 1) .skip)) (.seq (.label 2) Q3G)
abbrev Q3J:AC:= .seq (.run [.m 118 bX, .m 119 c6, .c 120 nZ [VD,VE], .m 13 VF]) Q3I
abbrev Q3M:AC:= .seq (.seq (.run [.m 112 bX, .o 113 (.bO Nq), .o 114 (.aq Vy 6), .o 115 (.aq Vz 0), .o 116 (.load VA false 1), .o 117 (.bin .eql VB (.k (.int .i64 0)))]) (.cond VC (.goto 1) .skip)) (.seq (.goto 2) (.seq (.label 0) Q3J))
abbrev Q3P:AC:= .seq (.run [.m 68 bX, .o 69 (.bO uS), .o 70 (.aq yk 6), .o 71 (.aq yl 1), .o 72 (.load CA false 1), .o 73 (.bin .add Aq (.k (.int .i64 1))), .o 74 (.bO uS), .o 75 (.aq CC 6), .o 76 (.aq CD 1), .op none none (.store Au As 1)]) (.seq (.run [.m 77 bX, .o 78 (.bO CF), .o 79 (.aq ym 0), .o 80 (.load EF false 1), .o 81 (.bO EG), .o 82 (.aq EH 2), .o 83 (.load H9 false 1), .m 84 de, .o 85 (.bin .sub Ib (.k (.int .i64 1))), .o 86 (.cq Ia Ic 17), .o 87 (.load Ie true 17), .op none none (.store dg Ig 17)]) (.seq (.seq (.run [.o 88 (.aq dg 0), .o 89 (.aq Ih 1), .o 90 (.load CG false 1)]) Q36) Q3M))
abbrev Q3R:AC:= .seq Q2K (.seq (.seq (.run [.m 57 bX, .o 58 (.bO pk), .o 59 (.aq oG 6), .o 60 (.aq mM 1), .o 61 (.load p7 false 1), .m 62 dv, .o 63 (.bin .eql rI qR)]) Q2O) Q3P)
abbrev Q3U:AC:= .seq (.run [.o 12 (.mv (.k (.int .i64 0)))]) (.seq (.run [.m 48 bX, .m 49 bX, .o 50 (.bO lx), .o 51 (.aq lW 0), .o 52 (.load lg false 1),(.c 53 ic [lh,(.k (.str [109,97,105,110]))]),(.c 54 iT [lu,ly,(.k (.slice .full 0 [])),(.k (.int .i64 0))]), .m 13 lX]) (.seq (.label 1) Q3R))
abbrev Q3V:AC:= .seq (.run [.o 11 (.alloc [(.int .i64 0),(.int .i64 0),(.slice .full 0 []),(.str []),(.str []),(.int .i64 0),(.int .i64 0),(.str []),(.slice .full 0 []),(.bool false),(.slice .full 0 []),(.slice .full 0 []),(.slice .full 0 []),(.int .i64 0),(.int .i64 0),(.int .i64 0),(.int .i64 0)])]) Q3U
abbrev Q3W:AC:= .seq (.seq (.run [.o 32 (.aq fB 0), .o 33 (.load gL false 1), .o 34 (.len gE), .o 35 (.mv (.k (.int .i64 0)))]) (.block 0 (.loop Q29))) Q3V
abbrev Q3Y:AC:= .seq (.seq (.run [.m 14 dv, .o 15 (.bin .lss cO (.k (.int .i64 0))), .m 16 dE, .g 17 16 false (.mv dv), .g 18 16 false (.bin .gtr dG (.k (.int .i64 1000000))), .o 19 (.pick dn (.k (.bool true)) dF), .m 20 ei, .g 21 20 false (.load fB true 2), .d 22 20 false se [eo], .g 23 20 false (.un .not ey), .o 24 (.pick ew (.k (.bool true)) ep)]) Q1Y) (.seq (.run [.o 26 (.load fB true 2), .c 27 kD [fk], .m 28 bx, .m 29 cz, .o 30 (.build [.dN,(.slice .full 0 []),(.slice .full 0 []),(.slice .full 0 []),(.slice .full 0 []),(.slice .full 0 []),(.int .i64 0),(.int .i64 0),(.int .i64 0),(.slice .full 0 []),(.slice .full 0 [])] [(0,(1,fm)),(2,(1,gb)),(3,(1,gd))]), .o 31 (.box gD), .m 10 gp]) Q3W)
abbrev Q3Z:AC:= .scope Q3Y
abbrev Q40:AC:= .seq (.run [.o 4 (.box bu), .o 8 (.alloc [(.int .i64 0),(.int .i64 0),(.int .i64 0),(.slice .full 0 []),(.slice .full 0 [])]), .o 9 (.mv (.k (.int .i64 0)))]) Q3Z
abbrev Q44:AC:= .seq (.run [.o 2 (.box bu), .o 3 (.box bx), .o 4 (.mv (.k (.bool false)))]) (.seq (.run [.o 5 (.load dv true 5), .o 6 (.load cz true 5), .c 7 td [bZ,dz], .m 8 dd, .g 9 8 true (.aq dv 4), .g 10 8 true (.load dA false 1), .g 11 8 true (.aq cz 4), .g 12 8 true (.load dg false 1), .d 13 8 true qH [bX,c6], .o 14 (.pick cZ de (.k (.bool false))), .m 4 cO]) .ret)
abbrev Q48:AC:= .seq (.run [.o 1 (.box bu), .o 2 (.mv (.k (.bool false)))]) (.seq (.run [.o 3 (.load bx true 2), .c 4 wC [cz], .o 5 (.BT fB 0 false 1), .o 6 (.bin .eql bZ (.k (.int .i64 0))), .m 2 dz]) .ret)
abbrev Q4D:AC:= .cond bX (.seq (.run [.o 4 (.mv (.k (.bool false)))]) .ret) .skip
abbrev Q4J:AC:= .par [.m 16 bu, .m 17 bZ, .o 18 (.cq dn dG 2), .o 19 (.aq dF 0), .o 20 (.load ei false 1), .m 21 bx, .m 22 bZ, .o 23 (.cq eo ey 2), .o 24 (.aq ep 0), .o 25 (.load eH false 1), .o 26 (.bin .neq ew eI), .m 27 fk, .g 28 27 false (.mv bu), .g 29 27 false (.mv bZ), .g 30 27 false (.cq gb gd 2), .g 31 27 false (.aq gD 1), .g 32 27 false (.load gp false 1), .g 33 27 false (.mv bx), .g 34 27 false (.mv bZ), .g 35 27 false (.cq gE iA 2), .g 36 27 false (.aq gM 1), .g 37 27 false (.load ie false 1), .d 38 27 false kY [gL,iY], .g 39 27 false (.un .not jN), .o 40 (.pick fm (.k (.bool true)) jy)] [(0,0),(1,0),(2,0),(3,0),(4,0),(5,0),(6,0),(7,0),(8,0),(9,0),(10,0),(11,0),(12,0),(13,0),(14,0),(15,0),(16,0),(17,0),(18,0),(19,0),(20,0),(21,0),(22,0),(23,0),(24,0)]
abbrev Q4M:AC:= .cond kd (.seq (.run [.o 4 (.mv (.k (.bool false)))]) .ret) .skip
abbrev Q4S:AC:= .seq (.cond cO .skip (.exit 0)) (.seq (.block 1 (.seq (.run [.m 15 de, .m 5 dE]) (.seq Q4J Q4M))) (.run [.o 41 (.bin .add de (.k (.int .i64 1))), .m 13 jO]))
abbrev Q4W:AC:= .seq (.run [.m 11 bu, .o 12 (.len dg), .o 13 (.mv (.k (.int .i64 0)))]) (.block 0 (.loop (.seq (.run [.o 14 (.bin .lss de c6)]) Q4S)))
abbrev Q4Z:AC:= .seq Q4W (.seq (.run [.o 4 (.mv (.k (.bool true)))]) .ret)
abbrev Q51:AC:= .seq (.run [.o 4 (.mv (.k (.bool false)))]) (.seq (.seq (.run [.m 6 bu, .o 7 (.len dz), .m 8 bx, .o 9 (.len cZ), .o 10 (.bin .neq dd dA)]) Q4D) Q4Z)
abbrev Q53:AC:= .run [.o 5 (.aq dv 0), .o 6 (.load bZ false 1), .o 7 (.aq cz 0), .o 8 (.load dd false 1), .o 9 (.bin .eql dz cZ), .m 10 dA, .g 11 10 true (.aq dv 1), .g 12 10 true (.load dg false 1), .g 13 10 true (.aq cz 1), .g 14 10 true (.load de false 1), .g 15 10 true (.bin .eql c6 cO), .o 16 (.pick bX dE (.k (.bool false))), .m 17 dn, .g 18 17 true (.aq dv 2), .g 19 17 true (.load dF false 1), .g 20 17 true (.aq cz 2), .g 21 17 true (.load ew false 1), .g 22 17 true (.bin .eql ei eo), .o 23 (.pick dG ey (.k (.bool false))), .m 24 ep, .g 25 24 true (.aq dv 3), .g 26 24 true (.load eI false 1), .g 27 24 true (.aq cz 3), .g 28 24 true (.load fm false 1), .d 29 24 true kY [fk,gb], .o 30 (.pick eH gd (.k (.bool false))), .m 4 gD]
abbrev Q55:AC:= .seq (.run [.o 2 (.box bu), .o 3 (.box bx), .o 4 (.mv (.k (.bool false)))]) (.seq Q53 .ret)
abbrev Q5A:AC:= .cond bX (.seq (.run [.o 4 (.mv (.k (.bool false)))]) .ret) .skip
abbrev Q5G:AC:= .par [.m 16 bu, .m 17 bZ, .o 18 (.cq dn dG 1), .o 19 (.load dF false 1), .m 20 bx, .m 21 bZ, .o 22 (.cq ew eo 1), .o 23 (.load ey false 1), .o 24 (.bin .neq ei ep)] [(0,0),(1,0),(2,0),(3,0),(4,0),(5,0),(6,0),(7,0),(8,0)]
abbrev Q5J:AC:= .cond eH (.seq (.run [.o 4 (.mv (.k (.bool false)))]) .ret) .skip
abbrev Q5P:AC:= .seq (.cond cO .skip (.exit 0)) (.seq (.block 1 (.seq (.run [.m 15 de, .m 5 dE]) (.seq Q5G Q5J))) (.run [.o 25 (.bin .add de (.k (.int .i64 1))), .m 13 eI]))
abbrev Q5T:AC:= .seq (.run [.m 11 bu, .o 12 (.len dg), .o 13 (.mv (.k (.int .i64 0)))]) (.block 0 (.loop (.seq (.run [.o 14 (.bin .lss de c6)]) Q5P)))
abbrev Q5W:AC:= .seq Q5T (.seq (.run [.o 4 (.mv (.k (.bool true)))]) .ret)
abbrev Q5Y:AC:= .seq (.run [.o 4 (.mv (.k (.bool false)))]) (.seq (.seq (.run [.m 6 bu, .o 7 (.len dz), .m 8 bx, .o 9 (.len cZ), .o 10 (.bin .neq dd dA)]) Q5A) Q5W)
abbrev Q62:AC:= .seq (.run [.o 1 (.box bu), .o 2 (.mv (.k (.bool false)))]) (.seq (.run [.o 3 (.load bx true 4), .c 4 pE [cz,(.k (.int .i64 20))], .m 2 fB]) .ret)
abbrev Q67:AC:= .cond ep (.seq (.run [.o 2 (.mv (.k (.bool false)))]) .ret) .skip
abbrev Q6E:AC:= .run [.o 33 (.aq bZ 1), .o 34 (.load gE false 1), .o 35 (.len iA), .o 36 (.bin .gtr gM (.k (.int .i64 8))), .m 37 ie, .g 38 37 false (.aq bZ 2), .g 39 37 false (.load jN false 1), .g 40 37 false (.len jy), .g 41 37 false (.bin .gtr kd (.k (.int .i64 16))), .o 42 (.pick iY (.k (.bool true)) jO), .m 43 kF, .g 44 43 false (.aq bZ 0), .g 45 43 false (.load lf false 1), .d 46 43 false nC [lU], .g 47 43 false (.un .not lV), .o 48 (.pick kq (.k (.bool true)) mL), .m 49 lu, .g 50 49 false (.aq bZ 2), .g 51 49 false (.load lW false 1), .d 52 49 false mJ [lg], .g 53 49 false (.un .not lh), .o 54 (.pick lx (.k (.bool true)) ly), .m 55 lX, .g 56 55 false (.aq bZ 4), .g 57 55 false (.load n6 false 1), .d 58 55 false mJ [pk], .g 59 55 false (.un .not oG), .o 60 (.pick lY (.k (.bool true)) mM)]
abbrev Q6H:AC:= .cond p7 (.seq (.run [.o 2 (.mv (.k (.bool false)))]) .ret) .skip
abbrev Q6Q:AC:= .cond CA (.seq (.run [.o 2 (.mv (.k (.bool false)))]) .ret) .skip
abbrev Q6V:AC:= .seq (.block 3 (.seq (.run [.o 66 (.cq qR rK 2), .o 67 (.load wH true 2), .o 7 (.alloc [(.str []),(.bool false)]), .op none none (.store dd wI 2)]) (.seq (.run [.o 68 (.aq dd 0), .o 69 (.load uS false 1), .c 70 nC [yk], .o 71 (.un .not yl)]) Q6Q))) (.run [.o 72 (.bin .add rK (.k (.int .i64 1))), .m 64 Aq])
abbrev Q6Z:AC:= .block 2 (.loop (.seq (.run [.o 65 (.bin .lss rK rJ)]) (.seq (.cond uR .skip (.exit 2)) Q6V)))
abbrev Q74:AC:= .cond CF (.seq (.run [.o 2 (.mv (.k (.bool false)))]) .ret) .skip
abbrev Q76:AC:= .seq (.seq (.run [.o 61 (.aq bZ 1), .o 62 (.load rI false 1), .o 63 (.len qR), .o 64 (.mv (.k (.int .i64 0)))]) Q6Z) (.seq (.run [.m 73 cz, .o 74 (.aq bZ 3), .o 75 (.load CC false 1), .c 76 kb [As,CD,(.k (.int .i64 1))], .o 77 (.un .not Au)]) Q74)
abbrev Q7B:AC:= .seq (.block 1 (.seq (.run [.o 31 (.cq fm gd 5), .o 32 (.load gp true 5), .o 5 (.alloc [(.str []),(.slice .full 0 []),(.slice .full 0 []),(.slice .full 0 []),(.slice .full 0 [])]), .op none none (.store bZ gL 5)]) (.seq (.seq Q6E Q6H) Q76))) (.run [.o 78 (.bin .add gd (.k (.int .i64 1))), .m 29 ym])
abbrev Q7F:AC:= .block 0 (.loop (.seq (.run [.o 30 (.bin .lss gd gb)]) (.seq (.cond gD .skip (.exit 0)) Q7B)))
abbrev Q7J:AC:= .seq (.seq (.run [.o 26 (.aq bx 1), .o 27 (.load fk false 1), .o 28 (.len fm), .o 29 (.mv (.k (.int .i64 0)))]) Q7F) (.seq (.run [.o 2 (.mv (.k (.bool true)))]) .ret)
abbrev Q7L:AC:= .seq (.seq (.run [.o 8 (.aq bx 0), .o 9 (.load cZ false 1), .o 10 (.len dA), .o 11 (.bin .gtr bX (.k (.int .i64 16))), .m 12 dg, .g 13 12 false (.aq bx 1), .g 14 12 false (.load de false 1), .g 15 12 false (.len cO), .g 16 12 false (.bin .gtr dE (.k (.int .i64 16))), .o 17 (.pick c6 (.k (.bool true)) dn), .m 18 dG, .g 19 18 false (.aq bx 0), .g 20 18 false (.load ei false 1), .d 21 18 false mJ [ew], .g 22 18 false (.un .not eo), .o 23 (.pick dF (.k (.bool true)) ey)]) Q67) (.seq (.run [.o 24 (.build [(.int .i64 0)] []), .o 25 (.box eH), .m 3 eI]) Q7J)
abbrev Q7M:AC:= .seq (.run [.o 1 (.box bu), .o 2 (.mv (.k (.bool false)))]) Q7L
open Go.Proofs
theorem mn:Has Tryz.prog vJ 44 [(6,none)] Q0N:=⟨Tryz.f4,by kernel_rfl,by kernel_rfl⟩
set_option maxRecDepth 20000 in
theorem Gl : Has Tryz.prog wy 56 [(0, none)] Q0T := ⟨Tryz.f15, by kernel_rfl, by kernel_rfl⟩
theorem Gm:Has Tryz.prog wz 61 [(2,none)] Q1T:=⟨Tryz.f16,by kernel_rfl,by kernel_rfl⟩
theorem uc:Has Tryz.prog rF 131 [(8,(some (true,5))),(9,none)] Q40:=⟨Tryz.f17,by kernel_rfl,by kernel_rfl⟩
theorem DC:Has Tryz.prog pP 15 [(4,none)] Q44:=⟨Tryz.f19,by kernel_rfl,by kernel_rfl⟩
theorem Gn:Has Tryz.prog se 7 [(2,none)] Q48:=⟨Tryz.f20,by kernel_rfl,by kernel_rfl⟩
theorem tM:Has Tryz.prog qH 42 [(4,none)] Q51:=⟨Tryz.f24,by kernel_rfl,by kernel_rfl⟩
theorem DD:Has Tryz.prog td 31 [(4,none)] Q55:=⟨Tryz.f25,by kernel_rfl,by kernel_rfl⟩
theorem uT:Has Tryz.prog kY 26 [(4,none)] Q5Y:=⟨Tryz.f28,by kernel_rfl,by kernel_rfl⟩
theorem CH:Has Tryz.prog mI 5 [(2,none)] Q62:=⟨Tryz.f29,by kernel_rfl,by kernel_rfl⟩
theorem Ij:Has Tryz.prog qI 79 [(2,none)] Q7M:=⟨Tryz.f36,by kernel_rfl,by kernel_rfl⟩
end Go.Abs
