/-
  What is proved here: part 1 of the road to the claim (Frame, Frame2, Walk, Par, Par1, Par2, Par3, Step, Wp, Types, SelA, Lend, Sym, Frz, WpA, Mir, MirTree, Cnt, MirFlat, Nums, Codes0, Have0).
  No conditions.
-/
import Derived.Test.YtpjadlleefgcpaaGreatRnE0
import Derived.Attr
import Derived.Test.YtpjadlleefgcpaaGreatProg
import Derived.KernelRfl

set_option linter.unusedSimpArgs false
set_option linter.unusedVariables false
namespace Go.Abs
def Tag.ok (m:Nat):Tag→Bool
 | .tok t _=>decide (t<m)
 |_=>true
def Tag.cW (ts:List Nat):Tag→Tag
 | .tok t y=>match ts[t]? with|some t'=> .tok t' y|none=> .shared
 |g=>g
mutual
def D.ok (n m:Nat):D→Bool
 | .ptr o _=>decide (o<n)
 | .dv row _=>D.bK n m row
 | .slice g _ rows=>g.ok m && D.gQ n m rows
 | .agg cs=>D.bK n m cs
 | .tuple ds=>D.bK n m ds
 | .fj _ o=>decide (o<n)
 | .fZ _ cs=>D.bK n m cs
 | .fN o=>decide (o<n)
 | .ew _ o _ _=>decide (o<n)
 | .fk o _ _=>decide (o<n)
 |_=>true
def D.bK (n m:Nat):List D→Bool
 | []=>true
 |d::r=>D.ok n m d && D.bK n m r
def D.gQ (n m:Nat):List (List D)→Bool
 | []=>true
 |d::r=>D.bK n m d && D.gQ n m r
end
mutual
def D.cW (os ts:List Nat):D→D
 | .ptr o off=>match os[o]? with|some o'=> .ptr o' off|none=> .junk
 | .dv row off=> .dv (D.eZ os ts row) off
 | .slice g z rows=> .slice (g.cW ts) z (D.nP os ts rows)
 | .agg cs=> .agg (D.eZ os ts cs)
 | .tuple ds=> .tuple (D.eZ os ts ds)
 | .junk=> .junk
 | .int k x=> .int k x
 | .bool b=> .bool b
 | .str l=> .str l
 | .dR=> .dR
 | .val v=> .val v
 | .fj T o=>match os[o]? with|some o'=> .fj T o'|none=> .junk
 | .fZ f cs=> .fZ f (D.eZ os ts cs)
 | .fN o=>match os[o]? with|some o'=> .fN o'|none=> .junk
 | .ew z o g len=>match os[o]? with|some o'=> .ew z o' g len|none=> .junk
 | .fk o g off=>match os[o]? with|some o'=> .fk o' g off|none=> .junk
 | .ej z=> .ej z
def D.eZ (os ts:List Nat):List D→List D
 | []=> []
 |d::r=>D.cW os ts d::D.eZ os ts r
def D.nP (os ts:List Nat):List (List D)→List (List D)
 | []=> []
 |d::r=>D.eZ os ts d::D.nP os ts r
end
theorem fL (os ts:List Nat) : ∀ l,D.eZ os ts l=l.map (D.cW os ts)
 | []=>by simp[D.eZ]
 |d::r=>by simp[D.eZ,fL os ts r]
theorem B8 (os ts:List Nat) : ∀ l,D.nP os ts l=l.map (D.eZ os ts)
 | []=>by simp[D.nP]
 |d::r=>by simp[D.nP,B8 os ts r]
theorem x7 (n m:Nat) : ∀ l,D.bK n m l=l.all (D.ok n m)
 | []=>by simp[D.bK]
 |d::r=>by simp[D.bK,x7 n m r]
theorem D9 (n m:Nat) : ∀ l,D.gQ n m l=l.all (D.bK n m)
 | []=>by simp[D.gQ]
 |d::r=>by simp[D.gQ,D9 n m r]
theorem vn {n m:Nat} {l:List D} (h:D.bK n m l=true) {i:Nat} {d:D} (e:l[i]? = some d):D.ok n m d=true:=by
 rw[x7]at h;exact List.all_eq_true.1 h d (List.mem_of_getElem? e)
theorem X4 {n m:Nat} {l:List (List D)} (h:D.gQ n m l=true) {i:Nat} {d:List D} (e:l[i]? = some d):D.bK n m d=true:=by
 rw[D9]at h;exact List.all_eq_true.1 h d (List.mem_of_getElem? e)
section
variable {M M0:Map} {s s0:St} {os ts:List Nat}
theorem iL.B9 (kJ : ∀ (i:Nat) t,ts[i]? = some t→M0.be i=M.be t) (ht : ∀ (i t:Nat),ts[i]? = some t→s0.aw[i]? = s.aw[t]?) (hlen:s0.aw.length=ts.length) {g:Tag} {z len cap:Nat} {base:Option (Nat×Nat)} (pE:g.ok ts.length=true) (h:iL M s (g.cW ts) z len base cap):iL M0 s0 g z len base cap:=by
 cases g with
 |full=>exact h
 |shared=>exact h
 |tok t y=>
  have hD:t<ts.length:=by simpa[Tag.ok]using pE
  have e:ts[t]? = some ts[t]:=List.getElem?_eq_getElem hD
  simp only[Tag.cW,e]at h
  obtain⟨h1,h2⟩:=h
  refine⟨by omega,fun n hn=>?_⟩
  rw[ht t _ e]at hn
  rw[kJ t _ e]
  exact h2 n hn
theorem RD.B9 (hG:M0.G=M.G) (jk : ∀ (i:Nat) o,os[i]? = some o→M0.loc i=M.loc o) (jh:s0.ah.length=os.length)
 (kJ : ∀ (i:Nat) t,ts[i]? = some t→M0.be i=M.be t) (ht : ∀ (i t:Nat),ts[i]? = some t→s0.aw[i]? = s.aw[t]?) (hlen:s0.aw.length=ts.length) {d:D} {v:Value} (h:RD M s d v) :
 ∀ d0:D,d0.cW os ts=d→d0.ok os.length ts.length=true→RD M0 s0 d0 v:=by
 have mS : ∀ (i:Nat) o,os[i]? = some o→M0.mu i=M.mu o:=fun i o h=>congrArg Prod.fst (jk i o h)
 have tag:=fun {g z len cap base}=>@iL.B9 M M0 s s0 ts kJ ht hlen g z len cap base
 induction h with
 | junk v=>
  intro d0 e ok
  cases d0<;>simp only[D.cW]at e<;>try (cases e;done)
  ·exact .junk v
  ·rename_i o off
   have hD:o<os.length:=by simpa[D.ok]using ok
   rw[List.getElem?_eq_getElem hD]at e;cases e
  ·rename_i T o
   have hD:o<os.length:=by simpa[D.ok]using ok
   rw[List.getElem?_eq_getElem hD]at e;cases e
  ·rename_i o
   have hD:o<os.length:=by simpa[D.ok]using ok
   rw[List.getElem?_eq_getElem hD]at e;cases e
  ·rename_i z o g len
   have hD:o<os.length:=by simpa[D.ok]using ok
   rw[List.getElem?_eq_getElem hD]at e;cases e
  ·rename_i o g off
   have hD:o<os.length:=by simpa[D.ok]using ok
   rw[List.getElem?_eq_getElem hD]at e;cases e
 |ej z a=>intro d0 e ok;cases d0<;>simp only[D.cW]at e<;>first|(cases e;exact .ej _ _)|(split at e<;>cases e)|cases e
 |ew z o g len b cap A ho hm ha hl=>
  intro d0 e ok
  cases d0<;>simp only[D.cW]at e<;>first|(cases e;done)|skip
  all_goals try (split at e<;>cases e;done)
  rename_i z0 o0 g0 M6
  have hD:o0<os.length:=by simpa[D.ok]using ok
  rw[List.getElem?_eq_getElem hD]at e
  cases e
  exact RD.ew (s:=s0) z o0 g len b cap A (by omega) ((congrArg Prod.snd (jk o0 _ (List.getElem?_eq_getElem hD))).trans hm) ha hl
 |fk z o g off b cap A ho hm ha=>
  intro d0 e ok
  cases d0<;>simp only[D.cW]at e<;>first|(cases e;done)|skip
  all_goals try (split at e<;>cases e;done)
  rename_i o0 g0 To
  have hD:o0<os.length:=by simpa[D.ok]using ok
  rw[List.getElem?_eq_getElem hD]at e
  cases e
  exact RD.fk (s:=s0) z o0 g off b cap A (by omega) ((congrArg Prod.snd (jk o0 _ (List.getElem?_eq_getElem hD))).trans hm) ha
 |val v hv=>intro d0 e ok;cases d0<;>simp only[D.cW]at e<;>first|(cases e;exact .val _ hv)|(split at e<;>cases e)|cases e
 |fj T o v ho ht hv=>
  intro d0 e ok
  cases d0<;>simp only[D.cW]at e<;>first|(split at e<;>cases e;done)|skip
  all_goals try (cases e;done)
  rename_i T0 o0
  have hD:o0<os.length:=by simpa[D.ok]using ok
  rw[List.getElem?_eq_getElem hD]at e
  cases e
  have hl:=jk o0 _ (List.getElem?_eq_getElem hD)
  exact .fj _ o0 v (by omega) ((congrArg (fun x=>x.2.ty?) hl).trans ht) (by rw[mS o0 _ (List.getElem?_eq_getElem hD)];exact hv)
 |int k x=>intro d0 e ok;cases d0<;>simp only[D.cW]at e<;>first|(cases e;exact .int _ _)|(split at e<;>cases e)|cases e
 |bool b=>intro d0 e ok;cases d0<;>simp only[D.cW]at e<;>first|(cases e;exact .bool _)|(split at e<;>cases e)|cases e
 |str l=>intro d0 e ok;cases d0<;>simp only[D.cW]at e<;>first|(cases e;exact .str _)|(split at e<;>cases e)|cases e
 |dR=>intro d0 e ok;cases d0<;>simp only[D.cW]at e<;>first|(cases e;exact .dR)|(split at e<;>cases e)|cases e
 |fN o ho hm=>
  intro d0 e ok
  cases d0<;>simp only[D.cW]at e<;>first|(cases e;done)|skip
  all_goals try (split at e<;>cases e;done)
  rename_i o0
  have hD:o0<os.length:=by simpa[D.ok]using ok
  rw[List.getElem?_eq_getElem hD]at e
  cases e
  rw[← mS o0 _ (List.getElem?_eq_getElem hD)]
  exact RD.fN (s:=s0) o0 (by omega) ((congrArg Prod.snd (jk o0 _ (List.getElem?_eq_getElem hD))).trans hm)
 |fZ f ds vs hl _ ih=>
  intro d0 e ok
  cases d0<;>simp only[D.cW]at e<;>first|(split at e<;>cases e;done)|skip
  all_goals try (cases e;done)
  rename_i f0 Qt
  simp only[D.fZ.injEq]at e
  obtain⟨rfl,rfl⟩:=e
  simp only[D.ok]at ok
  rw[fL]at hl ih
  refine .fZ _ Qt vs (by simpa using hl) (fun i d v e1 e2=>ih i _ v (by rw[List.getElem?_map,e1];rfl) e2 d rfl (vn ok e1))
 |ptr o off ho hm=>
  intro d0 e ok
  cases d0<;>simp only[D.cW]at e<;>first|(cases e;done)|skip
  all_goals try (split at e<;>cases e;done)
  rename_i o0 To
  have hD:o0<os.length:=by simpa[D.ok]using ok
  rw[List.getElem?_eq_getElem hD]at e
  cases e
  rw[← mS o0 _ (List.getElem?_eq_getElem hD)]
  exact RD.ptr (s:=s0) o0 _ (by omega) (by rw[show M0.ob o0=_ from congrArg Prod.snd (jk o0 _ (List.getElem?_eq_getElem hD))];exact hm)
 |dv row off b k h1 h2 ih=>
  intro d0 e ok
  cases d0<;>simp only[D.cW]at e<;>first|(split at e<;>cases e;done)|skip
  all_goals try (cases e;done)
  rename_i ai4 To
  simp only[D.dv.injEq]at e
  obtain⟨rfl,rfl⟩:=e
  simp only[D.ok]at ok
  rw[fL]at h1 ih
  refine .dv ai4 To b k (fun i d e=>?_) (fun i d u e eu=>?_)
  ·rw[hG];exact h1 i _ (by rw[List.getElem?_map,e];rfl)
  ·rw[hG]at eu;exact ih i _ u (by rw[List.getElem?_map,e];rfl) eu d rfl (vn ok e)
 |iH g z cap hc pF=>
  intro d0 e ok
  cases d0<;>simp only[D.cW]at e<;>first|(split at e<;>cases e;done)|skip
  all_goals try (cases e;done)
  rename_i g0 z0 kg
  simp only[D.slice.injEq]at e
  obtain⟨rfl,rfl,e⟩:=e
  have:kg = []:=by cases kg<;>simp[D.nP]at e;rfl
  subst this
  simp only[D.ok,Bool.and_eq_true]at ok
  exact .iH g0 z0 cap hc (tag ok.1 pF)
 | lx z a cap=>
  intro d0 e ok
  cases d0<;>simp only[D.cW]at e<;>first|(split at e<;>cases e;done)|skip
  all_goals try (cases e;done)
  rename_i g0 z0 kg
  simp only[D.slice.injEq]at e
  obtain⟨hg,rfl,e⟩:=e
  have:kg = []:=by cases kg<;>simp[D.nP]at e;rfl
  subst this
  simp only[D.ok,Bool.and_eq_true]at ok
  have:g0 = .shared:=by
   cases g0 with
   |tok t y=>
    have ht:t<ts.length:=by simpa[Tag.ok]using ok.1
    simp[Tag.cW,ht]at hg
   |shared=>rfl
   |_=>simp[Tag.cW]at hg
  subst this
  exact .lx _ a cap
 | slice g z rows b k cap hl hs h1 h2 pF ih=>
  intro d0 e ok
  cases d0<;>simp only[D.cW]at e<;>first|(split at e<;>cases e;done)|skip
  all_goals try (cases e;done)
  rename_i g0 z0 kg
  simp only[D.slice.injEq]at e
  obtain⟨rfl,rfl,rfl⟩:=e
  simp only[D.ok,Bool.and_eq_true]at ok
  rw[B8]at hl hs h1 ih pF
  simp only[B8,List.length_map]at hl pF ⊢
  have dZ : ∀ (i:Nat) (row:List D),kg[i]? = some row→(kg.map (D.eZ os ts))[i]? = some (D.eZ os ts row):=fun i row e=>by rw[List.getElem?_map,e];rfl
  have iB : ∀ (row:List D) (j:Nat) (d:D),row[j]? = some d→(D.eZ os ts row)[j]? = some (D.cW os ts d):=fun row j d e=>by rw[fL,List.getElem?_map,e];rfl
  refine .slice g0 z0 kg b k cap hl (fun row hr=>?_) (fun i row j d e1 e2=>?_) (fun i row j d u e1 e2 eu=>?_) (tag ok.1 pF)
  ·have:=hs (D.eZ os ts row) (List.mem_map.2 ⟨row,hr,rfl⟩)
   rwa [fL,List.length_map]at this
  ·rw[hG];exact h1 i _ j _ (dZ i row e1) (iB row j d e2)
  ·rw[hG]at eu;exact ih i _ j _ u (dZ i row e1) (iB row j d e2) eu d rfl (vn (X4 ok.2 e1) e2)
 |agg cells vs hl h1 _ ih=>
  intro d0 e ok
  cases d0<;>simp only[D.cW]at e<;>first|(split at e<;>cases e;done)|skip
  all_goals try (cases e;done)
  rename_i Qt
  simp only[D.agg.injEq]at e
  subst e
  simp only[D.ok]at ok
  rw[fL]at hl ih
  refine .agg Qt vs (by simpa using hl) h1 (fun i d v e1 e2=>ih i _ v (by rw[List.getElem?_map,e1];rfl) e2 d rfl (vn ok e1))
 |tuple ds vs hl _ ih=>
  intro d0 e ok
  cases d0<;>simp only[D.cW]at e<;>first|(split at e<;>cases e;done)|skip
  all_goals try (cases e;done)
  rename_i Qt
  simp only[D.tuple.injEq]at e
  subst e
  simp only[D.ok]at ok
  rw[fL]at hl ih
  refine .tuple Qt vs (by simpa using hl) (fun i d v e1 e2=>ih i _ v (by rw[List.getElem?_map,e1];rfl) e2 d rfl (vn ok e1))
theorem RD.cW (hG:M0.G=M.G) (jk : ∀ i,i<s0.ah.length→∃ o,os[i]? = some o∧o<s.ah.length∧M.loc o=M0.loc i)
 (kJ : ∀ i,i<s0.aw.length→∃ t,ts[i]? = some t∧t<s.aw.length∧s.aw[t]? = s0.aw[i]? ∧M.be t=M0.be i) {d:D} {v:Value} (h:RD M0 s0 d v):RD M s (d.cW os ts) v:=by
 have tag : ∀ {g:Tag} {z len cap:Nat} {base:Option (Nat×Nat)},iL M0 s0 g z len base cap→iL M s (g.cW ts) z len base cap:=by
  intro g z len cap base h
  cases g with
  |full=>exact h
  |shared=>exact h
  |tok t y=>
   obtain⟨h1,h2⟩:=h
   obtain⟨t',e,hD,IB,hb⟩:=kJ t h1
   simp only[Tag.cW,e]
   refine⟨hD,fun n hn=>?_⟩
   rw[hb]
   exact h2 n (IB ▸ hn)
 induction h with
 |junk v=>simp only[D.cW];exact .junk v
 |int k x=>simp only[D.cW];exact .int k x
 |bool b=>simp only[D.cW];exact .bool b
 |str l=>simp only[D.cW];exact .str l
 |dR=>simp only[D.cW];exact .dR
 |ptr o off ho hk=>
  obtain⟨o',e,hD,hm⟩:=jk o ho
  simp only[D.cW,e]
  have hb:M.ob o'=M0.ob o:=congrArg Prod.snd hm
  have hm:M.mu o'=M0.mu o:=congrArg Prod.fst hm
  rw[← hm]
  exact .ptr o' off hD (by rw[hb];exact hk)
 |fN o ho hk=>
  obtain⟨o',e,hD,hm⟩:=jk o ho
  simp only[D.cW,e]
  have hb:M.ob o'=M0.ob o:=congrArg Prod.snd hm
  have hm:M.mu o'=M0.mu o:=congrArg Prod.fst hm
  rw[← hm]
  exact .fN o' hD (by rw[hb];exact hk)
 |ej z a=>simp only[D.cW];exact .ej z a
 |ew z o g len b cap A ho hk ha hl=>
  obtain⟨o',e,hD,hm⟩:=jk o ho
  simp only[D.cW,e]
  exact .ew z o' g len b cap A hD ((congrArg Prod.snd hm).trans hk) ha hl
 |fk z o g off b cap A ho hk ha=>
  obtain⟨o',e,hD,hm⟩:=jk o ho
  simp only[D.cW,e]
  exact .fk z o' g off b cap A hD ((congrArg Prod.snd hm).trans hk) ha
 |fZ f ds vs hl _ ih=>
  simp only[D.cW,fL]
  refine .fZ f _ vs (by simpa using hl) (fun i d v e1 e2=>?_)
  simp only[List.getElem?_map,Option.map_eq_some_iff]at e1
  obtain⟨d',e1,rfl⟩:=e1
  exact ih i d' v e1 e2
 |val v hv=>simp only[D.cW];exact .val v hv
 |fj T o v ho ht hv=>
  obtain⟨o',e,hD,hm⟩:=jk o ho
  simp only[D.cW,e]
  have h1:M.mu o'=M0.mu o:=congrArg Prod.fst hm
  have h2:M.ty o'=M0.ty o:=congrArg (fun x=>x.2.ty?) hm
  exact .fj T o' v hD (by rw[h2];exact ht) (by rw[h1];exact hv)
 | dv row off b k h1 h2 ih=>
  simp only[D.cW,fL]
  refine .dv _ off b k (fun i d e=>?_) (fun i d u e eu=>?_)
  ·simp only [List.getElem?_map,Option.map_eq_some_iff]at e
   obtain⟨d',e,rfl⟩:=e
   rw[← hG];exact h1 i d' e
  ·simp only [List.getElem?_map,Option.map_eq_some_iff]at e
   obtain⟨d',e,rfl⟩:=e
   rw[← hG]at eu;exact ih i d' u e eu
 |iH g z cap hc ht=>simp only[D.cW,D.nP];exact .iH _ z cap hc (tag ht)
 |lx z a cap=>simp only[D.cW,D.nP,Tag.cW];exact .lx z a cap
 | slice g z rows b k cap hl hs h1 h2 ht ih=>
  simp only[D.cW,B8]
  have hlen:(rows.map (D.eZ os ts)).length=rows.length:=by simp
  have key:=RD.slice (M:=M) (s:=s) (g.cW ts) z (rows.map (D.eZ os ts)) b k cap (by rw[hlen];exact hl) (fun row hr=>by
   obtain⟨kl,h',rfl⟩:=List.mem_map.1 hr
   rw[fL,List.length_map];exact hs kl h')
   (fun i row j d e1 e2=>by
    simp only[List.getElem?_map,Option.map_eq_some_iff]at e1
    obtain⟨kl,e1,rfl⟩:=e1
    rw[fL]at e2
    simp only[List.getElem?_map,Option.map_eq_some_iff]at e2
    obtain⟨d',e2,rfl⟩:=e2
    rw[← hG];exact h1 i kl j d' e1 e2)
   (fun i row j d u e1 e2 eu=>by
    simp only[List.getElem?_map,Option.map_eq_some_iff]at e1
    obtain⟨kl,e1,rfl⟩:=e1
    rw[fL]at e2
    simp only[List.getElem?_map,Option.map_eq_some_iff]at e2
    obtain⟨d',e2,rfl⟩:=e2
    rw[← hG]at eu;exact ih i kl j d' u e1 e2 eu)
   (by rw[hlen];exact tag ht)
  rw[hlen]at key
  exact key
 |agg cells vs hl h1 _ ih=>
  simp only[D.cW,fL]
  refine .agg _ vs (by simpa using hl) h1 (fun i d v e1 e2=>?_)
  simp only[List.getElem?_map,Option.map_eq_some_iff]at e1
  obtain⟨d',e1,rfl⟩:=e1
  exact ih i d' v e1 e2
 |tuple ds vs hl _ ih=>
  simp only[D.cW,fL]
  refine .tuple _ vs (by simpa using hl) (fun i d v e1 e2=>?_)
  simp only[List.getElem?_map,Option.map_eq_some_iff]at e1
  obtain⟨d',e1,rfl⟩:=e1
  exact ih i d' v e1 e2
def kB {α:Type} : List Nat→List α→List α→List α
 | [],new,l=>l++new
 |_::_,[],l=>l
 |o::os,x::xs,l=>kB os xs (l.set o x)
def kx (os:List Nat) (n k:Nat):List Nat:=os++(List.range k).map (n + ·)
theorem xb {α:Type} : ∀ (os:List Nat) (xs l:List α),os.length≤xs.length→(kB os xs l).length=l.length+(xs.length - os.length)
 | [],xs,l,_=>by simp[kB]
 |o::os,[],l,h=>by simp at h
 |o::os,x::xs,l,h=>by
  simp only[kB]
  rw[xb os xs _ (by simpa using h)]
  simp
theorem Dk {α:Type} : ∀ (os:List Nat) (xs l:List α),os.length≤xs.length→os.Nodup→(∀ o∈os,o<l.length)→
 (∀ (i:Nat) (o:Nat),os[i]? = some o→(kB os xs l)[o]? = xs[i]?)∧(∀ o,o<l.length→o∉os→(kB os xs l)[o]? = l[o]?)∧
 (∀ k,(kB os xs l)[l.length+k]? = xs[os.length+k]?)
 | [],xs,l,_,_,_=>by
  refine⟨by simp,fun o ho _=>by simp only[kB];rw[List.getElem?_append_left ho],fun k=>by simp only[kB];rw[List.getElem?_append_right (by omega)];simp⟩
 |o::os,[],l,h,_,_=>by simp at h
 | o::os,x::xs,l,h,hn,hD=>by
  simp only[List.nodup_cons]at hn
  have Ac : ∀ q∈os,q<(l.set o x).length:=fun q hq=>by simpa using hD q (by simp[hq])
  obtain⟨h1,h2,h3⟩:=Dk os xs (l.set o x) (by simpa using h) hn.2 Ac
  have ho:o<l.length:=hD o (by simp)
  simp only[kB]
  refine⟨fun i q e=>?_,fun q hq Bc=>?_,fun k=>?_⟩
  ·cases i with
   |zero=>
    simp only[List.getElem?_cons_zero,Option.some.injEq]at e
    subst e
    rw[h2 o (by simpa using ho) hn.1]
    simp[ho]
   |succ i=>simpa using h1 i q (by simpa using e)
  ·have vk:q≠o:=fun e=>Bc (by simp [e])
   rw[h2 q (by simpa using hq) (fun h=>Bc (by simp[h])),List.getElem?_set_ne (Ne.symm vk)]
  ·have:=h3 k
   simp only[List.length_set]at this
   rw[this]
   simp only[List.length_cons]
   rw[show os.length+1+k=(os.length+k)+1 by omega];simp
theorem CQ (os:List Nat) (n k i:Nat):(kx os n k)[i]? = if i<os.length then os[i]? else if i<os.length+k then some (n+(i - os.length))else none:=by
 unfold kx
 split
 ·rename_i h;rw[List.getElem?_append_left h]
 ·rename_i h
  rw[List.getElem?_append_right (by omega)]
  split
  ·rename_i h2
   rw[List.getElem?_map,List.getElem?_range (by omega)];rfl
  ·rename_i h2
   rw[List.getElem?_eq_none]
   simp;omega
def posOf:List Nat→Nat→Option Nat
 | [],_=>none
 |x::r,o=>if x=o then some 0 else(posOf r o).map (· + 1)
theorem iM : ∀ {l:List Nat} {o i:Nat},posOf l o=some i→l[i]? = some o
 | x::r,o,i,h=>by
  simp only[posOf]at h
  split at h
  ·rename_i e;cases h;simp[e]
  ·cases hp:posOf r o with
   |none=>rw[hp]at h;cases h
   |some j=>rw[hp]at h;cases h;simpa using iM hp
theorem l7 : ∀ {l:List Nat} {o i:Nat},l.Nodup→l[i]? = some o→posOf l o=some i
 | x::r,o,i,hn,h=>by
  simp only[List.nodup_cons]at hn
  simp only[posOf]
  cases i with
  |zero=>simp at h;simp[h]
  |succ i=>
   simp at h
   have:x≠o:=fun e=>hn.1 (by rw[e];exact List.mem_of_getElem? h)
   rw[if_neg this,l7 hn.2 h];rfl
end
end Go.Abs
namespace Go.Abs
theorem Ad {l:List Nat} {n k:Nat} (h:l.Nodup) (hl : ∀ o∈l,o<n):(kx l n k).Nodup:=by
 unfold kx
 rw[List.nodup_append]
 refine⟨h, ?_,fun a ha b hb=>?_⟩
 ·rw [List.nodup_iff_pairwise_ne,List.pairwise_map]
  exact List.Pairwise.imp (fun h=>by omega) (List.nodup_iff_pairwise_ne.1 List.nodup_range)
 ·obtain⟨c,hc,rfl⟩:=List.mem_map.1 hb
  have:=hl a ha
  omega
def gH (M:Map) (os ts:List Nat):Map:=⟨M.G,fun i=>M.loc (os.getD i 0),fun i=>M.be (ts.getD i 0)⟩
def x8 (M M0:Map) (os ts:List Nat):Map:=
 ⟨M0.G,fun o=>match posOf os o with|some i=>M0.loc i|none=>M.loc o,fun t=>match posOf ts t with|some i=>M0.be i|none=>M.be t⟩
section
variable {P:Program} {M:Map} {s s0:St} {w:World} {os ts:List Nat}
theorem u6 {l:List Nat} {i o:Nat} (h:l[i]? = some o):l.getD i 0=o:=by simp[List.getD,h]
theorem Rel.sub (r:Rel M s w) (uy:os.Nodup) (vq:ts.Nodup) (jh : ∀ o∈os,o<s.ah.length)
 (ho:s0.ah.length=os.length) (xc : ∀ (i o:Nat) (ds:List D),os[i]? = some o→s0.ah[i]? = some ds→s.ah[o]? = some (D.eZ os ts ds)∧D.bK os.length ts.length ds=true)
 (ht:s0.aw.length=ts.length) (tL : ∀ (i t:Nat),ts[i]? = some t→s0.aw[i]? = s.aw[t]?):Rel (gH M os ts) s0 w:=by
 have nth : ∀ i,i<s0.ah.length→∃ o,os[i]? = some o∧o<s.ah.length:=fun i hi=>⟨os[i],List.getElem?_eq_getElem (by omega),jh _ (List.getElem_mem _)⟩
 have loc : ∀ (i:Nat) o,os[i]? = some o→(gH M os ts).loc i=M.loc o:=fun i o h=>by simp only[gH,u6 h]
 have mu : ∀ (i:Nat) o,os[i]? = some o→(gH M os ts).mu i=M.mu o:=fun i o h=>congrArg Prod.fst (loc i o h)
 have be : ∀ (i:Nat) t,ts[i]? = some t→(gH M os ts).be i=M.be t:=fun i t h=>by simp only[gH,u6 h]
 have Wh : ∀ t,s0.live t→∃ t',ts[t]? = some t'∧s.live t':=fun t ⟨n,hn⟩=>by
  have hD:=(List.getElem?_eq_some_iff.1 hn).1
  have e:ts[t]? = some ts[t]:=List.getElem?_eq_getElem (by omega)
  exact⟨_,e,n,by rw[← tL t _ e];exact hn⟩
 refine⟨r.comm,fun i ds e=>?_,fun i hi off=>?_,fun i i' hi gW e=>?_,fun t n e=>?_,fun t b c z i hl e hi=>?_,fun t t' b c z c' z' h h' e e'=>?_⟩
 ·obtain⟨o,h1,_⟩:=nth i (List.getElem?_eq_some_iff.1 e).1
  obtain⟨h2,h3⟩:=xc i o ds h1 e
  obtain⟨vs,T,g1,g2,g3,g4⟩:=r.obj o _ h2
  refine⟨vs,T,by rw[loc i o h1];exact g1,by rw[fL]at g2;simpa using g2,⟨g3.1,by rw[show(gH M os ts).ty i=M.ty o from congrArg (fun x=>x.2.ty?) (loc i o h1)];exact g3.2⟩,fun j d v e1 e2=>?_⟩
  exact RD.B9 (M:=M) (M0:=gH M os ts) (s:=s) rfl loc ho be tL ht (g4 j (d.cW os ts) v (by rw[fL,List.getElem?_map,e1];rfl) e2) d rfl (vn h3 e1)
 ·obtain⟨o,h1,h2⟩:=nth i hi
  rw[mu i o h1];exact r.jH o h2 off
 ·obtain⟨o,h1,h2⟩:=nth i hi
  obtain⟨o',rS,uz⟩:=nth i' gW
  rw[mu i o h1,mu i' o' rS]at e
  have:=r.inj o o' h2 uz e
  subst this
  have a:=l7 uy h1
  have b:=l7 uy rS
  rw[a]at b;cases b;rfl
 ·obtain⟨t',h1,h2⟩:=Wh t ⟨n,e⟩
  rw[be t t' h1]
  exact r.tok t' n (by rw[← tL t t' h1];exact e)
 ·obtain⟨t',h1,h2⟩:=Wh t hl
  obtain⟨o,h3,h4⟩:=nth i hi
  rw[be t t' h1]at e
  rw[mu i o h3]
  exact r.fc t' b c z o h2 e h4
 ·obtain⟨q,h1,h2⟩:=Wh t h
  obtain⟨q',rS,uz⟩:=Wh t' h'
  rw[be t q h1]at e
  rw[be t' q' rS]at e'
  have:=r.fO q q' b c z c' z' h2 uz e e'
  subst this
  have a:=l7 vq h1
  have b:=l7 vq rS
  rw[a]at b;cases b;rfl
end
def St.back (s:St) (os ts:List Nat) (s':St):St:=
 ⟨kB os (s'.ah.map (D.eZ (kx os s.ah.length (s'.ah.length - os.length)) (kx ts s.aw.length (s'.aw.length - ts.length)))) s.ah,kB ts s'.aw s.aw⟩
def D.back (s:St) (os ts:List Nat) (s':St) (d:D):D:=
 d.cW (kx os s.ah.length (s'.ah.length - os.length)) (kx ts s.aw.length (s'.aw.length - ts.length))
theorem bL.frame {P:Program} {f:FuncId} {M7 args:List D} {s s0:St} {Q0 Q:D→St→Prop} (os ts:List Nat) (h:bL P f M7 s0 Q0) (uy:os.Nodup) (vq:ts.Nodup) (jh : ∀ o∈os,o<s.ah.length) (sV : ∀ t∈ts,t<s.aw.length)
 (ho:s0.ah.length=os.length) (xc : ∀ (i o:Nat) (ds:List D),os[i]? = some o→s0.ah[i]? = some ds→s.ah[o]? = some (D.eZ os ts ds)∧D.bK os.length ts.length ds=true)
 (ht:s0.aw.length=ts.length) (tL : ∀ (i t:Nat),ts[i]? = some t→s0.aw[i]? = s.aw[t]?)
 (yV:args=D.eZ os ts M7) (pE:D.bK os.length ts.length M7=true) (k : ∀ d s',Q0 d s'→Q (d.back s os ts s') (s.back os ts s')):bL P f args s Q:=by
 intro M w fG r kv dM ha
 have r0:=r.sub uy vq jh ho xc ht tL
 have loc : ∀ (i:Nat) o,os[i]? = some o→(gH M os ts).loc i=M.loc o:=fun i o h=>by simp only[gH,u6 h]
 have mu : ∀ (i:Nat) o,os[i]? = some o→(gH M os ts).mu i=M.mu o:=fun i o h=>congrArg Prod.fst (loc i o h)
 have be : ∀ (i:Nat) t,ts[i]? = some t→(gH M os ts).be i=M.be t:=fun i t h=>by simp only[gH,u6 h]
 subst yV
 have aaN:Laid (gH M os ts) s0 w:=by
  intro g cs hg
  obtain⟨h1,h2,h3⟩:=kv g cs hg
  refine⟨h1,fun o hD=>?_,fun t c z hl hb=>?_⟩
  ·obtain⟨o',nE⟩ : ∃ o',os[o]? = some o':=⟨_,List.getElem?_eq_getElem (by omega)⟩
   rw[mu o o' nE]
   exact h2 o' (jh o' (List.mem_of_getElem? nE))
  ·obtain⟨n,hn⟩:=hl
   have hD:=(List.getElem?_eq_some_iff.1 hn).1
   obtain⟨t',Ea⟩ : ∃ t',ts[t]? = some t':=⟨_,List.getElem?_eq_getElem (by omega)⟩
   rw[be t t' Ea]at hb
   exact h3 t' c z ⟨n,by rw[← tL t t' Ea];exact hn⟩ hb
 have hc:=h (gH M os ts) w fG r0 aaN (by rw[dM,fL,List.length_map]) (fun i d v e1 e2=>
  RD.B9 (M:=M) (M0:=gH M os ts) (s:=s) rfl loc ho be tL ht (ha i (d.cW os ts) v (by rw[fL,List.getElem?_map,e1];rfl) e2) d rfl (vn pE e1))
 refine hc.mono ?_
 rintro en w' ⟨x9,d,v,s',rfl,hq,e,r',hv⟩
 have IF:=e.le.n
 have DZ:=e.le.t
 generalize M8:kx os s.ah.length (s'.ah.length - os.length)=lL
 generalize M9:kx ts s.aw.length (s'.aw.length - ts.length)=oV
 have nd:lL.Nodup:=by rw[← M8];exact Ad uy jh
 have ndt:oV.Nodup:=by rw[← M9];exact Ad vq sV
 have Na : ∀ i,lL[i]? = if i<os.length then os[i]? else if i<s'.ah.length then some (s.ah.length+(i - os.length))else none:=fun i=>by
  rw[← M8,CQ];split
  ·rfl
  ·rw[show os.length+(s'.ah.length - os.length)=s'.ah.length by omega]
 have Nb : ∀ i,oV[i]? = if i<ts.length then ts[i]? else if i<s'.aw.length then some (s.aw.length+(i - ts.length))else none:=fun i=>by
  rw[← M9,CQ];split
  ·rfl
  ·rw[show ts.length+(s'.aw.length - ts.length)=s'.aw.length by omega]
 have hsb:s.back os ts s' = ⟨kB os (s'.ah.map (D.eZ lL oV)) s.ah,kB ts s'.aw s.aw⟩:=by simp only[St.back,M8,M9]
 have hdb:d.back s os ts s'=d.cW lL oV:=by simp only[D.back,M8,M9]
 have mD:=k d s' hq
 rw[hsb,hdb]at mD
 obtain⟨p1,p2,p3⟩:=Dk os (s'.ah.map (D.eZ lL oV)) s.ah (by simp;omega) uy jh
 obtain⟨q1,q2,q3⟩:=Dk ts s'.aw s.aw (by omega) vq sV
 have IM:=xb os (s'.ah.map (D.eZ lL oV)) s.ah (by simp;omega)
 have IN:=xb ts s'.aw s.aw (by omega)
 simp only[List.length_map]at IM
 generalize z8:(⟨kB os (s'.ah.map (D.eZ lL oV)) s.ah,kB ts s'.aw s.aw⟩:St)=s2 at mD
 have so:s2.ah=kB os (s'.ah.map (D.eZ lL oV)) s.ah:=by rw[← z8]
 have st:s2.aw=kB ts s'.aw s.aw:=by rw[← z8]
 -- the framed objects
 have fo : ∀ (i o:Nat),lL[i]? = some o→o<s2.ah.length∧s2.ah[o]? = (s'.ah[i]?).map (D.eZ lL oV)∧i<s'.ah.length∧(i<os.length→o<s.ah.length∧os[i]? = some o)∧(os.length≤i→s.ah.length≤o):=by
  intro i o hi
  rw[Na]at hi
  split at hi
  ·rename_i h1
   have hD:=jh o (List.mem_of_getElem? hi)
   refine⟨by rw[so,IM];omega,by rw[so,p1 i o hi,List.getElem?_map],by omega,fun _=>⟨hD,hi⟩,fun h=>by omega⟩
  ·split at hi
   ·rename_i h1 h2
    cases hi
    refine⟨by rw[so,IM];omega, ?_,h2,fun h=>by omega,fun _=>by omega⟩
    rw[so,p3,List.getElem?_map,show os.length+(i - os.length)=i by omega]
   ·cases hi
 have ft : ∀ (i t:Nat),oV[i]? = some t→t<s2.aw.length∧s2.aw[t]? = s'.aw[i]? ∧i<s'.aw.length∧(i<ts.length→t<s.aw.length∧ts[i]? = some t)∧(ts.length≤i→s.aw.length≤t):=by
  intro i t hi
  rw[Nb]at hi
  split at hi
  ·rename_i h1
   have hD:=sV t (List.mem_of_getElem? hi)
   refine⟨by rw[st,IN];omega,by rw[st,q1 i t hi],by omega,fun _=>⟨hD,hi⟩,fun h=>by omega⟩
  ·split at hi
   ·rename_i h1 h2
    cases hi
    refine⟨by rw[st,IN];omega, ?_,h2,fun h=>by omega,fun _=>by omega⟩
    rw[st,q3,show ts.length+(i - ts.length)=i by omega]
   ·cases hi
 -- all others
 have uo : ∀ o,o<s2.ah.length→posOf lL o=none→o<s.ah.length∧o∉os∧s2.ah[o]? = s.ah[o]? :=by
  intro o hD hp
  have nQ : ∀ i,lL[i]? ≠some o:=fun i hi=>by rw[l7 nd hi]at hp;cases hp
  have h1:o<s.ah.length:=by
   rcases Nat.lt_or_ge o s.ah.length with h|h
   ·exact h
   ·exfalso
    rw[so,IM]at hD
    refine nQ (os.length+(o - s.ah.length)) ?_
    rw[Na,if_neg (by omega),if_pos (by omega)]
    congr 1;omega
  have h2:o∉os:=fun hm=>by
   obtain⟨i,hi⟩:=List.mem_iff_getElem?.1 hm
   have qI:=(List.getElem?_eq_some_iff.1 hi).1
   exact nQ i (by rw[Na,if_pos qI];exact hi)
  exact⟨h1,h2,by rw[so,p2 o h1 h2]⟩
 have ut : ∀ t,t<s2.aw.length→posOf oV t=none→t<s.aw.length∧t∉ts∧s2.aw[t]? = s.aw[t]? :=by
  intro t hD hp
  have nQ : ∀ i,oV[i]? ≠some t:=fun i hi=>by rw[l7 ndt hi]at hp;cases hp
  have h1:t<s.aw.length:=by
   rcases Nat.lt_or_ge t s.aw.length with h|h
   ·exact h
   ·exfalso
    rw[st,IN]at hD
    refine nQ (ts.length+(t - s.aw.length)) ?_
    rw[Nb,if_neg (by omega),if_pos (by omega)]
    congr 1;omega
  have h2:t∉ts:=fun hm=>by
   obtain⟨i,hi⟩:=List.mem_iff_getElem?.1 hm
   have qI:=(List.getElem?_eq_some_iff.1 hi).1
   exact nQ i (by rw[Nb,if_pos qI];exact hi)
  exact⟨h1,h2,by rw[st,q2 t h1 h2]⟩
 generalize Qv:x8 M x9 lL oV=M2
 have mG:x9.G=M2.G:=by rw[← Qv];rfl
 have lo : ∀ (i o:Nat),lL[i]? = some o→M2.loc o=x9.loc i:=fun i o hi=>by rw[← Qv];simp only[x8,l7 nd hi]
 have Wi : ∀ o,posOf lL o=none→M2.loc o=M.loc o:=fun o hp=>by rw[← Qv];simp only[x8,hp]
 have mo : ∀ (i o:Nat),lL[i]? = some o→M2.mu o=x9.mu i:=fun i o hi=>congrArg Prod.fst (lo i o hi)
 have IP : ∀ o,posOf lL o=none→M2.mu o=M.mu o:=fun o hp=>congrArg Prod.fst (Wi o hp)
 have mt : ∀ (i t:Nat),oV[i]? = some t→M2.be t=x9.be i:=fun i t hi=>by rw[← Qv];simp only[x8,l7 ndt hi]
 have IQ : ∀ t,posOf oV t=none→M2.be t=M.be t:=fun t hp=>by rw[← Qv];simp only[x8,hp]
 have le:Le M s M2 s2:=by
  refine⟨fun b o v hg=>by rw[← mG];exact e.le.G b o v hg,by rw[so,IM];omega,fun o hD=>?_,by rw[st,IN];omega,fun t n' hD qX=>?_⟩
  ·cases hp:posOf lL o with
   |none=>rw[Wi o hp];exact .refl _
   | some i=>
    have hi:=iM hp
    rw[lo i o hi]
    obtain⟨_,_,_,h1,h2⟩:=fo i o hi
    have qI:i<os.length:=by
     rcases Nat.lt_or_ge i os.length with h|h
     ·exact h
     ·have:=h2 h;omega
    have h3:=e.le.loc i (by omega)
    rw[loc i o (h1 qI).2]at h3
    exact h3
  ·cases hp:posOf oV t with
   |none=>
    obtain⟨_,_,h3⟩:=ut t (by rw[st,IN];omega) hp
    rw[h3]at qX
    exact⟨n',qX,Nat.le_refl _,fun _=>IQ t hp⟩
   | some i=>
    have hi:=iM hp
    obtain⟨_,g1,_,h1,h2⟩:=ft i t hi
    have qI:i<ts.length:=by
     rcases Nat.lt_or_ge i ts.length with h|h
     ·exact h
     ·have:=h2 h;omega
    rw[g1]at qX
    obtain⟨n,h3,h4,h5⟩:=e.le.tk i n' (by omega) qX
    refine⟨n,by rw[← tL i t (h1 qI).2];exact h3,h4,fun eq=>?_⟩
    rw[mt i t hi,h5 eq,be i t (h1 qI).2]
 have aaO : ∀ {d:D} {v:Value},RD x9 s' d v→RD M2 s2 (d.cW lL oV) v:=fun hd=>RD.cW mG
  (fun i hi=>by
   obtain⟨o,ho⟩ : ∃ o,lL[i]? = some o:=by
    rw[Na];split
    ·rename_i h1;exact⟨_,List.getElem?_eq_getElem h1⟩
    ·exact⟨_,rfl⟩
   exact⟨o,ho,(fo i o ho).1,lo i o ho⟩)
  (fun i hi=>by
   obtain⟨t,ht⟩ : ∃ t,oV[i]? = some t:=by
    rw[Nb];split
    ·rename_i h1;exact⟨_,List.getElem?_eq_getElem h1⟩
    ·exact⟨_,rfl⟩
   exact⟨t,ht,(ft i t ht).1,(ft i t ht).2.1,mt i t ht⟩) hd
 -- blocks that the callee did not know
 have HW : ∀ i,s0.live i→∃ t,ts[i]? = some t∧s.live t:=fun i ⟨n,hn⟩=>by
  have hD:=(List.getElem?_eq_some_iff.1 hn).1
  have e1:ts[i]? = some ts[i]:=List.getElem?_eq_getElem (by omega)
  exact⟨_,e1,n,by rw[← tL i _ e1];exact hn⟩
 have Nc : ∀ b,b<w.heap.size→(∀ (i o:Nat),os[i]? = some o→M.mu o≠b)→(∀ (i t:Nat) c z,ts[i]? = some t→s.live t→M.be t≠some (b,c,z))→
  w'.heap[b]? = w.heap[b]? ∧∀ off,x9.G b off=M.G b off:=by
  intro b hb h1 h2
  refine⟨e.kept b hb (fun i hi=>?_) (fun i c z hl=>?_),fun off=>?_⟩
  ·have e1:os[i]? = some os[i]:=List.getElem?_eq_getElem (by omega)
   rw[mu i _ e1];exact h1 i _ e1
  ·obtain⟨t,e1,hD⟩:=HW i hl
   rw[be i t e1];exact h2 i t c z e1 hD
  ·apply Classical.byContradiction
   intro eK
   rcases e.rV b off eK with h3|⟨i,c,z,hl,h3⟩
   ·omega
   ·obtain⟨t,e1,hD⟩:=HW i hl
    rw[be i t e1]at h3
    exact h2 i t c z e1 hD h3
 have Wj : ∀ o,o<s.ah.length→o∉os→w'.heap[M.mu o]? = w.heap[M.mu o]? ∧∀ off,x9.G (M.mu o) off=M.G (M.mu o) off:=fun o hD nQ=>
  Nc _ (r.qf hD) (fun i o' h1 h2=>nQ (by rw[← r.inj o' o (jh o' (List.mem_of_getElem? h1)) hD h2];exact List.mem_of_getElem? h1))
   (fun i t c z _ hl h2=>r.fc t _ c z o hl h2 hD rfl)
 have aeQ : ∀ t b c z,s.live t→t∉ts→M.be t=some (b,c,z)→w'.heap[b]? = w.heap[b]? ∧∀ off,x9.G b off=M.G b off:=fun t b c z hl nQ hb=>
  Nc b (r.sw hl hb) (fun i o h1=>r.fc t b c z o hl hb (jh o (List.mem_of_getElem? h1)))
   (fun i t' c' z' h1 lX h2=>nQ (by rw[r.fO t t' b c z c' z' hl lX hb h2];exact List.mem_of_getElem? h1))
 have lv : ∀ t,s2.live t→(∃ i,oV[i]? = some t∧s'.live i)∨(posOf oV t=none∧s.live t∧t∉ts):=by
  rintro t ⟨n,hn⟩
  cases hp:posOf oV t with
  |none=>
   obtain⟨h1,h2,h3⟩:=ut t (List.getElem?_eq_some_iff.1 hn).1 hp
   exact .inr ⟨rfl,⟨n,by rw[← h3];exact hn⟩,h2⟩
  |some i=>
   have hi:=iM hp
   exact .inl ⟨i,hi,n,by rw[← (ft i t hi).2.1];exact hn⟩
 -- where a framed object lies
 have Wl : ∀ (i o:Nat),lL[i]? = some o→(o<s.ah.length∧o∈os∧x9.mu i=M.mu o)∨w.heap.size≤x9.mu i:=by
  intro i o hi
  obtain⟨_,_,h1,h2,h3⟩:=fo i o hi
  rcases e.mo h1 with ⟨h4,h5⟩|h4
  ·have h:i<os.length:=by omega
   exact .inl ⟨(h2 h).1,List.mem_of_getElem? (h2 h).2,by rw[h5,mu i o (h2 h).2]⟩
  ·exact .inr h4
 have Wm : ∀ (i t b c z:Nat),oV[i]? = some t→s'.live i→x9.be i=some (b,c,z)→(s.live t∧t∈ts∧∃ c' z',M.be t=some (b,c',z'))∨w.heap.size≤b:=by
  intro i t b c z hi hl hb
  rcases e.qn i b c z hl hb with ⟨h1,c',z',h2⟩|h1
  ·obtain⟨t',e1,hD⟩:=HW i h1
   have qI:=(List.getElem?_eq_some_iff.1 e1).1
   obtain⟨_,_,_,h3,_⟩:=ft i t hi
   have:=(h3 qI).2
   rw[e1]at this;cases this
   rw[be i _ e1]at h2
   exact .inl ⟨hD,List.mem_of_getElem? e1,c',z',h2⟩
  ·exact .inr h1
 refine⟨M2,d.cW lL oV,v,s2,rfl,mD, ?_, ?_,aaO hv⟩
 ·-- Ext
  refine⟨le,fun b hb h1 h2=>?_,fun o h1 h2=>?_,fun t b c z hl hb=>?_,fun b off eK=>?_,e.size,e.os,e.tape,e.output⟩
  ·exact(Nc b hb (fun i o h3=>h1 o (jh o (List.mem_of_getElem? h3))) (fun i t c z _ hl=>h2 t c z hl)).1
  ·cases hp:posOf lL o with
   |none=>
    have:=(uo o h2 hp).1
    rcases h1 with h1|h1
    ·omega
    ·exact(h1 (IP o hp)).elim
   | some i=>
    have hi:=iM hp
    rw[mo i o hi]at h1 ⊢
    rcases Wl i o hi with ⟨h3,_,h5⟩|h3
    ·rcases h1 with h1 | h1
     ·omega
     ·exact(h1 h5).elim
    ·exact h3
  ·rcases lv t hl with ⟨i,hi,lX⟩ | ⟨hp,lX,_⟩
   ·rw [mt i t hi]at hb
    rcases Wm i t b c z hi lX hb with ⟨h1,_,h2⟩|h1
    ·exact .inl ⟨h1,h2⟩
    ·exact .inr h1
   ·rw [IQ t hp]at hb
    exact .inl ⟨lX,c,z,hb⟩
  ·rw [← mG]at eK
   rcases e.rV b off eK with h1|⟨i,c,z,hl,hb⟩
   ·exact .inl h1
   ·obtain⟨t,e1,hD⟩:=HW i hl
    rw[be i t e1]at hb
    exact .inr ⟨t,c,z,hD,hb⟩
 ·-- Rel
  refine⟨fun b o v hg=>r'.comm b o v (by rw[mG];exact hg),fun o ds A6=>?_,fun o hD off=>?_,fun o o' hD Ac heq=>?_,fun t n hn=>?_,fun t b c z o hl hb hD=>?_,fun t t' b c z c' z' hl lX hb rQ=>?_⟩
  ·cases hp:posOf lL o with
   |some i=>
    have hi:=iM hp
    obtain⟨_,g1,_⟩:=fo i o hi
    rw[g1]at A6
    obtain⟨nD,h1,rfl⟩:=Option.map_eq_some_iff.1 A6
    obtain⟨vs,T,h2,h3,h4,h5⟩:=r'.obj i nD h1
    refine⟨vs,T,by rw[lo i o hi];exact h2,by rw[fL];simpa using h3,⟨h4.1,by rw[show M2.ty o=x9.ty i from congrArg (fun x=>x.2.ty?) (lo i o hi)];exact h4.2⟩,fun j d v e1 e2=>?_⟩
    rw[fL]at e1
    simp only[List.getElem?_map,Option.map_eq_some_iff]at e1
    obtain⟨d',e1,rfl⟩:=e1
    exact aaO (h5 j d' v e1 e2)
   |none=>
    obtain⟨h1,h2,h3⟩:=uo o (List.getElem?_eq_some_iff.1 A6).1 hp
    rw[h3]at A6
    obtain⟨vs,T,g1,g2,g3,g4⟩:=r.obj o ds A6
    exact⟨vs,T,by rw[Wi o hp];exact g1.keep (Wj o h1 h2).1,g2,⟨g3.1,by rw[show M2.ty o=M.ty o from congrArg (fun x=>x.2.ty?) (Wi o hp)];exact g3.2⟩,fun j d v e1 e2=>(g4 j d v e1 e2).mono le⟩
  ·cases hp:posOf lL o with
   |some i=>
    have hi:=iM hp
    rw[mo i o hi, ← mG];exact r'.jH i (fo i o hi).2.2.1 off
   |none=>
    obtain⟨h1,h2,h3⟩:=uo o hD hp
    rw[IP o hp, ← mG,(Wj o h1 h2).2 off];exact r.jH o h1 off
  ·cases hp:posOf lL o with
   | some i=>
    have hi:=iM hp
    rw[mo i o hi]at heq
    cases mP:posOf lL o' with
    |some i'=>
     have gW:=iM mP
     rw[mo i' o' gW]at heq
     have:=r'.inj i i' (fo i o hi).2.2.1 (fo i' o' gW).2.2.1 heq
     subst this
     rw[hi]at gW;cases gW;rfl
    | none=>
     obtain⟨h1,h2,_⟩:=uo o' Ac mP
     rw[IP o' mP]at heq
     rcases Wl i o hi with ⟨h3,h4,h5⟩|h3
     ·rw [h5]at heq
      have:=r.inj o o' h3 h1 heq
      subst this;exact(h2 h4).elim
     ·have:=r.qf h1;omega
   | none=>
    obtain⟨h1,h2,_⟩:=uo o hD hp
    rw[IP o hp]at heq
    cases mP:posOf lL o' with
    | some i'=>
     have gW:=iM mP
     rw[mo i' o' gW]at heq
     rcases Wl i' o' gW with ⟨h3,h4,h5⟩|h3
     ·rw [h5]at heq
      have:=r.inj o o' h1 h3 heq
      subst this;exact(h2 h4).elim
     ·have:=r.qf h1;omega
    |none=>
     obtain⟨rS,_,_⟩:=uo o' Ac mP
     rw[IP o' mP]at heq
     exact r.inj o o' h1 rS heq
  ·rcases lv t ⟨n,hn⟩with ⟨i,hi,hl⟩ | ⟨hp,hl,nQ⟩
   ·rw [mt i t hi, ← mG]
    exact r'.tok i n (by rw[← (ft i t hi).2.1];exact hn)
   ·obtain⟨_,_,h3⟩:=ut t (List.getElem?_eq_some_iff.1 hn).1 hp
    rw[h3]at hn
    rw[IQ t hp]
    rcases r.tok t n hn with h4|⟨b,cap,size,vs,T,g1,g2,g3,g4,g5⟩
    ·exact .inl h4
    ·obtain⟨k1,k2⟩:=aeQ t b cap size hl nQ g1
     exact .inr ⟨b,cap,size,vs,T,g1,by rw[k1];exact g2,g3,g4,fun off ho=>by rw[← mG,k2 off];exact g5.1 off ho,g5.2⟩
  ·rcases lv t hl with ⟨i,hi,lX⟩ | ⟨hp,lX,nQ⟩
   ·rw [mt i t hi]at hb
    cases IS:posOf lL o with
    |some j=>
     have hj:=iM IS
     rw[mo j o hj]
     exact r'.fc i b c z j lX hb (fo j o hj).2.2.1
    |none=>
     obtain⟨h1,h2,_⟩:=uo o hD IS
     rw[IP o IS]
     rcases Wm i t b c z hi lX hb with ⟨h3,_,c',z',h4⟩|h3
     ·exact r.fc t b c' z' o h3 h4 h1
     ·have:=r.qf h1;omega
   ·rw [IQ t hp]at hb
    cases IS:posOf lL o with
    |some j=>
     have hj:=iM IS
     rw[mo j o hj]
     rcases Wl j o hj with ⟨h3,_,h5⟩|h3
     ·rw[h5];exact r.fc t b c z o lX hb h3
     ·have:=r.sw lX hb;omega
    |none=>
     obtain⟨h1,_,_⟩:=uo o hD IS
     rw[IP o IS];exact r.fc t b c z o lX hb h1
  ·rcases lv t hl with ⟨i,hi,Ae⟩ | ⟨hp,hD,nQ⟩
   ·rw [mt i t hi]at hb
    rcases lv t' lX with ⟨i',gW,Tp⟩|⟨mP,Ac,Wn⟩
    ·rw [mt i' t' gW]at rQ
     have:=r'.fO i i' b c z c' z' Ae Tp hb rQ
     subst this
     rw[hi]at gW;cases gW;rfl
    ·rw [IQ t' mP]at rQ
     rcases Wm i t b c z hi Ae hb with ⟨h3,h4,c2,z2,h5⟩|h3
     ·have:=r.fO t t' b c2 z2 c' z' h3 Ac h5 rQ
      subst this;exact(Wn h4).elim
     ·have:=r.sw Ac rQ;omega
   ·rw [IQ t hp]at hb
    rcases lv t' lX with ⟨i',gW,Tp⟩|⟨mP,Ac,Wn⟩
    ·rw [mt i' t' gW]at rQ
     rcases Wm i' t' b c' z' gW Tp rQ with ⟨h3,h4,c2,z2,h5⟩|h3
     ·have:=r.fO t t' b c z c2 z2 hD h3 hb h5
      subst this;exact(nQ h4).elim
     ·have:=r.sw hD hb;omega
    ·rw [IQ t' mP]at rQ
     exact r.fO t t' b c z c' z' hD Ac hb rQ
end Go.Abs
namespace Go.Abs
def Wk (d d':D):Prop:=∀ (M:Map) (s:St) (v:Value),RD M s d v→RD M s d' v
inductive jq:List D→List D→Prop where
 |nil:jq [] []
 |cons {d d':D} {l l':List D} (h:Wk d d') (t:jq l l'):jq (d::l) (d'::l')
inductive gx:List (List D)→List (List D)→Prop where
 |nil:gx [] []
 |cons {r r':List D} {l l':List (List D)} (h:jq r r') (t:gx l l'):gx (r::l) (r'::l')
theorem Wk.refl (d:D):Wk d d:=fun _ _ _ h=>h
theorem Wk.trans {a b c:D} (h:Wk a b) (k:Wk b c):Wk a c:=fun M s v r=>k M s v (h M s v r)
theorem Wk.junk (d:D):Wk d .junk:=fun _ _ v _=> .junk v
theorem jq.refl : ∀ l,jq l l
 | []=> .nil
 |d::l=> .cons (Wk.refl d) (jq.refl l)
theorem gx.refl : ∀ l,gx l l
 | []=> .nil
 |d::l=> .cons (jq.refl d) (gx.refl l)
theorem jq.len {l l':List D} (h:jq l l'):l.length=l'.length:=by
 induction h with
 |nil=>rfl
 |cons _ _ ih=>simp[ih]
theorem gx.len {l l':List (List D)} (h:gx l l'):l.length=l'.length:=by
 induction h with
 |nil=>rfl
 |cons _ _ ih=>simp[ih]
theorem jq.get {l l':List D} (h:jq l l') : ∀ {i:Nat} {d':D},l'[i]? = some d'→∃ d,l[i]? = some d∧Wk d d':=by
 induction h with
 |nil=>intro i d' e;simp at e
 |cons hd _ ih=>
  intro i d' e
  cases i with
  |zero=>simp at e;subst e;exact⟨_,rfl,hd⟩
  |succ i=>simp at e;simpa using ih e
theorem gx.get {l l':List (List D)} (h:gx l l') : ∀ {i:Nat} {d':List D},l'[i]? = some d'→∃ d,l[i]? = some d∧jq d d':=by
 induction h with
 |nil=>intro i d' e;simp at e
 |cons hd _ ih=>
  intro i d' e
  cases i with
  |zero=>simp at e;subst e;exact⟨_,rfl,hd⟩
  |succ i=>simp at e;simpa using ih e
theorem jq.append {a a' b b':List D} (h:jq a a') (k:jq b b'):jq (a++b) (a'++b'):=by
 induction h with
 |nil=>exact k
 |cons hd _ ih=>exact .cons hd ih
theorem gx.append {a a' b b':List (List D)} (h:gx a a') (k:gx b b'):gx (a++b) (a'++b'):=by
 induction h with
 |nil=>exact k
 |cons hd _ ih=>exact .cons hd ih
theorem Wk.agg {l l':List D} (h:jq l l'):Wk (.agg l) (.agg l'):=by
 intro M s v r
 cases r with
 |agg _ vs hl h1 hr=>
  refine .agg _ vs (by rw[← hl,h.len]) h1 fun i d' u e e2=>?_
  obtain⟨d,e1,hw⟩:=h.get e
  exact hw M s u (hr i d u e1 e2)
theorem Wk.tuple {l l':List D} (h:jq l l'):Wk (.tuple l) (.tuple l'):=by
 intro M s v r
 cases r with
 |tuple _ vs hl hr=>
  refine .tuple _ vs (by rw[← hl,h.len]) fun i d' u e e2=>?_
  obtain⟨d,e1,hw⟩:=h.get e
  exact hw M s u (hr i d u e1 e2)
theorem Wk.rows {g:Tag} {z:Nat} {l l':List (List D)} (h:gx l l'):Wk (.slice g z l) (.slice g z l'):=by
 intro M s v r
 cases r with
 |iH _ _ cap hc ht=>cases h;exact .iH _ _ _ hc ht
 |lx _ a cap=>cases h;exact .lx _ a cap
 | slice _ _ _ b k cap hl hs h1 h2 ht=>
  rw[h.len]
  refine .slice g z l' b k cap (by rw[← h.len];exact hl) (fun row hm=>?_) (fun i row j d e e2=>?_) (fun i row j d u e e2 eu=>?_) (by rw[← h.len];exact ht)
  ·obtain⟨i,hi,he⟩:=List.mem_iff_getElem.1 hm
   obtain⟨r0,g1,g2⟩:=h.get (i:=i) (by rw[List.getElem?_eq_getElem hi,he])
   rw[← g2.len];exact hs r0 (List.mem_of_getElem? g1)
  ·obtain⟨r0,g1,g2⟩:=h.get e
   obtain⟨d0,g3,_⟩:=g2.get e2
   exact h1 i r0 j d0 g1 g3
  ·obtain⟨r0,g1,g2⟩:=h.get e
   obtain⟨d0,g3,g4⟩:=g2.get e2
   exact g4 M s u (h2 i r0 j d0 u g1 g3 eu)
theorem Wk.shared (g:Tag) (z:Nat) (l:List (List D)):Wk (.slice g z l) (.slice .shared z l):=by
 intro M s v r
 cases r with
 |iH _ _ cap hc ht=>exact .iH _ _ _ hc trivial
 |lx _ a cap=>exact .lx _ a cap
 |slice _ _ _ b k cap hl hs h1 h2 ht=>exact .slice _ _ _ b k cap hl hs h1 h2 trivial
theorem Wk.slice {g:Tag} {z:Nat} {l l':List (List D)} (h:gx l l'):Wk (.slice g z l) (.slice .shared z l'):=(Wk.shared g z l).trans (Wk.rows h)
theorem Wk.nil (g:Tag) (z z':Nat):Wk (.slice g z []) (.slice .shared z' []):=by
 intro M s v r
 cases r with
 |iH _ _ cap hc ht=>exact .iH _ _ _ hc trivial
 |lx _ a cap=>exact .lx _ a cap
 |slice _ _ _ b k cap hl hs h1 h2 ht=>exact .slice _ _ [] b k cap hl (by simp) (by simp) (by simp) trivial
theorem Wk.ai5 (z z':Nat):Wk (.slice .full z []) (.slice .full z' []):=by
 intro M s v r
 cases r with
 |iH _ _ cap hc ht=>exact .iH _ _ _ hc ht
 |slice _ _ _ b k cap hl hs h1 h2 ht=>exact .slice _ _ [] b k cap hl (by simp) (by simp) (by simp) ht
theorem Rel.q8 {M:Map} {s:St} {w:World} {ah:List (List D)} (r:Rel M s w) (h:gx s.ah ah):Rel M ⟨ah,s.aw⟩ w∧Le M s M ⟨ah,s.aw⟩:=by
 have le:Le M s M ⟨ah,s.aw⟩:=⟨fun _ _ _ h=>h,Nat.le_of_eq h.len,fun _ _=> .refl _,Nat.le_refl _,fun t n' _ e=>⟨n',e,Nat.le_refl _,fun _=>rfl⟩⟩
 have hl:=h.len
 refine⟨⟨r.comm,fun o ds e=>?_,fun o ho=>r.jH o (by rw[hl];exact ho),fun o o' ho nE=>r.inj o o' (by rw[hl];exact ho) (by rw[hl];exact nE),r.tok,
  fun t b c z o hv e ho=>r.fc t b c z o hv e (by rw[hl];exact ho),r.fO⟩,le⟩
 obtain⟨ds0,g1,g2⟩:=h.get e
 obtain⟨vs,T,h1,h2,h3,h4⟩:=r.obj o ds0 g1
 refine⟨vs,T,h1,by rw[h2,g2.len],h3,fun i d v e1 e2=>?_⟩
 obtain⟨d0,k1,k2⟩:=g2.get e1
 exact(k2 _ _ _ (h4 i d0 v k1 e2)).mono le
theorem Rel.blank {M:Map} {s:St} {w:World} (r:Rel M s w) :
 Rel (M.eW s.aw.length none) {s with aw:=s.aw++ [some 0]} w∧Le M s (M.eW s.aw.length none) {s with aw:=s.aw++ [some 0]}:=by
 have iA : ∀ t,St.live {s with aw:=s.aw++ [some 0]} t→s.live t∨t=s.aw.length:=by
  rintro t ⟨k,hk⟩
  rcases Nat.lt_or_ge t s.aw.length with h|h
  ·rw[List.getElem?_append_left h]at hk;exact .inl ⟨k,hk⟩
  ·have:=(List.getElem?_eq_some_iff.1 hk).1
   simp at this;exact .inr (by omega)
 have hD : ∀ t,s.live t→t<s.aw.length:=fun t ⟨k,hk⟩=>(List.getElem?_eq_some_iff.1 hk).1
 have hold : ∀ t,t<s.aw.length→(M.eW s.aw.length none).be t=M.be t:=fun t h=>by simp[Map.eW];omega
 have dg:(M.eW s.aw.length none).be s.aw.length=none:=by simp[Map.eW]
 have le:Le M s (M.eW s.aw.length none) {s with aw:=s.aw++ [some 0]}:=
  ⟨fun _ _ _ h=>h,Nat.le_refl _,fun _ _=> .refl _,by simp,fun t k h e=>by
   rw[List.getElem?_append_left h]at e
   exact⟨k,e,Nat.le_refl _,fun _=>hold t h⟩⟩
 refine⟨⟨r.comm,fun o ds e=>?_,r.jH,r.inj,fun t k e=>?_,fun t b' c z o hl e nE=>?_,fun t t' b' c z c' z' h h' e e'=>?_⟩,le⟩
 ·obtain⟨fC,T',h3,h4,h5,h6⟩:=r.obj o ds e
  exact⟨fC,T',h3,h4,h5,fun i d v e1 e2=>(h6 i d v e1 e2).mono le⟩
 ·rcases Nat.lt_or_ge t s.aw.length with h | h
  ·rw [List.getElem?_append_left h]at e
   rw[hold t h];exact r.tok t k e
  ·have:=(List.getElem?_eq_some_iff.1 e).1
   simp at this
   have:t=s.aw.length:=by omega
   subst this
   simp at e;subst e
   exact .inl ⟨dg,rfl⟩
 ·rcases iA t hl with h | h
  ·rw[hold t (hD t h)]at e;exact r.fc t b' c z o h e nE
  ·subst h;rw[dg]at e;cases e
 ·rcases iA t h with h | h <;> rcases iA t' h' with h' | h'
  ·rw[hold t (hD t h)]at e;rw[hold t' (hD t' h')]at e';exact r.fO t t' b' c z c' z' h h' e e'
  ·subst h';rw[dg]at e';cases e'
  ·subst h;rw[dg]at e;cases e
  ·omega
theorem RD.own {M:Map} {s:St} {z z':Nat} {v:Value} (h:RD M s (.slice .full z []) v):RD (M.eW s.aw.length none) {s with aw:=s.aw++ [some 0]} (.slice (.tok s.aw.length) z' []) v:=by
 have key : ∀ base:Option (Nat×Nat),iL (M.eW s.aw.length none) {s with aw:=s.aw++ [some 0]} (.tok s.aw.length) z' 0 base 0:=by
  intro base
  refine⟨by simp,fun n e=>?_⟩
  simp at e
  subst e
  exact⟨Nat.le_refl _,fun _=> .inl ⟨by simp[Map.eW],rfl,fun h=>by cases h⟩⟩
 cases h with
 |iH _ _ cap hc ht=>subst hc;exact .iH _ _ _ rfl (key none)
 |slice _ _ _ b k cap hl hs h1 h2 ht=>
  have:cap=0:=ht
  subst this
  exact .slice _ _ [] b k 0 (Nat.le_refl _) (by simp) (by simp) (by simp) (key _)
section
variable {P:Program} {B:fR} {nt:Nat} {Q:Exit→Tm→St→Prop} {tm:Tm} {s:St}
theorem Sem.wkO {ac:AC} (ah:List (List D)) (hw:gx s.ah ah) (h:Sem P B nt ac Q tm ⟨ah,s.aw⟩):Sem P B nt ac Q tm s:=by
 intro c hc act w ⟨M,e,r,ht,h1,h2⟩
 obtain⟨r',le⟩:=r.q8 hw
 refine h c hc act w ⟨M,e.trans ⟨le,fun _ _ _ _=>rfl,fun o h1 h2=>?_,fun t b c z hl e=> .inl ⟨hl,c,z,e⟩,fun _ _ h=>(h rfl).elim,Nat.le_refl _,rfl,rfl,rfl⟩,r',fun k=>(ht k).mono le,h1,h2⟩
 simp only[← hw.len]at h2
 exact h1.elim (fun h1=>absurd h2 (Nat.not_lt.2 h1)) fun h1=>(h1 rfl).elim
theorem Gs {M0 M:Map} {s0 s:St} {w0 w:World} (e:Ext M0 s0 w0 M s w) (le:Le M s (M.eW s.aw.length none) {s with aw:=s.aw++ [some 0]}) :
 Ext M0 s0 w0 (M.eW s.aw.length none) {s with aw:=s.aw++ [some 0]} w:=by
 refine e.trans ⟨le,fun _ _ _ _=>rfl,fun o h1 h2=>h1.elim (fun h1=>absurd h2 (Nat.not_lt.2 h1)) (fun h1=>(h1 rfl).elim),fun t b c z hl eq=>?_,fun _ _ h=>(h rfl).elim,Nat.le_refl _,rfl,rfl,rfl⟩
 obtain⟨k,hk⟩:=hl
 rcases Nat.lt_or_ge t s.aw.length with h|h
 ·refine .inl ⟨⟨k,by rw [List.getElem?_append_left h]at hk;exact hk⟩,c,z, ?_⟩
  have:(M.eW s.aw.length none).be t=M.be t:=by simp[Map.eW];omega
  rw[← this];exact eq
 ·have:=(List.getElem?_eq_some_iff.1 hk).1
  simp at this
  have:t=s.aw.length:=by omega
  subst this
  simp[Map.eW]at eq
end
def aF (P:Program) (f:Nat) (args:List D) (s:St) (d:D) (s':St):Prop:=bL P f args s fun x y=>x=d∧y=s'
def pM (n m:Nat) (res:List (Nat×Option (Bool×Nat))) (d:D) (s':St):Exit→Tm→St→Prop
 | .normal,tm,s| .ret,tm,s=>∃ l,aU res tm s=some l∧Wk ((aV l).fg n m) d∧gx (s.cut n m).ah s'.ah∧(s.cut n m).aw=s'.aw
 |_,_,_=>False
theorem bL.q8 {P:Program} {f:FuncId} {args Eb:List D} {s:St} {Q:D→St→Prop} (ha:jq args Eb) (h:bL P f Eb s Q):bL P f args s Q:=
 fun M w fG r kv hl hr=>h M w fG r kv (by rw[hl,ha.len]) fun i d v e1 e2=>by
  obtain⟨d0,g1,g2⟩:=ha.get e1
  exact g2 _ _ _ (hr i d0 v g1 e2)
theorem bL.HX {P:Program} {f:FuncId} {args:List D} {s:St} {Q Q':D→St→Prop} (h:bL P f args s Q) (hq : ∀ d s1,Q d s1→∃ d' s',Wk d d'∧gx s1.ah s'.ah∧s1.aw=s'.aw∧Q' d' s'):bL P f args s Q':=
 fun M w fG r kv hl ha=>(h M w fG r kv hl ha).mono fun _ _ ⟨M',d,v,s1,h1,h2,h3,h4,h5⟩=>by
  obtain⟨d',s',g1,g2,g3,g4⟩:=hq d s1 h2
  obtain⟨r',le⟩:=h4.q8 g2
  have hs:(⟨s'.ah,s1.aw⟩:St)=s':=by rw[g3]
  rw[hs]at r' le
  refine⟨M',d',v,s',h1,g4,h3.trans ⟨le,fun _ _ _ _=>rfl,fun o h1 h2=>?_,fun t b c z hl e=> .inl ⟨by obtain⟨n,hn⟩:=hl;exact⟨n,by rw[g3];exact hn⟩,c,z,e⟩,fun _ _ h=>(h rfl).elim,Nat.le_refl _,rfl,rfl,rfl⟩,r',(g1 _ _ _ h5).mono le⟩
  rw[← g2.len]at h2
  exact h1.elim (fun h1=>absurd h2 (Nat.not_lt.2 h1)) fun h1=>(h1 rfl).elim
theorem aF.intro {P:Program} {f:FuncId} {af:AF} {args:List D} {s:St} {d:D} {s':St} (h0 : ∃ fn,P.funcs[f]? = some fn∧cF P fn=some af) (hl:args.length≤af.ntmps)
 (h : ∀ B:fR,B.s=s→Sem P B af.ntmps af.body (pM s.ah.length s.aw.length af.results d s') (mN 0 args) s):aF P f args s d s':=by
 obtain⟨fn,hf,hc⟩:=h0
 refine bL.HX (bL.intro (Q:=fun d1 s1=>Wk d1 d∧gx s1.ah s'.ah∧s1.aw=s'.aw) hf hc hl fun B hB=>(h B hB).mono fun e tm s1 hr=>?_) fun d1 s1 ⟨h1,h2,h3⟩=>⟨d,s',h1,h2,h3,rfl,rfl⟩
 subst hB
 cases e with
 |normal=>obtain⟨l,h1,h2,h3,h4⟩:=hr;exact⟨l,h1,_,_,Nat.le_refl _,Nat.le_refl _,h2,h3,h4⟩
 |ret=>obtain⟨l,h1,h2,h3,h4⟩:=hr;exact⟨l,h1,_,_,Nat.le_refl _,Nat.le_refl _,h2,h3,h4⟩
 |exit id=>exact hr.elim
 |goto l=>exact hr.elim
 |panic ch=>exact hr.elim
 |outgrown=>exact hr.elim
theorem aF.use {P:Program} {f:FuncId} {args:List D} {s:St} {d:D} {s':St} {Q:D→St→Prop} (h:aF P f args s d s') (hq:Q d s'):bL P f args s Q:=
 bL.mono h fun x y ⟨h1,h2⟩=>by subst h1;subst h2;exact hq
mutual
theorem qu (os ts:List Nat) : ∀ d,D.ok 0 0 d=true→D.cW os ts d=d
 | .junk,_=>by simp[D.cW]
 | .int k n,_=>by simp[D.cW]
 | .bool b,_=>by simp[D.cW]
 | .str l,_=>by simp[D.cW]
 | .dR,_=>by simp[D.cW]
 | .val v,_=>by simp[D.cW]
 | .fj T o,h=>by simp[D.ok]at h
 | .fN o,h=>by simp[D.ok]at h
 | .ew z o g len,h=>by simp[D.ok]at h
 | .fk o g off,h=>by simp[D.ok]at h
 | .ej z,_=>by simp[D.cW]
 | .fZ f cs,h=>by
  simp only[D.ok]at h
  simp only[D.cW,fz os ts cs h]
 | .ptr o f,h=>by simp[D.ok]at h
 | .dv r f,h=>by
  simp only[D.ok]at h
  simp only[D.cW,fz os ts r h]
 | .slice g z rows,h=>by
  simp only[D.ok,Bool.and_eq_true]at h
  simp only[D.cW,ji os ts rows h.2]
  cases g with
  |tok t y=>simp[Tag.ok]at h
  |full=>rfl
  |shared=>rfl
 | .agg cs,h=>by
  simp only[D.ok]at h
  simp only[D.cW,fz os ts cs h]
 | .tuple cs,h=>by
  simp only[D.ok]at h
  simp only[D.cW,fz os ts cs h]
theorem fz (os ts:List Nat) : ∀ l,D.bK 0 0 l=true→D.eZ os ts l=l
 | [],_=>by simp[D.eZ]
 |d::r,h=>by
  simp only[D.bK,Bool.and_eq_true]at h
  simp only[D.eZ,qu os ts d h.1,fz os ts r h.2]
theorem ji (os ts:List Nat) : ∀ l,D.gQ 0 0 l=true→D.nP os ts l=l
 | [],_=>by simp[D.nP]
 |d::r,h=>by
  simp only[D.gQ,Bool.and_eq_true]at h
  simp only[D.nP,fz os ts d h.1,ji os ts r h.2]
end
mutual
theorem Fs {n m n' m':Nat} (hn:n≤n') (hm:m≤m') : ∀ d,D.ok n m d=true→D.ok n' m' d=true
 | .junk,_=>rfl
 | .int k n,_=>rfl
 | .bool b,_=>rfl
 | .str l,_=>rfl
 | .dR,_=>rfl
 | .val v,_=>rfl
 | .fj T o,h=>by simp[D.ok]at h ⊢;omega
 | .fN o,h=>by simp[D.ok]at h ⊢;omega
 | .ew z o g len,h=>by simp[D.ok]at h ⊢;omega
 | .fk o g off,h=>by simp[D.ok]at h ⊢;omega
 | .ej z,_=>rfl
 | .fZ f cs,h=>by
  simp only[D.ok]at h ⊢
  exact il hn hm cs h
 | .ptr o f,h=>by simp only[D.ok,decide_eq_true_eq]at h ⊢;omega
 | .dv r f,h=>by
  simp only[D.ok]at h ⊢
  exact il hn hm r h
 | .slice g z rows,h=>by
  simp only[D.ok,Bool.and_eq_true]at h ⊢
  refine⟨?_,mr hn hm rows h.2⟩
  cases g with
  |tok t y=>simp only[Tag.ok,decide_eq_true_eq]at h ⊢;omega
  |full=>rfl
  |shared=>rfl
 | .agg cs,h=>by
  simp only[D.ok]at h ⊢
  exact il hn hm cs h
 | .tuple cs,h=>by
  simp only[D.ok]at h ⊢
  exact il hn hm cs h
theorem il {n m n' m':Nat} (hn:n≤n') (hm:m≤m') : ∀ l,D.bK n m l=true→D.bK n' m' l=true
 | [],_=>rfl
 |d::r,h=>by
  simp only[D.bK,Bool.and_eq_true]at h ⊢
  exact⟨Fs hn hm d h.1,il hn hm r h.2⟩
theorem mr {n m n' m':Nat} (hn:n≤n') (hm:m≤m') : ∀ l,D.gQ n m l=true→D.gQ n' m' l=true
 | [],_=>rfl
 |d::r,h=>by
  simp only[D.gQ,Bool.and_eq_true]at h ⊢
  exact⟨il hn hm d h.1,mr hn hm r h.2⟩
end
def S0:St:=⟨[],[]⟩
section
variable {P:Program} {f:Nat}
theorem aF.pure {args:List D} {d:D} (h:aF P f args S0 d S0) (ha:D.bK 0 0 args=true) (hd:D.ok 0 0 d=true) (s:St):aF P f args s d s:=by
 refine bL.frame [] [] h List.nodup_nil List.nodup_nil (by simp) (by simp) rfl (by simp) rfl (by simp) (by rw[fz _ _ _ ha]) ha ?_
 rintro _ _ ⟨rfl,rfl⟩
 refine⟨qu _ _ _ hd, ?_⟩
 simp[St.back,kB,S0]
theorem aF.Tq {args row kl:List D} {d:D} (h:aF P f (.ptr 0 0::args) ⟨[row],[]⟩ d ⟨[kl],[]⟩) (ha:D.bK 0 0 args=true) (hr:D.bK 0 0 row=true) (Qb:D.bK 0 0 kl=true) (hd:D.ok 0 0 d=true)
 {s:St} {o:Nat} (ho:s.ah[o]? = some row):aF P f (.ptr o 0::args) s d ⟨s.ah.set o kl,s.aw⟩:=by
 refine bL.frame [o] [] h (by simp) List.nodup_nil (by simpa using (List.getElem?_eq_some_iff.1 ho).1) (by simp) rfl (fun i o' ds e1 e2=>?_) rfl (by simp) (by simp[D.eZ,D.cW,fz _ _ _ ha])
  (by simp[D.bK,D.ok,il (Nat.zero_le 1) (Nat.le_refl 0) _ ha]) ?_
 ·cases i with
  |zero=>simp at e1 e2;subst e1;subst e2;exact⟨by rw[fz _ _ _ hr];exact ho,il (Nat.zero_le 1) (Nat.le_refl 0) _ hr⟩
  |succ i=>simp at e1
 ·rintro _ _ ⟨rfl,rfl⟩
  refine⟨qu _ _ _ hd, ?_⟩
  simp[St.back,kB,fz _ _ _ Qb]
end
end Go.Abs
namespace Go.Abs
theorem X.bY {x:X} {tm br:Tm} (h : ∀ t∈x.reads,tm.get t=br.get t):x.ev tm=x.ev br:=by
 cases x with
 |s t=>exact h t (by simp[X.reads])
 |k d=>rfl
theorem q9 {t:Nat} {x:X} : ∀ {l:List X},x∈l→t∈x.reads→t∈n6 l
 | [],h,_=>by cases h
 |y::r,h,ht=>by
  simp only[n6,List.mem_append]
  rcases List.mem_cons.1 h with rfl|h
  ·exact .inl ht
  ·exact .inr (q9 h ht)
theorem wo {x:Option X} {tm br:Tm} (h : ∀ t∈AP x,tm.get t=br.get t):x.map (·.ev tm)=x.map (·.ev br):=by
 cases x with
 |none=>rfl
 |some y=>simp only[Option.map_some];rw[X.bY h]
theorem CS {o:AO} {tm br:Tm} {s:St} (h : ∀ t∈o.reads,tm.get t=br.get t):aJ o tm s=aJ o br s:=by
 cases o with
 |mv x=>
  have hx:x.ev tm=x.ev br:=X.bY fun t ht=>h t (by simp[AO.reads,ht])
  simp only[aJ,hx]
 |pick c a b=>
  have hc:c.ev tm=c.ev br:=X.bY fun t ht=>h t (by simp[AO.reads,ht])
  have ha:a.ev tm=a.ev br:=X.bY fun t ht=>h t (by simp[AO.reads,ht])
  have hb:b.ev tm=b.ev br:=X.bY fun t ht=>h t (by simp[AO.reads,ht])
  simp only[aJ,hc,ha,hb]
 |alloc z=>
  rfl
 |sQ z T=>rfl
 |AJ x T=>
  have hx:x.ev tm=x.ev br:=X.bY fun t ht=>h t (by simp[AO.reads,ht])
  simp only[aJ,hx]
 |AL x y=>
  have hx:x.ev tm=x.ev br:=X.bY fun t ht=>h t (by simp[AO.reads,ht])
  have hy:y.ev tm=y.ev br:=X.bY fun t ht=>h t (by simp[AO.reads,ht])
  simp only[aJ,hx,hy]
 |apps x y=>
  have hx:x.ev tm=x.ev br:=X.bY fun t ht=>h t (by simp[AO.reads,ht])
  have hy:y.ev tm=y.ev br:=X.bY fun t ht=>h t (by simp[AO.reads,ht])
  simp only[aJ,hx,hy]
 |box x=>
  have hx:x.ev tm=x.ev br:=X.bY fun t ht=>h t (by simp[AO.reads,ht])
  simp only[aJ,hx]
 |AG x=>
  have hx:x.ev tm=x.ev br:=X.bY fun t ht=>h t (by simp[AO.reads,ht])
  simp only[aJ,hx]
 |load x g n=>
  have hx:x.ev tm=x.ev br:=X.bY fun t ht=>h t (by simp[AO.reads,ht])
  simp only[aJ,hx]
 |store p x n=>
  have hp:p.ev tm=p.ev br:=X.bY fun t ht=>h t (by simp[AO.reads,ht])
  have hx:x.ev tm=x.ev br:=X.bY fun t ht=>h t (by simp[AO.reads,ht])
  simp only[aJ,hp,hx]
 |bR x=>
  have hx:x.ev tm=x.ev br:=X.bY fun t ht=>h t (by simp[AO.reads,ht])
  simp only[aJ,hx]
 |bin op x y=>
  have hx:x.ev tm=x.ev br:=X.bY fun t ht=>h t (by simp[AO.reads,ht])
  have hy:y.ev tm=y.ev br:=X.bY fun t ht=>h t (by simp[AO.reads,ht])
  simp only[aJ,hx,hy]
 |Gd n x y=>
  have hx:x.ev tm=x.ev br:=X.bY fun t ht=>h t (by simp[AO.reads,ht])
  have hy:y.ev tm=y.ev br:=X.bY fun t ht=>h t (by simp[AO.reads,ht])
  simp only[aJ,hx,hy]
 |eqs n ks x y=>
  have hx:x.ev tm=x.ev br:=X.bY fun t ht=>h t (by simp[AO.reads,ht])
  have hy:y.ev tm=y.ev br:=X.bY fun t ht=>h t (by simp[AO.reads,ht])
  simp only[aJ,hx,hy]
 |Ge n x y=>
  have hx:x.ev tm=x.ev br:=X.bY fun t ht=>h t (by simp[AO.reads,ht])
  have hy:y.ev tm=y.ev br:=X.bY fun t ht=>h t (by simp[AO.reads,ht])
  simp only[aJ,hx,hy]
 |un op x=>
  have hx:x.ev tm=x.ev br:=X.bY fun t ht=>h t (by simp[AO.reads,ht])
  simp only[aJ,hx]
 |conv k x=>
  have hx:x.ev tm=x.ev br:=X.bY fun t ht=>h t (by simp[AO.reads,ht])
  simp only[aJ,hx]
 |DS x=>
  have hx:x.ev tm=x.ev br:=X.bY fun t ht=>h t (by simp[AO.reads,ht])
  simp only[aJ,hx]
 |xL x=>
  have hx:x.ev tm=x.ev br:=X.bY fun t ht=>h t (by simp[AO.reads,ht])
  simp only[aJ,hx]
 |aq x n=>
  have hx:x.ev tm=x.ev br:=X.bY fun t ht=>h t (by simp[AO.reads,ht])
  simp only[aJ,hx]
 |CH x n g m=>
  have hx:x.ev tm=x.ev br:=X.bY fun t ht=>h t (by simp[AO.reads,ht])
  simp only[aJ,hx]
 |cf x i n=>
  have hx:x.ev tm=x.ev br:=X.bY fun t ht=>h t (by simp[AO.reads,ht])
  have hi:i.ev tm=i.ev br:=X.bY fun t ht=>h t (by simp[AO.reads,ht])
  simp only[aJ,hx,hi]
 |AH x i=>
  have hx:x.ev tm=x.ev br:=X.bY fun t ht=>h t (by simp[AO.reads,ht])
  have hi:i.ev tm=i.ev br:=X.bY fun t ht=>h t (by simp[AO.reads,ht])
  simp only[aJ,hx,hi]
 |ext x i=>
  have hx:x.ev tm=x.ev br:=X.bY fun t ht=>h t (by simp[AO.reads,ht])
  simp only[aJ,hx]
 |len x=>
  have hx:x.ev tm=x.ev br:=X.bY fun t ht=>h t (by simp[AO.reads,ht])
  simp only[aJ,hx]
 |va x=>
  have hx:x.ev tm=x.ev br:=X.bY fun t ht=>h t (by simp[AO.reads,ht])
  simp only[aJ,hx]
 |app a b x y=>
  have hx:x.ev tm=x.ev br:=X.bY fun t ht=>h t (by simp[AO.reads,ht])
  have hy:y.ev tm=y.ev br:=X.bY fun t ht=>h t (by simp[AO.reads,ht])
  simp only[aJ,hx,hy]
 |mm b x y=>
  have hx:x.ev tm=x.ev br:=X.bY fun t ht=>h t (by simp[AO.reads,ht])
  have hy:y.ev tm=y.ev br:=X.bY fun t ht=>h t (by simp[AO.reads,ht])
  simp only[aJ,hx,hy]
 | build z ps=>
  have hp:(ps.map fun p=>(p.1,p.2.1,p.2.2.ev tm))=ps.map fun p=>(p.1,p.2.1,p.2.2.ev br):=List.map_congr_left fun p hp=>by
   have:p.2.2.ev tm=p.2.2.ev br:=X.bY fun t ht=>h t (by simp only[AO.reads];exact q9 (List.mem_map_of_mem hp) ht)
   rw[this]
  simp only[aJ,hp]
 | dt z m n ps=>
  have hp:(ps.map fun p=>(p.1,p.2.ev tm))=ps.map fun p=>(p.1,p.2.ev br):=List.map_congr_left fun p hp=>by
   have:p.2.ev tm=p.2.ev br:=X.bY fun t ht=>h t (by simp only[AO.reads];exact q9 (List.mem_map_of_mem hp) ht)
   rw[this]
  simp only[aJ,hp]
 | u9 z m n ps=>
  have hp:(ps.map fun p=>(p.1,p.2.ev tm))=ps.map fun p=>(p.1,p.2.ev br):=List.map_congr_left fun p hp=>by
   have:p.2.ev tm=p.2.ev br:=X.bY fun t ht=>h t (by simp only[AO.reads];exact q9 (List.mem_map_of_mem hp) ht)
   rw[this]
  simp only[aJ,hp]
 |DT n x lo hi=>
  have hx:x.ev tm=x.ev br:=X.bY fun t ht=>h t (by simp[AO.reads,ht])
  have hl:lo.map (·.ev tm)=lo.map (·.ev br):=wo fun t ht=>h t (by simp[AO.reads,ht])
  have hh:hi.map (·.ev tm)=hi.map (·.ev br):=wo fun t ht=>h t (by simp[AO.reads,ht])
  simp only[aJ,hx,hl,hh]
 |Ie x lo hi=>
  have hx:x.ev tm=x.ev br:=X.bY fun t ht=>h t (by simp[AO.reads,ht])
  have hl:lo.map (·.ev tm)=lo.map (·.ev br):=wo fun t ht=>h t (by simp[AO.reads,ht])
  have hh:hi.map (·.ev tm)=hi.map (·.ev br):=wo fun t ht=>h t (by simp[AO.reads,ht])
  simp only[aJ,hx,hl,hh]
 |uJ f xs=>
  have hp:(xs.map fun x=>x.ev tm)=xs.map fun x=>x.ev br:=List.map_congr_left fun x hx=>X.bY fun t ht=>h t (by simp only[AO.reads];exact q9 hx ht)
  simp only[aJ,hp]
 |uK=>rfl
 |yF m k v=>
  have hm:m.ev tm=m.ev br:=X.bY fun t ht=>h t (by simp[AO.reads,ht])
  have hk:k.ev tm=k.ev br:=X.bY fun t ht=>h t (by simp[AO.reads,ht])
  have hv:v.ev tm=v.ev br:=X.bY fun t ht=>h t (by simp[AO.reads,ht])
  simp only[aJ,hm,hk,hv]
 |AN a b z l c=>
  have hl:l.ev tm=l.ev br:=X.bY fun t ht=>h t (by simp[AO.reads,ht])
  have hk:c.ev tm=c.ev br:=X.bY fun t ht=>h t (by simp[AO.reads,ht])
  simp only[aJ,hl,hk]
 |qP o x y=>
  have hx:x.ev tm=x.ev br:=X.bY fun t ht=>h t (by simp[AO.reads,ht])
  have hy:y.ev tm=y.ev br:=X.bY fun t ht=>h t (by simp[AO.reads,ht])
  simp only[aJ,hx,hy]
 |v8 m k z=>
  have hm:m.ev tm=m.ev br:=X.bY fun t ht=>h t (by simp[AO.reads,ht])
  have hk:k.ev tm=k.ev br:=X.bY fun t ht=>h t (by simp[AO.reads,ht])
  simp only[aJ,hm,hk]
theorem KK {x d:D} {agg:Bool} {size:Nat} {s s':St} (h:yH x agg size s=some (d,s')):s'=s:=by
 unfold yH at h
 (repeat' (split at h))<;>first|(cases h;rfl)|cases h
theorem KM {o:AO} (ho:gG o.kind=false) {tm:Tm} {s s':St} {d:D} (h:aJ o tm s=some (d,s')):s'=s:=by
 cases o<;>simp only[AO.kind,gG]at ho<;>first|cases ho|skip
 all_goals
  simp only[aJ]at h
  first
   |(cases h;rfl)
   |(repeat' (split at h))<;>first|exact KK h|(cases h;rfl)|cases h
theorem Nd {o:AO} (ho:o.kind = .pure) {tm:Tm} {s s':St} : (aJ o tm s).map (·.1)=(aJ o tm s').map (·.1):=by
 cases o<;>simp only[AO.kind]at ho<;>first|cases ho|skip
 all_goals
  simp only[aJ]
  first
   |rfl
   |(repeat' split)<;>rfl
def jN (ai:AI) (tm:Tm) (s:St):Option D:=
 match ai with
 | .op _ none o=>(aJ o tm s).map (·.1)
 | .op _ (some (t,want)) o=>
  match tm.get t with
  | .bool b=>if b=want then(aJ o tm s).map (·.1)else some (.tuple [])
  | .tuple _=>some (.tuple [])
  |_=>none
 |_=>none
def sB (P:Program) (ai:AI) (tm:Tm) (s:St) (d:D) (s':St):Prop:=
 match ai with
 | .op _ g o=>guarded g tm (aJ o tm s=some (d,s')) (d = .tuple []∧s'=s)
 | .call _ g f xs=>guarded g tm (bL P f (xs.map (·.ev tm)) s fun x y=>x=d∧y=s') (d = .tuple []∧s'=s)
 | .nil .. =>False
 | .jr .. =>False
def kP (P:Program) (is:List AI) (K:Tm→St→Prop):List (Nat×Nat)→List St→Tm→St→Prop
 | [],_,tm,s=>K tm s
 | (q,b)::r,bD,tm,s=>
  match is[q]? with
  |none=>False
  |some ai=>
   match gG ai.kind with
   |true=>∃ d s',sB P ai tm s d s'∧kP P is K r (s::bD) (tm.put ai.dst d) s'
   |false=>∃ d,jN ai tm s=some d∧(ai.kind = .load→∀ s'∈bD.take b,jN ai tm s'=some d)∧kP P is K r bD (tm.put ai.dst d) s
def Tm.eqv (a b:Tm):Prop:=∀ t,a.get t=b.get t
theorem Tm.lr (tm:Tm) (dst:Option Nat) (d:D) (t:Nat):(tm.put dst d).get t=if dst=some t then d else tm.get t:=by
 cases dst with
 |none=>simp[Tm.put]
 |some u=>
  simp only[Tm.put,Tm.Fj,Option.some.injEq]
  by_cases h:t=u
  ·subst h;simp
  ·rw[if_neg h,if_neg (fun e=>h e.symm)]
theorem Tm.eqv.put {a b:Tm} (h:a.eqv b) (dst:Option Nat) (d:D):(a.put dst d).eqv (b.put dst d):=fun t=>by
 rw[Tm.lr,Tm.lr,h t]
theorem Tm.IT (tm:Tm) {x y:Option Nat} (h : ∀ t,x=some t→y≠some t) (d e:D):((tm.put x d).put y e).eqv ((tm.put y e).put x d):=fun t=>by
 simp only[Tm.lr]
 by_cases h1:x=some t
 ·simp only[h1,h t h1,if_true,if_false]
 ·simp only[h1,if_false]
theorem Af {g:Option (Nat×Bool)} {tm br:Tm} {A A' C:Prop} (h : ∀ t∈vb g,tm.get t=br.get t) (ha:A→A') (hh:guarded g tm A C):guarded g br A' C:=by
 cases g with
 |none=>exact ha hh
 | some p=>
  obtain⟨t,want⟩:=p
  unfold guarded at *
  simp only at *
  rw[← h t (by simp[vb])]
  split
  ·rename_i b hb
   rw[hb]at hh
   exact⟨fun e=>ha (hh.1 e),hh.2⟩
  ·rename_i hb
   rw[hb]at hh
   exact hh
  ·rename_i x h1 h2
   split at hh
   ·exact h1 _ ‹_›
   ·exact h2 _ ‹_›
   ·exact hh
theorem Gt {tm br:Tm} : ∀ {l:List X},(∀ t∈n6 l,tm.get t=br.get t)→l.map (·.ev tm)=l.map (·.ev br)
 | [],_=>rfl
 |x::r,h=>by
  simp only[List.map_cons]
  rw[X.bY fun t ht=>h t (by simp[n6,ht]),Gt (l:=r) fun t ht=>h t (by simp[n6,ht])]
theorem xd {P:Program} {ai:AI} {tm br:Tm} {s s':St} {d:D} (h : ∀ t∈ai.reads,tm.get t=br.get t) (hh:sB P ai tm s d s'):sB P ai br s d s':=by
 cases ai with
 |op dst g o=>
  simp only[AI.reads,List.mem_append]at h
  exact Af (fun t ht=>h t (.inl ht)) (fun e=>by rw[← CS fun t ht=>h t (.inr ht)];exact e) hh
 |call dst g f xs=>
  simp only[AI.reads,List.mem_append]at h
  exact Af (fun t ht=>h t (.inl ht)) (fun e=>by rw[← Gt fun t ht=>h t (.inr ht)];exact e) hh
 |nil dst g n x=>exact hh
 |jr dst g t xs=>exact hh
theorem qJ {ai:AI} {tm br:Tm} {s:St} (h : ∀ t∈ai.reads,tm.get t=br.get t):jN ai tm s=jN ai br s:=by
 cases ai with
 | op dst g o=>
  simp only[AI.reads,List.mem_append]at h
  have he:=CS (s:=s) fun t ht=>h t (.inr ht)
  cases g with
  |none=>simp only[jN,he]
  |some p=>
   obtain⟨t,want⟩:=p
   simp only[jN,he,h t (.inl (by simp[vb]))]
 |call dst g f xs=>rfl
 |nil dst g n x=>rfl
 |jr dst g t xs=>rfl
theorem Lz {dst:Option Nat} {g:Option (Nat×Bool)} {o:AO} (h:gG (AI.op dst g o).kind=false):(AI.op dst g o).kind=o.kind:=by
 unfold AI.kind at *
 split at h
 ·cases h
 ·rename_i heq;cases heq;rfl
 ·cases h
theorem Tr {ai:AI} (hk:ai.kind = .pure) {tm:Tm} {s s':St} : jN ai tm s=jN ai tm s':=by
 cases ai with
 |op dst g o=>
  have ho:o.kind = .pure:=by rw[← hk];exact(Lz (by rw[hk];rfl)).symm
  have he:=Nd ho (tm:=tm) (s:=s) (s':=s')
  cases g with
  |none=>simp only[jN,he]
  |some p=>simp only[jN,he]
 |call dst g f xs=>rfl
 |nil dst g n x=>rfl
 |jr dst g t xs=>rfl
theorem apart_spec {a q:AI} (h:a.apart q=true):(∀ t,a.dst=some t→t∉q.reads)∧(∀ t,q.dst=some t→t∉a.reads)∧(∀ t,a.dst=some t→q.dst≠some t):=by
 unfold AI.apart at h
 simp only[Bool.and_eq_true]at h
 obtain⟨⟨h1,h2⟩,h3⟩:=h
 refine⟨fun t e=>?_,fun t e=>?_,fun t e e'=>?_⟩
 ·rw[e]at h1;simpa[DV]using h1
 ·rw[e]at h2;simpa[DV]using h2
 ·rw[e,e']at h3;simp at h3
theorem sC {tm:Tm} {dst:Option Nat} {d:D} {l:List Nat} (h : ∀ t,dst=some t→t∉l) : ∀ t∈l,tm.get t=(tm.put dst d).get t:=fun t ht=>by
 rw[Tm.lr,if_neg fun e=>h t e ht]
section
variable {P:Program} {is:List AI} {K:Tm→St→Prop}
theorem sD (hK : ∀ tm br s,Tm.eqv tm br→K tm s→K br s) : ∀ (R:List (Nat×Nat)) (bD:List St) (tm br:Tm) (s:St),tm.eqv br→kP P is K R bD tm s→kP P is K R bD br s
 | [],_,tm,br,s,e,h=>hK tm br s e h
 | (q,b)::R,bD,tm,br,s,e,h=>by
  unfold kP at *
  split at h
  ·exact h.elim
  ·rename_i ai wm
   split at h
   ·rename_i hc
    obtain⟨d,s',h1,h2⟩:=h
    exact⟨d,s',xd (fun t _=>e t) h1,sD hK R _ _ _ _ (e.put _ d) h2⟩
   ·rename_i hc
    obtain⟨d,h1,h2,h3⟩:=h
    refine⟨d, ?_,fun hl s' mV=>?_,sD hK R _ _ _ _ (e.put _ d) h3⟩
    ·rw[← qJ fun t _=>e t];exact h1
    ·rw[← qJ fun t _=>e t];exact h2 hl s' mV
theorem IU (i:Nat) (l:List Nat):jD is (i::l)=(if gG (jt is i)then 1 else 0)+jD is l:=by
 unfold jD
 rw[List.filter_cons]
 split<;>simp<;>omega
theorem xe (hK : ∀ tm br s,Tm.eqv tm br→K tm s→K br s) {q b:Nat} {ai:AI} (hq:is[q]? = some ai) (hm:gG ai.kind=false) (Y:List (Nat×Nat)) :
 ∀ (X:List (Nat×Nat)) (bD:List St) (tm:Tm) (s:St),(∀ a∈X,lj is a.1 q=true)→(ai.kind = .load→jD is (X.map (·.1))≤b)→
  kP P is K (X++(q,b)::Y) bD tm s→
  ∃ d,jN ai tm s=some d∧(ai.kind = .load→∀ s'∈bD.take (b - jD is (X.map (·.1))),jN ai tm s'=some d)∧kP P is K (X++Y) bD (tm.put ai.dst d) s
 | [],bD,tm,s,_,_,h=>by
  simp only[List.nil_append,kP,hq,hm]at h
  obtain⟨d,h1,h2,h3⟩:=h
  exact⟨d,h1,fun hl s' mV=>h2 hl s' (by simpa[jD]using mV),h3⟩
 | (a,c)::X,bD,tm,s,eO,hb,h=>by
  have Nf:=eO (a,c) (by simp)
  unfold lj at Nf
  split at Nf
  ·rename_i ia iq hia uA
   rw[hq]at uA
   cases uA
   obtain⟨p1,p2,p3⟩:=apart_spec Nf
   have Qk:jt is a=ia.kind:=by simp[jt,hia]
   have HV : ∀ x∈X,lj is x.1 q=true:=fun x hx=>eO x (List.mem_cons_of_mem _ hx)
   rw[List.map_cons,IU,Qk]at hb ⊢
   simp only[List.cons_append,kP,hia]at h ⊢
   cases hc:gG ia.kind
   ·simp only [hc,Bool.false_eq_true,if_false,Nat.zero_add]at h hb ⊢
    obtain⟨d,h1,h2,h3⟩:=h
    obtain⟨e,g1,g2,g3⟩:=xe hK hq hm Y X bD _ s HV hb h3
    have cg : ∀ s,jN ai tm s=jN ai (tm.put ia.dst d) s:=fun s=>qJ (sC p1)
    have cg' : ∀ s,jN ia tm s=jN ia (tm.put ai.dst e) s:=fun s=>qJ (sC p2)
    refine⟨e,by rw[cg];exact g1,fun hl s' mV=>by rw[cg];exact g2 hl s' mV,d,by rw[← cg'];exact h1,fun hl s' mV=>by rw[← cg'];exact h2 hl s' mV, ?_⟩
    exact sD hK _ _ _ _ _ (Tm.IT tm p3 d e) g3
   ·simp only [hc,if_true]at h hb ⊢
    obtain⟨d,s1,h1,h3⟩:=h
    obtain⟨e,g1,g2,g3⟩:=xe hK hq hm Y X (s::bD) _ s1 HV (fun hl=>by have:=hb hl;omega) h3
    have cg : ∀ s,jN ai tm s=jN ai (tm.put ia.dst d) s:=fun s=>qJ (sC p1)
    have qh:jN ai tm s=some e:=by
     cases hk:ai.kind with
     |pure=>rw[cg,Tr hk (s':=s1)];exact g1
     |load=>
      have:=hb hk
      rw[cg]
      refine g2 hk s ?_
      rw[show b - jD is (X.map (·.1))=(b - (1+jD is (X.map (·.1))))+1 by omega,List.take_succ_cons]
      exact List.mem_cons_self
     |alloc=>rw[hk]at hm;cases hm
     |core=>rw[hk]at hm;cases hm
    refine⟨e,qh,fun hl s' mV=>?_,d,s1,xd (sC p2) h1,sD hK _ _ _ _ _ (Tm.IT tm p3 d e) g3⟩
    have:=hb hl
    rw[cg]
    refine g2 hl s' ?_
    rw[show b - jD is (X.map (·.1))=(b - (1+jD is (X.map (·.1))))+1 by omega,List.take_succ_cons]
    exact List.mem_cons_of_mem _ mV
  ·cases Nf
end
end Go.Abs
namespace Go.Abs
section
variable {P:Program}
theorem Qx {o:Oper} {z:List D} (h:DX P o=some (.alloc z)) : ∃ t,o.op = .alloc t∧zeroOf P t=some z:=by
 obtain⟨dst,op,type,pos,after,guard⟩:=o
 unfold DX at h
 simp only at h
 split at h
 case h_4 t=>
  split at h
  ·obtain⟨z',h1,h2⟩:=map_some h;cases h2
  ·obtain⟨z',h1,h2⟩:=map_some h;cases h2;exact⟨t,rfl,h1⟩
 all_goals
  first
   |(rw[Option.map_eq_some_iff]at h;obtain⟨_,_,h⟩:=h;cases h)
   |skip
 all_goals
  (repeat' (split at h))<;>first|(cases h;done)|(rw[Option.map_eq_some_iff]at h;obtain⟨_,_,h⟩:=h;cases h)
theorem Bd {nt:Nat} {ops:Array Oper} {o:Oper} {ai:AI} (h:cI P nt ops o=some ai) :
 ∃ g,ve ops o.guard=some g∧(∀ t,o.dst=some t→t<nt)∧sv P ops o g=some ai:=by
 have h2:=xZ h
 unfold cI at h
 split at h
 ·cases h
 ·rename_i g hg
  split at h
  ·exact⟨g,hg,h2,h⟩
  ·cases h
theorem s8 {ops:Array Oper} {o:Oper} {g:Option (Nat×Bool)} {ai:AI} (h:sv P ops o g=some ai):ai.dst=o.dst:=by
 unfold sv at h
 split at h
 ·split at h
  ·obtain⟨xs,_,rfl⟩:=map_some h;rfl
  ·cases h
 ·obtain⟨xs,_,rfl⟩:=map_some h;rfl
 ·split at h
  ·cases h;rfl
  ·split at h
   ·cases h;rfl
   ·cases h;rfl
   ·cases h
theorem s9 {nt:Nat} {ops:Array Oper} {o:Oper} {ai:AI} (h:cI P nt ops o=some ai):ai.dst=o.dst:=by
 obtain⟨g,_,_,h⟩:=Bd h
 exact s8 h
theorem xf {nt:Nat} {ops:Array Oper} {i:Nat} {o:Oper} {ai:AI} (hi:ops[i]? = some o) (hc:cI P nt ops o=some ai)
 {M:Map} {s:St} {w:World} {tm:Tm} {act:Act} (r:Rel M s w) (kv:Laid M s w) (ht:lW M s tm act.tmps) {K':Tm→St→Prop} (h:iX P [ai] K' tm s)
 {K:Act→World→Prop} {Q:Exit→Act→World→Prop}
 (hK : ∀ d v s1 w1 M1,K' (tm.put ai.dst d) s1→Ext M s w M1 s1 w1→Rel M1 s1 w1→RD M1 s1 d v→K (act.put o.dst v) w1):wpOp P ops Q i K act w:=by
 obtain⟨g,hg,_,hb⟩:=Bd hc
 rw[s8 hb]at hK
 simp only[wpOp,hi]
 have skip:K' (tm.put o.dst (.tuple [])) s→K (act.put o.dst Go.undef) w:=fun hk=>hK _ _ _ _ _ hk (Ext.refl M s w) r .undef
 unfold sv at hb
 split at hb
 ·rename_i f args mF mE
  split at hb
  ·rename_i yS
   obtain⟨xs,oH,rfl⟩:=map_some hb
   simp only[iX]at h
   rcases ke hg ht h with ⟨hw,hA⟩|⟨hw,hB⟩
   ·simp only [hw,if_true]
    left
    have hex:(execOp act.eval o).run P w = .ok (.enter f (args.map act.eval)) w:=by
     obtain⟨dst,op,type,pos,after,guard⟩:=o
     simp only at mE
     subst mE
     exact xa act.eval dst f args mF type pos after guard rfl yS w
    obtain⟨c1,c2⟩:=wk ht oH
    unfold Oper.wp
    rw[hex,Oper.upon_enter]
    refine(hA M w (args.map act.eval) r kv (by simp[c1]) (fun i d v e1 e2=>c2 i d v e1 (by simpa using e2))).mono ?_
    rintro en w' ⟨M',d,v,s',rfl,hk,e',r',hv⟩
    exact hK _ _ _ _ _ hk e' r' hv
   ·simp only [hw]
    exact skip hB
  ·cases hb
 ·rename_i t args mF mE
  obtain⟨xs,oH,rfl⟩:=map_some hb
  simp only[iX]at h
  rcases ke hg ht h with ⟨hw,hA⟩|⟨hw,hB⟩
  ·simp only [hw,if_true]
   left
   split at hA
   ·rename_i f nJ oG
    obtain⟨yS,hA⟩:=hA
    have Qn:=ht t
    rw[oG]at Qn
    obtain⟨vs,oU,hlen,D8⟩:=Qn.Lu
    have hex:(execOp act.eval o).run P w = .ok (.enter f (args.map act.eval++vs)) w:=by
     obtain⟨dst,op,type,pos,after,guard⟩:=o
     simp only at mE
     subst mE
     exact A8 act.eval dst (.tmp t) f vs args mF type pos after guard oU yS w
    have cc:=Gq oH ht hlen D8
    unfold Oper.wp
    rw[hex,Oper.upon_enter]
    refine(hA M w (args.map act.eval++vs) r kv cc.1 cc.2).mono ?_
    rintro en w' ⟨M',d,v,s',rfl,hk,e',r',hv⟩
    exact hK _ _ _ _ _ hk e' r' hv
   ·exact hA.elim
  ·simp only [hw]
   exact skip hB
 ·split at hb
  ·rename_i neg x Di
   cases hb
   simp only[iX]at h
   rcases ke hg ht h with ⟨hw,hA⟩|⟨hw,hB⟩
   ·simp only [hw,if_true]
    left
    split at hA
    ·rename_i g' z rows hx
     obtain⟨b,hb,hex⟩:=Ab (w:=w) Di ht hx
     unfold Oper.wp
     rw[hex,Oper.upon_value]
     exact hK _ _ _ _ _ (hA b hb) (Ext.refl M s w) r (.bool _)
    ·exact hA.elim
   ·simp only [hw]
    exact skip hB
  ·have fin : ∀ ao,ai = .op o.dst g ao→(∀ d s',aJ ao tm s=some (d,s')→cR P M s w (execOp act.eval o) d s')→
    (if Region.wanted o (yielded ops act.tmps)=true then o.wp P act w K Q∨(o.asks P act w∧LetsOut Q)else K (act.put o.dst Go.undef) w):=by
    intro ao wm hdo
    subst wm
    simp only[iX]at h
    rcases ke hg ht h with ⟨hw,hA⟩|⟨hw,hB⟩
    ·simp only [hw,if_true]
     left
     split at hA
     ·rename_i d s' qH
      obtain⟨v,w',M',dE,r',hv,e'⟩:=hdo d s' qH
      unfold Oper.wp
      rcases dE with dE|⟨dE,rfl⟩
      ·rw [dE,Oper.upon_value]
       exact hK _ _ _ _ _ hA e' r' hv
      ·rw [dE,Oper.upon_skip]
       exact hK _ _ _ _ _ hA e' r' hv
     ·exact hA.elim
    ·simp only [hw]
     exact skip hB
   split at hb
   ·rename_i z k n ps n8
    cases hb
    refine fin _ rfl (fun d s' qH=>?_)
    split at qH
    ·exact yR n8 r ht qH
    ·exact sA n8 r ht qH
   ·rename_i ao n8
    cases hb
    exact fin _ rfl (fun d s' qH=>sA n8 r ht qH)
   ·cases hb
structure LA (M:Map) (s:St) (b:Nat):Prop where
 o : ∀ o,o<s.ah.length→M.mu o≠b
 t : ∀ t c z,s.live t→M.be t≠some (b,c,z)
 g : ∀ off,M.G b off=none
theorem LA.mono {M M':Map} {s s':St} {w w':World} {b:Nat} (h:LA M s b) (e:Ext M s w M' s' w') (hb:b<w.heap.size):LA M' s' b:=by
 refine⟨fun o ho=>?_,fun t c z hl he=>?_,fun off=>?_⟩
 ·rcases e.mo ho with ⟨h1,h2⟩ | h1
  ·rw[h2];exact h.o o h1
  ·omega
 ·rcases e.qn t b c z hl he with ⟨h1,c',z',h2⟩ | h1
  ·exact h.t t c' z' h1 h2
  ·omega
 ·by_cases hg:M'.G b off=M.G b off
  ·rw[hg];exact h.g off
  ·rcases e.rV b off hg with h1 | ⟨t,c,z,h1,h2⟩
   ·omega
   ·exact(h.t t c z h1 h2).elim
theorem Rel.idle {M:Map} {s:St} {w:World} (r:Rel M s w) (x:Obj):Rel M s (w.alloc x)∧Ext M s w M s (w.alloc x)∧LA M s w.heap.size:=by
 refine⟨⟨fun b o v e=>?_,fun o ds e=>?_,r.jH,r.inj,fun t n e=>?_,r.fc,r.fO⟩, ?_,⟨fun o ho=>?_,fun t c z hl e=>?_,fun off=>r.Mx (Nat.le_refl _) off⟩⟩
 ·obtain⟨h3,h4⟩:=r.comm b o v e
  refine⟨?_,h4⟩
  rw[World.cell?_alloc_lt]
  ·exact h3
  ·exact r.AU e
 ·obtain⟨vs,T,h3,h4,h5,h6⟩:=r.obj o ds e
  exact⟨vs,T,h3.keep (heap_alloc_old w _ _ h3.lt),h4,h5,h6⟩
 ·rcases r.tok t n e with h3 | ⟨b,cap,size,fC,T',h3,h4,h5⟩
  ·exact .inl h3
  ·exact .inr ⟨b,cap,size,fC,T',h3,by rw[heap_alloc_old w _ _ (j8 h4)];exact h4,h5⟩
 ·exact⟨Le.refl M s,fun b hb _ _=>heap_alloc_old w _ b hb,fun o h3 h4=>by rcases h3 with h3|h3;omega;exact(h3 rfl).elim,fun t b c z h e=> .inl ⟨h,c,z,e⟩,fun _ _ h=>(h rfl).elim,by simp,rfl,rfl,rfl⟩
 ·have:=r.qf ho;omega
 ·have:=r.sw hl e;omega
theorem Rel.aeR {M:Map} {s:St} {w:World} (r:Rel M s w) {B:fR} (e:Ext B.M B.s B.w M s w) {b:Nat} (u:LA M s b) (hb:B.w.heap.size≤b)
 (ds:List D) (vs:Array Value) (T:TypeId) (hh:w.heap[b]? = some (.cells vs T (0,0))) (hl:vs.size=ds.length) (h1 : ∀ v∈vs,v.oneCell'=true)
 (h2 : ∀ (i:Nat) (d:D) (v:Value),ds[i]? = some d→vs[i]? = some v→RD M s d v) :
 Rel (M.dL s.ah.length b) {s with ah:=s.ah++ [ds]} w∧Ext B.M B.s B.w (M.dL s.ah.length b) {s with ah:=s.ah++ [ds]} w∧
 Le M s (M.dL s.ah.length b) {s with ah:=s.ah++ [ds]}:=by
 have le:=rX (M:=M) s b ds
 have mS : ∀ o,o<s.ah.length→(M.dL s.ah.length b).mu o=M.mu o:=fun o ho=>congrArg Prod.fst (sT M b .any ho)
 have dg:(M.dL s.ah.length b).mu s.ah.length=b:=by simp[Map.dL,Map.mu]
 refine⟨⟨r.comm,fun o nD e'=>?_,fun o ho off=>?_,fun o o' ho nE e'=>?_,r.tok,fun t b' c z o hl e' ho=>?_,r.fO⟩, ?_,le⟩
 ·rcases Nat.lt_or_ge o s.ah.length with ho | ho
  ·rw [List.getElem?_append_left ho]at e'
   obtain⟨fC,T',h3,h4,h5,h6⟩:=r.obj o nD e'
   refine⟨fC,T', ?_,h4,⟨h5.1,by rw[le.ty o ho];exact h5.2⟩,fun i d v e1 e2=>(h6 i d v e1 e2).mono le⟩
   rw[sT M b .any ho];exact h3
  ·rw [List.getElem?_append_right ho]at e'
   have:o=s.ah.length:=by
    have:=(List.getElem?_eq_some_iff.1 e').1
    simp at this;omega
   subst this
   simp at e';subst e'
   refine⟨vs,T, ?_,hl,⟨h1,fun T' h=>by simp[Map.dL,Map.ty,Ob.ty?]at h⟩,fun i d v e1 e2=>(h2 i d v e1 e2).mono le⟩
   have hl:(M.dL s.ah.length b).loc s.ah.length=(b, .any):=by simp[Map.dL]
   rw[hl];exact iz.of hh trivial
 ·simp at ho
  rcases Nat.lt_or_ge o s.ah.length with h3|h3
  ·rw[mS o h3];exact r.jH o h3 off
  ·have:o=s.ah.length:=by omega
   subst this
   rw[dg];exact u.g off
 ·simp at ho nE
  rcases Nat.lt_or_ge o s.ah.length with h3|h3<;>rcases Nat.lt_or_ge o' s.ah.length with h4|h4
  ·rw[mS o h3,mS o' h4]at e';exact r.inj o o' h3 h4 e'
  ·have:o'=s.ah.length:=by omega
   subst this
   rw[mS o h3,dg]at e'
   exact(u.o o h3 e').elim
  ·have:o=s.ah.length:=by omega
   subst this
   rw[mS o' h4,dg]at e'
   exact(u.o o' h4 e'.symm).elim
  ·omega
 ·simp at ho
  rcases Nat.lt_or_ge o s.ah.length with h3|h3
  ·rw[mS o h3];exact r.fc t b' c z o hl e' h3
  ·have:o=s.ah.length:=by omega
   subst this
   rw[dg]
   intro he
   subst he
   exact u.t t c z hl e'
 ·refine⟨e.le.trans le,e.kept,fun o h3 h4=> ?_,e.qn,e.rV,e.size,e.os,e.tape,e.output⟩
  simp at h4
  rcases Nat.lt_or_ge o s.ah.length with h5|h5
  ·rw[mS o h5]at h3 ⊢;exact e.tH o h3 h5
  ·have:o=s.ah.length:=by omega
   subst this
   rw[dg];exact hb
theorem KN {nt:Nat} {ops:Array Oper} {i:Nat} {o:Oper} {t:Nat} {z:List D} (hi:ops[i]? = some o) (hc:cI P nt ops o=some (.op (some t) none (.alloc z)))
 {w:World} {act:Act} {K:Act→World→Prop} {Q:Exit→Act→World→Prop}
 (hK : ∀ vs T,vs.size=z.length→(∀ v∈vs,v.oneCell'=true)→(∀ (M:Map) (s:St) (i:Nat) (d:D) (v:Value),z[i]? = some d→vs[i]? = some v→RD M s d v)→
  K (act.put (some t) (.pointer (some ⟨w.heap.size,0,none⟩))) (w.alloc (.cells vs T))):wpOp P ops Q i K act w:=by
 obtain⟨g,hg,_,hb⟩:=Bd hc
 have qt:=s8 hb
 simp only[AI.dst]at qt
 simp only[wpOp,hi]
 have mE:g=none∧DX P o=some (.alloc z):=by
  unfold sv at hb
  split at hb
  ·split at hb
   ·obtain⟨xs,_,h⟩:=map_some hb;cases h
   ·cases hb
  ·obtain⟨xs,_,h⟩:=map_some hb;cases h
  ·split at hb
   ·cases hb
   ·split at hb
    ·rename_i n8
     simp only[Option.some.injEq,AI.op.injEq]at hb
     obtain⟨_,_,h⟩:=hb
     split at h<;>cases h
    ·rename_i ao n8
     simp only[Option.some.injEq,AI.op.injEq]at hb
     obtain⟨_,h1,h2⟩:=hb
     subst h2
     exact⟨h1,n8⟩
    ·cases hb
 obtain⟨rfl,n8⟩:=mE
 obtain⟨T,hT,hz⟩:=Qx n8
 have hw:Region.wanted o (yielded ops act.tmps)=true:=by
  have:o.guard=none:=by
   cases Gh:o.guard with
   |none=>rfl
   |some p=>
    obtain⟨j,b⟩:=p
    rw[Gh]at hg
    unfold ve at hg
    simp only at hg
    split at hg<;>cases hg
  simp[Region.wanted,this]
 simp only[hw,if_true]
 left
 unfold zeroOf at hz
 split at hz
 ·rename_i inf M4
  split at hz
  ·rename_i v hv
   split at hz
   ·have dE:(execOp act.eval o).run P w = .ok (.value (.pointer (some ⟨w.heap.size,0,none⟩))) (w.alloc (.cells v.cells T)):=by
     obtain⟨dst,op,type,pos,after,guard⟩:=o
     simp only at hT
     subst hT
     simp[execOp,Instr.alloc,zeroValue,fQ P M4,hv,newVar,newRow]
    have h3:=fun M s=>ln (M:=M) (s:=s) hz
    obtain⟨h1,h2,_⟩:=h3 ⟨fun _ _=>none,fun _=>(0, .any),fun _=>none⟩ ⟨[],[]⟩
    unfold Oper.wp
    rw[dE,Oper.upon_value, ← qt]
    exact hK _ _ (by rw[h1];simp) (fun u hu=>h2 u (by simpa using hu)) (fun M s i d u e1 e2=>(h3 M s).2.2 i d u e1 (by simpa using e2))
   ·cases hz
  ·cases hz
 ·cases hz
end
end Go.Abs
namespace Go.Abs
section
variable {is:List AI} {af pt:List (List Nat)}
theorem Ag {pq:List Nat} {l l':List Nat} (h:l'.Sublist l) (hb:k8 is pq l=true):k8 is pq l'=true:=by
 induction h with
 |slnil=>rfl
 |cons a h ih=>
  simp only[k8,Bool.and_eq_true]at hb
  exact ih hb.2
 |cons_cons a h ih=>
  simp only[k8,Bool.and_eq_true,Bool.or_eq_true]at hb ⊢
  refine⟨hb.1.imp id fun h1=>?_,ih hb.2⟩
  rw[List.all_eq_true]at h1 ⊢
  exact fun x hx=>h1 x (h.subset hx)
theorem Ca {f:Nat→Bool} {l l':List Nat} (h:l'.Sublist l) (ha:l.all f=true):l'.all f=true:=by
 rw[List.all_eq_true]at ha ⊢
 exact fun x hx=>ha x (h.subset hx)
theorem KO {l l':List Nat} (h:l'.Sublist l):jD is l'≤jD is l:=(h.filter _).length_le
theorem Ng {pre Ft:List Nat} {q b:Nat} (h:Ft.Sublist pre) (hs:oQ is pt pre q b=true):oQ is pt Ft q b=true:=by
 unfold oQ at *
 split at hs
 ·exact Ca h hs
 ·exact Ca h hs
 ·simp only [Bool.and_eq_true]at hs ⊢
  exact⟨Ca h hs.1,Ag h hs.2⟩
 ·simp only [Bool.and_eq_true,decide_eq_true_eq]at hs ⊢
  exact⟨⟨Ca h hs.1.1,Ag h hs.1.2⟩,Nat.le_trans (KO (h.filter _)) hs.2⟩
theorem IV : ∀ {R:List (Nat×Nat)} {pre Ft:List Nat},Ft.Sublist pre→uw is af pt pre R=true→uw is af pt Ft R=true
 | [],_,_,_,_=>rfl
 |(q,b)::R,pre,Ft,h,ho=>by
  simp only[uw,Bool.and_eq_true,Bool.not_eq_true']at ho ⊢
  obtain⟨⟨⟨h1,h2⟩,h3⟩,h4⟩:=ho
  refine⟨⟨⟨Ng h h1, ?_⟩,h3⟩,IV (h.cons_cons q) h4⟩
  rw[← Bool.not_eq_true,List.contains_iff_mem]at h2 ⊢
  exact fun hm=>h2 (h.subset hm)
theorem Fu : ∀ {X:List (Nat×Nat)} {e:Nat×Nat} {Y:List (Nat×Nat)} {pre:List Nat},uw is af pt pre (X++e::Y)=true→uw is af pt pre (X++Y)=true
 | [],(q,b),Y,pre,h=>by
  simp only[List.nil_append,uw,Bool.and_eq_true]at h
  exact IV (List.sublist_cons_self q pre) h.2
 |(a,c)::X,e,Y,pre,h=>by
  simp only[List.cons_append,uw,Bool.and_eq_true]at h ⊢
  obtain⟨⟨⟨h1,h2⟩,h3⟩,h4⟩:=h
  refine⟨⟨⟨h1,h2⟩, ?_⟩,Fu h4⟩
  rw[List.all_eq_true]at h3 ⊢
  intro j hj
  have:=h3 j hj
  simp only[Bool.and_eq_true,Bool.not_eq_true']at this ⊢
  refine⟨this.1, ?_⟩
  have h5:=this.2
  rw[← Bool.not_eq_true,List.contains_iff_mem]at h5 ⊢
  refine fun hm=>h5 ?_
  simp only[List.map_append,List.map_cons,List.mem_append,List.mem_cons]at hm ⊢
  exact hm.imp id .inr
theorem ta : ∀ {X:List (Nat×Nat)} {q b:Nat} {Y:List (Nat×Nat)} {pre:List Nat},uw is af pt pre (X++(q,b)::Y)=true→
 oQ is pt ((X.map (·.1)).reverse++pre) q b=true∧q∉X.map (·.1)∧q∉pre∧(∀ j∈gU af q,j≠q∧j∉Y.map (·.1))∧uw is af pt (q::((X.map (·.1)).reverse++pre)) Y=true
 | [],q,b,Y,pre,h=>by
  simp only[List.nil_append,uw,Bool.and_eq_true,Bool.not_eq_true']at h
  obtain⟨⟨⟨h1,h2⟩,h3⟩,h4⟩:=h
  rw[← Bool.not_eq_true,List.contains_iff_mem]at h2
  refine⟨h1,by simp,h2,fun j hj=>?_,h4⟩
  rw[List.all_eq_true]at h3
  have:=h3 j hj
  simp only[Bool.and_eq_true,bne_iff_ne,Bool.not_eq_true', ← Bool.not_eq_true,List.contains_iff_mem]at this
  exact this
 |(a,c)::X,q,b,Y,pre,h=>by
  simp only[List.cons_append,uw,Bool.and_eq_true]at h
  obtain⟨_,h4⟩:=h
  obtain⟨g1,g2,g3,g4,g5⟩:=ta h4
  simp only[List.map_cons,List.reverse_cons,List.append_assoc,List.singleton_append]
  refine⟨g1, ?_,fun h=>g3 (List.mem_cons_of_mem _ h),g4,g5⟩
  intro hm
  rcases List.mem_cons.1 hm with rfl|hm
  ·exact g3 (by simp)
  ·exact g2 hm
theorem Cb : ∀ {Y:List (Nat×Nat)} {pre:List Nat},uw is af pt pre Y=true→∀ x∈Y,x.1∉pre∧(jt is x.1 = .alloc→∀ a∈pre,lj is a x.1=true)
 | [],_,_,x,hx=>by cases hx
 | (q,b)::Y,pre,h,x,hx=>by
  simp only[uw,Bool.and_eq_true,Bool.not_eq_true']at h
  obtain⟨⟨⟨h1,h2⟩,_⟩,h4⟩:=h
  rw[← Bool.not_eq_true,List.contains_iff_mem]at h2
  rcases List.mem_cons.1 hx with rfl|hx
  ·refine⟨h2,fun hk a ha=> ?_⟩
   unfold oQ at h1
   simp only[hk]at h1
   rw[List.all_eq_true]at h1
   exact h1 a ha
  ·obtain⟨g1,g2⟩:=Cb h4 x hx
   exact⟨fun h=>g1 (List.mem_cons_of_mem _ h),fun hk a ha=>g2 hk a (List.mem_cons_of_mem _ ha)⟩
theorem CT : ∀ {n:Nat},xM af pt n=true→∀ i,i<n→∀ j∈gU pt i,j∈gU af i∨∃ k∈gU af i,j∈gU pt k
 | 0,_,i,hi=>by omega
 | n+1,h,i,hi=>by
  simp only[xM,Bool.and_eq_true]at h
  rcases Nat.lt_or_ge i n with h1|h1
  ·exact CT h.2 i h1
  ·have:i=n:=by omega
   subst this
   intro j hj
   have:=h.1
   rw[List.all_eq_true]at this
   have:=this j hj
   simp only[Bool.or_eq_true,List.contains_iff_mem,List.any_eq_true]at this
   exact this
theorem ya {pq:List Nat} : ∀ {l:List Nat},k8 is pq l=true→∀ (x:Nat) (l1 l2:List Nat),l=l1++x::l2→jt is x = .alloc→x∈pq→∀ y∈l2,y∈pq
 | [],_,x,l1,l2,h=>by simp at h
 | a::l,hb,x,l1,l2,h=>by
  simp only[k8,Bool.and_eq_true,Bool.or_eq_true,Bool.not_eq_true',Bool.and_eq_false_iff]at hb
  intro hk hx y hy
  cases l1 with
  | nil=>
   simp only[List.nil_append,List.cons.injEq]at h
   obtain⟨rfl,rfl⟩:=h
   rcases hb.1 with h1|h1
   ·rcases h1 with h1 | h1
    ·simp[hk]at h1
    ·rw [← Bool.not_eq_true,List.contains_iff_mem]at h1
     exact(h1 hx).elim
   ·rw [List.all_eq_true]at h1
    have:=h1 y hy
    rwa [List.contains_iff_mem]at this
  |cons b l1=>
   simp only[List.cons_append,List.cons.injEq]at h
   exact ya hb.2 x l1 l2 h.2 hk hx y hy
end
structure Pd where
 q:Nat
 t:Nat
 z:List D
 b:Nat
structure aaP (is:List AI) (R:List (Nat×Nat)) (B:fR) (M:Map) (s:St) (act:Act) (w:World) (p:Pd):Prop where
 mem:p.q∈R.map (·.1)
 ai:is[p.q]? = some (.op (some p.t) none (.alloc p.z))
 cells : ∃ (vs:Array Value) (T:TypeId),w.heap[p.b]? = some (.cells vs T (0,0))∧vs.size=p.z.length∧(∀ v∈vs,v.oneCell'=true)∧
  ∀ (M:Map) (s:St) (i:Nat) (d:D) (v:Value),p.z[i]? = some d→vs[i]? = some v→RD M s d v
 unk:LA M s p.b
 base:B.w.heap.size≤p.b
 slot:act.tmps.getD p.t Go.undef = .pointer (some ⟨p.b,0,none⟩)
def yW (P:Program) (is:List AI) (K:Tm→St→Prop) (B:fR) (nt:Nat) (R:List (Nat×Nat)) (eg:List Pd) (act:Act) (w:World):Prop:=
 ∃ (M:Map) (s:St) (tm tc:Tm) (bD:List St),Ext B.M B.s B.w M s w∧Rel M s w∧lW M s tc act.tmps∧(∀ t,(∀ p∈eg,p.t≠t)→tc.get t=tm.get t)∧
  act.tmps.size=nt∧act.defers = []∧kP P is K R bD tm s∧(∀ p∈eg,aaP is R B M s act w p)∧
  (∀ p∈eg,∀ p'∈eg,p.q=p'.q∨p.t=p'.t∨p.b=p'.b→p=p')
structure rf (is:List AI) (af pt:List (List Nat)) (dq:Array Bool) (R:List (Nat×Nat)) (eg:List Pd):Prop where
 ok:uw is af pt [] R=true
 Gu : ∀ i,i<is.length→(dq.getD i false=true↔(i∉R.map (·.1)∨∃ p∈eg,p.q=i))
 cl : ∀ i,i<is.length→dq.getD i false=true→∀ j∈gU pt i,dq.getD j false=true
 size:dq.size=is.length
 lt : ∀ x∈R,x.1<is.length
section
variable {P:Program} {is:List AI} {af pt:List (List Nat)} {K:Tm→St→Prop} {B:fR} {nt:Nat}
theorem aaQ {dq:Array Bool} {q b:Nat} {R:List (Nat×Nat)} {eg:List Pd} {act:Act} {w:World} (hs:rf is af pt dq ((q,b)::R) eg) (h:yW P is K B nt ((q,b)::R) eg act w)
 {p:Pd} (hp:p∈eg) (uB:p.q=q) :
 rf is af pt dq R (eg.filter fun p'=>decide (p'.q≠q))∧yW P is K B nt R (eg.filter fun p'=>decide (p'.q≠q)) act w:=by
 have gy : ∀ p',p'∈(eg.filter fun p'=>decide (p'.q≠q))↔p'∈eg∧p'.q≠q:=fun p'=>by simp
 constructor
 ·have pE:=hs.ok
  have Dl:=ta (X:= []) pE
  refine⟨Fu (X:= []) pE,fun i hi=>?_,hs.cl,hs.size,fun x hx=>hs.lt x (List.mem_cons_of_mem _ hx)⟩
  rw[hs.Gu i hi]
  simp only[List.map_cons,List.mem_cons,not_or]
  have hqR:q∉R.map (·.1):=fun hm=>by
   obtain⟨x,hx,rfl⟩:=List.mem_map.1 hm
   exact(Cb Dl.2.2.2.2 x hx).1 (by simp)
  constructor
  ·rintro(⟨h1,h2⟩ | ⟨p',h1,h2⟩)
   ·exact .inl h2
   ·by_cases hq:i=q
    ·subst hq;exact .inl hqR
    ·exact .inr ⟨p',(gy p').2 ⟨h1,by rw[h2];exact hq⟩,h2⟩
  ·rintro(h1 | ⟨p',h1,h2⟩)
   ·by_cases hq:i=q
    ·subst hq;exact .inr ⟨p,hp,uB⟩
    ·exact .inl ⟨hq,h1⟩
   ·exact .inr ⟨p',((gy p').1 h1).1,h2⟩
 ·obtain⟨M,s,tm,tc,bD,e,r,ht,qh,hn,hd,hg,wq,sE⟩:=h
  have hk:=wq p hp
  obtain⟨vs,T,hh,hl,h1,h2⟩:=hk.cells
  have wm:=hk.ai
  rw[uB]at wm
  simp only[kP,wm,AI.kind,gG]at hg
  obtain⟨d,s',iU,hg⟩:=hg
  have qH:aJ (.alloc p.z) tm s=some (d,s'):=iU
  simp only[aJ,Option.some.injEq,Prod.mk.injEq]at qH
  obtain⟨rfl,rfl⟩:=qH
  obtain⟨r',e',le⟩:=r.aeR e hk.unk hk.base p.z vs T hh hl h1 (h2 M s)
  refine⟨_,_,_,tc.put (some p.t) (.ptr s.ah.length 0),_,e',r',fun u=>?_,fun t LB=>?_,hn,hd,hg,fun p' mP=>?_,fun p1 h1 p2 h2=>sE p1 ((gy p1).1 h1).1 p2 ((gy p2).1 h2).1⟩
  ·rw [Tm.lr]
   split
   ·rename_i heq
    cases heq
    rw[hk.slot]
    have:(M.dL s.ah.length p.b).mu s.ah.length=p.b:=by simp[Map.dL,Map.mu]
    have h5:=RD.ptr (M:=M.dL s.ah.length p.b) (s:= {s with ah:=s.ah++ [p.z]}) s.ah.length 0 (by simp) (by simp[Map.dL,Map.ob,Ob.plain])
    rw[this]at h5
    exact h5
   ·exact(ht u).mono le
  ·simp only [AI.dst]
   rw[Tm.lr,Tm.lr]
   split
   ·rfl
   ·rename_i eK
    refine qh t fun p' mP=>?_
    by_cases hq:p'.q=q
    ·have:=sE p' mP p hp (.inl (hq.trans uB.symm))
     subst this
     exact fun h=>eK (by rw[h])
    ·exact LB p' ((gy p').2 ⟨mP,hq⟩)
  ·obtain⟨hp1,hp2⟩:=(gy p').1 mP
   have uv:=wq p' hp1
   refine⟨?_,uv.ai,uv.cells,⟨fun o ho=>?_,uv.unk.t,uv.unk.g⟩,uv.base,uv.slot⟩
   ·have:=uv.mem
    simp only[List.map_cons,List.mem_cons]at this
    exact this.resolve_left hp2
   ·simp at ho
    rcases Nat.lt_or_ge o s.ah.length with h5|h5
    ·rw[show(M.dL s.ah.length p.b).mu o=M.mu o from congrArg Prod.fst (sT M p.b .any h5)];exact uv.unk.o o h5
    ·have:o=s.ah.length:=by omega
     subst this
     have:(M.dL s.ah.length p.b).mu s.ah.length=p.b:=by simp[Map.dL,Map.mu]
     rw[this]
     intro hb
     have:=sE p hp p' hp1 (.inr (.inr hb))
     subst this
     exact hp2 uB
theorem norm {dq:Array Bool} {act:Act} {w:World} : ∀ (R:List (Nat×Nat)) (eg:List Pd),rf is af pt dq R eg→yW P is K B nt R eg act w→
 ∃ R' wu,rf is af pt dq R' wu∧yW P is K B nt R' wu act w∧∀ x l,R'=x::l→∀ p∈wu,p.q≠x.1
 | [],eg,hs,h=>⟨[],eg,hs,h,fun _ _ he=>by cases he⟩
 | (q,b)::R,eg,hs,h=>by
  by_cases hp : ∃ p∈eg,p.q=q
  ·obtain⟨p,hp,uB⟩:=hp
   obtain⟨h1,h2⟩:=aaQ hs h hp uB
   exact norm R _ h1 h2
  ·refine⟨(q,b)::R,eg,hs,h,fun x l he p hpm uB=>hp ⟨p,hpm, ?_⟩⟩
   cases he
   exact uB
theorem Wo {ops:Array Oper} {q:Nat} {o:Oper} {ai:AI} (hi:ops[q]? = some o) (hc:cI P nt ops o=some ai) {R R':List (Nat×Nat)} {eg:List Pd} {act:Act} {w:World} {M:Map} {s s1:St} {tm tc:Tm} {d:D} {Wp:List St}
 (e:Ext B.M B.s B.w M s w) (r:Rel M s w) (ht:lW M s tc act.tmps) (qh : ∀ t,(∀ p∈eg,p.t≠t)→tc.get t=tm.get t) (hn:act.tmps.size=nt) (hd:act.defers = [])
 (wq : ∀ p∈eg,aaP is R B M s act w p) (sE : ∀ p∈eg,∀ p'∈eg,p.q=p'.q∨p.t=p'.t∨p.b=p'.b→p=p')
 (hv:iX P [ai] (fun a b=>a=tc.put ai.dst d∧b=s1) tc s) (hg:kP P is K R' Wp (tm.put ai.dst d) s1)
 (gy : ∀ p∈eg,p.q∈R'.map (·.1)) (qt : ∀ p∈eg,ai.dst≠some p.t) {Q:Exit→Act→World→Prop} :
 wpOp P ops Q q (yW P is K B nt R' eg) act w:=by
 refine xf hi hc r (B.laid.ext e) ht hv fun d' v s2 w1 M1 hk e1 r1 ju=>?_
 obtain⟨wc,rfl⟩:=hk
 have hde:=s9 hc
 have hD : ∀ t,o.dst=some t→t<act.tmps.size:=fun t h=>by rw[hn];exact xZ hc t h
 refine⟨M1,s2,tm.put ai.dst d,tc.put ai.dst d,Wp,e.trans e1,r1, ?_,fun t LB=>?_, ?_, ?_,hg,fun p hp=>?_,sE⟩
 ·rw [← wc,hde]
  exact(ht.mono e1.le).put hD ju
 ·rw[Tm.lr,Tm.lr,qh t LB]
 ·cases ho:o.dst<;>simp[Act.put,hn]
 ·cases ho:o.dst<;>simp[Act.put,hd]
 ·have hk:=wq p hp
  obtain⟨vs,T,hh,hl,h1,h2⟩:=hk.cells
  have hb:=j8 hh
  refine⟨gy p hp,hk.ai,⟨vs,T,by rw[e1.kept p.b hb hk.unk.o hk.unk.t];exact hh,hl,h1,h2⟩,hk.unk.mono e1 hb,hk.base, ?_⟩
  rw[← hk.slot]
  have:=qt p hp
  rw[hde]at this
  cases ho:o.dst with
  |none=>rfl
  |some t=>
   rw[ho]at this
   have eK:t≠p.t:=fun h=>this (by rw[h])
   simp[Act.put,Array.getElem?_setIfInBounds_ne eK]
theorem Nh {ai:AI} (hm:gG ai.kind=false) {tm:Tm} {s:St} {d:D} (h:jN ai tm s=some d):iX P [ai] (fun a b=>a=tm.put ai.dst d∧b=s) tm s:=by
 cases ai with
 | op dst g o=>
  have hko:=Lz hm
  have key : ∀ {d},(aJ o tm s).map (·.1)=some d→aJ o tm s=some (d,s):=by
   intro d h
   cases he:aJ o tm s with
   |none=>rw[he]at h;cases h
   |some p=>
    obtain⟨d',s'⟩:=p
    rw[he]at h
    simp only[Option.map_some,Option.some.injEq]at h
    subst h
    rw[KM (by rw[← hko];exact hm) he]
  simp only[iX,AI.dst]
  cases g with
  |none=>
   simp only[jN]at h
   simp only[guarded,key h,and_self]
  | some p=>
   obtain⟨t,want⟩:=p
   simp only[jN]at h
   simp only[guarded]
   split at h
   ·rename_i b hb
    simp only[hb]
    split at h
    ·rename_i heq
     refine⟨fun _=>by simp only[key h,and_self],fun eK=>?_⟩
     subst heq
     cases b<;>cases eK
    ·rename_i eK
     cases h
     exact⟨fun heq=>(eK heq).elim,fun _=>by simp⟩
   ·rename_i ds hb
    cases h
    simp only[hb,and_self]
   ·cases h
 |call dst g f xs=>cases hm
 |nil dst g n x=>cases hm
 |jr dst g t xs=>cases hm
theorem Be {g:Option (Nat×Bool)} {tm:Tm} {A A' C C':Prop} (ha:A→A') (hc:C→C') (hh:guarded g tm A C):guarded g tm A' C':=by
 cases g with
 |none=>exact ha hh
 | some p=>
  obtain⟨t,want⟩:=p
  unfold guarded at *
  simp only at *
  split
  ·rename_i b hb;rw[hb]at hh;exact⟨fun e=>ha (hh.1 e),fun e=>hc (hh.2 e)⟩
  ·rename_i hb;rw[hb]at hh;exact hc hh
  ·rename_i x h1 h2
   split at hh
   ·exact h1 _ ‹_›
   ·exact h2 _ ‹_›
   ·exact hh
theorem IW {ai:AI} {tm:Tm} {s s1:St} {d:D} (h:sB P ai tm s d s1):iX P [ai] (fun a b=>a=tm.put ai.dst d∧b=s1) tm s:=by
 cases ai with
 |op dst g o=>
  refine Be (fun e=>?_) (fun e=>?_) h
  ·rw[e];exact⟨rfl,rfl⟩
  ·obtain⟨rfl,rfl⟩:=e;exact⟨rfl,rfl⟩
 |call dst g f xs=>
  refine Be (fun e=>?_) (fun e=>?_) h
  ·exact e.mono fun x y hxy=>by obtain⟨rfl,rfl⟩:=hxy;exact⟨rfl,rfl⟩
  ·obtain⟨rfl,rfl⟩:=e;exact⟨rfl,rfl⟩
 |nil dst g n x=>exact h.elim
 |jr dst g t xs=>exact h.elim
end
end Go.Abs
namespace Go.Abs
section
variable {P:Program} {is:List AI} {af pt:List (List Nat)} {K:Tm→St→Prop} {B:fR} {nt:Nat}
theorem Cc {ops:Array Oper} : ∀ {ol:List Oper} {is:List AI},qS P nt ops ol=some is→is.length=ol.length∧∀ (i:Nat) (o:Oper),ol[i]? = some o→∃ ai,is[i]? = some ai∧cI P nt ops o=some ai
 | [],is,h=>by cases h;exact⟨rfl,by simp⟩
 | o::ol,is,h=>by
  unfold qS at h
  split at h
  ·rename_i ai Qm h1 h2
   cases h
   obtain⟨g1,g2⟩:=Cc h2
   refine⟨by simp[g1],fun i o' ho=>?_⟩
   cases i with
   |zero=>simp at ho;subst ho;exact⟨ai,rfl,h1⟩
   |succ i=>exact g2 i o' (by simpa using ho)
  ·cases h
theorem sF {dq:Array Bool} {i:Nat} (h:i<dq.size):dq.getD i true=dq.getD i false:=by
 simp[h]
theorem rf.done {dq:Array Bool} {X Y:List (Nat×Nat)} {q b:Nat} {eg:List Pd} (hs:rf is af pt dq (X++(q,b)::Y) eg) (hq:q<is.length)
 (Gv : ∀ j∈gU pt q,dq.getD j false=true):rf is af pt (dq.setIfInBounds q true) (X++Y) eg:=by
 obtain⟨g1,g2,g3,g4,g5⟩:=ta hs.ok
 have hqY:q∉Y.map (·.1):=fun hm=>by
  obtain⟨x,hx,rfl⟩:=List.mem_map.1 hm
  exact(Cb g5 x hx).1 (by simp)
 refine⟨Fu hs.ok,fun i hi=>?_,fun i hi hl j hj=>?_,by simp[hs.size],fun x hx=>hs.lt x (by simp at hx ⊢;exact hx.imp id .inr)⟩
 ·by_cases uA:i=q
  ·subst uA
   have:i<dq.size:=by rw[hs.size];exact hq
   simp only[List.map_append,List.mem_append,g2,hqY,or_self,not_false_eq_true,true_or,iff_true]
   simp[this]
  ·rw [getD_set_ne false (Ne.symm uA),hs.Gu i hi]
   simp[uA]
 ·by_cases uA:i=q
  ·subst uA;exact getD_set_true (Gv j hj)
  ·rw [getD_set_ne false (Ne.symm uA)]at hl
   exact getD_set_true (hs.cl i hi hl j hj)
theorem rf.flag {dq:Array Bool} {R:List (Nat×Nat)} {eg:List Pd} (hs:rf is af pt dq R eg) {p:Pd} (hq:p.q<is.length)
 (Gv : ∀ j∈gU pt p.q,dq.getD j false=true):rf is af pt (dq.setIfInBounds p.q true) R (p::eg):=by
 refine⟨hs.ok,fun i hi=>?_,fun i hi hl j hj=>?_,by simp[hs.size],hs.lt⟩
 ·by_cases uA:i=p.q
  ·subst uA
   have:p.q<dq.size:=by rw[hs.size];exact hq
   simp[this]
  ·rw [getD_set_ne false (Ne.symm uA),hs.Gu i hi]
   have eK:p.q≠i:=fun h=>uA h.symm
   simp[eK]
 ·by_cases uA:i=p.q
  ·subst uA;exact getD_set_true (Gv j hj)
  ·rw [getD_set_ne false (Ne.symm uA)]at hl
   exact getD_set_true (hs.cl i hi hl j hj)
theorem Ni {ai:AI} (h:ai.kind = .alloc) : ∃ t z,ai = .op (some t) none (.alloc z):=by
 cases ai with
 | op dst g o=>
  unfold AI.kind at h
  split at h
  ·rename_i heq;cases heq;exact⟨_,_,rfl⟩
  ·rename_i heq
   cases heq
   exfalso
   revert h
   cases o<;>simp[AO.kind]
  ·cases h
 |call dst g f xs=>cases h
 |nil dst g n x=>cases h
 |jr dst g t xs=>cases h
theorem Nj {ops:Array Oper} (xg:qS P nt ops ops.toList=some is) (Nk:xM af pt is.length=true)
 (hK : ∀ tm br s,Tm.eqv tm br→K tm s→K br s) {dq:Array Bool} {R:List (Nat×Nat)} {eg:List Pd} {act:Act} {w:World} (hs:rf is af pt dq R eg) (h:yW P is K B nt R eg act w)
 (aeT : ∀ x l,R=x::l→∀ p∈eg,p.q≠x.1) {q:Nat} (hq:q<is.length) (Ed:dq.getD q false=false) (ju : ∀ j∈gU af q,j<is.length∧dq.getD j false=true)
 {Q:Exit→Act→World→Prop} {K2:Act→World→Prop} (hK2 : ∀ R' wu a' w',rf is af pt (dq.setIfInBounds q true) R' wu→yW P is K B nt R' wu a' w'→K2 a' w'):wpOp P ops Q q K2 act w:=by
 obtain⟨hlen,hY⟩:=Cc xg
 have vk:q<ops.size:=by rw[hlen]at hq;simpa using hq
 obtain⟨ai,wm,Qz⟩:=hY q ops[q] (by simp[vk])
 have hi:ops[q]? = some ops[q]:=by simp[vk]
 have Gv : ∀ j∈gU pt q,dq.getD j false=true:=fun j hj=>by
  rcases CT Nk q hq j hj with h1|⟨k,h1,h2⟩
  ·exact(ju j h1).2
  ·exact hs.cl k (ju k h1).1 (ju k h1).2 j h2
 have QA : ∀ p∈eg,p.q≠q:=fun p hp uB=>by
  have:=(hs.Gu q hq).2 (.inr ⟨p,hp,uB⟩)
  rw[Ed]at this;cases this
 have hqR:q∈R.map (·.1):=by
  by_cases hm:q∈R.map (·.1)
  ·exact hm
  ·have:=(hs.Gu q hq).2 (.inl hm)
   rw[Ed]at this;cases this
 obtain⟨⟨q',b⟩,hx,hqq⟩:=List.mem_map.1 hqR
 simp only at hqq
 subst hqq
 obtain⟨X,Y,rfl⟩:=List.append_of_mem hx
 obtain⟨g1,g2,g3,g4,g5⟩:=ta hs.ok
 rw[List.append_nil]at g1 g5
 obtain⟨M,s,tm,tc,bD,e,r,ht,qh,hn,hd,hg,wq,sE⟩:=h
 have QB:jt is q'=ai.kind:=by simp[jt,wm]
 -- what must have come up ahead of it, is not here any more, but for what was allocated early
 have Wq : ∀ a∈X.map (·.1),a∈gU pt q'→∃ p∈eg,p.q=a:=fun a ha eO=>by
  have h1:=Gv a eO
  obtain⟨x,hxX,rfl⟩:=List.mem_map.1 ha
  rcases(hs.Gu x.1 (hs.lt x (by simp[hxX]))).1 h1 with h2|h2
  ·exact(h2 (by simp;exact .inl ⟨x.2,hxX⟩)).elim
  ·exact h2
 have Wr : ∀ x l,X=x::l→x.1∉gU pt q':=fun x l hX hxp=>by
  obtain⟨p,hp,uB⟩:=Wq x.1 (by simp[hX]) hxp
  exact aeT x (l++(q',b)::Y) (by simp[hX]) p hp uB
 have hpk : ∀ p∈eg,jt is p.q = .alloc:=fun p hp=>by simp[jt,(wq p hp).ai,AI.kind]
 have Dl : ∀ p∈eg,(p.q∈X.map (·.1)→lj is p.q q'=true)→(∀ t,ai.dst=some t→t≠p.t)∧p.t∉ai.reads:=fun p hp hX=>by
  have hk:=wq p hp
  have hm:=hk.mem
  simp only[List.map_append,List.map_cons,List.mem_append,List.mem_cons]at hm
  rcases hm with hm|hm|hm
  ·have:=hX hm
   simp only[lj,hk.ai,wm]at this
   obtain⟨p1,p2,p3⟩:=apart_spec this
   exact⟨fun t ht he=>p3 p.t rfl (by rw[ht,he]),p1 p.t rfl⟩
  ·exact(QA p hp hm).elim
  ·obtain⟨x,hxY,Ws⟩:=List.mem_map.1 hm
   have:=(Cb g5 x hxY).2 (by rw[Ws];exact hpk p hp) q' (by simp)
   rw[Ws]at this
   simp only[lj,hk.ai,wm]at this
   obtain⟨p1,p2,p3⟩:=apart_spec this
   exact⟨fun t ht he=>p3 t ht (by rw[he];rfl),p2 p.t rfl⟩
 have QC:(∀ p∈eg,p.t∉ai.reads)→∀ t∈ai.reads,tm.get t=tc.get t:=fun hp t ht=>(qh t fun p hpm he=>hp p hpm (by rw[he];exact ht)).symm
 have Wt : ∀ p∈eg,p.q∈(X++Y).map (·.1):=fun p hp=>by
  have hm:=(wq p hp).mem
  have:=QA p hp
  simp only[List.map_append,List.map_cons,List.mem_append,List.mem_cons]at hm ⊢
  rcases hm with hm|hm|hm
  ·exact .inl hm
  ·exact(this hm).elim
  ·exact .inr hm
 by_cases yc:ai.kind = .alloc
 ·-- an allocation
  obtain⟨t,z,rfl⟩:=Ni yc
  have eO : ∀ a∈X.map (·.1),lj is a q'=true:=fun a ha=>by
   unfold oQ at g1
   rw[QB,yc]at g1
   simp only[List.all_reverse,List.all_eq_true]at g1
   exact g1 a ha
  have rT:=fun p hp=>Dl p hp (eO p.q)
  refine KN hi Qz fun vs T hl h1 h2=>?_
  obtain⟨r1,e1,u1⟩:=r.idle (.cells vs T)
  have aaV:t<act.tmps.size:=by
   rw[hn]
   exact xZ Qz t (by rw[← s9 Qz];rfl)
  have:=hs.flag (p:=⟨q',t,z,w.heap.size⟩) hq Gv
  refine hK2 _ _ _ _ this ⟨M,s,tm,tc.put (some t) .junk,bD,e.trans e1,r1,lW.put ht (dst:=some t) (fun u hu=>by cases hu;exact aaV) (.junk _),fun u hu=>?_,by simp[Act.put,hn],by simp[Act.put,hd],hg,fun p hp=>?_,fun p hp p' mP he=>?_⟩
  ·have h3:=hu ⟨q',t,z,w.heap.size⟩ (by simp)
   rw[Tm.lr,if_neg (by simpa using h3)]
   exact qh u fun p hp=>hu p (List.mem_cons_of_mem _ hp)
  ·rcases List.mem_cons.1 hp with rfl | hp
   ·refine⟨by simp,wm,⟨vs,T,heap_alloc_new w _,hl,h1,h2⟩,u1,e.size, ?_⟩
    simp[Act.put,aaV]
   ·have hk:=wq p hp
    obtain⟨fC,T',jY,lX,rS,uz⟩:=hk.cells
    refine⟨hk.mem,hk.ai,⟨fC,T',by rw[heap_alloc_old w _ _ (j8 jY)];exact jY,lX,rS,uz⟩,hk.unk,hk.base, ?_⟩
    rw[← hk.slot]
    have eK:t≠p.t:=(rT p hp).1 t rfl
    simp[Act.put,Array.getElem?_setIfInBounds_ne eK]
  ·have dg : ∀ p∈eg,¬ (q'=p.q∨t=p.t∨w.heap.size=p.b):=fun p hp h=>by
    rcases h with h|h|h
    ·exact QA p hp h.symm
    ·exact(rT p hp).1 t rfl h
    ·obtain⟨fC,T',jY,_⟩:=(wq p hp).cells
     have:=j8 jY
     omega
   rcases List.mem_cons.1 hp with rfl|hp<;>rcases List.mem_cons.1 mP with rfl|mP
   ·rfl
   ·exact(dg p' mP he).elim
   ·exact(dg p hp (he.imp Eq.symm (Or.imp Eq.symm Eq.symm))).elim
   ·exact sE p hp p' mP he
 ·by_cases n8:gG ai.kind=true
  ·-- a step that changes something: it stands first
   have hkc:ai.kind = .core:=by
    cases hk:ai.kind<;>simp_all [gG]
   have hX:X = []:=by
    cases X with
    |nil=>rfl
    |cons x l=>
     refine(Wr x l rfl ?_).elim
     unfold oQ at g1
     rw[QB,hkc]at g1
     simp only[List.all_reverse,List.all_eq_true]at g1
     have:=g1 x.1 (by simp)
     rwa [List.contains_iff_mem]at this
   subst hX
   have rT:=fun p hp=>Dl p hp (fun h=>by simp at h)
   simp only[List.nil_append,kP,wm,n8]at hg
   obtain⟨d,s1,iU,hg⟩:=hg
   have ai6:=xd (QC fun p hp=>(rT p hp).2) iU
   refine wpOp_mono (fun a' w' hr=>hK2 _ _ _ _ (hs.done hq Gv) hr) ?_
   exact Wo hi Qz e r ht qh hn hd wq sE (IW ai6) hg Wt (fun p hp he=>(rT p hp).1 _ he rfl)
  ·-- a step that changes nothing
   have hm:gG ai.kind=false:=by simpa using n8
   have nQ : ∀ a∈X.map (·.1),a∉gU pt q':=fun a ha eO=>by
    obtain⟨p,hp,uB⟩:=Wq a ha eO
    have Qk:jt is a = .alloc:=by rw[← uB];exact hpk p hp
    have kJ:k8 is (gU pt q') (X.map (·.1)).reverse=true:=by
     unfold oQ at g1
     rw[QB]at g1
     cases hk:ai.kind with
     |pure=>simp only[hk,Bool.and_eq_true]at g1;exact g1.2
     |load=>simp only[hk,Bool.and_eq_true]at g1;exact g1.1.2
     |alloc=>exact(yc hk).elim
     |core=>rw[hk]at hm;cases hm
    cases X with
    |nil=>simp at ha
    | cons x l=>
     have ha2:a∈((x::l).map (·.1)).reverse:=List.mem_reverse.2 ha
     obtain⟨l1,l2,CW⟩:=List.append_of_mem ha2
     have yX:=ya kJ a l1 l2 CW Qk eO
     refine Wr x l rfl ?_
     cases iW:l2.reverse with
     |nil=>
      have h3:l2 = []:=by simpa using iW
      subst h3
      have:=congrArg List.reverse CW
      simp at this
      rw[this.1];exact eO
     |cons y l3=>
      have:=congrArg List.reverse CW
      simp only[List.reverse_reverse,List.map_cons,List.reverse_append,List.reverse_cons,List.reverse_nil,List.append_assoc,iW,List.cons_append,List.nil_append,List.cons.injEq]at this
      rw[this.1]
      exact yX y (by rw[← List.mem_reverse,iW];simp)
   have eO : ∀ a∈X,lj is a.1 q'=true:=fun a ha=>by
    have h3 : ∀ x∈(X.map (·.1)).reverse,((gU pt q').contains x ||lj is x q')=true:=by
     unfold oQ at g1
     rw[QB]at g1
     cases hk:ai.kind with
     |pure=>simp only[hk,Bool.and_eq_true]at g1;exact List.all_eq_true.1 g1.1
     |load=>simp only[hk,Bool.and_eq_true]at g1;exact List.all_eq_true.1 g1.1.1
     |alloc=>exact(yc hk).elim
     |core=>rw[hk]at hm;cases hm
    have:=h3 a.1 (List.mem_reverse.2 (List.mem_map_of_mem ha))
    simp only[Bool.or_eq_true,List.contains_iff_mem]at this
    exact this.resolve_left (nQ a.1 (List.mem_map_of_mem ha))
   have aaW:ai.kind = .load→jD is (X.map (·.1))≤b:=fun hk=>by
    unfold oQ at g1
    rw[QB,hk]at g1
    simp only[Bool.and_eq_true,decide_eq_true_eq]at g1
    have h3:=g1.2
    have h4:(X.map (·.1)).reverse.filter (fun a=> !(gU pt q').contains a)=(X.map (·.1)).reverse:=by
     rw[List.filter_eq_self]
     intro a ha
     have:=nQ a (List.mem_reverse.1 ha)
     simpa using this
    rw[h4]at h3
    unfold jD at h3 ⊢
    rw[List.filter_reverse,List.length_reverse]at h3
    exact h3
   have rT:=fun p hp=>Dl p hp (fun h=>by
    obtain⟨x,hx,Ws⟩:=List.mem_map.1 h
    rw[← Ws];exact eO x hx)
   obtain⟨d,h1,_,CO⟩:=xe hK wm hm Y X bD tm s eO aaW hg
   have rS:jN ai tc s=some d:=by rw[← qJ (QC fun p hp=>(rT p hp).2)];exact h1
   refine wpOp_mono (fun a' w' hr=>hK2 _ _ _ _ (hs.done hq Gv) hr) ?_
   exact Wo hi Qz e r ht qh hn hd wq sE (Nh hm rS) CO Wt (fun p hp he=>(rT p hp).1 _ he rfl)
theorem CX {o:Oper} {j:Nat} : j∈mQ o↔∃ e∈o.after,Region.binds .any e=true∧e.on=j:=by
 simp only[mQ,List.mem_map,List.mem_filter,Array.mem_toList_iff]
 constructor
 ·rintro⟨e,⟨h1,h2⟩,h3⟩;exact⟨e,h1,h2,h3⟩
 ·rintro⟨e,h1,h2,h3⟩;exact⟨e,⟨h1,h2⟩,h3⟩
theorem Nl {ops:Array Oper} (xg:qS P nt ops ops.toList=some is) (Nk:xM (ops.toList.map mQ) pt is.length=true)
 (aaX : ∀ i,i<is.length→∀ j∈gU (ops.toList.map mQ) i,j<is.length) {Q:Exit→Tm→St→Prop} (hK : ∀ tm br s,Tm.eqv tm br→K tm s→K br s)
 (hKQ : ∀ tm s act w,K tm s→Holds B nt tm s act w→pK B nt Q .normal act w) :
 ∀ (fuel:Nat) (dq:Array Bool) (R:List (Nat×Nat)) (eg:List Pd) (act:Act) (w:World) (U:List Nat),U.length≤fuel→(∀ j,j<is.length→dq.getD j false=false→j∈U)→
  rf is (ops.toList.map mQ) pt dq R eg→yW P is K B nt R eg act w→wpAny P .any ops (pK B nt Q) fuel dq act w:=by
 obtain⟨hlen,_⟩:=Cc xg
 have sy:is.length=ops.size:=by rw[hlen];simp
 have aaY : ∀ (j:Nat) (o:Oper),ops[j]? = some o→gU (ops.toList.map mQ) j=mQ o:=fun j o h=>by
  simp[gU,List.getD,h]
 have fin : ∀ {dq:Array Bool} {eg:List Pd} {act:Act} {w:World},yW P is K B nt [] eg act w→pK B nt Q .normal act w:=by
  intro dq eg act w h
  obtain⟨M,s,tm,tc,bD,e,r,ht,qh,hn,hd,hg,wq,sE⟩:=h
  have Di : ∀ p∈eg,False:=fun p hp=>by have:=(wq p hp).mem;simp at this
  exact hKQ tc s act w (hK tm tc s (fun t=>(qh t fun p hp=>(Di p hp).elim).symm) hg) ⟨M,e,r,ht,hn,hd⟩
 have QD : ∀ {dq:Array Bool} {R:List (Nat×Nat)} {eg:List Pd} {x:Nat×Nat} {l:List (Nat×Nat)},rf is (ops.toList.map mQ) pt dq R eg→R=x::l→(∀ p∈eg,p.q≠x.1)→
  x.1∈Region.ready .any ops dq:=by
  intro dq R eg x l hs hR QA
  subst hR
  have hx:=hs.lt x (by simp)
  rw[mem_ready]
  have Ed:dq.getD x.1 false=false:=by
   cases hl:dq.getD x.1 false with
   |false=>rfl
   |true=>
    rcases(hs.Gu x.1 hx).1 hl with h1|⟨p,hp,uB⟩
    ·exact(h1 (by simp)).elim
    ·exact(QA p hp uB).elim
  have hxo:x.1<ops.size:=by rw[← sy];exact hx
  refine⟨by rw[sF (by rw[hs.size];exact hx)];exact Ed,ops[x.1],by simp[hxo],fun e he hb=>?_⟩
  have hm:e.on∈gU (ops.toList.map mQ) x.1:=by rw[aaY x.1 ops[x.1] (by simp[hxo])];exact CX.2 ⟨e,he,hb,rfl⟩
  obtain⟨_,_,_,g4,_⟩:=ta (X:= []) (q:=x.1) (b:=x.2) hs.ok
  obtain⟨h1,h2⟩:=g4 _ hm
  refine(hs.Gu e.on (aaX x.1 hx _ hm)).2 (.inl ?_)
  simp only[List.map_cons,List.mem_cons,not_or]
  exact⟨h1,h2⟩
 intro fuel
 induction fuel with
 | zero=>
  intro dq R eg act w U hU Ed hs h
  obtain⟨R',wu,mV,h',hn⟩:=norm R eg hs h
  have hUn:U = []:=List.length_eq_zero_iff.1 (by omega)
  have yX : ∀ j,j<is.length→dq.getD j false=true:=fun j hj=>by
   cases hl:dq.getD j false with
   |true=>rfl
   |false=>have:=Ed j hj hl;rw[hUn]at this;cases this
  have hR:R' = []:=by
   cases hR:R' with
   |nil=>rfl
   |cons x l=>
    have hx:=mV.lt x (by simp[hR])
    have:=QD mV hR (hn x l hR)
    rw[mem_ready,sF (by rw[mV.size];exact hx),yX x.1 hx]at this
    cases this.1
  subst hR
  refine⟨?_,fin (dq:=dq) h'⟩
  cases hr:Region.ready .any ops dq with
  |nil=>rfl
  |cons j js=>
   have hj:j∈Region.ready .any ops dq:=by rw[hr];simp
   rw[mem_ready]at hj
   obtain⟨h1,o,ho,_⟩:=hj
   have Wu:j<is.length:=by rw[sy];exact(Array.getElem?_eq_some_iff.1 ho).1
   rw[sF (by rw[hs.size];exact Wu),yX j Wu]at h1
   cases h1
 | succ fuel ih=>
  intro dq R eg act w U hU Ed hs h
  obtain⟨R',wu,mV,h',hn⟩:=norm R eg hs h
  refine⟨fun hr=>?_,fun i hi=>?_⟩
  ·cases hR:R' with
   |nil=>subst hR;exact fin (dq:=dq) h'
   |cons x l=>
    have:=QD mV hR (hn x l hR)
    rw[hr]at this
    cases this
  ·rw [mem_ready]at hi
   obtain⟨h1,o,ho,ai8⟩:=hi
   have qI:i<is.length:=by rw[sy];exact(Array.getElem?_eq_some_iff.1 ho).1
   rw[sF (by rw[hs.size];exact qI)]at h1
   refine Nj xg Nk hK mV h' hn qI h1 (fun j hj=>⟨aaX i qI j hj, ?_⟩) fun R2 aeV a2 w2 z8 h2=>?_
   ·rw [aaY i o ho]at hj
    obtain⟨e,he,hb,rfl⟩:=CX.1 hj
    exact ai8 e he hb
   ·refine ih _ R2 aeV a2 w2 (U.erase i) ?_ (fun j hj hl=> ?_) z8 h2
    ·have:=List.length_erase_of_mem (Ed i qI h1)
     omega
    ·have hji:j≠i:=fun e=>by
      subst e
      have:j<dq.size:=by rw[hs.size];exact qI
      simp[this]at hl
     rw[getD_set_ne false (Ne.symm hji)]at hl
     exact(List.mem_erase_of_ne hji).2 (Ed j hj hl)
theorem Sem.par {is:List AI} {lM:List (Nat×Nat)} {Q:Exit→Tm→St→Prop} {tm:Tm} {s:St} (h:kP P is (Q .normal) lM [] tm s):Sem P B nt (.par is lM) Q tm s:=by
 intro c hc act w hh
 obtain⟨id,ops,rfl,hi,hm,pt,hp⟩:=lB hc
 simp only[Ig,Bool.and_eq_true,List.all_eq_true,List.mem_range,List.contains_iff_mem,decide_eq_true_eq]at hp
 obtain⟨⟨⟨⟨h1,h2⟩,h3⟩,h4⟩,h5⟩:=hp
 obtain⟨hlen,_⟩:=Cc hi
 have sy:is.length=ops.size:=by rw[hlen];simp
 refine wp_region_any hm ?_
 obtain⟨M,e,r,ht,hn,hd⟩:=hh
 have key : ∀ (R:List (Nat×Nat)) (bD:List St) (tm:Tm) (s:St),kP P is (Q .normal) R bD tm s→kP P is (fun tm s=>∃ br,tm.eqv br∧Q .normal br s) R bD tm s:=by
  intro R
  induction R with
  |nil=>intro bD tm s h;exact⟨tm,fun _=>rfl,h⟩
  | cons x R ih=>
   obtain⟨q,b⟩:=x
   intro bD tm s h
   unfold kP at h ⊢
   split at h
   ·exact h.elim
   ·split at h
    ·obtain⟨d,s',h1,h2⟩:=h;exact⟨d,s',h1,ih _ _ _ h2⟩
    ·obtain⟨d,h1,h2,h3⟩:=h;exact⟨d,h1,h2,ih _ _ _ h3⟩
 have hg:=key _ _ _ _ h
 refine Nl (K:=fun tm s=>∃ br,tm.eqv br∧Q .normal br s) hi h1 h5 (fun tm br s he ⟨t2,h3,h4⟩=>⟨t2,fun t=>(he t).symm.trans (h3 t),h4⟩)
  (fun tm s act w ⟨t2,h3,h4⟩ ⟨M,e,r,ht,hn,hd⟩=>⟨t2,s,h4,M,e,r,fun t=>by rw[← h3 t];exact ht t,hn,hd⟩) ops.size _ lM [] act _ (List.range is.length) (by simp[sy]) (fun j hj _=>by simpa using hj)
  ⟨h2,fun i hi=>?_,fun i hi hl=>?_,by simp[sy],h4⟩ ⟨M,s,tm,tm,[],⟨e.le,e.kept,e.tH,e.qn,e.rV,e.size,e.os,e.tape,e.output⟩,r.of_heap rfl,ht,fun _ _=>rfl,hn,hd,hg,by simp,by simp⟩
 ·have:i<ops.size:=by rw [← sy];exact hi
  have h6:=h3 i hi
  simp only[List.not_mem_nil,false_and,exists_false,or_false]
  rw[show(Array.replicate ops.size false).getD i false=false by simp[this]]
  simp[h6]
 ·have:i<ops.size:=by rw [← sy];exact hi
  rw[show(Array.replicate ops.size false).getD i false=false by simp[this]]at hl
  cases hl
end
end Go.Abs
namespace Go.Abs
theorem X9 (k:IntKind) (n:Int):D.row (.int k n)=some [.int k n]:=rfl
theorem Ts (b:Bool):D.row (.bool b)=some [.bool b]:=rfl
theorem Ya (l:List UInt8):D.row (.str l)=some [.str l]:=rfl
theorem Tt:D.row .dR=some [.dR]:=rfl
theorem Yb (o f:Nat):D.row (.ptr o f)=some [.ptr o f]:=rfl
theorem Tv (r:List D) (f:Nat):D.row (.dv r f)=some [.dv r f]:=rfl
theorem QE (g:Tag) (z:Nat) (r:List (List D)):D.row (.slice g z r)=some [.slice g z r]:=rfl
theorem Yc (cs:List D):D.row (.agg cs)=some cs:=rfl
theorem Yd (v:Value):D.row (.val v)=some [.val v]:=rfl
theorem QF (T:TypeId) (o:Nat):D.row (.fj T o)=some [.fj T o]:=rfl
theorem Ye (f:Nat) (cs:List D):D.row (.fZ f cs)=some [.fZ f cs]:=rfl
theorem Tw (o:Nat):D.row (.fN o)=some [.fN o]:=rfl
theorem Tx (w:Bool):Tag.cut .full w=if w then .full else .shared:=rfl
theorem Nn (w:Bool):Tag.cut .shared w = .shared:=rfl
theorem Ty (t:Nat) (y:Bool) (w:Bool):Tag.cut (.tok t y) w = .tok t y:=rfl
section
variable {P:Program}
def KC (P:Program) (r:List AI) (K:Tm→St→Prop) (tm:Tm) (dst:Option Nat) (d:D) (s:St):Prop:=iX P r K (tm.put dst d) s
def GI (P:Program) (g:D) (want:Bool) (i:AI) (r:List AI) (K:Tm→St→Prop) (tm:Tm) (s:St):Prop:=
 match g with
 | .bool b=>(b=want→iX P (i::r) K tm s)∧(b=(!want)→iX P r K (tm.put i.dst (.tuple [])) s)
 | .tuple _=>iX P r K (tm.put i.dst (.tuple [])) s
 |_=>False
def NI (P:Program) (dst:Option Nat) (neg:Bool) (x:D) (r:List AI) (K:Tm→St→Prop) (tm:Tm) (s:St):Prop:=
 match x with
 | .slice _ _ rows=>∀ b:Bool,(rows≠ []→b=false)→iX P r K (tm.put dst (.bool (if neg then !b else b))) s
 |_=>False
def uN (d:D) (A C:Prop):Prop:=
 match d with
 | .bool b=>(b=true→A)∧(b=false→C)
 |_=>False
theorem Sem.aeW {B:fR} {nt:Nat} {Q:Exit→Tm→St→Prop} {tm:Tm} {s:St} {x:X} {a b:AC} (h:uN (x.ev tm) (Sem P B nt a Q tm s) (Sem P B nt b Q tm s)):Sem P B nt (.cond x a b) Q tm s:=by
 unfold uN at h
 split at h
 ·rename_i t ht
  exact Sem.cond ht h.1 h.2
 ·exact h.elim
def gI (P:Program) (K:Tm→St→Prop):List (AI×Nat)→List St→Tm→St→Prop
 | [],_,tm,s=>K tm s
 |(ai,b)::r,bD,tm,s=>
  match gG ai.kind with
  |true=>∃ d s',sB P ai tm s d s'∧gI P K r (s::bD) (tm.put ai.dst d) s'
  |false=>∃ d,jN ai tm s=some d∧(ai.kind = .load→∀ s'∈bD.take b,jN ai tm s'=some d)∧gI P K r bD (tm.put ai.dst d) s
def mX (is:List AI):List (Nat×Nat)→Option (List (AI×Nat))
 | []=>some []
 |(q,b)::r=>match is[q]?,mX is r with
  |some ai,some l=>some ((ai,b)::l)
  |_,_=>none
theorem Fv {is:List AI} {K:Tm→St→Prop} : ∀ {lM:List (Nat×Nat)} {items:List (AI×Nat)} {bD:List St} {tm:Tm} {s:St},mX is lM=some items→gI P K items bD tm s→kP P is K lM bD tm s
 | [],items,bD,tm,s,h,g=>by cases h;exact g
 | (q,b)::r,items,bD,tm,s,h,g=>by
  simp only[mX]at h
  split at h
  ·rename_i ai l h1 h2
   cases h
   simp only[gI]at g
   simp only[kP,h1]
   split at g
   ·rename_i hk
    obtain⟨d,s',g1,g2⟩:=g
    try simp only[hk]
    exact⟨d,s',g1,Fv h2 g2⟩
   ·rename_i hk
    obtain⟨d,g1,g2,g3⟩:=g
    try simp only[hk]
    exact⟨d,g1,g2,Fv h2 g3⟩
  ·cases h
theorem Sem.ai9 {B:fR} {nt:Nat} {Q:Exit→Tm→St→Prop} {tm:Tm} {s:St} {is:List AI} {lM:List (Nat×Nat)} {items:List (AI×Nat)} (hi:mX is lM=some items) (h:gI P (Q .normal) items [] tm s):Sem P B nt (.par is lM) Q tm s:=
 Sem.par (Fv hi h)
def AI.free:AI→AI
 | .op d _ o=> .op d none o
 | .call d _ f xs=> .call d none f xs
 | .nil d _ n x=> .nil d none n x
 | .jr d _ t xs=> .jr d none t xs
def GL (P:Program) (g:D) (want:Bool) (i:AI) (b:Nat) (r:List (AI×Nat)) (K:Tm→St→Prop) (bD:List St) (tm:Tm) (s:St):Prop:=
 match g with
 | .bool v=>(v=want→gI P K ((i,b)::r) bD tm s)∧(v=(!want)→gI P K r (if gG i.kind then s::bD else bD) (tm.put i.dst (.tuple [])) s)
 | .tuple _=>gI P K r (if gG i.kind then s::bD else bD) (tm.put i.dst (.tuple [])) s
 |_=>False
def CL (one:Bool) (P:Program) (f:Nat) (args:List D) (s:St) (K:D→St→Prop):Prop:=
 match one with
 |true=>∃ d s',aF P f args s d s'∧K d s'
 |false=>bL P f args s K
def KL (P:Program) (K:Tm→St→Prop) (r:List (AI×Nat)) (bD:List St) (tm:Tm) (dst:Option Nat) (d:D) (s:St):Prop:=gI P K r bD (tm.put dst d) s
def n9 (i:AI) (tm:Tm) (d:D):List St→Prop
 | []=>True
 |s::r=>jN i tm s=some d∧n9 i tm d r
theorem Ee {i:AI} {tm:Tm} {d:D} : ∀ {l:List St},n9 i tm d l→∀ s∈l,jN i tm s=some d
 | [],_,s,h=>by cases h
 |a::l,h,s,hs=>by
  rcases List.mem_cons.1 hs with rfl|hs
  ·exact h.1
  ·exact Ee h.2 s hs
def PL (P:Program) (o:AO) (dst:Option Nat) (b:Nat) (r:List (AI×Nat)) (K:Tm→St→Prop) (bD:List St) (tm:Tm) (s:St):Prop:=
 match aJ o tm s with
 |some (d,_)=>n9 (.op dst none o) tm d (bD.take b)∧gI P K r bD (tm.put dst d) s
 |none=>False
def ML (P:Program) (o:AO) (dst:Option Nat) (r:List (AI×Nat)) (K:Tm→St→Prop) (bD:List St) (tm:Tm) (s:St):Prop:=
 match aJ o tm s with
 |some (d,s')=>gI P K r (s::bD) (tm.put dst d) s'
 |none=>False
def AO.core:AO→Bool
 | .alloc _=>true
 | .box _=>true
 | .u9 .. =>true
 | .AG _=>true
 | .store .. =>true
 | .app .. =>true
 | .sQ .. =>true
 | .AJ .. =>true
 | .AL .. =>true
 | .apps .. =>true
 | .uK=>true
 | .yF .. =>true
 | .AN .. =>true
 |_=>false
theorem tf (dst:Option Nat) (g:Option (Nat×Bool)) (o:AO):gG (AI.op dst g o).kind=o.core:=by
 cases dst<;>cases g<;>cases o<;>rfl
def OL (P:Program) (o:AO) (dst:Option Nat) (b:Nat) (r:List (AI×Nat)) (K:Tm→St→Prop) (bD:List St) (tm:Tm) (s:St):Prop:=
 match o.core with
 |true=>ML P o dst r K bD tm s
 |false=>PL P o dst b r K bD tm s
theorem IX {K:Tm→St→Prop} {dst:Option Nat} {o:AO} {b:Nat} {r:List (AI×Nat)} {bD:List St} {tm:Tm} {s:St} (h:OL P o dst b r K bD tm s) :
 gI P K ((.op dst none o,b)::r) bD tm s:=by
 unfold OL at h
 simp only[gI,tf]
 cases hc:o.core with
 | true=>
  simp only[hc,ML]at h
  simp only[]
  split at h
  ·rename_i d s' he
   exact⟨d,s',by simpa[sB,guarded]using he,h⟩
  ·exact h.elim
 | false=>
  simp only[hc,PL]at h
  simp only[]
  split at h
  ·rename_i d s' he
   exact⟨d,by simp[jN,he],fun _=>Ee h.1,h.2⟩
  ·exact h.elim
theorem No {K:Tm→St→Prop} {dst:Option Nat} {f:Nat} {xs:List X} {b:Nat} {r:List (AI×Nat)} {bD:List St} {tm:Tm} {s:St} (h:CL true P f (xs.map (·.ev tm)) s (KL P K r (s::bD) tm dst)) :
 gI P K ((.call dst none f xs,b)::r) bD tm s:=by
 obtain⟨d,s',h1,h2⟩:=h
 exact⟨d,s',h1,h2⟩
theorem aaZ {K:Tm→St→Prop} {i:AI} {t:Nat} {w:Bool} {b:Nat} {r:List (AI×Nat)} {bD:List St} {tm:Tm} {s:St} {j:AI} (hf:(∃ d o,i = .op d none o∧j = .op d (some (t,w)) o)∨(∃ d f xs,i = .call d none f xs∧j = .call d (some (t,w)) f xs))
 (hg:tm.get t = .bool w) (h:gI P K ((i,b)::r) bD tm s):gI P K ((j,b)::r) bD tm s:=by
 rcases hf with ⟨d,o,rfl,rfl⟩|⟨d,f,xs,rfl,rfl⟩
 ·simp only [gI,tf]at h ⊢
  cases hc:o.core<;>simp only[hc]at h ⊢
  ·obtain⟨x,h1,h2,h3⟩:=h
   refine⟨x,by simpa[jN,hg]using h1,fun hk s' mV=>?_,h3⟩
   have uv:(AI.op d none o).kind = .load:=by
    cases d<;>cases o<;>first|exact hk|(cases hc;done)|(cases hk;done)
   simpa[jN,hg]using h2 uv s' mV
  ·obtain⟨x,s',h1,h2⟩:=h
   exact⟨x,s',by simpa[sB,guarded,hg]using h1,h2⟩
 ·obtain⟨x,s',h1,h2⟩:=h
  exact⟨x,s',by simpa[sB,guarded,hg]using h1,h2⟩
theorem QG {K:Tm→St→Prop} {i:AI} {t:Nat} {w:Bool} {b:Nat} {r:List (AI×Nat)} {bD:List St} {tm:Tm} {s:St} {j:AI} (hf:(∃ d o,i = .op d none o∧j = .op d (some (t,w)) o)∨(∃ d f xs,i = .call d none f xs∧j = .call d (some (t,w)) f xs))
 (hg:tm.get t = .bool (!w)∨∃ l,tm.get t = .tuple l) (h:gI P K r (if gG i.kind then s::bD else bD) (tm.put i.dst (.tuple [])) s):gI P K ((j,b)::r) bD tm s:=by
 rcases hf with ⟨d,o,rfl,rfl⟩|⟨d,f,xs,rfl,rfl⟩
 ·simp only [gI,tf]at h ⊢
  cases hc:o.core<;>simp only[hc]at h ⊢
  ·refine⟨.tuple [], ?_,fun hk s' mV=> ?_,h⟩
   ·rcases hg with hg|⟨l,hg⟩<;>simp[jN,hg]
   ·rcases hg with hg|⟨l,hg⟩<;>simp[jN,hg]
  ·refine⟨.tuple [],s, ?_,h⟩
   rcases hg with hg|⟨l,hg⟩<;>simp[sB,guarded,hg]
 ·refine⟨.tuple [],s, ?_,h⟩
  rcases hg with hg|⟨l,hg⟩<;>simp[sB,guarded,hg]
theorem LC {K:Tm→St→Prop} {i j:AI} {t:Nat} {w:Bool} {b:Nat} {r:List (AI×Nat)} {bD:List St} {tm:Tm} {s:St} (hf:(∃ d o,i = .op d none o∧j = .op d (some (t,w)) o)∨(∃ d f xs,i = .call d none f xs∧j = .call d (some (t,w)) f xs))
 (h:GL P (tm.get t) w i b r K bD tm s):gI P K ((j,b)::r) bD tm s:=by
 unfold GL at h
 split at h
 ·rename_i v hv
  by_cases e:v=w
  ·exact aaZ hf (by rw[hv,e]) (h.1 e)
  ·exact QG hf (.inl (by rw[hv];cases v<;>cases w<;>simp_all)) (h.2 (by cases v<;>cases w<;>simp_all))
 ·rename_i l hl
  exact QG hf (.inr ⟨l,hl⟩) h
 ·exact h.elim
theorem Gw {K:Tm→St→Prop} {dst:Option Nat} {o:AO} {t:Nat} {w:Bool} {b:Nat} {r:List (AI×Nat)} {bD:List St} {tm:Tm} {s:St} (h:GL P (tm.get t) w (.op dst none o) b r K bD tm s) :
 gI P K ((.op dst (some (t,w)) o,b)::r) bD tm s:=LC (.inl ⟨dst,o,rfl,rfl⟩) h
theorem KP {K:Tm→St→Prop} {dst:Option Nat} {f:Nat} {xs:List X} {t:Nat} {w:Bool} {b:Nat} {r:List (AI×Nat)} {bD:List St} {tm:Tm} {s:St} (h:GL P (tm.get t) w (.call dst none f xs) b r K bD tm s) :
 gI P K ((.call dst (some (t,w)) f xs,b)::r) bD tm s:=LC (.inr ⟨dst,f,xs,rfl,rfl⟩) h
theorem CL.use {one:Bool} {f:Nat} {args:List D} {s:St} {d:D} {s':St} {K:D→St→Prop} (h:aF P f args s d s') (hk:K d s'):CL one P f args s K:=
 match one with
 |true=>⟨d,s',h,hk⟩
 |false=>h.use hk
theorem CU {one:Bool} {f:Nat} {args:List D} {s:St} {d:D} {s':St} {K:D→St→Prop} (h:aF P f args s d s') (hk:K d s'):CL one P f args s K:=CL.use h hk
theorem CR {f:Nat} {args:List D} {s:St} {Q K:D→St→Prop} (h:bL P f args s Q) (hk : ∀ d s',Q d s'→K d s'):CL false P f args s K:=bL.mono h hk
end
end Go.Abs
namespace Go.Abs
theorem nd {α:Type} {a b:α} (h:a=b):a=b:=h
def GJ (g:D) (w:Bool) (A C:Prop):Prop:=
 match g with
 | .bool b=>(b=w→A)∧(b=(!w)→C)
 | .tuple _=>C
 |_=>False
class Two where
 a:Prop
 c:Prop
def CB (d:D) [b:Two] : Prop:=uN d b.a b.c
def GB (d:D) (w:Bool) [b:Two] : Prop:=GJ d w b.a b.c
def mY (g:Option (Nat×Bool)) (tm:Tm) (A C:Prop):Prop:=
 match g with
 |none=>A
 |some (t,w)=>GJ (tm.get t) w A C
def km (P:Program):List AI→(Tm→St→Prop)→Tm→St→Prop
 | [],K,tm,s=>K tm s
 | .op dst g o::r,K,tm,s=>mY g tm (match aJ o tm s with|some (d,s')=>km P r K (tm.put dst d) s'|none=>False) (km P r K (tm.put dst (.tuple [])) s)
 | .call dst g f xs::r,K,tm,s=>mY g tm (CL false P f (xs.map (·.ev tm)) s fun d s'=>km P r K (tm.put dst d) s') (km P r K (tm.put dst (.tuple [])) s)
 | .nil dst g neg x::r,K,tm,s=>
  mY g tm (match x.ev tm with
   | .slice _ _ rows=>∀ b:Bool,(rows≠ []→b=false)→km P r K (tm.put dst (.bool (if neg then !b else b))) s
   |_=>False) (km P r K (tm.put dst (.tuple [])) s)
 | .jr dst g t xs::r,K,tm,s=>
  mY g tm (match tm.get t with
   | .fZ f nJ=>enters P f=true∧CL false P f (xs.map (·.ev tm)++nJ) s fun d s'=>km P r K (tm.put dst d) s'
   |_=>False) (km P r K (tm.put dst (.tuple [])) s)
theorem sG {g:Option (Nat×Bool)} {tm:Tm} {A C A' C':Prop} (h:mY g tm A C) (ha:A→A') (hc:C→C'):guarded g tm A' C':=by
 unfold mY at h
 unfold guarded
 cases g with
 |none=>exact ha h
 | some p=>
  obtain⟨t,w⟩:=p
  simp only[GJ]at h ⊢
  split at h
  ·rename_i hb;try simp only [hb]
   exact⟨fun e=>ha (h.1 e),fun e=>hc (h.2 e)⟩
  ·rename_i hb;try simp only [hb]
   exact hc h
  ·exact h.elim
theorem oi {P:Program} {K:Tm→St→Prop} : ∀ {is:List AI} {tm:Tm} {s:St},km P is K tm s→iX P is K tm s
 | [],tm,s,h=>h
 | .op dst g o::r,tm,s,h=>by
  refine sG h (fun h=>?_) oi
  split at h
  ·rename_i he;try simp only [he]
   exact oi h
  ·exact h.elim
 | .call dst g f xs::r,tm,s,h=>sG h (fun h=>bL.mono h fun _ _ h=>oi h) oi
 | .nil dst g neg x::r,tm,s,h=>by
  refine sG h (fun h=>?_) oi
  split at h
  ·rename_i he;try simp only [he]
   exact fun b hb=>oi (h b hb)
  ·exact h.elim
 | .jr dst g t xs::r,tm,s,h=>by
  refine sG h (fun h=>?_) oi
  split at h
  ·rename_i he;try simp only [he]
   exact⟨h.1,bL.mono h.2 fun _ _ h=>oi h⟩
  ·exact h.elim
def gf (P:Program) (K:Tm→St→Prop):List (AI×Nat)→List St→Tm→St→Prop
 | [],_,tm,s=>K tm s
 |(.op dst g o,b)::r,bD,tm,s=>
  match o.core with
  |true=>mY g tm (match aJ o tm s with|some (d,s')=>gf P K r (s::bD) (tm.put dst d) s'|none=>False) (gf P K r (s::bD) (tm.put dst (.tuple [])) s)
  |false=>mY g tm (match aJ o tm s with|some (d,_)=>n9 (.op dst none o) tm d (bD.take b)∧gf P K r bD (tm.put dst d) s|none=>False) (gf P K r bD (tm.put dst (.tuple [])) s)
 |(.call dst g f xs,_)::r,bD,tm,s=>mY g tm (CL true P f (xs.map (·.ev tm)) s fun d s'=>gf P K r (s::bD) (tm.put dst d) s') (gf P K r (s::bD) (tm.put dst (.tuple [])) s)
 |(.nil ..,_)::_,_,_,_=>False
 |(.jr ..,_)::_,_,_,_=>False
theorem Bg {P:Program} {t:Nat} {w:Bool} {tm:Tm} {i:AI} {b:Nat} {r:List (AI×Nat)} {K:Tm→St→Prop} {bD:List St} {s:St} {A C:Prop} (h:mY (some (t,w)) tm A C) (ha:A→gI P K ((i,b)::r) bD tm s)
 (hc:C→gI P K r (if gG i.kind then s::bD else bD) (tm.put i.dst (.tuple [])) s):GL P (tm.get t) w i b r K bD tm s:=by
 simp only[mY,GJ]at h
 unfold GL
 split at h
 ·rename_i hb;try simp only [hb]
  exact⟨fun e=>ha (h.1 e),fun e=>hc (h.2 e)⟩
 ·rename_i hb;try simp only [hb]
  exact hc h
 ·exact h.elim
theorem my {P:Program} {K:Tm→St→Prop} : ∀ {l:List (AI×Nat)} {bD:List St} {tm:Tm} {s:St},gf P K l bD tm s→gI P K l bD tm s
 | [],bD,tm,s,h=>h
 | (.op dst g o,b)::r,bD,tm,s,h=>by
  simp only[gf]at h
  cases hc:o.core with
  | true=>
   simp only[hc]at h
   have ha:(match aJ o tm s with|some (d,s')=>gf P K r (s::bD) (tm.put dst d) s'|none=>False)→gI P K ((.op dst none o,b)::r) bD tm s:=by
    intro h
    refine IX ?_
    simp only[OL,hc,ML]
    split at h
    ·rename_i he;try simp only [he]
     exact my h
    ·exact h.elim
   cases g with
   |none=>exact ha h
   |some p=>
    obtain⟨t,w⟩:=p
    refine Gw (Bg h ha fun h=>?_)
    simp only[tf,hc,if_true]
    exact my h
  | false=>
   simp only[hc]at h
   have ha:(match aJ o tm s with|some (d,_)=>n9 (.op dst none o) tm d (bD.take b)∧gf P K r bD (tm.put dst d) s|none=>False)→gI P K ((.op dst none o,b)::r) bD tm s:=by
    intro h
    refine IX ?_
    simp only[OL,hc,PL]
    split at h
    ·rename_i he;try simp only [he]
     exact⟨h.1,my h.2⟩
    ·exact h.elim
   cases g with
   |none=>exact ha h
   |some p=>
    obtain⟨t,w⟩:=p
    refine Gw (Bg h ha fun h=>?_)
    simp only[tf,hc]
    exact my h
 | (.call dst g f xs,b)::r,bD,tm,s,h=>by
  simp only[gf]at h
  have ha:(CL true P f (xs.map (·.ev tm)) s fun d s'=>gf P K r (s::bD) (tm.put dst d) s')→gI P K ((.call dst none f xs,b)::r) bD tm s:=
   fun⟨d,s',h1,h2⟩=>No ⟨d,s',h1,my h2⟩
  cases g with
  |none=>exact ha h
  |some p=>
   obtain⟨t,w⟩:=p
   exact KP (Bg h ha fun h=>my h)
 |(.nil ..,_)::_,bD,tm,s,h=>h.elim
 |(.jr ..,_)::_,bD,tm,s,h=>h.elim
section
variable {P:Program} {B:fR} {nt:Nat}
def jZ (P:Program) (B:fR) (nt:Nat):AC→(Exit→Tm→St→Prop)→Tm→St→Prop
 | .skip,Q,tm,s=>Q .normal tm s
 | .run is,Q,tm,s=>km P is (Q .normal) tm s
 | .par is lM,Q,tm,s=>match mX is lM with|some l=>gf P (Q .normal) l [] tm s|none=>False
 | .seq a b,Q,tm,s=>jZ P B nt a (nN (jZ P B nt b Q) Q) tm s
 | .cond x a b,Q,tm,s=>uN (x.ev tm) (jZ P B nt a Q tm s) (jZ P B nt b Q tm s)
 | .block id a,Q,tm,s=>jZ P B nt a (kA id Q) tm s
 | .loop a,Q,tm,s=>bl P B nt a Q tm s
 | .exit id,Q,tm,s=>Q (.exit id) tm s
 | .scope a,Q,tm,s=>lC P B nt a a Q tm s
 | .label _,Q,tm,s=>Q .normal tm s
 | .goto l,Q,tm,s=>Q (.goto l) tm s
 | .ret,Q,tm,s=>Q .ret tm s
theorem iC : ∀ {ac:AC} {Q:Exit→Tm→St→Prop} {tm:Tm} {s:St},jZ P B nt ac Q tm s→Sem P B nt ac Q tm s:=by
 intro ac
 induction ac with
 |skip=>exact fun h=>Sem.skip h
 |run is=>exact fun h=>Sem.run (oi h)
 |par is lM=>
  intro Q tm s h
  simp only[jZ]at h
  split at h
  ·exact Sem.ai9 ‹_› (my h)
  ·exact h.elim
 |seq a b Qo Qp=>
  intro Q tm s h
  refine Sem.seq ((Qo h).mono fun e tm s hq=>?_)
  cases e with
  |normal=>exact Qp hq
  |_=>exact hq
 |cond x a b Qo Qp=>
  intro Q tm s h
  refine Sem.aeW ?_
  simp only[jZ]at h
  unfold uN at h ⊢
  split at h
  ·exact⟨fun e=>Qo (h.1 e),fun e=>Qp (h.2 e)⟩
  ·exact h.elim
 |block id a ih=>exact fun h=>Sem.block (ih h)
 |loop a ih=>exact fun h=>Sem.loop h
 |exit id=>exact fun h=>Sem.exit h
 |scope a ih=>exact fun h=>Sem.scope h
 |label l=>exact fun h=>Sem.label h
 |goto l=>exact fun h=>Sem.goto h
 |ret=>exact fun h=>Sem.ret h
section
variable (Q:Exit→Tm→St→Prop) (N:Tm→St→Prop) (tm:Tm) (s:St) (a b:AC) (is:List AI) (x:X)
theorem Tz:jZ P B nt .skip Q tm s=Q .normal tm s:=nd rfl
theorem Yg:jZ P B nt (.run is) Q tm s=km P is (Q .normal) tm s:=nd rfl
theorem Yh (lM:List (Nat×Nat)):jZ P B nt (.par is lM) Q tm s=match mX is lM with|some l=>gf P (Q .normal) l [] tm s|none=>False:=nd rfl
theorem Yi:jZ P B nt (.seq a b) Q tm s=jZ P B nt a (nN (jZ P B nt b Q) Q) tm s:=nd rfl
theorem TA:jZ P B nt (.cond x a b) Q tm s = @CB (x.ev tm) ⟨jZ P B nt a Q tm s,jZ P B nt b Q tm s⟩:=nd rfl
theorem QH (id:Nat):jZ P B nt (.block id a) Q tm s=jZ P B nt a (kA id Q) tm s:=nd rfl
theorem TB:jZ P B nt (.loop a) Q tm s=bl P B nt a Q tm s:=nd rfl
theorem QI:jZ P B nt (.scope a) Q tm s=lC P B nt a a Q tm s:=nd rfl
theorem TC (id:Nat):jZ P B nt (.exit id) Q tm s=Q (.exit id) tm s:=nd rfl
theorem QJ (id:Nat):jZ P B nt (.label id) Q tm s=Q .normal tm s:=nd rfl
theorem TD (id:Nat):jZ P B nt (.goto id) Q tm s=Q (.goto id) tm s:=nd rfl
theorem Yj:jZ P B nt .ret Q tm s=Q .ret tm s:=nd rfl
theorem Yk:nN N Q .normal tm s=N tm s:=nd rfl
theorem Yl:nN N Q .ret tm s=Q .ret tm s:=nd rfl
theorem Ym (id:Nat):nN N Q (.exit id) tm s=Q (.exit id) tm s:=nd rfl
theorem Yn (id:Nat):nN N Q (.goto id) tm s=Q (.goto id) tm s:=nd rfl
theorem TE (id:Nat):kA id Q .normal tm s=Q .normal tm s:=nd rfl
theorem TF (id:Nat):kA id Q .ret tm s=Q .ret tm s:=nd rfl
theorem TG (id l:Nat):kA id Q (.goto l) tm s=Q (.goto l) tm s:=nd rfl
theorem TH (id i:Nat):kA id Q (.exit i) tm s=if i=id then Q .normal tm s else Q (.exit i) tm s:=nd rfl
end
theorem bl.kQ {a:AC} {Q:Exit→Tm→St→Prop} {tm:Tm} {s:St} (h:jZ P B nt a (nN (bl P B nt a Q) Q) tm s):bl P B nt a Q tm s:=bl.once (iC h)
theorem lC.kQ {a r:AC} {Q:Exit→Tm→St→Prop} {tm:Tm} {s:St} (h:jZ P B nt r (yU P B nt a Q) tm s):lC P B nt a r Q tm s:=lC.once (iC h)
def wv (tm:Tm) (n m:Nat):Tm→Prop
 | []=>True
 |(k,d)::r=>Wk ((tm.get k).fg n m) d∧wv tm n m r
theorem wv.get {tm:Tm} {n m:Nat} : ∀ {br:Tm},wv tm n m br→∀ t,Wk ((tm.get t).fg n m) (br.get t)
 | [],_,t=>Wk.junk _
 |(k,d)::r,h,t=>by
  simp only[Tm.get]
  split
  ·rename_i hk;subst hk;exact h.1
  ·exact wv.get h.2 t
theorem Holds.re {Q:Exit→Tm→St→Prop} {tm br:Tm} {s:St} {gh:List (List D)} {act:Act} {w:World} (n m:Nat) (hn:B.s.ah.length≤n) (hm:B.s.aw.length≤m) (ht:wv tm n m br) (ho:gx (s.cut n m).ah gh)
 (h:Holds B nt tm s act w):Holds B nt br ⟨gh,(s.cut n m).aw⟩ act w:=by
 obtain⟨M,e,r,hr,h1,h2⟩:=h
 obtain⟨r',le⟩:=(r.cut n m).q8 ho
 have e':=e.cut hn hm
 refine⟨M,e'.trans ⟨le,fun _ _ _ _=>rfl,fun o h1 h2=>?_,fun t b c z hl e=> .inl ⟨hl,c,z,e⟩,fun _ _ h=>(h rfl).elim,Nat.le_refl _,rfl,rfl,rfl⟩,r',fun k=>((ht.get k) _ _ _ ((hr k).fg n m)).mono le,h1,h2⟩
 rw[← ho.len]at h2
 exact h1.elim (fun h1=>absurd h2 (Nat.not_lt.2 h1)) fun h1=>(h1 rfl).elim
theorem bl.re {a:AC} {Q:Exit→Tm→St→Prop} {tm:Tm} {s:St} (br:Tm) (gh:List (List D)) (n m:Nat) (hn:B.s.ah.length≤n) (hm:B.s.aw.length≤m) (ht:wv tm n m br) (ho:gx (s.cut n m).ah gh)
 (h:bl P B nt a Q br ⟨gh,(s.cut n m).aw⟩):bl P B nt a Q tm s:=
 fun c hc act w hh=>h c hc act w (hh.re (Q:=Q) n m hn hm ht ho)
theorem bl.ind {ι:Type} {a:AC} {Q:Exit→Tm→St→Prop} (I:ι→Prop) (μ:ι→Nat) (TM:ι→Tm) (ST:ι→St)
 (step : ∀ i,I i→(∀ j,I j→μ j<μ i→bl P B nt a Q (TM j) (ST j))→jZ P B nt a (nN (bl P B nt a Q) Q) (TM i) (ST i)) : ∀ i,I i→bl P B nt a Q (TM i) (ST i):=by
 have key : ∀ n i,μ i<n→I i→bl P B nt a Q (TM i) (ST i):=by
  intro n
  induction n with
  |zero=>intro i h;exact absurd h (Nat.not_lt_zero _)
  |succ n ih=>exact fun i h hi=>bl.kQ (step i hi fun j hj hD=>ih j (by omega) hj)
 exact fun i hi=>key (μ i+1) i (Nat.lt_succ_self _) hi
theorem drop_cons {α:Type} {l rest:List α} {k:Nat} {x:α} (h:l.drop k=x::rest):l[k]? = some x∧l.drop (k+1)=rest∧decide ((k:Int)<(l.length:Int))=true∧k<l.length:=by
 have h1:l[k]? = some x:=by
  have:(l.drop k)[0]? = some x:=by rw[h];rfl
  simpa using this
 have h2:=(List.getElem?_eq_some_iff.1 h1).1
 refine⟨h1, ?_,by simpa using h2,h2⟩
 have:l.drop (k+1)=(l.drop k).drop 1:=by rw[List.drop_drop]
 rw[this,h];rfl
theorem drop_nil {α:Type} {l:List α} {k:Nat} (h:l.drop k = []):decide ((k:Int)<(l.length:Int))=false:=by
 have:=List.drop_eq_nil_iff.1 h
 simp;omega
theorem bl.se {a:AC} {Q:Exit→Tm→St→Prop} {tm:Tm} {s:St} (t z':Nat) {z:Nat} (hw:tm.get t = .slice .full z [])
 (h:bl P B nt a Q (tm.set t (.slice (.tok s.aw.length) z' [])) {s with aw:=s.aw++ [some 0]}):bl P B nt a Q tm s:=by
 intro c hc act w ⟨M,e,r,ht,h1,h2⟩
 obtain⟨r',le⟩:=r.blank
 refine h c hc act w ⟨_,Gs e le,r',fun k=>?_,h1,h2⟩
 rw[Tm.Fj]
 split
 ·rename_i hk;subst hk;have:=ht k;rw[hw]at this;exact this.own
 ·exact(ht k).mono le
theorem bl.Dn {a:AC} {Q:Exit→Tm→St→Prop} {tm:Tm} {s:St} (o i z':Nat) {z:Nat} {cs:List D} (hc:s.ah[o]? = some cs) (hi:cs[i]? = some (.slice .full z []))
 (h:bl P B nt a Q tm ⟨s.ah.set o (cs.set i (.slice (.tok s.aw.length) z' [])),s.aw++ [some 0]⟩):bl P B nt a Q tm s:=by
 intro c hcc act w hh
 obtain⟨M,e,r,ht,h1,h2⟩:=hh
 obtain⟨r',le⟩:=r.blank
 have le':Le M s (M.eW s.aw.length none) ⟨s.ah.set o (cs.set i (.slice (.tok s.aw.length) z' [])),s.aw++ [some 0]⟩:=⟨le.G,by simp,le.loc,le.t,le.tk⟩
 have le2:Le (M.eW s.aw.length none) {s with aw:=s.aw++ [some 0]} (M.eW s.aw.length none) ⟨s.ah.set o (cs.set i (.slice (.tok s.aw.length) z' [])),s.aw++ [some 0]⟩:=
  ⟨fun _ _ _ h=>h,by simp,fun _ _=> .refl _,Nat.le_refl _,fun t n' _ e=>⟨n',e,Nat.le_refl _,fun _=>rfl⟩⟩
 have r2:Rel (M.eW s.aw.length none) ⟨s.ah.set o (cs.set i (.slice (.tok s.aw.length) z' [])),s.aw++ [some 0]⟩ w:=by
  refine⟨r'.comm,fun o' ds e=>?_,fun o ho=>r'.jH o (by simpa using ho),fun o o' ho nE=>r'.inj o o' (by simpa using ho) (by simpa using nE),r'.tok,
   fun t b c z o hv e ho=>r'.fc t b c z o hv e (by simpa using ho),r'.fO⟩
  simp only[List.getElem?_set]at e
  split at e
  ·rename_i ho
   subst ho
   split at e
   ·cases e
    obtain⟨vs,T,g1,g2,g3,g4⟩:=r.obj o cs hc
    refine⟨vs,T,g1,by simpa using g2,g3,fun j d v e1 e2=>?_⟩
    rw[List.getElem?_set]at e1
    split at e1
    ·rename_i hj
     subst hj
     split at e1
     ·cases e1
      exact((g4 i _ v hi e2).own (z':=z')).mono le2
     ·cases e1
    ·exact(g4 j d v e1 e2).mono le'
   ·cases e
  ·obtain⟨vs,T,g1,g2,g3,g4⟩:=r'.obj o' ds e
   exact⟨vs,T,g1,g2,g3,fun i d v e1 e2=>(g4 i d v e1 e2).mono le2⟩
 have ee:Ext B.M B.s B.w (M.eW s.aw.length none) ⟨s.ah.set o (cs.set i (.slice (.tok s.aw.length) z' [])),s.aw++ [some 0]⟩ w:=by
  refine(Gs e le).trans ⟨le2,fun _ _ _ _=>rfl,fun o h1 h2=>?_,fun t b c z hl e=> .inl ⟨hl,c,z,e⟩,fun _ _ h=>(h rfl).elim,Nat.le_refl _,rfl,rfl,rfl⟩
  simp at h2
  exact h1.elim (fun h1=>absurd h2 (Nat.not_lt.2 h1)) fun h1=>(h1 rfl).elim
 exact h c hcc act w ⟨_,ee,r2,fun k=>(ht k).mono le',h1,h2⟩
theorem Dp {ac r:AC} {l:Nat} {Q:Exit→Tm→St→Prop} {tm:Tm} {s:St} (hf:uM ac l=some r) (h:lC P B nt ac r Q tm s):yU P B nt ac Q (.goto l) tm s:=⟨r,hf,h⟩
theorem Sem.mZ {a b:AC} {Q:Exit→Tm→St→Prop} {tm:Tm} {s:St} (h:jZ P B nt a (nN (Sem P B nt b Q) Q) tm s):Sem P B nt (.seq a b) Q tm s:=Sem.seq (iC h)
theorem Sem.re {a:AC} {Q:Exit→Tm→St→Prop} {tm:Tm} {s:St} (br:Tm) (gh:List (List D)) (n m:Nat) (hn:B.s.ah.length≤n) (hm:B.s.aw.length≤m) (ht:wv tm n m br) (ho:gx (s.cut n m).ah gh)
 (h:Sem P B nt a Q br ⟨gh,(s.cut n m).aw⟩):Sem P B nt a Q tm s:=
 fun c hc act w hh=>h c hc act w (hh.re (Q:=Q) n m hn hm ht ho)
def Has (P:Program) (f nt:Nat) (res:List (Nat×Option (Bool×Nat))) (body:AC):Prop:=∃ fn,P.funcs[f]? = some fn∧cF P fn=some ⟨nt,res,body⟩
theorem aF.go {f:FuncId} {res:List (Nat×Option (Bool×Nat))} {body:AC} {args:List D} {s:St} {d:D} {s':St} (h0:Has P f nt res body) (hl:Nat.ble args.length nt=true)
 (h : ∀ (B:fR) (Q:Exit→Tm→St→Prop),B.s=s→pM s.ah.length s.aw.length res d s'=Q→jZ P B nt body Q (mN 0 args) s):aF P f args s d s':=by
 obtain⟨fn,hf,hc⟩:=h0
 exact aF.intro ⟨fn,hf,hc⟩ (Nat.le_of_ble_eq_true hl) fun B hB=>iC (h B _ hB rfl)
theorem aF.aa2 {f:FuncId} {pre post:List D} {rows oE:List (List D)} {z z' k k':Nat} (h:aF P f (pre++ .slice (.tok 0) z rows::post) ⟨[],[some k]⟩ (.slice (.tok 0) z' oE) ⟨[],[some k']⟩)
 (hp:D.bK 0 0 pre=true) (ha:D.bK 0 0 post=true) (hw:D.gQ 0 0 rows=true) (hw':D.gQ 0 0 oE=true)
 {s:St} {t:Nat} (ht:s.aw[t]? = some (some k)):aF P f (pre++ .slice (.tok t) z rows::post) s (.slice (.tok t) z' oE) ⟨s.ah,s.aw.set t (some k')⟩:=by
 refine bL.frame [] [t] h (by simp) (by simp) (by simp) (by simpa using (List.getElem?_eq_some_iff.1 ht).1) rfl (fun i o' ds e1 e2=>by simp at e1) rfl (fun i t' e1=>?_)
  ?_ ?_ ?_
 ·cases i with
  |zero=>simp at e1;subst e1;simp[ht]
  |succ i=>simp at e1
 ·have h1:=fz [] [t] _ hp
  have h2:=fz [] [t] _ ha
  rw[fL]at h1 h2
  simp[fL,D.cW,Tag.cW,h1,h2,ji _ _ _ hw]
 ·have h1:=il (n':=0) (m':=1) (Nat.le_refl 0) (Nat.zero_le 1) _ hp
  have h2:=il (n':=0) (m':=1) (Nat.le_refl 0) (Nat.zero_le 1) _ ha
  rw[x7]at h1 h2 ⊢
  simp only[List.length_nil,List.length_cons,List.all_append,h1,Bool.true_and,List.all_cons,h2,Bool.and_true,D.ok,Tag.ok,mr (Nat.zero_le 0) (Nat.zero_le 1) _ hw]
  rfl
 ·rintro _ _ ⟨rfl,rfl⟩
  refine⟨by simp[D.back,D.cW,Tag.cW,kx,ji _ _ _ hw'], ?_⟩
  simp[St.back,kB]
theorem ajc (A C:Prop) : @CB (.bool true) ⟨A,C⟩=A:=by simp[CB,uN]
theorem ajd (A C:Prop) : @CB (.bool false) ⟨A,C⟩=C:=by simp[CB,uN]
theorem aa4 (b:Bool) (A C:Prop) : @CB (.bool (!b)) ⟨A,C⟩ = @CB (.bool b) ⟨C,A⟩:=by
 cases b<;>simp[CB,uN]
theorem IY {b:Bool} {A C:Prop} (h1:b=true→A) (h2:b=false→C) : @CB (.bool b) ⟨A,C⟩:=⟨h1,h2⟩
theorem aa5 {b:Bool} {A C:Prop} (h:b=true) (h1:b=true→A) : @CB (.bool b) ⟨A,C⟩:=IY h1 (fun h'=>by rw[h]at h';cases h')
theorem aa6 {b:Bool} {A C:Prop} (h:b=false) (h1:b=false→C) : @CB (.bool b) ⟨A,C⟩:=IY (fun h'=>by rw[h]at h';cases h') h1
theorem aeZ {n m:Nat} {res:List (Nat×Option (Bool×Nat))} {d:D} {s':St} {tm:Tm} {s:St} {Q:Exit→Tm→St→Prop} (hQ:pM n m res d s'=Q)
 (h : ∃ l,aU res tm s=some l∧Wk ((aV l).fg n m) d∧gx (s.cut n m).ah s'.ah∧(s.cut n m).aw=s'.aw):Q .ret tm s:=hQ ▸ h
theorem ae0 {n m:Nat} {res:List (Nat×Option (Bool×Nat))} {d:D} {s':St} {tm:Tm} {s:St} {Q:Exit→Tm→St→Prop} (hQ:pM n m res d s'=Q)
 (h : ∃ l,aU res tm s=some l∧Wk ((aV l).fg n m) d∧gx (s.cut n m).ah s'.ah∧(s.cut n m).aw=s'.aw):Q .normal tm s:=hQ ▸ h
end
attribute [go_sem] Tz Yg Yh Yi TA QH TB QI TC QJ TD Yj Yk Yl Ym Yn TE TF TG TH
theorem QK : ∀ (tm:Tm) (s:St) (x:X),aJ (AO.mv x) tm s=some (X.ev tm x,s):=
 fun tm s x=>nd (aJ.eq_1 tm s x)
theorem QL : ∀ (tm:Tm) (s:St) (c a b:X),
 aJ (AO.pick c a b) tm s =
  match X.ev tm c with
  |D.bool t=>some (if t=true then X.ev tm a else X.ev tm b,s)
  |x=>none:=
 fun tm s c a b=>nd (aJ.eq_2 tm s c a b)
theorem QM : ∀ (tm:Tm) (s:St) (zero:List D),
 aJ (AO.alloc zero) tm s=some (D.ptr s.ah.length 0,{ah:=s.ah++ [zero],aw:=s.aw}):=
 fun tm s zero=>nd (aJ.eq_3 tm s zero)
theorem QN : ∀ (tm:Tm) (s:St) (x:X),
 aJ (AO.box x) tm s =
  match (X.ev tm x).row with
  |some r=>some (D.ptr s.ah.length 0,{ah:=s.ah++ [r],aw:=s.aw})
  |none=>none:=
 fun tm s x=>nd (aJ.eq_4 tm s x)
theorem QO : ∀ (tm:Tm) (s:St) (zero:List D) (parts:List (Nat×Nat×X)),
 aJ (AO.build zero parts) tm s =
  match qQ zero (List.map (fun(p:Nat×Nat×X)=>(p.fst,p.snd.fst,X.ev tm p.snd.snd)) parts)with
  |some cs=>some (D.agg cs,s)
  |none=>none:=
 fun tm s zero parts=>nd (aJ.eq_5 tm s zero parts)
theorem QP : ∀ (tm:Tm) (s:St) (zero:List D) (size n:Nat) (parts:List (Nat×X)),
 aJ (AO.dt zero size n parts) tm s =
  match jS size (fP zero n) (List.map (fun(p:Nat×X)=>(p.fst,X.ev tm p.snd)) parts)with
  |some rows=>some (D.slice Tag.full size rows,s)
  |none=>none:=
 fun tm s zero size n parts=>nd (aJ.eq_6 tm s zero size n parts)
theorem QQ : ∀ (tm:Tm) (s:St) (zero:List D) (size n:Nat) (parts:List (Nat×X)),
 aJ (AO.u9 zero size n parts) tm s =
  match jS size (fP zero n) (List.map (fun(p:Nat×X)=>(p.fst,X.ev tm p.snd)) parts)with
  |some rows=>
   some (D.slice (Tag.tok s.aw.length) size rows,{ah:=s.ah,aw:=s.aw++ [some rows.length]})
  |none=>none:=
 fun tm s zero size n parts=>nd (aJ.eq_7 tm s zero size n parts)
theorem QR : ∀ (tm:Tm) (s:St) (x:X),
 aJ (AO.AG x) tm s =
  match X.ev tm x with
  | D.slice (Tag.tok t _) z rows=>
   if rows≠ []∧s.aw[t]? = some (some rows.length)then
    some (D.slice Tag.shared z rows,{ah:=s.ah,aw:=s.aw.set t none})
   else none
  |x=>none:=
 fun tm s x=>nd (aJ.eq_8 tm s x)
theorem QS : ∀ (tm:Tm) (s:St) (x:X) (agg:Bool) (size:Nat),
 aJ (AO.load x agg size) tm s =
  match X.ev tm x with
  | D.ptr o off=>
   match s.ah[o]? with
   |some cs=>
    match part cs off agg size with
    |some d=>some (d,s)
    |none=>none
   |none=>none
  |D.dv row off=>
   match part row off agg size with
   |some d=>some (d,s)
   |none=>none
  |x=>yH x agg size s:=
 fun tm s x agg size=>nd (aJ.eq_9 tm s x agg size)
theorem Np : ∀ (tm:Tm) (s:St) (p x:X) (size:Nat),
 aJ (AO.store p x size) tm s =
  match X.ev tm p,(X.ev tm x).row with
  | D.ptr o off,some r=>
   match s.ah[o]? with
   | some cs=>
    if r.length=size∧off+size≤cs.length then
     some (D.tuple [],{ah:=s.ah.set o (ij cs off r),aw:=s.aw})
    else none
   |none=>none
  |x,fq=>AR x fq size s:=
 fun tm s p x size=>nd (aJ.eq_10 tm s p x size)
theorem Nq : ∀ (tm:Tm) (s:St) (x:X),
 aJ (AO.bR x) tm s =
  match X.ev tm x with
  |D.ptr o off=>some (D.ptr o off,s)
  |D.dv row off=>some (D.dv row off,s)
  |x=>match Mt x with|some d=>some (d,s)|none=>none:=
 fun tm s x=>nd (aJ.eq_11 tm s x)
theorem Nr : ∀ (tm:Tm) (s:St) (op:BinOp) (x y:X),
 aJ (AO.bin op x y) tm s =
  match w5 op (X.ev tm x) (X.ev tm y)with
  |some d=>some (d,s)
  |none=>none:=
 fun tm s op x y=>nd (aJ.eq_12 tm s op x y)
theorem Ns : ∀ (tm:Tm) (s:St) (neg:Bool) (x y:X),
 aJ (AO.Gd neg x y) tm s =
  match X.ev tm x,X.ev tm y with
  |D.bool a,D.bool b=>some (D.bool (if neg=true then !a==b else a==b),s)
  |x,fq=>none:=
 fun tm s neg x y=>nd (aJ.eq_13 tm s neg x y)
theorem Nt : ∀ (tm:Tm) (s:St) (neg:Bool) (ks:List Nat) (x y:X),
 aJ (AO.eqs neg ks x y) tm s =
  match X.ev tm x,X.ev tm y with
  |D.agg a,D.agg b=>
   match lk ks a b with
   |some e=>some (D.bool (if neg=true then !e else e),s)
   |none=>none
  |x,fq=>none:=
 fun tm s neg ks x y=>nd (aJ.eq_14 tm s neg ks x y)
theorem Nu : ∀ (tm:Tm) (s:St) (neg:Bool) (x y:X),
 aJ (AO.Ge neg x y) tm s =
  match X.ev tm x,X.ev tm y with
  |D.dR,D.dR=>some (D.bool !neg,s)
  |D.ptr o off,D.dR=>some (D.bool neg,s)
  |D.dv row off,D.dR=>some (D.bool neg,s)
  |x,fq=>none:=
 fun tm s neg x y=>nd (aJ.eq_15 tm s neg x y)
theorem Nv : ∀ (tm:Tm) (s:St) (op:UnOp) (x:X),
 aJ (AO.un op x) tm s =
  match Ii op (X.ev tm x)with
  |some d=>some (d,s)
  |none=>none:=
 fun tm s op x=>nd (aJ.eq_16 tm s op x)
theorem Nw : ∀ (tm:Tm) (s:St) (k:IntKind) (x:X),
 aJ (AO.conv k x) tm s =
  match X.ev tm x with
  |D.int k_1 n=>some (D.int k (k.wrap n),s)
  |x=>none:=
 fun tm s k x=>nd (aJ.eq_17 tm s k x)
theorem Nx : ∀ (tm:Tm) (s:St) (x:X),
 aJ (AO.DS x) tm s =
  match X.ev tm x with
  |D.slice g size rows=>
   match oh rows with
   |some b=>some (D.str b,s)
   |none=>none
  |x=>none:=
 fun tm s x=>nd (aJ.eq_18 tm s x)
theorem Ny : ∀ (tm:Tm) (s:St) (x:X),
 aJ (AO.xL x) tm s =
  match X.ev tm x with
  |D.str l=>some (D.slice Tag.shared 1 (List.map (fun(c:UInt8)=> [D.int IntKind.u8 ↑c.toNat]) l),s)
  |x=>none:=
 fun tm s x=>nd (aJ.eq_19 tm s x)
theorem Nz : ∀ (tm:Tm) (s:St) (size:Nat) (x:X) (lo hi:Option X),
 aJ (AO.DT size x lo hi) tm s =
  match X.ev tm x with
  | D.slice g z rows=>
   match sR (Option.map (fun(x:X)=>X.ev tm x) lo),
    sS (Option.map (fun(x:X)=>X.ev tm x) hi) rows.length with
   | some l,some h=>
    if(rows = []∨z=size)∧0≤l∧l≤h∧h≤ ↑rows.length then
     some
      (D.slice (if l=0 then g.cut (decide (h = ↑rows.length))else Tag.shared) z
       (List.drop l.toNat (List.take h.toNat rows)),
       s)
    else none
   |x,fq=>none
  |x=>match w7 x (Option.map (fun(x:X)=>X.ev tm x) lo) (Option.map (fun(x:X)=>X.ev tm x) hi)with|some d=>some (d,s)|none=>none:=
 fun tm s size x lo hi=>nd (aJ.eq_20 tm s size x lo hi)
theorem NA : ∀ (tm:Tm) (s:St) (x:X) (lo hi:Option X),
 aJ (AO.Ie x lo hi) tm s =
  match X.ev tm x with
  | D.str t=>
   match sR (Option.map (fun(x:X)=>X.ev tm x) lo),sS (Option.map (fun(x:X)=>X.ev tm x) hi) t.length with
   |some l,some h=>
    if 0≤l∧l≤h∧h≤ ↑t.length then some (D.str (List.drop l.toNat (List.take h.toNat t)),s)else none
   |x,fq=>none
  |x=>none:=
 fun tm s x lo hi=>nd (aJ.eq_21 tm s x lo hi)
theorem NB : ∀ (tm:Tm) (s:St) (x:X) (off:Nat),
 aJ (AO.aq x off) tm s =
  match X.ev tm x with
  |D.ptr o k=>some (D.ptr o (k+off),s)
  |D.dv row k=>some (D.dv row (k+off),s)
  |x=>match DW x off with|some d=>some (d,s)|none=>none:=
 fun tm s x off=>nd (aJ.eq_22 tm s x off)
theorem NC : ∀ (tm:Tm) (s:St) (x:X) (off:Nat) (agg:Bool) (size:Nat),
 aJ (AO.CH x off agg size) tm s =
  match X.ev tm x with
  |D.agg cs=>
   match part cs off agg size with
   |some d=>some (d,s)
   |none=>none
  |x=>none:=
 fun tm s x off agg size=>nd (aJ.eq_23 tm s x off agg size)
theorem ND : ∀ (tm:Tm) (s:St) (x i:X) (size:Nat),
 aJ (AO.cf x i size) tm s =
  match X.ev tm x,X.ev tm i with
  | D.slice g z rows,D.int k n=>
   if 0≤n∧z=size then
    match rows[n.toNat]? with
    |some row=>some (D.dv row 0,s)
    |none=>none
   else none
  |x,fq=>match xN x fq size with|some d=>some (d,s)|none=>none:=
 fun tm s x i size=>nd (aJ.eq_24 tm s x i size)
theorem NF : ∀ (tm:Tm) (s:St) (x i:X),
 aJ (AO.AH x i) tm s =
  match X.ev tm x,X.ev tm i with
  | D.str t,D.int k n=>
   if 0≤n then
    match t[n.toNat]? with
    |some c=>some (D.int IntKind.u8 ↑c.toNat,s)
    |none=>none
   else none
  |x,fq=>none:=
 fun tm s x i=>nd (aJ.eq_25 tm s x i)
theorem NG : ∀ (tm:Tm) (s:St) (x:X) (i:Nat),
 aJ (AO.ext x i) tm s =
  match X.ev tm x with
  |D.tuple ds=>
   match ds[i]? with
   |some d=>some (d,s)
   |none=>none
  |x=>none:=
 fun tm s x i=>nd (aJ.eq_26 tm s x i)
theorem NH : ∀ (tm:Tm) (s:St) (x:X),
 aJ (AO.va x) tm s =
  match X.ev tm x with
  |D.str t=>some (D.int IntKind.i64 ↑t.length,s)
  |x=>none:=
 fun tm s x=>nd (aJ.eq_27 tm s x)
theorem NK : ∀ (tm:Tm) (s:St) (x:X),
 aJ (AO.len x) tm s =
  match X.ev tm x with
  |D.slice g size rows=>some (D.int IntKind.i64 ↑rows.length,s)
  |x=>match Fe x with|some d=>some (d,s)|none=>none:=
 fun tm s x=>nd (aJ.eq_28 tm s x)
theorem NL : ∀ (tm:Tm) (s:St) (size bytes:Nat) (x y:X),
 aJ (AO.app size bytes x y) tm s =
  match X.ev tm x with
  |D.slice g z rows=>ik size bytes (D.slice g z rows) (X.ev tm y) s
  |d=>AS size bytes d (X.ev tm y) s:=
 fun tm s size bytes x y=>nd (aJ.eq_29 tm s size bytes x y)
theorem NM : ∀ (tm:Tm) (s:St) (isMax:Bool) (x y:X),
 aJ (AO.mm isMax x y) tm s =
  match X.ev tm x,X.ev tm y with
  |D.int k a,D.int k' b=>
   if k=k' then some (D.int k (if isMax=true then if b > a then b else a else if b<a then b else a),s)
   else none
  |x,fq=>none:=
 fun tm s isMax x y=>nd (aJ.eq_30 tm s isMax x y)
theorem NN (tm:Tm) (s:St) (r:List D) (T:TypeId):aJ (AO.sQ (.dR::r) T) tm s=some (.ptr s.ah.length 0,{ah:=s.ah++ [.fj T s.ah.length::r],aw:=s.aw}):=nd rfl
theorem NO (tm:Tm) (s:St) (x:X) (T:TypeId):aJ (AO.AJ x T) tm s =
 match (x.ev tm).row with
 |some (.dR::r)=>some (.ptr s.ah.length 0,{ah:=s.ah++ [.fj T s.ah.length::r],aw:=s.aw})
 |_=>none:=nd rfl
theorem NP (tm:Tm) (s:St) (x y:X):aJ (AO.apps x y) tm s =
 match y.ev tm with
 | .str l=>AQ (x.ev tm) (.slice .shared 1 (l.map fun c=> [.int .u8 c.toNat])) s
 |_=>none:=nd rfl
theorem NQ (tm:Tm) (s:St) (x y:X):aJ (AO.AL x y) tm s=AQ (x.ev tm) (y.ev tm) s:=nd rfl
theorem NR (tm:Tm) (s:St) (f:Nat) (xs:List X):aJ (AO.uJ f xs) tm s=some (.fZ f (xs.map fun x=>x.ev tm),s):=nd rfl
theorem NS (tm:Tm) (s:St):aJ AO.uK tm s=some (.fN s.ah.length,{ah:=s.ah++ [[]],aw:=s.aw}):=nd rfl
theorem NT (tm:Tm) (s:St) (m k v:X):aJ (AO.yF m k v) tm s =
 match m.ev tm,k.ev tm,v.ev tm with
 | .fN o, .str key, .slice g z rows=>
  match s.ah[o]? with
  |some cs=>match w6 key (.slice g z rows) cs with|some jF=>some (.tuple [],{ah:=s.ah.set o jF,aw:=s.aw})|none=>none
  |none=>none
 |_,_,_=>none:=nd rfl
theorem NU (tm:Tm) (s:St) (m k:X) (zero:D):aJ (AO.v8 m k zero) tm s =
 match m.ev tm,k.ev tm with
 | .fN o, .str key=>
  match s.ah[o]? with
  |some cs=>match yG key zero cs with|some d=>some (d,s)|none=>none
  |none=>none
 |_,_=>none:=nd rfl
theorem NV (tm:Tm) (s:St) (o:FO) (x y:X):aJ (AO.qP o x y) tm s=match qo o (x.ev tm) (y.ev tm)with|some d=>some (d,s)|none=>none:=nd rfl
theorem NW (tm:Tm) (s:St) (size bytes:Nat) (zero:List D) (l c:X):aJ (AO.AN size bytes zero l c) tm s =
 match l.ev tm,c.ev tm with
 | .int .i64 n, .int .i64 m=>if n=m∧0≤n∧n*((bytes:Int)+1)≤bC then some (.ew size s.ah.length 0 n.toNat,{s with ah:=s.ah++ [.int .i64 ((0:Nat):Int)::(fP zero n.toNat).flatten]})else none
 |_,_=>none:=nd rfl
theorem IZ (o:FO) (x y:X):(AO.qP o x y).core=false:=nd rfl
theorem I0 (size bytes:Nat) (zero:List D) (l c:X):(AO.AN size bytes zero l c).core=true:=nd rfl
theorem I1 (f:Nat) (xs:List X):(AO.uJ f xs).core=false:=nd rfl
theorem I2:AO.uK.core=true:=nd rfl
theorem I3 (m k v:X):(AO.yF m k v).core=true:=nd rfl
theorem I4 (m k:X) (zero:D):(AO.v8 m k zero).core=false:=nd rfl
theorem QT (n m f:Nat) (cs:List D):D.fg n m (.fZ f cs) = .fZ f (D.gn n m cs):=nd (by simp only[D.fg])
theorem QU (n m:Nat) (o:Nat):D.fg n m (.fN o)=if o<n then .fN o else .junk:=nd (by simp only[D.fg])
theorem NY (d:Option Nat) (g:Option (Nat×Bool)) (t:Nat) (xs:List X):(AI.jr d g t xs).dst=d:=nd rfl
theorem I5 (x y:X):(AO.AL x y).core=true:=nd rfl
theorem I6 (z:List D) (T:TypeId):(AO.sQ z T).core=true:=nd rfl
theorem I7 (x:X) (T:TypeId):(AO.AJ x T).core=true:=nd rfl
theorem I8 (x y:X):(AO.apps x y).core=true:=nd rfl
theorem QV (n m:Nat) (v:Value):D.fg n m (.val v) = .val v:=nd (by simp only[D.fg])
theorem QW (n m:Nat) (T:TypeId) (o:Nat):D.fg n m (.fj T o)=if o<n then .fj T o else .junk:=nd (by simp only[D.fg])
theorem TI : ∀ (tm:Tm) (t:Nat),X.ev tm (X.s t)=tm.get t:=
 fun tm t=>nd (X.ev.eq_1 tm t)
theorem TJ : ∀ (tm:Tm) (d:D),X.ev tm (X.k d)=d:=
 fun tm d=>nd (X.ev.eq_2 tm d)
theorem NZ : ∀ (tm:Tm) (d:D) (t:Nat),tm.put (some t) d=tm.set t d:=
 fun tm d t=>nd (Tm.put.eq_1 tm d t)
theorem N0 : ∀ (tm:Tm) (d:D),tm.put none d=tm:=
 fun tm d=>nd (Tm.put.eq_2 tm d)
theorem N1 : ∀ (x:Nat) (fq:D),Tm.set [] x fq = [(x,fq)]:=
 fun x fq=>nd (Tm.set.eq_1 x fq)
theorem N2 : ∀ (x:Nat) (fq:D) (k:Nat) (e:D) (r:List (Nat×D)),
 Tm.set ((k,e)::r) x fq=if k=x then(k,fq)::r else(k,e)::Tm.set r x fq:=
 fun x fq k e r=>nd (Tm.set.eq_2 x fq k e r)
theorem N3 : ∀ (x:Nat),Tm.get [] x=D.junk:=
 fun x=>nd (Tm.get.eq_1 x)
theorem N4 : ∀ (x k:Nat) (d:D) (r:List (Nat×D)),Tm.get ((k,d)::r) x=if k=x then d else Tm.get r x:=
 fun x k d r=>nd (Tm.get.eq_2 x k d r)
theorem QX : ∀ (x:Nat),mN x [] = []:=
 fun x=>nd (mN.eq_1 x)
theorem QY : ∀ (x:Nat) (d:D) (r:List D),mN x (d::r)=(x,d)::mN (x+1) r:=
 fun x d r=>nd (mN.eq_2 x d r)
theorem N5 : ∀ (d:Option Nat) (g:Option (Nat×Bool)) (o:AO),(AI.op d g o).dst=d:=
 fun d g o=>nd (AI.dst.eq_1 d g o)
theorem N6 : ∀ (d:Option Nat) (g:Option (Nat×Bool)) (f:Nat) (xs:List X),(AI.call d g f xs).dst=d:=
 fun d g f xs=>nd (AI.dst.eq_2 d g f xs)
theorem N7 : ∀ (d:Option Nat) (g:Option (Nat×Bool)) (neg:Bool) (fq:X),(AI.nil d g neg fq).dst=d:=
 fun d g neg fq=>nd (AI.dst.eq_3 d g neg fq)
theorem TK : ∀ (cs:List D) (off size:Nat),
 part cs off true size=if off+size≤cs.length then some (D.agg (List.take size (List.drop off cs)))else none:=
 fun cs off size=>nd (part.eq_1 cs off size)
theorem TL : ∀ (cs:List D) (off size:Nat),part cs off false size=cs[off]? :=
 fun cs off size=>nd (part.eq_2 cs off size)
theorem N8 : ∀ (cs:List D) (off:Nat) (r:List D),
 ij cs off r=List.take off cs++r++List.drop (off+r.length) cs:=
 fun cs off r=>nd (ij.eq_1 cs off r)
theorem QZ : ∀ (cells:List D),qQ cells [] = some cells:=
 fun cells=>nd (qQ.eq_1 cells)
theorem Q1 : ∀ (cells:List D) (off size:Nat) (d:D) (rest:List (Nat×Nat×D)),
 qQ cells ((off,size,d)::rest) =
  match d.row with
  |none=>none
  |some r=>if r.length=size∧off+size≤cells.length then qQ (ij cells off r) rest else none:=
 fun cells off size d rest=>nd (qQ.eq_2 cells off size d rest)
theorem I9 : ∀ (size:Nat) (rows:List (List D)),jS size rows [] = some rows:=
 fun size rows=>nd (jS.eq_1 size rows)
theorem Ja : ∀ (size:Nat) (rows:List (List D)) (i:Nat) (d:D) (rest:List (Nat×D)),
 jS size rows ((i,d)::rest) =
  match d.row with
  |none=>none
  |some r=>if r.length=size∧i<rows.length then jS size (rows.set i r) rest else none:=
 fun size rows i d rest=>nd (jS.eq_2 size rows i d rest)
theorem Jb : ∀ (zero:List D),fP zero 0 = []:=
 fun zero=>nd (fP.eq_1 zero)
theorem Jc : ∀ (zero:List D) (i:Nat),fP zero i.succ=zero::fP zero i:=
 fun zero i=>nd (fP.eq_2 zero i)
theorem TN : ∀ (op:BinOp) (k:IntKind) (a:Int) (k':IntKind) (b:Int),
 w5 op (D.int k a) (D.int k' b)=if k=k' then ga op k a b else none:=
 fun op k a k' b=>nd (w5.eq_1 op k a k' b)
theorem TO : ∀ (op:BinOp) (a b:List UInt8),w5 op (D.str a) (D.str b)=n7 op a b:=
 fun op a b=>nd (w5.eq_2 op a b)
theorem N9 : ∀ (k:IntKind) (a b:Int),ga BinOp.add k a b=some (D.int k (k.wrap (a+b))):=
 fun k a b=>nd (ga.eq_1 k a b)
theorem Oa : ∀ (k:IntKind) (a b:Int),ga BinOp.sub k a b=some (D.int k (k.wrap (a - b))):=
 fun k a b=>nd (ga.eq_2 k a b)
theorem Oc : ∀ (k:IntKind) (a b:Int),ga BinOp.mul k a b=some (D.int k (k.wrap (a*b))):=
 fun k a b=>nd (ga.eq_3 k a b)
theorem Od : ∀ (k:IntKind) (a b:Int),
 ga BinOp.quo k a b=if b=0 then none else some (D.int k (k.wrap (a.tdiv b))):=
 fun k a b=>nd (ga.eq_4 k a b)
theorem Oe : ∀ (k:IntKind) (a b:Int),ga BinOp.rem k a b=if b=0 then none else some (D.int k (a.tmod b)):=
 fun k a b=>nd (ga.eq_5 k a b)
theorem Og : ∀ (k:IntKind) (a b:Int),ga BinOp.eql k a b=some (D.bool (a==b)):=
 fun k a b=>nd (ga.eq_6 k a b)
theorem Oh : ∀ (k:IntKind) (a b:Int),ga BinOp.neq k a b=some (D.bool (a != b)):=
 fun k a b=>nd (ga.eq_7 k a b)
theorem Oi : ∀ (k:IntKind) (a b:Int),ga BinOp.lss k a b=some (D.bool (decide (a<b))):=
 fun k a b=>nd (ga.eq_8 k a b)
theorem Oj : ∀ (k:IntKind) (a b:Int),ga BinOp.leq k a b=some (D.bool (decide (a≤b))):=
 fun k a b=>nd (ga.eq_9 k a b)
theorem KR : ∀ (k:IntKind) (a b:Int),ga BinOp.gtr k a b=some (D.bool (decide (a > b))):=
 fun k a b=>nd (ga.eq_10 k a b)
theorem KS : ∀ (k:IntKind) (a b:Int),ga BinOp.geq k a b=some (D.bool (decide (a≥b))):=
 fun k a b=>nd (ga.eq_11 k a b)
theorem Ol : ∀ (a b:List UInt8),
 n7 BinOp.add a b=if a.length+b.length≤bC then some (D.str (a++b))else none:=
 fun a b=>nd (n7.eq_1 a b)
theorem Om : ∀ (a b:List UInt8),n7 BinOp.eql a b=some (D.bool (a==b)):=
 fun a b=>nd (n7.eq_2 a b)
theorem On : ∀ (a b:List UInt8),n7 BinOp.neq a b=some (D.bool !a==b):=
 fun a b=>nd (n7.eq_3 a b)
theorem Oo : ∀ (a b:List UInt8),n7 BinOp.lss a b=some (D.bool (bytesLess a b)):=
 fun a b=>nd (n7.eq_4 a b)
theorem Yo : ∀ (k:IntKind) (n:Int),Ii UnOp.neg (D.int k n)=some (D.int k (k.wrap (0 - n))):=
 fun k n=>nd (Ii.eq_1 k n)
theorem Yp : ∀ (b:Bool),Ii UnOp.not (D.bool b)=some (D.bool !b):=
 fun b=>nd (Ii.eq_2 b)
theorem Oq : ∀ (k:IntKind) (a:Int) (k':IntKind) (b:Int),
 mR 0 (D.int k a) (D.int k' b)=if k=k' then some (a==b)else none:=
 fun k a k' b=>nd (mR.eq_1 k a k' b)
theorem Ot : ∀ (a b:Bool),mR 1 (D.bool a) (D.bool b)=some (a==b):=
 fun a b=>nd (mR.eq_2 a b)
theorem Ou : ∀ (a b:List UInt8),mR 2 (D.str a) (D.str b)=some (a==b):=
 fun a b=>nd (mR.eq_3 a b)
theorem KT:lk [] [] [] = some true:=
 nd (lk.eq_1)
theorem KU : ∀ (k:Nat) (ks:List Nat) (Wv:D) (xs:List D) (y:D) (ys:List D),
 lk (k::ks) (Wv::xs) (y::ys) =
  match mR k Wv y with
  |none=>none
  |some true=>lk ks xs ys
  |some false=>some false:=
 fun k ks Wv xs y ys=>nd (lk.eq_2 k ks Wv xs y ys)
theorem Yq:sR none=some 0:=
 nd (sR.eq_1)
theorem Yr : ∀ (k:IntKind) (n:Int),sR (some (D.int k n))=some n:=
 fun k n=>nd (sR.eq_2 k n)
theorem Ys : ∀ (len:Nat),sS none len=some ↑len:=
 fun len=>nd (sS.eq_1 len)
theorem Yt : ∀ (len:Nat) (k:IntKind) (n:Int),sS (some (D.int k n)) len=some n:=
 fun len k n=>nd (sS.eq_2 len k n)
theorem KV : ∀ (zero:List D),(AO.alloc zero).core=true:=
 fun zero=>nd (AO.core.eq_1 zero)
theorem KW : ∀ (fq:X),(AO.box fq).core=true:=
 fun fq=>nd (AO.core.eq_2 fq)
theorem KX : ∀ (zero:List D) (size n:Nat) (parts:List (Nat×X)),(AO.u9 zero size n parts).core=true:=
 fun zero size n parts=>nd (AO.core.eq_3 zero size n parts)
theorem KY : ∀ (fq:X),(AO.AG fq).core=true:=
 fun fq=>nd (AO.core.eq_4 fq)
theorem KZ : ∀ (p fq:X) (size:Nat),(AO.store p fq size).core=true:=
 fun p fq size=>nd (AO.core.eq_5 p fq size)
theorem K0 : ∀ (size bytes:Nat) (fq y:X),(AO.app size bytes fq y).core=true:=
 fun size bytes fq y=>nd (AO.core.eq_6 size bytes fq y)
theorem K1 : ∀ (val:Nat) (zero:List D),(AI.op (some val) none (AO.alloc zero)).kind=AK.alloc:=
 fun val zero=>nd (AI.kind.eq_1 val zero)
theorem K3 : ∀ (zero:List D),(AO.alloc zero).kind=AK.core:=
 fun zero=>nd (AO.kind.eq_1 zero)
theorem K4 : ∀ (fq:X),(AO.box fq).kind=AK.core:=
 fun fq=>nd (AO.kind.eq_2 fq)
theorem K5 : ∀ (zero:List D) (size n:Nat) (parts:List (Nat×X)),(AO.u9 zero size n parts).kind=AK.core:=
 fun zero size n parts=>nd (AO.kind.eq_3 zero size n parts)
theorem K6 : ∀ (fq:X),(AO.AG fq).kind=AK.core:=
 fun fq=>nd (AO.kind.eq_4 fq)
theorem K7 : ∀ (p fq:X) (size:Nat),(AO.store p fq size).kind=AK.core:=
 fun p fq size=>nd (AO.kind.eq_5 p fq size)
theorem K8 : ∀ (size bytes:Nat) (fq y:X),(AO.app size bytes fq y).kind=AK.core:=
 fun size bytes fq y=>nd (AO.kind.eq_6 size bytes fq y)
theorem K9 : ∀ (fq:X) (agg:Bool) (size:Nat),(AO.load fq agg size).kind=AK.load:=
 fun _ _ _=>nd rfl
theorem Ov:gG AK.core=true:=
 nd (gG.eq_1)
theorem Ow:gG AK.alloc=true:=
 nd (gG.eq_2)
theorem Ox : ∀ (i:AI) (tm:Tm) (d:D),n9 i tm d [] = True:=
 fun i tm d=>nd (n9.eq_1 i tm d)
theorem Oy : ∀ (i:AI) (tm:Tm) (d:D) (s:St) (r:List St),
 n9 i tm d (s::r)=(jN i tm s=some d∧n9 i tm d r):=
 fun i tm d s r=>nd (n9.eq_2 i tm d s r)
theorem Yu : ∀ (tm:Tm) (s:St) (dst:Option Nat) (o:AO),
 jN (AI.op dst none o) tm s=Option.map (fun(x:D×St)=>x.fst) (aJ o tm s):=
 fun tm s dst o=>nd (jN.eq_1 tm s dst o)
theorem Yv : ∀ (tm:Tm) (s:St) (dst:Option Nat) (t:Nat) (want:Bool) (o:AO),
 jN (AI.op dst (some (t,want)) o) tm s =
  match tm.get t with
  |D.bool b=>if b=want then Option.map (fun(x:D×St)=>x.fst) (aJ o tm s)else some (D.tuple [])
  |D.tuple vs=>some (D.tuple [])
  |x=>none:=
 fun tm s dst t want o=>nd (jN.eq_2 tm s dst t want o)
theorem La : ∀ (is:List AI),mX is [] = some []:=
 fun is=>nd (mX.eq_1 is)
theorem Lb : ∀ (is:List AI) (q b:Nat) (r:List (Nat×Nat)),
 mX is ((q,b)::r) =
  match is[q]?,mX is r with
  |some ai,some l=>some ((ai,b)::l)
  |x,fq=>none:=
 fun is q b r=>nd (mX.eq_2 is q b r)
theorem Yw : ∀ (tm:Tm) (n m:Nat),wv tm n m [] = True:=
 fun tm n m=>nd (wv.eq_1 tm n m)
theorem Yx : ∀ (tm:Tm) (n m k:Nat) (d:D) (r:List (Nat×D)),
 wv tm n m ((k,d)::r)=(Wk (D.fg n m (tm.get k)) d∧wv tm n m r):=
 fun tm n m k d r=>nd (wv.eq_2 tm n m k d r)
theorem TP : ∀ (n m o off:Nat),D.fg n m (D.ptr o off)=if o<n then D.ptr o off else D.junk:=
 fun n m o off=>nd (D.fg.eq_1 n m o off)
theorem TQ : ∀ (n m:Nat) (row:List D) (off:Nat),D.fg n m (D.dv row off)=D.dv (D.gn n m row) off:=
 fun n m row off=>nd (D.fg.eq_2 n m row off)
theorem TR : ∀ (n m:Nat) (g:Tag) (z:Nat) (rows:List (List D)),
 D.fg n m (D.slice g z rows)=D.slice (Tag.fg m g) z (D.ku n m rows):=
 fun n m g z rows=>nd (D.fg.eq_3 n m g z rows)
theorem TS : ∀ (n m:Nat) (cs:List D),D.fg n m (D.agg cs)=D.agg (D.gn n m cs):=
 fun n m cs=>nd (D.fg.eq_4 n m cs)
theorem TT : ∀ (n m:Nat) (ds:List D),D.fg n m (D.tuple ds)=D.tuple (D.gn n m ds):=
 fun n m ds=>nd (D.fg.eq_5 n m ds)
theorem TU : ∀ (n m:Nat),D.fg n m D.junk=D.junk:=
 fun n m=>nd (D.fg.eq_6 n m)
theorem TV : ∀ (n m:Nat) (k:IntKind) (fq:Int),D.fg n m (D.int k fq)=D.int k fq:=
 fun n m k fq=>nd (D.fg.eq_7 n m k fq)
theorem TW : ∀ (n m:Nat) (b:Bool),D.fg n m (D.bool b)=D.bool b:=
 fun n m b=>nd (D.fg.eq_8 n m b)
theorem TX : ∀ (n m:Nat) (l:List UInt8),D.fg n m (D.str l)=D.str l:=
 fun n m l=>nd (D.fg.eq_9 n m l)
theorem Q2 : ∀ (n m:Nat),D.fg n m D.dR=D.dR:=
 fun n m=>nd (D.fg.eq_10 n m)
theorem Q3 : ∀ (n m:Nat),D.gn n m [] = []:=
 fun n m=>nd (D.gn.eq_1 n m)
theorem Q4 : ∀ (n m:Nat) (d:D) (r:List D),D.gn n m (d::r)=D.fg n m d::D.gn n m r:=
 fun n m d r=>nd (D.gn.eq_2 n m d r)
theorem Q5 : ∀ (n m:Nat),D.ku n m [] = []:=
 fun n m=>nd (D.ku.eq_1 n m)
theorem Q6 : ∀ (n m:Nat) (d:List D) (r:List (List D)),D.ku n m (d::r)=D.gn n m d::D.ku n m r:=
 fun n m d r=>nd (D.ku.eq_2 n m d r)
theorem Oz : ∀ (m t:Nat) (y:Bool),Tag.fg m (Tag.tok t y)=if t<m then Tag.tok t y else Tag.shared:=
 fun _ _ _=>nd rfl
theorem OA : ∀ (s:St) (n m:Nat),
 s.cut n m = {ah:=List.map (D.gn n m) (List.take n s.ah),aw:=List.take m s.aw}:=
 fun s n m=>nd (St.cut.eq_1 s n m)
theorem TY : ∀ (d:D),aV [d] = d:=
 fun d=>nd (aV.eq_1 d)
theorem T1 (size bytes t:Nat) (rows:List (List D)) (g:Tag) (r:List D) (s:St):ik size bytes (.slice (.tok t) size rows) (.slice g size [r]) s =
 if(rows.length+1)*(bytes+1)≤bC∧s.aw[t]? = some (some rows.length)then some (.slice (.tok t) size (rows++ [r]),⟨s.ah,s.aw.set t (some (rows.length+1))⟩)else none:=by
 simp only[ik,List.length_singleton]
 by_cases h1:(rows.length+1)*(bytes+1)≤bC<;>by_cases h2:s.aw[t]? = some (some rows.length)<;>simp[h1,h2]
theorem nR {size bytes t:Nat} {rows new:List (List D)} {g:Tag} {s:St} (h1:(rows.length+new.length)*(bytes+1)≤bC) (h2:s.aw[t]? = some (some rows.length)) :
 ik size bytes (.slice (.tok t) size rows) (.slice g size new) s=some (.slice (.tok t) size (rows++new),⟨s.ah,s.aw.set t (some (rows.length+new.length))⟩):=by
 cases new with
 | nil=>
  have:s.aw.set t (some rows.length)=s.aw:=by
   apply List.ext_getElem?
   intro i
   rw[List.getElem?_set]
   split
   ·rename_i hi;subst hi;rw[h2,if_pos (List.getElem?_eq_some_iff.1 h2).1]
   ·rfl
  simp only[List.length_nil,Nat.add_zero]at h1
  simp[ik,h1,this]
 |cons x l=>
  simp only[ik,h1,h2]
  simp
theorem Q7 (size bytes z:Nat) (g:Tag) (r:List D) (s:St):ik size bytes (.slice .full z []) (.slice g size [r]) s =
 if bytes+1≤bC then some (.slice (.tok s.aw.length) size [r],⟨s.ah,s.aw++ [some 1]⟩)else none:=by
 simp[ik]
theorem Yy {P:Program} {B:fR} {nt:Nat} (ac:AC) (Q:Exit→Tm→St→Prop) (tm:Tm) (s:St):yU P B nt ac Q .normal tm s=Q .normal tm s:=nd rfl
theorem Yz {P:Program} {B:fR} {nt:Nat} (ac:AC) (Q:Exit→Tm→St→Prop) (tm:Tm) (s:St):yU P B nt ac Q .ret tm s=Q .ret tm s:=nd rfl
theorem YA {P:Program} {B:fR} {nt:Nat} (ac:AC) (Q:Exit→Tm→St→Prop) (tm:Tm) (s:St) (i:Nat):yU P B nt ac Q (.exit i) tm s=Q (.exit i) tm s:=nd rfl
theorem YB (m:Nat):Tag.fg m .full = .full:=nd rfl
theorem Q8 (m:Nat):Tag.fg m .shared = .shared:=nd rfl
theorem ae1 {P:Program} (K:Tm→St→Prop) (tm:Tm) (s:St):km P [] K tm s=K tm s:=nd rfl
theorem s_op {P:Program} (dst:Option Nat) (o:AO) (r:List AI) (K:Tm→St→Prop) (tm:Tm) (s:St) :
 km P (.op dst none o::r) K tm s=(match aJ o tm s with|some (d,s')=>km P r K (tm.put dst d) s'|none=>False):=nd rfl
def KJ (P:Program) (r:List AI) (K:Tm→St→Prop) (tm:Tm) (dst:Option Nat) (d:D) (s:St):Prop:=km P r K (tm.put dst d) s
theorem ajf {P:Program} (r:List AI) (K:Tm→St→Prop) (tm:Tm) (dst:Option Nat) (d:D) (s:St):KJ P r K tm dst d s=km P r K (tm.put dst d) s:=nd rfl
theorem s_call {P:Program} (dst:Option Nat) (f:Nat) (xs:List X) (r:List AI) (K:Tm→St→Prop) (tm:Tm) (s:St) :
 km P (.call dst none f xs::r) K tm s=CL false P f (xs.map (·.ev tm)) s (KJ P r K tm dst):=nd rfl
def NJ (P:Program) (dst:Option Nat) (neg:Bool) (x:D) (r:List AI) (K:Tm→St→Prop) (tm:Tm) (s:St):Prop:=
 match x with
 | .slice _ _ rows=>∀ b:Bool,(rows≠ []→b=false)→km P r K (tm.put dst (.bool (if neg then !b else b))) s
 |_=>False
theorem aa7 {P:Program} (dst:Option Nat) (neg:Bool) (x:X) (r:List AI) (K:Tm→St→Prop) (tm:Tm) (s:St) :
 km P (.nil dst none neg x::r) K tm s=NJ P dst neg (x.ev tm) r K tm s:=nd rfl
theorem YC {P:Program} (dst:Option Nat) (neg:Bool) (g:Tag) (z:Nat) (d:List D) (l:List (List D)) (r:List AI) (K:Tm→St→Prop) (tm:Tm) (s:St) :
 NJ P dst neg (.slice g z (d::l)) r K tm s=km P r K (tm.put dst (.bool neg)) s:=by
 simp only[NJ,ne_eq,reduceCtorEq,not_false_eq_true,true_imp_iff,eq_iff_iff]
 refine⟨fun h=>by have:=h false rfl;cases neg<;>exact this,fun h b hb=>?_⟩
 subst hb;cases neg<;>exact h
theorem T2 {P:Program} {dst:Option Nat} {neg:Bool} {g:Tag} {z:Nat} {l:List (List D)} {r:List AI} {K:Tm→St→Prop} {tm:Tm} {s:St}
 (h1:l = []→km P r K (tm.put dst (.bool (!neg))) s) (h2:km P r K (tm.put dst (.bool neg)) s):NJ P dst neg (.slice g z l) r K tm s:=by
 intro b hb
 cases b with
 |false=>cases neg<;>exact h2
 |true=>
  have:l = []:=Decidable.byContradiction fun h=>by cases hb h
  cases neg<;>exact h1 this
theorem ae3 {P:Program} (dst:Option Nat) (t:Nat) (w:Bool) (o:AO) (r:List AI) (K:Tm→St→Prop) (tm:Tm) (s:St) :
 km P (.op dst (some (t,w)) o::r) K tm s = @GB (tm.get t) w ⟨(km P (.op dst none o::r) K tm s),(km P r K (tm.put dst (.tuple [])) s)⟩:=nd rfl
def CV (P:Program) (x:D) (ae4:List D) (s:St) (K:D→St→Prop):Prop:=
 match x with
 | .fZ f nJ=>enters P f=true∧CL false P f (ae4++nJ) s K
 |_=>False
theorem YD {P:Program} (dst:Option Nat) (t:Nat) (xs:List X) (r:List AI) (K:Tm→St→Prop) (tm:Tm) (s:St) :
 km P (.jr dst none t xs::r) K tm s=CV P (tm.get t) (xs.map (·.ev tm)) s (KJ P r K tm dst):=nd rfl
theorem CV.use {P:Program} {f:Nat} {nJ ae4:List D} {s s':St} {d:D} {K:D→St→Prop} (he:enters P f=true) (h:aF P f (ae4++nJ) s d s') (k:K d s'):CV P (.fZ f nJ) ae4 s K:=⟨he,CU h k⟩
theorem T3 {P:Program} (dst:Option Nat) (t:Nat) (w:Bool) (u:Nat) (xs:List X) (r:List AI) (K:Tm→St→Prop) (tm:Tm) (s:St) :
 km P (.jr dst (some (t,w)) u xs::r) K tm s = @GB (tm.get t) w ⟨(km P (.jr dst none u xs::r) K tm s),(km P r K (tm.put dst (.tuple [])) s)⟩:=nd rfl
theorem YE {P:Program} (dst:Option Nat) (t:Nat) (w:Bool) (f:Nat) (xs:List X) (r:List AI) (K:Tm→St→Prop) (tm:Tm) (s:St) :
 km P (.call dst (some (t,w)) f xs::r) K tm s = @GB (tm.get t) w ⟨(km P (.call dst none f xs::r) K tm s),(km P r K (tm.put dst (.tuple [])) s)⟩:=nd rfl
theorem aa9 {P:Program} (dst:Option Nat) (t:Nat) (w:Bool) (neg:Bool) (x:X) (r:List AI) (K:Tm→St→Prop) (tm:Tm) (s:St) :
 km P (.nil dst (some (t,w)) neg x::r) K tm s = @GB (tm.get t) w ⟨(km P (.nil dst none neg x::r) K tm s),(km P r K (tm.put dst (.tuple [])) s)⟩:=nd rfl
theorem ajg (b:Bool) (A C:Prop) : @GB (.bool b) true ⟨A,C⟩ = @CB (.bool b) ⟨A,C⟩:=nd rfl
theorem ajh (b:Bool) (A C:Prop) : @GB (.bool b) false ⟨A,C⟩ = @CB (.bool b) ⟨C,A⟩:=by
 cases b<;>simp[GB,CB,GJ,uN]
theorem aji (l:List D) (w:Bool) (A C:Prop) : @GB (.tuple l) w ⟨A,C⟩=C:=nd rfl
theorem ae5 {P:Program} {K:Tm→St→Prop} (bD:List St) (tm:Tm) (s:St):gf P K [] bD tm s=K tm s:=nd rfl
def OJ (P:Program) (o:AO) (dst:Option Nat) (b:Nat) (r:List (AI×Nat)) (K:Tm→St→Prop) (bD:List St) (tm:Tm) (s:St):Bool→Prop
 |true=>match aJ o tm s with|some (d,s')=>gf P K r (s::bD) (tm.put dst d) s'|none=>False
 |false=>match aJ o tm s with|some (d,_)=>n9 (.op dst none o) tm d (bD.take b)∧gf P K r bD (tm.put dst d) s|none=>False
theorem ajk {P:Program} {K:Tm→St→Prop} (dst:Option Nat) (o:AO) (b:Nat) (r:List (AI×Nat)) (bD:List St) (tm:Tm) (s:St) :
 gf P K ((.op dst none o,b)::r) bD tm s=OJ P o dst b r K bD tm s o.core:=by
 simp only[gf,mY]
 cases o.core<;>rfl
theorem ajl {P:Program} (o:AO) (dst:Option Nat) (b:Nat) (r:List (AI×Nat)) (K:Tm→St→Prop) (bD:List St) (tm:Tm) (s:St) :
 OJ P o dst b r K bD tm s true=match aJ o tm s with|some (d,s')=>gf P K r (s::bD) (tm.put dst d) s'|none=>False:=nd rfl
theorem ajm {P:Program} (o:AO) (dst:Option Nat) (b:Nat) (r:List (AI×Nat)) (K:Tm→St→Prop) (bD:List St) (tm:Tm) (s:St) :
 OJ P o dst b r K bD tm s false=match aJ o tm s with|some (d,_)=>n9 (.op dst none o) tm d (bD.take b)∧gf P K r bD (tm.put dst d) s|none=>False:=nd rfl
theorem ae6 {P:Program} {K:Tm→St→Prop} (dst:Option Nat) (t:Nat) (w:Bool) (o:AO) (b:Nat) (r:List (AI×Nat)) (bD:List St) (tm:Tm) (s:St) :
 gf P K ((.op dst (some (t,w)) o,b)::r) bD tm s = @GB (tm.get t) w ⟨(gf P K ((.op dst none o,b)::r) bD tm s),(gf P K r (if o.core then s::bD else bD) (tm.put dst (.tuple [])) s)⟩:=by
 simp only[GB,gf,mY]
 cases o.core<;>rfl
def KG (P:Program) (K:Tm→St→Prop) (r:List (AI×Nat)) (bD:List St) (tm:Tm) (dst:Option Nat) (d:D) (s:St):Prop:=gf P K r bD (tm.put dst d) s
theorem ajn {P:Program} (K:Tm→St→Prop) (r:List (AI×Nat)) (bD:List St) (tm:Tm) (dst:Option Nat) (d:D) (s:St):KG P K r bD tm dst d s=gf P K r bD (tm.put dst d) s:=nd rfl
theorem g_call {P:Program} {K:Tm→St→Prop} (dst:Option Nat) (f:Nat) (xs:List X) (b:Nat) (r:List (AI×Nat)) (bD:List St) (tm:Tm) (s:St) :
 gf P K ((.call dst none f xs,b)::r) bD tm s=CL true P f (xs.map (·.ev tm)) s (KG P K r (s::bD) tm dst):=nd rfl
theorem YF {P:Program} {K:Tm→St→Prop} (dst:Option Nat) (t:Nat) (w:Bool) (f:Nat) (xs:List X) (b:Nat) (r:List (AI×Nat)) (bD:List St) (tm:Tm) (s:St) :
 gf P K ((.call dst (some (t,w)) f xs,b)::r) bD tm s = @GB (tm.get t) w ⟨(gf P K ((.call dst none f xs,b)::r) bD tm s),(gf P K r (s::bD) (tm.put dst (.tuple [])) s)⟩:=nd rfl
class Ok (p:Prop):Prop where
 out:p
instance:Ok True:=⟨trivial⟩
instance {p q:Prop} [Ok p] [Ok q] : Ok (p∧q):=⟨⟨Ok.out,Ok.out⟩⟩
instance {α:Type} (a:α):Ok (a=a):=⟨rfl⟩
instance (d:D):Ok (Wk d .junk):=⟨Wk.junk d⟩
instance {l l':List D} [Ok (jq l l')] : Ok (Wk (.tuple l) (.tuple l')):=⟨Wk.tuple Ok.out⟩
instance {l l':List D} [Ok (jq l l')] : Ok (Wk (.agg l) (.agg l')):=⟨Wk.agg Ok.out⟩
instance {g:Tag} {z:Nat} {l l':List (List D)} [Ok (gx l l')] : Ok (Wk (.slice g z l) (.slice g z l')):=⟨Wk.rows Ok.out⟩
instance {g:Tag} {z:Nat} {l l':List (List D)} [Ok (gx l l')] : Ok (Wk (.slice g z l) (.slice .shared z l')):=⟨Wk.slice Ok.out⟩
instance (z z':Nat):Ok (Wk (.slice .full z []) (.slice .full z' [])):=⟨Wk.ai5 z z'⟩
instance (g:Tag) (z z':Nat):Ok (Wk (.slice g z []) (.slice .shared z' [])):=⟨Wk.nil g z z'⟩
instance (d:D):Ok (Wk d d):=⟨Wk.refl d⟩
instance:Ok (jq [] []):=⟨.nil⟩
instance {d d':D} {l l':List D} [Ok (Wk d d')] [Ok (jq l l')] : Ok (jq (d::l) (d'::l')):=⟨.cons Ok.out Ok.out⟩
instance (l:List D):Ok (jq l l):=⟨jq.refl l⟩
instance:Ok (gx [] []):=⟨.nil⟩
instance {d d':List D} {l l':List (List D)} [Ok (jq d d')] [Ok (gx l l')] : Ok (gx (d::l) (d'::l')):=⟨.cons Ok.out Ok.out⟩
instance {a a' b b':List (List D)} [Ok (gx a a')] [Ok (gx b b')] : Ok (gx (a++b) (a'++b')):=⟨gx.append Ok.out Ok.out⟩
instance (l:List (List D)):Ok (gx l l):=⟨gx.refl l⟩
theorem bs:(∀ b,(true ||b)=true)∧(∀ b,(false ||b)=b)∧(∀ b,(b ||true)=true)∧(∀ b,(b ||false)=b)∧(∀ b,(true && b)=b)∧(∀ b,(false && b)=false)∧(∀ b,(b && true)=b)∧(∀ b,(b && false)=false)∧
 (!true)=false∧(!false)=true∧(∀ b,(!!b)=b)∧((false=true)=False)∧(∀ (α β:Type) (a:α) (f:α→Option β),(some a).bind f=f a)∧
 (∀ (α β γ:Type) (x:Option α) (f:α→Option β) (g:β→Option γ),(x.bind f).bind g=x.bind fun y=>(f y).bind g):=
 ⟨Bool.true_or,Bool.false_or,Bool.or_true,Bool.or_false,Bool.true_and,Bool.false_and,Bool.and_true,Bool.and_false,rfl,rfl,Bool.not_not,by simp,fun _ _ _ _=>rfl,fun _ _ _ x f g=>Option.bind_assoc x f g⟩
attribute [go_sem] aa4 ajc ajd ae1 s_op ajf s_call aa7 YC ae3 YE aa9 ajg ajh aji ae5 ajk ajl ajm ae6 ajn g_call YF AO.core AI.kind AO.kind gG
attribute [go_sem] NV NW IZ I0 YD T3 NR NS NT NU I1 I2 I3 I4 QT QU NY Ye Tw
attribute [go_sem] NQ I5 NN NO NP I6 I7 I8 QV QW Yd QF X9 Ts Ya Tt Yb Tv QE Yc Tx Nn Ty
attribute [go_sem] QK QL QM QN QO QP QQ QR QS Np Nq Nr Ns Nt Nu Nv Nw Nx Ny Nz NA NB NC ND NF NG NH NK NL NM TI TJ NZ N0 N1 N2 N3 N4 QX QY N5 N6 N7 TK TL N8 QZ Q1 I9 Ja Jb Jc TN TO N9 Oa Oc Od Oe Og Oh Oi Oj KR KS Ol Om On Oo Yo Yp Oq Ot Ou KT KU Yq Yr Ys Yt KV KW KX KY KZ K0 K1 K3 K4 K5 K6 K7 K8 K9 Ov Ow Ox Oy Yu Yv La Lb Yw Yx TP TQ TR TS TT TU TV TW TX Q2 Q3 Q4 Q5 Q6 Oz OA TY T1 Q7 YB Q8 Yy Yz YA
attribute [go_sem] List.map_cons List.map_nil List.getElem?_cons_zero List.getElem?_cons_succ List.length_cons List.length_nil List.set_cons_zero List.set_cons_succ List.take_succ_cons List.take_zero List.take_nil List.drop_succ_cons List.drop_zero List.drop_nil List.cons_append List.nil_append List.append_nil Nat.zero_add Nat.add_zero Option.map_some Option.map_none
attribute [go_sem] Bool.not_false Bool.not_true List.length_map List.getElem?_map Int.toNat_natCast Int.natCast_nonneg Int.toNat_zero and_self and_true true_and
attribute [go_sem_proc ↓] reduceIte
attribute [go_sem_proc] Int.reduceLE reduceCtorEq Nat.reduceEqDiff Nat.reduceLeDiff Nat.reduceAdd Nat.reduceMul Nat.reduceSub Nat.reduceLT
theorem bo {b:Bool} {A C:Prop} (h1:b=true→A) (h:b=true:=by assumption) : @CB (.bool b) ⟨A,C⟩:=aa5 h h1
theorem bp {b:Bool} {A C:Prop} (h1:b=false→C) (h:b=false:=by assumption) : @CB (.bool b) ⟨A,C⟩:=aa6 h h1
theorem bq {b:Bool} {A C:Prop} (h1:b=true→A) (h2:b=false→C) : @CB (.bool b) ⟨A,C⟩:=⟨h1,h2⟩
theorem iY {a b:Prop} (x:a) (y:b):a∧b:=⟨x,y⟩
theorem bI {α:Type _} (a b:α):(some a=some b)=(a=b):=Option.some.injEq a b
theorem bJ {α:Sort _} {p:α→Prop} {a:α} : (∃ x,a=x∧p x)↔p a:=exists_eq_left'
theorem CY {n m:Nat} (h:Nat.ble n m=true):n≤m:=Nat.le_of_ble_eq_true h
theorem aD {n m:Nat} {res:List (Nat×Option (Bool×Nat))} {d:D} {s':St} {e:Exit} {tm:Tm} {s:St} {Q:Exit→Tm→St→Prop} (hQ:pM n m res d s'=Q) (h : ∃ l,aU res tm s=some l∧Wk ((aV l).fg n m) d∧gx (s.cut n m).ah s'.ah∧(s.cut n m).aw=s'.aw) (he:e = .ret∨e = .normal:=by first|exact .inl rfl|exact .inr rfl):Q e tm s:=by cases he with|inl x=>cases x;exact aeZ hQ h|inr x=>cases x;exact ae0 hQ h
theorem cv {p:Prop} (h:p:=by repeat' (first|exact Ok.out|with_reducible refine iY ?_ ?_|(simp;done))):p:=h
theorem bS {p:Prop} (h:p:=by repeat' (first|exact Ok.out|with_reducible refine iY ?_ ?_)):p:=h
theorem fS {p:Prop} (h:p:=by(try cases h);simp only[aU,aV,bI,bJ,go_sem,hD,hY,hZ,gA];repeat' (first|exact Ok.out|with_reducible refine iY ?_ ?_|(simp;done))):p:=h
theorem bc {p:Prop} (h:p:=by simp only[aU,aV,bI,bJ,go_sem,hD,hY,hZ,gA];repeat' (first|exact Ok.out|with_reducible refine iY ?_ ?_|(simp;done))):p:=h
theorem lX_ {p:Prop} (h:p:=by simp only[go_sem,hD,hY,hZ,gA];repeat' (first|exact Ok.out|with_reducible refine iY ?_ ?_)):p:=h
theorem e8 {P:Program} {B:fR} {nt:Nat} {a:AC} {Q:Exit→Tm→St→Prop} {tm br:Tm} {s:St} {gh:List (List D)} (n m:Nat) (h:bl P B nt a Q br ⟨gh,(s.cut n m).aw⟩) (hn:B.s.ah.length≤n:=by rw[hB];exact CY rfl) (hm:B.s.aw.length≤m:=by rw[hB];exact CY rfl) (ht:wv tm n m br:=by exact lX_) (ho:gx (s.cut n m).ah gh:=by exact lX_):bl P B nt a Q tm s:=bl.re br gh n m hn hm ht ho h
theorem eJ {P:Program} {B:fR} {nt:Nat} {a:AC} {Q:Exit→Tm→St→Prop} {tm br:Tm} {s:St} {gh:List (List D)} (n m:Nat) (ht:wv tm n m br) (ho:gx (s.cut n m).ah gh) (h:bl P B nt a Q br ⟨gh,(s.cut n m).aw⟩) (hn:B.s.ah.length≤n:=by rw[hB];exact CY rfl) (hm:B.s.aw.length≤m:=by rw[hB];exact CY rfl):bl P B nt a Q tm s:=bl.re br gh n m hn hm ht ho h
theorem bQ:0<1∧0<1∧0<1∧0<1:=⟨Nat.zero_lt_one,Nat.zero_lt_one,Nat.zero_lt_one,Nat.zero_lt_one⟩
end Go.Abs
namespace Go.Abs
mutual
theorem OB (n m:Nat) : ∀ d,D.ok 0 0 d=true→D.fg n m d=d
 | .junk,_=>by simp[D.fg]
 | .int k n,_=>by simp[D.fg]
 | .bool b,_=>by simp[D.fg]
 | .str l,_=>by simp[D.fg]
 | .dR,_=>by simp[D.fg]
 | .val v,_=>by simp[D.fg]
 | .ej z,_=>by simp[D.fg]
 | .fj T o,h=>by simp[D.ok]at h
 | .fN o,h=>by simp[D.ok]at h
 | .fZ f cs,h=>by
  simp only[D.ok]at h
  simp only[D.fg,gY n m cs h]
 | .ptr o f,h=>by simp[D.ok]at h
 | .dv r f,h=>by
  simp only[D.ok]at h
  simp only[D.fg,gY n m r h]
 | .slice g z rows,h=>by
  simp only[D.ok,Bool.and_eq_true]at h
  simp only[D.fg,Jd n m rows h.2]
  cases g with
  |tok t y=>simp[Tag.ok]at h
  |full=>rfl
  |shared=>rfl
 | .agg cs,h=>by
  simp only[D.ok]at h
  simp only[D.fg,gY n m cs h]
 | .tuple cs,h=>by
  simp only[D.ok]at h
  simp only[D.fg,gY n m cs h]
theorem gY (n m:Nat) : ∀ l,D.bK 0 0 l=true→D.gn n m l=l
 | [],_=>by simp[D.gn]
 |d::r,h=>by
  simp only[D.bK,Bool.and_eq_true]at h
  simp only[D.gn,OB n m d h.1,gY n m r h.2]
theorem Jd (n m:Nat) : ∀ l,D.gQ 0 0 l=true→D.ku n m l=l
 | [],_=>by simp[D.ku]
 |d::r,h=>by
  simp only[D.gQ,Bool.and_eq_true]at h
  simp only[D.ku,gY n m d h.1,Jd n m r h.2]
end
theorem gR {α:Type} {f:α→List D} (h : ∀ x,D.bK 0 0 (f x)=true) (l:List α):D.gQ 0 0 (l.map f)=true:=by
 simp[D9,h]
theorem lR {α:Type} {f:α→List D} (h : ∀ x,D.bK 0 0 (f x)=true) (n m:Nat) (l:List α):D.ku n m (l.map f)=l.map f:=Jd n m _ (gR h l)
theorem LD (n m:Nat) : ∀ a b,D.ku n m (a++b)=D.ku n m a++D.ku n m b
 | [],b=>by simp[D.ku]
 |x::a,b=>by simp[D.ku,LD n m a b]
abbrev aG:=List UInt8
structure pZ where
 kind:Int
 text:aG
 n:Int
 pos:Int
deriving DecidableEq
structure Ex where
 op:Int
 n:Int
 name:aG
 kids:List Ex
structure Ar where
 ref:Bool
 name:aG
 x:Ex
structure Sm where
 id:Int
 kind:Int
 labels:List aG
 name:aG
 proc:aG
 x:Ex
 has:Bool
 args:List Ar
 aZ:List Sm
 aR:List Sm
structure Pm where
 name:aG
 ref:Bool
structure Pc where
 name:aG
 params:List Pm
 vars:List aG
 body:List Sm
 fin:List aG
structure Pg where
 globals:List aG
 procs:List Pc
def rh:Ex:=⟨0,0,[],[]⟩
def ar0:Ar:=⟨false,[],rh⟩
def Je:Sm:=⟨0,0,[],[],[],rh,false,[],[],[]⟩
def pg0:Pg:=⟨[],[]⟩
def encStr (s:aG):List D:= [.str s]
def jO (t:pZ):List D:= [.int .i64 t.kind, .str t.text, .int .i64 t.n, .int .i64 t.pos]
def sl (z:Nat) (rows:List (List D)):D:= .slice .shared z rows
mutual
def cd:Ex→List D
 |⟨op,n,name,kids⟩=> [.int .i64 op, .int .i64 n, .str name, .slice .shared 4 (vr kids)]
def vr:List Ex→List (List D)
 | []=> []
 |x::l=>cd x::vr l
end
theorem Gx : ∀ l,vr l=l.map cd
 | []=>by simp[vr]
 |x::l=>by simp[vr,Gx l]
theorem ja (x:Ex):cd x = [.int .i64 x.op, .int .i64 x.n, .str x.name, .slice .shared 4 (x.kids.map cd)]:=by
 cases x;simp[cd,Gx]
def ey (a:Ar):List D:= [.bool a.ref, .str a.name, .int .i64 a.x.op, .int .i64 a.x.n, .str a.x.name, .slice .shared 4 (a.x.kids.map cd)]
mutual
def bb:Sm→List D
 |⟨id,kind,labels,name,proc,x,has,args,aZ,aR⟩=> [.int .i64 id, .int .i64 kind, .slice .shared 1 (labels.map encStr), .str name, .str proc,
  .int .i64 x.op, .int .i64 x.n, .str x.name, .slice .shared 4 (x.kids.map cd), .bool has, .slice .shared 6 (args.map ey), .slice .shared 13 (ti aZ), .slice .shared 13 (ti aR)]
def ti:List Sm→List (List D)
 | []=> []
 |x::l=>bb x::ti l
end
theorem Gy : ∀ l,ti l=l.map bb
 | []=>by simp[ti]
 |x::l=>by simp[ti,Gy l]
theorem ek (s:Sm):bb s = [.int .i64 s.id, .int .i64 s.kind, .slice .shared 1 (s.labels.map encStr), .str s.name, .str s.proc,
 .int .i64 s.x.op, .int .i64 s.x.n, .str s.x.name, .slice .shared 4 (s.x.kids.map cd), .bool s.has, .slice .shared 6 (s.args.map ey), .slice .shared 13 (s.aZ.map bb), .slice .shared 13 (s.aR.map bb)]:=by
 cases s;simp[bb,Gy]
def iD (p:Pm):List D:= [.str p.name, .bool p.ref]
def cj (p:Pc):List D:= [.str p.name, .slice .shared 2 (p.params.map iD), .slice .shared 1 (p.vars.map encStr), .slice .shared 13 (p.body.map bb), .slice .shared 1 (p.fin.map encStr)]
def cr (p:Pg):List D:= [.slice .shared 1 (p.globals.map encStr), .slice .shared 5 (p.procs.map cj)]
theorem abd (x:pZ):(jO x).length=4:=nd rfl
theorem YG (x:pZ):List.take 4 (jO x)=jO x:=nd rfl
theorem YH (x:pZ):List.drop 4 (jO x) = []:=nd rfl
theorem Q9 (x:pZ):(jO x)[0]? = some (.int .i64 x.kind):=nd rfl
theorem Ra (x:pZ):(jO x)[1]? = some (.str x.text):=nd rfl
theorem Rb (x:pZ):(jO x)[2]? = some (.int .i64 x.n):=nd rfl
theorem Rc (x:pZ):(jO x)[3]? = some (.int .i64 x.pos):=nd rfl
theorem ae7 (Ef:Int) (Ww:aG) (n_:Int) (abf:Int):jO ⟨Ef,Ww,n_,abf⟩ = [.int .i64 Ef, .str Ww, .int .i64 n_, .int .i64 abf]:=by simp only[jO]
theorem Wx (x:Ex):(cd x).length=4:=by simp only[ja];rfl
theorem abg (x:Ex):List.take 4 (cd x)=cd x:=by simp only[ja];rfl
theorem abh (x:Ex):List.drop 4 (cd x) = []:=by simp only[ja];rfl
theorem T4 (x:Ex):(cd x)[0]? = some (.int .i64 x.op):=by simp only[ja];rfl
theorem T5 (x:Ex):(cd x)[1]? = some (.int .i64 x.n):=by simp only[ja];rfl
theorem T6 (x:Ex):(cd x)[2]? = some (.str x.name):=by simp only[ja];rfl
theorem T7 (x:Ex):(cd x)[3]? = some (.slice .shared 4 (x.kids.map cd)):=by simp only[ja];rfl
theorem ajo (op_:Int) (n_:Int) (oI:aG) (Wy:List Ex):cd ⟨op_,n_,oI,Wy⟩ = [.int .i64 op_, .int .i64 n_, .str oI, .slice .shared 4 (Wy.map cd)]:=by simp only[ja]
theorem ae8 (x:Ar):(ey x).length=6:=nd rfl
theorem abi (x:Ar):List.take 6 (ey x)=ey x:=nd rfl
theorem abj (x:Ar):List.drop 6 (ey x) = []:=nd rfl
theorem T8 (x:Ar):(ey x)[0]? = some (.bool x.ref):=nd rfl
theorem T9 (x:Ar):(ey x)[1]? = some (.str x.name):=nd rfl
theorem Ua (x:Ar):(ey x)[2]? = some (.int .i64 x.x.op):=nd rfl
theorem Ub (x:Ar):(ey x)[3]? = some (.int .i64 x.x.n):=nd rfl
theorem Uc (x:Ar):(ey x)[4]? = some (.str x.x.name):=nd rfl
theorem Ud (x:Ar):(ey x)[5]? = some (.slice .shared 4 (x.x.kids.map cd)):=nd rfl
theorem Ue (x:Ar):List.take 4 (List.drop 2 (ey x))=cd x.x:=by simp only[ey,ja];rfl
theorem ajp (Jf:Bool) (oI:aG) (x_:Ex):ey ⟨Jf,oI,x_⟩ = [.bool Jf, .str oI, .int .i64 x_.op, .int .i64 x_.n, .str x_.name, .slice .shared 4 (x_.kids.map cd)]:=by simp only[ey]
theorem HY (x:Sm):(bb x).length=13:=by simp only[ek];rfl
theorem abk (x:Sm):List.take 13 (bb x)=bb x:=by simp only[ek];rfl
theorem abl (x:Sm):List.drop 13 (bb x) = []:=by simp only[ek];rfl
theorem Uf (x:Sm):(bb x)[0]? = some (.int .i64 x.id):=by simp only[ek];rfl
theorem Ug (x:Sm):(bb x)[1]? = some (.int .i64 x.kind):=by simp only[ek];rfl
theorem Uh (x:Sm):(bb x)[2]? = some (.slice .shared 1 (x.labels.map encStr)):=by simp only[ek];rfl
theorem Ui (x:Sm):(bb x)[3]? = some (.str x.name):=by simp only[ek];rfl
theorem Uj (x:Sm):(bb x)[4]? = some (.str x.proc):=by simp only[ek];rfl
theorem Uk (x:Sm):(bb x)[5]? = some (.int .i64 x.x.op):=by simp only[ek];rfl
theorem Ul (x:Sm):(bb x)[6]? = some (.int .i64 x.x.n):=by simp only[ek];rfl
theorem Um (x:Sm):(bb x)[7]? = some (.str x.x.name):=by simp only[ek];rfl
theorem Un (x:Sm):(bb x)[8]? = some (.slice .shared 4 (x.x.kids.map cd)):=by simp only[ek];rfl
theorem Uo (x:Sm):(bb x)[9]? = some (.bool x.has):=by simp only[ek];rfl
theorem Re (x:Sm):(bb x)[10]? = some (.slice .shared 6 (x.args.map ey)):=by simp only[ek];rfl
theorem Rf (x:Sm):(bb x)[11]? = some (.slice .shared 13 (x.aZ.map bb)):=by simp only[ek];rfl
theorem Rg (x:Sm):(bb x)[12]? = some (.slice .shared 13 (x.aR.map bb)):=by simp only[ek];rfl
theorem Uq (x:Sm):List.take 4 (List.drop 5 (bb x))=cd x.x:=by simp only[ek,ja];rfl
theorem ajq (id_:Int) (Ef:Int) (LF:List aG) (oI:aG) (Wz:aG) (x_:Ex) (abm:Bool) (WA:List Ar) (abn:List Sm) (abo:List Sm):bb ⟨id_,Ef,LF,oI,Wz,x_,abm,WA,abn,abo⟩ = [.int .i64 id_, .int .i64 Ef, .slice .shared 1 (LF.map encStr), .str oI, .str Wz, .int .i64 x_.op, .int .i64 x_.n, .str x_.name, .slice .shared 4 (x_.kids.map cd), .bool abm, .slice .shared 6 (WA.map ey), .slice .shared 13 (abn.map bb), .slice .shared 13 (abo.map bb)]:=by simp only[ek]
theorem ae9 (x:Pm):(iD x).length=2:=nd rfl
theorem abp (x:Pm):List.take 2 (iD x)=iD x:=nd rfl
theorem abq (x:Pm):List.drop 2 (iD x) = []:=nd rfl
theorem Ur (x:Pm):(iD x)[0]? = some (.str x.name):=nd rfl
theorem Us (x:Pm):(iD x)[1]? = some (.bool x.ref):=nd rfl
theorem ajr (oI:aG) (Jf:Bool):iD ⟨oI,Jf⟩ = [.str oI, .bool Jf]:=by simp only[iD]
theorem afa (x:Pc):(cj x).length=5:=nd rfl
theorem abr (x:Pc):List.take 5 (cj x)=cj x:=nd rfl
theorem abt (x:Pc):List.drop 5 (cj x) = []:=nd rfl
theorem Ut (x:Pc):(cj x)[0]? = some (.str x.name):=nd rfl
theorem Uu (x:Pc):(cj x)[1]? = some (.slice .shared 2 (x.params.map iD)):=nd rfl
theorem Uv (x:Pc):(cj x)[2]? = some (.slice .shared 1 (x.vars.map encStr)):=nd rfl
theorem Uw (x:Pc):(cj x)[3]? = some (.slice .shared 13 (x.body.map bb)):=nd rfl
theorem Ux (x:Pc):(cj x)[4]? = some (.slice .shared 1 (x.fin.map encStr)):=nd rfl
theorem ajs (oI:aG) (LG:List Pm) (WB:List aG) (WC:List Sm) (abu:List aG):cj ⟨oI,LG,WB,WC,abu⟩ = [.str oI, .slice .shared 2 (LG.map iD), .slice .shared 1 (WB.map encStr), .slice .shared 13 (WC.map bb), .slice .shared 1 (abu.map encStr)]:=by simp only[cj]
theorem afb (x:Pg):(cr x).length=2:=nd rfl
theorem abv (x:Pg):List.take 2 (cr x)=cr x:=nd rfl
theorem abw (x:Pg):List.drop 2 (cr x) = []:=nd rfl
theorem Uy (x:Pg):(cr x)[0]? = some (.slice .shared 1 (x.globals.map encStr)):=nd rfl
theorem Uz (x:Pg):(cr x)[1]? = some (.slice .shared 5 (x.procs.map cj)):=nd rfl
theorem ajt (Jg:List aG) (Rh:List Pc):cr ⟨Jg,Rh⟩ = [.slice .shared 1 (Jg.map encStr), .slice .shared 5 (Rh.map cj)]:=by simp only[cr]
attribute [go_sem] abd YG YH Q9 Ra Rb Rc ae7 Wx abg abh T4 T5 T6 T7 ajo ae8 abi abj T8 T9 Ua Ub Uc Ud Ue ajp HY abk abl Uf Ug Uh Ui Uj Uk Ul Um Un Uo Re Rf Rg Uq ajq ae9 abp abq Ur Us ajr afa abr abt Ut Uu Uv Uw Ux ajs afb abv abw Uy Uz ajt
theorem Eg (s:aG):D.bK 0 0 (encStr s)=true:=rfl
theorem WD (t:pZ):D.bK 0 0 (jO t)=true:=rfl
mutual
theorem lN : ∀ x,D.bK 0 0 (cd x)=true
 |⟨op,n,name,kids⟩=>by simp[cd,D.bK,D.ok,Tag.ok,WE kids]
theorem WE : ∀ l,D.gQ 0 0 (vr l)=true
 | []=>rfl
 |x::l=>by simp[vr,D.gQ,lN x,WE l]
end
theorem OC (a:Ar):D.bK 0 0 (ey a)=true:=by simp[ey,D.bK,D.ok,Tag.ok,gR lN]
mutual
theorem qv : ∀ x,D.bK 0 0 (bb x)=true
 |⟨id,kind,labels,name,proc,x,has,args,aZ,aR⟩=>by simp[bb,D.bK,D.ok,Tag.ok,OD aZ,OD aR,gR Eg,gR lN,gR OC]
theorem OD : ∀ l,D.gQ 0 0 (ti l)=true
 | []=>rfl
 |x::l=>by simp[ti,D.gQ,qv x,OD l]
end
theorem OE (p:Pm):D.bK 0 0 (iD p)=true:=rfl
theorem xh (p:Pc):D.bK 0 0 (cj p)=true:=by simp[cj,D.bK,D.ok,Tag.ok,gR OE,gR Eg,gR qv]
theorem jb (p:Pg):D.bK 0 0 (cr p)=true:=by simp[cr,D.bK,D.ok,Tag.ok,gR Eg,gR xh]
theorem abx (n m:Nat) (x:pZ):D.gn n m (jO x)=jO x:=gY n m _ (WD x)
theorem afc (n m:Nat) (x:Ex):D.gn n m (cd x)=cd x:=gY n m _ (lN x)
theorem afd (n m:Nat) (x:Ar):D.gn n m (ey x)=ey x:=gY n m _ (OC x)
theorem afe (n m:Nat) (x:Sm):D.gn n m (bb x)=bb x:=gY n m _ (qv x)
theorem aff (n m:Nat) (x:Pm):D.gn n m (iD x)=iD x:=gY n m _ (OE x)
theorem afg (n m:Nat) (x:Pc):D.gn n m (cj x)=cj x:=gY n m _ (xh x)
theorem afh (n m:Nat) (x:Pg):D.gn n m (cr x)=cr x:=gY n m _ (jb x)
attribute [go_sem] abx afc afd afe aff afg afh
theorem e9 (l:List aG):D.gQ 0 0 (l.map encStr)=true:=gR Eg l
theorem WG (l:List Ex):D.gQ 0 0 (l.map cd)=true:=gR lN l
theorem HZ (l:List Ar):D.gQ 0 0 (l.map ey)=true:=gR OC l
theorem px (l:List Sm):D.gQ 0 0 (l.map bb)=true:=gR qv l
theorem afi (l:List Pm):D.gQ 0 0 (l.map iD)=true:=gR OE l
theorem wx (l:List Pc):D.gQ 0 0 (l.map cj)=true:=gR xh l
theorem Ri (n m:Nat) (l:List aG):D.ku n m (l.map encStr)=l.map encStr:=lR Eg n m l
theorem aby (n m:Nat) (l:List pZ):D.ku n m (l.map jO)=l.map jO:=lR WD n m l
theorem afj (n m:Nat) (l:List Ex):D.ku n m (l.map cd)=l.map cd:=lR lN n m l
theorem afk (n m:Nat) (l:List Ar):D.ku n m (l.map ey)=l.map ey:=lR OC n m l
theorem afl (n m:Nat) (l:List Sm):D.ku n m (l.map bb)=l.map bb:=lR qv n m l
theorem afm (n m:Nat) (l:List Pm):D.ku n m (l.map iD)=l.map iD:=lR OE n m l
theorem WH (n m:Nat) (l:List Pc):D.ku n m (l.map cj)=l.map cj:=lR xh n m l
theorem abz (x:Ex) (r:List D):cd x++r = .int .i64 x.op:: .int .i64 x.n:: .str x.name:: .slice .shared 4 (x.kids.map cd)::r:=by rw[ja];rfl
theorem YI (d:D) (x:Ex):d::cd x = [d, .int .i64 x.op, .int .i64 x.n, .str x.name, .slice .shared 4 (x.kids.map cd)]:=by rw[ja]
attribute [go_sem] abz YI
theorem afn:((0:Nat):Int)=0:=nd rfl
theorem afo:((1:Nat):Int)=1:=nd rfl
theorem afp:((2:Nat):Int)=2:=nd rfl
attribute [go_sem] afn afo afp LD List.length_append List.map_append encStr rh ar0 Je pg0 Ri aby afj afk afl afm WH
theorem mx (a b:Nat):(if(b:Int) > (a:Int)then(b:Int)else(a:Int))=((max a b:Nat):Int):=by split<;>omega
theorem dU {x:Int} (h1 : -9223372036854775808≤x) (h2:x<9223372036854775808):IntKind.wrap .i64 x=x:=by
 rw[IntKind.wrap_i64];omega
@[go_sem] theorem aI {n:Nat} (h:n<4611686018427387904):IntKind.wrap .i64 ((n:Int)+1)=((n+1:Nat):Int):=by
 rw[dU]<;>omega
def inc (n:Nat):Option Nat:=if n<4611686018427387904 then some (n+1)else none
def aju (n:Int):Option Int:=if -4611686018427387904<n∧n<4611686018427387904 then some (n+1)else none
@[go_sem] theorem ah9 {n:Nat} (h:n+1<4611686018427387904):IntKind.wrap .i64 ((n:Int)+1)=((n+1:Nat):Int):=by
 rw[dU]<;>omega
@[go_sem] theorem aia {n:Nat} (h:n<4611686018427387904):IntKind.wrap .i64 ((n:Int)+2)=((n+2:Nat):Int):=by
 rw[dU]<;>omega
def abA {α:Type} (l:List α) (i:Nat):Option α:=if i<4611686018427387904 then l[i]? else none
def push {α:Type} (k:Nat) (l:List α) (x:α):Option (List α):=if(l.length+1)*k≤bC then some (l++ [x])else none
end Go.Abs
namespace Go.Abs
def CZ (os ts:List Nat) (tm:Tm):Tm→Prop
 | []=>True
 |(k,d)::r=>tm.get k=d.cW os ts∧d.ok os.length ts.length=true∧CZ os ts tm r
theorem CZ.get {os ts:List Nat} {tm:Tm} : ∀ {br:Tm},CZ os ts tm br→∀ k,br.get k = .junk∨(tm.get k=(br.get k).cW os ts∧(br.get k).ok os.length ts.length=true)
 | [],_,k=> .inl rfl
 |(q,d)::r,⟨h1,h2,h3⟩,k=>by
  simp only[Tm.get]
  split
  ·rename_i e;subst e;exact .inr ⟨h1,h2⟩
  ·exact h3.get k
section
variable {P:Program} {B:fR} {nt:Nat}
theorem Holds.sel {tm:Tm} {s:St} {act:Act} {w:World} (os:List Nat) (gh:List (List D)) (br:Tm) (uy:os.Nodup) (jh : ∀ o∈os,o<s.ah.length) (hn:B.s.ah.length≤os.length)
 (hold : ∀ i,i<B.s.ah.length→os[i]? = some i) (dg : ∀ (i o:Nat),os[i]? = some o→B.s.ah.length≤i→B.s.ah.length≤o) (ho:gh.length=os.length)
 (xc : ∀ (i o:Nat) (ds:List D),os[i]? = some o→gh[i]? = some ds→s.ah[o]? = some (D.eZ os (List.range s.aw.length) ds)∧D.bK os.length s.aw.length ds=true)
 (Rj:CZ os (List.range s.aw.length) tm br) (h:Holds B nt tm s act w):Holds B nt br ⟨gh,s.aw⟩ act w:=by
 obtain⟨M,e,r,hr,h1,h2⟩:=h
 have sV:(List.range s.aw.length).length=s.aw.length:=List.length_range
 have rg : ∀ (i t:Nat),(List.range s.aw.length)[i]? = some t→i=t:=fun i t h=>by
  rw[List.getElem?_eq_some_iff]at h
  obtain⟨h3,h4⟩:=h
  simpa using h4
 have r0:Rel (gH M os (List.range s.aw.length)) ⟨gh,s.aw⟩ w:=r.sub uy List.nodup_range jh ho (fun i o ds e1 e2=>by rw[sV];exact xc i o ds e1 e2) sV.symm (fun i t h=>by rw[rg i t h])
 have loc : ∀ (i:Nat) o,os[i]? = some o→(gH M os (List.range s.aw.length)).loc i=M.loc o:=fun i o h=>by simp only[gH,u6 h]
 have be : ∀ t,t<s.aw.length→(gH M os (List.range s.aw.length)).be t=M.be t:=fun t h=>by
  have:(List.range s.aw.length)[t]? = some t:=List.getElem?_range h
  simp only[gH,u6 this]
 refine⟨gH M os (List.range s.aw.length),⟨⟨e.le.G,by rw[ho];exact hn,fun o h=>?_,e.le.t,fun t n' h e'=>?_⟩,e.kept,fun o h3 h4=>?_,fun t b c z hl hb=>?_,e.rV,e.size,e.os,e.tape,e.output⟩,r0,fun k=>?_,h1,h2⟩
 ·rw[loc o o (hold o h)];exact e.le.loc o h
 ·obtain⟨n,g1,g2,g3⟩:=e.le.tk t n' h e'
  exact⟨n,g1,g2,fun eq=>by rw[be t (Nat.lt_of_lt_of_le h e.le.t)];exact g3 eq⟩
 ·simp only at h4
  rw[ho]at h4
  obtain⟨q,hq⟩ : ∃ q,os[o]? = some q:=⟨_,List.getElem?_eq_getElem h4⟩
  have mS:(gH M os (List.range s.aw.length)).mu o=M.mu q:=congrArg Prod.fst (loc o q hq)
  rw[mS]at h3 ⊢
  refine e.tH q ?_ (jh q (List.mem_of_getElem? hq))
  by_cases h5:B.s.ah.length≤o
  ·exact .inl (dg o q hq h5)
  ·have:=hold o (by omega)
   rw[hq]at this
   cases this
   rcases h3 with h3|h3
   ·exact(h5 h3).elim
   ·exact .inr h3
 ·obtain⟨n,qX⟩:=hl
  have hD:=(List.getElem?_eq_some_iff.1 qX).1
  rw[be t hD]at hb
  exact e.qn t b c z ⟨n,qX⟩ hb
 ·rcases Rj.get k with h3 | ⟨h3,h4⟩
  ·rw[h3];exact .junk _
  ·exact RD.B9 (M:=M) (M0:=gH M os (List.range s.aw.length)) (s:=s) (s0:=⟨gh,s.aw⟩) rfl loc ho (fun i t h=>by
    have:=rg i t h;subst this;exact be i (by have:=(List.getElem?_eq_some_iff.1 h).1;rwa [sV]at this)) (fun i t h=>by rw[rg i t h]) sV.symm (h3 ▸ hr k) _ rfl h4
theorem bl.sel {a:AC} {Q:Exit→Tm→St→Prop} {tm:Tm} {s:St} (os:List Nat) (gh:List (List D)) (br:Tm) (uy:os.Nodup) (jh : ∀ o∈os,o<s.ah.length) (hn:B.s.ah.length≤os.length)
 (hold : ∀ i,i<B.s.ah.length→os[i]? = some i) (dg : ∀ (i o:Nat),os[i]? = some o→B.s.ah.length≤i→B.s.ah.length≤o) (ho:gh.length=os.length)
 (xc : ∀ (i o:Nat) (ds:List D),os[i]? = some o→gh[i]? = some ds→s.ah[o]? = some (D.eZ os (List.range s.aw.length) ds)∧D.bK os.length s.aw.length ds=true)
 (Rj:CZ os (List.range s.aw.length) tm br) (h:bl P B nt a Q br ⟨gh,s.aw⟩):bl P B nt a Q tm s:=
 fun c hc act w hh=>h c hc act w (hh.sel os gh br uy jh hn hold dg ho xc Rj)
mutual
def D.fH (o g:Nat) (rows:List (List D)):D→D
 | .ew z o' g' len=>if o'=o∧g'=g∧len=rows.length then .slice .shared z rows else .ew z o' g' len
 | .dv row off=> .dv (D.jv o g rows row) off
 | .slice t z rs=> .slice t z (D.ri o g rows rs)
 | .agg cs=> .agg (D.jv o g rows cs)
 | .tuple ds=> .tuple (D.jv o g rows ds)
 | .fZ f cs=> .fZ f (D.jv o g rows cs)
 | .ptr o off=> .ptr o off
 | .junk=> .junk
 | .int k x=> .int k x
 | .bool b=> .bool b
 | .str l=> .str l
 | .dR=> .dR
 | .val v=> .val v
 | .fj T o=> .fj T o
 | .fN o=> .fN o
 | .fk o g off=> .fk o g off
 | .ej z=> .ej z
def D.jv (o g:Nat) (rows:List (List D)):List D→List D
 | []=> []
 |d::r=>D.fH o g rows d::D.jv o g rows r
def D.ri (o g:Nat) (rows:List (List D)):List (List D)→List (List D)
 | []=> []
 |d::r=>D.jv o g rows d::D.ri o g rows r
end
theorem oj (o g:Nat) (rows:List (List D)) : ∀ l,D.jv o g rows l=l.map (D.fH o g rows)
 | []=>by simp[D.jv]
 |d::r=>by simp[D.jv,oj o g rows r]
theorem LH (o g:Nat) (rows:List (List D)) : ∀ l,D.ri o g rows l=l.map (D.jv o g rows)
 | []=>by simp[D.ri]
 |d::r=>by simp[D.ri,LH o g rows r]
theorem RD.fH {M:Map} {s:St} {o g:Nat} {rows:List (List D)} {b cap z:Nat} {A:Nat→Option (Nat×Nat)} (hm:M.ob o = .arr z A) (ha:A g=some (b,cap))
 (hs : ∀ row∈rows,row.length=z) (h1 : ∀ (i:Nat) (row:List D) (j:Nat) (d:D),rows[i]? = some row→row[j]? = some d→∃ u,M.G b (0+(i*z+j))=some u)
 (h2 : ∀ (i:Nat) (row:List D) (j:Nat) (d:D) (u:Value),rows[i]? = some row→row[j]? = some d→M.G b (0+(i*z+j))=some u→RD M s d u)
 {d:D} {v:Value} (h:RD M s d v):RD M s (d.fH o g rows) v:=by
 induction h with
 | ew z' o' g' len b' qq A' ho z7 wj hl=>
  simp only[D.fH]
  split
  ·rename_i hc
   obtain⟨rfl,rfl,rfl⟩:=hc
   rw[hm]at z7
   cases z7
   rw[ha]at wj
   cases wj
   exact .slice .shared z rows b 0 cap hl hs h1 h2 trivial
  ·exact .ew z' o' g' len b' qq A' ho z7 wj hl
 |fk z' o' g' off b' qq A' ho z7 wj=>simp only[D.fH];exact .fk z' o' g' off b' qq A' ho z7 wj
 |ej z a=>simp only[D.fH];exact .ej z a
 |junk v=>simp only[D.fH];exact .junk v
 |int k x=>simp only[D.fH];exact .int k x
 |bool b=>simp only[D.fH];exact .bool b
 |str l=>simp only[D.fH];exact .str l
 |dR=>simp only[D.fH];exact .dR
 |val v hv=>simp only[D.fH];exact .val v hv
 |fj T o v h ht hv=>simp only[D.fH];exact .fj T o v h ht hv
 |fN o h hm=>simp only[D.fH];exact .fN o h hm
 |ptr o off h hm=>simp only[D.fH];exact .ptr o off h hm
 |fZ f ds vs hl _ ih=>
  simp only[D.fH,oj]
  refine .fZ f _ vs (by simpa using hl) (fun i d v e1 e2=>?_)
  simp only[List.getElem?_map,Option.map_eq_some_iff]at e1
  obtain⟨d',e1,rfl⟩:=e1
  exact ih i d' v e1 e2
 | dv row off b k h1 h2 ih=>
  simp only[D.fH,oj]
  refine .dv _ off b k (fun i d e=>?_) (fun i d u e eu=>?_)
  ·simp only [List.getElem?_map,Option.map_eq_some_iff]at e
   obtain⟨d',e,rfl⟩:=e
   exact h1 i d' e
  ·simp only [List.getElem?_map,Option.map_eq_some_iff]at e
   obtain⟨d',e,rfl⟩:=e
   exact ih i d' u e eu
 |iH t z cap hc ht=>simp only[D.fH,D.ri];exact .iH _ z cap hc ht
 |lx z a cap=>simp only[D.fH,D.ri];exact .lx z a cap
 | slice t z rs b k cap hl hs h1 h2 ht ih=>
  simp only[D.fH,LH]
  have hlen:(rs.map (D.jv o g rows)).length=rs.length:=by simp
  have key:=RD.slice (M:=M) (s:=s) t z (rs.map (D.jv o g rows)) b k cap (by rw[hlen];exact hl) (fun row hr=>by
   obtain⟨kl,h',rfl⟩:=List.mem_map.1 hr
   rw[oj,List.length_map];exact hs kl h')
   (fun i row j d e1 e2=>by
    simp only[List.getElem?_map,Option.map_eq_some_iff]at e1
    obtain⟨kl,e1,rfl⟩:=e1
    rw[oj]at e2
    simp only[List.getElem?_map,Option.map_eq_some_iff]at e2
    obtain⟨d',e2,rfl⟩:=e2
    exact h1 i kl j d' e1 e2)
   (fun i row j d u e1 e2 eu=>by
    simp only[List.getElem?_map,Option.map_eq_some_iff]at e1
    obtain⟨kl,e1,rfl⟩:=e1
    rw[oj]at e2
    simp only[List.getElem?_map,Option.map_eq_some_iff]at e2
    obtain⟨d',e2,rfl⟩:=e2
    exact ih i kl j d' u e1 e2 eu)
   (by rw[hlen];exact ht)
  rw[hlen]at key
  exact key
 |agg cells vs hl h1 _ ih=>
  simp only[D.fH,oj]
  refine .agg _ vs (by simpa using hl) h1 (fun i d v e1 e2=>?_)
  simp only[List.getElem?_map,Option.map_eq_some_iff]at e1
  obtain⟨d',e1,rfl⟩:=e1
  exact ih i d' v e1 e2
 |tuple ds vs hl _ ih=>
  simp only[D.fH,oj]
  refine .tuple _ vs (by simpa using hl) (fun i d v e1 e2=>?_)
  simp only[List.getElem?_map,Option.map_eq_some_iff]at e1
  obtain⟨d',e1,rfl⟩:=e1
  exact ih i d' v e1 e2
def fzR (o g:Nat) (rows:List (List D)) (n m:Nat) (ds:List D):List D:=D.gn n m (D.jv o g rows ds)
def WI (o g:Nat) (rows:List (List D)) (m:Nat) (tm:Tm):Tm→Prop
 | []=>True
 |(k,d)::r=>Wk (((tm.get k).fH o g rows).fg o m) d∧WI o g rows m tm r
end
end Go.Abs
namespace Go.Abs
mutual
def D.flat:D→Bool
 | .int _ _=>true
 | .bool _=>true
 | .str _=>true
 | .tuple ds=>D.Eh ds
 |_=>false
def D.Eh:List D→Bool
 | []=>true
 |d::r=>d.flat && D.Eh r
end
theorem Gz : ∀ {l:List D},D.Eh l=true→∀ {i:Nat} {d:D},l[i]? = some d→d.flat=true
 | [],_,i,d,e=>by simp at e
 |a::l,h,i,d,e=>by
  simp only[D.Eh,Bool.and_eq_true]at h
  cases i with
  |zero=>simp at e;subst e;exact h.1
  |succ i=>exact Gz h.2 (by simpa using e)
theorem RD.flat {M M':Map} {s s':St} {d:D} {v:Value} (h:RD M s d v):d.flat=true→RD M' s' d v:=by
 induction h with
 |int k n=>exact fun _=> .int k n
 |bool b=>exact fun _=> .bool b
 |str l=>exact fun _=> .str l
 |tuple ds vs hl _ ih=>exact fun hf=> .tuple ds vs hl fun i d v e1 e2=>ih i d v e1 e2 (Gz (by simpa only[D.flat]using hf) e1)
 |_=>intro hf;simp only[D.flat,Bool.false_eq_true]at hf
theorem LI {n m:Nat} : ∀ {l:List D},D.bK n m l=true→∀ {i:Nat} {d:D},l[i]? = some d→d.ok n m=true
 | [],_,i,d,e=>by simp at e
 |a::l,h,i,d,e=>by
  simp only[D.bK,Bool.and_eq_true]at h
  cases i with
  |zero=>simp at e;subst e;exact h.1
  |succ i=>exact LI h.2 (by simpa using e)
theorem Rel.CP {M:Map} {s:St} {w w':World} (r:Rel M s w) (CP : ∀ k,k<w.heap.size→w'.heap[k]? = w.heap[k]?) (hs:w.heap.size≤w'.heap.size) (h1:w'.os=w.os) (h2:w'.tape=w.tape) (h3:w'.output=w.output) :
 Rel M s w'∧Ext M s w M s w':=by
 refine⟨⟨fun p o v e=>?_,fun o ds e=>?_,r.jH,r.inj,fun t n e=>?_,r.fc,r.fO⟩,⟨Le.refl M s,fun k hk _ _=>CP k hk,fun o h h'=>by rcases h with h|h;omega;exact(h rfl).elim,fun t b c z h e=> .inl ⟨h,c,z,e⟩,fun _ _ h=>(h rfl).elim,hs,h1,h2,h3⟩⟩
 ·obtain⟨h1,h2⟩:=r.comm p o v e
  refine⟨?_,h2⟩
  rw[← h1]
  simp only[World.cell?,CP _ (r.AU e)]
 ·obtain⟨vs,T,h1,h2⟩:=r.obj o ds e
  exact⟨vs,T,h1.keep (CP _ h1.lt),h2⟩
 ·rcases r.tok t n e with h | ⟨p,cap,z,vs,T,h1,h2,h3⟩
  ·exact .inl h
  ·exact .inr ⟨p,cap,z,vs,T,h1,by rw[CP _ (j8 h2)];exact h2,h3⟩
theorem aF.ajv {P:Program} {f:FuncId} {args:List D} {d:D} {s:St} {o g z:Nat} {rows:List (List D)} {k:Nat} (hk:args[k]? = some (.ew z o g rows.length)) {more:List D}
 (dZ:s.ah[o]? = some (.int .i64 (g:Int)::(rows.flatten++more))) (hs : ∀ row∈rows,row.length=z) (h:aF P f (D.jv o g rows args) S0 d S0) (ha:D.bK 0 0 (D.jv o g rows args)=true)
 (hd:d.flat=true):aF P f args s d s:=by
 intro M w fG r hl dM yV
 have hD:=(List.getElem?_eq_some_iff.1 hk).1
 obtain⟨b0,ajw,A,_,_,hm,_⟩:=(yV k _ _ hk (Array.getElem?_eq_getElem (by omega))).xR
 have gX:nK s o g=some (rows.flatten++more):=by unfold nK;rw[dZ];simp
 obtain⟨us,T,cap,hh,xU,CK,avC,hle,gV,ju⟩:=r.Iy hm gX
 have Fx:o<s.ah.length:=(List.getElem?_eq_some_iff.1 dZ).1
 have hGo : ∀ q,M.G (M.mu o) q=none:=r.jH o Fx
 let M':Map:= {M with G:=fun b q=>if b=M.mu o then us[q]? else M.G b q}
 have pW : ∀ b,b≠M.mu o→∀ q,M'.G b q=M.G b q:=fun b hb q=>if_neg hb
 have le:Le M s M' s:=⟨fun b q v hq=>by
  by_cases hb:b=M.mu o
  ·subst hb;rw[hGo]at hq;cases hq
  ·rw[pW b hb];exact hq,Nat.le_refl _,fun _ _=> .refl _,Nat.le_refl _,fun t n' _ e=>⟨n',e,Nat.le_refl _,fun _=>rfl⟩⟩
 have iB : ∀ (i:Nat) (row:List D) (j:Nat) (d:D),rows[i]? = some row→row[j]? = some d→(rows.flatten++more)[i*z+j]? = some d:=by
  have gen : ∀ (rows:List (List D)),(∀ row∈rows,row.length=z)→∀ (i:Nat) (row:List D) (j:Nat) (d:D),rows[i]? = some row→row[j]? = some d→rows.flatten[i*z+j]? = some d:=by
   intro rows
   induction rows with
   |nil=>intro _ i row j d e1;simp at e1
   | cons a rows ih=>
    intro hs i row j d e1 e2
    have yc:=hs a (List.mem_cons_self ..)
    rw[List.flatten_cons]
    cases i with
    |zero=>
     simp at e1;subst e1
     rw[Nat.zero_mul,Nat.zero_add,List.getElem?_append_left (List.getElem?_eq_some_iff.1 e2).1];exact e2
    |succ i=>
     rw[List.getElem?_append_right (by rw[Nat.add_mul];omega),yc,show(i+1)*z+j - z=i*z+j by rw[Nat.add_mul];omega]
     exact ih (fun q hq=>hs q (List.mem_cons_of_mem _ hq)) i row j d (by simpa using e1) e2
  intro i row j d e1 e2
  have:=gen rows hs i row j d e1 e2
  rw[List.getElem?_append_left (List.getElem?_eq_some_iff.1 this).1];exact this
 have g1 : ∀ (i:Nat) (row:List D) (j:Nat) (d:D),rows[i]? = some row→row[j]? = some d→∃ u,M'.G (M.mu o) (0+(i*z+j))=some u:=fun i row j d e1 e2=>by
  have hD:=(List.getElem?_eq_some_iff.1 (iB i row j d e1 e2)).1
  refine⟨us[i*z+j]'(by omega), ?_⟩
  show(if M.mu o=M.mu o then us[0+(i*z+j)]? else _)=_
  rw[if_pos rfl,Nat.zero_add]
  exact Array.getElem?_eq_getElem _
 have g2 : ∀ (i:Nat) (row:List D) (j:Nat) (d:D) (u:Value),rows[i]? = some row→row[j]? = some d→M'.G (M.mu o) (0+(i*z+j))=some u→RD M' s d u:=fun i row j d u e1 e2 eu=>by
  have Ei:(if M.mu o=M.mu o then us[0+(i*z+j)]? else M.G (M.mu o) (0+(i*z+j)))=some u:=eu
  rw[if_pos rfl,Nat.zero_add]at Ei
  exact(ju _ d u (iB i row j d e1 e2) Ei).mono le
 have r0:Rel M' S0 w:=⟨fun b q v hq=>by
  have mD:(if b=M.mu o then us[q]? else M.G b q)=some v:=hq
  by_cases hb:b=M.mu o
  ·rw [if_pos hb]at mD
   rw[hb,jf hh]
   exact⟨mD,gV v (Array.mem_of_getElem? mD)⟩
  ·rw [if_neg hb]at mD
   exact r.comm b q v mD,fun o ds e=>by simp[S0]at e,fun o h=>by simp[S0]at h,fun o _ h=>by simp[S0]at h,fun t n e=>by simp[S0]at e,
  fun t b c z o hl _ ho=>by simp[S0]at ho,fun t t' b c z c' z' hl=>by obtain⟨n,hn⟩:=hl;simp[S0]at hn⟩
 have l0:Laid M' S0 w:=fun q cs hq=>⟨(hl q cs hq).1,fun o ho=>by simp[S0]at ho,fun t c z ht=>by obtain⟨n,hn⟩:=ht;simp[S0]at hn⟩
 have a0 : ∀ (i:Nat) (d:D) (v:Value),(D.jv o g rows args)[i]? = some d→fG[i]? = some v→RD M' S0 d v:=fun i d0 v e1 e2=>by
  have pE:=LI ha e1
  rw[oj,List.getElem?_map,Option.map_eq_some_iff]at e1
  obtain⟨d1,e1,rfl⟩:=e1
  have wy:=((yV i d1 v e1 e2).mono le).fH (M:=M') hm xU hs g1 g2
  exact RD.B9 (M:=M') (M0:=M') (s:=s) (s0:=S0) (os:= []) (ts:= []) rfl (by simp) rfl (by simp) (by simp) rfl wy _ (qu _ _ _ pE) pE
 refine(h M' w fG r0 l0 (by rw[dM,oj,List.length_map]) a0).mono fun e w' ⟨M2,d2,v,s2,h1,⟨h2,h3⟩,hx,_,h4⟩=>?_
 subst h2 h3
 have CP : ∀ k,k<w.heap.size→w'.heap[k]? = w.heap[k]? :=fun k hk=>hx.kept k hk (fun o ho=>by simp[S0]at ho) (fun t c z ht=>by obtain⟨n,hn⟩:=ht;simp[S0]at hn)
 obtain⟨r',e'⟩:=r.CP CP hx.size hx.os hx.tape hx.output
 exact⟨M,d2,v,s,h1,⟨rfl,rfl⟩,e',r',h4.flat hd⟩
section
variable {P:Program} {B:fR} {nt:Nat}
theorem bL.uC {f:FuncId} {res:List (Nat×Option (Bool×Nat))} {body:AC} {args:List D} {s:St} {R:D→St→Prop} (h0:Has P f nt res body) (hl:Nat.ble args.length nt=true)
 (h : ∀ (B:fR) (Q:Exit→Tm→St→Prop),B.s=s→Tn res R=Q→jZ P B nt body Q (mN 0 args) s):bL P f args s R:=by
 obtain⟨fn,hf,hc⟩:=h0
 refine bL.HX (bL.Qs (Q:=R) hf hc (Nat.le_of_ble_eq_true hl) fun B hB=>iC (h B _ hB rfl)) fun d s1 h=>⟨d,s1,Wk.refl _,gx.refl _,rfl,h⟩
theorem gJ {res:List (Nat×Option (Bool×Nat))} {R:D→St→Prop} {tm:Tm} {s:St} {e:Exit} {Q:Exit→Tm→St→Prop} (hQ:Tn res R=Q) (h : ∃ l,aU res tm s=some l∧R (aV l) s) (he:e = .ret∨e = .normal:=by first|exact .inl rfl|exact .inr rfl):Q e tm s:=by
 subst hQ
 rcases he with rfl|rfl<;>exact h
def upD (R:D→St→Prop) (d:D) (s:St):Prop:=∃ d' s',Wk d d'∧gx s.ah s'.ah∧s.aw=s'.aw∧R d' s'
theorem bL.up {f:FuncId} {args:List D} {s:St} {R:D→St→Prop} (h:bL P f args s (upD R)):bL P f args s R:=
 bL.HX h fun d s1 ⟨d',s',h1,h2,h3,h4⟩=>⟨d',s',h1,h2,h3,h4⟩
def vt (tm:Tm):Tm→Prop
 | []=>True
 |(k,d)::r=>Wk (tm.get k) d∧vt tm r
theorem vt.get {tm:Tm} : ∀ {br:Tm},vt tm br→∀ t,Wk (tm.get t) (br.get t)
 | [],_,t=>Wk.junk _
 |(k,d)::r,h,t=>by
  simp only[Tm.get]
  split
  ·rename_i hk;subst hk;exact h.1
  ·exact vt.get h.2 t
theorem abD (tm:Tm):vt tm [] = True:=nd rfl
theorem abE (tm:Tm) (k:Nat) (d:D) (r:Tm):vt tm ((k,d)::r)=(Wk (tm.get k) d∧vt tm r):=nd rfl
attribute [go_sem] abD abE
theorem Holds.pG {tm br:Tm} {s:St} {act:Act} {w:World} (ht:vt tm br) (h:Holds B nt tm s act w):Holds B nt br s act w:=by
 obtain⟨M,e,r,hr,h1,h2⟩:=h
 exact⟨M,e,r,fun k=>ht.get k _ _ _ (hr k),h1,h2⟩
theorem bl.pG {a:AC} {Q:Exit→Tm→St→Prop} {tm br:Tm} {s:St} (ht:vt tm br) (h:bl P B nt a Q br s):bl P B nt a Q tm s:=fun c hc act w hh=>h c hc act w (hh.pG ht)
theorem lC.pG {a r:AC} {Q:Exit→Tm→St→Prop} {tm br:Tm} {s:St} (ht:vt tm br) (h:lC P B nt a r Q br s):lC P B nt a r Q tm s:=fun c rest hc hr act w hh=>h c rest hc hr act w (hh.pG ht)
theorem Sem.pG {a:AC} {Q:Exit→Tm→St→Prop} {tm br:Tm} {s:St} (ht:vt tm br) (h:Sem P B nt a Q br s):Sem P B nt a Q tm s:=fun c hc act w hh=>h c hc act w (hh.pG ht)
end
theorem fU {s:St} {o:Nat} {r:List D} (h:s.ah[o]? = some r):o<s.ah.length:=(List.getElem?_eq_some_iff.1 h).1
theorem LJ {s:St} {a b:Nat} {r r':List D} (h:s.ah[a]? = some r) (h':s.ah[b]? = some r') (hn:r≠r'):a≠b:=fun e=>by subst e;rw[h]at h';cases h';exact hn rfl
end Go.Abs
namespace Go.Abs
theorem aF.AG {P:Program} {f:Nat} {args:List D} {s0 s:St} {o off n m:Nat} {row:List D} (h:aF P f args s0 (.ptr o off) s) (ho:s.ah[o]? = some row) (hn:s0.ah.length≤n) (Ah:n≤o) (hm:s0.aw.length≤m) :
 aF P f args s0 (.dv (D.gn n m row) off) (s.cut n m):=by
 intro M0 w0 fG r0 kv ajx ha
 refine(h M0 w0 fG r0 kv ajx ha).mono ?_
 rintro en w ⟨M,d,v0,s',rfl,⟨rfl,rfl⟩,e,r,hv⟩
 have xP:=hv.AV
 have pL:v0 = .pointer (some ⟨M.mu o,off,none⟩):=hv.rZ.1
 have Fx:o<s'.ah.length:=(List.getElem?_eq_some_iff.1 ho).1
 obtain⟨vs,T,hh,dM,⟨gV,_⟩,ju⟩:=r.obj o row ho
 replace hh:w.heap[M.mu o]? = some (.cells vs T (0,0)):=hh.cells xP
 let M':Map:= {M with G:=fun b q=>if b=M.mu o then vs[q]? else M.G b q}
 have hGo : ∀ q,M.G (M.mu o) q=none:=r.jH o Fx
 have le:Le M s' M' s':=⟨fun b q v hq=>by
  show(if b=M.mu o then vs[q]? else M.G b q)=some v
  by_cases hb:b=M.mu o
  ·subst hb;rw[hGo]at hq;cases hq
  ·rw[if_neg hb];exact hq,Nat.le_refl _,fun _ _=> .refl _,Nat.le_refl _,fun t n' _ e=>⟨n',e,Nat.le_refl _,fun _=>rfl⟩⟩
 have hD : ∀ q,q<(s'.cut n m).ah.length→q<s'.ah.length∧q≠o:=fun q h=>by rw[nO]at h;omega
 have wz:w0.heap.size≤M.mu o:=e.tH o (.inl (by omega)) Fx
 have ec:=e.cut hn hm
 have lec:Le M (s'.cut n m) M' (s'.cut n m):=⟨le.G,Nat.le_refl _,fun _ _=> .refl _,Nat.le_refl _,fun t n' _ e=>⟨n',e,Nat.le_refl _,fun _=>rfl⟩⟩
 have rc:=r.cut n m
 have pW : ∀ b,b≠M.mu o→∀ q,M'.G b q=M.G b q:=fun b hb q=>if_neg hb
 refine⟨M',_,v0,_,rfl,⟨rfl,rfl⟩,⟨ec.le.trans lec,ec.kept,ec.tH,ec.qn,fun b q eK=>?_,ec.size,ec.os,ec.tape,ec.output⟩,⟨fun b q v hq=>?_,fun q ds hq=>?_,fun q hq w8=>?_,rc.inj,fun t n' Ea=>?_,rc.fc,rc.fO⟩, ?_⟩
 ·by_cases hb:b=M.mu o
  ·subst hb;exact .inl wz
  ·rw[pW b hb]at eK;exact ec.rV b q eK
 ·have mD:(if b=M.mu o then vs[q]? else M.G b q)=some v:=hq
  by_cases hb:b=M.mu o
  ·rw [if_pos hb]at mD
   rw[hb,jf hh]
   exact⟨mD,gV v (Array.mem_of_getElem? mD)⟩
  ·rw [if_neg hb]at mD
   exact r.comm b q v mD
 ·obtain⟨fC,T',h3,h4,h5,h6⟩:=rc.obj q ds hq
  exact⟨fC,T',h3,h4,h5,fun i d v e1 e2=>(h6 i d v e1 e2).mono lec⟩
 ·obtain⟨h3,h4⟩:=hD q hq
  show M'.G (M.mu q) w8=none
  rw[pW _ (fun e=>h4 (r.inj q o h3 Fx e))]
  exact r.jH q h3 w8
 ·rcases rc.tok t n' Ea with h3 | ⟨b,cap,z,fC,T',h3,h4,h5,h6,h7⟩
  ·exact .inl h3
  ·refine .inr ⟨b,cap,z,fC,T',h3,h4,h5,h6,fun w8 Dl=> ?_,h7.2⟩
   rw[pW _ (fun e=>r.fc t b cap z o (vm ⟨n',Ea⟩) h3 Fx e.symm)]
   exact h7.1 w8 Dl
 ·rw [pL]
  have:=RD.dv (M:=M') (s:=s'.cut n m) (D.gn n m row) off (M.mu o) 0 (fun i d e1=>?_) (fun i d u e1 eu=>?_)
  ·simpa using this
  ·rw [mW,List.getElem?_map,Option.map_eq_some_iff]at e1
   obtain⟨d0,e1,rfl⟩:=e1
   have hi:=(List.getElem?_eq_some_iff.1 e1).1
   refine⟨vs[i]'(by omega), ?_⟩
   show(if M.mu o=M.mu o then vs[0+i]? else _)=_
   rw[if_pos rfl,Nat.zero_add]
   exact Array.getElem?_eq_getElem _
  ·rw [mW,List.getElem?_map,Option.map_eq_some_iff]at e1
   obtain⟨d0,e1,rfl⟩:=e1
   have Ei:(if M.mu o=M.mu o then vs[0+i]? else M.G (M.mu o) (0+i))=some u:=eu
   rw[if_pos rfl,Nat.zero_add]at Ei
   exact((ju i d0 u e1 Ei).fg n m).mono lec
theorem aF.goK {P:Program} {f:FuncId} {res:List (Nat×Option (Bool×Nat))} {body:AC} {args:List D} {s:St} {d:D} {s':St} {nt:Nat} (n m:Nat) (hn:s.ah.length≤n) (hm:s.aw.length≤m) (h0:Has P f nt res body) (hl:Nat.ble args.length nt=true)
 (h : ∀ (B:fR) (Q:Exit→Tm→St→Prop),B.s=s→pM n m res d s'=Q→jZ P B nt body Q (mN 0 args) s):aF P f args s d s':=by
 obtain⟨fn,hf,hc⟩:=h0
 refine bL.HX (bL.intro (Q:=fun d1 s1=>Wk d1 d∧gx s1.ah s'.ah∧s1.aw=s'.aw) hf hc (Nat.le_of_ble_eq_true hl) fun B hB=>(iC (h B _ hB rfl)).mono fun e tm s1 hr=>?_) fun d1 s1 ⟨h1,h2,h3⟩=>⟨d,s',h1,h2,h3,rfl,rfl⟩
 subst hB
 cases e with
 |normal=>obtain⟨l,h1,h2,h3,h4⟩:=hr;exact⟨l,h1,_,_,hn,hm,h2,h3,h4⟩
 |ret=>obtain⟨l,h1,h2,h3,h4⟩:=hr;exact⟨l,h1,_,_,hn,hm,h2,h3,h4⟩
 |exit id=>exact hr.elim
 |goto l=>exact hr.elim
 |panic ch=>exact hr.elim
 |outgrown=>exact hr.elim
section
variable (s:St) (o g off len k z size bytes:Nat) (kk:IntKind)
theorem afq:nK s o g=match s.ah[o]? with|some (.int .i64 n::cells)=>if n=(g:Int)then some cells else none|_=>none:=nd rfl
theorem abG (agg:Bool):yH (.fk o g off) agg size s=match nK s o g with|some cells=>(match part cells off agg size with|some d=>some (d,s)|none=>none)|none=>none:=nd rfl
theorem YJ (r:List D):AR (.fk o g off) (some r) size s=match nK s o g with
 |some cells=>if r.length=size∧off+size≤cells.length then some (.tuple [],⟨s.ah.set o (.int .i64 g::ij cells off r),s.aw⟩)else none
 |none=>none:=nd rfl
theorem afr:Mt (.fk o g off)=some (.fk o g off):=nd rfl
theorem YK:DW (.fk o g k) off=some (.fk o g (k+off)):=nd rfl
theorem YL:xN (.ew z o g len) (.int kk (k:Int)) size=if k<len then(if z=size then some (.fk o g (k*z))else none)else none:=by
 simp only[xN]
 by_cases h1:k<len<;>by_cases h2:z=size<;>simp[h1,h2]
theorem afs:Fe (.ew z o g len)=some (.int .i64 len):=nd rfl
theorem abH:Fe (.ej z)=some (.int .i64 0):=nd rfl
theorem Ji {z bytes:Nat} (t:Tag) (r:List D) (s:St) (hm:bytes+1≤bC):AS z bytes (.ej z) (.slice t z [r]) s=some (.ew z s.ah.length 0 1,⟨s.ah++ [.int .i64 ((0:Nat):Int)::r],s.aw⟩):=by
 simp[AS,hm]
theorem aft (n m:Nat):D.fg n m (.ew z o g len)=if o<n then .ew z o g len else .junk:=nd (by simp only[D.fg])
theorem afu (n m:Nat):D.fg n m (.fk o g off)=if o<n then .fk o g off else .junk:=nd (by simp only[D.fg])
theorem afv (n m:Nat):D.fg n m (.ej z) = .ej z:=nd (by simp only[D.fg])
theorem abI:(D.ew z o g len).row=some [.ew z o g len]:=nd rfl
theorem abJ:(D.fk o g off).row=some [.fk o g off]:=nd rfl
theorem abK:(D.ej z).row=some [.ej z]:=nd rfl
end
attribute [go_sem] afq abG YJ afr YK YL afs abH aft afu afv abI abJ abK
theorem Wk.ej (z z':Nat):Wk (.slice .full z []) (.ej z'):=fun M s v h=>by
 cases h with
 |iH _ _ cap hc ht=>subst hc;exact .ej z' none
 |slice _ _ _ b k cap hl hs h1 h2 ht=>
  have:cap=0:=ht
  subst this
  exact .ej z' _
instance (z z':Nat):Ok (Wk (.slice .full z []) (.ej z')):=⟨Wk.ej z z'⟩
instance {a a' b b':List D} [Ok (jq a a')] [Ok (jq b b')] : Ok (jq (a++b) (a'++b')):=⟨jq.append Ok.out Ok.out⟩
theorem afw (n m:Nat) (a b:List D):D.gn n m (a++b)=D.gn n m a++D.gn n m b:=nd (by simp only[mW,List.map_append])
attribute [go_sem] afw
def Bh (os:List Nat) (m:Nat) (ah:List (List D)):List Nat→List (List D)→Prop
 | [],[]=>True
 |o::l,ds::r=>ah[o]? = some (D.eZ os (List.range m) ds)∧D.bK os.length m ds=true∧Bh os m ah l r
 |_,_=>False
theorem Bh.get {os:List Nat} {m:Nat} {ah:List (List D)} : ∀ {l:List Nat} {r:List (List D)},Bh os m ah l r→r.length=l.length∧∀ (i o:Nat) (ds:List D),l[i]? = some o→r[i]? = some ds→ah[o]? = some (D.eZ os (List.range m) ds)∧D.bK os.length m ds=true
 | [],[],_=>⟨rfl,fun i o ds h=>by simp at h⟩
 |o::l,ds::r,⟨h1,h2,h3⟩=>by
  obtain⟨g1,g2⟩:=h3.get
  refine⟨by simp[g1],fun i o' nD e1 e2=>?_⟩
  cases i with
  |zero=>simp at e1 e2;subst e1 e2;exact⟨h1,h2⟩
  |succ i=>exact g2 i o' nD (by simpa using e1) (by simpa using e2)
 | [],_::_,h=>h.elim
 |_::_,[],h=>h.elim
section
variable {P:Program} {B:fR} {nt:Nat} {a:AC} {Q:Exit→Tm→St→Prop} {tm:Tm} {s:St}
theorem bl.ajy (hB:B.s = ⟨[],[]⟩) (os:List Nat) (gh:List (List D)) (br:Tm) (uy:os.Nodup) (jh : ∀ o∈os,o<s.ah.length) (xc:Bh os s.aw.length s.ah os gh) (Rj:CZ os (List.range s.aw.length) tm br)
 (h:bl P B nt a Q br ⟨gh,s.aw⟩):bl P B nt a Q tm s:=
 bl.sel os gh br uy jh (by rw[hB];exact Nat.zero_le _) (fun i h=>by rw[hB]at h;exact absurd h (Nat.not_lt_zero _)) (fun i o _ _=>by rw[hB];exact Nat.zero_le _) xc.get.1 xc.get.2 Rj h
end
section
variable (os ts:List Nat) (n m:Nat)
theorem afx (o off:Nat):D.cW os ts (.ptr o off)=match os[o]? with|some o'=> .ptr o' off|none=> .junk:=nd (by simp only[D.cW]<;>rfl)
theorem afy (z o g len:Nat):D.cW os ts (.ew z o g len)=match os[o]? with|some o'=> .ew z o' g len|none=> .junk:=nd (by simp only[D.cW]<;>rfl)
theorem YM (g:Tag) (z:Nat) (rows:List (List D)):D.cW os ts (.slice g z rows) = .slice (g.cW ts) z (D.nP os ts rows):=nd (by simp only[D.cW])
theorem afz (l:List D):D.cW os ts (.agg l) = .agg (D.eZ os ts l):=nd (by simp only[D.cW])
theorem abL:D.cW os ts .junk = .junk:=nd (by simp only[D.cW])
theorem afA (k:IntKind) (x:Int):D.cW os ts (.int k x) = .int k x:=nd (by simp only[D.cW])
theorem abM (b:Bool):D.cW os ts (.bool b) = .bool b:=nd (by simp only[D.cW])
theorem afB (l:List UInt8):D.cW os ts (.str l) = .str l:=nd (by simp only[D.cW])
theorem abN:D.cW os ts .dR = .dR:=nd (by simp only[D.cW])
theorem abO (z:Nat):D.cW os ts (.ej z) = .ej z:=nd (by simp only[D.cW])
theorem YN:D.eZ os ts [] = []:=nd (by simp only[D.eZ])
theorem YO (d:D) (l:List D):D.eZ os ts (d::l)=D.cW os ts d::D.eZ os ts l:=nd (by simp only[D.eZ])
theorem UA:Tag.cW ts .shared = .shared:=nd rfl
theorem abP:Tag.cW ts .full = .full:=nd rfl
theorem YP (o off:Nat):D.ok n m (.ptr o off)=decide (o<n):=nd (by simp only[D.ok])
theorem YQ (z o g len:Nat):D.ok n m (.ew z o g len)=decide (o<n):=nd (by simp only[D.ok])
theorem Rk (g:Tag) (z:Nat) (rows:List (List D)):D.ok n m (.slice g z rows)=(g.ok m && D.gQ n m rows):=nd (by simp only[D.ok])
theorem YR (l:List D):D.ok n m (.agg l)=D.bK n m l:=nd (by simp only[D.ok])
theorem UB:D.ok n m .junk=true:=nd (by simp only[D.ok])
theorem YS (k:IntKind) (x:Int):D.ok n m (.int k x)=true:=nd (by simp only[D.ok])
theorem UC (b:Bool):D.ok n m (.bool b)=true:=nd (by simp only[D.ok])
theorem YT (l:List UInt8):D.ok n m (.str l)=true:=nd (by simp only[D.ok])
theorem UD:D.ok n m .dR=true:=nd (by simp only[D.ok])
theorem UE (z:Nat):D.ok n m (.ej z)=true:=nd (by simp only[D.ok])
theorem abQ:D.bK n m [] = true:=nd (by simp only[D.bK])
theorem abR (d:D) (l:List D):D.bK n m (d::l)=(D.ok n m d && D.bK n m l):=nd (by simp only[D.bK])
theorem OF:Tag.ok m .shared=true:=nd rfl
theorem UF:Tag.ok m .full=true:=nd rfl
theorem YU (os:List Nat) (m:Nat) (ah:List (List D)):Bh os m ah [] [] = True:=nd rfl
theorem YV (os:List Nat) (m:Nat) (ah:List (List D)) (o:Nat) (l:List Nat) (ds:List D) (r:List (List D)):Bh os m ah (o::l) (ds::r)=(ah[o]? = some (D.eZ os (List.range m) ds)∧D.bK os.length m ds=true∧Bh os m ah l r):=nd rfl
theorem abS (tm:Tm):CZ os ts tm [] = True:=nd rfl
theorem abT (tm:Tm) (k:Nat) (d:D) (r:Tm):CZ os ts tm ((k,d)::r)=(tm.get k=d.cW os ts∧d.ok os.length ts.length=true∧CZ os ts tm r):=nd rfl
theorem Jj (rows:List (List D)) (h:D.gQ 0 0 rows=true):D.nP os ts rows=rows:=ji os ts rows h
theorem Ej (row:List D) (h:D.bK 0 0 row=true):D.eZ os ts row=row:=fz os ts row h
theorem OG (rows:List (List D)) (h:D.gQ 0 0 rows=true):D.gQ n m rows=true:=mr (Nat.zero_le n) (Nat.zero_le m) rows h
theorem H0 (row:List D) (h:D.bK 0 0 row=true):D.bK n m row=true:=il (Nat.zero_le n) (Nat.zero_le m) row h
theorem LK (p:Pg):D.eZ os ts (cr p)=cr p:=Ej _ _ _ (jb p)
theorem YW (p:Sm):D.eZ os ts (bb p)=bb p:=Ej _ _ _ (qv p)
theorem UG (l:List Pc):D.nP os ts (l.map cj)=l.map cj:=Jj _ _ _ (wx l)
theorem UH (l:List Sm):D.nP os ts (l.map bb)=l.map bb:=Jj _ _ _ (px l)
theorem Rm (l:List aG):D.nP os ts (l.map encStr)=l.map encStr:=Jj _ _ _ (e9 l)
theorem YX (p:Pc):D.eZ os ts (cj p)=cj p:=Ej _ _ _ (xh p)
theorem abU (p:Pc):D.bK n m (cj p)=true:=H0 _ _ _ (xh p)
theorem Rn (p:Pg):D.bK n m (cr p)=true:=H0 _ _ _ (jb p)
theorem abV (p:Sm):D.bK n m (bb p)=true:=H0 _ _ _ (qv p)
theorem YY (l:List Pc):D.gQ n m (l.map cj)=true:=OG _ _ _ (wx l)
theorem YZ (l:List Sm):D.gQ n m (l.map bb)=true:=OG _ _ _ (px l)
theorem UI (l:List aG):D.gQ n m (l.map encStr)=true:=OG _ _ _ (e9 l)
theorem OH : ∀ l:List Pc,D.bK 0 0 ((l.map cj).flatten)=true:=fun l=>by
 have h:=wx l
 rw[D9,List.all_eq_true]at h
 rw[x7,List.all_eq_true]
 intro d hd
 obtain⟨r,hr,hd⟩:=List.mem_flatten.1 hd
 have:=h r hr
 rw[x7,List.all_eq_true]at this
 exact this d hd
theorem UJ (l:List Pc):D.eZ os ts ((l.map cj).flatten)=(l.map cj).flatten:=Ej _ _ _ (OH l)
theorem Y0 (l:List Pc):D.bK n m ((l.map cj).flatten)=true:=H0 _ _ _ (OH l)
theorem Y1 (l:List Pc):D.gn n m ((l.map cj).flatten)=(l.map cj).flatten:=gY _ _ _ (OH l)
end
attribute [go_sem] YX abU afx afy YM afz abL afA abM afB abN abO YN YO UA abP YP YQ Rk YR UB YS UC YT UD UE abQ abR OF UF YU YV abS abT LK YW UG UH Rm Rn abV YY YZ UI UJ Y0 Y1
mutual
theorem Jk (o g:Nat) (rows:List (List D)) : ∀ d,D.ok 0 0 d=true→D.fH o g rows d=d
 | .junk,_=>by simp[D.fH]
 | .int k n,_=>by simp[D.fH]
 | .bool b,_=>by simp[D.fH]
 | .str l,_=>by simp[D.fH]
 | .dR,_=>by simp[D.fH]
 | .val v,_=>by simp[D.fH]
 | .ej z,_=>by simp[D.fH]
 | .fj T o,h=>by simp[D.ok]at h
 | .fN o,h=>by simp[D.ok]at h
 | .ew z o g len,h=>by simp[D.ok]at h
 | .fk o g off,h=>by simp[D.ok]at h
 | .ptr o f,h=>by simp[D.ok]at h
 | .fZ f cs,h=>by
  simp only[D.ok]at h
  simp only[D.fH,sf o g rows cs h]
 | .dv r f,h=>by
  simp only[D.ok]at h
  simp only[D.fH,sf o g rows r h]
 | .slice t z rs,h=>by
  simp only[D.ok,Bool.and_eq_true]at h
  simp only[D.fH,yd o g rows rs h.2]
 | .agg cs,h=>by
  simp only[D.ok]at h
  simp only[D.fH,sf o g rows cs h]
 | .tuple cs,h=>by
  simp only[D.ok]at h
  simp only[D.fH,sf o g rows cs h]
theorem sf (o g:Nat) (rows:List (List D)) : ∀ l,D.bK 0 0 l=true→D.jv o g rows l=l
 | [],_=>by simp[D.jv]
 |d::r,h=>by
  simp only[D.bK,Bool.and_eq_true]at h
  simp only[D.jv,Jk o g rows d h.1,sf o g rows r h.2]
theorem yd (o g:Nat) (rows:List (List D)) : ∀ l,D.gQ 0 0 l=true→D.ri o g rows l=l
 | [],_=>by simp[D.ri]
 |d::r,h=>by
  simp only[D.gQ,Bool.and_eq_true]at h
  simp only[D.ri,sf o g rows d h.1,yd o g rows r h.2]
end
section
variable (o g:Nat) (rows:List (List D)) (n m:Nat)
theorem afC (q off:Nat):D.fH o g rows (.ptr q off) = .ptr q off:=nd (by simp only[D.fH])
theorem abW (q h off:Nat):D.fH o g rows (.fk q h off) = .fk q h off:=nd (by simp only[D.fH])
theorem afD (z o' g' len:Nat):D.fH o g rows (.ew z o' g' len)=if o'=o∧g'=g∧len=rows.length then .slice .shared z rows else .ew z o' g' len:=nd (by simp only[D.fH])
theorem Y2 (t:Tag) (z:Nat) (rs:List (List D)):D.fH o g rows (.slice t z rs) = .slice t z (D.ri o g rows rs):=nd (by simp only[D.fH])
theorem afE (l:List D):D.fH o g rows (.agg l) = .agg (D.jv o g rows l):=nd (by simp only[D.fH])
theorem abX:D.fH o g rows .junk = .junk:=nd (by simp only[D.fH])
theorem afF (k:IntKind) (x:Int):D.fH o g rows (.int k x) = .int k x:=nd (by simp only[D.fH])
theorem abY (b:Bool):D.fH o g rows (.bool b) = .bool b:=nd (by simp only[D.fH])
theorem afG (l:List UInt8):D.fH o g rows (.str l) = .str l:=nd (by simp only[D.fH])
theorem Y3:D.jv o g rows [] = []:=nd (by simp only[D.jv])
theorem Y4 (d:D) (l:List D):D.jv o g rows (d::l)=D.fH o g rows d::D.jv o g rows l:=nd (by simp only[D.jv])
theorem ajz (p:Pg):D.jv o g rows (cr p)=cr p:=sf _ _ _ _ (jb p)
theorem afH (l:List Pc):D.ri o g rows (l.map cj)=l.map cj:=yd _ _ _ _ (wx l)
theorem afI (l:List Sm):D.ri o g rows (l.map bb)=l.map bb:=yd _ _ _ _ (px l)
theorem abZ (l:List aG):D.ri o g rows (l.map encStr)=l.map encStr:=yd _ _ _ _ (e9 l)
theorem afJ (ds:List D):fzR o g rows n m ds=D.gn n m (D.jv o g rows ds):=nd rfl
theorem ab0 (tm:Tm):WI o g rows m tm [] = True:=nd rfl
theorem ab1 (tm:Tm) (k:Nat) (d:D) (r:Tm):WI o g rows m tm ((k,d)::r)=(Wk (((tm.get k).fH o g rows).fg o m) d∧WI o g rows m tm r):=nd rfl
end
attribute [go_sem] afC abW afD Y2 afE abX afF abY afG Y3 Y4 ajz afH afI abZ afJ ab0 ab1
end Go.Abs
namespace Go.Abs
mutual
def Ex.size:Ex→Nat
 |⟨_,_,_,kids⟩=>1+Ex.aY kids
def Ex.aY:List Ex→Nat
 | []=>0
 |x::l=>1+x.size+Ex.aY l
end
mutual
def Ex.depth:Ex→Nat
 |⟨_,_,_,kids⟩=>Ex.p6 kids+1
def Ex.p6:List Ex→Nat
 | []=>0
 |x::l=>max x.depth (Ex.p6 l)
end
def ab2 (x:Ex):Option Int:=if x.size<4611686018427387904 then some (x.depth:Int)else none
theorem Ex.dc {x:Ex} : ∀ {l:List Ex},x∈l→x.size<Ex.aY l
 |y::l,h=>by
  simp only[Ex.aY]
  rcases List.mem_cons.1 h with rfl|h
  ·omega
  ·have:=Ex.dc h;omega
theorem Ex.eB : ∀ (l:List Ex),l.length≤Ex.aY l
 | []=>Nat.le_refl _
 |x::l=>by simp only[Ex.aY,List.length_cons];have:=Ex.eB l;omega
def OI (t:pZ):Int×Int:=
 if t.kind != 4 then(0,0)
 else if t.text == [124,124]then(17,1)
 else if t.text == [38,38]then(16,2)
 else if t.text == [61,61]then(14,3)
 else if t.text == [33,61]then(15,3)
 else if t.text == [60]then(10,4)
 else if t.text == [60,61]then(11,4)
 else if t.text == [62]then(12,4)
 else if t.text == [62,61]then(13,4)
 else if t.text == [43]then(8,5)
 else if t.text == [45]then(9,5)
 else if t.text == [42]then(5,6)
 else if t.text == [47]then(6,6)
 else if t.text == [37]then(7,6)
 else(0,0)
structure Rd where
 l:List pZ
 i:Nat
 code:Int
 Jl:Int
 n:Nat
abbrev Rd.good (r:Rd):Bool:=r.code==0
def Rd.vu (r:Rd):Option pZ:=(abA r.l r.i).bind fun t=>if decide (0≤t.kind) && decide (t.kind≤4)then some t else none
def Rd.bad (c:Int) (r:Rd):Option Rd:=if r.good then r.vu.bind fun t=>some {r with code:=c,Jl:=t.pos}else some r
def Rd.is (text:aG) (r:Rd):Option Bool:=r.vu.bind fun t=>some ((t.kind==3 ||t.kind==4) && t.text==text)
def Rd.take (text:aG) (r:Rd):Option (Bool×Rd):=
 if !r.good then some (false,r)else(r.is text).bind fun b=>if !b then some (false,r)else some (true,{r with i:=r.i+1})
def Rd.want (text:aG) (r:Rd):Option Rd:=(r.take text).bind fun p=>if !p.1 then p.2.bad 3 else some p.2
def Rd.name (room:Bool) (r:Rd):Option (aG×Rd):=
 r.vu.bind fun t=>if !r.good ||t.kind != 1 then(r.bad 3).bind fun r=>some ([],r)else if !room then(r.bad 4).bind fun r=>some ([],r)else some (t.text,{r with i:=r.i+1})
def Rd.on (r:Rd):Rd:= {r with i:=r.i+1}
mutual
def Rd.one:Nat→Rd→Option (Ex×Rd)
 | 0,_=>none
 | n+1,r=>r.vu.bind fun t=>
  if !r.good then some (rh,r)
  else if t.kind==2 then some (⟨1,t.n,[],[]⟩,{r with i:=r.i+1})
  else if t.kind==1 then some (⟨2,0,t.text,[]⟩,{r with i:=r.i+1})
  else(r.take [40]).bind fun p=>
   if p.1 then(Rd.two n 1 p.2).bind fun x=>(x.2.want [41]).bind fun r=>some (x.1,r)
   else(p.2.take [45]).bind fun p=>
    if p.1 then(Rd.one n p.2).bind fun x=>some (⟨3,0,[],[x.1]⟩,x.2)
    else(p.2.take [33]).bind fun p=>
     if p.1 then(Rd.one n p.2).bind fun x=>some (⟨4,0,[],[x.1]⟩,x.2)
     else(p.2.bad 3).bind fun r=>some (rh,r)
def Rd.two:Nat→Int→Rd→Option (Ex×Rd)
 | 0,_,_=>none
 |n+1,least,r=>(Rd.one n r).bind fun x=>Rd.ab3 n least x.1 x.2
def Rd.ab3:Nat→Int→Ex→Rd→Option (Ex×Rd)
 | 0,_,_,_=>none
 | n+1,least,x,r=>
  if r.good then r.vu.bind fun t=>
   if decide ((OI t).2<least) ||(OI t).1==0 then some (x,r)
   else(Rd.two n ((OI t).2+1) {r with i:=r.i+1}).bind fun y=>Rd.ab3 n least ⟨(OI t).1,0,[],[x,y.1]⟩ y.2
  else some (x,r)
end
def Rd.whole (n:Nat) (r:Rd):Option (Ex×Rd):=
 r.vu.bind fun t=>(Rd.two n 1 r).bind fun x=>
  if x.2.good then(ab2 x.1).bind fun d=>if decide (d > 20)then some (x.1,{x.2 with code:=4,Jl:=t.pos})else some (x.1,x.2)
  else some (x.1,x.2)
def Rd.names:Nat→List aG→Int→Rd→Option (List aG×Rd)
 | 0,_,_,_=>none
 | n+1,l,ab4,r=>
  if r.good then(r.name (decide ((l.length:Int)<ab4))).bind fun p=>(push 17 l p.1).bind fun l=>(p.2.take [44]).bind fun q=>
   if !q.1 then(q.2.want [59]).bind fun r=>some (l,r)else Rd.names n l ab4 q.2
  else some (l,r)
def Rd.ahead (sign:aG) (r:Rd):Option Bool:=
 if r.good then r.vu.bind fun t=>if t.kind==1 then(abA r.l (r.i+1)).bind fun u=>some (u.kind==4 && u.text==sign)else some false
 else some false
def Rd.labels:Nat→List aG→Rd→Option (List aG×Rd)
 | 0,_,_=>none
 |n+1,l,r=>(r.ahead [58]).bind fun b=>if b then r.vu.bind fun t=>(push 17 l t.text).bind fun l=>Rd.labels n l {r with i:=r.i+2}else some (l,r)
def Rd.ab5 (r:Rd):Option Bool:=
 r.vu.bind fun t=>some (if t.kind==1 then true else if t.kind != 3 then false
  else t.text == [105,102] ||t.text == [119,104,105,108,101] ||t.text == [98,114,101,97,107] ||t.text == [99,111,110,116,105,110,117,101] ||t.text == [114,101,116,117,114,110] ||t.text == [103,111,116,111] ||t.text == [114,101,97,100] ||t.text == [112,114,105,110,116])
def Rd.OM (m:Nat):Nat→List Ar→Rd→Option (List Ar×Rd)
 | 0,_,_=>none
 | n+1,l,r=>
  if r.good then(r.take [114,101,102]).bind fun p=>
   if p.1 then(p.2.name true).bind fun x=>(push 81 l ⟨true,x.1,rh⟩).bind fun l=>(x.2.take [44]).bind fun c=>if !c.1 then some (l,c.2)else Rd.OM m n l c.2
   else(Rd.whole m p.2).bind fun x=>(push 81 l ⟨false,[],x.1⟩).bind fun l=>(x.2.take [44]).bind fun c=>if !c.1 then some (l,c.2)else Rd.OM m n l c.2
  else some (l,r)
def Rd.other (sign:aG) (r:Rd):Option Bool:=if r.good then(r.is sign).bind fun b=>some !b else some false
def Rd.call (m:Nat) (name proc:aG) (r:Rd):Option (Sm×Rd):=
 (r.want [40]).bind fun r=>(r.other [41]).bind fun b=>
  if b then(Rd.OM m m [] r).bind fun q=>(q.2.want [41]).bind fun r=>(r.want [59]).bind fun r=>some (⟨0,4,[],name,proc,rh,false,q.1,[],[]⟩,r)
  else(r.want [41]).bind fun r=>(r.want [59]).bind fun r=>some (⟨0,4,[],name,proc,rh,false,[],[],[]⟩,r)
def Rd.named (m:Nat) (r:Rd):Option (Sm×Rd):=
 (r.name true).bind fun x=>(x.2.is [40]).bind fun b=>
  if b then Rd.call m [] x.1 x.2
  else(x.2.want [61]).bind fun r=>(r.ahead [40]).bind fun b=>
   if b then(r.name true).bind fun y=>Rd.call m x.1 y.1 y.2
   else(Rd.whole m r).bind fun y=>(y.2.want [59]).bind fun r=>some (⟨0,1,[],x.1,[],y.1,false,[],[],[]⟩,r)
def Rd.plain (m:Nat) (word:aG) (r:Rd):Option (Sm×Rd):=
 if word == [98,114,101,97,107]then some (⟨0,7,[],[],[],rh,false,[],[],[]⟩,r)
 else if word == [99,111,110,116,105,110,117,101]then some (⟨0,8,[],[],[],rh,false,[],[],[]⟩,r)
 else if word == [114,101,116,117,114,110]then(r.is [59]).bind fun b=>
  if !b then(Rd.whole m r).bind fun x=>some (⟨0,9,[],[],[],x.1,true,[],[],[]⟩,x.2)else some (⟨0,9,[],[],[],rh,false,[],[],[]⟩,r)
 else if word == [103,111,116,111]then(r.name true).bind fun x=>some (⟨0,10,[],x.1,[],rh,false,[],[],[]⟩,x.2)
 else if word == [114,101,97,100]then(r.name true).bind fun x=>some (⟨0,2,[],x.1,[],rh,false,[],[],[]⟩,x.2)
 else if word == [112,114,105,110,116]then(Rd.whole m r).bind fun x=>some (⟨0,3,[],[],[],x.1,false,[],[],[]⟩,x.2)
 else some (Je,r)
def Rd.head (m:Nat) (r:Rd):Option (Ex×Rd):=(r.want [40]).bind fun r=>(Rd.whole m r).bind fun x=>(x.2.want [41]).bind fun r=>some (x.1,r)
mutual
def Rd.rows (m:Nat):Nat→Int→Bool→Rd→Option ((List Sm×List aG)×Rd)
 | 0,_,_,_=>none
 |n+1,nest,body,r=>Rd.WJ m n nest body [] r
def Rd.WJ (m:Nat):Nat→Int→Bool→List Sm→Rd→Option ((List Sm×List aG)×Rd)
 | 0,_,_,_,_=>none
 | n+1,nest,body,out,r=>
  if r.good then(Rd.labels m [] r).bind fun l=>(l.2.is [125]).bind fun b=>
   if b && (body ||(l.1.length:Int)==0)then some ((out,l.1),{l.2 with i:=l.2.i+1})
   else(Rd.stmt m n nest l.2).bind fun s=>(push 209 out {s.1 with labels:=l.1}).bind fun out=>Rd.WJ m n nest body out s.2
  else some (([],[]),r)
def Rd.stmt (m:Nat):Nat→Int→Rd→Option (Sm×Rd)
 | 0,_,_=>none
 | n+1,nest,r=>r.ab5.bind fun b=>
  if !b then(r.bad 3).bind fun r=>some (Je,r)
  else(inc r.n).bind fun k=>
   if decide ((k:Int) > 200) ||decide (nest > 12)then(({r with n:=k} : Rd).bad 4).bind fun r=>some (Je,r)
   else({r with n:=k} : Rd).vu.bind fun t=>
    if t.kind==1 then Rd.named m {r with n:=k}
    else if t.text == [105,102]then Rd.choice m n nest {r with n:=k,i:=r.i+1}
    else if t.text == [119,104,105,108,101]then(Rd.head m {r with n:=k,i:=r.i+1}).bind fun x=>(Rd.block m n nest x.2).bind fun b=>some (⟨0,6,[],[],[],x.1,false,[],b.1,[]⟩,b.2)
    else(Rd.plain m t.text {r with n:=k,i:=r.i+1}).bind fun s=>(s.2.want [59]).bind fun r=>some (s.1,r)
def Rd.block (m:Nat):Nat→Int→Rd→Option (List Sm×Rd)
 | 0,_,_=>none
 |n+1,nest,r=>(r.want [123]).bind fun r=>(aju nest).bind fun k=>(Rd.rows m n k false r).bind fun p=>some (p.1.1,p.2)
def Rd.choice (m:Nat):Nat→Int→Rd→Option (Sm×Rd)
 | 0,_,_=>none
 |n+1,nest,r=>(Rd.head m r).bind fun x=>(Rd.block m n nest x.2).bind fun t=>(t.2.take [101,108,115,101]).bind fun q=>
  if q.1 then(Rd.block m n nest q.2).bind fun e=>some (⟨0,5,[],[],[],x.1,false,[],t.1,e.1⟩,e.2)
  else some (⟨0,5,[],[],[],x.1,false,[],t.1,[]⟩,q.2)
end
def Rd.params:Nat→List Pm→Rd→Option (List Pm×Rd)
 | 0,_,_=>none
 | n+1,l,r=>
  if r.good then(r.take [114,101,102]).bind fun q=>(q.2.name (decide ((l.length:Int)<8))).bind fun x=>(push 25 l ⟨x.1,q.1⟩).bind fun l=>(x.2.take [44]).bind fun c=>
   if !c.1 then some (l,c.2)else Rd.params n l c.2
  else some (l,r)
def Rd.vars (m:Nat):Nat→List aG→Rd→Option (List aG×Rd)
 | 0,_,_=>none
 |n+1,l,r=>(r.take [118,97,114]).bind fun q=>if q.1 then(Rd.names m l 16 q.2).bind fun x=>Rd.vars m n x.1 x.2 else some (l,q.2)
def Rd.WK (m:Nat) (name:aG) (ps:List Pm) (r:Rd):Option (Pc×Rd):=
 (Rd.vars m m [] r).bind fun v=>(Rd.rows m m 1 true v.2).bind fun b=>some (⟨name,ps,v.1,b.1.1,b.1.2⟩,b.2)
def Rd.proc (m:Nat) (r:Rd):Option (Pc×Rd):=
 (r.name true).bind fun x=>(x.2.want [40]).bind fun r=>(r.other [41]).bind fun b=>
  if b then(Rd.params m [] r).bind fun q=>(q.2.want [41]).bind fun r=>(r.want [123]).bind fun r=>Rd.WK m x.1 q.1 r
  else(r.want [41]).bind fun r=>(r.want [123]).bind fun r=>Rd.WK m x.1 [] r
def Rd.globals (m:Nat):Nat→List aG→Rd→Option (List aG×Rd)
 | 0,_,_=>none
 |n+1,l,r=>(r.take [103,108,111,98,97,108]).bind fun q=>if q.1 then(Rd.names m l 16 q.2).bind fun x=>Rd.globals m n x.1 x.2 else some (l,q.2)
def Rd.ab6 (r:Rd):Option Bool:=if r.good then r.is [112,114,111,99]else some false
def Rd.Ro (r:Rd):Option Bool:=if r.good then r.vu.bind fun t=>some (t.kind != 0)else some false
def Rd.procs (m:Nat):Nat→List Pc→Rd→Option (List Pc×Rd)
 | 0,_,_=>none
 | n+1,l,r=>r.ab6.bind fun b=>
  if b then
   if(l.length:Int)==16 then(r.bad 4).bind fun r=>some (l,r)
   else(Rd.proc m {r with i:=r.i+1}).bind fun x=>(push 113 l x.1).bind fun l=>Rd.procs m n l x.2
  else r.Ro.bind fun b=>if b then(r.bad 3).bind fun r=>some (l,r)else some (l,r)
def Rd.program (m:Nat) (r:Rd):Option (Pg×Rd):=(Rd.globals m m [] r).bind fun g=>(Rd.procs m m [] g.2).bind fun q=>some (⟨g.1,q.1⟩,q.2)
mutual
def Ex.beq:Ex→Ex→Bool
 |⟨op,n,name,kids⟩,⟨op',n',ON,WL⟩=>if op != op' ||n != n' || !(name==ON) ||(kids.length:Int) != (WL.length:Int)then false else Ex.pN kids WL
def Ex.pN:List Ex→List Ex→Bool
 | [],_=>true
 |_::_,[]=>true
 |x::l,y::l'=>if !Ex.beq x y then false else Ex.pN l l'
end
def Ar.aY:List Ar→Nat
 | []=>0
 |a::l=>1+a.x.size+Ar.aY l
mutual
def Sm.size:Sm→Nat
 |⟨_,_,labels,_,_,x,_,args,aZ,aR⟩=>1+labels.length+x.size+Ar.aY args+Sm.aY aZ+Sm.aY aR
def Sm.aY:List Sm→Nat
 | []=>0
 |s::l=>1+s.size+Sm.aY l
end
def Pc.size (f:Pc):Nat:=1+f.params.length+f.vars.length+f.fin.length+Sm.aY f.body
def Pc.aY:List Pc→Nat
 | []=>0
 |f::l=>1+f.size+Pc.aY l
def Pg.size (p:Pg):Nat:=1+p.globals.length+Pc.aY p.procs
mutual
def Sm.num (b:Bool) (n:Nat):Sm→Sm×Nat
 |⟨id,kind,labels,name,proc,x,has,args,aZ,aR⟩=>
  (⟨if b then((n+1:Nat):Int)else id,kind,labels,name,proc,x,has,args,(Sm.tU b (n+1) aZ).1,(Sm.tU b (Sm.tU b (n+1) aZ).2 aR).1⟩,(Sm.tU b (Sm.tU b (n+1) aZ).2 aR).2)
def Sm.tU (b:Bool) (n:Nat):List Sm→List Sm×Nat
 | []=>([],n)
 |s::l=>((Sm.num b n s).1::(Sm.tU b (Sm.num b n s).2 l).1,(Sm.tU b (Sm.num b n s).2 l).2)
end
def Pc.tU (n:Nat):List Pc→List Pc
 | []=> []
 |f::l=> {f with body:=(Sm.tU true n f.body).1}::Pc.tU (Sm.tU true n f.body).2 l
def Pg.number (p:Pg):Pg:= {p with procs:=Pc.tU 0 p.procs}
def Pg.Y5 (p:Pg):Option Pg:=if p.size<1073741824 then some p.number else none
theorem Sm.eB : ∀ (l:List Sm),l.length≤Sm.aY l
 | []=>Nat.le_refl _
 |x::l=>by simp only[Sm.aY,List.length_cons];have:=Sm.eB l;omega
theorem Ar.eB : ∀ (l:List Ar),l.length≤Ar.aY l
 | []=>Nat.le_refl _
 |x::l=>by simp only[Ar.aY,List.length_cons];have:=Ar.eB l;omega
theorem Pc.eB : ∀ (l:List Pc),l.length≤Pc.aY l
 | []=>Nat.le_refl _
 |x::l=>by simp only[Pc.aY,List.length_cons];have:=Pc.eB l;omega
theorem Ar.dc {x:Ar} : ∀ {l:List Ar},x∈l→x.x.size<Ar.aY l
 |y::l,h=>by
  simp only[Ar.aY]
  rcases List.mem_cons.1 h with rfl|h
  ·omega
  ·have:=Ar.dc h;omega
theorem Sm.dc {x:Sm} : ∀ {l:List Sm},x∈l→x.size<Sm.aY l
 |y::l,h=>by
  simp only[Sm.aY]
  rcases List.mem_cons.1 h with rfl|h
  ·omega
  ·have:=Sm.dc h;omega
theorem Pc.dc {x:Pc} : ∀ {l:List Pc},x∈l→x.size<Pc.aY l
 |y::l,h=>by
  simp only[Pc.aY]
  rcases List.mem_cons.1 h with rfl|h
  ·omega
  ·have:=Pc.dc h;omega
mutual
def Sm.jw:Sm→Nat
 |⟨_,_,_,_,_,_,_,_,aZ,aR⟩=>1+Sm.jc aZ+Sm.jc aR
def Sm.jc:List Sm→Nat
 | []=>0
 |s::l=>s.jw+Sm.jc l
end
structure Im where
 s:Sm
 proc:Int
 up:Int
 next:Int
 loop:Int
mutual
def Im.one (proc up next loop:Int) (out:List Im):Sm→List Im
 | ⟨id,kind,labels,name,pc,x,has,args,aZ,aR⟩=>
  Im.rows proc ((out.length:Int)+1) (if kind==6 then(out.length:Int)+1 else next) (if kind==6 then(out.length:Int)+1 else loop)
   (Im.rows proc ((out.length:Int)+1) (if kind==6 then(out.length:Int)+1 else next) (if kind==6 then(out.length:Int)+1 else loop) (out++ [⟨⟨id,kind,labels,name,pc,x,has,args,aZ,aR⟩,proc,up,next,loop⟩]) aZ) aR
def Im.rows (proc up next loop:Int) (out:List Im):List Sm→List Im
 | []=>out
 |s::l=>Im.rows proc up next loop (Im.one proc up (if l.length=0 then next else(out.length:Int)+1+(s.jw:Int)) loop out s) l
end
theorem Im.ab7 (proc up next loop:Int) (out:List Im) (s:Sm):Im.one proc up next loop out s =
 Im.rows proc ((out.length:Int)+1) (if s.kind==6 then(out.length:Int)+1 else next) (if s.kind==6 then(out.length:Int)+1 else loop)
  (Im.rows proc ((out.length:Int)+1) (if s.kind==6 then(out.length:Int)+1 else next) (if s.kind==6 then(out.length:Int)+1 else loop) (out++ [⟨s,proc,up,next,loop⟩]) s.aZ) s.aR:=by
 cases s;simp only[Im.one]
mutual
theorem Y6 (proc up next loop:Int) (out:List Im) : ∀ s:Sm,(Im.one proc up next loop out s).length=out.length+s.jw
 |⟨id,kind,labels,name,pc,x,has,args,aZ,aR⟩=>by
  simp only[Im.one,Sm.jw]
  rw[gB,gB]
  simp only[List.length_append,List.length_cons,List.length_nil];omega
theorem gB (proc up next loop:Int) (out:List Im) : ∀ l:List Sm,(Im.rows proc up next loop out l).length=out.length+Sm.jc l
 | []=>rfl
 |s::l=>by
  simp only[Im.rows,Sm.jc]
  rw[gB,Y6];omega
end
mutual
theorem Dq : ∀ s:Sm,s.jw≤s.size
 |⟨_,_,labels,_,_,x,_,args,aZ,aR⟩=>by
  have:=nH aZ;have:=nH aR
  simp only[Sm.jw,Sm.size];omega
theorem nH : ∀ l:List Sm,Sm.jc l≤Sm.aY l
 | []=>Nat.le_refl _
 |s::l=>by
  have:=Dq s;have:=nH l
  simp only[Sm.jc,Sm.aY];omega
end
structure Sh where
 L:List Im
 lo:List Int
 hi:List Int
def Sh.go (i:Nat) (h:Sh):List Pc→Sh
 | []=>h
 |f::l=>Sh.go (i+1) ⟨Im.rows i 0 (-1) 0 h.L f.body,h.lo++ [(h.L.length:Int)+1],h.hi++ [((Im.rows i 0 (-1) 0 h.L f.body).length:Int)+1]⟩ l
def Pg.aX (p:Pg):Sh:=Sh.go 0 ⟨[],[],[]⟩ p.procs
def Y7:Nat:=3
def WM:Nat:=4
def WN:Nat:=5
def UK:Nat:=6
def WO:Nat:=7
def wA:Nat:=8
def Y8:Nat:=9
def WQ:Nat:=10
def WR:Nat:=11
def UL:Nat:=12
def WS:Nat:=13
def UM:Nat:=14
def xi:Nat:=15
def xj:Nat:=16
def vv:Nat:=17
def aeo:Nat:=18
def Z5:Nat:=19
def sH:Nat:=20
def tV:Nat:=21
def tW:Nat:=22
def Z6:Nat:=23
def WT:Nat:=24
def Z7:Nat:=25
def afK:Nat:=26
def xk:Nat:=27
def py:Nat:=28
def na:Nat:=29
def aep:Nat:=30
def ab8:Nat:=31
def aeq:Nat:=32
def yY:Nat:=33
def Y9:Nat:=34
def WU:Nat:=35
def rk:Nat:=36
def Z8:Nat:=37
def xl:Nat:=38
def xm:Nat:=39
def jE:Nat:=40
def gi:Nat:=41
def kK:Nat:=42
def kR:Nat:=43
def jj:Nat:=44
def iu:Nat:=45
def oX:Nat:=46
def ow:Nat:=47
def qw:Nat:=48
def ox:Nat:=49
def ab9:Nat:=50
def LL:Nat:=51
def OO:Nat:=52
def xn:Nat:=53
def xo:Nat:=54
def p7:Nat:=55
def UN:Nat:=56
def aca:Nat:=57
def UO:Nat:=58
def aer:Nat:=59
def afL:Nat:=60
def Z9:Nat:=61
def yZ:Nat:=62
def WV:Nat:=63
def nc:Nat:=64
def nS:Nat:=65
def kn:Nat:=66
def aac:Nat:=67
def rl:Nat:=68
def lb:Nat:=69
def uO:Nat:=70
def jU:Nat:=71
def jV:Nat:=72
def vw:Nat:=73
def oY:Nat:=74
def gb:Nat:=75
def lI:Nat:=76
def iF:Nat:=77
def jP:Nat:=78
def ep:Nat:=79
def oJ:Nat:=80
def p8:Nat:=81
def kL:Nat:=82
def afM:Nat:=83
def acb:Nat:=84
def sI:Nat:=85
def aad:Nat:=86
def PS:Nat:=87
def LM:Nat:=88
def acd:Nat:=89
def aae:Nat:=90
def OP:Nat:=91
def OQ:Nat:=92
def LN:Nat:=93
def Rp:Nat:=94
def lS:Nat:=95
def qi:Nat:=96
def vx:Nat:=97
def tX:Nat:=98
def xp:Nat:=99
def WW:Nat:=100
def afN:Nat:=101
def WX:Nat:=102
def Za:Nat:=103
def rm:Nat:=104
def Bj:Nat:=105
def za:Nat:=106
def tY:Nat:=107
def mz:Nat:=108
def ky:Nat:=109
def sJ:Nat:=110
def fV:Nat:=111
def wB:Nat:=112
def ng:Nat:=113
def gK:Nat:=114
def cq:Nat:=115
def ace:Nat:=116
def acf:Nat:=117
def acg:Nat:=118
def WY:Nat:=119
def mA:Nat:=120
def PT:Nat:=121
def Zb:Nat:=122
def ach:Nat:=123
def aci:Nat:=124
def afO:Nat:=125
def afP:Nat:=126
def OR:Nat:=127
def oa:Nat:=128
def fW:Nat:=129
def oK:Nat:=130
def qj:Nat:=131
def vy:Nat:=132
def rn:Nat:=133
def p9:Nat:=134
def vz:Nat:=135
def rp:Nat:=136
def sg:Nat:=137
def acj:Nat:=138
def afQ:Nat:=139
def WZ:Nat:=140
def xq:Nat:=141
def oZ:Nat:=142
def rr:Nat:=143
def tZ:Nat:=144
def ld:Nat:=145
def o4:Nat:=146
def afR:Nat:=147
def ack:Nat:=148
def acm:Nat:=149
def acn:Nat:=150
def aaf:Nat:=151
def aes:Nat:=152
def aet:Nat:=153
def aic:Nat:=154
def W0:Nat:=155
def aag:Nat:=156
def aah:Nat:=157
def aco:Nat:=158
def aeu:Nat:=159
def aai:Nat:=160
def acp:Nat:=161
def afS:Nat:=162
def afT:Nat:=163
def W1:Nat:=164
def Zc:Nat:=165
def acq:Nat:=166
def kS:Nat:=167
def ry:Nat:=168
def vA:Nat:=169
def vB:Nat:=170
def ub:Nat:=171
def xr:Nat:=172
def jx:Nat:=173
def jM:Nat:=174
def xu:Nat:=175
def zb:Nat:=176
def rz:Nat:=177
def zc:Nat:=178
def acr:Nat:=179
def aev:Nat:=180
def afU:Nat:=181
def acs:Nat:=182
def Zd:Nat:=183
def afV:Nat:=184
def aew:Nat:=185
def afW:Nat:=186
def aex:Nat:=187
def aey:Nat:=188
def rA:Nat:=189
def gL:Nat:=190
def oM:Nat:=191
def uc:Nat:=192
def Ek:Nat:=193
def W2:Nat:=194
def jy:Nat:=195
def ud:Nat:=196
def sh:Nat:=197
def acu:Nat:=198
def acv:Nat:=199
def aez:Nat:=200
def Ze:Nat:=201
def aeA:Nat:=202
def afX:Nat:=203
def Lc:Nat:=204
def aaj:Nat:=205
def aak:Nat:=206
def iN:Nat:=207
def Bk:Nat:=208
def DQ:Nat:=209
def Bl:Nat:=210
def Cw:Nat:=211
def Cd:Nat:=212
def xJ:Nat:=213
def SW:Nat:=214
def AA:Nat:=215
def Dr:Nat:=216
def SX:Nat:=217
def SY:Nat:=218
def acw:Nat:=219
def aeB:Nat:=220
def aeC:Nat:=221
def aal:Nat:=222
def acx:Nat:=223
def DR:Nat:=224
def Kz:Nat:=225
def Ld:Nat:=226
def AB:Nat:=227
def Fb:Nat:=228
def Rq:Nat:=229
def Fc:Nat:=230
abbrev AI.o (t:Nat) (a:AO):AI:= .op (some t) none a
abbrev AI.g (t c:Nat) (b:Bool) (a:AO):AI:= .op (some t) (some (c,b)) a
abbrev AI.c (t f:Nat) (l:List X):AI:= .call (some t) none f l
abbrev AI.d (t c:Nat) (b:Bool) (f:Nat) (l:List X):AI:= .call (some t) (some (c,b)) f l
abbrev AI.m (t:Nat) (x:X):AI:= .op (some t) none (.mv x)
abbrev bt:X:= .s 0
abbrev bu:X:= .s 1
abbrev dw:X:= .s 2
abbrev cz:X:= .s 3
abbrev ff:X:= .s 4
abbrev ct:X:= .s 5
abbrev dB:X:= .s 6
abbrev cJ:X:= .s 7
abbrev cT:X:= .s 8
abbrev du:X:= .s 9
abbrev bZ:X:= .s 10
abbrev cB:X:= .s 11
abbrev cU:X:= .s 12
abbrev de:X:= .s 13
abbrev cH:X:= .s 14
abbrev dA:X:= .s 15
abbrev di:X:= .s 16
abbrev dD:X:= .s 17
abbrev dC:X:= .s 18
abbrev dV:X:= .s 19
abbrev eA:X:= .s 20
abbrev dW:X:= .s 21
abbrev eD:X:= .s 22
abbrev eH:X:= .s 23
abbrev eQ:X:= .s 24
abbrev eR:X:= .s 25
abbrev fl:X:= .s 26
abbrev fu:X:= .s 27
abbrev fY:X:= .s 28
abbrev gj:X:= .s 29
abbrev gC:X:= .s 30
abbrev gk:X:= .s 31
abbrev gM:X:= .s 32
abbrev gD:X:= .s 33
abbrev iw:X:= .s 34
abbrev gN:X:= .s 35
abbrev ix:X:= .s 36
abbrev jn:X:= .s 37
abbrev jW:X:= .s 38
abbrev jK:X:= .s 39
abbrev ko:X:= .s 40
abbrev jX:X:= .s 41
abbrev kD:X:= .s 42
abbrev kp:X:= .s 43
abbrev kE:X:= .s 44
abbrev lD:X:= .s 45
abbrev lE:X:= .s 46
abbrev lO:X:= .s 47
abbrev kT:X:= .s 48
abbrev kU:X:= .s 49
abbrev lF:X:= .s 50
abbrev kF:X:= .s 51
abbrev kG:X:= .s 52
abbrev kV:X:= .s 53
abbrev lG:X:= .s 54
abbrev lH:X:= .s 55
abbrev nh:X:= .s 56
abbrev oy:X:= .s 57
abbrev nT:X:= .s 58
abbrev lP:X:= .s 59
abbrev o5:X:= .s 60
abbrev qx:X:= .s 61
abbrev pO:X:= .s 62
abbrev qy:X:= .s 63
abbrev qz:X:= .s 64
abbrev uf:X:= .s 65
abbrev ug:X:= .s 66
abbrev vC:X:= .s 67
abbrev rB:X:= .s 68
abbrev xv:X:= .s 69
abbrev xw:X:= .s 70
abbrev Bm:X:= .s 71
abbrev ze:X:= .s 72
abbrev zf:X:= .s 73
abbrev Bn:X:= .s 74
abbrev Bo:X:= .s 75
abbrev zh:X:= .s 76
abbrev Bp:X:= .s 77
abbrev xx:X:= .s 78
abbrev Ds:X:= .s 79
abbrev Dt:X:= .s 80
abbrev Du:X:= .s 81
abbrev Fy:X:= .s 82
abbrev Fz:X:= .s 83
abbrev FA:X:= .s 84
abbrev FB:X:= .s 85
abbrev FC:X:= .s 86
abbrev FD:X:= .s 87
abbrev FE:X:= .s 88
abbrev Bq:X:= .s 89
abbrev Dv:X:= .s 90
abbrev FF:X:= .s 91
abbrev Jm:X:= .s 92
abbrev OS:X:= .s 93
abbrev OT:X:= .s 94
abbrev OU:X:= .s 95
abbrev UP:X:= .s 96
abbrev UQ:X:= .s 97
abbrev UR:X:= .s 98
abbrev US:X:= .s 99
abbrev W3:X:= .s 100
abbrev W4:X:= .s 101
abbrev W5:X:= .s 102
abbrev W6:X:= .s 103
abbrev W7:X:= .s 104
abbrev W8:X:= .s 105
abbrev W9:X:= .s 106
abbrev Xa:X:= .s 107
abbrev Xb:X:= .s 108
abbrev afY:X:= .s 109
abbrev Xc:X:= .s 110
abbrev Xd:X:= .s 111
abbrev OV:X:= .s 112
abbrev Xe:X:= .s 113
abbrev Xf:X:= .s 114
abbrev Xg:X:= .s 115
abbrev Xh:X:= .s 116
abbrev Xi:X:= .s 117
abbrev Xj:X:= .s 118
abbrev Xk:X:= .s 119
abbrev Xl:X:= .s 120
abbrev Xm:X:= .s 121
abbrev Xn:X:= .s 122
abbrev Xo:X:= .s 123
abbrev Xp:X:= .s 124
abbrev Xq:X:= .s 125
abbrev afZ:X:= .s 126
abbrev Xr:X:= .s 127
abbrev El:X:= .s 128
abbrev Xs:X:= .s 129
abbrev Xt:X:= .s 130
abbrev af0:X:= .s 131
abbrev af1:X:= .s 132
abbrev af2:X:= .s 133
abbrev af3:X:= .s 134
abbrev af4:X:= .s 135
abbrev af5:X:= .s 136
abbrev af6:X:= .s 137
abbrev af7:X:= .s 138
abbrev af8:X:= .s 139
abbrev af9:X:= .s 140
abbrev aga:X:= .s 141
abbrev agb:X:= .s 142
abbrev agc:X:= .s 143
abbrev agd:X:= .s 144
abbrev age:X:= .s 145
abbrev agf:X:= .s 146
abbrev agh:X:= .s 147
abbrev agi:X:= .s 148
abbrev agj:X:= .s 149
abbrev agk:X:= .s 150
abbrev agl:X:= .s 151
abbrev agm:X:= .s 152
abbrev agn:X:= .s 153
abbrev ago:X:= .s 154
abbrev agp:X:= .s 155
abbrev agq:X:= .s 156
abbrev agr:X:= .s 157
abbrev ags:X:= .s 158
abbrev agt:X:= .s 159
abbrev agu:X:= .s 160
abbrev agv:X:= .s 161
abbrev agw:X:= .s 162
abbrev agx:X:= .s 163
abbrev agy:X:= .s 164
abbrev agz:X:= .s 165
abbrev agA:X:= .s 166
abbrev agB:X:= .s 167
abbrev agC:X:= .s 168
abbrev agD:X:= .s 169
abbrev agE:X:= .s 170
abbrev agF:X:= .s 171
abbrev agG:X:= .s 172
abbrev agH:X:= .s 173
abbrev agI:X:= .s 174
abbrev agJ:X:= .s 175
abbrev Q04:AC:= .cond cH (.seq (.run [.o 6 (.mv (.k (.bool false)))]) .ret) .skip
abbrev Q09:AC:= .cond dD (.seq (.run [.o 6 (.mv (.k (.bool true)))]) .ret) .skip
abbrev Q0E:AC:= .cond eD (.seq (.run [.o 6 (.mv (.k (.bool true)))]) .ret) .skip
abbrev Q0L:AC:= .seq (.run [.o 29 (.aq cJ 0), .o 30 (.load gj false 1), .o 31 (.bin .neq gC (.k (.int .i64 1))), .m 32 gk, .g 33 32 true (.aq cJ 0), .g 34 32 true (.load gD false 1), .g 35 32 true (.bin .neq iw (.k (.int .i64 2))), .o 36 (.pick gM gN (.k (.bool false)))]) (.cond ix (.run [.m 37 cT, .o 38 (.bin .sub jn (.k (.int .i64 1))), .m 8 jW]) .skip)
abbrev Q0M:AC:= .run [.o 39 (.aq cJ 0), .o 40 (.load jK false 1), .o 41 (.bin .lss ko (.k (.int .i64 1))), .m 42 jX, .g 43 42 false (.aq cJ 0), .g 44 42 false (.load kp false 1), .g 45 42 false (.bin .gtr kE (.k (.int .i64 5))), .o 46 (.pick kD (.k (.bool true)) lD), .m 47 lE, .g 48 47 false (.aq cJ 1), .g 49 47 false (.load kT false 1), .g 50 47 false (.bin .lss kU (.k (.int .i64 0))), .o 51 (.pick lO (.k (.bool true)) lF), .m 52 kF, .g 53 52 false (.aq cJ 1), .g 54 52 false (.load kV false 1), .g 55 52 false (.mv dw), .g 56 52 false (.bin .gtr lG lH), .o 57 (.pick kG (.k (.bool true)) nh), .m 58 oy, .g 59 58 false (.aq cJ 4), .g 60 58 false (.load lP false 1), .g 61 58 false (.len o5), .g 62 58 false (.mv cT), .g 63 58 false (.bin .neq qx pO), .o 64 (.pick nT (.k (.bool true)) qy)]
abbrev Q0P:AC:= .cond qz (.seq (.run [.o 6 (.mv (.k (.bool false)))]) .ret) .skip
abbrev Q10:AC:= .seq (.run [.o 76 (.aq cB 1), .o 77 (.load zh false 1), .o 78 (.bin .eql Bp (.k (.int .i64 4))), .m 79 xx, .g 80 79 false (.aq cB 1), .g 81 79 false (.load Dt false 1), .g 82 79 false (.bin .geq Du (.k (.int .i64 7))), .g 83 79 false (.mv Fy), .g 84 83 true (.aq cB 9), .g 85 83 true (.load FA false 1), .g 86 83 true (.un .not FB), .g 87 79 false (.pick Fz FC (.k (.bool false))), .o 88 (.pick Ds (.k (.bool true)) FD)]) (.cond FE (.run [.o 12 (.mv (.k (.int .i64 0)))]) .skip)
abbrev Q14:AC:= .cond UR (.seq (.run [.o 6 (.mv (.k (.bool false)))]) .ret) .skip
abbrev Q16:AC:= .seq Q10 (.seq (.run [.o 89 (.aq cB 0), .o 90 (.load Bq false 1), .o 91 (.bin .eql Dv (.k (.int .i64 0))), .m 92 FF, .g 93 92 false (.aq bZ 1), .g 94 92 false (.load OS false 1), .g 95 92 false (.len OT), .g 96 92 false (.mv cU), .g 97 92 false (.bin .neq OU UP), .o 98 (.pick Jm (.k (.bool true)) UQ)]) Q14)
abbrev Q18:AC:= .seq (.run [.o 72 (.load cz true 2), .o 73 (.aq bZ 0), .o 74 (.load zf false 1), .c 75 xk [ze,Bn], .o 11 (.alloc [(.int .i64 0),(.int .i64 0),(.slice .full 0 []),(.str []),(.str []),(.int .i64 0),(.int .i64 0),(.str []),(.slice .full 0 []),(.bool false),(.slice .full 0 []),(.slice .full 0 []),(.slice .full 0 [])]), .op none none (.store cB Bo 13)]) (.seq (.run [.o 12 (.mv (.k (.int .i64 1)))]) Q16)
abbrev Q1C:AC:= .seq (.block 1 (.seq (.run [.o 70 (.cf ug rB 2), .o 71 (.load xw true 2), .o 10 (.alloc [(.int .i64 0),(.slice .full 0 [])]), .op none none (.store bZ Bm 2)]) Q18)) (.run [.o 99 (.bin .add rB (.k (.int .i64 1))), .m 68 US])
abbrev Q1G:AC:= .block 0 (.loop (.seq (.run [.o 69 (.bin .lss rB vC)]) (.seq (.cond xv .skip (.exit 0)) Q1C)))
abbrev Q1K:AC:= .seq (.seq (.run [.o 65 (.aq cJ 4), .o 66 (.load uf false 1), .o 67 (.len ug), .o 68 (.mv (.k (.int .i64 0)))]) Q1G) (.seq (.run [.o 6 (.mv (.k (.bool true)))]) .ret)
abbrev Q1P:AC:= .seq (.seq (.run [.o 18 (.load cz true 2), .m 19 bu, .m 20 dw, .c 21 tV [dC,dV,eA], .o 22 (.un .not dW)]) Q0E) (.seq (.run [.o 23 (.load cz true 2), .m 24 bu, .m 25 dw, .c 26 tW [eH,eQ,eR], .o 7 (.alloc [(.int .i64 0),(.int .i64 0),(.int .i64 0),(.slice .full 0 []),(.slice .full 0 [])]), .op none none (.store cJ fl 5)]) (.seq (.run [.o 27 (.aq cJ 1), .o 28 (.load fu false 1), .m 8 fY]) (.seq Q0L (.seq (.seq Q0M Q0P) Q1K))))
abbrev Q1S:AC:= .seq (.run [.o 3 (.box bt), .o 6 (.mv (.k (.bool false)))]) (.seq (.seq (.run [.c 13 xi [], .o 14 (.un .not de)]) Q04) (.seq (.seq (.run [.o 15 (.load cz true 2), .c 16 xj [dA], .o 17 (.un .not di)]) Q09) Q1P))
abbrev Q1V:AC:= .run [.m 9 dw, .o 10 (.bin .eql du (.k (.int .i64 0))), .m 11 bZ, .g 12 11 true (.aq bu 0), .g 13 11 true (.load cU false 1), .g 14 11 true (.bin .eql de (.k (.int .i64 1))), .o 15 (.pick cB cH (.k (.bool false))), .m 16 dA, .g 17 16 true (.aq bu 1), .g 18 16 true (.load dD false 1), .g 19 16 true (.bin .eql dC (.k (.int .i64 7))), .o 20 (.pick di dV (.k (.bool false))), .m 21 eA, .g 22 21 true (.aq bu 3), .g 23 21 true (.load eD false 1),(.g 24 21 true (.dt [(.int .i64 0)] 1 2 [(0,(.k (.int .i64 5))),(1,(.k (.int .i64 5)))])), .d 25 21 true py [eH,eQ], .o 26 (.pick dW eR (.k (.bool false))), .m 27 fl, .g 28 27 true (.aq bu 4), .g 29 27 true (.load fY false 1), .g 30 27 true (.len gj), .g 31 27 true (.bin .eql gC (.k (.int .i64 2))), .o 32 (.pick fu gk (.k (.bool false))), .m 33 gM, .g 34 33 true (.aq bu 4), .g 35 33 true (.load iw false 1), .g 36 33 true (.cf gN (.k (.int .i64 0)) 2), .g 37 33 true (.aq ix 0), .g 38 33 true (.load jn false 1), .g 39 33 true (.bin .eql jW (.k (.int .i64 2))), .o 40 (.pick gD jK (.k (.bool false))), .m 41 ko, .g 42 41 true (.aq bu 4), .g 43 41 true (.load kD false 1), .g 44 41 true (.cf kp (.k (.int .i64 1)) 2), .g 45 41 true (.aq kE 1), .g 46 41 true (.load lD false 1),(.g 47 41 true (.dt [(.int .i64 0)] 1 1 [(0,(.k (.int .i64 5)))])), .d 48 41 true py [lE,lO], .o 49 (.pick jX kT (.k (.bool false))), .m 50 kU, .g 51 50 true (.load bu true 5), .d 52 50 true xl [kF], .g 53 50 true (.qP .real kG kG),(.g 54 50 true (.qP .eq kV (.k (.val (.float .f64 4619567317775286272))))), .o 55 (.pick lF lG (.k (.bool false))), .m 0 lH]
abbrev Q1X:AC:= .seq (.run [.c 4 xm [],(.o 5 (.dt [(.int .i64 0)] 1 2 [(0,(.k (.int .i64 5))),(1,(.k (.int .i64 2)))])),(.c 6 vv [ff,(.k (.slice .full 0 [])),(.k (.int .i64 50)),ct]), .m 3 dB, .o 7 (.ext cz 0), .o 8 (.ext cz 1), .o 1 (.alloc [(.int .i64 0),(.int .i64 0),(.int .i64 0),(.slice .full 0 []),(.slice .full 0 [])]), .op none none (.store bu cJ 5), .m 2 cT]) (.seq Q1V .ret)
abbrev Q1Y:AC:= .seq (.run [.o 0 (.mv (.k (.bool false)))]) Q1X
abbrev Q26:AC:= .par [.o 26 (.aq ct 4), .o 27 (.load fl false 1), .o 28 (.aq ct 2), .o 29 (.load fY false 1), .o 30 (.aq ct 0), .o 31 (.load gC false 1), .m 32 cz, .c 33 gi [gk,gM], .c 34 jE [gj,gD], .c 35 jE [fu,iw], .m 3 gN] [(4,0),(5,0),(6,0),(7,0),(2,0),(3,1),(8,0),(0,0),(1,2),(9,0),(10,0)]
abbrev Q2F:AC:= .seq (.seq (.run [.m 36 dB, .o 37 (.aq ct 1), .o 38 (.load jn false 1), .o 39 (.len jW), .o 40 (.bin .lss ix jK), .m 41 ko, .g 42 41 true (.mv cz), .g 43 41 true (.bin .leq kD (.k (.int .i64 20000))), .o 44 (.pick jX kp (.k (.bool false)))]) (.cond kE .skip (.exit 2))) (.seq (.block 3 (.run [.o 47 (.aq ct 1), .o 48 (.load lO false 1), .m 49 dB, .o 50 (.cf kT kU 2), .o 51 (.aq lF 0), .o 52 (.load kF false 1), .m 53 cz, .c 54 gi [kG,kV], .m 3 lG])) (.run [.m 45 dB, .o 46 (.bin .add lD (.k (.int .i64 1))), .m 6 lE]))
abbrev Q2K:AC:= .seq (.seq (.run [.o 6 (.mv (.k (.int .i64 0)))]) (.block 2 (.loop Q2F))) (.run [.o 55 (.aq ct 3), .o 56 (.load lH false 1), .m 57 cz, .c 58 kK [nh,oy], .m 3 nT])
abbrev Q2P:AC:= .seq (.block 1 (.seq (.run [.o 21 (.aq bu 1), .o 22 (.load dW false 1), .m 23 ff, .o 24 (.cf eD eH 5), .o 25 (.load eQ true 5), .o 5 (.alloc [(.str []),(.slice .full 0 []),(.slice .full 0 []),(.slice .full 0 []),(.slice .full 0 [])]), .op none none (.store ct eR 5)]) (.seq Q26 Q2K))) (.run [.m 19 ff, .o 20 (.bin .add dV (.k (.int .i64 1))), .m 4 eA])
abbrev Q2Q:AC:= .seq (.seq (.run [.m 10 ff, .o 11 (.aq bu 1), .o 12 (.load cB false 1), .o 13 (.len cU), .o 14 (.bin .lss bZ de), .m 15 cH, .g 16 15 true (.mv cz), .g 17 15 true (.bin .leq di (.k (.int .i64 20000))), .o 18 (.pick dA dD (.k (.bool false)))]) (.cond dC .skip (.exit 0))) Q2P
abbrev Q2W:AC:= .seq (.seq (.run [.o 4 (.mv (.k (.int .i64 0)))]) (.block 0 (.loop Q2Q))) (.seq (.run [.m 59 cz, .o 60 (.bin .leq lP (.k (.int .i64 20000))), .m 2 o5]) .ret)
abbrev Q2Y:AC:= .seq (.run [.o 1 (.box bt), .o 2 (.mv (.k (.bool false)))]) (.seq (.run [.o 7 (.aq bu 0), .o 8 (.load cJ false 1), .c 9 jE [cT,(.k (.int .i64 0))], .m 3 du]) Q2W)
abbrev Q33:AC:= .cond eQ (.seq (.run [.o 25 (.build [(.int .i64 0),(.int .i64 0),(.int .i64 0),(.slice .full 0 []),(.slice .full 0 [])] []), .op none none (.store cT eR 5), .o 9 (.mv (.k (.int .i64 1)))]) .ret) .skip
abbrev Q3D:AC:= .seq (.cond ix .skip (.exit 0)) (.seq (.block 1 (.run [.m 37 bZ, .m 38 bZ, .o 39 (.bR jW), .o 40 (.aq jK 1), .o 41 (.load ko false 1), .o 42 (.alloc [(.int .i64 0)]), .o 43 (.dt [.dR] 1 1 [(0,kD)]), .o 44 (.app 1 8 jX kp), .o 45 (.bR jn), .o 46 (.aq lD 1), .op none none (.store lE kE 1)])) (.run [.o 47 (.bin .add gN (.k (.int .i64 1))), .m 35 lO]))
abbrev Q3E:AC:= .seq (.run [.o 36 (.bin .lss gN iw)]) Q3D
abbrev Q3O:AC:= .cond nh (.seq (.run [.o 12 (.mv (.k (.int .i64 0)))]) (.goto 0)) .skip
abbrev Q3P:AC:= .seq (.run [.m 55 de,(.o 56 (.bin .eql lH (.k (.int .i64 (-1)))))]) Q3O
abbrev Q3T:AC:= .cond qy (.seq (.run [.m 64 bZ, .o 65 (.bR qz), .o 66 (.aq uf 6), .o 67 (.aq ug 0), .op none none (.store vC (.k (.int .i64 2)) 1)]) (.goto 2)) .skip
abbrev Q45:AC:= .seq (.run [.m 102 bZ, .o 103 (.aq cB 0), .o 104 (.load W6 true 13), .c 105 ow [W5,W7], .m 12 W8]) (.seq (.run [.m 106 bZ, .o 107 (.bR W9), .o 108 (.aq Xa 6), .o 109 (.aq Xb 0), .o 110 (.load afY false 1), .o 111 (.bin .eql Xc (.k (.int .i64 0)))]) (.cond Xd (.goto 0) .skip))
abbrev Q49:AC:= .cond OT (.run [.m 96 bZ, .o 97 (.aq cB 0), .o 98 (.load UQ true 13), .c 99 oX [UP,UR], .m 13 US]) (.seq (.run [.o 101 (.bin .eql Dv (.k (.int .i64 9))), .m 100 W4]) (.cond W3 Q45 (.run [.m 91 bZ, .o 92 (.load cB true 17), .c 93 qw [FF,Jm], .m 13 OS])))
abbrev Q4B:AC:= .block 2 (.seq (.run [.o 95 (.bin .eql Dv (.k (.int .i64 4))), .m 94 OU]) Q49)
abbrev Q4L:AC:= .seq (.run [.m 127 bZ, .o 128 (.bR Xr), .o 129 (.aq El 6), .o 130 (.load Xs true 5), .op none none (.store cT Xt 5), .o 9 (.mv (.k (.int .i64 0)))]) .ret
abbrev Q4N:AC:= .seq (.seq (.run [.m 121 bZ, .o 122 (.bR Xm), .o 123 (.aq Xn 6), .o 124 (.aq Xo 0), .o 125 (.load Xp false 1), .o 126 (.bin .eql Xq (.k (.int .i64 0)))]) (.cond afZ (.goto 1) .skip)) (.seq (.label 2) Q4L)
abbrev Q4O:AC:= .seq (.run [.m 118 bZ, .m 119 cU, .c 120 ox [Xj,Xk], .m 13 Xl]) Q4N
abbrev Q4R:AC:= .seq (.seq (.run [.m 112 bZ, .o 113 (.bR OV), .o 114 (.aq Xe 6), .o 115 (.aq Xf 0), .o 116 (.load Xg false 1), .o 117 (.bin .eql Xh (.k (.int .i64 0)))]) (.cond Xi (.goto 1) .skip)) (.seq (.goto 2) (.seq (.label 0) Q4O))
abbrev Q4U:AC:= .seq (.run [.m 68 bZ, .o 69 (.bR rB), .o 70 (.aq xv 6), .o 71 (.aq xw 1), .o 72 (.load Bm false 1), .o 73 (.bin .add ze (.k (.int .i64 1))), .o 74 (.bR rB), .o 75 (.aq Bn 6), .o 76 (.aq Bo 1), .op none none (.store zh zf 1)]) (.seq (.run [.m 77 bZ, .o 78 (.bR Bp), .o 79 (.aq xx 0), .o 80 (.load Ds false 1), .o 81 (.bR Dt), .o 82 (.aq Du 2), .o 83 (.load Fy false 1), .m 84 de, .o 85 (.bin .sub FA (.k (.int .i64 1))), .o 86 (.cf Fz FB 17), .o 87 (.load FC true 17), .op none none (.store cB FD 17)]) (.seq (.seq (.run [.o 88 (.aq cB 0), .o 89 (.aq FE 1), .o 90 (.load Bq false 1)]) Q4B) Q4R))
abbrev Q4W:AC:= .seq Q3P (.seq (.seq (.run [.m 57 bZ, .o 58 (.bR oy), .o 59 (.aq nT 6), .o 60 (.aq lP 1), .o 61 (.load o5 false 1), .m 62 dw, .o 63 (.bin .eql qx pO)]) Q3T) Q4U)
abbrev Q4Z:AC:= .seq (.run [.o 12 (.mv (.k (.int .i64 0)))]) (.seq (.run [.m 48 bZ, .m 49 bZ, .o 50 (.bR kU), .o 51 (.aq lF 0), .o 52 (.load kF false 1),(.c 53 iu [kG,(.k (.str [109,97,105,110]))]),(.c 54 jj [kT,kV,(.k (.slice .full 0 [])),(.k (.int .i64 0))]), .m 13 lG]) (.seq (.label 1) Q4W))
abbrev Q50:AC:= .seq (.run [.o 11 (.alloc [(.int .i64 0),(.int .i64 0),(.slice .full 0 []),(.str []),(.str []),(.int .i64 0),(.int .i64 0),(.str []),(.slice .full 0 []),(.bool false),(.slice .full 0 []),(.slice .full 0 []),(.slice .full 0 []),(.int .i64 0),(.int .i64 0),(.int .i64 0),(.int .i64 0)])]) Q4Z
abbrev Q51:AC:= .seq (.seq (.run [.o 32 (.aq ff 0), .o 33 (.load gM false 1), .o 34 (.len gD), .o 35 (.mv (.k (.int .i64 0)))]) (.block 0 (.loop Q3E))) Q50
abbrev Q53:AC:= .seq (.seq (.run [.m 14 dw, .o 15 (.bin .lss cH (.k (.int .i64 0))), .m 16 dA, .g 17 16 false (.mv dw), .g 18 16 false (.bin .gtr dD (.k (.int .i64 1000000))), .o 19 (.pick di (.k (.bool true)) dC), .m 20 dV, .g 21 20 false (.load ff true 2), .d 22 20 false sH [dW], .g 23 20 false (.un .not eD), .o 24 (.pick eA (.k (.bool true)) eH)]) Q33) (.seq (.run [.o 26 (.load ff true 2), .c 27 kR [fl], .m 28 bu, .m 29 cz, .o 30 (.build [.dR,(.slice .full 0 []),(.slice .full 0 []),(.slice .full 0 []),(.slice .full 0 []),(.slice .full 0 []),(.int .i64 0),(.int .i64 0),(.int .i64 0),(.slice .full 0 []),(.slice .full 0 [])] [(0,(1,fu)),(2,(1,fY)),(3,(1,gj))]), .o 31 (.box gC), .m 10 gk]) Q51)
abbrev Q54:AC:= .scope Q53
abbrev Q55:AC:= .seq (.run [.o 4 (.box bt), .o 8 (.alloc [(.int .i64 0),(.int .i64 0),(.int .i64 0),(.slice .full 0 []),(.slice .full 0 [])]), .o 9 (.mv (.k (.int .i64 0)))]) Q54
abbrev Q59:AC:= .seq (.run [.o 1 (.box bt), .o 2 (.mv (.k (.bool false)))]) (.seq (.run [.o 3 (.load bu true 2), .c 4 xn [cz], .o 5 (.CH ff 0 false 1), .o 6 (.bin .eql ct (.k (.int .i64 0))), .m 2 dB]) .ret)
abbrev Q5D:AC:= .seq (.run [.o 3 (.box bt), .o 6 (.mv (.k (.bool false)))]) (.seq (.run [.o 7 (.load cz true 2), .c 8 sH [cJ], .m 9 cT, .g 10 9 true (.mv dw), .g 11 9 true (.bin .geq bZ (.k (.int .i64 0))), .o 12 (.pick du cB (.k (.bool false))), .m 13 cU, .g 14 13 true (.mv dw), .g 15 13 true (.bin .leq cH (.k (.int .i64 400))), .o 16 (.pick de dA (.k (.bool false))), .m 17 di, .g 18 17 true (.mv bu), .g 19 17 true (.len dC), .g 20 17 true (.bin .leq dV (.k (.int .i64 100))), .o 21 (.pick dD eA (.k (.bool false))), .m 6 dW]) .ret)
abbrev Q5F:AC:= .par [.o 10 (.load cz true 2), .m 11 bu, .m 12 dw, .o 13 (.load cz true 2), .c 14 yY [de,(.k (.int .i64 0))], .c 15 vv [bZ,cB,cU,cH], .m 9 dA, .o 16 (.ext du 0), .o 17 (.ext du 1), .o 7 (.alloc [(.int .i64 0),(.int .i64 0),(.int .i64 0),(.slice .full 0 []),(.slice .full 0 [])]), .op none none (.store cJ di 5), .m 8 dD] [(3,0),(4,0),(0,1),(1,0),(2,0),(5,0),(9,0),(6,0),(7,0),(10,0),(8,0),(11,0)]
abbrev Q5J:AC:= .seq (.run [.o 3 (.box bt), .o 6 (.alloc [(.int .i64 0),(.int .i64 0),(.int .i64 0),(.slice .full 0 []),(.slice .full 0 [])])]) (.seq Q5F (.seq (.run [.o 18 (.load cJ true 5), .op none none (.store dB dC 5)]) .ret))
abbrev Q5P:AC:= .seq (.run [.o 2 (.box bt), .o 4 (.alloc [(.int .i64 0),(.int .i64 0),(.slice .full 0 []),(.str []),(.str []),(.int .i64 0),(.int .i64 0),(.str []),(.slice .full 0 []),(.bool false),(.slice .full 0 []),(.slice .full 0 []),(.slice .full 0 [])])]) (.seq (.run [.o 9 (.load dw true 2), .m 10 bu, .c 11 xo [du,bZ], .m 8 cB, .o 12 (.ext cT 0), .o 13 (.ext cT 1), .o 14 (.ext cT 2), .o 5 (.alloc [(.int .i64 0),(.int .i64 0),(.slice .full 0 []),(.str []),(.str []),(.int .i64 0),(.int .i64 0),(.str []),(.slice .full 0 []),(.bool false),(.slice .full 0 []),(.slice .full 0 []),(.slice .full 0 []),(.int .i64 0),(.int .i64 0),(.bool false)]), .op none none (.store ct cU 16), .m 6 de, .m 7 cH]) (.seq (.run [.o 15 (.aq ct 0), .o 16 (.load dA true 13), .op none none (.store ff di 13)]) .ret))
abbrev Q5U:AC:= .cond bZ (.seq (.run [.o 4 (.mv (.k (.bool false)))]) .ret) .skip
abbrev Q60:AC:= .par [.m 16 bt, .m 17 ct, .o 18 (.cf di dD 1), .o 19 (.load dC false 1), .m 20 bu, .m 21 ct, .o 22 (.cf eA dW 1), .o 23 (.load eD false 1), .o 24 (.bin .neq dV eH)] [(0,0),(1,0),(2,0),(3,0),(4,0),(5,0),(6,0),(7,0),(8,0)]
abbrev Q63:AC:= .cond eQ (.seq (.run [.o 4 (.mv (.k (.bool false)))]) .ret) .skip
abbrev Q69:AC:= .seq (.cond cH .skip (.exit 0)) (.seq (.block 1 (.seq (.run [.m 15 de, .m 5 dA]) (.seq Q60 Q63))) (.run [.o 25 (.bin .add de (.k (.int .i64 1))), .m 13 eR]))
abbrev Q6D:AC:= .seq (.run [.m 11 bt, .o 12 (.len cB), .o 13 (.mv (.k (.int .i64 0)))]) (.block 0 (.loop (.seq (.run [.o 14 (.bin .lss de cU)]) Q69)))
abbrev Q6G:AC:= .seq Q6D (.seq (.run [.o 4 (.mv (.k (.bool true)))]) .ret)
abbrev Q6I:AC:= .seq (.run [.o 4 (.mv (.k (.bool false)))]) (.seq (.seq (.run [.m 6 bt, .o 7 (.len dB), .m 8 bu, .o 9 (.len cT), .o 10 (.bin .neq cJ du)]) Q5U) Q6G)
abbrev Q6M:AC:= .seq (.run [.o 1 (.box bt), .o 2 (.mv (.k (.bool false)))]) (.seq (.run [.o 3 (.load bu true 4), .c 4 p7 [cz,(.k (.int .i64 20))], .m 2 ff]) .ret)
abbrev Q6X:AC:= .seq (.run [.o 13 (.cf du cB 16), .o 14 (.load de true 16), .o 7 (.alloc [(.int .i64 0),(.int .i64 0),(.slice .full 0 []),(.str []),(.str []),(.int .i64 0),(.int .i64 0),(.str []),(.slice .full 0 []),(.bool false),(.slice .full 0 []),(.slice .full 0 []),(.slice .full 0 []),(.int .i64 0),(.int .i64 0),(.bool false)]), .op none none (.store cJ cH 16)]) (.seq (.run [.m 15 bu, .o 16 (.bin .eql dA (.k (.int .i64 0))), .m 17 di, .g 18 17 false (.aq cJ 0), .g 19 17 false (.aq dC 1), .g 20 17 false (.load dV false 1), .g 21 17 false (.mv bu), .g 22 17 false (.bin .eql eA dW), .o 23 (.pick dD (.k (.bool true)) eD)]) (.cond eH (.run [.m 24 ct, .o 25 (.aq cJ 0), .o 26 (.aq eR 0), .o 27 (.load fl false 1), .o 28 (.dt [(.int .i64 0)] 1 1 [(0,fu)]), .o 29 (.app 1 8 eQ fY), .m 5 gj]) .skip))
abbrev Q71:AC:= .seq (.cond cU .skip (.exit 0)) (.seq (.block 1 Q6X) (.run [.o 30 (.bin .add cB (.k (.int .i64 1))), .m 11 gC]))
abbrev Q75:AC:= .seq (.run [.o 8 (.load dw true 2), .c 9 yZ [cT], .o 10 (.len du), .o 11 (.mv (.k (.int .i64 0)))]) (.block 0 (.loop (.seq (.run [.o 12 (.bin .lss cB bZ)]) Q71)))
abbrev Q7A:AC:= .seq (.run [.o 2 (.box bt), .o 4 (.mv (.k (.slice .full 0 [])))]) (.seq (.run [.o 5 (.mv (.k (.slice .full 0 [])))]) (.seq Q75 (.seq (.run [.m 31 ct, .m 4 gk]) .ret)))
abbrev Q7F:AC:= .cond eH (.seq (.run [.o 2 (.mv (.k (.bool false)))]) .ret) .skip
abbrev Q7M:AC:= .run [.o 33 (.aq ct 1), .o 34 (.load gD false 1), .o 35 (.len iw), .o 36 (.bin .gtr gN (.k (.int .i64 8))), .m 37 ix, .g 38 37 false (.aq ct 2), .g 39 37 false (.load jW false 1), .g 40 37 false (.len jK), .g 41 37 false (.bin .gtr ko (.k (.int .i64 16))), .o 42 (.pick jn (.k (.bool true)) jX), .m 43 kD, .g 44 43 false (.aq ct 0), .g 45 43 false (.load kE false 1), .d 46 43 false nS [lD], .g 47 43 false (.un .not lE), .o 48 (.pick kp (.k (.bool true)) lO), .m 49 kT, .g 50 49 false (.aq ct 2), .g 51 49 false (.load lF false 1), .d 52 49 false nc [kF], .g 53 49 false (.un .not kG), .o 54 (.pick kU (.k (.bool true)) kV), .m 55 lG, .g 56 55 false (.aq ct 4), .g 57 55 false (.load nh false 1), .d 58 55 false nc [oy], .g 59 55 false (.un .not nT), .o 60 (.pick lH (.k (.bool true)) lP)]
abbrev Q7P:AC:= .cond o5 (.seq (.run [.o 2 (.mv (.k (.bool false)))]) .ret) .skip
abbrev Q7Y:AC:= .cond Bm (.seq (.run [.o 2 (.mv (.k (.bool false)))]) .ret) .skip
abbrev Q83:AC:= .seq (.block 3 (.seq (.run [.o 66 (.cf pO qz 2), .o 67 (.load ug true 2), .o 7 (.alloc [(.str []),(.bool false)]), .op none none (.store cJ vC 2)]) (.seq (.run [.o 68 (.aq cJ 0), .o 69 (.load rB false 1), .c 70 nS [xv], .o 71 (.un .not xw)]) Q7Y))) (.run [.o 72 (.bin .add qz (.k (.int .i64 1))), .m 64 ze])
abbrev Q87:AC:= .block 2 (.loop (.seq (.run [.o 65 (.bin .lss qz qy)]) (.seq (.cond uf .skip (.exit 2)) Q83)))
abbrev Q8C:AC:= .cond Bp (.seq (.run [.o 2 (.mv (.k (.bool false)))]) .ret) .skip
abbrev Q8E:AC:= .seq (.seq (.run [.o 61 (.aq ct 1), .o 62 (.load qx false 1), .o 63 (.len pO), .o 64 (.mv (.k (.int .i64 0)))]) Q87) (.seq (.run [.m 73 cz, .o 74 (.aq ct 3), .o 75 (.load Bn false 1), .c 76 kn [zf,Bo,(.k (.int .i64 1))], .o 77 (.un .not zh)]) Q8C)
abbrev Q8J:AC:= .seq (.block 1 (.seq (.run [.o 31 (.cf fu gj 5), .o 32 (.load gk true 5), .o 5 (.alloc [(.str []),(.slice .full 0 []),(.slice .full 0 []),(.slice .full 0 []),(.slice .full 0 [])]), .op none none (.store ct gM 5)]) (.seq (.seq Q7M Q7P) Q8E))) (.run [.o 78 (.bin .add gj (.k (.int .i64 1))), .m 29 xx])
abbrev Q8N:AC:= .block 0 (.loop (.seq (.run [.o 30 (.bin .lss gj fY)]) (.seq (.cond gC .skip (.exit 0)) Q8J)))
abbrev Q8R:AC:= .seq (.seq (.run [.o 26 (.aq bu 1), .o 27 (.load fl false 1), .o 28 (.len fu), .o 29 (.mv (.k (.int .i64 0)))]) Q8N) (.seq (.run [.o 2 (.mv (.k (.bool true)))]) .ret)
abbrev Q8T:AC:= .seq (.seq (.run [.o 8 (.aq bu 0), .o 9 (.load cT false 1), .o 10 (.len du), .o 11 (.bin .gtr bZ (.k (.int .i64 16))), .m 12 cB, .g 13 12 false (.aq bu 1), .g 14 12 false (.load de false 1), .g 15 12 false (.len cH), .g 16 12 false (.bin .gtr dA (.k (.int .i64 16))), .o 17 (.pick cU (.k (.bool true)) di), .m 18 dD, .g 19 18 false (.aq bu 0), .g 20 18 false (.load dV false 1), .d 21 18 false nc [eA], .g 22 18 false (.un .not dW), .o 23 (.pick dC (.k (.bool true)) eD)]) Q7F) (.seq (.run [.o 24 (.build [(.int .i64 0)] []), .o 25 (.box eQ), .m 3 eR]) Q8R)
abbrev Q8U:AC:= .seq (.run [.o 1 (.box bt), .o 2 (.mv (.k (.bool false)))]) Q8T
open Go.Proofs
theorem pP:Has Tryz.prog wA 100 [(6,none)] Q1S:=⟨Tryz.f8,by kernel_rfl,by kernel_rfl⟩
set_option maxRecDepth 20000 in
theorem Hy : Has Tryz.prog xi 56 [(0, none)] Q1Y := ⟨Tryz.f15, by kernel_rfl, by kernel_rfl⟩
theorem Hz:Has Tryz.prog xj 61 [(2,none)] Q2Y:=⟨Tryz.f16,by kernel_rfl,by kernel_rfl⟩
theorem uP:Has Tryz.prog vv 131 [(8,(some (true,5))),(9,none)] Q55:=⟨Tryz.f17,by kernel_rfl,by kernel_rfl⟩
theorem HA:Has Tryz.prog sH 7 [(2,none)] Q59:=⟨Tryz.f20,by kernel_rfl,by kernel_rfl⟩
theorem Em:Has Tryz.prog tV 22 [(6,none)] Q5D:=⟨Tryz.f21,by kernel_rfl,by kernel_rfl⟩
theorem En:Has Tryz.prog tW 19 [(6,(some (true,5)))] Q5J:=⟨Tryz.f22,by kernel_rfl,by kernel_rfl⟩
theorem Ai:Has Tryz.prog xk 17 [(4,(some (true,13)))] Q5P:=⟨Tryz.f27,by kernel_rfl,by kernel_rfl⟩
theorem vD:Has Tryz.prog py 26 [(4,none)] Q6I:=⟨Tryz.f28,by kernel_rfl,by kernel_rfl⟩
theorem Dw:Has Tryz.prog na 5 [(2,none)] Q6M:=⟨Tryz.f29,by kernel_rfl,by kernel_rfl⟩
theorem Jn:Has Tryz.prog yY 32 [(4,none)] Q7A:=⟨Tryz.f33,by kernel_rfl,by kernel_rfl⟩
theorem Jo:Has Tryz.prog rk 79 [(2,none)] Q8U:=⟨Tryz.f36,by kernel_rfl,by kernel_rfl⟩
end Go.Abs
